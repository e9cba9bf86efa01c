/-
  bodies.How.
  footmanlaw13.alive.
-/
import Derived.Deep.CutRange
import Derived.Deep.CutBlock
import Derived.Test.YtonlfplloenfcaaGreatDoorLenTEtc
import Derived.Test.YtonlfplloenfcaaGreatDoorASplit
import Derived.Test.YtonlfplloenfcaaGreatDoorANumberEtc
import Derived.Test.YtonlfplloenfcaaGreatDoorShelfB
import Derived.Test.YtonlfplloenfcaaGreatDoorBadEtc
import Derived.Test.YtonlfplloenfcaaGreatDoorContains
import Derived.Test.YtonlfplloenfcaaGreatDoorBufEtc
import Derived.Lib.SmallJoins
import Derived.Lib.OthersKept
import Derived.Test.YtonlfplloenfcaaGreatDoorFindEtc
import Derived.Test.YtonlfplloenfcaaGreatDoorReflEtc
import Derived.Test.YtonlfplloenfcaaGreatDoorNamesEtc
import Derived.Test.YtonlfplloenfcaaGreatDoorBFieldsEtc
import Derived.Test.YtonlfplloenfcaaGreatDoorResultsEtc
import Derived.BigRegion
import Derived.Test.YtonlfplloenfcaaGreatDoorTellsB
import Derived.RangeFuncBox
import Derived.RangeFuncNested
import Derived.RangeFuncBound
import Derived.RangeFuncCalls
import Derived.RangeFuncLeaves
import Derived.Shelf.Abstract
import Derived.Shelf.RegionOpen
import Derived.WalkKit
import Derived.OwnWalkIn
import Derived.TacticsInMore
import Derived.LoopNIn
import Derived.LoopIn
import Derived.Sort.QuietIn
import Derived.WalkSmall
import Derived.Deep.RegionWith
import Derived.Test.YtonlfplloenfcaaGreatDoorShelf
import Derived.Shelf.Bytes.BufferK
import Derived.Shelf.LaysM
import Derived.Test.YtonlfplloenfcaaGreatDoorProg
import Derived.Test.YtonlfplloenfcaaGreatDoorTwinEtc
import Derived.Lib.AppendStr
import Derived.Test.YtonlfplloenfcaaGreatDoorToken
namespace Go.Proofs.YtonlfplloenfcaaGreatDoor
open Go.RowKit

set_option maxRecDepth 100000 in
set_option maxHeartbeats 2000000 in
theorem how_big (m s1 s2 : ByteArray) (st : Int) (A A2 : Option Addr) (n c n2 c2 : Nat) (fs : List Fd) (w : World) (h : FRead w w.heap.size A n fs) (hn : n ≤ 100000) (hsum : fsum fs ≤ 1048700) (hfs : ∀ f ∈ fs, f.1.size ≤ 1048576 ∧ f.2.size ≤ 1048576) (hst : -9223372036854775808 ≤ st ∧ st ≤ 9223372036854775807) (hm : MaxOk w) (hmg : maxG < w.heap.size) :
    Calls Tryz.prog 42 #[.string m, .agg #[.string s1, .string s2, .int .i64 st, .slice A n c, .slice A2 n2 c2]] w fun e w' => e = .returned (lenV .u8 (howM m st fs)) ∧ Below w.heap.size w w' := by
  have hk0 := Blk.new w 25 #[.string s1, .string s2, .int .i64 st, .slice A n c, .slice A2 n2 c2]
  have hB0 : Below w.heap.size w (w.alloc (.cells #[.string s1, .string s2, .int .i64 st, .slice A n c, .slice A2 n2 c2] 25)) := (Below.refl _ _).alloc (Nat.le_refl _) _
  have H := Lib.hid h
  have HM := Lib.hid hm
  have K0 := Lib.hid hk0
  have B0 := Lib.hid hB0
  have HF1 := Lib.hid (fun (W : World) (hb : Below w.heap.size w W) => find_any A n c fs ⟨#[84, 114, 97, 110, 115, 102, 101, 114, 45, 69, 110, 99, 111, 100, 105, 110, 103]⟩ W ((h.below hb).more hb.size) (by omega) (by decide) (fun f hf => by have := (hfs f hf).1; omega))
  have HF2 := Lib.hid (fun (W : World) (hb : Below w.heap.size w W) => find_any A n c fs ⟨#[67, 111, 110, 116, 101, 110, 116, 45, 76, 101, 110, 103, 116, 104]⟩ W ((h.below hb).more hb.size) (by omega) (by decide) (fun f hf => by have := (hfs f hf).1; omega))
  have hs1 : ∀ x ∈ findB fs teB, x.size ≤ 1048576 := findB_size fun f hf => (hfs f hf).2
  have hs2 := findB_sum clB fs
  have hl1 := findB_len fs teB n
  have hl2 := findB_len fs clB n
  rw [List.take_of_length_le (by rw [h.1]; exact Nat.le_refl _)] at hl1 hl2
  have hl0 : w.heap.size < (w.alloc (.cells #[.string s1, .string s2, .int .i64 st, .slice A n c, .slice A2 n2 c2] 25)).heap.size := by simp
  have HS := Lib.hid (And.intro hs1 (Nat.le_trans hs2 hsum))
  clear h hfs hk0 hB0 hs1 hs2 hm
  go_enter Tryz.func42, Tryz.ntmps42
  go_upto_region 1 with fail
  generalize w.alloc (.cells #[.string s1, .string s2, .int .i64 st, .slice A n c, .slice A2 n2 c2] 25) = W0 at *
  have a2 := K0.out.cell 2
  have a3 := K0.out.cell 3
  simp at a2 a3
  obtain ⟨N, hN⟩ : ∃ N, howNone m st = N := ⟨_, rfl⟩
  have HN := Lib.hid hN
  go_cut [31] from 14 (fun s wx => s = .bool N ∧ wx = W0)
  case first =>
    unfold howNone at hN
    rw [← tdiv_hundred] at hN
    cases hm : (m.data.toList == [72, 69, 65, 68]) with
    | true =>
      have hm2 : (m.toList == [72, 69, 65, 68]) = true := by rw [Go.ByteArray.toList_eq]; exact hm
      rw [hm] at hN
      go_wp2_with fail
      go_meet
      exact ⟨by rw [← hN]; rfl, rfl⟩
    | false =>
      have hm2 : (m.toList == [72, 69, 65, 68]) = false := by rw [Go.ByteArray.toList_eq]; exact hm
      rw [hm] at hN
      cases h1 : (st.tdiv 100 == 1) <;> cases h3 : (st == 204) <;> cases h4 : (st == 304) <;> rw [h1, h3, h4] at hN
      all_goals
        go_wp2_with fail
        go_meet
        exact ⟨by rw [← hN]; rfl, rfl⟩
  case rest =>
  obtain ⟨rfl, rfl⟩ := hcut
  cases N with
  | true =>
    have hv : howM m st fs = (0, 0, 0) := by unfold howM; rw [HN.out]; rfl
    have HV := Lib.hid hv
    clear hv
    go_wp2_with fail
    go_ret3
    exact ⟨congrArg (fun r => Ending.returned (lenV .u8 r)) HV.out.symm, B0.out⟩
  | false =>
    have hv : howM m st fs = howA (findB fs teB) (findB fs clB) (chFirst (findB fs teB)) := by unfold howM; rw [HN.out]; rfl
    have HV := Lib.hid hv
    clear hv HN hN
    go_upto_region 3 with fail
    go_cut [7, 8] from 14 (fun s7 s8 wx => wx.ownsRow w.heap.size 9 1 s7 (findB fs teB).length ((findB fs teB).map Value.string) ∧ wx.ownsRow w.heap.size 9 1 s8 (findB fs clB).length ((findB fs clB).map Value.string) ∧ Below w.heap.size w wx)
    case first =>
      have B0d : Below w.heap.size w wc.drew := B0.out.drew
      have a3d : wc.drew.cell? ⟨w.heap.size, 3, none⟩ = some (.slice A n c) := a3
      have hl0d : w.heap.size < wc.drew.heap.size := hl0
      go_region_with ((go_at_call 46; first
        | (with_reducible refine (HF1.out _ B0d).mono ?_; rintro e w1 ⟨⟨v1, rfl, ho1⟩, hb1⟩; have hx1 := below_step B0d hb1; have a31 := (hb1.cell (p := ⟨w.heap.size, 3, none⟩) hl0d).trans a3d; have p1 := ownsRow_base ho1 B0d.size)
        | (with_reducible refine (HF2.out _ B0d).mono ?_; rintro e w2 ⟨⟨v2, rfl, ho2⟩, hb2⟩; have hx2 := below_step B0d hb2; have a32 := (hb2.cell (p := ⟨w.heap.size, 3, none⟩) hl0d).trans a3d; have p2 := ownsRow_base ho2 B0d.size)
        | (with_reducible refine (HF1.out _ hx2).mono ?_; rintro e w1 ⟨⟨v1, rfl, ho1⟩, hb1⟩; have hx1 := below_step hx2 hb1; have p1 := ownsRow_base ho1 hx2.size; have p2' := own_below p2 hb1; have hx := hx1; have q1 := p1; have q2 := p2')
        | (with_reducible refine (HF2.out _ hx1).mono ?_; rintro e w2 ⟨⟨v2, rfl, ho2⟩, hb2⟩; have hx2 := below_step hx1 hb2; have p2 := ownsRow_base ho2 hx1.size; have p1' := own_below p1 hb2; have hx := hx2; have q1 := p1'; have q2 := p2)))
      all_goals
        go_wp2_with fail
        go_meet
        exact ⟨q1, q2, hx⟩
    case rest =>
    obtain ⟨q1, q2, hx⟩ := hcut
    obtain ⟨A1, c1, rfl⟩ := own_form q1
    obtain ⟨A3, c3, rfl⟩ := own_form q2
    have O2 := Lib.hid q2
    have B2 := Lib.hid hx
    have L1 := Lib.hid (Lies.of_own q1)
    have L2 := Lib.hid (Lies.of_own q2)
    clear q1 q2 hx HF1 HF2 K0 a2 a3
    obtain ⟨C, hC⟩ : ∃ C, findB fs teB = C := ⟨_, rfl⟩
    obtain ⟨S, hS⟩ : ∃ S, findB fs clB = S := ⟨_, rfl⟩
    obtain ⟨p, hp⟩ : ∃ p, C.length = p := ⟨_, rfl⟩
    obtain ⟨r, hr⟩ : ∃ r, S.length = r := ⟨_, rfl⟩
    rw [hC, hp] at hl1
    rw [hS, hr] at hl2
    rw [hC, hS] at HS HV
    rw [hC, hp] at L1
    rw [hS, hr] at L2 O2
    rw [hC, hp, hS, hr]
    have HP := Lib.hid hp
    have HR := Lib.hid hr
    clear hp hr hC hS
    by_cases hp0 : p = 0
    · subst hp0
      by_cases hr0 : r = 0
      · subst hr0
        have HV2 := Lib.hid (HV.out.trans (howA_close HP.out HR.out))
        clear HV
        go_wp2_with fail
        go_ret3
        exact ⟨congrArg (fun r => Ending.returned (lenV .u8 r)) HV2.out.symm, B2.out⟩
      · have HV1 := Lib.hid (HV.out.trans (howA_len HP.out (by rw [HR.out]; omega)))
        have hd : ((r : Int) == 0) = false := beq_eq_false_iff_ne.2 (by omega)
        have hcap3 := own_cap O2.out
        obtain ⟨b, off, rfl, hbb, hcl⟩ := L2.out.2 (by omega)
        have hjl := join_sum 44 (S.map (·.data.toList))
        rw [List.map_map] at hjl
        have hjl2 : (Lib.join (S.map (·.data.toList)) [44]).length ≤ 1048700 := Nat.le_trans hjl HS.out.2
        have hJ := Tryz.strings_Join b off c3 S ⟨#[44]⟩ wc (fun j x hx => hcl j _ (by rw [List.getElem?_map, hx]; rfl)) hbb (by rw [HR.out]; omega) (by rw [HR.out]; exact hcap3) (Nat.le_trans hjl2 (by decide))
        rw [HR.out] at hJ
        obtain ⟨TX, hTX⟩ : ∃ TX : ByteArray, ⟨(Lib.join (S.map (·.data.toList)) (⟨#[44]⟩ : ByteArray).data.toList).toArray⟩ = TX := ⟨_, rfl⟩
        have hTd : TX.data.toList = Lib.join (S.map (·.data.toList)) [44] := by rw [← hTX]
        have hTs : TX.size ≤ 1048700 := by
          rw [← hTd] at hjl2
          exact hjl2
        rw [hTX] at hJ
        have HJ := Lib.hid hJ
        have hPp : (splitT 44 TX).map (·.data.toList) = partsA (S.map (·.data.toList)) := by
          rw [splitT_data, hTd]
          unfold partsA
          cases hS9 : S with
          | nil => exact absurd (by rw [← HR.out, hS9]; rfl) hr0
          | cons x xs => rw [List.map_cons, cut_join]
        rw [← hPp] at HV1
        have hsl : ∀ x ∈ splitT 44 TX, x.size ≤ 1048700 := fun x hx => Nat.le_trans (sizes_splitT 44 TX x hx) hTs
        have hlen : (splitT 44 TX).length ≤ 1048701 ∧ 0 < (splitT 44 TX).length := by
          unfold splitT
          rw [List.length_map, cutC_len]
          have h3 := List.count_le_length (a := 44) (l := TX.data.toList)
          have h4 : TX.data.toList.length = TX.size := rfl
          omega
        have HSPL := Lib.hid (fun W (hb : Below w.heap.size w W) => asplit_any TX 44 W (by omega) (HM.out.below hb hmg) (Nat.lt_of_lt_of_le hmg hb.size))
        obtain ⟨L, hL⟩ : ∃ L, splitT 44 TX = L := ⟨_, rfl⟩
        rw [hL] at HSPL hsl hlen HV1
        obtain ⟨mm, hmm⟩ : ∃ mm, L.length = mm := ⟨_, rfl⟩
        rw [hmm] at HSPL hlen
        obtain ⟨hm1, hm2⟩ := hlen
        have HMM := Lib.hid hmm
        have HSL := Lib.hid hsl
        clear HV hcl hjl hjl2 hJ hTX hTd hPp hL hmm hsl
        go_wp2_with fail
        refine (HJ.out).mono ?_
        rintro e w3 ⟨rfl, hb3⟩
        have B3 := Lib.hid (B2.out.trans (hb3.mono B2.out.size))
        clear hb3 HJ B2 L1 L2 O2
        go_wp2_with fail
        refine (HSPL.out w3 B3.out).mono ?_
        rintro e w4 ⟨⟨A4, c4, rfl, hl4⟩, hb4⟩
        have B4 := Lib.hid (B3.out.trans (hb4.mono B3.out.size))
        have L4 := Lib.hid hl4
        clear hb4 hl4 HSPL B3
        have hw4 : w.heap.size ≤ w4.heap.size := B4.out.size
        obtain ⟨i0, hi, hz0, hz1, hz2⟩ := info_parts infoS
        go_wp2_with fail
        go_loopw [9, 68] (fun v i wr => ∃ k : Nat, k ≤ mm ∧ i = .int .i64 k ∧ Hid (wr.ownsRow w4.heap.size 9 1 v k ((L.take k).map fun x => .string (bareB x))) ∧ Hid ((L.take k).all (fun x => digitsOK x.data.toList) = true) ∧ Hid (Below w4.heap.size w4 wr)) (fun _ i _ => mm - (intOf i).toNat)
        case atStart => exact ⟨0, Nat.zero_le _, rfl, World.ownsRow_nil _ _ _ _, rfl, Below.refl _ _⟩
        case round =>
          obtain ⟨k, hk, rfl, HO, HD, HB⟩ := hrel
          have BW := Lib.hid (B4.out.trans (HB.out.mono hw4))
          by_cases hlt : k < mm
          · obtain ⟨x, hx⟩ : ∃ x, L[k]? = some x := ⟨L[k]'(by rw [HMM.out]; exact hlt), List.getElem?_eq_getElem (by rw [HMM.out]; exact hlt)⟩
            obtain ⟨b2, off2, u, rfl, hbb2, hu, hcu⟩ := L4.out.at_ hlt
            have hux : u = .string x := by rw [List.getElem?_map, hx] at hu; exact (Option.some.inj hu).symm
            subst hux
            have hxs := HSL.out x (List.mem_of_getElem? hx)
            have c2 := (HB.out.cell (p := ⟨b2, off2 + k, none⟩) hbb2).trans hcu
            have htk : L.take (k + 1) = L.take k ++ [x] := by rw [List.take_add_one, hx]; rfl
            have hmem : x.data.toList ∈ L.map (·.data.toList) := List.mem_map_of_mem (List.mem_of_getElem? hx)
            have hE := emptyT x
            clear hu hcu hx
            by_cases hx0 : x.size = 0
            · rw [decide_eq_true hx0] at hE
              have HV2 := Lib.hid (HV1.out.trans (len_bad hmem (by rw [List.eq_nil_of_length_eq_zero (show x.data.toList.length = 0 from hx0)]; rfl)))
              clear HV1 htk hmem
              go_wp2_with fail
              go_ret3
              exact ⟨congrArg (fun r => Ending.returned (lenV .u8 r)) HV2.out.symm, BW.out⟩
            · rw [decide_eq_false hx0] at hE
              have hTR := Tryz.strings_Trim x ⟨#[48, 49, 50, 51, 52, 53, 54, 55, 56, 57]⟩ wr (by omega) (by decide) (ascii_of_all (by decide))
              have hti := trim_ten x.data.toList
              obtain ⟨t, ht⟩ : ∃ t, Lib.trimS x.data.toList tenB = t := ⟨_, rfl⟩
              rw [ht] at hti
              have hcs : Lib.trimS x.data.toList (⟨#[48, 49, 50, 51, 52, 53, 54, 55, 56, 57]⟩ : ByteArray).data.toList = t := ht
              rw [hcs] at hTR
              have HTR := Lib.hid hTR
              clear hTR hcs ht
              cases hall : x.data.toList.all digB with
              | false =>
                rw [hall] at hti
                have HV2 := Lib.hid (HV1.out.trans (len_bad hmem (by unfold digitsOK; rw [hall]; simp)))
                clear HV1 htk hmem hall
                go_wp2_with fail
                refine (HTR.out).mono ?_
                rintro e w5 ⟨rfl, hb5⟩
                have B5 := Lib.hid (BW.out.trans (hb5.mono BW.out.size))
                clear hb5
                go_wp2_with fail
                go_ret3
                exact ⟨congrArg (fun r => Ending.returned (lenV .u8 r)) HV2.out.symm, B5.out⟩
              | true =>
                rw [hall] at hti
                have hdo : digitsOK x.data.toList = true := digitsOK_cons.2 ⟨fun e => hx0 (by have : x.data.toList.length = x.size := rfl; rw [e] at this; simpa using this.symm), hall⟩
                have hD2 : (L.take (k + 1)).all (fun x => digitsOK x.data.toList) = true := by rw [htk, List.all_append, HD.out]; simp [hdo]
                have HD2 := Lib.hid hD2
                have HTK := Lib.hid htk
                have hTL := fun W => Tryz.strings_TrimLeft x ⟨#[48]⟩ W (by decide) (ascii_of_all (by decide))
                have hbx : (⟨(Lib.trimLeftS x.data.toList (⟨#[48]⟩ : ByteArray).data.toList).toArray⟩ : ByteArray) = bareB x := by
                  unfold bareB
                  rw [← trimLeft_zero]
                rw [hbx] at hTL
                have HTL := Lib.hid hTL
                clear hall hdo hD2 htk hTL hbx hmem
                go_wp2_with fail
                refine (HTR.out).mono ?_
                rintro e w5 ⟨rfl, hb5⟩
                have HB5 := Lib.hid (HB.out.trans (hb5.mono HB.out.size))
                have HO5 := Lib.hid (own_below HO.out hb5)
                clear hb5 HTR
                go_wp2_with fail
                refine (HTL.out w5).mono ?_
                rintro e w6 ⟨rfl, hb6⟩
                have HB6 := Lib.hid (HB5.out.trans (hb6.mono HB5.out.size))
                have HO6 := Lib.hid (own_below HO5.out hb6)
                clear hb6 HTL HB5 HO5 HO
                go_wp2_with (at_builtin; refine wpList_append_own _ rfl _ _ 61 rfl w4.heap.size 9 i0 _ 1 16 Tryz.underlying61 hi hz0 hz1 hz2 rfl (by decide) _ _ _ rfl (HO6.out.alloc _) ⟨w6.heap.size, 0, none⟩ 1 1 [.string (bareB x)] rfl rfl (cell_one_new _ _ _) (by simp [Value.oneCell']) (by unfold maxLen; omega) (by omega) (by have := HB6.out.size; simp; omega) ?_; intro v2 w7 hown7 hg7 _)
                have HB7 : Hid (Below w4.heap.size w4 w7) := Lib.hid ((HB6.out.alloc HB6.out.size _).grown hg7 (by have := HB6.out.size; simp; omega) (fun j hj => (HO6.out.lt j hj).1))
                have HO7 : Hid (w7.ownsRow w4.heap.size 9 1 v2 (k + 1) ((L.take (k + 1)).map fun x => .string (bareB x))) := by
                  rw [HTK.out, List.map_append]
                  exact hown7
                go_roundw
                case rel => exact ⟨k + 1, by omega, by go_num, HO7, HD2, HB7⟩
                case measure => simp [intOf]; omega
          · obtain rfl : k = mm := by omega
            have hO := HO.out
            have hDD := HD.out
            rw [List.take_of_length_le (by rw [HMM.out]; exact Nat.le_refl _)] at hO hDD
            rcases hO.2 with ⟨_, h0⟩ | ⟨g, cap, cur, rfl, hg, hheap, hcap, hmax, hsz, htake⟩
            · omega
            have hblk : Blk wr g 9 cur := hheap
            have hcg : ∀ i, i < k → wr.cell? ⟨g, 0 + i, none⟩ = some (.string (((L.map bareB)[i]?).getD ⟨#[]⟩)) := by
              intro i hi9
              have hil : i < L.length := by rw [HMM.out]; exact hi9
              have e1 : cur.toList[i]? = some (.string (bareB L[i])) := by
                have e2 := congrArg (fun l => l[i]?) htake
                have e2 : (cur.toList.take (k * 1))[i]? = (L.map fun x => Value.string (bareB x))[i]? := e2
                rw [List.getElem?_take, if_pos (by omega), List.getElem?_map, List.getElem?_eq_getElem hil] at e2
                exact e2
              rw [Nat.zero_add, hblk.cell, ← Array.getElem?_toList, e1, List.getElem?_map, List.getElem?_eq_getElem hil]
              rfl
            have hco := Tryz.slices_Compact_string_cells g 0 k cap (fun i => ((L.map bareB)[i]?).getD ⟨#[]⟩) wr (by omega) hcap hcg (fun j _ => by rw [Nat.zero_add]; exact hblk.frozen j)
            rw [strs_bare L k HMM.out] at hco
            obtain ⟨x0, r0, hL0⟩ : ∃ x0 r0, L = x0 :: r0 := by
              cases hL9 : L with
              | nil => have := HMM.out; rw [hL9] at this; simp at this; omega
              | cons x0 r0 => exact ⟨x0, r0, rfl⟩
            obtain ⟨tz, htz⟩ := compact_head (bareS x0.data.toList) ((r0.map (·.data.toList)).map bareS)
            have hZ : (L.map (·.data.toList)).map bareS = bareS x0.data.toList :: (r0.map (·.data.toList)).map bareS := by rw [hL0]; rfl
            have hZC : Lib.compact ((L.map (·.data.toList)).map bareS) = bareS x0.data.toList :: tz := by rw [hZ]; exact htz
            rw [hZC] at hco
            have hun : 1 < (bareS x0.data.toList :: tz).length → lenA (L.map (·.data.toList)) = (0, 0, 9) := fun hh => len_unlike (by rw [hL0]; simp) (by rw [hZC]; exact hh)
            have hli : ¬ 1 < (bareS x0.data.toList :: tz).length → lenA (L.map (·.data.toList)) = lenO (numB (48 :: bareS x0.data.toList) 65536) := fun hh => len_like (r := r0.map (·.data.toList)) (by rw [hL0]; rfl) (by rw [List.all_map]; exact hDD) (by rw [hZC]; exact hh)
            obtain ⟨BX, hBX⟩ : ∃ BX : ByteArray, ⟨(bareS x0.data.toList).toArray⟩ = BX := ⟨_, rfl⟩
            have hBd : BX.data.toList = bareS x0.data.toList := by rw [← hBX]
            have hBs : BX.size ≤ 1048700 := by
              have h1 := (List.dropWhile_sublist (fun y : UInt8 => y == 48) (l := x0.data.toList)).length_le
              have h2 : BX.data.toList.length = BX.size := rfl
              rw [hBd] at h2
              have h3 : (bareS x0.data.toList).length ≤ x0.data.toList.length := h1
              have h4 : x0.data.toList.length = x0.size := rfl
              have h5 := HSL.out x0 (by rw [hL0]; exact List.mem_cons_self)
              omega
            obtain ⟨zn, hzn⟩ : ∃ zn, (bareS x0.data.toList :: tz).length = zn := ⟨_, rfl⟩
            rw [hzn] at hun hli
            rw [← hBd] at hli
            have hcell0 : (wr.cell? ⟨g, 0, none⟩).isSome = true := by have := hcg 0 (by omega); rw [Nat.zero_add] at this; rw [this]; rfl
            have HW8 : Hid (∀ q, ∃ W8, (wr.drewN q).setCells g 0 (((bareS x0.data.toList :: tz) ++ List.replicate (k - zn) []).map encStr) = W8 ∧ W8.cell? ⟨g, 0, none⟩ = some (.string BX) ∧ Below w.heap.size w W8) := Lib.hid (fun q => by
              refine ⟨_, rfl, ?_, ?_⟩
              · rw [List.cons_append, List.map_cons, set_first (by exact hcell0), ← hBX]
              · exact Go.below_setCells (Nat.le_trans hw4 hg) _ _ _ (below_drewN BW.out q))
            rw [hzn] at hco
            have HCO := Lib.hid hco
            have HUN := Lib.hid hun
            have HLI := Lib.hid hli
            have HBD := Lib.hid hBd
            clear hun hli hco hzn hZ hZC htz hL0 hBX hBd hcell0 hcg hblk htake hsz hheap hO hDD HO HD HSL L4
            go_wp2_with fail
            refine (HCO.out).mono ?_
            rintro e w8 ⟨rfl, q, rfl⟩
            obtain ⟨W8, hW8, c8, hB8⟩ := HW8.out q
            rw [hW8]
            have B8 := Lib.hid hB8
            clear hW8 hB8 HCO HW8
            by_cases hz1n : 1 < zn
            · have hd1 : decide ((1 : Int) < (zn : Int)) = true := decide_eq_true (by omega)
              have HV2 := Lib.hid (HV1.out.trans (HUN.out hz1n))
              clear HV1
              go_wp2_with fail
              go_ret3
              exact ⟨congrArg (fun r => Ending.returned (lenV .u8 r)) HV2.out.symm, B8.out⟩
            · have hd1 : decide ((1 : Int) < (zn : Int)) = false := decide_eq_false (by omega)
              have HV3 := Lib.hid (HV1.out.trans (HLI.out hz1n))
              have htx : (⟨#[48]⟩ ++ BX : ByteArray).data.toList = 48 :: BX.data.toList := by rw [Go.Joins.data_append]; rfl
              have htxs : (⟨#[48]⟩ ++ BX : ByteArray).size = 1 + BX.size := ByteArray.size_append
              have HNU := Lib.hid (anumber_any (⟨#[48]⟩ ++ BX) 65536 W8 (by omega))
              rw [htx] at HNU
              clear HV1 htx
              cases hnum : numB (48 :: BX.data.toList) 65536 with
              | none =>
                have hv := numV_none hnum
                rw [hv] at HNU
                rw [hnum] at HV3
                have HV2 := HV3
                clear hv hnum
                go_wp2_with fail
                refine (HNU.out).mono ?_
                rintro e w9 ⟨rfl, hb9⟩
                have B9 := Lib.hid (B8.out.trans (hb9.mono B8.out.size))
                clear hb9
                go_wp2_with fail
                go_ret3
                exact ⟨congrArg (fun r => Ending.returned (lenV .u8 r)) HV2.out.symm, B9.out⟩
              | some z =>
                have hv := numV_some hnum
                rw [hv] at HNU
                rw [hnum] at HV3
                have HV2 := HV3
                clear hv hnum
                go_wp2_with fail
                refine (HNU.out).mono ?_
                rintro e w9 ⟨rfl, hb9⟩
                have B9 := Lib.hid (B8.out.trans (hb9.mono B8.out.size))
                clear hb9
                go_wp2_with fail
                go_ret3
                exact ⟨congrArg (fun r => Ending.returned (lenV .u8 r)) HV2.out.symm, B9.out⟩
    · have hd0 : ((p : Int) + (r : Int) == 0) = false := beq_eq_false_iff_ne.2 (by omega)
      have hd1 : decide ((0 : Int) < (p : Int)) = true := decide_eq_true (by omega)
      by_cases hr0 : r = 0
      · subst hr0
        by_cases hp1 : p = 1
        · subst hp1
          obtain ⟨b, off, u, rfl, hbb, hu, hcu⟩ := L1.out.at_ (k := 0) (by omega)
          obtain ⟨x, rfl⟩ : ∃ x, C = [x] := List.length_eq_one_iff.1 HP.out
          have hux : u = .string x := (Option.some.inj hu).symm
          subst hux
          rw [Nat.add_zero] at hcu
          have hxs := HS.out.1 x List.mem_cons_self
          have HSA := Lib.hid (Same_any x ⟨#[99, 104, 117, 110, 107, 101, 100]⟩ wc (by omega) (by decide))
          have hch : chFirst [x] = sameB x.data.toList (⟨#[99, 104, 117, 110, 107, 101, 100]⟩ : ByteArray).data.toList := rfl
          obtain ⟨q, hq⟩ : ∃ q, sameB x.data.toList (⟨#[99, 104, 117, 110, 107, 101, 100]⟩ : ByteArray).data.toList = q := ⟨_, rfl⟩
          rw [hq] at hch HSA
          rw [hch] at HV
          clear hq hch hu
          cases q with
          | true =>
            have HV2 := Lib.hid (HV.out.trans (howA_chunks HP.out HR.out rfl))
            clear HV
            go_wp2_with fail
            refine (HSA.out).mono ?_
            rintro e w3 ⟨rfl, hb3⟩
            have B3 := Lib.hid (B2.out.trans (hb3.mono B2.out.size))
            clear hb3
            go_wp2_with fail
            go_ret3
            exact ⟨congrArg (fun r => Ending.returned (lenV .u8 r)) HV2.out.symm, B3.out⟩
          | false =>
            have HV2 := Lib.hid (HV.out.trans (howA_bad (by rw [HP.out]; omega) (fun hh => by cases hh.2.2)))
            clear HV
            go_wp2_with fail
            refine (HSA.out).mono ?_
            rintro e w3 ⟨rfl, hb3⟩
            have B3 := Lib.hid (B2.out.trans (hb3.mono B2.out.size))
            clear hb3
            go_wp2_with fail
            go_ret3
            exact ⟨congrArg (fun r => Ending.returned (lenV .u8 r)) HV2.out.symm, B3.out⟩
        · have hd2 : ((p : Int) == 1) = false := beq_eq_false_iff_ne.2 (by omega)
          have HV2 := Lib.hid (HV.out.trans (howA_bad (by rw [HP.out]; omega) (fun hh => hp1 (HP.out.symm.trans hh.2.1))))
          clear HV
          go_wp2_with fail
          go_ret3
          exact ⟨congrArg (fun r => Ending.returned (lenV .u8 r)) HV2.out.symm, B2.out⟩
      · have hd2 : ((r : Int) == 0) = false := beq_eq_false_iff_ne.2 (by omega)
        have HV2 := Lib.hid (HV.out.trans (howA_bad (by rw [HP.out]; omega) (fun hh => hr0 (HR.out.symm.trans hh.1))))
        clear HV
        go_wp2_with fail
        go_ret3
        exact ⟨congrArg (fun r => Ending.returned (lenV .u8 r)) HV2.out.symm, B2.out⟩
theorem how_any (m s1 s2 : ByteArray) (st : Int) (A A2 : Option Addr) (n c n2 c2 : Nat) (fs : List Fd) (w : World) (h : FRead w w.heap.size A n fs) (hn : n ≤ 100000) (hsum : fsum fs ≤ 1000000) (hst : -9223372036854775808 ≤ st ∧ st ≤ 9223372036854775807) (hm : MaxOk w) (hmg : maxG < w.heap.size) :
    Calls Tryz.prog 42 #[.string m, .agg #[.string s1, .string s2, .int .i64 st, .slice A n c, .slice A2 n2 c2]] w fun e w' => e = .returned (lenV .u8 (howM m st fs)) ∧ Below w.heap.size w w' :=
  how_big m s1 s2 st A A2 n c n2 c2 fs w h hn (by omega) (fun f hf => by
    obtain ⟨k, hk⟩ := List.mem_iff_getElem?.1 hf
    have e1 := fsum_succ fs k f hk
    have e2 := fsum_le fs (k + 1)
    omega) hst hm hmg
end Go.Proofs.YtonlfplloenfcaaGreatDoor
namespace Go.Proofs.YtonlfplloenfcaaGreatDoor
open Go.RowKit

theorem const_bytes13 (L : List UInt8) (n : Nat) (hn : L.length = n) (w : World) :
    Lies (frozenW (w.alloc (.cells (Lib.byteCells L).toArray 5)) w.heap.size n) (frozenW (w.alloc (.cells (Lib.byteCells L).toArray 5)) w.heap.size n).heap.size (some ⟨w.heap.size, 0, none⟩) n (Lib.byteCells L) ∧
      Below w.heap.size w (frozenW (w.alloc (.cells (Lib.byteCells L).toArray 5)) w.heap.size n) ∧ w.heap.size < (frozenW (w.alloc (.cells (Lib.byteCells L).toArray 5)) w.heap.size n).heap.size := by
  have hz : w.heap.size < (frozenW (w.alloc (.cells (Lib.byteCells L).toArray 5)) w.heap.size n).heap.size := by simp [frozenW, World.freeze]
  refine ⟨⟨by simp [Lib.byteCells, hn], fun h0 => ⟨_, _, rfl, hz, fun j u hu => ?_⟩⟩, frozenW_below ((Below.refl _ _).alloc (Nat.le_refl _) _) (Nat.le_refl _) _, hz⟩
  rw [Nat.zero_add, cell_of_row _ _ _ _ _ _ (frozenW_heap (Blk.new w 5 (Lib.byteCells L).toArray))]
  simpa using hu
end Go.Proofs.YtonlfplloenfcaaGreatDoor
