/-
  HeadsNames: the walk.
  footmanlaw13.great; Beyond at three numbers.
  HeadsBack: the walk.
  bodies.Chunked: a body by its chunks.
-/
import Derived.Test.YtonlfplloenfcaaGreatDoorBadEtc
import Derived.Test.YtonlfplloenfcaaGreatDoorNamesEtc
import Derived.Test.YtonlfplloenfcaaGreatDoorBFieldsEtc
import Derived.Test.YtonlfplloenfcaaGreatDoorReflEtc
import Derived.Test.YtonlfplloenfcaaGreatDoorFindEtc
import Derived.Test.YtonlfplloenfcaaGreatDoorBackSpecEtc
import Derived.Test.YtonlfplloenfcaaGreatDoorANumberEtc
namespace Go.Proofs.YtonlfplloenfcaaGreatDoor
open Go.RowKit

theorem low_size (s : ByteArray) : (⟨(s.data.toList.map lowB).toArray⟩ : ByteArray).size = s.size := by
  show ((s.data.toList.map lowB).toArray).size = _
  rw [List.size_toArray, List.length_map]
  rfl
theorem str_one (l : List ByteArray) : ∀ u ∈ l.map Value.string, u.oneCell' = true := by
  intro u hu
  obtain ⟨x, _, rfl⟩ := List.mem_map.1 hu
  rfl
theorem own_new {v : Value} {s : World} (h : v.ownBlock = (Value.slice none 0 0).ownBlock ∨ v.ownBlock = some s.heap.size) : ∀ b, v.ownBlock = some b → b = s.heap.size := fun b hb => by
  rcases h with h | h
  · rw [hb] at h; simp [Value.ownBlock] at h
  · rw [hb] at h; injection h

set_option maxRecDepth 100000 in
set_option maxHeartbeats 4000000 in
theorem headsnames_any (A A2 : Option Addr) (n c n2 c2 : Nat) (fs fs2 : List Fd) (s : ByteArray) (w : World) (h : FRead w w.heap.size A n fs) (hf : FSmall fs) (hn : n ≤ 140737488355328) (h2 : FRead w w.heap.size A2 n2 fs2) (hf2 : FSmall fs2) (hn2 : n2 ≤ 140737488355328) (hs : s.size ≤ 140737488355328)
    (hm : MaxOk w) (hmg : maxG < w.heap.size) (he : ErrOk w) (heg : errG < w.heap.size) :
    Calls Tryz.prog 10 #[.slice A n c, .slice A2 n2 c2, .string s] w fun e w' => e = .returned (.bool true) ∧ Below w.heap.size w w' := by
  have H := Lib.hid h
  have H2 := Lib.hid h2
  have HA := Lib.hid (fun (W : World) (hb : Below w.heap.size w W) => alive_any W (hm.below hb hmg) (Nat.lt_of_lt_of_le hmg hb.size) (he.below hb heg) (Nat.lt_of_lt_of_le heg hb.size))
  have HG1 := Lib.hid (fun (W : World) (hb : Below w.heap.size w W) => great_any ⟨#[]⟩ ⟨#[]⟩ 0 A none n c 0 0 fs W ((h.below hb).more hb.size) hf (by decide) (by decide) (by omega) hn)
  have HG2 := Lib.hid (fun (W : World) (hb : Below w.heap.size w W) => great_any ⟨#[]⟩ ⟨#[]⟩ 0 A2 none n2 c2 0 0 fs2 W ((h2.below hb).more hb.size) hf2 (by decide) (by decide) (by omega) hn2)
  clear h h2 hm he hf hf2
  go_enter Tryz.func10, Tryz.ntmps10
  go_wp2_with fail
  refine (HA.out w (Below.refl _ _)).mono ?_
  rintro e w1 ⟨rfl, hb1⟩
  have B1 := Lib.hid hb1
  clear hb1
  go_wp2_with fail
  refine (HG1.out w1 B1.out).mono ?_
  rintro e w2 ⟨rfl, hb2⟩
  have B2 := Lib.hid (B1.out.trans (hb2.mono B1.out.size))
  clear hb2 HG1
  obtain ⟨q, hq⟩ : ∃ q, bigB (ByteArray.size ⟨#[]⟩ + ByteArray.size ⟨#[]⟩ + 0) fs = q := ⟨_, rfl⟩
  rw [hq]
  have HQ1 := Lib.hid hq
  clear hq
  cases q with
  | true =>
    go_wp2_with fail
    refine (HA.out w2 B2.out).mono ?_
    rintro e wz ⟨rfl, hbz⟩
    have BZ := Lib.hid (B2.out.trans (hbz.mono B2.out.size))
    clear hbz
    go_wp2_with fail
    go_ret
    exact ⟨rfl, BZ.out⟩
  | false =>
  go_wp2_with fail
  refine (HG2.out w2 B2.out).mono ?_
  rintro e w3 ⟨rfl, hb3⟩
  have B3 := Lib.hid (B2.out.trans (hb3.mono B2.out.size))
  clear hb3 HG2
  obtain ⟨q, hq⟩ : ∃ q, bigB (ByteArray.size ⟨#[]⟩ + ByteArray.size ⟨#[]⟩ + 0) fs2 = q := ⟨_, rfl⟩
  rw [hq]
  have HQ2 := Lib.hid hq
  clear hq
  cases q with
  | true =>
    go_wp2_with fail
    refine (HA.out w3 B3.out).mono ?_
    rintro e wz ⟨rfl, hbz⟩
    have BZ := Lib.hid (B3.out.trans (hbz.mono B3.out.size))
    clear hbz
    go_wp2_with fail
    go_ret
    exact ⟨rfl, BZ.out⟩
  | false =>
  have HBY := Lib.hid (beyond_len s.size w3 hs)
  have Bx := Lib.hid (B3.out.trans ((show Below w3.heap.size w3 (w3.alloc (.cells #[.int .i64 (s.size : Int)] 3)) from (Below.refl _ _).alloc (Nat.le_refl _) _).mono B3.out.size))
  go_wp2_with fail
  refine (HBY.out).mono ?_
  rintro e w4 ⟨rfl, hw4⟩
  have B4 : Hid (Below w.heap.size w w4) := by rw [← hw4]; exact Bx
  clear hw4 Bx HBY
  by_cases hbey : 1048576 < s.size
  · have hd2 : decide (1048576 < s.size) = true := decide_eq_true hbey
    go_wp2_with fail
    refine (HA.out w4 B4.out).mono ?_
    rintro e wz ⟨rfl, hbz⟩
    have BZ := Lib.hid (B4.out.trans (hbz.mono B4.out.size))
    clear hbz
    go_wp2_with fail
    go_ret
    exact ⟨rfl, BZ.out⟩
  have hd2 : decide (1048576 < s.size) = false := decide_eq_false hbey
  obtain ⟨hp1, hp2⟩ := big_parts HQ1.out
  obtain ⟨hp3, hp4⟩ := big_parts HQ2.out
  have hl1 : n ≤ 100000 := by rw [← H.out.1]; exact hp1
  have hl2 : n2 ≤ 100000 := by rw [← H2.out.1]; exact hp3
  have HP := Lib.hid (And.intro hp2 hp4)
  clear hp1 hp2 hp3 hp4 HQ1 HQ2
  have HR1 := Lib.hid (fun (W : World) (hb : Below w.heap.size w W) => fread_reads ((H.out.below hb).more hb.size))
  have HR2 := Lib.hid (fun (W : World) (hb : Below w.heap.size w W) => fread_reads ((H2.out.below hb).more hb.size))
  obtain ⟨i0, hi, hz0, hz1, hz2⟩ := info_parts infoF
  go_wp2_with (first
    | (at_builtin; refine wpList_append_any _ rfl _ _ 22 rfl w.heap.size 63 i0 _ 2 32 Tryz.underlying22 hi hz0 hz1 hz2 rfl (by decide) (Value.slice none 0 0) 0 [] rfl (World.ownsRow_nil _ _ _ _) w4.heap.size A n c (fcells fs) rfl (HR1.out w4 B4.out) (fcells_one fs) (by unfold maxLen; omega) (by omega) B4.out.size ?_; intro v5 w5 hown5 hg5 hor5; have B5 := Lib.hid (B4.out.grown hg5 B4.out.size (fun j hj => by cases hj)); have OW := Lib.hid hown5; clear hg5 hown5 hor5)
    | (at_builtin; refine wpList_append_any _ rfl _ _ 22 rfl w.heap.size 63 i0 _ 2 32 Tryz.underlying22 hi hz0 hz1 hz2 rfl (by decide) v5 (0 + n) ([] ++ fcells fs) rfl OW.out w5.heap.size A2 n2 c2 (fcells fs2) rfl (HR2.out w5 B5.out) (fcells_one fs2) (by unfold maxLen; omega) (by omega) B5.out.size ?_; intro v6 w6 hown6 hg6 hor6))
  have B6 := Lib.hid (below_own B5.out OW.out hg6 (Nat.le_refl _) (Nat.le_refl _))
  have O6 : w6.ownsRow w.heap.size 63 2 v6 (n + n2) (fcells (fs ++ fs2)) := by
    have e2 : n + n2 = 0 + n + n2 := by omega
    rw [fcells_append, e2]
    exact hown6
  obtain ⟨A6, c6, rfl⟩ := own_form O6
  have hal : (fs ++ fs2).length = n + n2 := by rw [List.length_append, H.out.1, H2.out.1]
  have hfa : ∀ f ∈ fs ++ fs2, f.1.size ≤ 200000 := fun f hf => (List.mem_append.1 hf).elim (fun h => (HP.out.1 f h).1) (fun h => (HP.out.2 f h).1)
  have R6 := Lib.hid (fread_own hal O6)
  have HFA := Lib.hid hfa
  have HAL := Lib.hid hal
  have HFI := Lib.hid (find_any A6 (n + n2) c6 (fs ++ fs2) s w6 R6.out (by omega) (by omega) (fun f hf => by have := hfa f hf; omega))
  clear hg6 hown6 hor6 O6 OW hal hfa
  go_wp2_with fail
  refine (HFI.out).mono ?_
  rintro e w7 ⟨⟨v7, rfl, ho7⟩, hb7⟩
  obtain ⟨A7, c7, rfl⟩ := own_form ho7
  have B7 := Lib.hid (B6.out.trans (hb7.mono B6.out.size))
  have R7 := Lib.hid ((R6.out.below hb7).more hb7.size)
  have L7 := Lib.hid (Lies.of_own ho7)
  clear ho7 hb7 HFI R6
  obtain ⟨m, hm⟩ : ∃ m, (findB (fs ++ fs2) s).length = m := ⟨_, rfl⟩
  have hmn : m ≤ n + n2 := by
    have := findB_len (fs ++ fs2) s (n + n2)
    rw [List.take_of_length_le (by rw [HAL.out]; exact Nat.le_refl _), hm] at this
    exact this
  rw [hm]
  rw [hm] at L7
  have HMM := Lib.hid hm
  clear hm
  go_wp2_with fail
  go_loopw [9, 10] (fun nn i wr => ∃ k j : Nat, k ≤ n + n2 ∧ i = .int .i64 k ∧ nn = .int .i64 j ∧ Hid (j = (findB ((fs ++ fs2).take k) s).length) ∧ j ≤ m ∧ Below w7.heap.size w7 wr) (fun _ i _ => n + n2 - (intOf i).toNat)
  case atStart => exact ⟨0, 0, Nat.zero_le _, rfl, rfl, by rfl, Nat.zero_le _, Below.refl _ _⟩
  case round =>
    obtain ⟨k, j, hk, rfl, rfl, hj, hjm, hb⟩ := hrel
    by_cases hlt : k < n + n2
    · obtain ⟨b, off, rfl, hbb, hc⟩ := R7.out.2 (by omega)
      obtain ⟨f, hf⟩ : ∃ f, (fs ++ fs2)[k]? = some f := ⟨(fs ++ fs2)[k]'(by rw [HAL.out]; exact hlt), List.getElem?_eq_getElem (by rw [HAL.out]; exact hlt)⟩
      have hc1 := (hb.cell (p := ⟨b, off + k * 2, none⟩) hbb).trans (hc k f hf).1
      have hc2 := (hb.cell (p := ⟨b, off + k * 2 + 1, none⟩) hbb).trans (hc k f hf).2
      have hsz := HFA.out f (List.mem_of_getElem? hf)
      have HF := Lib.hid hf
      clear hf hc
      obtain ⟨f1, f2⟩ := f
      simp only at hc1 hc2 hsz

      cases hsm : sameB f1.data.toList s.data.toList
      · have HSM := Lib.hid hsm
        clear hsm
        go_wp2_with fail
        refine (Same_any _ _ _ (by omega) (by omega)).mono ?_
        rintro e w8 ⟨rfl, hb2⟩
        rw [HSM.out]
        have hb3 := hb.trans (hb2.mono hb.size)
        go_wp2_with fail
        go_roundw
        case rel => exact ⟨k + 1, j, by omega, by go_num, rfl, by rw [findB_miss _ s k _ HF.out HSM.out]; exact hj, hjm, hb3⟩
        case measure => simp [intOf]; omega
      · have HSM := Lib.hid hsm
        clear hsm
        have hat := findB_at (fs ++ fs2) s k _ HF.out HSM.out
        rw [← hj.out] at hat
        have hjl : j < m := by
          have := (List.getElem?_eq_some_iff.1 hat).1
          have := HMM.out
          omega
        have hd1 : ((j : Int) == (m : Int)) = false := beq_eq_false_iff_ne.2 (by omega)
        obtain ⟨b7, o7, e7, hb7, hc7⟩ := L7.out.2 (by omega)
        subst e7
        go_wp2_with fail
        refine (Same_any _ _ _ (by omega) (by omega)).mono ?_
        rintro e w8 ⟨rfl, hb2⟩
        rw [HSM.out]
        have hb3 := hb.trans (hb2.mono hb.size)
        have hl7 := (hb3.cell (p := ⟨b7, o7 + j, none⟩) hb7).trans (hc7 j (.string f2) (by rw [List.getElem?_map, hat]; rfl))
        have hc3 := (hb2.cell (p := ⟨b, off + k * 2 + 1, none⟩) (Nat.lt_of_lt_of_le hbb hb.size)).trans hc2
        clear hc1 hc2 hc7
        go_wp2_with fail
        go_quiet (fail)
        have hb4 := below_drewN hb3 nq
        go_wp2_with fail
        go_roundw
        case rel => exact ⟨k + 1, j + 1, by omega, by go_num, by go_num, by rw [findB_hit _ s k _ HF.out HSM.out, List.length_append, ← hj.out]; rfl, by omega, hb4⟩
        case measure => simp [intOf]; omega
    · obtain rfl : k = n + n2 := by omega
      have hjm2 : j = m := by
        rw [hj.out, ← HMM.out, List.take_of_length_le (by rw [HAL.out]; exact Nat.le_refl _)]
      subst hjm2
      have B8 := Lib.hid (B7.out.trans (hb.mono B7.out.size))
      have L8 := Lib.hid ((L7.out.below hb).more hb.size)
      have HF1 := Lib.hid (find_any A n c fs s wr ((H.out.below B8.out).more B8.out.size) (by omega) (by omega) (fun f hf => by have := (HP.out.1 f hf).1; omega))
      clear hj hb R7 L7
      go_wp2_with fail
      refine (HF1.out).mono ?_
      rintro e w9 ⟨⟨v9, rfl, ho9⟩, hb9⟩
      obtain ⟨A9, c9, rfl⟩ := own_form ho9
      have B9 := Lib.hid (B8.out.trans (hb9.mono B8.out.size))
      have L9 := Lib.hid ((L8.out.below hb9).more hb9.size)
      have R9 := Lib.hid (Lies.of_own ho9).reads
      obtain ⟨m1, hm1⟩ : ∃ m1, (findB fs s).length = m1 := ⟨_, rfl⟩
      have hm1n : m1 ≤ n := by
        have := findB_len fs s n
        rw [List.take_of_length_le (by rw [H.out.1]; exact Nat.le_refl _), hm1] at this
        exact this
      rw [hm1] at R9 ⊢
      have HM1 := Lib.hid hm1
      clear ho9 hb9 hm1 L8 HF1
      obtain ⟨i1, hi1, hy0, hy1, hy2⟩ := info_parts infoS
      have HLO := Lib.hid (fun (W : World) => Lower_any s W (by omega))
      have HF2 := Lib.hid (fun (W : World) (hb : Below w.heap.size w W) => find_any A2 n2 c2 fs2 ⟨(s.data.toList.map lowB).toArray⟩ W ((H2.out.below hb).more hb.size) (by omega) (by rw [low_size]; exact Nat.le_of_not_lt hbey) (fun f hf => by have := (HP.out.2 f hf).1; omega))
      go_wp2_with (at_builtin; refine wpList_append_any _ rfl _ _ 61 rfl w.heap.size 9 i1 _ 1 16 Tryz.underlying61 hi1 hy0 hy1 hy2 rfl (by decide) (Value.slice none 0 0) 0 [] rfl (World.ownsRow_nil _ _ _ _) w9.heap.size A9 m1 c9 ((findB fs s).map Value.string) rfl R9.out (str_one _) (by unfold maxLen; omega) (by omega) B9.out.size ?_; intro v10 w10 hown10 hg10 hor10; have B10 := Lib.hid (B9.out.grown hg10 B9.out.size (fun j hj => by cases hj)); have O10 := Lib.hid hown10; have L10 := Lib.hid (L9.out.keep fun p hp => hg10.cell_far p hp (by simp [Value.ownBlock])); have HV10 := Lib.hid (own_new hor10); have hz10 := hg10.size; clear hg10 hown10 hor10)
      refine (HLO.out _).mono ?_
      rintro e w11 ⟨rfl, hb11⟩
      have B11 := Lib.hid (B10.out.trans (hb11.mono B10.out.size))
      have O11 := Lib.hid (own_below O10.out hb11)
      have L11 := Lib.hid (L10.out.below (hb11.mono hz10))
      have hz11 := hb11.size
      clear hb11 B10 O10 L10
      go_wp2_with fail
      refine (HF2.out w11 B11.out).mono ?_
      rw [findB_lower]
      rintro e w12 ⟨⟨v12, rfl, ho12⟩, hb12⟩
      obtain ⟨A12, c12, rfl⟩ := own_form ho12
      have B12 := Lib.hid (B11.out.trans (hb12.mono B11.out.size))
      have O12 := Lib.hid (own_below O11.out hb12)
      have L12 := Lib.hid (L11.out.below (hb12.mono (Nat.le_trans hz10 hz11)))
      have hz12 := hb12.size
      have R12 := Lib.hid (Lies.of_own ho12).reads
      obtain ⟨m2, hm2⟩ : ∃ m2, (findB fs2 s).length = m2 := ⟨_, rfl⟩
      have hm2n : m2 ≤ n2 := by
        have := findB_len fs2 s n2
        rw [List.take_of_length_le (by rw [H2.out.1]; exact Nat.le_refl _), hm2] at this
        exact this
      rw [hm2] at R12 ⊢
      have HM2 := Lib.hid hm2
      clear ho12 hb12 hm2 HF2 HLO O11 L11 B11
      go_wp2_with (at_builtin; refine wpList_append_any _ rfl _ _ 61 rfl w.heap.size 9 i1 _ 1 16 Tryz.underlying61 hi1 hy0 hy1 hy2 rfl (by decide) v10 (0 + m1) ([] ++ (findB fs s).map Value.string) rfl O12.out w12.heap.size A12 m2 c12 ((findB fs2 s).map Value.string) rfl R12.out (str_one _) (by unfold maxLen; omega) (by omega) B12.out.size ?_; intro v13 w13 hown13 hg13 hor13)
      have B13 := Lib.hid (B12.out.grown hg13 B12.out.size (fun b hb => by have := HV10.out b hb; have := B9.out.size; omega))
      have L13 := Lib.hid ((L12.out.keep fun p hp => hg13.cell_far p (by omega) (fun e => by have := HV10.out _ e.symm; omega)).more (show w9.heap.size ≤ w13.heap.size by have := hg13.size; omega))
      have O13 : w13.ownsRow w.heap.size 9 1 v13 j ((findB (fs ++ fs2) s).map Value.string) := by
        have e1 : 0 + m1 + m2 = j := by
          rw [← HMM.out, findB_append, List.length_append, HM1.out, HM2.out]
          omega
        rw [findB_append, List.map_append]
        rw [e1] at hown13
        exact hown13
      obtain ⟨A13, c13, rfl⟩ := own_form O13
      have HS := Lib.hid (sametexts_any A7 A13 j c7 c13 w13.heap.size (findB (fs ++ fs2) s) w13 L13.out (Lies.of_own O13) (by omega))
      clear O13 hown13 hg13 hor13
      refine (HS.out).mono ?_
      rintro e w14 ⟨rfl, q, rfl⟩
      have B14 := Lib.hid (below_drewN B13.out q)
      go_wp2_with fail
      go_ret
      exact ⟨rfl, B14.out⟩
end Go.Proofs.YtonlfplloenfcaaGreatDoor
namespace Go.Proofs.YtonlfplloenfcaaGreatDoor
open Go.RowKit

set_option maxRecDepth 100000 in
theorem greatl_any (A : Option Addr) (n c : Nat) (fs : List Fd) (w : World) (h : FRead w w.heap.size A n fs) (hs : FSmall fs) (h4 : n ≤ 140737488355328) :
   Calls Tryz.prog 40 #[.slice A n c] w fun e w' => e = .returned (.bool (bigB 0 fs)) ∧ Below w.heap.size w w' := by
  obtain ⟨hlen, hcells⟩ := h
  have HL := Lib.hid hlen
  have HS := Lib.hid hs
  clear hlen hs
  go_enter Tryz.func40, Tryz.ntmps40
  go_wp2
  go_loopw [3, 4] (fun v i wr => ∃ k m : Nat, k ≤ n ∧ i = .int .i64 k ∧ v = .int .i64 m ∧ Hid (m = fsum (fs.take k)) ∧ m ≤ 844424930131968 ∧
      (∃ q, wr = w.drewN q)) (fun _ i _ => n - (intOf i).toNat)
  case atStart => exact ⟨0, 0, Nat.zero_le _, rfl, by go_num, by simp [Hid, fsum], by omega, 0, rfl⟩
  case round =>
    obtain ⟨k, m, hk, rfl, rfl, hm, hmb, q, rfl⟩ := hrel
    by_cases hlt : k < n
    · by_cases hm2 : m ≤ 200000
      · obtain ⟨b, off, rfl, hb, hc⟩ := hcells (by omega)
        obtain ⟨f, hf⟩ : ∃ f, fs[k]? = some f := ⟨fs[k]'(by rw [HL.out]; exact hlt), List.getElem?_eq_getElem (by rw [HL.out]; exact hlt)⟩
        have hc1 := (hc k f hf).1
        have hc2 := (hc k f hf).2
        have hsz := HS.out f (List.mem_of_getElem? hf)
        have hsz1 := hsz.1
        have hsz2 := hsz.2
        have HF := Lib.hid hf
        have HC := Lib.hid hc
        clear hf hc hsz hcells
        obtain ⟨f1, f2⟩ := f
        simp only at hc1 hc2 hsz1 hsz2
        go_wp2
        go_quiet (fail)
        go_wp2
        go_roundw
        case rel =>
          refine ⟨k + 1, m + (2 + f1.size + f2.size), by omega, by go_num, by go_num, ?_, by omega, _, rfl⟩
          have e := fsum_succ fs k _ HF.out
          have := hm.out
          unfold Hid
          simp only at e
          omega
        case measure => simp [intOf]; omega
      · have hm3 : (200000 : Int) < (m : Int) := by omega
        clear hcells
        go_wp2
        go_ret
        refine ⟨ret_bool ?_, ?_⟩
        · have := hm.out
          have := fsum_le fs k
          unfold bigB
          exact (decide_eq_true (by omega)).symm
        · exact below_drewN (Below.refl _ _) _
    · obtain rfl : k = n := by omega
      clear hcells
      have hm9 : m = fsum fs := by
        have := hm.out
        rw [List.take_of_length_le (by rw [HL.out]; exact Nat.le_refl _)] at this
        exact this
      have HM9 := Lib.hid hm9
      clear hm9
      go_wp2
      go_ret
      refine ⟨ret_bool ?_, ?_⟩
      · unfold bigB
        rw [Nat.zero_add, ← HM9.out]
        rw [Bool.eq_iff_iff, decide_eq_true_iff, decide_eq_true_iff]
        omega
      · exact below_drewN (Below.refl _ _) _
theorem beyond_three (x y z : Nat) (w : World) (hx : x ≤ 140737488355328) (hy : y ≤ 140737488355328) (hz : z ≤ 140737488355328) :
    Calls Tryz.prog 41 #[.slice (some ⟨w.heap.size, 0, none⟩) 3 3] (w.alloc (.cells #[.int .i64 (x : Int), .int .i64 (y : Int), .int .i64 (z : Int)] 3)) fun e w' => e = .returned (.bool (decide (1048576 < x + y + z))) ∧ w.alloc (.cells #[.int .i64 (x : Int), .int .i64 (y : Int), .int .i64 (z : Int)] 3) = w' := by
  refine (beyond_any (some ⟨w.heap.size, 0, none⟩) 3 3 [x, y, z] _ ⟨rfl, fun _ => ⟨_, _, rfl, by simp, fun j u hu => ?_⟩⟩ (by simp; omega) (by omega)).mono ?_
  · rw [Nat.zero_add, cell_alloc_at]
    simpa using hu
  · rintro e w' ⟨rfl, rfl⟩
    exact ⟨ret_bool (by rw [Bool.eq_iff_iff, decide_eq_true_iff, decide_eq_true_iff]; simp; omega), rfl⟩
theorem beyond_two (x y : Nat) (w : World) (hx : x ≤ 140737488355328) (hy : y ≤ 140737488355328) :
    Calls Tryz.prog 41 #[.slice (some ⟨w.heap.size, 0, none⟩) 2 2] (w.alloc (.cells #[.int .i64 (x : Int), .int .i64 (y : Int)] 3)) fun e w' => e = .returned (.bool (decide (1048576 < x + y))) ∧ w.alloc (.cells #[.int .i64 (x : Int), .int .i64 (y : Int)] 3) = w' := by
  refine (beyond_any (some ⟨w.heap.size, 0, none⟩) 2 2 [x, y] _ ⟨rfl, fun _ => ⟨_, _, rfl, by simp, fun j u hu => ?_⟩⟩ (by simp; omega) (by omega)).mono ?_
  · rw [Nat.zero_add, cell_alloc_at]
    simpa using hu
  · rintro e w' ⟨rfl, rfl⟩
    exact ⟨ret_bool (by rw [Bool.eq_iff_iff, decide_eq_true_iff, decide_eq_true_iff]; simp), rfl⟩
end Go.Proofs.YtonlfplloenfcaaGreatDoor
namespace Go.Proofs.YtonlfplloenfcaaGreatDoor
open Go.RowKit

/-- A head that was put is read back. -/
theorem back_g {m t : ByteArray} {fs : List Fd} (h : headE m t fs = 0) (r : List UInt8) : gE askK (headT m t fs ++ r) = 0 ∧ gM askK (headT m t fs ++ r) = m ∧ gT askK (headT m t fs ++ r) = t ∧ gS askK (headT m t fs ++ r) = 0 ∧ gN askK (headT m t fs ++ r) = ((headT m t fs).length : Int) ∧ gF askK (headT m t fs ++ r) = fs := by
  obtain ⟨h1, h2, h3, h4, h5⟩ := headE_parts h
  obtain ⟨r1, r2, r3⟩ := read_back h r
  obtain ⟨hl, he⟩ := head_lines h r
  obtain ⟨a1, a2, a3⟩ := ask_back h1 h2
  have e : gE askK (headT m t fs ++ r) = 0 := r1
  have f : firstL (headT m t fs ++ r) = askLine m t := r3
  have g2 : endAt (headT m t fs ++ r) + 4 = ((headT m t fs).length : Int) := by
    have h6 : 4 ≤ (headT m t fs).length := by rw [head_len, joinL_len_cons]; omega
    rw [he]; omega
  unfold gM gT gS gN gF
  rw [e, if_pos rfl, if_pos rfl, if_pos rfl, if_pos rfl, if_pos rfl, f, g2, r2]
  refine ⟨rfl, ?_, ?_, rfl, rfl, rfl⟩
  · show (⟨(askM (askLine m t)).toArray⟩ : ByteArray) = m
    rw [a2]
  · show (⟨(askTo (askLine m t)).toArray⟩ : ByteArray) = t
    rw [a3]
theorem sum_of_big {m : Nat} {fs : List Fd} (h : bigB m fs = false) : m + fsum fs ≤ 200000 := by
  unfold bigB at h
  have := of_decide_eq_false h
  omega
theorem lies_cut {w : World} {B n k : Nat} {A : Option Addr} {l : List UInt8} (h : Lies w B A n (Lib.byteCells l)) (hk : k ≤ n) : Lies w B A k (Lib.byteCells (l.take k)) := by
  have hl : l.length = n := by simpa [Lib.byteCells] using h.1
  refine ⟨by simp [Lib.byteCells]; omega, fun h0 => ?_⟩
  obtain ⟨b, o, e, hb, hc⟩ := h.2 (by omega)
  refine ⟨b, o, e, hb, fun j u hu => hc j u ?_⟩
  unfold Lib.byteCells at hu ⊢
  rw [List.map_take, List.getElem?_take] at hu
  split at hu
  · exact hu
  · cases hu
theorem headT_pos (m t : ByteArray) (fs : List Fd) : 4 ≤ (headT m t fs).length := by
  rw [head_len, joinL_len_cons]
  omega

set_option maxRecDepth 100000 in
set_option maxHeartbeats 4000000 in
theorem headsback_any (s1 s2 : ByteArray) (st : Int) (A A2 A3 : Option Addr) (n c n2 c2 n3 c3 : Nat) (cut : Nat) (fs : List Fd) (l3 : List UInt8) (w : World) (h : FRead w w.heap.size A n fs) (hs : FSmall fs) (hn : n ≤ 140737488355328)
    (hn2 : n2 ≤ 140737488355328) (hz1 : s1.size ≤ 140737488355328) (hz2 : s2.size ≤ 140737488355328) (h3 : Lies w w.heap.size A3 n3 (Lib.byteCells l3)) (hn3 : n3 ≤ 140737488355328) (hcut : cut < 65536)
    (hm : MaxOk w) (hmg : maxG < w.heap.size) (he : ErrOk w) (heg : errG < w.heap.size) :
    Calls Tryz.prog 11 #[.agg #[.string s1, .string s2, .int .i64 st, .slice A n c, .slice A2 n2 c2], .slice A3 n3 c3, .int .u16 (cut : Int)] w fun e w' => e = .returned (.bool true) ∧ Below w.heap.size w w' := by
  have H := Lib.hid h
  have H3 := Lib.hid h3
  have HS := Lib.hid hs
  have HM := Lib.hid hm
  have HE := Lib.hid he
  have hll3 : l3.length = n3 := by simpa [Lib.byteCells] using h3.1
  have HLL3 := Lib.hid hll3
  have HA := Lib.hid (fun (W : World) (hb : Below w.heap.size w W) => alive_any W (hm.below hb hmg) (Nat.lt_of_lt_of_le hmg hb.size) (he.below hb heg) (Nat.lt_of_lt_of_le heg hb.size))
  have HG := Lib.hid (fun (W : World) (hb : Below w.heap.size w W) => great_any s1 s2 st A A2 n c n2 c2 fs W ((h.below hb).more hb.size) hs hz1 hz2 hn2 hn)
  clear h h3 hs hm he hll3
  have hk0 := Blk.new w 25 #[.string s1, .string s2, .int .i64 st, .slice A n c, .slice A2 n2 c2]
  have hB0 : Below w.heap.size w (w.alloc (.cells #[.string s1, .string s2, .int .i64 st, .slice A n c, .slice A2 n2 c2] 25)) := (Below.refl _ _).alloc (Nat.le_refl _) _
  have hl0 : w.heap.size < (w.alloc (.cells #[.string s1, .string s2, .int .i64 st, .slice A n c, .slice A2 n2 c2] 25)).heap.size := by simp
  have K0 := Lib.hid hk0
  have B0 := Lib.hid hB0
  clear hk0 hB0
  go_enter Tryz.func11, Tryz.ntmps11
  go_wp2_with fail
  generalize w.alloc (.cells #[.string s1, .string s2, .int .i64 st, .slice A n c, .slice A2 n2 c2] 25) = W0 at *
  refine (HA.out W0 B0.out).mono ?_
  rintro e w1 ⟨rfl, hb1⟩
  have B1 := Lib.hid (B0.out.trans (hb1.mono B0.out.size))
  have K1 := Lib.hid (K0.out.below hb1 hl0)
  clear hb1 K0 B0 hl0
  have hl1 : w.heap.size < w1.heap.size := K1.out.lt
  have a0 := K1.out.cell 0
  have a1 := K1.out.cell 1
  have a2 := K1.out.cell 2
  have a3 := K1.out.cell 3
  have a4 := K1.out.cell 4
  simp at a0 a1 a2 a3 a4
  go_wp2_with fail
  refine (HG.out w1 B1.out).mono ?_
  rintro e w2 ⟨rfl, hb2⟩
  have B2 := Lib.hid (B1.out.trans (hb2.mono B1.out.size))
  have K2 := Lib.hid (K1.out.below hb2 hl1)
  clear hb2 a0 a1 a2 a3 a4 K1
  have hl2 : w.heap.size < w2.heap.size := K2.out.lt
  cases hbig : bigB (s1.size + s2.size + n2) fs with
  | true =>
    go_wp2_with fail
    refine (HA.out w2 B2.out).mono ?_
    rintro e w3 ⟨rfl, hb3⟩
    have B3 := Lib.hid (B2.out.trans (hb3.mono B2.out.size))
    clear hb3
    go_wp2_with fail
    go_ret
    exact ⟨rfl, B3.out⟩
  | false =>
  have hsum := sum_of_big hbig
  obtain ⟨hn9, hf2⟩ := big_parts hbig
  have hnl : n ≤ 100000 := by rw [← H.out.1]; exact hn9
  clear hbig hn9 hf2
  have HBY := Lib.hid (beyond_len n3 w2 hn3)
  have hal1 : Below w2.heap.size w2 (w2.alloc (.cells #[.int .i64 (n3 : Int)] 3)) := (Below.refl _ _).alloc (Nat.le_refl _) _
  have Bx := Lib.hid (B2.out.trans (hal1.mono B2.out.size))
  have Kx := Lib.hid (K2.out.below hal1 hl2)
  clear hal1
  go_wp2_with fail
  refine (HBY.out).mono ?_
  rintro e w3 ⟨rfl, hw3⟩
  have B3 : Hid (Below w.heap.size w w3) := by rw [← hw3]; exact Bx
  have K3 : Hid (Blk w3 w.heap.size 25 #[.string s1, .string s2, .int .i64 st, .slice A n c, .slice A2 n2 c2]) := by rw [← hw3]; exact Kx
  clear hw3 Bx Kx HBY
  by_cases hbey : 1048576 < n3
  · have hd2 : decide (1048576 < n3) = true := decide_eq_true hbey
    go_wp2_with fail
    refine (HA.out w3 B3.out).mono ?_
    rintro e w4 ⟨rfl, hb4⟩
    have B4 := Lib.hid (B3.out.trans (hb4.mono B3.out.size))
    clear hb4
    go_wp2_with fail
    go_ret
    exact ⟨rfl, B4.out⟩
  have hd2 : decide (1048576 < n3) = false := decide_eq_false hbey
  have hl3 : w.heap.size < w3.heap.size := K3.out.lt
  have a0 := K3.out.cell 0
  have a1 := K3.out.cell 1
  have a2 := K3.out.cell 2
  have a3 := K3.out.cell 3
  have a4 := K3.out.cell 4
  simp at a0 a1 a2 a3 a4
  have HPU := Lib.hid (hput_any s1 s2 st A A2 n c n2 c2 fs w3 ((H.out.below B3.out).more B3.out.size) HS.out (by omega))
  go_wp2_with fail
  refine (HPU.out).mono ?_
  rintro e w4 ⟨v4, rfl, ho4, hb4⟩
  obtain ⟨A4, c4, rfl⟩ := own_form ho4
  have B4 := Lib.hid (B3.out.trans (hb4.mono B3.out.size))
  have K4 := Lib.hid (K3.out.below hb4 hl3)
  have hz34 := hb4.size
  clear hb4 a0 a1 a2 a3 a4 K3 HPU
  have hl4 : w.heap.size < w4.heap.size := K4.out.lt
  by_cases hE : headE s1 s2 fs = 0
  · have hO : headO s1 s2 fs = headT s1 s2 fs := by unfold headO; rw [if_pos hE]
    rw [hO] at ho4 ⊢
    rw [hE]
    have hpos := headT_pos s1 s2 fs
    have hmax : (headT s1 s2 fs).length ≤ 65536 := (headE_parts hE).2.2.2.2
    have HPART := Lib.hid (fun k hk => read_part hE askOK k hk)
    have HBACK := Lib.hid (back_g hE l3)
    obtain ⟨L, hL⟩ : ∃ L, headT s1 s2 fs = L := ⟨_, rfl⟩
    rw [hL] at ho4 hpos hmax HPART HBACK ⊢
    obtain ⟨N, hN⟩ : ∃ N, L.length = N := ⟨_, rfl⟩
    rw [hN] at ho4 hpos hmax HPART HBACK ⊢
    have HN := Lib.hid hN
    have O4 := Lib.hid ho4
    have hcap := own_cap ho4
    obtain ⟨k, hk⟩ : ∃ k, cut % N = k := ⟨_, rfl⟩
    have hkN : k < N := by rw [← hk]; exact Nat.mod_lt _ (by omega)
    have hmod : (cut : Int) % (N : Int) = (k : Int) := by rw [← hk]; rfl
    have hne : ((N : Int) == 0) = false := beq_eq_false_iff_ne.2 (by omega)
    clear hk hL hO hN ho4 hE
    go_wp2_with fail
    have HR1 := Lib.hid (hrequest_opt A4 k c4 (L.take k) w4 (lies_cut (Lies.of_own O4.out) (by omega)) (by omega) (by omega) (HM.out.below B4.out hmg) (Nat.lt_of_lt_of_le hmg B4.out.size))
    have h7 : gE askK (L.take k) = 7 := HPART.out k hkN
    obtain ⟨g1, g2, g3, g4, g5⟩ := refused h7 (by decide)
    refine (HR1.out).mono ?_
    rintro e w5 ⟨⟨v5, he5, ho5⟩, hb5⟩
    rw [h7, g1, g2, g4, g5] at he5
    rw [g3] at ho5
    subst he5
    obtain ⟨A5, c5, rfl⟩ := own_form ho5
    have B5 := Lib.hid (B4.out.trans (hb5.mono B4.out.size))
    have K5 := Lib.hid (K4.out.below hb5 hl4)
    have O5 := Lib.hid (own_below O4.out hb5)
    have hz35 := Nat.le_trans hz34 hb5.size
    clear hb5 ho5 HR1 h7 g1 g2 g3 g4 g5 O4 K4 HPART
    have hl5 : w.heap.size < w5.heap.size := K5.out.lt
    have hal : Below w5.heap.size w5 (w5.alloc (.cells #[.string ⟨#[]⟩, .string ⟨#[]⟩, .int .i64 0, .slice A5 0 c5, .slice none 0 0] 25)) := (Below.refl _ _).alloc (Nat.le_refl _) _
    obtain ⟨W6, hW6⟩ : ∃ W6, w5.alloc (.cells #[.string ⟨#[]⟩, .string ⟨#[]⟩, .int .i64 0, .slice A5 0 c5, .slice none 0 0] 25) = W6 := ⟨_, rfl⟩
    rw [hW6] at hal
    have B6 := Lib.hid (B5.out.trans (hal.mono B5.out.size))
    have K6 := Lib.hid (K5.out.below hal hl5)
    have O6 := Lib.hid (own_below O5.out hal)
    have HW6 := Lib.hid hW6
    have hl6 : w.heap.size < W6.heap.size := K6.out.lt
    have HRR := Lib.hid ((H3.out.below B6.out).more B6.out.size).reads
    have LS6 := Lib.hid (((H.out.below B6.out).more B6.out.size))
    have hz36 := Nat.le_trans hz35 hal.size
    clear hal hW6 O5 K5
    obtain ⟨i0, hi, hz0, hz1', hz2'⟩ := info_parts infoU
    go_wp2_with (at_builtin; refine wpList_append_any _ rfl _ _ 23 rfl w3.heap.size 5 i0 _ 1 1 Tryz.underlying23 hi hz0 hz1' hz2' rfl (by decide) (Value.slice A4 N c4) N (Lib.byteCells L) rfl (by rw [HW6.out]; exact O6.out) W6.heap.size A3 n3 c3 (Lib.byteCells l3) rfl (by rw [HW6.out]; exact HRR.out) (cells_one l3) (by unfold maxLen; omega) (by omega) (by rw [HW6.out]; exact hz36) ?_; intro v7 w7 hown7 hg7 hor7; rw [HW6.out] at hg7 hor7)
    have hown6 : ∀ b, (Value.slice A4 N c4).ownBlock = some b → w.heap.size ≤ b := fun b hb => Nat.le_trans (Nat.le_of_lt hl3) (O6.out.lt b hb).1
    have B7 := Lib.hid (B6.out.grown hg7 B6.out.size hown6)
    have K7 := Lib.hid (K6.out.grown hg7 (Ne.symm (own_blk_ne O6.out K6.out (by decide))))
    have O7 : w7.ownsRow w3.heap.size 5 1 v7 (N + n3) (Lib.byteCells (L ++ l3)) := by
      have e1 : Lib.byteCells (L ++ l3) = Lib.byteCells L ++ Lib.byteCells l3 := by unfold Lib.byteCells; rw [List.map_append]
      rw [e1]
      exact hown7
    obtain ⟨A7, c7, rfl⟩ := own_form O7
    have HR2 := Lib.hid (hrequest_opt A7 (N + n3) c7 (L ++ l3) w7 (Lies.of_own O7) (own_cap O7) (by omega) (HM.out.below B7.out hmg) (Nat.lt_of_lt_of_le hmg B7.out.size))
    clear hown7 hg7 hor7 O7 hown6 HW6 HRR LS6 K6 O6
    refine (HR2.out).mono ?_
    obtain ⟨b1, b2, b3, b4, b5, b6⟩ := HBACK.out
    rintro e w8 ⟨⟨v8, he8, ho8⟩, hb8⟩
    rw [b1, b2, b3, b4, b5] at he8
    rw [b6] at ho8
    subst he8
    obtain ⟨A8, c8, rfl⟩ := own_form ho8
    have hl7 : w.heap.size < w7.heap.size := K7.out.lt
    have B8 := Lib.hid (B7.out.trans (hb8.mono B7.out.size))
    have K8 := Lib.hid (K7.out.below hb8 hl7)
    have hl8 : w.heap.size < w8.heap.size := K8.out.lt
    clear hb8 HR2 b1 b2 b3 b4 b5 b6 K7 HBACK
    have hfl : fs.length = n := H.out.1
    rw [hfl] at ho8 ⊢
    have O8 := Lib.hid ho8
    clear ho8
    have hal : Below w8.heap.size w8 (w8.alloc (.cells #[.string s1, .string s2, .int .i64 0, .slice A8 n c8, .slice none 0 0] 25)) := (Below.refl _ _).alloc (Nat.le_refl _) _
    have qb := Blk.new w8 25 #[.string s1, .string s2, .int .i64 0, .slice A8 n c8, .slice none 0 0]
    obtain ⟨W9, hW9⟩ : ∃ W9, w8.alloc (.cells #[.string s1, .string s2, .int .i64 0, .slice A8 n c8, .slice none 0 0] 25) = W9 := ⟨_, rfl⟩
    have QB : Hid (Blk W9 w8.heap.size 25 #[.string s1, .string s2, .int .i64 0, .slice A8 n c8, .slice none 0 0]) := by rw [← hW9]; exact qb
    have B9 : Hid (Below w.heap.size w W9) := by rw [← hW9]; exact Lib.hid (B8.out.trans (hal.mono B8.out.size))
    have K9 := K8.out.alloc (.cells #[.string s1, .string s2, .int .i64 0, .slice A8 n c8, .slice none 0 0] 25)
    have a0 := K9.cell 0
    have a1 := K9.cell 1
    have a3 := K9.cell 3
    have r0 := qb.cell 0
    have r1 := qb.cell 1
    have r2 := qb.cell 2
    have r3 := qb.cell 3
    have r4 := qb.cell 4
    simp at a0 a1 a3 r0 r1 r2 r3 r4
    rw [hW9] at hal
    have HSF := Lib.hid (samefields_any A8 A n c8 c W9.heap.size fs W9 (fread_own hfl (own_below O8.out hal)) ((H.out.below B9.out).more B9.out.size) (by omega))
    have HW9 := Lib.hid hW9
    have d1 : ((N : Int) == (N : Int)) = true := beq_iff_eq.2 rfl
    clear hal hW9 K9 qb
    go_wp2_with fail
    rw [HW9.out]
    clear a0 a1 a3 r0 r1 r2 r3 r4
    refine (HSF.out).mono ?_
    rintro e w10 ⟨rfl, q, rfl⟩
    have c2' := (QB.out.drewN q).cell 2
    have c4' := (QB.out.drewN q).cell 4
    simp at c2' c4'
    have B10 := Lib.hid (below_drewN B9.out q)
    clear HSF
    go_wp2_with fail
    go_ret
    exact ⟨rfl, B10.out⟩
  · have hO : headO s1 s2 fs = [] := by unfold headO; rw [if_neg hE]
    rw [hO] at ho4 ⊢
    rcases (headE_cases s1 s2 fs) with h | h | h
    · exact absurd h hE
    · rw [h]
      clear h hE hO ho4
      go_wp2_with fail
      go_ret
      exact ⟨rfl, B4.out⟩
    · rw [h]
      clear h hE hO ho4
      go_wp2_with fail
      go_ret
      exact ⟨rfl, B4.out⟩
end Go.Proofs.YtonlfplloenfcaaGreatDoor
namespace Go.Proofs.YtonlfplloenfcaaGreatDoor
open Go.RowKit Go.Shelf

theorem eqin_func (d : Nat) (f : Fn) (r c : Array Value) (w : World) : (Op.equalIn (d + 1) 135 (.func f r c) .nilFunc).run Tryz.prog w = .ok false w := by
  simp [Op.equalIn, run_underlying Tryz.underlying135]
theorem eqin_nil (d : Nat) (w : World) : (Op.equalIn (d + 1) 135 .nilFunc .nilFunc).run Tryz.prog w = .ok true w := by
  simp [Op.equalIn, run_underlying Tryz.underlying135]
theorem eq_func (f : Fn) (r c : Array Value) (w : World) : (Op.equal 135 (.func f r c) .nilFunc).run Tryz.prog w = .ok false w := eqin_func 9999 f r c w
theorem eq_nilf (w : World) : (Op.equal 135 .nilFunc .nilFunc).run Tryz.prog w = .ok true w := eqin_nil 9999 w
theorem neq_func (f : Fn) (r c : Array Value) (w : World) : (binOp .neq 135 (.func f r c) .nilFunc).run Tryz.prog w = .ok (.bool true) w := by
  simp only [binOp]
  simp [eq_func, Result.andThen]
theorem neq_nilf (w : World) : (binOp .neq 135 .nilFunc .nilFunc).run Tryz.prog w = .ok (.bool false) w := by
  simp only [binOp]
  simp [eq_nilf, Result.andThen]
/-- How much is still to be done. -/
def rankV (n g : Nat) (v : Value) (W : World) : Nat := match v with
  | .nilFunc => n - atOf g W
  | _ => n - atOf g W + 1
theorem rankV_eq {w W : World} {A : Option Addr} {n c k all now left : Nat} {l body : List UInt8} {ans : ChunkA} {st : St} {e : Int} {d : Bool} {vb : Value} (h : RI w W A n c l ans st k body all now e d left vb) : rankV n w.heap.size (stV w.heap.size st) W = St.rank n st k := by
  unfold rankV
  rw [atOf_eq h]
  cases st <;> rfl
theorem stop_end {l : List UInt8} {k all now : Nat} {body : List UInt8} {z : Int} {d : Bool} (h : Tells l (chunkA l) .stop k body all now z d) : (z ≠ 0 ∧ d = false ∧ chunkA l = .err z) ∨ (z = 0 ∧ d = true ∧ chunkA l = .done body (l.drop k)) ∨ (z = 0 ∧ d = false ∧ chunkA l = .more body) := by
  rcases h with ⟨h1, h2, h3⟩ | h | h
  · exact .inl ⟨by rcases h1 with rfl | rfl <;> decide, h2, h3⟩
  · exact .inr (.inl h)
  · exact .inr (.inr h)

set_option maxRecDepth 100000 in
set_option maxHeartbeats 4000000 in
theorem bchunked_any (A : Option Addr) (n c : Nat) (l : List UInt8) (w : World) (h : Lies w w.heap.size A n (Lib.byteCells l)) (hc : n ≤ c) (hn : n ≤ 2000000) (hm : MaxOk w) (hmg : maxG < w.heap.size) :
    Calls Tryz.prog 36 #[.slice A n c] w (ChunkPost l w) := by
  have hll : l.length = n := by simpa [Lib.byteCells] using h.1
  have hb1 : Below w.heap.size w (w.alloc (.cells #[.slice A n c, .int .i64 0, .slice none 0 0, .int .i64 65536, .int .i64 0, .int .i64 0, .bool false] 133)) := (Below.refl _ _).alloc (Nat.le_refl _) _
  have hri : RI w (w.alloc (.cells #[.slice A n c, .int .i64 0, .slice none 0 0, .int .i64 65536, .int .i64 0, .int .i64 0, .bool false] 133)) A n c l (chunkA l) .size 0 [] 0 0 0 false 65536 (.slice none 0 0) :=
    ⟨Blk.new w _ _, World.ownsRow_nil _ _ _ _, tells_start l, Nat.zero_le _, fun _ => rfl, hb1, Nat.le_refl _⟩
  have HL := Lib.hid (fun (W : World) (hb : Below w.heap.size w W) => h.below hb)
  have HSIZE := Lib.hid (fun (W : World) (k all now left : Nat) (body : List UInt8) (z : Int) (d : Bool) (vb : Value) (hr : RI w W A n c l (chunkA l) .size k body all now z d left vb) => bsize_any w W A n c k all now left l body (chunkA l) z d vb hr (h.below hr.bel) hc hn hm hmg)
  have HFIELDS := Lib.hid (fun (W : World) (k all now left : Nat) (body : List UInt8) (z : Int) (d : Bool) (vb : Value) (hr : RI w W A n c l (chunkA l) .fields k body all now z d left vb) => bfields_any w W A n c k all now left l body (chunkA l) z d vb hr (h.below hr.bel) hc hn hm hmg)
  have HCHUNK := Lib.hid (fun (W : World) (k all now left : Nat) (body : List UInt8) (z : Int) (d : Bool) (vb : Value) (hr : RI w W A n c l (chunkA l) .chunk k body all now z d left vb) => bchunk_any w W A n c k all now left l body (chunkA l) z d vb hr h hc hn)
  have HR0 := Lib.hid (bsize_any w _ A n c 0 0 0 65536 l [] (chunkA l) 0 false _ hri (h.below hb1) hc hn hm hmg)
  have HLL := Lib.hid hll
  clear h hm hri hb1 hll
  go_enter Tryz.func36, Tryz.ntmps36
  go_wp2_with fail
  refine (HR0.out).mono ?_
  rintro e w1 ⟨st, k, body, all, now, z, d, left, vb, rfl, hri, hrk⟩
  have HRI := Lib.hid hri
  obtain ⟨v0, hv0⟩ : ∃ v0, stV w.heap.size st = v0 := ⟨_, rfl⟩
  rw [hv0]
  have HV0 := Lib.hid hv0
  clear hri hrk HR0 hv0
  go_wp2_with fail
  go_loopw [7] (fun v wr => ∃ st k body all now z d left vb, v = stV w.heap.size st ∧ Hid (RI w wr A n c l (chunkA l) st k body all now z d left vb)) (fun v wr => rankV n w.heap.size v wr)
  case atStart => exact ⟨st, k, body, all, now, z, d, left, vb, HV0.out.symm, HRI⟩
  case round =>
    obtain ⟨st, k, body, all, now, z, d, left, vb, rfl, hri⟩ := hrel
    clear HRI HV0
    have hrank := rankV_eq hri.out
    cases st with
    | size =>
      have HS := Lib.hid (HSIZE.out wr k all now left body z d vb hri.out)
      have HRK := Lib.hid hrank
      clear hrank hri HSIZE HFIELDS HCHUNK
      have e1 : stV w.heap.size .size = .func (.func 111) #[.pointer (some ⟨w.heap.size, 0, none⟩)] #[] := rfl
      rw [e1]
      have hnf := neq_func (.func 111) #[.pointer (some ⟨w.heap.size, 0, none⟩)] #[]
      go_wp2_with fail
      refine (HS.out).mono ?_
      rintro e w2 ⟨st2, k2, body2, all2, now2, z2, d2, left2, vb2, rfl, hri2, hrk2⟩
      have HRI2 := Lib.hid hri2
      obtain ⟨v2, hv2⟩ : ∃ v2, stV w.heap.size st2 = v2 := ⟨_, rfl⟩
      rw [hv2]
      have HV2 := Lib.hid hv2
      clear hri2 hv2
      go_wp2_with fail
      go_roundw
      case rel => exact ⟨st2, k2, body2, all2, now2, z2, d2, left2, vb2, HV2.out.symm, HRI2⟩
      case measure =>
        have h1 := rankV_eq HRI2.out
        rw [HV2.out] at h1
        have h2 := HRK.out
        rw [e1] at h2
        omega
    | chunk =>
      have HS := Lib.hid (HCHUNK.out wr k all now left body z d vb hri.out)
      have HRK := Lib.hid hrank
      clear hrank hri HSIZE HFIELDS HCHUNK
      have e1 : stV w.heap.size .chunk = .func (.func 180) #[.pointer (some ⟨w.heap.size, 0, none⟩)] #[] := rfl
      rw [e1]
      have hnf := neq_func (.func 180) #[.pointer (some ⟨w.heap.size, 0, none⟩)] #[]
      go_wp2_with fail
      refine (HS.out).mono ?_
      rintro e w2 ⟨st2, k2, body2, all2, now2, z2, d2, left2, vb2, rfl, hri2, hrk2⟩
      have HRI2 := Lib.hid hri2
      obtain ⟨v2, hv2⟩ : ∃ v2, stV w.heap.size st2 = v2 := ⟨_, rfl⟩
      rw [hv2]
      have HV2 := Lib.hid hv2
      clear hri2 hv2
      go_wp2_with fail
      go_roundw
      case rel => exact ⟨st2, k2, body2, all2, now2, z2, d2, left2, vb2, HV2.out.symm, HRI2⟩
      case measure =>
        have h1 := rankV_eq HRI2.out
        rw [HV2.out] at h1
        have h2 := HRK.out
        rw [e1] at h2
        omega
    | fields =>
      have HS := Lib.hid (HFIELDS.out wr k all now left body z d vb hri.out)
      have HRK := Lib.hid hrank
      clear hrank hri HSIZE HFIELDS HCHUNK
      have e1 : stV w.heap.size .fields = .func (.func 179) #[.pointer (some ⟨w.heap.size, 0, none⟩)] #[] := rfl
      rw [e1]
      have hnf := neq_func (.func 179) #[.pointer (some ⟨w.heap.size, 0, none⟩)] #[]
      go_wp2_with fail
      refine (HS.out).mono ?_
      rintro e w2 ⟨st2, k2, body2, all2, now2, z2, d2, left2, vb2, rfl, hri2, hrk2⟩
      have HRI2 := Lib.hid hri2
      obtain ⟨v2, hv2⟩ : ∃ v2, stV w.heap.size st2 = v2 := ⟨_, rfl⟩
      rw [hv2]
      have HV2 := Lib.hid hv2
      clear hri2 hv2
      go_wp2_with fail
      go_roundw
      case rel => exact ⟨st2, k2, body2, all2, now2, z2, d2, left2, vb2, HV2.out.symm, HRI2⟩
      case measure =>
        have h1 := rankV_eq HRI2.out
        rw [HV2.out] at h1
        have h2 := HRK.out
        rw [e1] at h2
        omega
    | stop =>
      have HT := Lib.hid (stop_end hri.out.tells)
      have c1 := hri.out.blk.cell 1
      have c2 := hri.out.blk.cell 2
      have c5 := hri.out.blk.cell 5
      have c6 := hri.out.blk.cell 6
      simp [rdC] at c1 c2 c5 c6
      have HO := Lib.hid hri.out.own
      have HB := Lib.hid hri.out.bel
      have HK := Lib.hid hri.out.kle
      clear hrank hri HSIZE HFIELDS HCHUNK
      have e1 : stV w.heap.size .stop = .nilFunc := rfl
      rw [e1]
      have hnf := neq_nilf
      rcases HT.out with ⟨h1, rfl, h3⟩ | ⟨rfl, rfl, h3⟩ | ⟨rfl, rfl, h3⟩
      · have dz : ((z : Int) == 0) = false := beq_eq_false_iff_ne.2 h1
        have HP := Lib.hid (fun (X : World) (hX : Below w.heap.size w X) => post_err h3 hX)
        clear HT h3 h1
        go_wp2_with fail
        go_quiet (fail)
        go_wp2_with fail
        refine bodyPost_ret (results_tmp4 rfl _ _ _) rfl ?_
        exact HP.out _ (below_drewN HB.out _)
      · have HP := Lib.hid (fun (X : World) (hX : Below wr.heap.size wr X) => post_done (by rw [HLL.out]; exact HK.out) h3 (own_below HO.out hX) (HB.out.trans (hX.mono HB.out.size)))
        clear HT h3
        go_wp2_with fail
        go_quiet (fail)
        go_wp2_with fail
        refine bodyPost_ret (results_tmp4 rfl _ _ _) rfl ?_
        exact HP.out _ (below_drewN (Below.refl _ _) _)
      · have HP := Lib.hid (post_more h3 HO.out HB.out)
        rw [HLL.out] at HP
        clear HT h3
        go_wp2_with fail
        refine bodyPost_ret (results_tmp4 rfl _ _ _) rfl ?_
        exact HP.out
end Go.Proofs.YtonlfplloenfcaaGreatDoor
