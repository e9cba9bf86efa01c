/-
  package reader: Done.
  package reader: Put on a reader that has ended its work; End on one that waits. The calls of a law's text: got.
  footmanlaw20.got: what a reader has of bytes that come at once.
  What the laws of layer 20 share: footmanlaw20.great; Done on any reader; a list's rest.
  footmanlaw20.lives.
-/
import Derived.BigRegion
import Derived.Deep.RegionHeld3
import Derived.Test.YtonlfplloenfcaaGreatDoorRdDEtc
import Derived.Test.YtonlfplloenfcaaGreatDoorAHowEtc
namespace Go.Proofs.YtonlfplloenfcaaGreatDoor
open Go.RowKit

set_option maxRecDepth 100000 in
theorem own_drew {w : World} {base n size : Nat} {e : TypeId} {v : Value} {xs : List Value} (h : w.ownsRow base e size v n xs) : w.drew.ownsRow base e size v n xs := h
set_option maxRecDepth 100000 in
theorem rddone_not (p : Nat) (w : World) (mt : ByteArray) (vb nx vf vd : Value) (rd cm ms need ends e0 : Int) (m1 m2 : ByteArray) (hk : Blk w p 160 (rrC mt vb rd cm nx m1 m2 ms vf vd need ends 0 e0)) :
    Calls Tryz.prog 60 #[.pointer (some ⟨p, 0, none⟩)] w fun e w' => e = .returned (.tuple #[.agg #[.string ⟨#[]⟩, .string ⟨#[]⟩, .int .i64 0, .slice none 0 0, .slice none 0 0], .bool false, .bool false]) ∧ Below w.heap.size w w' := by
  have hal : Below w.heap.size w (w.alloc (.cells #[.string ⟨#[]⟩, .string ⟨#[]⟩, .int .i64 0, .slice none 0 0, .slice none 0 0] 25)) := (Below.refl _ _).alloc (Nat.le_refl _) _
  have hK := hk.below hal hk.lt
  have hg := Blk.new w 25 #[.string ⟨#[]⟩, .string ⟨#[]⟩, .int .i64 0, .slice none 0 0, .slice none 0 0]
  have HTH := Lib.hid (there_any p _ mt vb nx vf vd rd cm ms need ends 0 e0 m1 m2 hK)
  have c13 := hK.cell 13
  simp [rrC] at c13
  have HAL := Lib.hid hal
  have HG := Lib.hid hg
  clear hk hK hal hg
  go_enter Tryz.func60, Tryz.ntmps60
  go_wp2_with fail
  refine (HTH.out).mono ?_
  rintro e w1 ⟨rfl, rfl⟩
  clear HTH
  go_wp2_with fail
  refine bodyPost_ret (results_row_tmp2 rfl _ _ w.heap.size 25 _ (0, 0) _ rfl HG.out Tryz.underlying25 rfl infoM) rfl ?_
  exact ⟨rfl, HAL.out⟩
set_option maxRecDepth 100000 in
set_option maxHeartbeats 4000000 in
theorem rddone_fin (p : Nat) (w : World) (base : Nat) (mt : ByteArray) (nn : Nat) (s : Int) (f : List Fd) (b : List UInt8) (k : Bool) (hr : RdFin w base p mt nn s f b k) (hf1 : fsum f ≤ 100000) (hf2 : f.length ≤ 256) (hb1 : b.length ≤ 60000) (hm : MaxOk w) (hmg : maxG < w.heap.size) :
    Calls Tryz.prog 60 #[.pointer (some ⟨p, 0, none⟩)] w fun e w' => ∃ A1 A2 c1 c2, e = .returned (.tuple #[.agg #[.string ⟨#[]⟩, .string ⟨#[]⟩, .int .i64 s, .slice A1 f.length f.length, .slice A2 b.length b.length], .bool k, .bool true]) ∧ Below w.heap.size w w' ∧
      w'.ownsRow w.heap.size 63 2 (.slice A1 f.length c1) f.length (fcells f) ∧ w'.ownsRow w.heap.size 5 1 (.slice A2 b.length c2) b.length (Lib.byteCells b) := by
  obtain ⟨vb, cm, nx, m1, m2, vf, vd, need, ends, hk, hfd, _, hrl, _, hke⟩ := hr
  obtain ⟨Af, cf, rfl, hcf, hLf, _⟩ := hfd
  obtain ⟨Ad, cd, rfl, hcd, hLd, _⟩ := hrl
  have hfs : ∀ x ∈ f, x.1.size ≤ 100000 ∧ x.2.size ≤ 100000 := by
    intro x hx
    obtain ⟨j, hj⟩ := List.mem_iff_getElem?.1 hx
    have e1 := fsum_succ f j x hj
    have e2 := fsum_le f (j + 1)
    omega
  have hal : Below w.heap.size w (w.alloc (.cells #[.string ⟨#[]⟩, .string ⟨#[]⟩, .int .i64 0, .slice none 0 0, .slice none 0 0] 25)) := (Below.refl _ _).alloc (Nat.le_refl _) _
  have hK := hk.below hal hk.lt
  have hg := Blk.new w 25 #[.string ⟨#[]⟩, .string ⟨#[]⟩, .int .i64 0, .slice none 0 0, .slice none 0 0]
  have HTH := Lib.hid (there_any p _ mt vb nx _ _ (nn : Int) cm s need ends 1 0 m1 m2 hK)
  have HF := Lib.hid (fun (W : World) (hb : Below w.heap.size w W) => find_any Af f.length cf f ⟨#[99, 111, 110, 110, 101, 99, 116, 105, 111, 110]⟩ W ((hLf.below hb).more hb.size) (by omega) (by decide) (fun x hx => by have := (hfs x hx).1; omega))
  have hsz : ∀ x ∈ findB f connB, x.size ≤ 100000 := findB_size fun x hx => (hfs x hx).2
  have hcn := findB_len f connB f.length
  rw [List.take_of_length_le (Nat.le_refl _)] at hcn
  obtain ⟨C, hC⟩ : ∃ C, findB f connB = C := ⟨_, rfl⟩
  have hcb : connB = ⟨#[99, 111, 110, 110, 101, 99, 116, 105, 111, 110]⟩ := rfl
  rw [← hcb, hC] at HF
  rw [hC] at hsz hcn
  have HC := Lib.hid hC
  have HSZ := Lib.hid hsz
  have HSP := Lib.hid (fun (x : ByteArray) (W : World) (hx : x.size ≤ 100000) (hb : Below w.heap.size w W) => asplit_any x 44 W (by omega) (hm.below hb hmg) (Nat.lt_of_lt_of_le hmg hb.size))
  have HLF := Lib.hid hLf
  have HLD := Lib.hid hLd
  have HKE := Lib.hid hke
  have hpl := hk.lt
  have c13 := hK.cell 13
  have c9 := hK.cell 9
  simp [rrC] at c13 c9
  have HAL := Lib.hid hal
  have HG := Lib.hid hg
  have HK := Lib.hid hK
  have hz1 := hal.size
  have hgl := hg.lt
  have KEY := Lib.hid (fun (W : World) (hb : Below w.heap.size w W) => (by
    have hw := hk.below hb hpl
    have k8 := hw.cell 8
    have k9 := hw.cell 9
    have k10 := hw.cell 10
    simp [rrC] at k8 k9 k10
    exact ⟨k8, k9, k10⟩ : W.cell? ⟨p, 8, none⟩ = some (.int .i64 s) ∧ W.cell? ⟨p, 9, none⟩ = some (.slice Af f.length cf) ∧ W.cell? ⟨p, 10, none⟩ = some (.slice Ad b.length cd)))
  clear hk hK hal hg hC hcb hsz hfs hLf hLd hke hm
  go_enter Tryz.func60, Tryz.ntmps60
  go_wp2_with fail
  refine (HTH.out).mono ?_
  rintro e w1 ⟨rfl, rfl⟩
  clear HTH
  go_wp2_with fail
  generalize w.alloc (.cells #[.string ⟨#[]⟩, .string ⟨#[]⟩, .int .i64 0, .slice none 0 0, .slice none 0 0] 25) = W0 at *
  refine (HF.out W0 HAL.out).mono ?_
  rintro e w1 ⟨⟨vc, rfl, hoc⟩, hb2⟩
  obtain ⟨Ac, cc, rfl⟩ := own_form hoc
  have LC := Lib.hid (Lies.of_own hoc)
  have B1 := Lib.hid (HAL.out.trans (hb2.mono hz1))
  have K1 := Lib.hid (HK.out.below hb2 (by omega))
  have G1 := Lib.hid (HG.out.below hb2 hgl)
  have hz2 := hb2.size
  obtain ⟨m, hm⟩ : ∃ m, C.length = m := ⟨_, rfl⟩
  rw [hm] at LC hcn ⊢
  have HMM := Lib.hid hm
  clear hoc hb2 HF HK HG c13 c9 HAL hm
  go_wp2_with fail
  go_loopw [5, 26] (fun v i wr => ∃ (j : Nat) (q : Bool), j ≤ m ∧ i = .int .i64 j ∧ v = .bool q ∧ Hid ((C.take j).any closeP = q) ∧ Hid (Below w1.heap.size w1 wr)) (fun _ i _ => m - (intOf i).toNat)
  case atStart => exact ⟨0, false, Nat.zero_le _, rfl, rfl, rfl, Below.refl _ _⟩
  case round =>
    obtain ⟨j, q, hj, rfl, rfl, HQ, HB⟩ := hrel
    have BW := Lib.hid (B1.out.trans (HB.out.mono (by have := B1.out.size; omega)))
    by_cases hlt : j < m
    · obtain ⟨b5, off, u, rfl, hbb, hu, hc⟩ := LC.out.at_ hlt
      obtain ⟨x, hx⟩ : ∃ x, C[j]? = some x := ⟨C[j]'(by rw [HMM.out]; exact hlt), List.getElem?_eq_getElem (by rw [HMM.out]; exact hlt)⟩
      have hux : u = .string x := by rw [List.getElem?_map, hx] at hu; exact (Option.some.inj hu).symm
      subst hux
      have hc1 := (HB.out.cell (p := ⟨b5, off + j, none⟩) hbb).trans hc
      have hxs := HSZ.out x (List.mem_of_getElem? hx)
      have htk : C.take (j + 1) = C.take j ++ [x] := by rw [List.take_add_one, hx]; rfl
      have HTK := Lib.hid (show (C.take (j + 1)).any closeP = (q || closeP x) by rw [htk, List.any_append, HQ.out]; simp)
      clear hu hc hx htk
      cases q with
      | true =>
        go_wp2_with fail
        go_roundw
        case rel => exact ⟨j + 1, true, by omega, by go_num, rfl, HTK, HB⟩
        case measure => simp [intOf]; omega
      | false =>
        have HS1 := Lib.hid (HSP.out x wr hxs BW.out)
        obtain ⟨Y, hY⟩ : ∃ Y, splitT 44 x = Y := ⟨_, rfl⟩
        have hYs : ∀ y ∈ Y, y.size ≤ 1048576 := fun y hy => by
          have := sizes_splitT 44 x y (by rw [hY]; exact hy)
          omega
        have hYn : Y.length ≤ 100001 := by
          rw [← hY]
          unfold splitT
          rw [List.length_map, cutC_len]
          have h3 := List.count_le_length (a := 44) (l := x.data.toList)
          have h4 : x.data.toList.length = x.size := rfl
          omega
        have HCP := Lib.hid (show closeP x = Y.any isClose by unfold closeP; rw [hY]; rfl)
        rw [hY] at HS1
        obtain ⟨y, hy⟩ : ∃ y, Y.length = y := ⟨_, rfl⟩
        rw [hy] at HS1 hYn
        have HYS := Lib.hid hYs
        clear hY hYs hy
        go_wp2_with fail
        refine (HS1.out).mono ?_
        rintro e w3 ⟨⟨A3, c3, rfl, hl3⟩, hb3⟩
        have HB3 := Lib.hid (HB.out.trans (hb3.mono HB.out.size))
        have HCT := Lib.hid (containss_any A3 y c3 Y w3 hl3 HYS.out (by omega))
        clear hl3 hb3 HS1 hc1
        go_wp2_with fail
        refine (HCT.out).mono ?_
        rintro e w4 ⟨rfl, hb4⟩
        have HB4 := Lib.hid (HB3.out.trans (hb4.mono HB3.out.size))
        have HTK2 := Lib.hid (HTK.out.trans (by rw [HCP.out]; rfl : (false || closeP x) = Y.any isClose))
        obtain ⟨qq, hqq⟩ : ∃ qq, Y.any isClose = qq := ⟨_, rfl⟩
        rw [hqq] at HTK2 ⊢
        clear hb4 HCT hqq
        go_wp2_with fail
        go_roundw
        case rel => exact ⟨j + 1, qq, by omega, by go_num, rfl, HTK2, HB4⟩
        case measure => simp [intOf]; omega
    · obtain rfl : j = m := by omega
      have HQQ := Lib.hid (show C.any closeP = q by
        have := HQ.out
        rwa [List.take_of_length_le (by rw [HMM.out]; exact Nat.le_refl _)] at this)
      have K2 := Lib.hid (K1.out.below HB.out K1.out.lt)
      have G2 := Lib.hid (G1.out.below HB.out G1.out.lt)
      have HCF := Lib.hid (fun (W : World) (hb : Below w.heap.size w W) => clone_fields Af f.length cf f W ((HLF.out.below hb).more hb.size) (by omega))
      have HCB := Lib.hid (fun (W : World) (hb : Below w.heap.size w W) => clone_bytes Ad b.length cd b W ((HLD.out.below hb).more hb.size) (by omega))
      clear HB HQ HSP HSZ LC HMM B1 K1 G1 HLF HLD
      go_upto_region 9 with fail
      go_cut [] from 37 (fun wx => ∃ A1 A2 c1 c2, Hid (Below w.heap.size w wx) ∧ Hid (wx.ownsRow w.heap.size 63 2 (.slice A1 f.length c1) f.length (fcells f)) ∧ Hid (wx.ownsRow w.heap.size 5 1 (.slice A2 b.length c2) b.length (Lib.byteCells b)) ∧
        Hid (Blk wx w.heap.size 25 #[.string ⟨#[]⟩, .string ⟨#[]⟩, .int .i64 s, .slice A1 f.length f.length, .slice A2 b.length b.length]) ∧ Hid (Blk wx p 160 (rrC mt vb (nn : Int) cm nx m1 m2 s (.slice Af f.length cf) (.slice Ad b.length cd) need ends 1 0)))
      case first =>
        have B0d := BW.out.drew
        have Kd := K2.out.drew
        have Gd := G2.out.drew
        have hpld : p < wr.drew.heap.size := Kd.lt
        have hgld : w.heap.size < wr.drew.heap.size := Gd.lt
        have hS0 := KEY.out wr.drew B0d
        go_region_held3 (fun W => W.cell? ⟨p, 8, none⟩ = some (.int .i64 s) ∧ W.cell? ⟨p, 9, none⟩ = some (.slice Af f.length cf) ∧ W.cell? ⟨p, 10, none⟩ = some (.slice Ad b.length cd))
          (first | go_keep | exact KEY.out _ (by assumption) | exact KEY.out _ (Below.setCell (p := ⟨w.heap.size, 4, none⟩) (Below.setCell (p := ⟨w.heap.size, 3, none⟩) (Below.setCell (p := ⟨w.heap.size, 2, none⟩) (Below.setCell (p := ⟨w.heap.size, 1, none⟩) (Below.setCell (p := ⟨w.heap.size, 0, none⟩) (by assumption) (Nat.le_refl _) _) (Nat.le_refl _) _) (Nat.le_refl _) _) (Nat.le_refl _) _) (Nat.le_refl _) _))
          (first
            | (go_at_call 138; first
              | ((with_reducible refine (HCF.out _ B0d).mono ?_); rintro e wf ⟨A1, cF, rfl, oF, hbF⟩; have XF := below_step B0d hbF; have GF := Gd.below hbF hgld; have KF := Kd.below hbF hpld; have pF := ownsRow_base oF B0d.size; have capF := own_cap oF; have hplf := KF.lt; have hglf := GF.lt; clear hbF oF)
              | ((with_reducible refine (HCF.out _ XB).mono ?_); rintro e wb ⟨A1, cF, rfl, oF, hbF⟩; have XX := below_step XB hbF; have q1 := ownsRow_base oF XB.size; have q2 := own_below pB hbF; have capF := own_cap oF; have GG := GB1.below hbF hglb; have KK := KB1.below hbF hplb; have d0 := GG.cell 0; have d1 := GG.cell 1; have d2 := GG.cell 2; have d3 := GG.cell 3; have d4 := GG.cell 4; have e0 := GG.frozen 0; have e1 := GG.frozen 1; have e2 := GG.frozen 2; have e3 := GG.frozen 3; have e4 := GG.frozen 4; simp at d0 d1 d2 d3 d4))
            | (go_at_call 140; first
              | ((with_reducible refine (HCB.out _ B0d).mono ?_); rintro e wf ⟨A2, cB, rfl, oB, hbB⟩; have XB := below_step B0d hbB; have GB1 := Gd.below hbB hgld; have KB1 := Kd.below hbB hpld; have pB := ownsRow_base oB B0d.size; have capB := own_cap oB; have hplb := KB1.lt; have hglb := GB1.lt; clear hbB oB)
              | ((with_reducible refine (HCB.out _ XF).mono ?_); rintro e wb ⟨A2, cB, rfl, oB, hbB⟩; have XX := below_step XF hbB; have q1 := own_below pF hbB; have q2 := ownsRow_base oB XF.size; have capB := own_cap oB; have GG := GF.below hbB hglf; have KK := KF.below hbB hplf; have d0 := GG.cell 0; have d1 := GG.cell 1; have d2 := GG.cell 2; have d3 := GG.cell 3; have d4 := GG.cell 4; have e0 := GG.frozen 0; have e1 := GG.frozen 1; have e2 := GG.frozen 2; have e3 := GG.frozen 3; have e4 := GG.frozen 4; simp at d0 d1 d2 d3 d4))
            | (go_at_call 137; refine (clip_fields _ _ _ _ capF).mono ?_; rintro e wq ⟨rfl, rfl⟩)
            | (go_at_call 139; refine (clip_bytes _ _ _ _ capB).mono ?_; rintro e wq ⟨rfl, rfl⟩))
        all_goals
          go_wp2_with fail
          go_meet
          obtain ⟨W5, hW5, hk5, ht5, hbel5, _⟩ := set_five GG (.string ⟨#[]⟩) (.string ⟨#[]⟩) (.int .i64 s) (.slice A1 f.length f.length) (.slice A2 b.length b.length)
          rw [hW5]
          exact ⟨A1, A2, _, _, XX.trans (hbel5 _ (Nat.le_refl _)), own_tys q1 ht5 (by decide), own_tys q2 ht5 (by decide), hk5, KK.below (hbel5 w.heap.size (Nat.le_refl _)) hpl⟩
      case rest =>
      obtain ⟨A1, A2, x1, x2, HBX, HO1, HO2, HGX, HKX⟩ := hcut
      clear K2 G2 HCF HCB BW
      have x12 := HKX.out.cell 12
      simp [rrC] at x12
      have g0 := HGX.out.cell 0
      have g1 := HGX.out.cell 1
      have g2 := HGX.out.cell 2
      have g3 := HGX.out.cell 3
      have g4 := HGX.out.cell 4
      have h0 := HGX.out.frozen 0
      have h1 := HGX.out.frozen 1
      have h2 := HGX.out.frozen 2
      have h3 := HGX.out.frozen 3
      have h4 := HGX.out.frozen 4
      simp at g0 g1 g2 g3 g4
      have hkb : keepB f = !q := by
        unfold keepB
        rw [HC.out, HQQ.out]
      obtain ⟨W5, hW5, hk5, ht5, hbel5, _⟩ := set_five HGX.out (.string ⟨#[]⟩) (.string ⟨#[]⟩) (.int .i64 s) (.slice A1 f.length f.length) (.slice A2 b.length b.length)
      have HEND := Lib.hid (And.intro hW5 (And.intro hk5.drew (And.intro (HBX.out.trans (hbel5 w.heap.size (Nat.le_refl _))).drew (And.intro (own_drew (own_tys HO1.out ht5 (by decide))) (own_drew (own_tys HO2.out ht5 (by decide)))))))
      clear hW5 hk5 ht5 hbel5
      have HKB := Lib.hid hkb
      clear hkb
      rcases HKE.out with ⟨he, hk9⟩ | ⟨he, hk9⟩
      · subst he
        have HK9 := Lib.hid (hk9.trans HKB.out)
        clear hk9
        cases q
        all_goals
          go_upto_region 10 with fail
          go_region
          all_goals
            rw [HEND.out.1]
            go_wp2_with fail
            refine bodyPost_ret (results_row_tmp2 rfl _ _ w.heap.size 25 _ (0, 0) _ rfl HEND.out.2.1 Tryz.underlying25 rfl infoM) rfl ?_
            exact ⟨A1, A2, by rw [HK9.out]; rfl, HEND.out.2.2.1, ⟨x1, HEND.out.2.2.2.1⟩, ⟨x2, HEND.out.2.2.2.2⟩⟩
      · subst he
        have HK9 := Lib.hid hk9
        clear hk9
        go_upto_region 10 with fail
        go_region
        all_goals
          rw [HEND.out.1]
          go_wp2_with fail
          refine bodyPost_ret (results_row_tmp2 rfl _ _ w.heap.size 25 _ (0, 0) _ rfl HEND.out.2.1 Tryz.underlying25 rfl infoM) rfl ?_
          exact ⟨A1, A2, by rw [HK9.out]; rfl, HEND.out.2.2.1, ⟨x1, HEND.out.2.2.2.1⟩, ⟨x2, HEND.out.2.2.2.2⟩⟩
end Go.Proofs.YtonlfplloenfcaaGreatDoor
namespace Go.Proofs.YtonlfplloenfcaaGreatDoor
open Go.RowKit

set_option maxRecDepth 100000 in
theorem rdput_fin (p : Nat) (w : World) (A : Option Addr) (n c : Nat) (mt : ByteArray) (vb nx vf vd : Value) (rd cm ms need ends : Int) (m1 m2 : ByteArray) (hk : Blk w p 160 (rrC mt vb rd cm nx m1 m2 ms vf vd need ends 1 0)) :
    Calls Tryz.prog 59 #[.pointer (some ⟨p, 0, none⟩), .slice A n c] w fun e w' => e = .returned (.tuple #[.int .i64 0, .int .i64 0]) ∧ ∃ q, w' = w.drewN q := by
  have HTH := Lib.hid (there_any p w mt vb nx vf vd rd cm ms need ends 1 0 m1 m2 hk)
  have c13 := hk.cell 13
  have c14 := hk.cell 14
  simp [rrC] at c13 c14
  clear hk
  go_enter Tryz.func59, Tryz.ntmps59
  go_wp2_with fail
  refine (HTH.out).mono ?_
  rintro e w1 ⟨rfl, rfl⟩
  clear HTH
  go_wp2_with fail
  go_quiet (fail)
  go_wp2_with fail
  go_ret2
  exact ⟨rfl, _, rfl⟩
set_option maxRecDepth 100000 in
theorem rdend_wait (p : Nat) (w : World) (base : Nat) (mt : ByteArray) (L : List UInt8) (vb : Value) (hr : RdOn w base p mt L vb) (hn : L.length < 60000) (hw : lookA mt L = .wait) :
    Calls Tryz.prog 61 #[.pointer (some ⟨p, 0, none⟩)] w fun e w' => e = .returned (.int .i64 10) ∧ Keep (fun q => q = p) w w' ∧ RdBad w' p mt 10 := by
  obtain ⟨a, nx, m1, m2, ms, vf, vd, need, ends, ha, hk, hbuf, hne, hph⟩ := hr
  have hends : ends = 0 := by
    rcases hph with ⟨_, _, _, h, _⟩ | ⟨_, _, f, _, _, hI, ⟨_, h, _⟩ | ⟨_, _, h, _⟩ | ⟨_, _, _, h⟩⟩
    · exact h
    · exact h
    · exact h
    · rw [look_rest hI hn h] at hw
      cases hw
  subst hends
  have HTH := Lib.hid (there_any p w mt vb nx vf vd _ _ ms need 0 0 0 m1 m2 hk)
  have c12 := hk.cell 12
  have c13 := hk.cell 13
  have c14 := hk.cell 14
  have f14 := hk.frozen 14
  simp [rrC] at c12 c13 c14
  have HK := Lib.hid hk
  clear hk hbuf hne hph hw
  go_enter Tryz.func61, Tryz.ntmps61
  go_wp2_with fail
  refine (HTH.out).mono ?_
  rintro e w1 ⟨rfl, rfl⟩
  clear HTH
  go_wp2_with fail
  go_ret
  have h2 := HK.out.set_ 14 (.int .i64 10)
  exact ⟨rfl, Keep.setCell (p := ⟨p, 14, none⟩) (Keep.refl (fun q => q = p) w) rfl _, _, _, _, _, _, _, _, _, _, _, _, by simpa [rrC] using h2⟩

theorem results_row_tmp4 {P : Program} {fn : Func} {p u v x y : Tmp} {ty : TypeId} (h : fn.results = #[.cell p ty, .tmp u, .tmp v, .tmp x, .tmp y]) (tmps : Array Value) (w : World) (g : Nat) (t : TypeId) (cs : Array Value) (fr : Nat × Nat) (d : TypeDesc)
    (hp : tmps.getD p undef = .pointer (some ⟨g, 0, none⟩)) (hg : w.heap[g]? = some (.cells cs t fr))
    (hu : P.underlying ty = some d) (hd : (match d with | .struct _ | .array _ _ => true | _ => false) = true) (hi : (P.info? ty).map (·.size) = some cs.size) :
    (results fn tmps).run P w = .ok (.tuple #[.agg cs, tmps.getD u undef, tmps.getD v undef, tmps.getD x undef, tmps.getD y undef]) w := by
  have hp' : tmps[p]?.getD undef = .pointer (some ⟨g, 0, none⟩) := by simpa using hp
  simp [results, h, hp', asAddr, run_loadVar_row w g t ty cs fr d hg hu hd hi]
end Go.Proofs.YtonlfplloenfcaaGreatDoor
namespace Go.Proofs.YtonlfplloenfcaaGreatDoor
open Go.RowKit

theorem look_x {mt : ByteArray} {L : List UInt8} {n : Nat} {s : Int} {f : List Fd} {x : List UInt8} {k : Bool} (h : lookA mt L = .done n s f x k) : x.length ≤ L.length := by
  unfold lookA at h
  cases hh : headA 0 L with
  | short => rw [hh] at h; cases h
  | err e => rw [hh] at h; cases h
  | fin a s' f' =>
    rw [hh] at h
    simp only at h
    unfold bodyA at h
    split at h
    · cases h
    · split at h
      · injection h with _ _ _ h; subst h; simp
      · split at h
        · split at h
          · injection h with _ _ _ h
            subst h
            rw [List.length_take, List.length_drop]
            omega
          · cases h
        · split at h
          · split at h
            · cases h
            · cases h
            · rename_i b q hc
              injection h with _ _ _ h
              subst h
              have h1 := chunkA_len (L.drop a)
              rw [hc, List.length_drop] at h1
              have h2 : (ansB (.done b q)).length = b.length := rfl
              omega
          · split at h <;> cases h
theorem put_fin_inv {mt : ByteArray} {l b : List UInt8} {s : Int} {f : List Fd} {x : List UInt8} {k : Bool} (h : (putR mt (.on l) b).1 = .fin s f x k) : ∃ n, lookA mt (l ++ b) = .done n s f x k := by
  cases hk : lookA mt (l ++ b) with
  | wait => rw [putR_wait hk] at h; cases h
  | opn n s f b => rw [putR_opn hk] at h; cases h
  | err e => rw [putR_err hk] at h; cases h
  | done n s' f' x' k' =>
    rw [putR_done hk] at h
    injection h with h1 h2 h3 h4
    subst h1 h2 h3 h4
    exact ⟨n, rfl⟩
theorem fin_bounds {mt : ByteArray} {l b : List UInt8} {s : Int} {f : List Fd} {x : List UInt8} {k : Bool} (h : (putR mt (.on l) b).1 = .fin s f x k) (hl : (l ++ b).length < 60000) : fsum f ≤ 100000 ∧ f.length ≤ 256 ∧ x.length ≤ 60000 := by
  obtain ⟨n, hd⟩ := put_fin_inv h
  have h1 := look_f.1 n s f x k hd
  have h2 := look_x hd
  omega
/-- A new reader, as one that reads. -/
theorem on_start {w : World} {base p : Nat} {mt : ByteArray} (hk : Blk w p 160 (rrC mt (.slice none 0 0) 0 0 (nxHead p) ⟨#[]⟩ ⟨#[]⟩ 0 (.slice none 0 0) (.slice none 0 0) 0 0 0 0)) : RdOn w base p mt [] (.slice none 0 0) :=
  ⟨0, nxHead p, _, _, 0, _, _, 0, 0, Nat.le_refl _, hk, .inl (World.ownsRow_nil _ _ _ _), fun g hg => (by cases hg), .inl ⟨rfl, rfl, rfl, rfl, headI_start⟩⟩
set_option maxRecDepth 100000 in
theorem got_no (mt : ByteArray) (A : Option Addr) (n c : Nat) (w : World) (hs : mt.size ≤ 140737488355328) (ht : tokenB mt.data.toList = false) :
    Calls Tryz.prog 65 #[.string mt, .slice A n c] w fun e w' => e = .returned (.tuple #[.agg #[.string ⟨#[]⟩, .string ⟨#[]⟩, .int .i64 0, .slice none 0 0, .slice none 0 0], .int .i64 0, .bool false, .bool false, .int .i64 1]) ∧ Below w.heap.size w w' := by
  have hal : Below w.heap.size w (w.alloc (.cells #[.string ⟨#[]⟩, .string ⟨#[]⟩, .int .i64 0, .slice none 0 0, .slice none 0 0] 25)) := (Below.refl _ _).alloc (Nat.le_refl _) _
  have hg := Blk.new w 25 #[.string ⟨#[]⟩, .string ⟨#[]⟩, .int .i64 0, .slice none 0 0, .slice none 0 0]
  have HN := Lib.hid (rdnew_any mt (w.alloc (.cells #[.string ⟨#[]⟩, .string ⟨#[]⟩, .int .i64 0, .slice none 0 0, .slice none 0 0] 25)) hs)
  have HAL := Lib.hid hal
  have HG := Lib.hid hg
  have HT := Lib.hid ht
  have hz := hal.size
  have hgl := hg.lt
  clear hal hg ht
  go_enter Tryz.func65, Tryz.ntmps65
  go_wp2_with fail
  refine (HN.out).mono ?_
  rintro e w1 ⟨hb1, hor⟩
  rcases hor with ⟨_, rfl⟩ | ⟨h, _⟩
  · have G1 := HG.out.below hb1 hgl
    have B1 := Lib.hid (HAL.out.trans (hb1.mono hz))
    have d0 := G1.cell 0
    have d1 := G1.cell 1
    have d2 := G1.cell 2
    have d3 := G1.cell 3
    have d4 := G1.cell 4
    have e0 := G1.frozen 0
    have e1 := G1.frozen 1
    have e2 := G1.frozen 2
    have e3 := G1.frozen 3
    have e4 := G1.frozen 4
    simp at d0 d1 d2 d3 d4
    obtain ⟨W5, hW5, hk5, ht5, hbel5, _⟩ := set_five G1 (.string ⟨#[]⟩) (.string ⟨#[]⟩) (.int .i64 0) (.slice none 0 0) (.slice none 0 0)
    have HEND := Lib.hid (And.intro hW5 (And.intro hk5 (B1.out.trans (hbel5 w.heap.size (Nat.le_refl _)))))
    clear hb1 HN G1 hW5 hk5 ht5 hbel5
    go_wp2_with fail
    rw [HEND.out.1]
    refine bodyPost_ret (results_row_tmp4 rfl _ _ w.heap.size 25 _ (0, 0) _ rfl HEND.out.2.1 Tryz.underlying25 rfl infoM) rfl ?_
    exact ⟨rfl, HEND.out.2.2⟩
  · rw [HT.out] at h
    cases h
/-- An address that is in new memory. -/
def AtLeast (B : Nat) (A : Option Addr) : Prop := ∀ g o, A = some ⟨g, o, none⟩ → B ≤ g
theorem keep_five {w : World} {g : Nat} (v0 v1 v2 v3 v4 : Value) : Keep (fun q => q = g) w (((((w.setCell ⟨g, 0, none⟩ v0).setCell ⟨g, 1, none⟩ v1).setCell ⟨g, 2, none⟩ v2).setCell ⟨g, 3, none⟩ v3).setCell ⟨g, 4, none⟩ v4) :=
  (((((Keep.refl (fun q => q = g) w).setCell (p := ⟨g, 0, none⟩) rfl _).setCell (p := ⟨g, 1, none⟩) rfl _).setCell (p := ⟨g, 2, none⟩) rfl _).setCell (p := ⟨g, 3, none⟩) rfl _).setCell (p := ⟨g, 4, none⟩) rfl _
/-- What a law sees of an answer. -/
def GotM (w' : World) (st : RSt) (A1 A2 : Option Addr) (s : Int) (f : List Fd) (x : List UInt8) (k d : Bool) : Prop :=
  FRead w' w'.heap.size A1 f.length f ∧ Lies w' w'.heap.size A2 x.length (Lib.byteCells x) ∧ f.length ≤ 256 ∧ x.length ≤ 60000 ∧ ((d = true ∧ st = .fin s f x k) ∨ (d = false ∧ k = false ∧ s = 0 ∧ f = [] ∧ x = [] ∧ ∀ s f x k, st ≠ .fin s f x k))
set_option maxRecDepth 100000 in
set_option maxHeartbeats 4000000 in
theorem got_yes (mt : ByteArray) (A : Option Addr) (n c : Nat) (b : List UInt8) (w : World) (hs : mt.size ≤ 140737488355328) (ht : tokenB mt.data.toList = true) (h : Lies w w.heap.size A n (Lib.byteCells b)) (hn : n < 60000)
    (hm : MaxOk w) (hmg : maxG < w.heap.size) (he : ErrOk w) (heg : errG < w.heap.size) :
    Calls Tryz.prog 65 #[.string mt, .slice A n c] w fun e w' => Below w.heap.size w w' ∧ ∃ A1 A2 s f x k d, e = .returned (.tuple #[.agg #[.string ⟨#[]⟩, .string ⟨#[]⟩, .int .i64 s, .slice A1 f.length f.length, .slice A2 x.length x.length], .int .i64 (putR mt (.on []) b).2.1, .bool k, .bool d, .int .i64 (putR mt (.on []) b).2.2]) ∧ GotM w' (putR mt (.on []) b).1 A1 A2 s f x k d := by
  have hll : b.length = n := by simpa [Lib.byteCells] using h.1
  have hal : Below w.heap.size w (w.alloc (.cells #[.string ⟨#[]⟩, .string ⟨#[]⟩, .int .i64 0, .slice none 0 0, .slice none 0 0] 25)) := (Below.refl _ _).alloc (Nat.le_refl _) _
  have hg := Blk.new w 25 #[.string ⟨#[]⟩, .string ⟨#[]⟩, .int .i64 0, .slice none 0 0, .slice none 0 0]
  have HN := Lib.hid (rdnew_any mt (w.alloc (.cells #[.string ⟨#[]⟩, .string ⟨#[]⟩, .int .i64 0, .slice none 0 0, .slice none 0 0] 25)) hs)
  have HAL := Lib.hid hal
  have HG := Lib.hid hg
  have HT := Lib.hid ht
  have H := Lib.hid h
  have HM := Lib.hid hm
  have HE := Lib.hid he
  have hz := hal.size
  have hgl := hg.lt
  clear hal hg ht h hm he
  go_enter Tryz.func65, Tryz.ntmps65
  go_wp2_with fail
  refine (HN.out).mono ?_
  rintro e w1 ⟨hb1, hor⟩
  rcases hor with ⟨h, _⟩ | ⟨_, p, rfl, hpg, hkp⟩
  · rw [HT.out] at h
    cases h
  · have hpw : w.heap.size ≤ p := by omega
    have B1 := Lib.hid (HAL.out.trans (hb1.mono hz))
    have G1 := Lib.hid (HG.out.below hb1 hgl)
    have hgp : w.heap.size ≠ p := by
      have := hgl
      omega
    have HPUT := Lib.hid (rdput_on p w1 w.heap.size mt [] b (.slice none 0 0) A n c (on_start hkp) ((H.out.below B1.out).more B1.out.size) (fun h0 g o e => by
        obtain ⟨g', o', e', hlt, _⟩ := H.out.2 h0
        rw [e] at e'
        injection e' with e'
        injection e' with e' _
        omega) (by simp; omega) B1.out.size (HM.out.below B1.out hmg) hmg (HE.out.below B1.out heg) heg hpw)
    have hpl1 := hkp.lt
    clear hb1 hkp HN
    go_wp2_with fail
    refine (HPUT.out).mono ?_
    rintro e w2 ⟨rfl, hk2, hst⟩
    have hk2' : Keep (fun q => q = p) w1 w2 := hk2.mono (fun q e => e.elim id (fun e => by cases e))
    have B2 := Lib.hid (B1.out.trans (hk2'.below B1.out.size (fun q e => by omega)))
    have G2 := Lib.hid (G1.out.keep hk2' hgp)
    have HST := Lib.hid hst
    have hz2 := hk2'.size
    clear hk2 hk2' hst HPUT
    obtain ⟨st, hst⟩ : ∃ st, (putR mt (.on []) b).1 = st := ⟨_, rfl⟩
    have HSE := Lib.hid hst
    rw [hst] at HST
    obtain ⟨r1, hr1⟩ : ∃ r1, (putR mt (.on []) b).2.1 = r1 := ⟨_, rfl⟩
    obtain ⟨r2, hr2⟩ : ∃ r2, (putR mt (.on []) b).2.2 = r2 := ⟨_, rfl⟩
    rw [hr1, hr2]
    have HR := Lib.hid (And.intro hr1 hr2)
    clear hst hr1 hr2
    have hdn : ∃ s f x k d, Calls Tryz.prog 60 #[.pointer (some ⟨p, 0, none⟩)] w2 (fun e w' => ∃ A1 A2, e = .returned (.tuple #[.agg #[.string ⟨#[]⟩, .string ⟨#[]⟩, .int .i64 s, .slice A1 f.length f.length, .slice A2 x.length x.length], .bool k, .bool d]) ∧ Below w2.heap.size w2 w' ∧ GotM w' st A1 A2 s f x k d ∧ AtLeast w2.heap.size A1 ∧ AtLeast w2.heap.size A2) := by
      have hno : ∀ (vb nx vf vd : Value) (rd cm ms need ends e0 : Int) (m1 m2 : ByteArray), Blk w2 p 160 (rrC mt vb rd cm nx m1 m2 ms vf vd need ends 0 e0) → (∀ s f x k, st ≠ .fin s f x k) → ∃ s f x k d, Calls Tryz.prog 60 #[.pointer (some ⟨p, 0, none⟩)] w2 (fun e w' => ∃ A1 A2, e = .returned (.tuple #[.agg #[.string ⟨#[]⟩, .string ⟨#[]⟩, .int .i64 s, .slice A1 (List.length f) (List.length f), .slice A2 (List.length x) (List.length x)], .bool k, .bool d]) ∧ Below w2.heap.size w2 w' ∧ GotM w' st A1 A2 s f x k d ∧ AtLeast w2.heap.size A1 ∧ AtLeast w2.heap.size A2) := fun vb nx vf vd rd cm ms need ends e0 m1 m2 hk hx =>
        ⟨0, [], [], false, false, (rddone_not p w2 mt vb nx vf vd rd cm ms need ends e0 m1 m2 hk).mono fun e w' ⟨h1, h2⟩ => ⟨none, none, h1, h2, ⟨⟨rfl, fun h => absurd h (by simp)⟩, ⟨rfl, fun h => absurd h (by simp)⟩, by simp, by simp, Or.inr ⟨rfl, rfl, rfl, rfl, rfl, hx⟩⟩, (fun g o e => by cases e), (fun g o e => by cases e)⟩⟩
      have hst := HST.out
      cases st with
      | on L =>
        obtain ⟨vb, a, nx, m1, m2, ms, vf, vd, need, ends, _, hk, _⟩ := hst
        exact hno _ _ _ _ _ _ _ _ _ _ _ _ hk (fun s f x k e => by cases e)
      | bad z =>
        obtain ⟨vb, rd, cm, nx, m1, m2, ms, vf, vd, need, ends, hk⟩ := hst
        exact hno _ _ _ _ _ _ _ _ _ _ _ _ hk (fun s f x k e => by cases e)
      | fin s f x k =>
        obtain ⟨nn, hf⟩ := hst
        obtain ⟨b1, b2, b3⟩ := fin_bounds HSE.out (by simp; omega)
        refine ⟨s, f, x, k, true, (rddone_fin p w2 w.heap.size mt nn s f x k hf b1 b2 b3 (HM.out.below B2.out hmg) (Nat.lt_of_lt_of_le hmg B2.out.size)).mono ?_⟩
        rintro e w' ⟨A1, A2, c1, c2, h1, h2, h3, h4⟩
        exact ⟨A1, A2, h1, h2, ⟨fread_own rfl h3, Lies.of_own h4, b2, b3, Or.inl ⟨rfl, rfl⟩⟩, (fun g o e => (h3.lt g (by rw [e]; rfl)).1), (fun g o e => (h4.lt g (by rw [e]; rfl)).1)⟩
    obtain ⟨s, f, x, k, d, hdn⟩ := hdn
    have HDN := Lib.hid hdn
    have hgl2 : w.heap.size < w2.heap.size := G2.out.lt
    clear hdn HST
    go_wp2_with fail
    refine (HDN.out).mono ?_
    rintro e w3 ⟨A1, A2, rfl, hb3, hgm, hA1, hA2⟩
    have B3 := Lib.hid (B2.out.trans (hb3.mono B2.out.size))
    have G3 := Lib.hid (G2.out.below hb3 hgl2)
    have GM := Lib.hid hgm
    have hz3 := hb3.size
    clear hb3 hgm HDN
    have hk4 := Blk.new w3 25 #[.string ⟨#[]⟩, .string ⟨#[]⟩, .int .i64 s, .slice A1 f.length f.length, .slice A2 x.length x.length]
    have hal4 : Below w3.heap.size w3 (w3.alloc (.cells #[.string ⟨#[]⟩, .string ⟨#[]⟩, .int .i64 s, .slice A1 f.length f.length, .slice A2 x.length x.length] 25)) := (Below.refl _ _).alloc (Nat.le_refl _) _
    have G4 := G3.out.below hal4 G3.out.lt
    have d0 := G3.out.cell 0
    have d1 := G3.out.cell 1
    have d2 := G3.out.cell 2
    have d3 := G3.out.cell 3
    have d4 := G3.out.cell 4
    have e0 := G3.out.frozen 0
    have e1 := G3.out.frozen 1
    have e2 := G3.out.frozen 2
    have e3 := G3.out.frozen 3
    have e4 := G3.out.frozen 4
    simp at d0 d1 d2 d3 d4
    have hgl3 : w.heap.size < w3.heap.size := G3.out.lt
    go_wp2_with fail
    obtain ⟨W5, hW5, hk5, _, hbel5, _⟩ := set_five G3.out (.string ⟨#[]⟩) (.string ⟨#[]⟩) (.int .i64 s) (.slice A1 f.length f.length) (.slice A2 x.length x.length)
    have hkp := keep_five (w := w3) (g := w.heap.size) (.string ⟨#[]⟩) (.string ⟨#[]⟩) (.int .i64 s) (.slice A1 f.length f.length) (.slice A2 x.length x.length)
    rw [hW5] at hkp
    rw [hW5]
    have hal6 : Below W5.heap.size W5 (W5.alloc (.cells #[.string ⟨#[]⟩, .string ⟨#[]⟩, .int .i64 s, .slice A1 f.length f.length, .slice A2 x.length x.length] 25)) := (Below.refl _ _).alloc (Nat.le_refl _) _
    have hk6 := hk5.below hal6 hk5.lt
    have B5 := (B3.out.trans (hbel5 w.heap.size (Nat.le_refl _))).trans (hal6.mono (by have := hk5.lt; omega))
    obtain ⟨m1, m2, m3, m4, m5⟩ := GM.out
    have hne1 : ∀ g o, A1 = some ⟨g, o, none⟩ → ¬ g = w.heap.size := fun g o e => by
      have := hA1 g o e
      omega
    have hne2 : ∀ g o, A2 = some ⟨g, o, none⟩ → ¬ g = w.heap.size := fun g o e => by
      have := hA2 g o e
      omega
    have n1 := (((fread_keepX m1 hkp (Nat.le_refl _) hne1).more hkp.size).below hal6).more hal6.size
    have n2 := (((m2.keepX hkp (Nat.le_refl _) hne2).more hkp.size).below hal6).more hal6.size
    refine bodyPost_ret (results_row_tmp4 rfl _ _ w.heap.size 25 _ (0, 0) _ rfl hk6 Tryz.underlying25 rfl infoM) rfl ?_
    exact ⟨B5, A1, A2, s, f, x, k, d, by rw [HR.out.1, HR.out.2]; rfl, by rw [HSE.out]; exact ⟨n1, n2, m3, m4, m5⟩⟩
end Go.Proofs.YtonlfplloenfcaaGreatDoor
namespace Go.Proofs.YtonlfplloenfcaaGreatDoor
open Go.RowKit

def ucells (u : List Nat) : List Value := u.map fun (x : Nat) => .int .u16 (x : Int)
theorem lies_drop {w : World} {B n k cap : Nat} {A : Option Addr} {l : List UInt8} (h : Lies w B A n (Lib.byteCells l)) (hk : k ≤ n) (hc : n ≤ cap) :
    Lies w B (if cap = k then A else Option.map (fun a => a.add k) A) (n - k) (Lib.byteCells (l.drop k)) := by
  have hl : l.length = n := by simpa [Lib.byteCells] using h.1
  refine ⟨by simp [Lib.byteCells]; omega, fun h0 => ?_⟩
  obtain ⟨b, o, rfl, hb, hcc⟩ := h.2 (by omega)
  rw [if_neg (by omega)]
  refine ⟨b, o + k, by simp only [Option.map_some, Addr.add_lit], hb, fun j u hu => ?_⟩
  have h1 := hcc (k + j) u (by
    unfold Lib.byteCells at hu ⊢
    rw [List.map_drop, List.getElem?_drop] at hu
    exact hu)
  rw [Nat.add_assoc]
  exact h1
set_option maxRecDepth 100000 in
theorem great20_any (mt : ByteArray) (A A2 : Option Addr) (n c n2 c2 : Nat) (q : Bool) (w : World) (hn : n ≤ 140737488355328) (hn2 : n2 ≤ 140737488355328) :
    Calls Tryz.prog 55 #[.agg #[.string mt, .slice A n c, .slice A2 n2 c2, .bool q]] w fun e w' => e = .returned (.bool (decide (20000 < n) || decide (100 < n2))) ∧ Below w.heap.size w w' := by
  have hk := Blk.new w 86 #[.string mt, .slice A n c, .slice A2 n2 c2, .bool q]
  have hal : Below w.heap.size w (w.alloc (.cells #[.string mt, .slice A n c, .slice A2 n2 c2, .bool q] 86)) := (Below.refl _ _).alloc (Nat.le_refl _) _
  have d1 : decide ((20000 : Int) < (n : Int)) = decide (20000 < n) := by congr 1; exact propext ⟨fun h => by omega, fun h => by omega⟩
  have d2 : decide ((100 : Int) < (n2 : Int)) = decide (100 < n2) := by congr 1; exact propext ⟨fun h => by omega, fun h => by omega⟩
  have HA := Lib.hid hal
  clear hal hk
  go_enter Tryz.func55, Tryz.ntmps55
  by_cases h1 : 20000 < n
  · rw [decide_eq_true h1] at d1 ⊢
    go_wp2_with fail
    go_ret
    exact ⟨rfl, HA.out⟩
  · rw [decide_eq_false h1] at d1 ⊢
    go_wp2_with fail
    go_ret
    exact ⟨rfl, HA.out⟩
/-- Two that tell the same state tell the same answer. -/
theorem gotm_eq {w w' : World} {st : RSt} {A1 A2 C1 C2 : Option Addr} {s s' : Int} {f f' : List Fd} {x x' : List UInt8} {k k' d d' : Bool} (h : GotM w st A1 A2 s f x k d) (h' : GotM w' st C1 C2 s' f' x' k' d') : s = s' ∧ f = f' ∧ x = x' ∧ k = k' ∧ d = d' := by
  obtain ⟨_, _, _, _, h⟩ := h
  obtain ⟨_, _, _, _, h'⟩ := h'
  rcases h with ⟨rfl, h⟩ | ⟨rfl, rfl, rfl, rfl, rfl, h⟩ <;> rcases h' with ⟨rfl, h'⟩ | ⟨rfl, rfl, rfl, rfl, rfl, h'⟩
  · rw [h] at h'
    injection h' with e1 e2 e3 e4
    exact ⟨e1, e2, e3, e4, rfl⟩
  · exact absurd h (h' _ _ _ _)
  · exact absurd h' (h _ _ _ _)
  · exact ⟨rfl, rfl, rfl, rfl, rfl⟩
theorem GotM.below {w w' : World} {st : RSt} {A1 A2 : Option Addr} {s : Int} {f : List Fd} {x : List UInt8} {k d : Bool} (h : GotM w st A1 A2 s f x k d) (hb : Below w.heap.size w w') : GotM w' st A1 A2 s f x k d := by
  obtain ⟨m1, m2, m3⟩ := h
  exact ⟨(m1.below hb).more hb.size, (m2.below hb).more hb.size, m3⟩
end Go.Proofs.YtonlfplloenfcaaGreatDoor
namespace Go.Proofs.YtonlfplloenfcaaGreatDoor
open Go.RowKit

def l20S : ByteArray := ⟨#[72, 84, 84, 80, 47, 49, 46, 49, 32, 50, 48, 48, 32, 79, 75, 13, 10, 67, 111, 110, 116, 101, 110, 116, 45, 76, 101, 110, 103, 116, 104, 58, 32, 50, 13, 10, 13, 10, 104, 105]⟩
def getB : ByteArray := ⟨#[71, 69, 84]⟩
def ftpB : List UInt8 := [70, 84, 80, 13, 10, 13, 10]
def isDone (n : Nat) (s : Int) (f : List Fd) (x : List UInt8) (k : Bool) : LookA → Bool
  | .done n' s' f' x' k' => decide (n = n' ∧ s = s' ∧ f = f' ∧ x = x' ∧ k = k')
  | _ => false
theorem is_done {n : Nat} {s : Int} {f : List Fd} {x : List UInt8} {k : Bool} {a : LookA} (h : isDone n s f x k a = true) : a = .done n s f x k := by
  cases a with
  | done n' s' f' x' k' =>
    obtain ⟨rfl, rfl, rfl, rfl, rfl⟩ := of_decide_eq_true h
    rfl
  | wait => cases h
  | err e => cases h
  | opn n s f b => cases h
def isWait : LookA → Bool
  | .wait => true
  | _ => false
theorem is_wait {a : LookA} (h : isWait a = true) : a = .wait := by cases a <;> first | rfl | cases h
def isErrA (z : Int) : LookA → Bool
  | .err e => e == z
  | _ => false
theorem is_errA {z : Int} {a : LookA} (h : isErrA z a = true) : a = .err z := by
  cases a with
  | err e => exact congrArg LookA.err (beq_iff_eq.1 h)
  | done n' s' f' x' k' => cases h
  | wait => cases h
  | opn n s f b => cases h
theorem li_1 : lookA getB (l20S.data.toList ++ [120]) = .done 40 200 [(⟨#[67, 111, 110, 116, 101, 110, 116, 45, 76, 101, 110, 103, 116, 104]⟩, ⟨#[50]⟩)] [104, 105] true := is_done (by decide +kernel)
theorem li_2 : lookA getB (l20S.data.toList.take 38) = .wait := is_wait (by decide +kernel)
theorem li_3 : lookA getB ftpB = .err 8 := is_errA (by decide +kernel)
theorem li_4 : tokenB getB.data.toList = true := by decide +kernel
theorem li_5 : tokenB (⟨#[]⟩ : ByteArray).data.toList = false := by decide +kernel
theorem putR_done0 {mt : ByteArray} {b : List UInt8} {n : Nat} {s z : Int} {f : List Fd} {x : List UInt8} {k : Bool} (h : lookA mt b = .done n s f x k) (hz : (n : Int) = z) : putR mt (.on []) b = (.fin s f x k, z, 0) := by
  rw [putR_done (l := []) h, ← hz]
  simp
theorem putR_wait0 {mt : ByteArray} {b : List UInt8} {z : Int} (h : lookA mt b = .wait) (hz : (b.length : Int) = z) : putR mt (.on []) b = (.on b, z, 0) := by
  rw [putR_wait (l := []) h, ← hz]
  rfl
theorem li_p1 : putR getB (.on []) (l20S.data.toList ++ [120]) = (.fin 200 [(⟨#[67, 111, 110, 116, 101, 110, 116, 45, 76, 101, 110, 103, 116, 104]⟩, ⟨#[50]⟩)] [104, 105] true, 40, 0) := putR_done0 li_1 (by decide)
theorem li_p2 : putR getB (.on []) (l20S.data.toList.take 38) = (.on (l20S.data.toList.take 38), 38, 0) := putR_wait0 li_2 (by decide +kernel)
theorem li_p3 : putR getB (.on []) ftpB = (.bad 8, 0, 8) := putR_err (l := []) (b := ftpB) li_3
theorem li_8 : (l20S.extract 0 38).size = 38 := by decide +kernel
theorem li_9 : (l20S.extract 0 38).data.toList = l20S.data.toList.take 38 := by decide +kernel
theorem li_6 : (l20S ++ ⟨#[120]⟩ : ByteArray).size = 41 := by decide +kernel
theorem li_7 : (l20S ++ ⟨#[120]⟩ : ByteArray).data.toList = l20S.data.toList ++ [120] := by decide +kernel
set_option maxRecDepth 100000 in
set_option maxHeartbeats 400000 in
theorem alive20_any (w : World) (hm : MaxOk w) (hmg : maxG < w.heap.size) (he : ErrOk w) (heg : errG < w.heap.size) :
    Calls Tryz.prog 56 #[] w fun e w' => e = .returned (.bool true) ∧ Below w.heap.size w w' := by
  have HM := Lib.hid (fun (W : World) (hb : Below w.heap.size w W) => (And.intro (hm.below hb hmg) (Nat.lt_of_lt_of_le hmg hb.size)))
  have HE := Lib.hid (fun (W : World) (hb : Below w.heap.size w W) => (And.intro (he.below hb heg) (Nat.lt_of_lt_of_le heg hb.size)))
  obtain ⟨T, hT⟩ : ∃ T, l20S ++ ⟨#[120]⟩ = T := ⟨_, rfl⟩
  have hTS : T.size = 41 := by rw [← hT]; exact li_6
  have hTL : T.data.toList = l20S.data.toList ++ [120] := by rw [← hT]; exact li_7
  have hcv1 := Lib.run_convert_string_bytes (P := Tryz.prog) w 9 23 5 T Tryz.underlying9 Tryz.underlying23 Tryz.underlying5
  obtain ⟨hL1, hB1, hlt1⟩ := str_bytes T w
  rw [hTS] at hL1 hcv1
  rw [hTL] at hL1
  have hg1 := got_yes getB (some ⟨w.heap.size, 0, none⟩) 41 (grownCap w 41 0 5) (l20S.data.toList ++ [120]) (Lib.bytesWorld w 5 T) (by decide) li_4 hL1 (by omega) (HM.out _ hB1).1 (HM.out _ hB1).2 (HE.out _ hB1).1 (HE.out _ hB1).2
  rw [li_p1] at hg1
  have HG1 := Lib.hid hg1
  have B1 := Lib.hid hB1
  unfold l20S at hT
  unfold getB at HG1
  generalize Lib.bytesWorld w 5 T = W1 at hcv1 HG1 B1
  clear hm he hg1 hL1 hB1 hlt1 hTS hTL
  go_enter Tryz.func56, Tryz.ntmps56
  go_wp2_with fail
  refine (HG1.out).mono ?_
  rintro e w1 ⟨hb1, A1, A2, s1, f1, x1, k1, d1, rfl, m1, m2, _, _, hor⟩
  rcases hor with ⟨rfl, hst⟩ | ⟨_, _, _, _, _, hst⟩
  · injection hst with h1 h2 h3 h4
    subst h1 h2 h3 h4
    have B2 := Lib.hid (B1.out.trans (hb1.mono B1.out.size))
    have M2 := Lib.hid m2
    have MB := Lib.hid (fun g o (e : A2 = some ⟨g, o, none⟩) => (by
      obtain ⟨g', o', e', hlt, _⟩ := m2.2 (by decide)
      rw [e] at e'
      injection e' with e'
      injection e' with e' _
      omega : g < w1.heap.size))
    have hk2 := Blk.new w1 25 #[.string ⟨#[]⟩, .string ⟨#[]⟩, .int .i64 200, .slice A1 1 1, .slice A2 2 2]
    have hal2 : Below w1.heap.size w1 (w1.alloc (.cells #[.string ⟨#[]⟩, .string ⟨#[]⟩, .int .i64 200, .slice A1 1 1, .slice A2 2 2] 25)) := (Below.refl _ _).alloc (Nat.le_refl _) _
    have HN := Lib.hid (rdnew_any getB (w1.alloc (.cells #[.string ⟨#[]⟩, .string ⟨#[]⟩, .int .i64 200, .slice A1 1 1, .slice A2 2 2] 25)) (by decide))
    have HAL := Lib.hid hal2
    have HK2 := Lib.hid hk2
    have hkl := hk2.lt
    clear hb1 HG1 hcv1 B1 m1 m2 hk2 hal2
    go_wp2_with fail
    refine (HN.out).mono ?_
    rintro e w2 ⟨hb3, hor⟩
    rcases hor with ⟨h, _⟩ | ⟨_, p, rfl, hpg, hkp⟩
    · rw [li_4] at h
      cases h
    have hG3 := HK2.out.below hb3 hkl
    have B3 := Lib.hid ((B2.out.trans (HAL.out.mono B2.out.size)).trans (hb3.mono (by have := B2.out.size; have := HAL.out.size; omega)))
    have M3 := Lib.hid (((M2.out.below HAL.out).more HAL.out.size).below hb3 |>.more hb3.size)
    have HG3 := Lib.hid hG3
    have hgl3 := hG3.lt
    have hgp : w1.heap.size < p := by
      simp at hpg
      omega
    obtain ⟨U, hU⟩ : ∃ U, l20S.extract 0 38 = U := ⟨_, rfl⟩
    have hUS : U.size = 38 := by rw [← hU]; exact li_8
    have hUL : U.data.toList = l20S.data.toList.take 38 := by rw [← hU]; exact li_9
    have hcv2 := Lib.run_convert_string_bytes (P := Tryz.prog) w2 9 23 5 U Tryz.underlying9 Tryz.underlying23 Tryz.underlying5
    obtain ⟨hL4, hB4, hlt4⟩ := str_bytes U w2
    rw [hUS] at hL4 hcv2
    rw [hUL] at hL4
    have hpw : w.heap.size ≤ p := by
      have := B2.out.size
      omega
    have B4 := Lib.hid (B3.out.trans (hB4.mono B3.out.size))
    have hput := rdput_on p (Lib.bytesWorld w2 5 U) w.heap.size getB [] (l20S.data.toList.take 38) (.slice none 0 0) (some ⟨w2.heap.size, 0, none⟩) 38 (grownCap w2 38 0 5) (on_start (hkp.below hB4 hkp.lt)) hL4 (fun _ g o e => by
        injection e with e
        injection e with e _
        have := hkp.lt
        omega) (by decide +kernel) B4.out.size (HM.out _ B4.out).1 hmg (HE.out _ B4.out).1 heg hpw
    rw [li_p2] at hput
    have HPUT := Lib.hid hput
    have M4 := Lib.hid ((M3.out.below hB4).more hB4.size)
    have G4 := Lib.hid (HG3.out.below hB4 hgl3)
    unfold l20S at hU
    unfold getB at HPUT
    generalize Lib.bytesWorld w2 5 U = W4 at hcv2 HPUT B4 M4 G4
    have hgl4 := G4.out.lt
    clear HN HAL HK2 M2 hb3 hkp hG3 B2 hput hL4 hB4 hlt4 hUS hUL M3 HG3 B3
    go_wp2_with fail
    refine (HPUT.out).mono ?_
    rintro e w5 ⟨rfl, hk5, hst⟩
    have hk5' : Keep (fun q => q = p) W4 w5 := hk5.mono (fun q e => e.elim id (fun e => by cases e))
    have B5 := Lib.hid (B4.out.trans (hk5'.below B4.out.size (fun q e => by omega)))
    have hA2 : ∀ g o, A2 = some ⟨g, o, none⟩ → ¬ g = p := fun g o e => by
      have := MB.out g o e
      omega
    have M5 := Lib.hid ((M4.out.keepX hk5' (Nat.le_refl _) hA2).more hk5'.size)
    have G5 := Lib.hid (G4.out.keep hk5' (by omega))
    obtain ⟨vb, hon⟩ := hst
    have HND := Lib.hid (rdend_wait p w5 w.heap.size getB (l20S.data.toList.take 38) vb hon (by decide +kernel) li_2)
    clear hk5 hk5' hon HPUT B4 M4 G4
    go_wp2_with fail
    refine (HND.out).mono ?_
    rintro e w6 ⟨rfl, hk6, _⟩
    have B6 := Lib.hid (B5.out.trans (hk6.below B5.out.size (fun q e => by omega)))
    have M6 := Lib.hid ((M5.out.keepX hk6 (Nat.le_refl _) hA2).more hk6.size)
    have G6 := Lib.hid (G5.out.keep hk6 (by omega))
    clear hk6 HND B5 M5 G5
    have HN7 := Lib.hid (got_no ⟨#[]⟩ none 0 0 w6 (by decide) li_5)
    go_wp2_with fail
    refine (HN7.out).mono ?_
    rintro e w7 ⟨rfl, hb7⟩
    have B7 := Lib.hid (B6.out.trans (hb7.mono B6.out.size))
    have M7 := Lib.hid ((M6.out.below hb7).more hb7.size)
    have G7 := Lib.hid (G6.out.below hb7 G6.out.lt)
    have hal8 : Below w7.heap.size w7 (w7.alloc (.cells #[.string ⟨#[]⟩, .string ⟨#[]⟩, .int .i64 0, .slice none 0 0, .slice none 0 0] 25)) := (Below.refl _ _).alloc (Nat.le_refl _) _
    have hz8 : (w7.alloc (.cells #[.string ⟨#[]⟩, .string ⟨#[]⟩, .int .i64 0, .slice none 0 0, .slice none 0 0] 25)).heap.size = w7.heap.size + 1 := by simp
    have hk8 := Blk.new w7 25 #[.string ⟨#[]⟩, .string ⟨#[]⟩, .int .i64 0, .slice none 0 0, .slice none 0 0]
    obtain ⟨W8, hW8⟩ : ∃ W8, w7.alloc (.cells #[.string ⟨#[]⟩, .string ⟨#[]⟩, .int .i64 0, .slice none 0 0, .slice none 0 0] 25) = W8 := ⟨_, rfl⟩
    rw [hW8] at hal8 hz8
    obtain ⟨hL9, hB9, hz9⟩ := const_bytes13 ftpB 7 rfl W8
    have kB := Blk.new W8 5 (Lib.byteCells ftpB).toArray
    have hcs := run_same_conv Tryz.underlying23 Tryz.underlying5 kB 7 7
    have hsz : ((Lib.byteCells ftpB).toArray).size = 7 := rfl
    rw [hsz] at hcs
    have B8 := Lib.hid (B7.out.trans (hal8.mono B7.out.size))
    have B9 := Lib.hid (B8.out.trans (hB9.mono B8.out.size))
    have G8 := G7.out.below hal8 G7.out.lt
    have G9 := Lib.hid (G8.below hB9 G8.lt)
    have M9 := Lib.hid ((((M7.out.below hal8).more hal8.size).below hB9).more hB9.size)
    have hg9 := got_yes getB (some ⟨W8.heap.size, 0, none⟩) 7 7 ftpB _ (by decide) li_4 hL9 (by omega) (HM.out _ B9.out).1 (HM.out _ B9.out).2 (HE.out _ B9.out).1 (HE.out _ B9.out).2
    rw [li_p3] at hg9
    have hlit : (Lib.byteCells ftpB).toArray = #[.int .u8 70, .int .u8 84, .int .u8 80, .int .u8 13, .int .u8 10, .int .u8 13, .int .u8 10] := rfl
    rw [hlit] at hcs hg9 B9 M9 G9
    rw [hz8] at hcs hg9 B9 M9 G9
    have HG9 := Lib.hid hg9
    rw [← hW8] at hcs HG9 B9 M9 G9
    unfold getB at HG9
    clear hb7 HN7 B6 M6 G6 G7 M7 hal8 hk8 hL9 hB9 hz9 kB hsz hlit hg9 G8 B8 hz8 hW8
    go_wp2_with fail
    refine (HG9.out).mono ?_
    rintro e w9 ⟨hb10, A3, A4, s3, f3, x3, k3, d3, rfl, _, _, _, _, hor⟩
    rcases hor with ⟨_, hst⟩ | ⟨rfl, rfl, rfl, rfl, rfl, _⟩
    · cases hst
    have B10 := Lib.hid (B9.out.trans (hb10.mono B9.out.size))
    have G10 := G9.out.below hb10 G9.out.lt
    have M10 := (M9.out.below hb10).more hb10.size
    have hal11 : Below w9.heap.size w9 (w9.alloc (.cells #[.string ⟨#[]⟩, .string ⟨#[]⟩, .int .i64 0, .slice A3 0 0, .slice A4 0 0] 25)) := (Below.refl _ _).alloc (Nat.le_refl _) _
    have G11 := G10.below hal11 G10.lt
    have B11 := Lib.hid (B10.out.trans (hal11.mono B10.out.size))
    have hcv11 := conv_lies (c := 2) ((M10.below hal11).more hal11.size)
    have t2 := G11.cell 2
    have t4 := G11.cell 4
    simp at t2 t4
    clear hb10 G9 M9 B9 HG9 G10 M10 hal11 G11 hcs
    rw [show ([104, 105] : List UInt8).length = 2 from rfl] at hcv11
    go_wp2_with fail
    go_ret
    exact ⟨rfl, B11.out⟩
  · exact absurd rfl (hst _ _ _ _)
end Go.Proofs.YtonlfplloenfcaaGreatDoor
