/-
  (Second form, of bookc.py: rows may be full fronts of longer blocks.)
  Book: grow.
  (Second form, of bookc.py: rows may be full fronts of longer blocks.)
  Book: grow.
  (Second form, of bookc.py: rows may be full fronts of longer blocks.)
  Book: grow.
-/
import Derived.Test.YtonlfplloenfcaaGreatDoorFillCEtc
import Derived.Test.YtonlfplloenfcaaGreatDoorHeldCEtc
import Derived.Maps.AppendAt
namespace Go.Proofs.YtonlfplloenfcaaGreatDoor.C
open Go.RowKit

set_option maxRecDepth 100000 in
set_option maxHeartbeats 1000000 in
theorem growtext_any (Bs g ga N cap : Nat) (l : Nat → Value) (n m : Nat → Nat) (cs : Array Value) (w : World) (hN : N ≤ 100000) (hBs : powG < Bs) (hBw : Bs ≤ w.heap.size) (hga : Bs ≤ ga) (ht : PowTab w)
    (hB : Blk w g 42 cs) (hv : cs[3]? = some (.slice (some ⟨ga, 0, none⟩) N cap)) (hA : ArrIs w 179 ga N l (fun _ => .slice none 0 0) m)
    (hR : ∀ j, j < N → Row w Bs 9 1 (l j) (n j) (n j) (mkText (m j))) (hn : ∀ j, j < N → n j ≤ 1000000000 ∧ m j ≤ 1000000)
    (hD : ∀ i j b, i < N → j < N → i ≠ j → (l i).ownBlock = some b → (l j).ownBlock ≠ some b) :
    Calls Tryz.prog 92 #[.pointer (some ⟨g, 0, none⟩)] w fun e w' => e = .returned (.tuple #[]) ∧
      (∃ L : Nat → Value, ArrIs w' 179 ga N l L m ∧ (∀ j, j < N → Row w' Bs 9 1 (L j) (n j + 40) (n j + 40) (mkText (m j)) ∧ Marked w' 9 1 (l j) (n j) (mkText (m j)))) ∧
      Below Bs w w' ∧ Tys [9, 179] w w' := by
  obtain ⟨i0, hi, hz0, hz1, hz2⟩ := info_parts infoS
  have c0 := (hB.cell 3).trans hv
  have HB := Lib.hid hB
  have HA := Lib.hid hA
  have HR := Lib.hid hR
  have HN := Lib.hid hn
  have HD := Lib.hid hD
  have HT := Lib.hid ht
  clear hB hA hR hn hD hv ht
  go_enter Tryz.func92, Tryz.ntmps92
  go_wp2_with fail
  go_loopw [2] (fun i wr => ∃ k : Nat, k ≤ N ∧ i = .int .i64 k ∧ ∃ L : Nat → Value, GInv 9 179 1 Bs ga N l n m mkText w wr k L)
    (fun i _ => N - (intOf i).toNat)
  case atStart => exact ⟨0, Nat.zero_le _, rfl, _, Below.refl _ _, Tys.refl _ _, HA.out, fun _ _ => rfl, fun j hj => by omega, fun j _ hj => HR.out j hj⟩
  case round =>
    obtain ⟨wo, rfl⟩ : ∃ wo : World, wo = wr := ⟨_, rfl⟩
    obtain ⟨k, hk, rfl, L, hinv⟩ := hrel
    have hb := hinv.1
    have hty := hinv.2.1
    have hA2 := hinv.2.2.1
    have c1 : wo.cell? ⟨g, 3, none⟩ = some (.slice (some ⟨ga, 0, none⟩) N cap) := by
      have := blk_tys HB.out hty (by decide)
      exact (this.cell 3).trans ((HB.out.cell 3).symm.trans c0)
    by_cases hlt : k < N
    · obtain ⟨a0, a1, a2⟩ := hA2.at_ hlt
      rw [hinv.2.2.2.1 k (Nat.le_refl _)] at a1
      have hnk := (HN.out k hlt).1
      have hmk := (HN.out k hlt).2
      have hrk := hinv.2.2.2.2.2 k (Nat.le_refl _) hlt
      have hsz := hb.size
      obtain ⟨A, cp, hlk⟩ : ∃ A cp, l k = .slice A (n k) cp := by
        obtain ⟨xs, h1⟩ := hrk.own
        exact h1.form
      have hf : n k = 0 ∨ ∃ b cap, l k = .slice (some ⟨b, 0, none⟩) (n k) cap := by
        rcases Nat.eq_zero_or_pos (n k) with h0 | h0
        · exact .inl h0
        · obtain ⟨b, cap, e, _⟩ := hrk.form h0
          exact .inr ⟨b, cap, e⟩
      have hlb : ∀ b, (l k).ownBlock = some b → b < wo.heap.size ∧ Bs ≤ b := fun b hb => by
        obtain ⟨xs, hx⟩ := hrk.own
        exact ⟨(hx.lt b hb).2, (hx.lt b hb).1⟩
      have hstart : GIn 9 1 Bs (l k) (n k) (mkText (m k)) (wo.alloc (.cells #[l k, .slice none 0 0, .int .i64 (m k : Int)] 179)) (wo.alloc (.cells #[l k, .slice none 0 0, .int .i64 (m k : Int)] 179)) (l k) 0 :=
        ⟨World.grownBy.refl _ _, hrk.below ((Below.refl _ wo).alloc (Nat.le_refl _) _), .inl rfl⟩
      have hbk := Blk.new wo 179 #[l k, .slice none 0 0, .int .i64 (m k : Int)]
      have HLK := Lib.hid hlk
      rw [hlk] at a0 hstart hbk
      have HLB := Lib.hid hlb
      have HF := Lib.hid hf
      have HI := Lib.hid hinv
      have HS := Lib.hid hstart
      have HBK := Lib.hid hbk
      have HBL := Lib.hid hb
      have HC := Lib.hid c1
      clear hinv hA2 hty hb hlk hrk hf hlb hstart hbk
      go_wp2_with fail
      clear a0 a1 a2
      clear c1
      go_loopw [4, 5] (fun v i wi => ∃ q : Nat, q ≤ 40 ∧ i = .int .i64 q ∧ GIn 9 1 Bs (l k) (n k) (mkText (m k)) (wo.alloc (.cells #[.slice A (n k) cp, .slice none 0 0, .int .i64 (m k : Int)] 179)) wi v q)
        (fun _ i _ => 40 - (intOf i).toNat)
      case atStart => exact ⟨0, by omega, rfl, by have := HS.out; rw [HLK.out]; exact this⟩
      case round =>
        obtain ⟨q, hq, rfl, hg⟩ := hrel
        obtain ⟨xs, hown, hx⟩ := hg.2.1
        obtain ⟨A1, cp1, hv1⟩ := hown.form
        have hoB : Bs ≤ wo.heap.size := by have := HBL.out.size; omega
        have hw1 : Below Bs wo wr := by
          refine ((Below.refl _ _).alloc hoB _).grown hg.1 (by simp; omega) (fun b hb => ?_)
          exact ((HLB.out) b hb).2
        have hww : Below Bs w wr := HBL.out.trans hw1
        have hkq : Blk wr wo.heap.size 179 #[.slice A (n k) cp, .slice none 0 0, .int .i64 (m k : Int)] := by
          refine Blk.grown HBK.out hg.1 (fun e => ?_)
          have h2 := ((HLB.out) _ e.symm).1
          omega
        have d2 := hkq.cell 2
        simp at d2
        have ht2 : PowTab wr := HT.out.below hww hBs
        have hxl := hown.len
        by_cases hlq : q < 40
        · subst hv1
          have HX := Lib.hid hx
          have HG := Lib.hid hg
          have HO := Lib.hid hown
          have HXL := Lib.hid hxl
          have HW2 := Lib.hid hww
          clear hx hg hown hw1 hww hkq hxl
          go_wp2_with fail
          refine (mark_text_any (m k) hmk _ ht2).mono ?_
          rintro e w2 ⟨rfl, hb2⟩
          have HB2 := Lib.hid hb2
          clear hb2 d2 ht2
          go_wp2_with (at_builtin; refine wpList_append_strong2 _ rfl _ _ 61 rfl Bs 9 i0 _ 1 16 Tryz.underlying61 hi hz0 hz1 hz2 rfl (by decide) _ _ _ rfl (HO.out.same (fun g hg => (Below.heap_alloc _ _ _ (Nat.lt_of_lt_of_le (HO.out.lt g hg).2 HB2.out.size)).trans (HB2.out.block g (HO.out.lt g hg).2))) ⟨w2.heap.size, 0, none⟩ 1 1 [.string (wordB (m k))] rfl rfl (cell_one_new _ _ _) (by simp [Value.oneCell']) (by unfold maxLen; omega) (by omega) (by have := HB2.out.size; have := HW2.out.size; simp; omega) (by decide) ?_; intro v2 w4 hown2 hat)
          have hstep := HG.out.step HF.out (fun b hb => by have := ((HLB.out) b hb).1; simp; omega) (HB2.out.alloc (by exact HB2.out.size) (.cells #[.string (wordB (m k))] 9)) HX.out HXL.out
            (news := [.string (wordB (m k))]) (fun i hi => by obtain rfl : i = 0 := (by omega); rfl) hown2 hat
          have HST := Lib.hid hstep
          clear hstep hown2 hat
          go_roundw
          case rel => exact ⟨q + 1, by omega, by go_num, HST.out⟩
          case measure => simp [intOf]; omega
        · obtain rfl : q = 40 := by omega
          subst hv1
          have hfin := HI.out.step (by decide) hga hlt (by have := HBL.out.size; omega) HD.out (by have h := hg; rw [← HLK.out] at h; exact h)
          have c3 : wr.cell? ⟨g, 3, none⟩ = some (.slice (some ⟨ga, 0, none⟩) N cap) := by
            have h1 := (HI.out.2.1.alloc (.cells #[.slice A (n k) cp, .slice none 0 0, .int .i64 (m k : Int)] 179)).grown hg.1 (fun b hb => by
              have h2 := HI.out.2.2.2.2.2 k (Nat.le_refl _) hlt
              obtain ⟨xs', hx'⟩ := h2.own
              obtain ⟨cs', hh⟩ := hx'.heap hb
              exact ⟨cs', _, _, (Below.heap_alloc _ _ _ ((HLB.out) b hb).1).trans hh, by simp⟩)
            exact ((blk_tys HB.out h1 (by decide)).cell 3).trans ((HB.out.cell 3).symm.trans c0)
          have hAw : ArrIs wr 179 ga N l L m := by
            have hA1 := HI.out.2.2.1
            refine hA1.same ((hg.1.block ga (by have := hA1.lt; simp; omega) (fun e => ?_)).trans (Below.heap_alloc _ _ _ hA1.lt))
            obtain ⟨xs', hx'⟩ := (HI.out.2.2.2.2.2 k (Nat.le_refl _) hlt).own
            obtain ⟨cs', hh⟩ := hx'.heap e.symm
            obtain ⟨cur, hcur⟩ := hA1.heap
            rw [hh] at hcur
            injection hcur with hcur
            injection hcur with _ h4
            cases h4
          obtain ⟨b0, b1, b2⟩ := hAw.at_ hlt
          have fr := hAw.frozen (k * 3 + 1)
          have HFIN := Lib.hid hfin
          clear hfin hx hg hown hw1 hww hkq hxl hAw b0 b2
          go_wp2_with fail
          go_roundw
          case rel => exact ⟨k + 1, by omega, by go_num, _, HFIN.out⟩
          case measure => simp [intOf]; omega
    · obtain rfl : k = N := by omega
      go_wp2_with fail
      go_end0
      exact ⟨rfl, ⟨L, hA2, fun j hj => ⟨(hinv.2.2.2.2.1 j hj).1, (hinv.2.2.2.2.1 j hj).2.1⟩⟩, hb, hty⟩
end Go.Proofs.YtonlfplloenfcaaGreatDoor.C
namespace Go.Proofs.YtonlfplloenfcaaGreatDoor.C
open Go.RowKit

set_option maxRecDepth 100000 in
set_option maxHeartbeats 1000000 in
theorem growbyte_any (Bs g ga N cap : Nat) (l : Nat → Value) (n m : Nat → Nat) (cs : Array Value) (w : World) (hN : N ≤ 100000) (hBs : powG < Bs) (hBw : Bs ≤ w.heap.size) (hga : Bs ≤ ga) (ht : PowTab w)
    (hB : Blk w g 42 cs) (hv : cs[1]? = some (.slice (some ⟨ga, 0, none⟩) N cap)) (hA : ArrIs w 174 ga N l (fun _ => .slice none 0 0) m)
    (hR : ∀ j, j < N → Row w Bs 5 1 (l j) (n j) (n j) (mkByte (m j))) (hn : ∀ j, j < N → n j ≤ 1000000000 ∧ m j ≤ 1000000)
    (hD : ∀ i j b, i < N → j < N → i ≠ j → (l i).ownBlock = some b → (l j).ownBlock ≠ some b) :
    Calls Tryz.prog 90 #[.pointer (some ⟨g, 0, none⟩)] w fun e w' => e = .returned (.tuple #[]) ∧
      (∃ L : Nat → Value, ArrIs w' 174 ga N l L m ∧ (∀ j, j < N → Row w' Bs 5 1 (L j) (n j + 40) (n j + 40) (mkByte (m j)) ∧ Marked w' 5 1 (l j) (n j) (mkByte (m j)))) ∧
      Below Bs w w' ∧ Tys [5, 174] w w' := by
  obtain ⟨i0, hi, hz0, hz1, hz2⟩ := info_parts infoU
  have c0 := (hB.cell 1).trans hv
  have HB := Lib.hid hB
  have HA := Lib.hid hA
  have HR := Lib.hid hR
  have HN := Lib.hid hn
  have HD := Lib.hid hD
  have HT := Lib.hid ht
  clear hB hA hR hn hD hv ht
  go_enter Tryz.func90, Tryz.ntmps90
  go_wp2_with fail
  go_loopw [2] (fun i wr => ∃ k : Nat, k ≤ N ∧ i = .int .i64 k ∧ ∃ L : Nat → Value, GInv 5 174 1 Bs ga N l n m mkByte w wr k L)
    (fun i _ => N - (intOf i).toNat)
  case atStart => exact ⟨0, Nat.zero_le _, rfl, _, Below.refl _ _, Tys.refl _ _, HA.out, fun _ _ => rfl, fun j hj => by omega, fun j _ hj => HR.out j hj⟩
  case round =>
    obtain ⟨wo, rfl⟩ : ∃ wo : World, wo = wr := ⟨_, rfl⟩
    obtain ⟨k, hk, rfl, L, hinv⟩ := hrel
    have hb := hinv.1
    have hty := hinv.2.1
    have hA2 := hinv.2.2.1
    have c1 : wo.cell? ⟨g, 1, none⟩ = some (.slice (some ⟨ga, 0, none⟩) N cap) := by
      have := blk_tys HB.out hty (by decide)
      exact (this.cell 1).trans ((HB.out.cell 1).symm.trans c0)
    by_cases hlt : k < N
    · obtain ⟨a0, a1, a2⟩ := hA2.at_ hlt
      rw [hinv.2.2.2.1 k (Nat.le_refl _)] at a1
      have hnk := (HN.out k hlt).1
      have hmk := (HN.out k hlt).2
      have hrk := hinv.2.2.2.2.2 k (Nat.le_refl _) hlt
      have hsz := hb.size
      obtain ⟨A, cp, hlk⟩ : ∃ A cp, l k = .slice A (n k) cp := by
        obtain ⟨xs, h1⟩ := hrk.own
        exact h1.form
      have hf : n k = 0 ∨ ∃ b cap, l k = .slice (some ⟨b, 0, none⟩) (n k) cap := by
        rcases Nat.eq_zero_or_pos (n k) with h0 | h0
        · exact .inl h0
        · obtain ⟨b, cap, e, _⟩ := hrk.form h0
          exact .inr ⟨b, cap, e⟩
      have hlb : ∀ b, (l k).ownBlock = some b → b < wo.heap.size ∧ Bs ≤ b := fun b hb => by
        obtain ⟨xs, hx⟩ := hrk.own
        exact ⟨(hx.lt b hb).2, (hx.lt b hb).1⟩
      have hstart : GIn 5 1 Bs (l k) (n k) (mkByte (m k)) (wo.alloc (.cells #[l k, .slice none 0 0, .int .i64 (m k : Int)] 174)) (wo.alloc (.cells #[l k, .slice none 0 0, .int .i64 (m k : Int)] 174)) (l k) 0 :=
        ⟨World.grownBy.refl _ _, hrk.below ((Below.refl _ wo).alloc (Nat.le_refl _) _), .inl rfl⟩
      have hbk := Blk.new wo 174 #[l k, .slice none 0 0, .int .i64 (m k : Int)]
      have HLK := Lib.hid hlk
      rw [hlk] at a0 hstart hbk
      have HLB := Lib.hid hlb
      have HF := Lib.hid hf
      have HI := Lib.hid hinv
      have HS := Lib.hid hstart
      have HBK := Lib.hid hbk
      have HBL := Lib.hid hb
      have HC := Lib.hid c1
      clear hinv hA2 hty hb hlk hrk hf hlb hstart hbk
      go_wp2_with fail
      clear a0 a1 a2
      clear c1
      go_loopw [4, 5] (fun v i wi => ∃ q : Nat, q ≤ 40 ∧ i = .int .i64 q ∧ GIn 5 1 Bs (l k) (n k) (mkByte (m k)) (wo.alloc (.cells #[.slice A (n k) cp, .slice none 0 0, .int .i64 (m k : Int)] 174)) wi v q)
        (fun _ i _ => 40 - (intOf i).toNat)
      case atStart => exact ⟨0, by omega, rfl, by have := HS.out; rw [HLK.out]; exact this⟩
      case round =>
        obtain ⟨q, hq, rfl, hg⟩ := hrel
        obtain ⟨xs, hown, hx⟩ := hg.2.1
        obtain ⟨A1, cp1, hv1⟩ := hown.form
        have hoB : Bs ≤ wo.heap.size := by have := HBL.out.size; omega
        have hw1 : Below Bs wo wr := by
          refine ((Below.refl _ _).alloc hoB _).grown hg.1 (by simp; omega) (fun b hb => ?_)
          exact ((HLB.out) b hb).2
        have hww : Below Bs w wr := HBL.out.trans hw1
        have hkq : Blk wr wo.heap.size 174 #[.slice A (n k) cp, .slice none 0 0, .int .i64 (m k : Int)] := by
          refine Blk.grown HBK.out hg.1 (fun e => ?_)
          have h2 := ((HLB.out) _ e.symm).1
          omega
        have d2 := hkq.cell 2
        simp at d2
        have ht2 : PowTab wr := HT.out.below hww hBs
        have hxl := hown.len
        by_cases hlq : q < 40
        · subst hv1
          have HX := Lib.hid hx
          have HG := Lib.hid hg
          have HO := Lib.hid hown
          have HXL := Lib.hid hxl
          have HW2 := Lib.hid hww
          clear hx hg hown hw1 hww hkq hxl
          go_wp2_with fail
          refine (mark_byte_any (m k) hmk _ ht2).mono ?_
          rintro e w2 ⟨rfl, hb2⟩
          have HB2 := Lib.hid hb2
          clear hb2 d2 ht2
          go_wp2_with (at_builtin; refine wpList_append_strong2 _ rfl _ _ 23 rfl Bs 5 i0 _ 1 1 Tryz.underlying23 hi hz0 hz1 hz2 rfl (by decide) _ _ _ rfl (HO.out.same (fun g hg => (Below.heap_alloc _ _ _ (Nat.lt_of_lt_of_le (HO.out.lt g hg).2 HB2.out.size)).trans (HB2.out.block g (HO.out.lt g hg).2))) ⟨w2.heap.size, 0, none⟩ 1 1 [.int .u8 (markB (m k))] rfl rfl (cell_one_new _ _ _) (by simp [Value.oneCell']) (by unfold maxLen; omega) (by omega) (by have := HB2.out.size; have := HW2.out.size; simp; omega) (by decide) ?_; intro v2 w4 hown2 hat)
          have hstep := HG.out.step HF.out (fun b hb => by have := ((HLB.out) b hb).1; simp; omega) (HB2.out.alloc (by exact HB2.out.size) (.cells #[.int .u8 (markB (m k))] 5)) HX.out HXL.out
            (news := [.int .u8 (markB (m k))]) (fun i hi => by obtain rfl : i = 0 := (by omega); rfl) hown2 hat
          have HST := Lib.hid hstep
          clear hstep hown2 hat
          go_roundw
          case rel => exact ⟨q + 1, by omega, by go_num, HST.out⟩
          case measure => simp [intOf]; omega
        · obtain rfl : q = 40 := by omega
          subst hv1
          have hfin := HI.out.step (by decide) hga hlt (by have := HBL.out.size; omega) HD.out (by have h := hg; rw [← HLK.out] at h; exact h)
          have c3 : wr.cell? ⟨g, 1, none⟩ = some (.slice (some ⟨ga, 0, none⟩) N cap) := by
            have h1 := (HI.out.2.1.alloc (.cells #[.slice A (n k) cp, .slice none 0 0, .int .i64 (m k : Int)] 174)).grown hg.1 (fun b hb => by
              have h2 := HI.out.2.2.2.2.2 k (Nat.le_refl _) hlt
              obtain ⟨xs', hx'⟩ := h2.own
              obtain ⟨cs', hh⟩ := hx'.heap hb
              exact ⟨cs', _, _, (Below.heap_alloc _ _ _ ((HLB.out) b hb).1).trans hh, by simp⟩)
            exact ((blk_tys HB.out h1 (by decide)).cell 1).trans ((HB.out.cell 1).symm.trans c0)
          have hAw : ArrIs wr 174 ga N l L m := by
            have hA1 := HI.out.2.2.1
            refine hA1.same ((hg.1.block ga (by have := hA1.lt; simp; omega) (fun e => ?_)).trans (Below.heap_alloc _ _ _ hA1.lt))
            obtain ⟨xs', hx'⟩ := (HI.out.2.2.2.2.2 k (Nat.le_refl _) hlt).own
            obtain ⟨cs', hh⟩ := hx'.heap e.symm
            obtain ⟨cur, hcur⟩ := hA1.heap
            rw [hh] at hcur
            injection hcur with hcur
            injection hcur with _ h4
            cases h4
          obtain ⟨b0, b1, b2⟩ := hAw.at_ hlt
          have fr := hAw.frozen (k * 3 + 1)
          have HFIN := Lib.hid hfin
          clear hfin hx hg hown hw1 hww hkq hxl hAw b0 b2
          go_wp2_with fail
          go_roundw
          case rel => exact ⟨k + 1, by omega, by go_num, _, HFIN.out⟩
          case measure => simp [intOf]; omega
    · obtain rfl : k = N := by omega
      go_wp2_with fail
      go_end0
      exact ⟨rfl, ⟨L, hA2, fun j hj => ⟨(hinv.2.2.2.2.1 j hj).1, (hinv.2.2.2.2.1 j hj).2.1⟩⟩, hb, hty⟩
end Go.Proofs.YtonlfplloenfcaaGreatDoor.C
namespace Go.Proofs.YtonlfplloenfcaaGreatDoor.C
open Go.RowKit

set_option maxRecDepth 100000 in
set_option maxHeartbeats 1000000 in
theorem growfield_any (Bs g ga N cap : Nat) (l : Nat → Value) (n m : Nat → Nat) (cs : Array Value) (w : World) (hN : N ≤ 100000) (hBs : powG < Bs) (hBw : Bs ≤ w.heap.size) (hga : Bs ≤ ga) (ht : PowTab w)
    (hB : Blk w g 42 cs) (hv : cs[4]? = some (.slice (some ⟨ga, 0, none⟩) N cap)) (hA : ArrIs w 181 ga N l (fun _ => .slice none 0 0) m)
    (hR : ∀ j, j < N → Row w Bs 63 2 (l j) (n j) (n j) (mkField (m j))) (hn : ∀ j, j < N → n j ≤ 1000000000 ∧ m j ≤ 1000000)
    (hD : ∀ i j b, i < N → j < N → i ≠ j → (l i).ownBlock = some b → (l j).ownBlock ≠ some b) :
    Calls Tryz.prog 93 #[.pointer (some ⟨g, 0, none⟩)] w fun e w' => e = .returned (.tuple #[]) ∧
      (∃ L : Nat → Value, ArrIs w' 181 ga N l L m ∧ (∀ j, j < N → Row w' Bs 63 2 (L j) (n j + 40) (n j + 40) (mkField (m j)) ∧ Marked w' 63 2 (l j) (n j) (mkField (m j)))) ∧
      Below Bs w w' ∧ Tys [63, 181] w w' := by
  obtain ⟨i0, hi, hz0, hz1, hz2⟩ := info_parts infoF
  have c0 := (hB.cell 4).trans hv
  have HB := Lib.hid hB
  have HA := Lib.hid hA
  have HR := Lib.hid hR
  have HN := Lib.hid hn
  have HD := Lib.hid hD
  have HT := Lib.hid ht
  clear hB hA hR hn hD hv ht
  go_enter Tryz.func93, Tryz.ntmps93
  go_wp2_with fail
  go_loopw [2] (fun i wr => ∃ k : Nat, k ≤ N ∧ i = .int .i64 k ∧ ∃ L : Nat → Value, GInv 63 181 2 Bs ga N l n m mkField w wr k L)
    (fun i _ => N - (intOf i).toNat)
  case atStart => exact ⟨0, Nat.zero_le _, rfl, _, Below.refl _ _, Tys.refl _ _, HA.out, fun _ _ => rfl, fun j hj => by omega, fun j _ hj => HR.out j hj⟩
  case round =>
    obtain ⟨wo, rfl⟩ : ∃ wo : World, wo = wr := ⟨_, rfl⟩
    obtain ⟨k, hk, rfl, L, hinv⟩ := hrel
    have hb := hinv.1
    have hty := hinv.2.1
    have hA2 := hinv.2.2.1
    have c1 : wo.cell? ⟨g, 4, none⟩ = some (.slice (some ⟨ga, 0, none⟩) N cap) := by
      have := blk_tys HB.out hty (by decide)
      exact (this.cell 4).trans ((HB.out.cell 4).symm.trans c0)
    by_cases hlt : k < N
    · obtain ⟨a0, a1, a2⟩ := hA2.at_ hlt
      rw [hinv.2.2.2.1 k (Nat.le_refl _)] at a1
      have hnk := (HN.out k hlt).1
      have hmk := (HN.out k hlt).2
      have hrk := hinv.2.2.2.2.2 k (Nat.le_refl _) hlt
      have hsz := hb.size
      obtain ⟨A, cp, hlk⟩ : ∃ A cp, l k = .slice A (n k) cp := by
        obtain ⟨xs, h1⟩ := hrk.own
        exact h1.form
      have hf : n k = 0 ∨ ∃ b cap, l k = .slice (some ⟨b, 0, none⟩) (n k) cap := by
        rcases Nat.eq_zero_or_pos (n k) with h0 | h0
        · exact .inl h0
        · obtain ⟨b, cap, e, _⟩ := hrk.form h0
          exact .inr ⟨b, cap, e⟩
      have hlb : ∀ b, (l k).ownBlock = some b → b < wo.heap.size ∧ Bs ≤ b := fun b hb => by
        obtain ⟨xs, hx⟩ := hrk.own
        exact ⟨(hx.lt b hb).2, (hx.lt b hb).1⟩
      have hstart : GIn 63 2 Bs (l k) (n k) (mkField (m k)) (wo.alloc (.cells #[l k, .slice none 0 0, .int .i64 (m k : Int)] 181)) (wo.alloc (.cells #[l k, .slice none 0 0, .int .i64 (m k : Int)] 181)) (l k) 0 :=
        ⟨World.grownBy.refl _ _, hrk.below ((Below.refl _ wo).alloc (Nat.le_refl _) _), .inl rfl⟩
      have hbk := Blk.new wo 181 #[l k, .slice none 0 0, .int .i64 (m k : Int)]
      have HLK := Lib.hid hlk
      rw [hlk] at a0 hstart hbk
      have HLB := Lib.hid hlb
      have HF := Lib.hid hf
      have HI := Lib.hid hinv
      have HS := Lib.hid hstart
      have HBK := Lib.hid hbk
      have HBL := Lib.hid hb
      have HC := Lib.hid c1
      clear hinv hA2 hty hb hlk hrk hf hlb hstart hbk
      go_wp2_with fail
      clear a0 a1 a2
      clear c1
      go_loopw [4, 5] (fun v i wi => ∃ q : Nat, q ≤ 40 ∧ i = .int .i64 q ∧ GIn 63 2 Bs (l k) (n k) (mkField (m k)) (wo.alloc (.cells #[.slice A (n k) cp, .slice none 0 0, .int .i64 (m k : Int)] 181)) wi v q)
        (fun _ i _ => 40 - (intOf i).toNat)
      case atStart => exact ⟨0, by omega, rfl, by have := HS.out; rw [HLK.out]; exact this⟩
      case round =>
        obtain ⟨q, hq, rfl, hg⟩ := hrel
        obtain ⟨xs, hown, hx⟩ := hg.2.1
        obtain ⟨A1, cp1, hv1⟩ := hown.form
        have hoB : Bs ≤ wo.heap.size := by have := HBL.out.size; omega
        have hw1 : Below Bs wo wr := by
          refine ((Below.refl _ _).alloc hoB _).grown hg.1 (by simp; omega) (fun b hb => ?_)
          exact ((HLB.out) b hb).2
        have hww : Below Bs w wr := HBL.out.trans hw1
        have hkq : Blk wr wo.heap.size 181 #[.slice A (n k) cp, .slice none 0 0, .int .i64 (m k : Int)] := by
          refine Blk.grown HBK.out hg.1 (fun e => ?_)
          have h2 := ((HLB.out) _ e.symm).1
          omega
        have d2 := hkq.cell 2
        simp at d2
        have ht2 : PowTab wr := HT.out.below hww hBs
        have hxl := hown.len
        by_cases hlq : q < 40
        · subst hv1
          have HX := Lib.hid hx
          have HG := Lib.hid hg
          have HO := Lib.hid hown
          have HXL := Lib.hid hxl
          have HW2 := Lib.hid hww
          clear hx hg hown hw1 hww hkq hxl
          go_wp2_with fail
          refine (mark_field_any (m k) hmk _ ht2).mono ?_
          rintro e w2 ⟨rfl, hb2⟩
          have HB2 := Lib.hid hb2
          clear hb2 d2 ht2
          go_wp2_with (at_builtin; refine wpList_append_strong2 _ rfl _ _ 22 rfl Bs 63 i0 _ 2 32 Tryz.underlying22 hi hz0 hz1 hz2 rfl (by decide) _ _ _ rfl (HO.out.same (fun g hg => (Below.heap_alloc _ _ _ (Nat.lt_of_lt_of_le (HO.out.lt g hg).2 HB2.out.size)).trans (HB2.out.block g (HO.out.lt g hg).2))) ⟨w2.heap.size, 0, none⟩ 1 1 [.string (wordB (m k)), .string ⟨#[]⟩] rfl rfl (cell_two_new _ _ _ _) (by simp [Value.oneCell']) (by unfold maxLen; omega) (by omega) (by have := HB2.out.size; have := HW2.out.size; simp; omega) (by decide) ?_; intro v2 w4 hown2 hat)
          have hstep := HG.out.step HF.out (fun b hb => by have := ((HLB.out) b hb).1; simp; omega) (HB2.out.alloc (by exact HB2.out.size) (.cells #[.string (wordB (m k)), .string ⟨#[]⟩] 63)) HX.out HXL.out
            (news := [.string (wordB (m k)), .string ⟨#[]⟩]) (fun i hi => by
              rcases (show i = 0 ∨ i = 1 by omega) with rfl | rfl
              · rw [Nat.add_zero, mkField_0]; rfl
              · rw [mkField_1]; rfl) hown2 hat
          have HST := Lib.hid hstep
          clear hstep hown2 hat
          go_roundw
          case rel => exact ⟨q + 1, by omega, by go_num, HST.out⟩
          case measure => simp [intOf]; omega
        · obtain rfl : q = 40 := by omega
          subst hv1
          have hfin := HI.out.step (by decide) hga hlt (by have := HBL.out.size; omega) HD.out (by have h := hg; rw [← HLK.out] at h; exact h)
          have c3 : wr.cell? ⟨g, 4, none⟩ = some (.slice (some ⟨ga, 0, none⟩) N cap) := by
            have h1 := (HI.out.2.1.alloc (.cells #[.slice A (n k) cp, .slice none 0 0, .int .i64 (m k : Int)] 181)).grown hg.1 (fun b hb => by
              have h2 := HI.out.2.2.2.2.2 k (Nat.le_refl _) hlt
              obtain ⟨xs', hx'⟩ := h2.own
              obtain ⟨cs', hh⟩ := hx'.heap hb
              exact ⟨cs', _, _, (Below.heap_alloc _ _ _ ((HLB.out) b hb).1).trans hh, by simp⟩)
            exact ((blk_tys HB.out h1 (by decide)).cell 4).trans ((HB.out.cell 4).symm.trans c0)
          have hAw : ArrIs wr 181 ga N l L m := by
            have hA1 := HI.out.2.2.1
            refine hA1.same ((hg.1.block ga (by have := hA1.lt; simp; omega) (fun e => ?_)).trans (Below.heap_alloc _ _ _ hA1.lt))
            obtain ⟨xs', hx'⟩ := (HI.out.2.2.2.2.2 k (Nat.le_refl _) hlt).own
            obtain ⟨cs', hh⟩ := hx'.heap e.symm
            obtain ⟨cur, hcur⟩ := hA1.heap
            rw [hh] at hcur
            injection hcur with hcur
            injection hcur with _ h4
            cases h4
          obtain ⟨b0, b1, b2⟩ := hAw.at_ hlt
          have fr := hAw.frozen (k * 3 + 1)
          have HFIN := Lib.hid hfin
          clear hfin hx hg hown hw1 hww hkq hxl hAw b0 b2
          go_wp2_with fail
          go_roundw
          case rel => exact ⟨k + 1, by omega, by go_num, _, HFIN.out⟩
          case measure => simp [intOf]; omega
    · obtain rfl : k = N := by omega
      go_wp2_with fail
      go_end0
      exact ⟨rfl, ⟨L, hA2, fun j hj => ⟨(hinv.2.2.2.2.1 j hj).1, (hinv.2.2.2.2.1 j hj).2.1⟩⟩, hb, hty⟩
end Go.Proofs.YtonlfplloenfcaaGreatDoor.C
