/-
  (Second form, of bookc.py: rows may be full fronts of longer blocks.)
  Book: fill.
  (Second form, of bookc.py: rows may be full fronts of longer blocks.)
  Book: fill.
  (Second form, of bookc.py: rows may be full fronts of longer blocks.)
  Book: fill.
-/
import Derived.Test.YtonlfplloenfcaaGreatDoorBookEtc
import Derived.Test.YtonlfplloenfcaaGreatDoorHeldCEtc
import Derived.Test.YtonlfplloenfcaaGreatDoorWordEtc
namespace Go.Proofs.YtonlfplloenfcaaGreatDoor.C
open Go.RowKit

def mkText (m : Nat) (_ : Nat) : Value := .string (wordB m)
set_option maxRecDepth 100000 in
set_option maxHeartbeats 1000000 in
theorem filltext_any (Bs g ga N cap : Nat) (l : Nat → Value) (n m : Nat → Nat) (cs : Array Value) (w : World) (hN : N ≤ 100000) (hBs : powG < Bs) (hBw : Bs ≤ w.heap.size) (ht : PowTab w)
    (hB : Blk w g 42 cs) (hv : cs[3]? = some (.slice (some ⟨ga, 0, none⟩) N cap)) (hA : ArrIs w 179 ga N l (fun _ => .slice none 0 0) m)
    (hR : ∀ j, j < N → Row w Bs 9 1 (l j) (n j) 0 (mkText (m j))) (hn : ∀ j, j < N → n j ≤ 1000000000 ∧ m j ≤ 1000000)
    (hD : ∀ i j b, i < N → j < N → i ≠ j → (l i).ownBlock = some b → (l j).ownBlock ≠ some b) :
    Calls Tryz.prog 84 #[.pointer (some ⟨g, 0, none⟩)] w fun e w' => e = .returned (.tuple #[]) ∧
      (∀ j, j < N → Row w' Bs 9 1 (l j) (n j) (n j) (mkText (m j))) ∧ Below Bs w w' ∧ Tys [9] w w' := by
  have c0 := (hB.cell 3).trans hv
  have HB := Lib.hid hB
  have HA := Lib.hid hA
  have HR := Lib.hid hR
  have HN := Lib.hid hn
  have HD := Lib.hid hD
  have HT := Lib.hid ht
  clear hB hA hR hn hD hv ht
  go_enter Tryz.func84, Tryz.ntmps84
  go_wp2_with fail
  go_loopw [2] (fun i wr => ∃ k : Nat, k ≤ N ∧ i = .int .i64 k ∧ Below Bs w wr ∧ Tys [9] w wr ∧ (∀ j, j < N → Row wr Bs 9 1 (l j) (n j) (if j < k then n j else 0) (mkText (m j))))
    (fun i _ => N - (intOf i).toNat)
  case atStart => exact ⟨0, Nat.zero_le _, rfl, Below.refl _ _, Tys.refl _ _, fun j hj => by simpa using HR.out j hj⟩
  case round =>
    obtain ⟨k, hk, rfl, hb, hty, hrows⟩ := hrel
    have c1 : wr.cell? ⟨g, 3, none⟩ = some (.slice (some ⟨ga, 0, none⟩) N cap) := by
      have := blk_tys HB.out hty (by decide)
      exact (this.cell 3).trans ((HB.out.cell 3).symm.trans c0)
    by_cases hlt : k < N
    · have hA2 := HA.out.tys hty (by decide)
      obtain ⟨a0, a1, a2⟩ := hA2.at_ hlt
      have hnk := (HN.out k hlt).1
      have hmk := (HN.out k hlt).2
      have HRW := Lib.hid hrows
      have HA2 := Lib.hid hA2
      have HTY := Lib.hid hty
      have HBL := Lib.hid hb
      clear hrows hA2 hty hb
      obtain ⟨A, cp, hlk⟩ : ∃ A cp, l k = .slice A (n k) cp := by
        obtain ⟨xs, h1⟩ := (HRW.out k hlt).own
        exact h1.form
      have HLK := Lib.hid hlk
      rw [hlk] at a0
      clear hlk
      go_wp2_with fail
      have hk0 := Blk.new wr 179 #[.slice A (n k) cp, .slice none 0 0, .int .i64 (m k : Int)]
      have hbw := (HBL.out).alloc (Nat.le_trans hBw HBL.out.size) (.cells #[.slice A (n k) cp, .slice none 0 0, .int .i64 (m k : Int)] 179)
      have hty1 := HTY.out.alloc (.cells #[.slice A (n k) cp, .slice none 0 0, .int .i64 (m k : Int)] 179)
      have hr1 : ∀ j, j < N → Row (wr.alloc (.cells #[.slice A (n k) cp, .slice none 0 0, .int .i64 (m k : Int)] 179)) Bs 9 1 (l j) (n j) (if j < k then n j else if j = k then 0 else 0) (mkText (m j)) := fun j hj => by
        have := (HRW.out j hj).below ((Below.refl _ wr).alloc (Nat.le_refl _) (.cells #[.slice A (n k) cp, .slice none 0 0, .int .i64 (m k : Int)] 179))
        simpa using this
      generalize wr.alloc (.cells #[.slice A (n k) cp, .slice none 0 0, .int .i64 (m k : Int)] 179) = W0 at *
      generalize wr.heap.size = hb at *
      have HK0 := Lib.hid hk0
      clear a0 a1 a2 hk0
      go_loopw [4] (fun i wi => ∃ q : Nat, q ≤ n k ∧ i = .int .i64 q ∧ Below Bs w wi ∧ Tys [9] w wi ∧ Blk wi hb 179 #[.slice A (n k) cp, .slice none 0 0, .int .i64 (m k : Int)] ∧
          (∀ j, j < N → Row wi Bs 9 1 (l j) (n j) (if j < k then n j else if j = k then q else 0) (mkText (m j))))
        (fun i _ => n k - (intOf i).toNat)
      case atStart => exact ⟨0, Nat.zero_le _, rfl, hbw, hty1, HK0.out, hr1⟩
      case round =>
        obtain ⟨q, hq, rfl, hbq, htq, hkq, hrq⟩ := hrel
        clear hr1 hty1 hbw
        have d0 := hkq.cell 0
        have d2 := hkq.cell 2
        simp at d0 d2
        by_cases hlq : q < n k
        · obtain ⟨b, cap1, e1, hBb, hblt, hh, hncap⟩ := (hrq k hlt).form (by omega)
          rw [HLK.out] at e1
          injection e1 with e1 _ e2
          subst e1
          subst e2
          have hrow : Row wr Bs 9 1 (.slice (some ⟨b, 0, none⟩) (n k) cp) (n k) q (mkText (m k)) := by
            have := hrq k hlt
            rw [HLK.out, if_neg (by omega), if_pos rfl] at this
            exact this
          have key : ∀ w2, Below wr.heap.size wr w2 → w2.cell? ⟨hb, 0, none⟩ = some (.slice (some ⟨b, 0, none⟩) (n k) cp) ∧ (∃ u, w2.cell? ⟨b, q, none⟩ = some u) ∧ w2.frozen? ⟨b, q, none⟩ = false ∧
              Below Bs w (w2.setCell ⟨b, q, none⟩ (.string (wordB (m k)))) ∧ Tys [9] w (w2.setCell ⟨b, q, none⟩ (.string (wordB (m k)))) ∧
              Blk (w2.setCell ⟨b, q, none⟩ (.string (wordB (m k)))) hb 179 #[.slice (some ⟨b, 0, none⟩) (n k) cp, .slice none 0 0, .int .i64 (m k : Int)] ∧
              (∀ j, j < N → Row (w2.setCell ⟨b, q, none⟩ (.string (wordB (m k)))) Bs 9 1 (l j) (n j) (if j < k then n j else if j = k then q + 1 else 0) (mkText (m j))) := by
            intro w2 h2
            have hrow2 := hrow.below h2
            have hh2 : w2.heap[b]? = wr.heap[b]? := h2.block b hblt
            obtain ⟨cur, hcur⟩ := hh
            have hbl2 : Blk w2 hb 179 #[.slice (some ⟨b, 0, none⟩) (n k) cp, .slice none 0 0, .int .i64 (m k : Int)] := hkq.below h2 hkq.lt
            have hne : hb ≠ b := by
              rintro rfl
              have h3 := hkq.heap
              rw [hcur] at h3
              injection h3 with h3
              injection h3 with _ h4
              cases h4
            refine ⟨(h2.cell (p := ⟨hb, 0, none⟩) hkq.lt).trans d0, hrow2.some_ (by omega), hrow2.free q, (hbq.trans (h2.mono (by have := hbq.size; omega))).setCell hBb _,
              (htq.trans (Tys.of_below _ h2)).setCell (p := ⟨b, q, none⟩) (hh2.trans hcur) (by simp) _, hbl2.far (p := ⟨b, q, none⟩) hne _, fun j hj => ?_⟩
            by_cases e : j = k
            · subst e
              rw [HLK.out, if_neg (by omega), if_pos rfl]
              exact hrow2.set1 hlq
            · have hj2 := (hrq j hj).below h2
              rw [if_neg e] at hj2 ⊢
              refine hj2.kept (row := some b) ⟨rfl, rfl, rfl, by simp [World.setCell], fun i _ hi => Below.heap_setCell _ _ _ _ (fun e' => hi (by rw [e']))⟩ (.inr (HD.out k j b hlt hj (fun e' => e e'.symm) (by rw [HLK.out]; rfl)))
          have ht2 : PowTab wr.drew := (HT.out.below hbq hBs : PowTab wr)
          have hsm := (HN.out k hlt).2
          have KEY := Lib.hid key
          clear key hrow hrq hkq htq hh hBb hblt
          go_wp2_with fail
          go_region_with ((go_at_call 155; refine (mark_text_any (m k) hsm _ ht2).mono ?_; rintro e w2 ⟨rfl, hb2⟩; obtain ⟨x1, ⟨u, x2⟩, x3, x4⟩ := KEY.out w2 (below_undrew hb2)))
          all_goals
            go_wp2_with fail
            go_roundw
            case rel => exact ⟨q + 1, by omega, by go_num, x4⟩
            case measure => simp [intOf]; omega
        · obtain rfl : q = n k := by omega
          go_wp2_with fail
          go_roundw
          case rel =>
            refine ⟨k + 1, by omega, by go_num, hbq, htq, fun j hj => ?_⟩
            have := hrq j hj
            by_cases e : j = k
            · subst e; rw [if_neg (by omega), if_pos rfl] at this; rw [if_pos (by omega)]; exact this
            · rw [if_neg e] at this
              by_cases e2 : j < k
              · rw [if_pos e2] at this; rw [if_pos (by omega)]; exact this
              · rw [if_neg e2] at this; rw [if_neg (by omega)]; exact this
          case measure => simp [intOf]; omega
    · go_wp2_with fail
      go_end0
      refine ⟨rfl, fun j hj => ?_, hb, hty⟩
      have := hrows j hj
      rw [if_pos (by omega)] at this
      exact this
end Go.Proofs.YtonlfplloenfcaaGreatDoor.C
namespace Go.Proofs.YtonlfplloenfcaaGreatDoor.C
open Go.RowKit

def mkByte (m : Nat) (_ : Nat) : Value := .int .u8 (markB m)
set_option maxRecDepth 100000 in
set_option maxHeartbeats 1000000 in
theorem fillbyte_any (Bs g ga N cap : Nat) (l : Nat → Value) (n m : Nat → Nat) (cs : Array Value) (w : World) (hN : N ≤ 100000) (hBs : powG < Bs) (hBw : Bs ≤ w.heap.size) (ht : PowTab w)
    (hB : Blk w g 42 cs) (hv : cs[1]? = some (.slice (some ⟨ga, 0, none⟩) N cap)) (hA : ArrIs w 174 ga N l (fun _ => .slice none 0 0) m)
    (hR : ∀ j, j < N → Row w Bs 5 1 (l j) (n j) 0 (mkByte (m j))) (hn : ∀ j, j < N → n j ≤ 1000000000 ∧ m j ≤ 1000000)
    (hD : ∀ i j b, i < N → j < N → i ≠ j → (l i).ownBlock = some b → (l j).ownBlock ≠ some b) :
    Calls Tryz.prog 82 #[.pointer (some ⟨g, 0, none⟩)] w fun e w' => e = .returned (.tuple #[]) ∧
      (∀ j, j < N → Row w' Bs 5 1 (l j) (n j) (n j) (mkByte (m j))) ∧ Below Bs w w' ∧ Tys [5] w w' := by
  have c0 := (hB.cell 1).trans hv
  have HB := Lib.hid hB
  have HA := Lib.hid hA
  have HR := Lib.hid hR
  have HN := Lib.hid hn
  have HD := Lib.hid hD
  have HT := Lib.hid ht
  clear hB hA hR hn hD hv ht
  go_enter Tryz.func82, Tryz.ntmps82
  go_wp2_with fail
  go_loopw [2] (fun i wr => ∃ k : Nat, k ≤ N ∧ i = .int .i64 k ∧ Below Bs w wr ∧ Tys [5] w wr ∧ (∀ j, j < N → Row wr Bs 5 1 (l j) (n j) (if j < k then n j else 0) (mkByte (m j))))
    (fun i _ => N - (intOf i).toNat)
  case atStart => exact ⟨0, Nat.zero_le _, rfl, Below.refl _ _, Tys.refl _ _, fun j hj => by simpa using HR.out j hj⟩
  case round =>
    obtain ⟨k, hk, rfl, hb, hty, hrows⟩ := hrel
    have c1 : wr.cell? ⟨g, 1, none⟩ = some (.slice (some ⟨ga, 0, none⟩) N cap) := by
      have := blk_tys HB.out hty (by decide)
      exact (this.cell 1).trans ((HB.out.cell 1).symm.trans c0)
    by_cases hlt : k < N
    · have hA2 := HA.out.tys hty (by decide)
      obtain ⟨a0, a1, a2⟩ := hA2.at_ hlt
      have hnk := (HN.out k hlt).1
      have hmk := (HN.out k hlt).2
      have HRW := Lib.hid hrows
      have HA2 := Lib.hid hA2
      have HTY := Lib.hid hty
      have HBL := Lib.hid hb
      clear hrows hA2 hty hb
      obtain ⟨A, cp, hlk⟩ : ∃ A cp, l k = .slice A (n k) cp := by
        obtain ⟨xs, h1⟩ := (HRW.out k hlt).own
        exact h1.form
      have HLK := Lib.hid hlk
      rw [hlk] at a0
      clear hlk
      go_wp2_with fail
      have hk0 := Blk.new wr 174 #[.slice A (n k) cp, .slice none 0 0, .int .i64 (m k : Int)]
      have hbw := (HBL.out).alloc (Nat.le_trans hBw HBL.out.size) (.cells #[.slice A (n k) cp, .slice none 0 0, .int .i64 (m k : Int)] 174)
      have hty1 := HTY.out.alloc (.cells #[.slice A (n k) cp, .slice none 0 0, .int .i64 (m k : Int)] 174)
      have hr1 : ∀ j, j < N → Row (wr.alloc (.cells #[.slice A (n k) cp, .slice none 0 0, .int .i64 (m k : Int)] 174)) Bs 5 1 (l j) (n j) (if j < k then n j else if j = k then 0 else 0) (mkByte (m j)) := fun j hj => by
        have := (HRW.out j hj).below ((Below.refl _ wr).alloc (Nat.le_refl _) (.cells #[.slice A (n k) cp, .slice none 0 0, .int .i64 (m k : Int)] 174))
        simpa using this
      generalize wr.alloc (.cells #[.slice A (n k) cp, .slice none 0 0, .int .i64 (m k : Int)] 174) = W0 at *
      generalize wr.heap.size = hb at *
      have HK0 := Lib.hid hk0
      clear a0 a1 a2 hk0
      go_loopw [4] (fun i wi => ∃ q : Nat, q ≤ n k ∧ i = .int .i64 q ∧ Below Bs w wi ∧ Tys [5] w wi ∧ Blk wi hb 174 #[.slice A (n k) cp, .slice none 0 0, .int .i64 (m k : Int)] ∧
          (∀ j, j < N → Row wi Bs 5 1 (l j) (n j) (if j < k then n j else if j = k then q else 0) (mkByte (m j))))
        (fun i _ => n k - (intOf i).toNat)
      case atStart => exact ⟨0, Nat.zero_le _, rfl, hbw, hty1, HK0.out, hr1⟩
      case round =>
        obtain ⟨q, hq, rfl, hbq, htq, hkq, hrq⟩ := hrel
        clear hr1 hty1 hbw
        have d0 := hkq.cell 0
        have d2 := hkq.cell 2
        simp at d0 d2
        by_cases hlq : q < n k
        · obtain ⟨b, cap1, e1, hBb, hblt, hh, hncap⟩ := (hrq k hlt).form (by omega)
          rw [HLK.out] at e1
          injection e1 with e1 _ e2
          subst e1
          subst e2
          have hrow : Row wr Bs 5 1 (.slice (some ⟨b, 0, none⟩) (n k) cp) (n k) q (mkByte (m k)) := by
            have := hrq k hlt
            rw [HLK.out, if_neg (by omega), if_pos rfl] at this
            exact this
          have key : ∀ w2, Below wr.heap.size wr w2 → w2.cell? ⟨hb, 0, none⟩ = some (.slice (some ⟨b, 0, none⟩) (n k) cp) ∧ (∃ u, w2.cell? ⟨b, q, none⟩ = some u) ∧ w2.frozen? ⟨b, q, none⟩ = false ∧
              Below Bs w (w2.setCell ⟨b, q, none⟩ (.int .u8 (markB (m k)))) ∧ Tys [5] w (w2.setCell ⟨b, q, none⟩ (.int .u8 (markB (m k)))) ∧
              Blk (w2.setCell ⟨b, q, none⟩ (.int .u8 (markB (m k)))) hb 174 #[.slice (some ⟨b, 0, none⟩) (n k) cp, .slice none 0 0, .int .i64 (m k : Int)] ∧
              (∀ j, j < N → Row (w2.setCell ⟨b, q, none⟩ (.int .u8 (markB (m k)))) Bs 5 1 (l j) (n j) (if j < k then n j else if j = k then q + 1 else 0) (mkByte (m j))) := by
            intro w2 h2
            have hrow2 := hrow.below h2
            have hh2 : w2.heap[b]? = wr.heap[b]? := h2.block b hblt
            obtain ⟨cur, hcur⟩ := hh
            have hbl2 : Blk w2 hb 174 #[.slice (some ⟨b, 0, none⟩) (n k) cp, .slice none 0 0, .int .i64 (m k : Int)] := hkq.below h2 hkq.lt
            have hne : hb ≠ b := by
              rintro rfl
              have h3 := hkq.heap
              rw [hcur] at h3
              injection h3 with h3
              injection h3 with _ h4
              cases h4
            refine ⟨(h2.cell (p := ⟨hb, 0, none⟩) hkq.lt).trans d0, hrow2.some_ (by omega), hrow2.free q, (hbq.trans (h2.mono (by have := hbq.size; omega))).setCell hBb _,
              (htq.trans (Tys.of_below _ h2)).setCell (p := ⟨b, q, none⟩) (hh2.trans hcur) (by simp) _, hbl2.far (p := ⟨b, q, none⟩) hne _, fun j hj => ?_⟩
            by_cases e : j = k
            · subst e
              rw [HLK.out, if_neg (by omega), if_pos rfl]
              exact hrow2.set1 hlq
            · have hj2 := (hrq j hj).below h2
              rw [if_neg e] at hj2 ⊢
              refine hj2.kept (row := some b) ⟨rfl, rfl, rfl, by simp [World.setCell], fun i _ hi => Below.heap_setCell _ _ _ _ (fun e' => hi (by rw [e']))⟩ (.inr (HD.out k j b hlt hj (fun e' => e e'.symm) (by rw [HLK.out]; rfl)))
          have ht2 : PowTab wr.drew := (HT.out.below hbq hBs : PowTab wr)
          have hsm := (HN.out k hlt).2
          have KEY := Lib.hid key
          clear key hrow hrq hkq htq hh hBb hblt
          go_wp2_with fail
          go_region_with ((go_at_call 153; refine (mark_byte_any (m k) hsm _ ht2).mono ?_; rintro e w2 ⟨rfl, hb2⟩; obtain ⟨x1, ⟨u, x2⟩, x3, x4⟩ := KEY.out w2 (below_undrew hb2)))
          all_goals
            go_wp2_with fail
            go_roundw
            case rel => exact ⟨q + 1, by omega, by go_num, x4⟩
            case measure => simp [intOf]; omega
        · obtain rfl : q = n k := by omega
          go_wp2_with fail
          go_roundw
          case rel =>
            refine ⟨k + 1, by omega, by go_num, hbq, htq, fun j hj => ?_⟩
            have := hrq j hj
            by_cases e : j = k
            · subst e; rw [if_neg (by omega), if_pos rfl] at this; rw [if_pos (by omega)]; exact this
            · rw [if_neg e] at this
              by_cases e2 : j < k
              · rw [if_pos e2] at this; rw [if_pos (by omega)]; exact this
              · rw [if_neg e2] at this; rw [if_neg (by omega)]; exact this
          case measure => simp [intOf]; omega
    · go_wp2_with fail
      go_end0
      refine ⟨rfl, fun j hj => ?_, hb, hty⟩
      have := hrows j hj
      rw [if_pos (by omega)] at this
      exact this
end Go.Proofs.YtonlfplloenfcaaGreatDoor.C
namespace Go.Proofs.YtonlfplloenfcaaGreatDoor.C
open Go.RowKit

def mkField (m : Nat) (i : Nat) : Value := if i % 2 = 0 then .string (wordB m) else .string ⟨#[]⟩
theorem mkField_0 (m i : Nat) : mkField m (i * 2) = .string (wordB m) := by simp [mkField]
theorem mkField_1 (m i : Nat) : mkField m (i * 2 + 1) = .string ⟨#[]⟩ := by simp [mkField]
set_option maxRecDepth 100000 in
set_option maxHeartbeats 1000000 in
theorem fillfield_any (Bs g ga N cap : Nat) (l : Nat → Value) (n m : Nat → Nat) (cs : Array Value) (w : World) (hN : N ≤ 100000) (hBs : powG < Bs) (hBw : Bs ≤ w.heap.size) (ht : PowTab w)
    (hB : Blk w g 42 cs) (hv : cs[4]? = some (.slice (some ⟨ga, 0, none⟩) N cap)) (hA : ArrIs w 181 ga N l (fun _ => .slice none 0 0) m)
    (hR : ∀ j, j < N → Row w Bs 63 2 (l j) (n j) 0 (mkField (m j))) (hn : ∀ j, j < N → n j ≤ 1000000000 ∧ m j ≤ 1000000)
    (hD : ∀ i j b, i < N → j < N → i ≠ j → (l i).ownBlock = some b → (l j).ownBlock ≠ some b) :
    Calls Tryz.prog 85 #[.pointer (some ⟨g, 0, none⟩)] w fun e w' => e = .returned (.tuple #[]) ∧
      (∀ j, j < N → Row w' Bs 63 2 (l j) (n j) (n j) (mkField (m j))) ∧ Below Bs w w' ∧ Tys [63] w w' := by
  have c0 := (hB.cell 4).trans hv
  have HB := Lib.hid hB
  have HA := Lib.hid hA
  have HR := Lib.hid hR
  have HN := Lib.hid hn
  have HD := Lib.hid hD
  have HT := Lib.hid ht
  clear hB hA hR hn hD hv ht
  go_enter Tryz.func85, Tryz.ntmps85
  go_wp2_with fail
  go_loopw [2] (fun i wr => ∃ k : Nat, k ≤ N ∧ i = .int .i64 k ∧ Below Bs w wr ∧ Tys [63] w wr ∧ (∀ j, j < N → Row wr Bs 63 2 (l j) (n j) (if j < k then n j else 0) (mkField (m j))))
    (fun i _ => N - (intOf i).toNat)
  case atStart => exact ⟨0, Nat.zero_le _, rfl, Below.refl _ _, Tys.refl _ _, fun j hj => by simpa using HR.out j hj⟩
  case round =>
    obtain ⟨k, hk, rfl, hb, hty, hrows⟩ := hrel
    have c1 : wr.cell? ⟨g, 4, none⟩ = some (.slice (some ⟨ga, 0, none⟩) N cap) := by
      have := blk_tys HB.out hty (by decide)
      exact (this.cell 4).trans ((HB.out.cell 4).symm.trans c0)
    by_cases hlt : k < N
    · have hA2 := HA.out.tys hty (by decide)
      obtain ⟨a0, a1, a2⟩ := hA2.at_ hlt
      have hnk := (HN.out k hlt).1
      have hmk := (HN.out k hlt).2
      have HRW := Lib.hid hrows
      have HA2 := Lib.hid hA2
      have HTY := Lib.hid hty
      have HBL := Lib.hid hb
      clear hrows hA2 hty hb
      obtain ⟨A, cp, hlk⟩ : ∃ A cp, l k = .slice A (n k) cp := by
        obtain ⟨xs, h1⟩ := (HRW.out k hlt).own
        exact h1.form
      have HLK := Lib.hid hlk
      rw [hlk] at a0
      clear hlk
      go_wp2_with fail
      have hk0 := Blk.new wr 181 #[.slice A (n k) cp, .slice none 0 0, .int .i64 (m k : Int)]
      have hbw := (HBL.out).alloc (Nat.le_trans hBw HBL.out.size) (.cells #[.slice A (n k) cp, .slice none 0 0, .int .i64 (m k : Int)] 181)
      have hty1 := HTY.out.alloc (.cells #[.slice A (n k) cp, .slice none 0 0, .int .i64 (m k : Int)] 181)
      have hr1 : ∀ j, j < N → Row (wr.alloc (.cells #[.slice A (n k) cp, .slice none 0 0, .int .i64 (m k : Int)] 181)) Bs 63 2 (l j) (n j) (if j < k then n j else if j = k then 0 else 0) (mkField (m j)) := fun j hj => by
        have := (HRW.out j hj).below ((Below.refl _ wr).alloc (Nat.le_refl _) (.cells #[.slice A (n k) cp, .slice none 0 0, .int .i64 (m k : Int)] 181))
        simpa using this
      generalize wr.alloc (.cells #[.slice A (n k) cp, .slice none 0 0, .int .i64 (m k : Int)] 181) = W0 at *
      generalize wr.heap.size = hb at *
      have HK0 := Lib.hid hk0
      clear a0 a1 a2 hk0
      go_loopw [4] (fun i wi => ∃ q : Nat, q ≤ n k ∧ i = .int .i64 q ∧ Below Bs w wi ∧ Tys [63] w wi ∧ Blk wi hb 181 #[.slice A (n k) cp, .slice none 0 0, .int .i64 (m k : Int)] ∧
          (∀ j, j < N → Row wi Bs 63 2 (l j) (n j) (if j < k then n j else if j = k then q else 0) (mkField (m j))))
        (fun i _ => n k - (intOf i).toNat)
      case atStart => exact ⟨0, Nat.zero_le _, rfl, hbw, hty1, HK0.out, hr1⟩
      case round =>
        obtain ⟨q, hq, rfl, hbq, htq, hkq, hrq⟩ := hrel
        clear hr1 hty1 hbw
        have d0 := hkq.cell 0
        have d2 := hkq.cell 2
        simp at d0 d2
        by_cases hlq : q < n k
        · obtain ⟨b, cap1, e1, hBb, hblt, hh, hncap⟩ := (hrq k hlt).form (by omega)
          rw [HLK.out] at e1
          injection e1 with e1 _ e2
          subst e1
          subst e2
          have hrow : Row wr Bs 63 2 (.slice (some ⟨b, 0, none⟩) (n k) cp) (n k) q (mkField (m k)) := by
            have := hrq k hlt
            rw [HLK.out, if_neg (by omega), if_pos rfl] at this
            exact this
          have key : ∀ w2, Below wr.heap.size wr w2 → w2.cell? ⟨hb, 0, none⟩ = some (.slice (some ⟨b, 0, none⟩) (n k) cp) ∧ (∃ u, w2.cell? ⟨b, q * 2, none⟩ = some u) ∧ w2.frozen? ⟨b, q * 2, none⟩ = false ∧ (∃ u, w2.cell? ⟨b, q * 2 + 1, none⟩ = some u) ∧ w2.frozen? ⟨b, q * 2 + 1, none⟩ = false ∧
              Below Bs w ((w2.setCell ⟨b, q * 2, none⟩ (.string (wordB (m k)))).setCell ⟨b, q * 2 + 1, none⟩ (.string ⟨#[]⟩)) ∧ Tys [63] w ((w2.setCell ⟨b, q * 2, none⟩ (.string (wordB (m k)))).setCell ⟨b, q * 2 + 1, none⟩ (.string ⟨#[]⟩)) ∧
              Blk ((w2.setCell ⟨b, q * 2, none⟩ (.string (wordB (m k)))).setCell ⟨b, q * 2 + 1, none⟩ (.string ⟨#[]⟩)) hb 181 #[.slice (some ⟨b, 0, none⟩) (n k) cp, .slice none 0 0, .int .i64 (m k : Int)] ∧
              (∀ j, j < N → Row ((w2.setCell ⟨b, q * 2, none⟩ (.string (wordB (m k)))).setCell ⟨b, q * 2 + 1, none⟩ (.string ⟨#[]⟩)) Bs 63 2 (l j) (n j) (if j < k then n j else if j = k then q + 1 else 0) (mkField (m j))) := by
            intro w2 h2
            have hrow2 := hrow.below h2
            have hh2 : w2.heap[b]? = wr.heap[b]? := h2.block b hblt
            obtain ⟨cur, hcur⟩ := hh
            have hbl2 : Blk w2 hb 181 #[.slice (some ⟨b, 0, none⟩) (n k) cp, .slice none 0 0, .int .i64 (m k : Int)] := hkq.below h2 hkq.lt
            have hne : hb ≠ b := by
              rintro rfl
              have h3 := hkq.heap
              rw [hcur] at h3
              injection h3 with h3
              injection h3 with _ h4
              cases h4
            have hc2 := hh2.trans hcur
            have hc3 : (w2.setCell ⟨b, q * 2, none⟩ (.string (wordB (m k)))).heap[b]? = some (.cells (cur.setIfInBounds (q * 2) (.string (wordB (m k)))) 63 (0, 0)) := Blk.set_ (t := 63) (cs := cur) hc2 _ _
            refine ⟨(h2.cell (p := ⟨hb, 0, none⟩) hkq.lt).trans d0, hrow2.some_ (by omega), hrow2.free _, hrow2.some_ (by omega), hrow2.free _, ((hbq.trans (h2.mono (by have := hbq.size; omega))).setCell hBb _).setCell hBb _,
              ((htq.trans (Tys.of_below _ h2)).setCell (p := ⟨b, q * 2, none⟩) hc2 (by simp) _).setCell (p := ⟨b, q * 2 + 1, none⟩) hc3 (by simp) _, (hbl2.far (p := ⟨b, q * 2, none⟩) hne _).far (p := ⟨b, q * 2 + 1, none⟩) hne _, fun j hj => ?_⟩
            by_cases e : j = k
            · subst e
              rw [HLK.out, if_neg (by omega), if_pos rfl]
              have h5 := hrow2.set2 hlq
              rw [mkField_0, mkField_1] at h5
              exact h5
            · have hj2 := (hrq j hj).below h2
              rw [if_neg e] at hj2 ⊢
              refine hj2.kept (row := some b) ⟨rfl, rfl, rfl, by simp [World.setCell], fun i _ hi => (Below.heap_setCell _ _ _ _ (fun e' => hi (by rw [e']))).trans (Below.heap_setCell _ _ _ _ (fun e' => hi (by rw [e'])))⟩ (.inr (HD.out k j b hlt hj (fun e' => e e'.symm) (by rw [HLK.out]; rfl)))
          have ht2 : PowTab wr.drew := (HT.out.below hbq hBs : PowTab wr)
          have hsm := (HN.out k hlt).2
          have KEY := Lib.hid key
          clear key hrow hrq hkq htq hh hBb hblt
          go_wp2_with fail
          go_region_with ((go_at_call 156; refine (mark_field_any (m k) hsm _ ht2).mono ?_; rintro e w2 ⟨rfl, hb2⟩; obtain ⟨x1, ⟨u, x2⟩, x3, ⟨u', x2'⟩, x3', x4⟩ := KEY.out w2 (below_undrew hb2)))
          all_goals
            go_wp2_with fail
            go_roundw
            case rel => exact ⟨q + 1, by omega, by go_num, x4⟩
            case measure => simp [intOf]; omega
        · obtain rfl : q = n k := by omega
          go_wp2_with fail
          go_roundw
          case rel =>
            refine ⟨k + 1, by omega, by go_num, hbq, htq, fun j hj => ?_⟩
            have := hrq j hj
            by_cases e : j = k
            · subst e; rw [if_neg (by omega), if_pos rfl] at this; rw [if_pos (by omega)]; exact this
            · rw [if_neg e] at this
              by_cases e2 : j < k
              · rw [if_pos e2] at this; rw [if_pos (by omega)]; exact this
              · rw [if_neg e2] at this; rw [if_neg (by omega)]; exact this
          case measure => simp [intOf]; omega
    · go_wp2_with fail
      go_end0
      refine ⟨rfl, fun j hj => ?_, hb, hty⟩
      have := hrows j hj
      rw [if_pos (by omega)] at this
      exact this
end Go.Proofs.YtonlfplloenfcaaGreatDoor.C
