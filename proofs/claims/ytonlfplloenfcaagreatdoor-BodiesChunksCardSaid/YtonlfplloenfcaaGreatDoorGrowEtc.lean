/-
  Book: grow.
  Book: fill.
  Book: fill.
-/
import Derived.Test.YtonlfplloenfcaaGreatDoorFill
import Derived.Test.YtonlfplloenfcaaGreatDoorGrowpEtc
import Derived.Test.YtonlfplloenfcaaGreatDoorTysEtc
import Derived.Maps.AppendAt
import Derived.Test.YtonlfplloenfcaaGreatDoorTwinEtc
import Derived.Test.YtonlfplloenfcaaGreatDoorHeldEtc
import Derived.Test.YtonlfplloenfcaaGreatDoorWord
namespace Go.Proofs.YtonlfplloenfcaaGreatDoor
open Go.RowKit

set_option maxRecDepth 100000 in
set_option maxHeartbeats 1000000 in
theorem growtext_any (Bs g ga N cap : Nat) (l : Nat → Value) (n m : Nat → Nat) (cs : Array Value) (w : World) (hN : N ≤ 100000) (hBs : powG < Bs) (hBw : Bs ≤ w.heap.size) (hga : Bs ≤ ga) (ht : PowTab w)
    (hB : Blk w g 42 cs) (hv : cs[3]? = some (.slice (some ⟨ga, 0, none⟩) N cap)) (hA : ArrIs w 179 ga N l (fun _ => .slice none 0 0) m)
    (hR : ∀ j, j < N → Row w Bs 9 1 (l j) (n j) (n j) (mkText (m j))) (hn : ∀ j, j < N → n j ≤ 1000000000 ∧ m j ≤ 1000000)
    (hD : ∀ i j b, i < N → j < N → i ≠ j → (l i).ownBlock = some b → (l j).ownBlock ≠ some b) :
    Calls Tryz.prog 92 #[.pointer (some ⟨g, 0, none⟩)] w fun e w' => e = .returned (.tuple #[]) ∧
      (∃ L : Nat → Value, ArrIs w' 179 ga N l L m ∧ (∀ j, j < N → Row w' Bs 9 1 (L j) (n j + 40) (n j + 40) (mkText (m j)) ∧ Marked w' 9 1 (l j) (n j) (mkText (m j)))) ∧
      Below Bs w w' ∧ Tys [9, 179] w w' := by
  obtain ⟨i0, hi, hz0, hz1, hz2⟩ := info_parts infoS
  have c0 := (hB.cell 3).trans hv
  have HB := Lib.hid hB
  have HA := Lib.hid hA
  have HR := Lib.hid hR
  have HN := Lib.hid hn
  have HD := Lib.hid hD
  have HT := Lib.hid ht
  clear hB hA hR hn hD hv ht
  go_enter Tryz.func92, Tryz.ntmps92
  go_wp2_with fail
  go_loopw [2] (fun i wr => ∃ k : Nat, k ≤ N ∧ i = .int .i64 k ∧ ∃ L : Nat → Value, GInv 9 179 1 Bs ga N l n m mkText w wr k L)
    (fun i _ => N - (intOf i).toNat)
  case atStart => exact ⟨0, Nat.zero_le _, rfl, _, Below.refl _ _, Tys.refl _ _, HA.out, fun _ _ => rfl, fun j hj => by omega, fun j _ hj => HR.out j hj⟩
  case round =>
    obtain ⟨wo, rfl⟩ : ∃ wo : World, wo = wr := ⟨_, rfl⟩
    obtain ⟨k, hk, rfl, L, hinv⟩ := hrel
    have hb := hinv.1
    have hty := hinv.2.1
    have hA2 := hinv.2.2.1
    have c1 : wo.cell? ⟨g, 3, none⟩ = some (.slice (some ⟨ga, 0, none⟩) N cap) := by
      have := blk_tys HB.out hty (by decide)
      exact (this.cell 3).trans ((HB.out.cell 3).symm.trans c0)
    by_cases hlt : k < N
    · obtain ⟨a0, a1, a2⟩ := hA2.at_ hlt
      rw [hinv.2.2.2.1 k (Nat.le_refl _)] at a1
      have hnk := (HN.out k hlt).1
      have hmk := (HN.out k hlt).2
      have hrk := hinv.2.2.2.2.2 k (Nat.le_refl _) hlt
      have hsz := hb.size
      obtain ⟨A, cp, hlk⟩ : ∃ A cp, l k = .slice A (n k) cp := by
        obtain ⟨xs, h1⟩ := hrk.own
        exact own_form h1
      have hf : n k = 0 ∨ ∃ b cap, l k = .slice (some ⟨b, 0, none⟩) (n k) cap := by
        rcases Nat.eq_zero_or_pos (n k) with h0 | h0
        · exact .inl h0
        · obtain ⟨b, cap, e, _⟩ := hrk.form h0
          exact .inr ⟨b, cap, e⟩
      have hlb : ∀ b, (l k).ownBlock = some b → b < wo.heap.size ∧ Bs ≤ b := fun b hb => by
        obtain ⟨xs, hx⟩ := hrk.own
        exact ⟨(hx.lt b hb).2, (hx.lt b hb).1⟩
      have hstart : GIn 9 1 Bs (l k) (n k) (mkText (m k)) (wo.alloc (.cells #[l k, .slice none 0 0, .int .i64 (m k : Int)] 179)) (wo.alloc (.cells #[l k, .slice none 0 0, .int .i64 (m k : Int)] 179)) (l k) 0 :=
        ⟨World.grownBy.refl _ _, hrk.below ((Below.refl _ wo).alloc (Nat.le_refl _) _), .inl rfl⟩
      have hbk := Blk.new wo 179 #[l k, .slice none 0 0, .int .i64 (m k : Int)]
      have HLK := Lib.hid hlk
      rw [hlk] at a0 hstart hbk
      have HLB := Lib.hid hlb
      have HF := Lib.hid hf
      have HI := Lib.hid hinv
      have HS := Lib.hid hstart
      have HBK := Lib.hid hbk
      have HBL := Lib.hid hb
      have HC := Lib.hid c1
      clear hinv hA2 hty hb hlk hrk hf hlb hstart hbk
      go_wp2_with fail
      clear a0 a1 a2
      clear c1
      go_loopw [4, 5] (fun v i wi => ∃ q : Nat, q ≤ 40 ∧ i = .int .i64 q ∧ GIn 9 1 Bs (l k) (n k) (mkText (m k)) (wo.alloc (.cells #[.slice A (n k) cp, .slice none 0 0, .int .i64 (m k : Int)] 179)) wi v q)
        (fun _ i _ => 40 - (intOf i).toNat)
      case atStart => exact ⟨0, by omega, rfl, by have := HS.out; rw [HLK.out]; exact this⟩
      case round =>
        obtain ⟨q, hq, rfl, hg⟩ := hrel
        obtain ⟨xs, hown, hx⟩ := hg.2.1
        obtain ⟨A1, cp1, hv1⟩ := own_form hown
        have hoB : Bs ≤ wo.heap.size := by have := HBL.out.size; omega
        have hw1 : Below Bs wo wr := by
          refine ((Below.refl _ _).alloc hoB _).grown hg.1 (by simp; omega) (fun b hb => ?_)
          exact ((HLB.out) b hb).2
        have hww : Below Bs w wr := HBL.out.trans hw1
        have hkq : Blk wr wo.heap.size 179 #[.slice A (n k) cp, .slice none 0 0, .int .i64 (m k : Int)] := by
          refine Blk.grown HBK.out hg.1 (fun e => ?_)
          have h2 := ((HLB.out) _ e.symm).1
          omega
        have d2 := hkq.cell 2
        simp at d2
        have ht2 : PowTab wr := HT.out.below hww hBs
        have hxl := hown.1
        by_cases hlq : q < 40
        · subst hv1
          have HX := Lib.hid hx
          have HG := Lib.hid hg
          have HO := Lib.hid hown
          have HXL := Lib.hid hxl
          have HW2 := Lib.hid hww
          clear hx hg hown hw1 hww hkq hxl
          go_wp2_with fail
          refine (mark_text_any (m k) hmk _ ht2).mono ?_
          rintro e w2 ⟨rfl, hb2⟩
          have HB2 := Lib.hid hb2
          clear hb2 d2 ht2
          go_wp2_with (at_builtin; refine wpList_append_strong _ rfl _ _ 61 rfl Bs 9 i0 _ 1 16 Tryz.underlying61 hi hz0 hz1 hz2 rfl (by decide) _ _ _ rfl ((own_below HO.out HB2.out).alloc _) ⟨w2.heap.size, 0, none⟩ 1 1 [.string (wordB (m k))] rfl rfl (cell_one_new _ _ _) (by simp [Value.oneCell']) (by unfold maxLen; omega) (by omega) (by have := HB2.out.size; have := HW2.out.size; simp; omega) (by decide) ?_; intro v2 w4 hown2 hat)
          have hstep := HG.out.step HF.out (fun b hb => by have := ((HLB.out) b hb).1; simp; omega) (HB2.out.alloc (by exact HB2.out.size) (.cells #[.string (wordB (m k))] 9)) HX.out HXL.out
            (news := [.string (wordB (m k))]) (fun i hi => by obtain rfl : i = 0 := (by omega); rfl) hown2 hat
          have HST := Lib.hid hstep
          clear hstep hown2 hat
          go_roundw
          case rel => exact ⟨q + 1, by omega, by go_num, HST.out⟩
          case measure => simp [intOf]; omega
        · obtain rfl : q = 40 := by omega
          subst hv1
          have hfin := HI.out.step (by decide) hga hlt (by have := HBL.out.size; omega) HD.out (by have h := hg; rw [← HLK.out] at h; exact h)
          have c3 : wr.cell? ⟨g, 3, none⟩ = some (.slice (some ⟨ga, 0, none⟩) N cap) := by
            have h1 := (HI.out.2.1.alloc (.cells #[.slice A (n k) cp, .slice none 0 0, .int .i64 (m k : Int)] 179)).grown hg.1 (fun b hb => by
              have h2 := HI.out.2.2.2.2.2 k (Nat.le_refl _) hlt
              obtain ⟨xs', hx'⟩ := h2.own
              obtain ⟨cs', hh⟩ := own_heap hx' hb
              exact ⟨cs', _, _, (Below.heap_alloc _ _ _ ((HLB.out) b hb).1).trans hh, by simp⟩)
            exact ((blk_tys HB.out h1 (by decide)).cell 3).trans ((HB.out.cell 3).symm.trans c0)
          have hAw : ArrIs wr 179 ga N l L m := by
            have hA1 := HI.out.2.2.1
            refine hA1.same ((hg.1.block ga (by have := hA1.lt; simp; omega) (fun e => ?_)).trans (Below.heap_alloc _ _ _ hA1.lt))
            obtain ⟨xs', hx'⟩ := (HI.out.2.2.2.2.2 k (Nat.le_refl _) hlt).own
            obtain ⟨cs', hh⟩ := own_heap hx' e.symm
            obtain ⟨cur, hcur⟩ := hA1.heap
            rw [hh] at hcur
            injection hcur with hcur
            injection hcur with _ h4
            cases h4
          obtain ⟨b0, b1, b2⟩ := hAw.at_ hlt
          have fr := hAw.frozen (k * 3 + 1)
          have HFIN := Lib.hid hfin
          clear hfin hx hg hown hw1 hww hkq hxl hAw b0 b2
          go_wp2_with fail
          go_roundw
          case rel => exact ⟨k + 1, by omega, by go_num, _, HFIN.out⟩
          case measure => simp [intOf]; omega
    · obtain rfl : k = N := by omega
      go_wp2_with fail
      go_end0
      exact ⟨rfl, ⟨L, hA2, fun j hj => ⟨(hinv.2.2.2.2.1 j hj).1, (hinv.2.2.2.2.1 j hj).2.1⟩⟩, hb, hty⟩
end Go.Proofs.YtonlfplloenfcaaGreatDoor
namespace Go.Proofs.YtonlfplloenfcaaGreatDoor
open Go.RowKit

def mkByte (m : Nat) (_ : Nat) : Value := .int .u8 (markB m)
set_option maxRecDepth 100000 in
set_option maxHeartbeats 1000000 in
theorem fillbyte_any (Bs g ga N cap : Nat) (l : Nat → Value) (n m : Nat → Nat) (cs : Array Value) (w : World) (hN : N ≤ 100000) (hBs : powG < Bs) (hBw : Bs ≤ w.heap.size) (ht : PowTab w)
    (hB : Blk w g 42 cs) (hv : cs[1]? = some (.slice (some ⟨ga, 0, none⟩) N cap)) (hA : ArrIs w 174 ga N l (fun _ => .slice none 0 0) m)
    (hR : ∀ j, j < N → Row w Bs 5 1 (l j) (n j) 0 (mkByte (m j))) (hn : ∀ j, j < N → n j ≤ 1000000000 ∧ m j ≤ 1000000)
    (hD : ∀ i j b, i < N → j < N → i ≠ j → (l i).ownBlock = some b → (l j).ownBlock ≠ some b) :
    Calls Tryz.prog 82 #[.pointer (some ⟨g, 0, none⟩)] w fun e w' => e = .returned (.tuple #[]) ∧
      (∀ j, j < N → Row w' Bs 5 1 (l j) (n j) (n j) (mkByte (m j))) ∧ Below Bs w w' ∧ Tys [5] w w' := by
  have c0 := (hB.cell 1).trans hv
  have HB := Lib.hid hB
  have HA := Lib.hid hA
  have HR := Lib.hid hR
  have HN := Lib.hid hn
  have HD := Lib.hid hD
  have HT := Lib.hid ht
  clear hB hA hR hn hD hv ht
  go_enter Tryz.func82, Tryz.ntmps82
  go_wp2_with fail
  go_loopw [2] (fun i wr => ∃ k : Nat, k ≤ N ∧ i = .int .i64 k ∧ Below Bs w wr ∧ Tys [5] w wr ∧ (∀ j, j < N → Row wr Bs 5 1 (l j) (n j) (if j < k then n j else 0) (mkByte (m j))))
    (fun i _ => N - (intOf i).toNat)
  case atStart => exact ⟨0, Nat.zero_le _, rfl, Below.refl _ _, Tys.refl _ _, fun j hj => by simpa using HR.out j hj⟩
  case round =>
    obtain ⟨k, hk, rfl, hb, hty, hrows⟩ := hrel
    have c1 : wr.cell? ⟨g, 1, none⟩ = some (.slice (some ⟨ga, 0, none⟩) N cap) := by
      have := blk_tys HB.out hty (by decide)
      exact (this.cell 1).trans ((HB.out.cell 1).symm.trans c0)
    by_cases hlt : k < N
    · have hA2 := HA.out.tys hty (by decide)
      obtain ⟨a0, a1, a2⟩ := hA2.at_ hlt
      have hnk := (HN.out k hlt).1
      have hmk := (HN.out k hlt).2
      have HRW := Lib.hid hrows
      have HA2 := Lib.hid hA2
      have HTY := Lib.hid hty
      have HBL := Lib.hid hb
      clear hrows hA2 hty hb
      obtain ⟨A, cp, hlk⟩ : ∃ A cp, l k = .slice A (n k) cp := by
        obtain ⟨xs, h1⟩ := (HRW.out k hlt).own
        exact own_form h1
      have HLK := Lib.hid hlk
      rw [hlk] at a0
      clear hlk
      go_wp2_with fail
      have hk0 := Blk.new wr 174 #[.slice A (n k) cp, .slice none 0 0, .int .i64 (m k : Int)]
      have hbw := (HBL.out).alloc (Nat.le_trans hBw HBL.out.size) (.cells #[.slice A (n k) cp, .slice none 0 0, .int .i64 (m k : Int)] 174)
      have hty1 := HTY.out.alloc (.cells #[.slice A (n k) cp, .slice none 0 0, .int .i64 (m k : Int)] 174)
      have hr1 : ∀ j, j < N → Row (wr.alloc (.cells #[.slice A (n k) cp, .slice none 0 0, .int .i64 (m k : Int)] 174)) Bs 5 1 (l j) (n j) (if j < k then n j else if j = k then 0 else 0) (mkByte (m j)) := fun j hj => by
        have := (HRW.out j hj).below ((Below.refl _ wr).alloc (Nat.le_refl _) (.cells #[.slice A (n k) cp, .slice none 0 0, .int .i64 (m k : Int)] 174))
        simpa using this
      generalize wr.alloc (.cells #[.slice A (n k) cp, .slice none 0 0, .int .i64 (m k : Int)] 174) = W0 at *
      generalize wr.heap.size = hb at *
      have HK0 := Lib.hid hk0
      clear a0 a1 a2 hk0
      go_loopw [4] (fun i wi => ∃ q : Nat, q ≤ n k ∧ i = .int .i64 q ∧ Below Bs w wi ∧ Tys [5] w wi ∧ Blk wi hb 174 #[.slice A (n k) cp, .slice none 0 0, .int .i64 (m k : Int)] ∧
          (∀ j, j < N → Row wi Bs 5 1 (l j) (n j) (if j < k then n j else if j = k then q else 0) (mkByte (m j))))
        (fun i _ => n k - (intOf i).toNat)
      case atStart => exact ⟨0, Nat.zero_le _, rfl, hbw, hty1, HK0.out, hr1⟩
      case round =>
        obtain ⟨q, hq, rfl, hbq, htq, hkq, hrq⟩ := hrel
        clear hr1 hty1 hbw
        have d0 := hkq.cell 0
        have d2 := hkq.cell 2
        simp at d0 d2
        by_cases hlq : q < n k
        · obtain ⟨b, cap1, e1, hBb, hblt, hh, hncap⟩ := (hrq k hlt).form (by omega)
          rw [HLK.out] at e1
          injection e1 with e1 _ e2
          subst e1
          subst e2
          have hrow : Row wr Bs 5 1 (.slice (some ⟨b, 0, none⟩) (n k) cp) (n k) q (mkByte (m k)) := by
            have := hrq k hlt
            rw [HLK.out, if_neg (by omega), if_pos rfl] at this
            exact this
          have key : ∀ w2, Below wr.heap.size wr w2 → w2.cell? ⟨hb, 0, none⟩ = some (.slice (some ⟨b, 0, none⟩) (n k) cp) ∧ (∃ u, w2.cell? ⟨b, q, none⟩ = some u) ∧ w2.frozen? ⟨b, q, none⟩ = false ∧
              Below Bs w (w2.setCell ⟨b, q, none⟩ (.int .u8 (markB (m k)))) ∧ Tys [5] w (w2.setCell ⟨b, q, none⟩ (.int .u8 (markB (m k)))) ∧
              Blk (w2.setCell ⟨b, q, none⟩ (.int .u8 (markB (m k)))) hb 174 #[.slice (some ⟨b, 0, none⟩) (n k) cp, .slice none 0 0, .int .i64 (m k : Int)] ∧
              (∀ j, j < N → Row (w2.setCell ⟨b, q, none⟩ (.int .u8 (markB (m k)))) Bs 5 1 (l j) (n j) (if j < k then n j else if j = k then q + 1 else 0) (mkByte (m j))) := by
            intro w2 h2
            have hrow2 := hrow.below h2
            have hh2 : w2.heap[b]? = wr.heap[b]? := h2.block b hblt
            obtain ⟨cur, hcur⟩ := hh
            have hbl2 : Blk w2 hb 174 #[.slice (some ⟨b, 0, none⟩) (n k) cp, .slice none 0 0, .int .i64 (m k : Int)] := hkq.below h2 hkq.lt
            have hne : hb ≠ b := by
              rintro rfl
              have h3 := hkq.heap
              rw [hcur] at h3
              injection h3 with h3
              injection h3 with _ h4
              cases h4
            refine ⟨(h2.cell (p := ⟨hb, 0, none⟩) hkq.lt).trans d0, hrow2.some_ (by omega), hrow2.free q, (hbq.trans (h2.mono (by have := hbq.size; omega))).setCell hBb _,
              (htq.trans (Tys.of_below _ h2)).setCell (p := ⟨b, q, none⟩) (hh2.trans hcur) (by simp) _, hbl2.far (p := ⟨b, q, none⟩) hne _, fun j hj => ?_⟩
            by_cases e : j = k
            · subst e
              rw [HLK.out, if_neg (by omega), if_pos rfl]
              exact hrow2.set1 hlq
            · have hj2 := (hrq j hj).below h2
              rw [if_neg e] at hj2 ⊢
              refine hj2.kept (row := some b) ⟨rfl, rfl, rfl, by simp [World.setCell], fun i _ hi => Below.heap_setCell _ _ _ _ (fun e' => hi (by rw [e']))⟩ (.inr (HD.out k j b hlt hj (fun e' => e e'.symm) (by rw [HLK.out]; rfl)))
          have ht2 : PowTab wr.drew := (HT.out.below hbq hBs : PowTab wr)
          have hsm := (HN.out k hlt).2
          have KEY := Lib.hid key
          clear key hrow hrq hkq htq hh hBb hblt
          go_wp2_with fail
          go_region_with ((go_at_call 153; refine (mark_byte_any (m k) hsm _ ht2).mono ?_; rintro e w2 ⟨rfl, hb2⟩; obtain ⟨x1, ⟨u, x2⟩, x3, x4⟩ := KEY.out w2 (below_undrew hb2)))
          all_goals
            go_wp2_with fail
            go_roundw
            case rel => exact ⟨q + 1, by omega, by go_num, x4⟩
            case measure => simp [intOf]; omega
        · obtain rfl : q = n k := by omega
          go_wp2_with fail
          go_roundw
          case rel =>
            refine ⟨k + 1, by omega, by go_num, hbq, htq, fun j hj => ?_⟩
            have := hrq j hj
            by_cases e : j = k
            · subst e; rw [if_neg (by omega), if_pos rfl] at this; rw [if_pos (by omega)]; exact this
            · rw [if_neg e] at this
              by_cases e2 : j < k
              · rw [if_pos e2] at this; rw [if_pos (by omega)]; exact this
              · rw [if_neg e2] at this; rw [if_neg (by omega)]; exact this
          case measure => simp [intOf]; omega
    · go_wp2_with fail
      go_end0
      refine ⟨rfl, fun j hj => ?_, hb, hty⟩
      have := hrows j hj
      rw [if_pos (by omega)] at this
      exact this
end Go.Proofs.YtonlfplloenfcaaGreatDoor
namespace Go.Proofs.YtonlfplloenfcaaGreatDoor
open Go.RowKit

def mkField (m : Nat) (i : Nat) : Value := if i % 2 = 0 then .string (wordB m) else .string ⟨#[]⟩
theorem mkField_0 (m i : Nat) : mkField m (i * 2) = .string (wordB m) := by simp [mkField]
theorem mkField_1 (m i : Nat) : mkField m (i * 2 + 1) = .string ⟨#[]⟩ := by simp [mkField]
set_option maxRecDepth 100000 in
set_option maxHeartbeats 1000000 in
theorem fillfield_any (Bs g ga N cap : Nat) (l : Nat → Value) (n m : Nat → Nat) (cs : Array Value) (w : World) (hN : N ≤ 100000) (hBs : powG < Bs) (hBw : Bs ≤ w.heap.size) (ht : PowTab w)
    (hB : Blk w g 42 cs) (hv : cs[4]? = some (.slice (some ⟨ga, 0, none⟩) N cap)) (hA : ArrIs w 181 ga N l (fun _ => .slice none 0 0) m)
    (hR : ∀ j, j < N → Row w Bs 63 2 (l j) (n j) 0 (mkField (m j))) (hn : ∀ j, j < N → n j ≤ 1000000000 ∧ m j ≤ 1000000)
    (hD : ∀ i j b, i < N → j < N → i ≠ j → (l i).ownBlock = some b → (l j).ownBlock ≠ some b) :
    Calls Tryz.prog 85 #[.pointer (some ⟨g, 0, none⟩)] w fun e w' => e = .returned (.tuple #[]) ∧
      (∀ j, j < N → Row w' Bs 63 2 (l j) (n j) (n j) (mkField (m j))) ∧ Below Bs w w' ∧ Tys [63] w w' := by
  have c0 := (hB.cell 4).trans hv
  have HB := Lib.hid hB
  have HA := Lib.hid hA
  have HR := Lib.hid hR
  have HN := Lib.hid hn
  have HD := Lib.hid hD
  have HT := Lib.hid ht
  clear hB hA hR hn hD hv ht
  go_enter Tryz.func85, Tryz.ntmps85
  go_wp2_with fail
  go_loopw [2] (fun i wr => ∃ k : Nat, k ≤ N ∧ i = .int .i64 k ∧ Below Bs w wr ∧ Tys [63] w wr ∧ (∀ j, j < N → Row wr Bs 63 2 (l j) (n j) (if j < k then n j else 0) (mkField (m j))))
    (fun i _ => N - (intOf i).toNat)
  case atStart => exact ⟨0, Nat.zero_le _, rfl, Below.refl _ _, Tys.refl _ _, fun j hj => by simpa using HR.out j hj⟩
  case round =>
    obtain ⟨k, hk, rfl, hb, hty, hrows⟩ := hrel
    have c1 : wr.cell? ⟨g, 4, none⟩ = some (.slice (some ⟨ga, 0, none⟩) N cap) := by
      have := blk_tys HB.out hty (by decide)
      exact (this.cell 4).trans ((HB.out.cell 4).symm.trans c0)
    by_cases hlt : k < N
    · have hA2 := HA.out.tys hty (by decide)
      obtain ⟨a0, a1, a2⟩ := hA2.at_ hlt
      have hnk := (HN.out k hlt).1
      have hmk := (HN.out k hlt).2
      have HRW := Lib.hid hrows
      have HA2 := Lib.hid hA2
      have HTY := Lib.hid hty
      have HBL := Lib.hid hb
      clear hrows hA2 hty hb
      obtain ⟨A, cp, hlk⟩ : ∃ A cp, l k = .slice A (n k) cp := by
        obtain ⟨xs, h1⟩ := (HRW.out k hlt).own
        exact own_form h1
      have HLK := Lib.hid hlk
      rw [hlk] at a0
      clear hlk
      go_wp2_with fail
      have hk0 := Blk.new wr 181 #[.slice A (n k) cp, .slice none 0 0, .int .i64 (m k : Int)]
      have hbw := (HBL.out).alloc (Nat.le_trans hBw HBL.out.size) (.cells #[.slice A (n k) cp, .slice none 0 0, .int .i64 (m k : Int)] 181)
      have hty1 := HTY.out.alloc (.cells #[.slice A (n k) cp, .slice none 0 0, .int .i64 (m k : Int)] 181)
      have hr1 : ∀ j, j < N → Row (wr.alloc (.cells #[.slice A (n k) cp, .slice none 0 0, .int .i64 (m k : Int)] 181)) Bs 63 2 (l j) (n j) (if j < k then n j else if j = k then 0 else 0) (mkField (m j)) := fun j hj => by
        have := (HRW.out j hj).below ((Below.refl _ wr).alloc (Nat.le_refl _) (.cells #[.slice A (n k) cp, .slice none 0 0, .int .i64 (m k : Int)] 181))
        simpa using this
      generalize wr.alloc (.cells #[.slice A (n k) cp, .slice none 0 0, .int .i64 (m k : Int)] 181) = W0 at *
      generalize wr.heap.size = hb at *
      have HK0 := Lib.hid hk0
      clear a0 a1 a2 hk0
      go_loopw [4] (fun i wi => ∃ q : Nat, q ≤ n k ∧ i = .int .i64 q ∧ Below Bs w wi ∧ Tys [63] w wi ∧ Blk wi hb 181 #[.slice A (n k) cp, .slice none 0 0, .int .i64 (m k : Int)] ∧
          (∀ j, j < N → Row wi Bs 63 2 (l j) (n j) (if j < k then n j else if j = k then q else 0) (mkField (m j))))
        (fun i _ => n k - (intOf i).toNat)
      case atStart => exact ⟨0, Nat.zero_le _, rfl, hbw, hty1, HK0.out, hr1⟩
      case round =>
        obtain ⟨q, hq, rfl, hbq, htq, hkq, hrq⟩ := hrel
        clear hr1 hty1 hbw
        have d0 := hkq.cell 0
        have d2 := hkq.cell 2
        simp at d0 d2
        by_cases hlq : q < n k
        · obtain ⟨b, cap1, e1, hBb, hblt, hh, hncap⟩ := (hrq k hlt).form (by omega)
          rw [HLK.out] at e1
          injection e1 with e1 _ e2
          subst e1
          subst e2
          have hrow : Row wr Bs 63 2 (.slice (some ⟨b, 0, none⟩) (n k) cp) (n k) q (mkField (m k)) := by
            have := hrq k hlt
            rw [HLK.out, if_neg (by omega), if_pos rfl] at this
            exact this
          have key : ∀ w2, Below wr.heap.size wr w2 → w2.cell? ⟨hb, 0, none⟩ = some (.slice (some ⟨b, 0, none⟩) (n k) cp) ∧ (∃ u, w2.cell? ⟨b, q * 2, none⟩ = some u) ∧ w2.frozen? ⟨b, q * 2, none⟩ = false ∧ (∃ u, w2.cell? ⟨b, q * 2 + 1, none⟩ = some u) ∧ w2.frozen? ⟨b, q * 2 + 1, none⟩ = false ∧
              Below Bs w ((w2.setCell ⟨b, q * 2, none⟩ (.string (wordB (m k)))).setCell ⟨b, q * 2 + 1, none⟩ (.string ⟨#[]⟩)) ∧ Tys [63] w ((w2.setCell ⟨b, q * 2, none⟩ (.string (wordB (m k)))).setCell ⟨b, q * 2 + 1, none⟩ (.string ⟨#[]⟩)) ∧
              Blk ((w2.setCell ⟨b, q * 2, none⟩ (.string (wordB (m k)))).setCell ⟨b, q * 2 + 1, none⟩ (.string ⟨#[]⟩)) hb 181 #[.slice (some ⟨b, 0, none⟩) (n k) cp, .slice none 0 0, .int .i64 (m k : Int)] ∧
              (∀ j, j < N → Row ((w2.setCell ⟨b, q * 2, none⟩ (.string (wordB (m k)))).setCell ⟨b, q * 2 + 1, none⟩ (.string ⟨#[]⟩)) Bs 63 2 (l j) (n j) (if j < k then n j else if j = k then q + 1 else 0) (mkField (m j))) := by
            intro w2 h2
            have hrow2 := hrow.below h2
            have hh2 : w2.heap[b]? = wr.heap[b]? := h2.block b hblt
            obtain ⟨cur, hcur⟩ := hh
            have hbl2 : Blk w2 hb 181 #[.slice (some ⟨b, 0, none⟩) (n k) cp, .slice none 0 0, .int .i64 (m k : Int)] := hkq.below h2 hkq.lt
            have hne : hb ≠ b := by
              rintro rfl
              have h3 := hkq.heap
              rw [hcur] at h3
              injection h3 with h3
              injection h3 with _ h4
              cases h4
            have hc2 := hh2.trans hcur
            have hc3 : (w2.setCell ⟨b, q * 2, none⟩ (.string (wordB (m k)))).heap[b]? = some (.cells (cur.setIfInBounds (q * 2) (.string (wordB (m k)))) 63 (0, 0)) := Blk.set_ (t := 63) (cs := cur) hc2 _ _
            refine ⟨(h2.cell (p := ⟨hb, 0, none⟩) hkq.lt).trans d0, hrow2.some_ (by omega), hrow2.free _, hrow2.some_ (by omega), hrow2.free _, ((hbq.trans (h2.mono (by have := hbq.size; omega))).setCell hBb _).setCell hBb _,
              ((htq.trans (Tys.of_below _ h2)).setCell (p := ⟨b, q * 2, none⟩) hc2 (by simp) _).setCell (p := ⟨b, q * 2 + 1, none⟩) hc3 (by simp) _, (hbl2.far (p := ⟨b, q * 2, none⟩) hne _).far (p := ⟨b, q * 2 + 1, none⟩) hne _, fun j hj => ?_⟩
            by_cases e : j = k
            · subst e
              rw [HLK.out, if_neg (by omega), if_pos rfl]
              have h5 := hrow2.set2 hlq
              rw [mkField_0, mkField_1] at h5
              exact h5
            · have hj2 := (hrq j hj).below h2
              rw [if_neg e] at hj2 ⊢
              refine hj2.kept (row := some b) ⟨rfl, rfl, rfl, by simp [World.setCell], fun i _ hi => (Below.heap_setCell _ _ _ _ (fun e' => hi (by rw [e']))).trans (Below.heap_setCell _ _ _ _ (fun e' => hi (by rw [e'])))⟩ (.inr (HD.out k j b hlt hj (fun e' => e e'.symm) (by rw [HLK.out]; rfl)))
          have ht2 : PowTab wr.drew := (HT.out.below hbq hBs : PowTab wr)
          have hsm := (HN.out k hlt).2
          have KEY := Lib.hid key
          clear key hrow hrq hkq htq hh hBb hblt
          go_wp2_with fail
          go_region_with ((go_at_call 156; refine (mark_field_any (m k) hsm _ ht2).mono ?_; rintro e w2 ⟨rfl, hb2⟩; obtain ⟨x1, ⟨u, x2⟩, x3, ⟨u', x2'⟩, x3', x4⟩ := KEY.out w2 (below_undrew hb2)))
          all_goals
            go_wp2_with fail
            go_roundw
            case rel => exact ⟨q + 1, by omega, by go_num, x4⟩
            case measure => simp [intOf]; omega
        · obtain rfl : q = n k := by omega
          go_wp2_with fail
          go_roundw
          case rel =>
            refine ⟨k + 1, by omega, by go_num, hbq, htq, fun j hj => ?_⟩
            have := hrq j hj
            by_cases e : j = k
            · subst e; rw [if_neg (by omega), if_pos rfl] at this; rw [if_pos (by omega)]; exact this
            · rw [if_neg e] at this
              by_cases e2 : j < k
              · rw [if_pos e2] at this; rw [if_pos (by omega)]; exact this
              · rw [if_neg e2] at this; rw [if_neg (by omega)]; exact this
          case measure => simp [intOf]; omega
    · go_wp2_with fail
      go_end0
      refine ⟨rfl, fun j hj => ?_, hb, hty⟩
      have := hrows j hj
      rw [if_pos (by omega)] at this
      exact this
end Go.Proofs.YtonlfplloenfcaaGreatDoor
