/-
  Copies with a mark behind them: how they read. Fields, bytes.
  Book: keepByte. (Written by book.py out of XBook.)
  Book: keepField. (Written by book.py out of XBook.)
  Rows of bytes of the call's own: small facts, over any program.
-/
import Derived.Test.YtonlfplloenfcaaGreatDoorHeldEtc
import Derived.Test.YtonlfplloenfcaaGreatDoorFindEtc
import Derived.Test.YtonlfplloenfcaaGreatDoorResultsEtc
import Derived.Deep.RegionLaw
import Derived.Lib.AppendStr
namespace Go.Proofs.YtonlfplloenfcaaGreatDoor
open Go.RowKit

theorem big_parts {m : Nat} {fs : List Fd} (h : bigB m fs = false) : fs.length ≤ 100000 ∧ ∀ f ∈ fs, f.1.size ≤ 200000 ∧ f.2.size ≤ 200000 := by
  have h2 : m + fsum fs ≤ 200000 := by
    unfold bigB at h
    have := of_decide_eq_false h
    omega
  have key : ∀ l : List Fd, 2 * l.length ≤ fsum l ∧ ∀ f ∈ l, f.1.size + f.2.size ≤ fsum l := by
    intro l
    induction l with
    | nil => exact ⟨by simp, by simp⟩
    | cons x r ih =>
      have e : fsum (x :: r) = (2 + x.1.size + x.2.size) + fsum r := by simp [fsum]
      refine ⟨by rw [e, List.length_cons]; omega, fun f hf => ?_⟩
      rw [e]
      rcases List.mem_cons.1 hf with rfl | hf
      · omega
      · have := ih.2 f hf; omega
  have k1 := key fs
  exact ⟨by omega, fun f hf => by have := k1.2 f hf; omega⟩

theorem FRead.below {w w' : World} {B : Nat} {A : Option Addr} {n : Nat} {fs : List Fd} (h : FRead w B A n fs) (hb : Below B w w') : FRead w' B A n fs :=
  ⟨h.1, fun hn => by
    obtain ⟨b, off, e, hlt, hc⟩ := h.2 hn
    exact ⟨b, off, e, hlt, fun i f hf => ⟨(hb.cell (p := ⟨b, _, none⟩) hlt).trans (hc i f hf).1, (hb.cell (p := ⟨b, _, none⟩) hlt).trans (hc i f hf).2⟩⟩⟩
theorem FRead.more {w : World} {B B' : Nat} {A : Option Addr} {n : Nat} {fs : List Fd} (h : FRead w B A n fs) (hB : B ≤ B') : FRead w B' A n fs :=
  ⟨h.1, fun hn => by
    obtain ⟨b, off, e, hlt, hc⟩ := h.2 hn
    exact ⟨b, off, e, by omega, hc⟩⟩
theorem fcells_at : ∀ (fs : List Fd) (xs : List Value) (i : Nat) (f : Fd), fs[i]? = some f → (fcells fs ++ xs)[i * 2]? = some (.string f.1) ∧ (fcells fs ++ xs)[i * 2 + 1]? = some (.string f.2)
  | [], _, i, f, h => by simp at h
  | g :: r, xs, 0, f, h => by
    simp at h
    subst h
    simp [fcells]
  | g :: r, xs, i + 1, f, h => by
    have ih := fcells_at r xs i f (by simpa using h)
    refine ⟨?_, ?_⟩
    · rw [show (i + 1) * 2 = i * 2 + 2 by omega]; simpa [fcells] using ih.1
    · rw [show (i + 1) * 2 + 1 = i * 2 + 1 + 2 by omega]; simpa [fcells] using ih.2
theorem fcells_len (fs : List Fd) : (fcells fs).length = fs.length * 2 := by
  unfold fcells
  induction fs with
  | nil => rfl
  | cons x r ih => rw [List.flatMap_cons, List.length_append, ih, List.length_cons]; simp; omega
/-- A copy that was made with a mark behind it: it reads as the list, and the mark is there. -/
theorem twin_read {w : World} {base g n : Nat} {E : TypeId} {fs : List Fd} {a b : Value} (hl : fs.length = n) (h : w.ownsRow base E 2 (.slice (some ⟨g, 0, none⟩) (n + 1) (n + 1)) (n + 1) (fcells fs ++ [a, b])) :
    FRead w w.heap.size (some ⟨g, 0, none⟩) n fs ∧ w.cell? ⟨g, n * 2, none⟩ = some a ∧ w.cell? ⟨g, n * 2 + 1, none⟩ = some b := by
  have hlen := fcells_len fs
  refine ⟨⟨hl, fun hn => ⟨g, 0, rfl, (h.lt g rfl).2, fun i f hf => ?_⟩⟩, ?_, ?_⟩
  · have hi : i < n := by rw [← hl]; exact (List.getElem?_eq_some_iff.1 hf).1
    obtain ⟨h1, h2⟩ := fcells_at fs [a, b] i f hf
    rw [Nat.zero_add]
    exact ⟨(h.cellAt _ (by omega)).trans h1, (h.cellAt _ (by omega)).trans h2⟩
  · rw [h.cellAt _ (by omega), List.getElem?_append_right (by omega)]
    simp [hlen, hl]
  · rw [h.cellAt _ (by omega), List.getElem?_append_right (by omega)]
    simp [hlen, hl]
/-- A row without its last elements. -/
theorem own_cut {w : World} {base g n k cap sz : Nat} {E : TypeId} {xs ys : List Value} (hx : xs.length = n * sz) (h : w.ownsRow base E sz (.slice (some ⟨g, 0, none⟩) (n + k) cap) (n + k) (xs ++ ys)) : w.ownsRow base E sz (.slice (some ⟨g, 0, none⟩) n cap) n xs := by
  refine ⟨hx, ?_⟩
  rcases h.2 with ⟨h2, _⟩ | ⟨g', cap', cur, hv, hg, hh, hnc, hcm, hcs, htake⟩
  · simp at h2
  · simp only [Value.slice.injEq, Option.some.injEq, Addr.mk.injEq, and_true, true_and] at hv
    obtain ⟨rfl, rfl⟩ := hv
    refine .inr ⟨g, cap, cur, rfl, hg, hh, by omega, hcm, hcs, ?_⟩
    have h3 := congrArg (List.take (n * sz)) htake
    rw [List.take_take, Nat.min_eq_left (Nat.mul_le_mul_right _ (by omega))] at h3
    rw [h3, ← hx]
    exact List.take_left

/-- A copy that was made with a mark behind it. -/
theorem twinb_read {w : World} {base g n : Nat} {E : TypeId} {l : List UInt8} {a : Value} (hl : l.length = n) (h : w.ownsRow base E 1 (.slice (some ⟨g, 0, none⟩) (n + 1) (n + 1)) (n + 1) (Lib.byteCells l ++ [a])) :
    Lies w w.heap.size (some ⟨g, 0, none⟩) n (Lib.byteCells l) ∧ w.cell? ⟨g, n, none⟩ = some a := by
  have hlen := Lib.byteCells_length l
  refine ⟨⟨by omega, fun hn => ⟨g, 0, rfl, (h.lt g rfl).2, fun j u hu => ?_⟩⟩, ?_⟩
  · have hj : j < n := by have := (List.getElem?_eq_some_iff.1 hu).1; omega
    rw [Nat.zero_add, h.cellAt _ (by omega), List.getElem?_append_left (by omega)]
    exact hu
  · rw [h.cellAt _ (by omega), List.getElem?_append_right (by omega)]
    simp [hlen, hl]
theorem own_cutb {w : World} {base g n k cap : Nat} {E : TypeId} {xs ys : List Value} (hx : xs.length = n) (h : w.ownsRow base E 1 (.slice (some ⟨g, 0, none⟩) (n + k) cap) (n + k) (xs ++ ys)) : w.ownsRow base E 1 (.slice (some ⟨g, 0, none⟩) n cap) n xs := by
  refine ⟨by omega, ?_⟩
  rcases h.2 with ⟨h2, _⟩ | ⟨g', cap', cur, hv, hg, hh, hnc, hcm, hcs, htake⟩
  · simp at h2
  · simp only [Value.slice.injEq, Option.some.injEq, Addr.mk.injEq, and_true, true_and] at hv
    obtain ⟨rfl, rfl⟩ := hv
    refine .inr ⟨g, cap, cur, rfl, hg, hh, by omega, hcm, hcs, ?_⟩
    have h3 := congrArg (List.take (n * 1)) htake
    rw [List.take_take, Nat.min_eq_left (by omega), List.take_append_of_le_length (by omega)] at h3
    rw [h3]
    exact List.take_of_length_le (by omega)

end Go.Proofs.YtonlfplloenfcaaGreatDoor
namespace Go.Proofs.YtonlfplloenfcaaGreatDoor
open Go.RowKit

theorem infoHB : (Tryz.prog.info? 174).map (fun i => (i.zero, i.size, i.bytes)) = some (some (.agg #[.slice none 0 0, .slice none 0 0, .int .i64 0]), 3, 56) := by kernel_rfl

set_option maxRecDepth 100000 in
theorem keepbyte_any (Bs g : Nat) (nb : Nat) (vb vi vt vf vc vs vg vm : Value) (A : Option Addr) (n c m : Nat) (xs : List Value) (w : World) (hnb : nb ≤ 1000000) (hm : m ≤ 1000000) (hBs : Bs ≤ g)
     (hB : Blk w g 42 #[.int .i64 nb, vb, vi, vt, vf, vc, vs, vg, vm]) (hown : w.ownsRow Bs 174 3 vb m xs) :
   Calls Tryz.prog 81 #[.pointer (some ⟨g, 0, none⟩), .slice A n c] w fun e w' => e = .returned (.tuple #[]) ∧
     ∃ vb', Blk w' g 42 #[.int .i64 (nb + 1 : Nat), vb', vi, vt, vf, vc, vs, vg, vm] ∧ w'.ownsRow Bs 174 3 vb' (m + 1) (xs ++ [.slice A n c, .slice none 0 0, .int .i64 (nb + 1 : Nat)]) ∧
       Below Bs w w' ∧ Tys [42, 174] w w' := by
  obtain ⟨i0, hi, hz0, hz1, hz2⟩ := info_parts infoHB
  have c0 := hB.cell 0
  have f0 := hB.frozen 0
  simp at c0
  have hlt := hB.lt
  obtain ⟨W1, hW1, hB1, hO1, hb1, ht1⟩ : ∃ W1, w.setCell ⟨g, 0, none⟩ (.int .i64 (nb + 1 : Nat)) = W1 ∧ Blk W1 g 42 #[.int .i64 (nb + 1 : Nat), vb, vi, vt, vf, vc, vs, vg, vm] ∧ W1.ownsRow Bs 174 3 vb m xs ∧
      Below Bs w W1 ∧ Tys [42, 174] w W1 := by
    have ht : Tys [42] w (w.setCell ⟨g, 0, none⟩ (.int .i64 (nb + 1 : Nat))) := (Tys.refl _ _).setCell (p := ⟨g, 0, none⟩) hB.heap (by simp) _
    refine ⟨_, rfl, by simpa using hB.set_ 0 (.int .i64 (nb + 1 : Nat)), own_tys hown ht (by decide), (Below.refl _ _).setCell hBs _, ht.mono (by simp)⟩
  have HB := Lib.hid hB
  have HO := Lib.hid hown
  clear hB hown
  go_enter Tryz.func81, Tryz.ntmps81
  go_wp2_with fail
  have e1 : ((nb : Int) + 1) = ((nb + 1 : Nat) : Int) := by omega
  rw [e1, hW1]
  clear hW1 c0 f0 e1
  have c0 := hB1.cell 0
  have c3 := hB1.cell 1
  simp at c0 c3
  have hne : ∀ k, vb.ownBlock = some k → k ≠ g := fun k hk => by
    obtain ⟨cs, hh⟩ := own_heap hO1 hk
    rintro rfl
    rw [hB1.heap] at hh
    injection hh with hh
    injection hh with _ h2
    cases h2
  have hfin : ∀ (v2 : Value) (w2 : World), w2.ownsRow Bs 174 3 v2 (m + 1) (xs ++ [.slice A n c, .slice none 0 0, .int .i64 (nb + 1 : Nat)]) →
      ((W1.alloc (.cells #[.slice A n c, .slice none 0 0, .int .i64 (nb + 1 : Nat)] 174)).drew).grownBy w2 vb.ownBlock →
      (Blk w2 g 42 #[.int .i64 (nb + 1 : Nat), vb, vi, vt, vf, vc, vs, vg, vm] ∧ Below Bs w w2 ∧ Tys [42, 174] w w2) := by
    intro v2 w2 h2 hg2
    have hlt1 := hB1.lt
    refine ⟨((hB1.alloc _).drew).grown hg2 (fun e => hne g e.symm rfl), ((hb1.alloc (by omega) _).drew).grown hg2 (by have := hb1.size; simp; omega) (fun k hk => (hO1.lt k hk).1), ((ht1.alloc _).drew).grown hg2 (fun k hk => ?_)⟩
    obtain ⟨cs, hh⟩ := own_heap hO1 hk
    exact ⟨cs, _, _, (Below.heap_alloc _ _ _ (hO1.lt k hk).2).trans hh, by simp⟩
  have HB1 := Lib.hid hB1
  have HO1 := Lib.hid hO1
  have HF := Lib.hid hfin
  have HL1 := Lib.hid hb1
  have ca : ∀ o, (W1.alloc o).cell? ⟨g, 1, none⟩ = some vb := fun o => (World.cell?_alloc_lt W1 o ⟨g, 1, none⟩ hB1.lt).trans c3
  clear hB1 hO1 ht1 hb1 hfin hne
  go_region_law ((refine step_append_any _ rfl _ _ 33 rfl Bs 174 i0 _ 3 56 Tryz.underlying33 hi hz0 hz1 hz2 rfl (by decide) vb m xs rfl (HO1.out.alloc _) (W1.heap.size + 1) _ 1 1 [.slice A n c, .slice none 0 0, .int .i64 (nb + 1 : Nat)] rfl (reads_three W1 _ _ _ _ _ (by omega)) (by simp [Value.oneCell']) (by unfold maxLen; omega) (by omega) (by have := HL1.out.size; simp; omega) ?_; intro v2 w2 hown2 hg2 _; have hK := HF.out v2 w2 hown2 hg2; have HK := Lib.hid hK; have cc := hK.1.cell 1; have ff := hK.1.frozen 1; simp at cc; clear hK; have HW := Lib.hid hown2; obtain ⟨A2, c2, rfl⟩ := own_form hown2; clear hown2 hg2))
  all_goals
    go_end0
    have hs : ∀ u, Tys [42] w2 (w2.setCell ⟨g, 1, none⟩ u) := fun u => (Tys.refl _ _).setCell (p := ⟨g, 1, none⟩) HK.out.1.heap (by simp) _
    exact ⟨rfl, _, by simpa using HK.out.1.set_ 1 _, own_tys HW.out (hs _) (by decide), HK.out.2.1.setCell hBs _, HK.out.2.2.trans ((hs _).mono (by simp))⟩
end Go.Proofs.YtonlfplloenfcaaGreatDoor
namespace Go.Proofs.YtonlfplloenfcaaGreatDoor
open Go.RowKit

theorem infoHF : (Tryz.prog.info? 181).map (fun i => (i.zero, i.size, i.bytes)) = some (some (.agg #[.slice none 0 0, .slice none 0 0, .int .i64 0]), 3, 56) := by kernel_rfl

set_option maxRecDepth 100000 in
theorem keepfield_any (Bs g : Nat) (nb : Nat) (vb vi vt vf vc vs vg vm : Value) (A : Option Addr) (n c m : Nat) (xs : List Value) (w : World) (hnb : nb ≤ 1000000) (hm : m ≤ 1000000) (hBs : Bs ≤ g)
     (hB : Blk w g 42 #[.int .i64 nb, vb, vi, vt, vf, vc, vs, vg, vm]) (hown : w.ownsRow Bs 181 3 vf m xs) :
   Calls Tryz.prog 152 #[.pointer (some ⟨g, 0, none⟩), .slice A n c] w fun e w' => e = .returned (.tuple #[]) ∧
     ∃ vf', Blk w' g 42 #[.int .i64 (nb + 1 : Nat), vb, vi, vt, vf', vc, vs, vg, vm] ∧ w'.ownsRow Bs 181 3 vf' (m + 1) (xs ++ [.slice A n c, .slice none 0 0, .int .i64 (nb + 1 : Nat)]) ∧
       Below Bs w w' ∧ Tys [42, 181] w w' := by
  obtain ⟨i0, hi, hz0, hz1, hz2⟩ := info_parts infoHF
  have c0 := hB.cell 0
  have f0 := hB.frozen 0
  simp at c0
  have hlt := hB.lt
  obtain ⟨W1, hW1, hB1, hO1, hb1, ht1⟩ : ∃ W1, w.setCell ⟨g, 0, none⟩ (.int .i64 (nb + 1 : Nat)) = W1 ∧ Blk W1 g 42 #[.int .i64 (nb + 1 : Nat), vb, vi, vt, vf, vc, vs, vg, vm] ∧ W1.ownsRow Bs 181 3 vf m xs ∧
      Below Bs w W1 ∧ Tys [42, 181] w W1 := by
    have ht : Tys [42] w (w.setCell ⟨g, 0, none⟩ (.int .i64 (nb + 1 : Nat))) := (Tys.refl _ _).setCell (p := ⟨g, 0, none⟩) hB.heap (by simp) _
    refine ⟨_, rfl, by simpa using hB.set_ 0 (.int .i64 (nb + 1 : Nat)), own_tys hown ht (by decide), (Below.refl _ _).setCell hBs _, ht.mono (by simp)⟩
  have HB := Lib.hid hB
  have HO := Lib.hid hown
  clear hB hown
  go_enter Tryz.func152, Tryz.ntmps152
  go_wp2_with fail
  have e1 : ((nb : Int) + 1) = ((nb + 1 : Nat) : Int) := by omega
  rw [e1, hW1]
  clear hW1 c0 f0 e1
  have c0 := hB1.cell 0
  have c3 := hB1.cell 4
  simp at c0 c3
  have hne : ∀ k, vf.ownBlock = some k → k ≠ g := fun k hk => by
    obtain ⟨cs, hh⟩ := own_heap hO1 hk
    rintro rfl
    rw [hB1.heap] at hh
    injection hh with hh
    injection hh with _ h2
    cases h2
  have hfin : ∀ (v2 : Value) (w2 : World), w2.ownsRow Bs 181 3 v2 (m + 1) (xs ++ [.slice A n c, .slice none 0 0, .int .i64 (nb + 1 : Nat)]) →
      ((W1.alloc (.cells #[.slice A n c, .slice none 0 0, .int .i64 (nb + 1 : Nat)] 181)).drew).grownBy w2 vf.ownBlock →
      (Blk w2 g 42 #[.int .i64 (nb + 1 : Nat), vb, vi, vt, vf, vc, vs, vg, vm] ∧ Below Bs w w2 ∧ Tys [42, 181] w w2) := by
    intro v2 w2 h2 hg2
    have hlt1 := hB1.lt
    refine ⟨((hB1.alloc _).drew).grown hg2 (fun e => hne g e.symm rfl), ((hb1.alloc (by omega) _).drew).grown hg2 (by have := hb1.size; simp; omega) (fun k hk => (hO1.lt k hk).1), ((ht1.alloc _).drew).grown hg2 (fun k hk => ?_)⟩
    obtain ⟨cs, hh⟩ := own_heap hO1 hk
    exact ⟨cs, _, _, (Below.heap_alloc _ _ _ (hO1.lt k hk).2).trans hh, by simp⟩
  have HB1 := Lib.hid hB1
  have HO1 := Lib.hid hO1
  have HF := Lib.hid hfin
  have HL1 := Lib.hid hb1
  have ca : ∀ o, (W1.alloc o).cell? ⟨g, 4, none⟩ = some vf := fun o => (World.cell?_alloc_lt W1 o ⟨g, 4, none⟩ hB1.lt).trans c3
  clear hB1 hO1 ht1 hb1 hfin hne
  go_region_law ((refine step_append_any _ rfl _ _ 36 rfl Bs 181 i0 _ 3 56 Tryz.underlying36 hi hz0 hz1 hz2 rfl (by decide) vf m xs rfl (HO1.out.alloc _) (W1.heap.size + 1) _ 1 1 [.slice A n c, .slice none 0 0, .int .i64 (nb + 1 : Nat)] rfl (reads_three W1 _ _ _ _ _ (by omega)) (by simp [Value.oneCell']) (by unfold maxLen; omega) (by omega) (by have := HL1.out.size; simp; omega) ?_; intro v2 w2 hown2 hg2 _; have hK := HF.out v2 w2 hown2 hg2; have HK := Lib.hid hK; have cc := hK.1.cell 4; have ff := hK.1.frozen 4; simp at cc; clear hK; have HW := Lib.hid hown2; obtain ⟨A2, c2, rfl⟩ := own_form hown2; clear hown2 hg2))
  all_goals
    go_end0
    have hs : ∀ u, Tys [42] w2 (w2.setCell ⟨g, 4, none⟩ u) := fun u => (Tys.refl _ _).setCell (p := ⟨g, 4, none⟩) HK.out.1.heap (by simp) _
    exact ⟨rfl, _, by simpa using HK.out.1.set_ 4 _, own_tys HW.out (hs _) (by decide), HK.out.2.1.setCell hBs _, HK.out.2.2.trans ((hs _).mono (by simp))⟩
end Go.Proofs.YtonlfplloenfcaaGreatDoor
namespace Go.Proofs.YtonlfplloenfcaaGreatDoor
open Go.RowKit

theorem below_own {B base n size : Nat} {e : TypeId} {w0 W W' : World} {v : Value} {xs : List Value} (hb : Below B w0 W) (hown : W.ownsRow base e size v n xs) (hg : W.grownBy W' v.ownBlock) (hB : B ≤ base) (h0 : B ≤ w0.heap.size) : Below B w0 W' := by
  refine hb.grown hg (by have := hb.size; omega) (fun k hk => ?_)
  rcases hown.2 with ⟨rfl, _⟩ | ⟨g, cap, cur, rfl, hbg, _⟩
  · simp [Value.ownBlock] at hk
  · simp [Value.ownBlock] at hk; subst hk; omega
theorem cells_at {w : World} {b off a m n : Nat} {l : List UInt8} (hl : l.length = n) (h : a + m ≤ n) (hsrc : ∀ (j : Nat) (u : Value), (Lib.byteCells l)[j]? = some u → w.cell? ⟨b, off + j, none⟩ = some u) :
    Lies w (b + 1) (some ⟨b, off + a, none⟩) m (Lib.byteCells ((l.drop a).take m)) := by
  refine ⟨by rw [Lib.byteCells_length, List.length_take, List.length_drop]; omega, fun _ => ⟨b, off + a, rfl, by omega, fun j v hv => ?_⟩⟩
  rw [Nat.add_assoc]
  refine hsrc (a + j) v ?_
  unfold Lib.byteCells at hv ⊢
  rw [List.map_take, List.map_drop, List.getElem?_take] at hv
  split at hv
  · rw [List.getElem?_drop] at hv; exact hv
  · cases hv
theorem two_new (w : World) (t : TypeId) (x y : Value) : ∀ (j : Nat) (u : Value), [x, y][j]? = some u → (w.alloc (.cells #[x, y] t)).cell? ((⟨w.heap.size, 0, none⟩ : Addr).add j) = some u := by
  intro j u hu
  rw [Addr.add_lit, Nat.zero_add, cell_alloc_at]
  simpa using hu

theorem Lies.reads {w : World} {B n : Nat} {A : Option Addr} {xs : List Value} (h : Lies w B A n xs) : Reads w B 1 A n xs :=
  ⟨by rw [Nat.mul_one]; exact h.1, fun hn => by
    obtain ⟨b, off, e, hb, hc⟩ := h.2 hn
    exact ⟨_, e, hb, fun j u hu => by rw [Addr.add_lit]; exact hc j u hu⟩⟩
theorem reads_new (w : World) (t : TypeId) (x y : Value) : Reads (w.alloc (.cells #[x, y] t)) (w.heap.size + 1) 1 (some ⟨w.heap.size, 0, none⟩) 2 [x, y] :=
  ⟨rfl, fun _ => ⟨_, rfl, by simp, two_new w t x y⟩⟩
theorem own_bytes {w : World} {base n : Nat} {e : TypeId} {v : Value} {xs : List Value} (L : List UInt8) (h : w.ownsRow base e 1 v n xs) (hx : xs = Lib.byteCells L) : w.ownsRow base e 1 v L.length (Lib.byteCells L) := by
  have h1 := h.1
  rw [hx, Lib.byteCells_length, Nat.mul_one] at h1
  rw [h1, ← hx]
  exact h

/-- A string put behind a row, at a step of a region that draws its order. -/
theorem step_append_str {P : Program} {w : World} {ops : Array Oper} {o : Oper} {a : Act} {K : Act → World → Prop} {Q : Exit → Act → World → Prop} {E : Prop} (hgd : o.guard = none) (sl x : Operand) (t u : TypeId)
    (ho : o.op = .call { callee := .builtin .append, args := #[sl, x], argTypes := #[t, u] })
    (base : Nat) (e : TypeId) (i : TypeInfo) (ht : P.underlying t = some (.slice e)) (hu : P.underlying u = some .string) (hi : P.info? e = some i) (hz : i.zero = some (.int .u8 0))
    (hsize : i.size = 1) (hby : i.bytes = 1)
    (v : Value) (n : Nat) (xs : List Value) (hs : a.eval sl = v) (hown : w.ownsRow base e 1 v n xs) (s : ByteArray) (hx : a.eval x = .string s)
    (h63 : n + s.size ≤ maxLen) (hbytes : n + s.size ≤ 140737488355328) (hbase : base ≤ w.heap.size)
    (h : ∀ v' w', w'.ownsRow base e 1 v' (n + s.size) (xs ++ Lib.strCells s) → w.grownBy w' v.ownBlock → K (a.put o.dst v') w') :
    if Region.wanted o (yielded ops a.tmps) = true then Oper.wp P o a w K Q else E := by
  have hw : Region.wanted o (yielded ops a.tmps) = true := by simp [Region.wanted, hgd]
  rw [if_pos hw]
  obtain ⟨v', w', hr, h2, h3, h4⟩ := Lib.run_append_own_string (P := P) w base t u o.type e i ht hu hi hz hsize hby v n xs hown s h63 hbytes hbase
  unfold Oper.wp execOp
  simp only [ho, resolve, invoke, builtin, Sem.run_bind, Sem.run_pure, Result.andThen_ok, List.map_toArray, List.map_cons, List.map_nil, hs, hx, hr]
  exact h v' w' h2 h3
end Go.Proofs.YtonlfplloenfcaaGreatDoor
