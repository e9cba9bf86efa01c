/-
  Copies with a mark behind them: how they read. Fields, bytes.
-/
import Derived.Test.YtonlfplloenfcaaGreatDoorNoneEtc
import Derived.Test.YtonlfplloenfcaaGreatDoorSameEtc
namespace Go.Proofs.YtonlfplloenfcaaGreatDoor
open Go.RowKit

theorem big_parts {m : Nat} {fs : List Fd} (h : bigB m fs = false) : fs.length ≤ 100000 ∧ ∀ f ∈ fs, f.1.size ≤ 200000 ∧ f.2.size ≤ 200000 := by
  have h2 : m + fsum fs ≤ 200000 := by
    unfold bigB at h
    have := of_decide_eq_false h
    omega
  have key : ∀ l : List Fd, 2 * l.length ≤ fsum l ∧ ∀ f ∈ l, f.1.size + f.2.size ≤ fsum l := by
    intro l
    induction l with
    | nil => exact ⟨by simp, by simp⟩
    | cons x r ih =>
      have e : fsum (x :: r) = (2 + x.1.size + x.2.size) + fsum r := by simp [fsum]
      refine ⟨by rw [e, List.length_cons]; omega, fun f hf => ?_⟩
      rw [e]
      rcases List.mem_cons.1 hf with rfl | hf
      · omega
      · have := ih.2 f hf; omega
  have k1 := key fs
  exact ⟨by omega, fun f hf => by have := k1.2 f hf; omega⟩

theorem FRead.below {w w' : World} {B : Nat} {A : Option Addr} {n : Nat} {fs : List Fd} (h : FRead w B A n fs) (hb : Below B w w') : FRead w' B A n fs :=
  ⟨h.1, fun hn => by
    obtain ⟨b, off, e, hlt, hc⟩ := h.2 hn
    exact ⟨b, off, e, hlt, fun i f hf => ⟨(hb.cell (p := ⟨b, _, none⟩) hlt).trans (hc i f hf).1, (hb.cell (p := ⟨b, _, none⟩) hlt).trans (hc i f hf).2⟩⟩⟩
theorem FRead.more {w : World} {B B' : Nat} {A : Option Addr} {n : Nat} {fs : List Fd} (h : FRead w B A n fs) (hB : B ≤ B') : FRead w B' A n fs :=
  ⟨h.1, fun hn => by
    obtain ⟨b, off, e, hlt, hc⟩ := h.2 hn
    exact ⟨b, off, e, by omega, hc⟩⟩
theorem fcells_at : ∀ (fs : List Fd) (xs : List Value) (i : Nat) (f : Fd), fs[i]? = some f → (fcells fs ++ xs)[i * 2]? = some (.string f.1) ∧ (fcells fs ++ xs)[i * 2 + 1]? = some (.string f.2)
  | [], _, i, f, h => by simp at h
  | g :: r, xs, 0, f, h => by
    simp at h
    subst h
    simp [fcells]
  | g :: r, xs, i + 1, f, h => by
    have ih := fcells_at r xs i f (by simpa using h)
    refine ⟨?_, ?_⟩
    · rw [show (i + 1) * 2 = i * 2 + 2 by omega]; simpa [fcells] using ih.1
    · rw [show (i + 1) * 2 + 1 = i * 2 + 1 + 2 by omega]; simpa [fcells] using ih.2
theorem fcells_len (fs : List Fd) : (fcells fs).length = fs.length * 2 := by
  unfold fcells
  induction fs with
  | nil => rfl
  | cons x r ih => rw [List.flatMap_cons, List.length_append, ih, List.length_cons]; simp; omega
/-- A copy that was made with a mark behind it: it reads as the list, and the mark is there. -/
theorem twin_read {w : World} {base g n : Nat} {E : TypeId} {fs : List Fd} {a b : Value} (hl : fs.length = n) (h : w.ownsRow base E 2 (.slice (some ⟨g, 0, none⟩) (n + 1) (n + 1)) (n + 1) (fcells fs ++ [a, b])) :
    FRead w w.heap.size (some ⟨g, 0, none⟩) n fs ∧ w.cell? ⟨g, n * 2, none⟩ = some a ∧ w.cell? ⟨g, n * 2 + 1, none⟩ = some b := by
  have hlen := fcells_len fs
  refine ⟨⟨hl, fun hn => ⟨g, 0, rfl, (h.lt g rfl).2, fun i f hf => ?_⟩⟩, ?_, ?_⟩
  · have hi : i < n := by rw [← hl]; exact (List.getElem?_eq_some_iff.1 hf).1
    obtain ⟨h1, h2⟩ := fcells_at fs [a, b] i f hf
    rw [Nat.zero_add]
    exact ⟨(h.cellAt _ (by omega)).trans h1, (h.cellAt _ (by omega)).trans h2⟩
  · rw [h.cellAt _ (by omega), List.getElem?_append_right (by omega)]
    simp [hlen, hl]
  · rw [h.cellAt _ (by omega), List.getElem?_append_right (by omega)]
    simp [hlen, hl]
/-- A row without its last elements. -/
theorem own_cut {w : World} {base g n k cap sz : Nat} {E : TypeId} {xs ys : List Value} (hx : xs.length = n * sz) (h : w.ownsRow base E sz (.slice (some ⟨g, 0, none⟩) (n + k) cap) (n + k) (xs ++ ys)) : w.ownsRow base E sz (.slice (some ⟨g, 0, none⟩) n cap) n xs := by
  refine ⟨hx, ?_⟩
  rcases h.2 with ⟨h2, _⟩ | ⟨g', cap', cur, hv, hg, hh, hnc, hcm, hcs, htake⟩
  · simp at h2
  · simp only [Value.slice.injEq, Option.some.injEq, Addr.mk.injEq, and_true, true_and] at hv
    obtain ⟨rfl, rfl⟩ := hv
    refine .inr ⟨g, cap, cur, rfl, hg, hh, by omega, hcm, hcs, ?_⟩
    have h3 := congrArg (List.take (n * sz)) htake
    rw [List.take_take, Nat.min_eq_left (Nat.mul_le_mul_right _ (by omega))] at h3
    rw [h3, ← hx]
    exact List.take_left

/-- A copy that was made with a mark behind it. -/
theorem twinb_read {w : World} {base g n : Nat} {E : TypeId} {l : List UInt8} {a : Value} (hl : l.length = n) (h : w.ownsRow base E 1 (.slice (some ⟨g, 0, none⟩) (n + 1) (n + 1)) (n + 1) (Lib.byteCells l ++ [a])) :
    Lies w w.heap.size (some ⟨g, 0, none⟩) n (Lib.byteCells l) ∧ w.cell? ⟨g, n, none⟩ = some a := by
  have hlen := Lib.byteCells_length l
  refine ⟨⟨by omega, fun hn => ⟨g, 0, rfl, (h.lt g rfl).2, fun j u hu => ?_⟩⟩, ?_⟩
  · have hj : j < n := by have := (List.getElem?_eq_some_iff.1 hu).1; omega
    rw [Nat.zero_add, h.cellAt _ (by omega), List.getElem?_append_left (by omega)]
    exact hu
  · rw [h.cellAt _ (by omega), List.getElem?_append_right (by omega)]
    simp [hlen, hl]
theorem own_cutb {w : World} {base g n k cap : Nat} {E : TypeId} {xs ys : List Value} (hx : xs.length = n) (h : w.ownsRow base E 1 (.slice (some ⟨g, 0, none⟩) (n + k) cap) (n + k) (xs ++ ys)) : w.ownsRow base E 1 (.slice (some ⟨g, 0, none⟩) n cap) n xs := by
  refine ⟨by omega, ?_⟩
  rcases h.2 with ⟨h2, _⟩ | ⟨g', cap', cur, hv, hg, hh, hnc, hcm, hcs, htake⟩
  · simp at h2
  · simp only [Value.slice.injEq, Option.some.injEq, Addr.mk.injEq, and_true, true_and] at hv
    obtain ⟨rfl, rfl⟩ := hv
    refine .inr ⟨g, cap, cur, rfl, hg, hh, by omega, hcm, hcs, ?_⟩
    have h3 := congrArg (List.take (n * 1)) htake
    rw [List.take_take, Nat.min_eq_left (by omega), List.take_append_of_le_length (by omega)] at h3
    rw [h3]
    exact List.take_of_length_le (by omega)

end Go.Proofs.YtonlfplloenfcaaGreatDoor
