/-
  bytes.Buffer: how it is kept. Over any program.
-/
import Derived.Test.YtonlfplloenfcaaGreatDoorMem
import Derived.Test.YtonlfplloenfcaaGreatDoorResultsEtc
import Derived.Test.YtonlfplloenfcaaGreatDoorShelf
import Derived.Lib.OthersKept
import Derived.RangeFuncNested
namespace Go.Proofs.YtonlfplloenfcaaGreatDoor
open Go.RowKit Go.Shelf

section
variable {T e : TypeId} {B b : Nat} {bs : List Value} {W W' : World}
theorem buf_grown {row : Option Nat} (h : Lib.IsBuffer T e B b bs W) (hg : W.grownBy W' row) (hr : ∀ r, row = some r → ∃ o : Obj, W.heap[r]? = some o ∧ o.isCells = false) : Lib.IsBuffer T e B b bs W' := by
  obtain ⟨hB, v, lr, hb, ho, hne⟩ := h
  refine ⟨hB, v, lr, (hg.block b (Array.getElem?_eq_some_iff.1 hb).1 (fun e => ?_)).trans hb, ho.kept hg ?_, hne⟩
  · obtain ⟨o, h1, h2⟩ := hr b e.symm
    rw [hb] at h1
    cases h1
    cases h2
  · cases hv : v.ownBlock with
    | none => exact .inl rfl
    | some g =>
      refine .inr fun e => ?_
      obtain ⟨o, h1, h2⟩ := hr g e.symm
      obtain ⟨cs, h3⟩ := own_heap ho hv
      rw [h3] at h1
      cases h1
      cases h2
theorem buf_below (h : Lib.IsBuffer T e B b bs W) (hb : Below W.heap.size W W') : Lib.IsBuffer T e B b bs W' := buf_grown h (grown_of_below hb none) (fun r e => by cases e)
theorem blk_grown {g : Nat} {t : TypeId} {cs : Array Value} {row : Option Nat} (h : Blk W g t cs) (hg : W.grownBy W' row) (hr : ∀ r, row = some r → ∃ o : Obj, W.heap[r]? = some o ∧ o.isCells = false) : Blk W' g t cs :=
  (hg.block g h.lt (fun e => by
    obtain ⟨o, h1, h2⟩ := hr g e.symm
    unfold Blk at h
    rw [h] at h1
    cases h1
    cases h2)).trans h
theorem blk_kept {g : Nat} {t : TypeId} {cs : Array Value} (h : Blk W g t cs) (hk : Lib.OthersKept e (some b) W W') (hgb : g ≠ b) (hte : t ≠ e) : Blk W' g t cs :=
  hk g _ h (fun e => hgb (by simpa using e)) (fun c fz h => by injection h with _ h2; exact hte h2)
theorem keepsFrom_kept (h : Lib.OthersKept e (some b) W W') (hb : ∃ cs t f, W.heap[b]? = some (.cells cs t f)) (hs : W.heap.size ≤ W'.heap.size) (B : Nat) : KeepsFrom B W W' :=
  ⟨hs, fun k o _ hk ho => h k o hk (fun e => by
    obtain ⟨cs, t, f, h1⟩ := hb
    obtain rfl : k = b := by simpa using e
    rw [hk] at h1
    cases h1
    cases ho) (fun c fz e => by subst e; cases ho)⟩
theorem keepsFrom_below (h : Below W.heap.size W W') (B : Nat) : KeepsFrom B W W' := ⟨h.size, fun k _ _ hk _ => (h.block k (Array.getElem?_eq_some_iff.1 hk).1).trans hk⟩
theorem buf_at (h : Lib.IsBuffer T e B b bs W) : ∃ cs t f, W.heap[b]? = some (.cells cs t f) := by
  obtain ⟨_, v, lr, hb, _⟩ := h
  exact ⟨_, _, _, hb⟩
end
end Go.Proofs.YtonlfplloenfcaaGreatDoor
