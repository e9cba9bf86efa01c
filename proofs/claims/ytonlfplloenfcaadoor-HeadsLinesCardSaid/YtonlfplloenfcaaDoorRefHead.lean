/-
  footmanref12.get: a head's lines, and how many bytes it has.
-/
import Derived.Test.YtonlfplloenfcaaDoorRefWhole
import Derived.Test.YtonlfplloenfcaaDoorReadFactsEtc
namespace Go.Proofs.YtonlfplloenfcaaDoor
open Go.RowKit
attribute [local go_sem] Oper.semAt_some

theorem Lies.cut {w : World} {B n m : Nat} {A : Option Addr} {l : List UInt8} (h : Lies w B A n (Lib.byteCells l)) (hm : m ≤ n) : Lies w B A m (Lib.byteCells (l.take m)) := by
  have hl : l.length = n := by simpa [Lib.byteCells] using h.1
  refine ⟨by simp [Lib.byteCells]; omega, fun h0 => ?_⟩
  obtain ⟨b, off, hA, hb, hc⟩ := h.2 (by omega)
  refine ⟨b, off, hA, hb, fun j u hj => hc j u ?_⟩
  unfold Lib.byteCells at hj ⊢
  rw [List.map_take, List.getElem?_take] at hj
  split at hj
  · exact hj
  · cases hj

end Go.Proofs.YtonlfplloenfcaaDoor

