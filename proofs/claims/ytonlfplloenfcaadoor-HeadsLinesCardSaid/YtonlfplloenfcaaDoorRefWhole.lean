/-
  footmanref12.whole: where a head ends.
-/
import Derived.Test.YtonlfplloenfcaaDoorSameEtc
import Derived.Test.YtonlfplloenfcaaDoorPutSpecEtc
import Derived.Lib.QuietBelow
namespace Go.Proofs.YtonlfplloenfcaaDoor
open Go.RowKit
attribute [local go_sem] Oper.semAt_some

theorem four_dec (l : List UInt8) (k : Nat) (h : k + 3 < l.length) : fourAt l k ↔ (l[k].toNat = 13 ∧ l[k + 1].toNat = 10 ∧ l[k + 2].toNat = 13 ∧ l[k + 3].toNat = 10) := by
  unfold fourAt
  rw [List.getElem?_eq_getElem (by omega), List.getElem?_eq_getElem (by omega), List.getElem?_eq_getElem (by omega), List.getElem?_eq_getElem (by omega)]
  simp only [Option.some.injEq, ← UInt8.toNat_inj]
  exact Iff.rfl

end Go.Proofs.YtonlfplloenfcaaDoor

