/-
  footmanref12.Line: the field that a line is.
  footmanref12.asked: the method and target of a request's first line.
-/
import Derived.Test.YtonlfplloenfcaaDoorChars
import Derived.Test.YtonlfplloenfcaaDoorRefTok
import Derived.Test.YtonlfplloenfcaaDoorRefTrim
import Derived.Test.YtonlfplloenfcaaDoorOdd
import Derived.Test.YtonlfplloenfcaaDoorPutSpecEtc
import Derived.Test.YtonlfplloenfcaaDoorTysEtc
import Derived.Lib.QuietBelow
import Derived.Deep.RegionHeld3
import Derived.Deep.DrawnRows
import Derived.Lib.Bytes2
namespace Go.Proofs.YtonlfplloenfcaaDoor
open Go.RowKit
attribute [local go_sem] Oper.semAt_some

/-- What a line answers. -/
def lineV (l : List UInt8) : Value := .agg #[.string (if fieldOK l then (fieldOf l).1 else ⟨#[]⟩), .string (if fieldOK l then (fieldOf l).2 else ⟨#[]⟩)]

end Go.Proofs.YtonlfplloenfcaaDoor
namespace Go.Proofs.YtonlfplloenfcaaDoor
open Go.RowKit
attribute [local go_sem] Oper.semAt_some

theorem ask_none {l : List UInt8} (h : ∀ j, j < l.length → l[j]? ≠ some 32) : askOK l = false := by
  have hi : Lib.index l [32] = -1 := index_one_none h
  unfold askOK Lib.cut
  rw [hi, if_neg (by omega)]
  rfl
theorem ask_at {l : List UInt8} {k : Nat} (hk : l[k]? = some 32) (h : ∀ j, j < k → l[j]? ≠ some 32) : Lib.cut l [32] = (l.take k, l.drop (k + 1), true) := by
  have hi : Lib.index l [32] = (k : Int) := index_one_first hk h
  unfold Lib.cut
  rw [hi, if_pos (by omega), Int.toNat_natCast]
  rfl
theorem ask_short {l : List UInt8} {k : Nat} (hk : l[k]? = some 32) (h : ∀ j, j < k → l[j]? ≠ some 32) (hl : l.length < k + 10) : askOK l = false := by
  unfold askOK
  rw [ask_at hk h]
  cases hs : Lib.hasSuffix (l.drop (k + 1)) tailB
  · rfl
  · have := Lib.hasSuffix_le hs
    rw [List.length_drop] at this
    have e : tailB.length = 9 := rfl
    omega
theorem ask_tail {l : List UInt8} {k n : Nat} (hk : l[k]? = some 32) (h : ∀ j, j < k → l[j]? ≠ some 32) (hl : l.length = n + 9) (hn : k + 1 ≤ n) :
    askOK l = ((l.drop n == tailB) && (tokenB (l.take k) && targB ((l.drop (k + 1)).take (n - (k + 1))))) ∧ ((l.drop n == tailB) = true → askM l = l.take k ∧ askTo l = (l.drop (k + 1)).take (n - (k + 1))) := by
  have e : tailB.length = 9 := rfl
  have hs : Lib.hasSuffix (l.drop (k + 1)) tailB = (l.drop n == tailB) := by
    rw [← Lib.hasSuffix_of_drop, e, List.length_drop, List.drop_drop, show k + 1 + (l.length - (k + 1) - 9) = n by omega, decide_eq_true (by omega)]
    rfl
  have ht : (l.drop n == tailB) = true → Lib.trimSuffix (l.drop (k + 1)) tailB = (l.drop (k + 1)).take (n - (k + 1)) := fun hx => by
    unfold Lib.trimSuffix
    rw [hs, if_pos hx, e, List.length_drop, show l.length - (k + 1) - 9 = n - (k + 1) by omega]
  refine ⟨?_, fun hx => ?_⟩
  · unfold askOK
    rw [ask_at hk h]
    simp only [hs, Bool.true_and]
    cases hx : (l.drop n == tailB)
    · rfl
    · rw [ht hx]
  · unfold askM askTo
    rw [ask_at hk h]
    exact ⟨rfl, ht hx⟩

end Go.Proofs.YtonlfplloenfcaaDoor
