/-
  footmanref01.Digit, Blank, sign, Token.
-/
import Derived.Test.YtonlfplloenfcaaDoorChars
namespace Go.Proofs.YtonlfplloenfcaaDoor
open Go.RowKit

def digI (c : UInt8) : Bool := decide (48 ≤ (c.toNat : Int) ∧ (c.toNat : Int) ≤ 57)
def blankI (c : UInt8) : Bool := decide ((c.toNat : Int) = 32 ∨ (c.toNat : Int) = 9)
def tokI (c : UInt8) : Bool := decide ((48 ≤ (c.toNat : Int) ∧ (c.toNat : Int) ≤ 57) ∨ (97 ≤ (c.toNat : Int) ∧ (c.toNat : Int) ≤ 122) ∨ (65 ≤ (c.toNat : Int) ∧ (c.toNat : Int) ≤ 90) ∨
  (c.toNat : Int) = 33 ∨ (c.toNat : Int) = 35 ∨ (c.toNat : Int) = 36 ∨ (c.toNat : Int) = 37 ∨ (c.toNat : Int) = 38 ∨ (c.toNat : Int) = 39 ∨ (c.toNat : Int) = 42 ∨ (c.toNat : Int) = 43 ∨ (c.toNat : Int) = 45 ∨ (c.toNat : Int) = 46 ∨
  (c.toNat : Int) = 94 ∨ (c.toNat : Int) = 95 ∨ (c.toNat : Int) = 96 ∨ (c.toNat : Int) = 124 ∨ (c.toNat : Int) = 126)
theorem digI_eq (x : UInt8) : digI x = digB x := by
  have h := all_bytes (p := fun x => digI x == digB x) (by decide +kernel) x
  simpa using h
theorem blankI_eq (x : UInt8) : blankI x = blankB x := by
  have h := all_bytes (p := fun x => blankI x == blankB x) (by decide +kernel) x
  simpa using h
theorem tokI_eq (x : UInt8) : tokI x = signOK x := by
  have h := all_bytes (p := fun x => tokI x == signOK x) (by decide +kernel) x
  simpa using h
end Go.Proofs.YtonlfplloenfcaaDoor

