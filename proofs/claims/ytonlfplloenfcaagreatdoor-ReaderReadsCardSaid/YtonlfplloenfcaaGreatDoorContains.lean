/-
  slices.IndexFunc, slices.ContainsFunc over fields, at heads.odd.
-/
import Derived.Test.YtonlfplloenfcaaGreatDoorOddEtc
import Derived.Test.YtonlfplloenfcaaGreatDoorTwinEtc
namespace Go.Proofs.YtonlfplloenfcaaGreatDoor
open Go.RowKit

def IdxPost (b : Bool) (w : World) (e : Ending) (w' : World) : Prop := (∃ z : Int, e = .returned (.int .i64 z) ∧ decide (0 ≤ z) = b) ∧ Below w.heap.size w w'
end Go.Proofs.YtonlfplloenfcaaGreatDoor
