/-
  The document's way to put a body by chunks.
-/
import Derived.Test.YtonlfplloenfcaaGreatDoorContainsEtc
import Derived.Test.YtonlfplloenfcaaGreatDoorTwinEtc
import Derived.Lib.AppendStr
namespace Go.Proofs.YtonlfplloenfcaaGreatDoor
open Go.RowKit

theorem range_flat (f : Nat → List UInt8) (k : Nat) : (List.range (k + 1)).flatMap f = (List.range k).flatMap f ++ f k := by
  rw [List.range_succ, List.flatMap_append]; simp

end Go.Proofs.YtonlfplloenfcaaGreatDoor

