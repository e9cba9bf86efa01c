/-
  The library's variable of the longest text: some number, in every world that a claim speaks of.
-/
import Derived.Test.YtonlfplloenfcaaGreatDoorOpenw
import Derived.Test.YtonlfplloenfcaaGreatDoorWordEtc
import Derived.Shelf.Vars
namespace Go.Proofs.YtonlfplloenfcaaGreatDoor
open Go.RowKit

theorem max_of {W : World} (h : W.ShapedOpen Tryz.prog) : MaxOk W := Go.Proofs.cell_of_shapedOpen_int (zero := #[.int .i64 0]) (t := 3) h (of_decide_eq_true (by kernel_rfl)) (by kernel_rfl) rfl (by kernel_rfl) (by kernel_rfl) Tryz.underlying3
theorem maxG_lt {W : World} (h : MaxOk W) : maxG < W.heap.size := by
  obtain ⟨m, hm⟩ := h
  exact cell_lt hm
end Go.Proofs.YtonlfplloenfcaaGreatDoor
