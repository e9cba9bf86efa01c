/-
  TwinMessage, LeftMessage, Book.Message.
-/
import Derived.Test.YtonlfplloenfcaaDoorSameEtc
import Derived.Test.YtonlfplloenfcaaDoorTwinEtc
import Derived.Test.YtonlfplloenfcaaDoorTysEtc
import Derived.Deep.RegionHeld3
import Derived.Deep.DrawnRows
namespace Go.Proofs.YtonlfplloenfcaaDoor
open Go.RowKit
attribute [local go_sem ↓] Go.wp_at_zero Go.wp_at_succ

theorem infoM : (Tryd.prog.info? 26).map (·.size) = some 5 := by kernel_rfl
/-- Five cells stored, one by one. -/
theorem set_five {w : World} {g : Nat} {t : TypeId} {a b c d e : Value} (h : Blk w g t #[a, b, c, d, e]) (v0 v1 v2 v3 v4 : Value) :
    ∃ W, ((((w.setCell ⟨g, 0, none⟩ v0).setCell ⟨g, 1, none⟩ v1).setCell ⟨g, 2, none⟩ v2).setCell ⟨g, 3, none⟩ v3).setCell ⟨g, 4, none⟩ v4 = W ∧
      Blk W g t #[v0, v1, v2, v3, v4] ∧ Tys [t] w W ∧ (∀ B, B ≤ g → Below B w W) ∧ W.heap.size = w.heap.size := by
  have h1 : Blk (w.setCell ⟨g, 0, none⟩ v0) g t #[v0, b, c, d, e] := by simpa using h.set_ 0 v0
  have h2 : Blk ((w.setCell ⟨g, 0, none⟩ v0).setCell ⟨g, 1, none⟩ v1) g t #[v0, v1, c, d, e] := by simpa using h1.set_ 1 v1
  have h3 : Blk (((w.setCell ⟨g, 0, none⟩ v0).setCell ⟨g, 1, none⟩ v1).setCell ⟨g, 2, none⟩ v2) g t #[v0, v1, v2, d, e] := by simpa using h2.set_ 2 v2
  have h4 : Blk ((((w.setCell ⟨g, 0, none⟩ v0).setCell ⟨g, 1, none⟩ v1).setCell ⟨g, 2, none⟩ v2).setCell ⟨g, 3, none⟩ v3) g t #[v0, v1, v2, v3, e] := by simpa using h3.set_ 3 v3
  refine ⟨_, rfl, by simpa using h4.set_ 4 v4, ?_, fun B hB => ?_, by simp [World.setCell]⟩
  · exact (((((Tys.refl _ _).setCell (p := ⟨g, 0, none⟩) h.heap (by simp) _).setCell (p := ⟨g, 1, none⟩) h1.heap (by simp) _).setCell (p := ⟨g, 2, none⟩) h2.heap (by simp) _).setCell (p := ⟨g, 3, none⟩) h3.heap (by simp) _).setCell (p := ⟨g, 4, none⟩) h4.heap (by simp) _
  · exact (((((Below.refl _ _).setCell (p := ⟨g, 0, none⟩) hB _).setCell (p := ⟨g, 1, none⟩) hB _).setCell (p := ⟨g, 2, none⟩) hB _).setCell (p := ⟨g, 3, none⟩) hB _).setCell (p := ⟨g, 4, none⟩) hB _
end Go.Proofs.YtonlfplloenfcaaDoor

