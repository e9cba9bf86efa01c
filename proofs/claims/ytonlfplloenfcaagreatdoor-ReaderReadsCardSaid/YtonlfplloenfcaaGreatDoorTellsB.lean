/-
  footmanlaw13: tells, bad.
-/
import Derived.Test.YtonlfplloenfcaaGreatDoorHeadsBackEtc
import Derived.Test.YtonlfplloenfcaaGreatDoorBadEtc
namespace Go.Proofs.YtonlfplloenfcaaGreatDoor
open Go.RowKit

theorem conv_lies {w : World} {B n c : Nat} {A : Option Addr} {l : List UInt8} (h : Lies w B A n (Lib.byteCells l)) :
    (convert 23 9 (.slice A n c)).run Tryz.prog w = .ok (.string ⟨l.toArray⟩) w := by
  have hll : l.length = n := by simpa [Lib.byteCells] using h.1
  subst hll
  have key : ∀ b o, A = some ⟨b, o, none⟩ → (∀ j u, (Lib.byteCells l)[j]? = some u → w.cell? ⟨b, o + j, none⟩ = some u) → (convert 23 9 (.slice A l.length c)).run Tryz.prog w = .ok (.string ⟨l.toArray⟩) w := by
    rintro b o rfl hc
    exact run_convert_bytes_back (P := Tryz.prog) w 23 9 5 ⟨b, o, none⟩ c l Tryz.underlying23 Tryz.underlying5 Tryz.underlying9 (fun j hj => by
      rw [Addr.add_lit]
      refine hc j _ ?_
      unfold Lib.byteCells
      rw [List.getElem?_map, List.getElem?_eq_getElem hj]
      rfl)
  by_cases h0 : 0 < l.length
  · obtain ⟨b, o, e, _, hc⟩ := h.2 h0
    exact key b o e hc
  · have hnil : l = [] := List.eq_nil_of_length_eq_zero (by omega)
    subst hnil
    cases A with
    | none => exact run_convert_bytes_nil (P := Tryz.prog) w 23 5 Tryz.underlying23 Tryz.underlying5 0 c 9 Tryz.underlying9
    | some a => exact run_convert_bytes_back (P := Tryz.prog) w 23 9 5 a c [] Tryz.underlying23 Tryz.underlying5 Tryz.underlying9 (fun j hj => by cases hj)

end Go.Proofs.YtonlfplloenfcaaGreatDoor
