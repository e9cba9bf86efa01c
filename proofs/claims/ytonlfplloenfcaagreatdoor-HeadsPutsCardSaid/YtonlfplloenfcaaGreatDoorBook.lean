/-
  Book: lists, marks, Apart.
-/
import Derived.Test.YtonlfplloenfcaaGreatDoorFields
import Derived.Test.YtonlfplloenfcaaGreatDoorTys
import Derived.Deep.RegionLaw
namespace Go.Proofs.YtonlfplloenfcaaGreatDoor
open Go.RowKit

theorem infoHT : (Tryz.prog.info? 179).map (fun i => (i.zero, i.size, i.bytes)) = some (some (.agg #[.slice none 0 0, .slice none 0 0, .int .i64 0]), 3, 56) := by kernel_rfl

theorem cell_three_new (w : World) (a b c : Value) (t : TypeId) : ∀ j u, [a, b, c][j]? = some u → (w.alloc (.cells #[a, b, c] t)).cell? ((⟨w.heap.size, 0, none⟩ : Addr).add j) = some u := by
  intro j u hu
  rw [Addr.add_lit, cell_alloc_at, Nat.zero_add]
  rw [← hu]
  simp [← List.getElem?_toArray]

theorem reads_three (w : World) (a b c : Value) (t : TypeId) (B : Nat) (hB : w.heap.size < B) : Reads (w.alloc (.cells #[a, b, c] t)) B 3 (some ⟨w.heap.size, 0, none⟩) 1 [a, b, c] :=
  ⟨rfl, fun _ => ⟨_, rfl, hB, cell_three_new w a b c t⟩⟩

end Go.Proofs.YtonlfplloenfcaaGreatDoor
