/-
  What is known of the answers that the reading of a head gives.
  footmanref12.lines: a head's lines.
-/
import Derived.Test.YtonlfplloenfcaaDoorReads
import Derived.Test.YtonlfplloenfcaaDoorTwinEtc
import Derived.Test.YtonlfplloenfcaaDoorSameEtc
import Derived.Test.YtonlfplloenfcaaDoorPutSpecEtc
import Derived.Maps.AppendAt
namespace Go.Proofs.YtonlfplloenfcaaDoor
open Go.RowKit

theorem gF_len (K : Asks) (l : List UInt8) : (gF K l).length ≤ 256 := by
  unfold gF
  split
  · rename_i h
    unfold gE readE at h
    unfold readF
    rw [List.length_map]
    split at h
    · split at h <;> cases h
    · split at h
      · cases h
      · split at h
        · cases h
        · omega
  · simp
theorem fread_own {w : World} {base n c : Nat} {e : TypeId} {A : Option Addr} {fs : List Fd} (hl : fs.length = n) (h : w.ownsRow base e 2 (.slice A n c) n (fcells fs)) : FRead w w.heap.size A n fs := by
  refine ⟨hl, fun hn => ?_⟩
  obtain ⟨g, cap, hv, _, hlt⟩ := h.form hn
  have hA : A = some ⟨g, 0, none⟩ := by injection hv
  subst hA
  refine ⟨g, 0, rfl, hlt, fun i f hf => ?_⟩
  obtain ⟨h1, h2⟩ := fcells_at fs [] i f hf
  rw [List.append_nil] at h1 h2
  have c1 := h.cells (g := g) rfl (i * 2) _ h1
  have c2 := h.cells (g := g) rfl (i * 2 + 1) _ h2
  rw [Addr.add_lit] at c1 c2
  exact ⟨c1, by rw [Nat.add_assoc]; exact c2⟩
end Go.Proofs.YtonlfplloenfcaaDoor
namespace Go.Proofs.YtonlfplloenfcaaDoor
open Go.RowKit
attribute [local go_sem] Oper.semAt_some

def strL (ls : List (List UInt8)) : List Value := ls.map fun x => Value.string ⟨x.toArray⟩

end Go.Proofs.YtonlfplloenfcaaDoor
