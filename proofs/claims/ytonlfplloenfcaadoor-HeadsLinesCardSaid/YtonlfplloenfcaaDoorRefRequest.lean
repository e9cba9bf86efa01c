/-
  footmanref12.Request.
-/
import Derived.Test.YtonlfplloenfcaaDoorRefHead
import Derived.Test.YtonlfplloenfcaaDoorRefLineEtc
import Derived.Test.YtonlfplloenfcaaDoorRefFields
import Derived.Test.YtonlfplloenfcaaDoorTysEtc
import Derived.Test.YtonlfplloenfcaaDoorMsg
namespace Go.Proofs.YtonlfplloenfcaaDoor
open Go.RowKit
attribute [local go_sem] Oper.semAt_some

theorem splitB_mem : ∀ (n : Nat) (s : List UInt8), s.length ≤ n → ∀ x ∈ splitB s, x.length ≤ s.length := by
  intro n
  induction n with
  | zero =>
    intro s hs x hx
    rw [split_cut] at hx
    have h1 := cut_le1 s [13, 10]
    rcases List.mem_cons.1 hx with rfl | hx
    · exact h1.1
    · split at hx
      · rename_i hf
        have := cut_le s [13, 10] hf
        simp only [List.length_cons, List.length_nil] at this
        omega
      · cases hx
  | succ n ih =>
    intro s hs x hx
    rw [split_cut] at hx
    have h1 := cut_le1 s [13, 10]
    rcases List.mem_cons.1 hx with rfl | hx
    · exact h1.1
    · split at hx
      · rename_i hf
        have := cut_le s [13, 10] hf
        simp only [List.length_cons, List.length_nil] at this
        have := ih _ (by omega) x hx
        omega
      · cases hx
theorem mk_list (x : List UInt8) : (⟨x.toArray⟩ : ByteArray).data.toList = x := by simp
theorem lines_size (l : List UInt8) (h : 0 ≤ endAt l) : ∀ x ∈ headLines l, x.length ≤ 65536 := by
  obtain ⟨k, hk, hk1, hk2, _, _⟩ := endAt_spec l h
  intro x hx
  unfold headLines at hx
  have := splitB_mem _ _ (Nat.le_refl _) x hx
  rw [hk, Int.toNat_natCast, List.length_take] at this
  omega
theorem lines_count (l : List UInt8) (h : 0 ≤ endAt l) : (headLines l).length ≤ 65537 := by
  obtain ⟨k, hk, hk1, hk2, _, _⟩ := endAt_spec l h
  have := splitB_len (l.take (endAt l).toNat)
  unfold headLines
  rw [hk, Int.toNat_natCast, List.length_take] at this
  rw [hk, Int.toNat_natCast]
  omega

end Go.Proofs.YtonlfplloenfcaaDoor

