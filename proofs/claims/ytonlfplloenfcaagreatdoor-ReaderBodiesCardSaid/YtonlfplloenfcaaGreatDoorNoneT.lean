/-
  How a body ends, case by case, in plain words: no program stands here.
-/
import Derived.Test.YtonlfplloenfcaaGreatDoorHowU
namespace Go.Proofs.YtonlfplloenfcaaGreatDoor

theorem howM_none {m : ByteArray} {st : Int} {fs : List Fd} (h : howNone m st = true) : howM m st fs = (0, 0, 0) := by
  unfold howM
  rw [if_pos h]
theorem howM_head (st : Int) (fs : List Fd) : howM ⟨#[72, 69, 65, 68]⟩ st fs = (0, 0, 0) := howM_none (by
  unfold howNone
  have : ((⟨#[72, 69, 65, 68]⟩ : ByteArray).data.toList == [72, 69, 65, 68]) = true := rfl
  rw [this]
  rfl)
theorem lenA_forms (p : List (List UInt8)) : lenA p = (0, 0, 9) ∨ lenA p = (0, 0, 3) ∨ ∃ n : Nat, lenA p = (1, (n : Int), 0) := by
  unfold lenA
  split
  · split
    · exact .inr (.inr ⟨_, rfl⟩)
    · exact .inr (.inl rfl)
  · exact .inl rfl
theorem howM_forms {m : ByteArray} {st : Int} {fs : List Fd} (h : howNone m st = false) : howM m st fs = (3, 0, 0) ∨ howM m st fs = (2, 0, 0) ∨ howM m st fs = (0, 0, 9) ∨ howM m st fs = (0, 0, 3) ∨ ∃ n : Nat, howM m st fs = (1, (n : Int), 0) := by
  unfold howM
  rw [if_neg (by rw [h]; decide)]
  unfold howA
  split
  · exact .inl rfl
  · split
    · exact .inr (.inl rfl)
    · split
      · exact .inr (.inr (.inl rfl))
      · rcases lenA_forms (partsA ((findB fs clB).map (·.data.toList))) with h | h | h
        · exact .inr (.inr (.inl h))
        · exact .inr (.inr (.inr (.inl h)))
        · exact .inr (.inr (.inr (.inr h)))
theorem lt_two_hundred (st : Int) : decide (st ≤ 199) = decide (st < 200) := by
  rw [Bool.eq_iff_iff, decide_eq_true_iff, decide_eq_true_iff]
  omega
theorem three_eq {a b c x y z : Int} (h : (a, b, c) = (x, y, z)) : a = x ∧ b = y ∧ c = z := by
  injection h with h1 h2
  injection h2 with h2 h3
  exact ⟨h1, h2, h3⟩
end Go.Proofs.YtonlfplloenfcaaGreatDoor
