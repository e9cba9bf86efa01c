/-
  What stands behind a chunk, in plain words: no program stands here.
-/
import Derived.Test.YtonlfplloenfcaaGreatDoorChunkSt
namespace Go.Proofs.YtonlfplloenfcaaGreatDoor

/-- What stands behind a chunk, byte by byte. -/
def endB (i : Nat) : UInt8 := if i = 0 then 13 else 10
theorem end_more {l : List UInt8} {q i : Nat} (hi : i < 2) (hq : q + i = l.length) (hm : ∀ j, j < i → l[q + j]? = some (endB j)) : endA (l.drop q) = .more := by
  have h1 : (l.drop q).length = i := by rw [List.length_drop]; omega
  match i, hi with
  | 0, _ => rw [List.eq_nil_of_length_eq_zero h1]; rfl
  | 1, _ =>
    have h2 := hm 0 (by omega)
    match hd : l.drop q with
    | [] => rw [hd] at h1; cases h1
    | [a] =>
      have h3 : (l.drop q)[0]? = some a := by rw [hd]; rfl
      rw [List.getElem?_drop, h2] at h3
      injection h3 with h3
      rw [end_one, ← h3]
      rfl
    | a :: b :: r => rw [hd] at h1; simp at h1
theorem end_bad {l : List UInt8} {q i : Nat} (hi : i < 2) {x : UInt8} (hx : l[q + i]? = some x) (hne : x ≠ endB i) (hm : ∀ j, j < i → l[q + j]? = some (endB j)) : endA (l.drop q) = .bad := by
  match i, hi with
  | 0, _ =>
    match hd : l.drop q with
    | [] =>
      have : (l.drop q)[0]? = some x := by rw [List.getElem?_drop]; exact hx
      rw [hd] at this
      cases this
    | [a] =>
      have : (l.drop q)[0]? = some x := by rw [List.getElem?_drop]; exact hx
      rw [hd] at this
      injection this with this
      rw [end_one, this, if_neg (show x ≠ 13 from hne)]
    | a :: b :: r =>
      have : (l.drop q)[0]? = some x := by rw [List.getElem?_drop]; exact hx
      rw [hd] at this
      injection this with this
      rw [end_two, this, if_neg (show x ≠ 13 from hne)]
  | 1, _ =>
    have h0 := hm 0 (by omega)
    have e0 : (l.drop q)[0]? = some (endB 0) := by rw [List.getElem?_drop]; exact h0
    have e1 : (l.drop q)[1]? = some x := by rw [List.getElem?_drop]; exact hx
    match hd : l.drop q with
    | [] => rw [hd] at e0; cases e0
    | [a] => rw [hd] at e1; cases e1
    | a :: b :: r =>
      rw [hd] at e0 e1
      injection e0 with e0
      injection e1 with e1
      rw [end_two, e0, e1, if_pos (show endB 0 = 13 from rfl), if_neg (show x ≠ 10 from hne)]
theorem end_next {l : List UInt8} {q : Nat} (hm : ∀ j, j < 2 → l[q + j]? = some (endB j)) : endA (l.drop q) = .next (l.drop (q + 2)) := by
  have e0 : (l.drop q)[0]? = some (endB 0) := by rw [List.getElem?_drop]; exact hm 0 (by omega)
  have e1 : (l.drop q)[1]? = some (endB 1) := by rw [List.getElem?_drop]; exact hm 1 (by omega)
  have e2 : l.drop (q + 2) = (l.drop q).drop 2 := by rw [List.drop_drop]
  rw [e2]
  match hd : l.drop q with
  | [] => rw [hd] at e0; cases e0
  | [a] => rw [hd] at e1; cases e1
  | a :: b :: r =>
    rw [hd] at e0 e1
    injection e0 with e0
    injection e1 with e1
    rw [end_two, e0, e1]
    rfl
theorem end_out {l : List UInt8} {q : Nat} (h : l.length ≤ q) : endA (l.drop q) = .more := by
  rw [List.drop_eq_nil_of_le h]
  rfl
end Go.Proofs.YtonlfplloenfcaaGreatDoor
