/-
  How a body ends: more in plain words.
-/
import Derived.Test.YtonlfplloenfcaaGreatDoorHowT
import Derived.Lib.LazyBuf
import Derived.Lib.RowBridge
namespace Go.Proofs.YtonlfplloenfcaaGreatDoor
open Go.RowKit

theorem joinTail_sum (c : UInt8) : ∀ l : List (List UInt8), (Lib.joinTail [c] l).length ≤ (l.map fun x => x.length + 1).sum
  | [] => by simp [Lib.joinTail]
  | x :: r => by
    have ih := joinTail_sum c r
    unfold Lib.joinTail at ih ⊢
    simp only [List.map_cons, List.flatten_cons, List.length_append, List.length_cons, List.length_nil, List.sum_cons] at ih ⊢
    omega
theorem join_sum (c : UInt8) (l : List (List UInt8)) : (Lib.join l [c]).length ≤ (l.map fun x => x.length + 1).sum := by
  cases l with
  | nil => simp [Lib.join]
  | cons x r =>
    have h := joinTail_sum c r
    rw [Lib.join_cons, List.length_append, List.map_cons, List.sum_cons]
    omega
theorem findB_sum (s : ByteArray) : ∀ fs : List Fd, ((findB fs s).map fun x => x.data.toList.length + 1).sum ≤ fsum fs
  | [] => by simp [findB, fsum]
  | f :: r => by
    have ih := findB_sum s r
    have e : fsum (f :: r) = (2 + f.1.size + f.2.size) + fsum r := by simp [fsum]
    have e2 : f.2.data.toList.length = f.2.size := rfl
    unfold findB at ih ⊢
    rw [List.filter_cons]
    split
    · rw [List.map_cons, List.map_cons, List.sum_cons, e]
      omega
    · rw [e]; omega
theorem tdiv_hundred (st : Int) : (st.tdiv 100 == 1) = (decide (100 ≤ st) && decide (st ≤ 199)) := by
  rw [Bool.eq_iff_iff, beq_iff_eq, Bool.and_eq_true, decide_eq_true_iff, decide_eq_true_iff]
  rcases Int.lt_or_le st 0 with h | h
  · obtain ⟨k, rfl⟩ : ∃ k : Nat, st = -(k : Int) := ⟨st.natAbs, by omega⟩
    rw [Int.neg_tdiv, Int.tdiv_eq_ediv_of_nonneg (by omega)]
    omega
  · rw [Int.tdiv_eq_ediv_of_nonneg h]
    omega
theorem wrap_hundred (st : Int) (h : -9223372036854775808 ≤ st ∧ st ≤ 9223372036854775807) : wrap64 (st.tdiv 100) = st.tdiv 100 := by
  refine Go.IntWalk.wrap64_in _ ?_
  rcases Int.lt_or_le st 0 with h0 | h0
  · obtain ⟨k, rfl⟩ : ∃ k : Nat, st = -(k : Int) := ⟨st.natAbs, by omega⟩
    rw [Int.neg_tdiv, Int.tdiv_eq_ediv_of_nonneg (by omega)]
    omega
  · rw [Int.tdiv_eq_ediv_of_nonneg h0]
    omega
theorem howM_kind (m : ByteArray) (st : Int) (fs : List Fd) : 0 ≤ (howM m st fs).1 ∧ (howM m st fs).1 ≤ 3 := by
  unfold howM
  split
  · decide
  · unfold howA
    split
    · decide
    · split
      · decide
      · split
        · decide
        · unfold lenA
          split
          · split
            · exact ⟨by show (0 : Int) ≤ 1; decide, by show (1 : Int) ≤ 3; decide⟩
            · decide
          · decide
def bareB (x : ByteArray) : ByteArray := ⟨(bareS x.data.toList).toArray⟩
theorem trimLeft_zero (l : List UInt8) : Lib.trimLeftS l [48] = bareS l := by
  unfold Lib.trimLeftS bareS
  congr 1
  funext x
  rw [Bool.eq_iff_iff]
  simp
theorem strs_bare (L : List ByteArray) (n : Nat) (h : L.length = n) : Lib.strsOf (fun i => ((L.map bareB)[i]?).getD ⟨#[]⟩) n = (L.map (·.data.toList)).map bareS := by
  subst h
  unfold Lib.strsOf
  apply List.ext_getElem?
  intro j
  rw [List.getElem?_map, List.getElem?_map, List.getElem?_map]
  by_cases hj : j < L.length
  · rw [List.getElem?_range hj, List.getElem?_eq_getElem hj]
    simp [bareB, hj]
  · rw [List.getElem?_eq_none (by simpa using hj), List.getElem?_eq_none (by simpa using hj)]
    rfl
theorem set_first {w : World} {b : Nat} {v : Value} {vs : List Value} (h : (w.cell? ⟨b, 0, none⟩).isSome = true) : (w.setCells b 0 (v :: vs)).cell? ⟨b, 0, none⟩ = some v := by
  rw [World.setCells, World.cell?_setCells_out b vs _ _ _ (fun _ _ => .inl (by show 0 < 0 + 1; omega))]
  have h1 := World.cell?_setCells_in b [v] 0 w (fun j hj => by
    have : j = 0 := by simpa using hj
    subst this
    exact h) 0 (by simp)
  exact h1
end Go.Proofs.YtonlfplloenfcaaGreatDoor
