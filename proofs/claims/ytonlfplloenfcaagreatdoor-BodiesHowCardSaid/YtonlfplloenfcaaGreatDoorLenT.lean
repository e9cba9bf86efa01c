/-
  What the fields of a length tell: the two ways to it, in plain words.
-/
import Derived.Test.YtonlfplloenfcaaGreatDoorSameMsgEtc
namespace Go.Proofs.YtonlfplloenfcaaGreatDoor
open Go.RowKit

theorem digitsOK_cons {l : List UInt8} : digitsOK l = true ↔ l ≠ [] ∧ l.all digB = true := by
  unfold digitsOK
  cases l with
  | nil => simp
  | cons x r => simp
theorem num_big {x : List UInt8} (h : x.all digB = true) (hl : 17 < (bareS x).length) : 65536 < decN x := decN_great h (by omega)
theorem num_bareR {x : List UInt8} (h : digitsOK x = true) : numB (bareR x) 65536 = if decN x ≤ 65536 then some (decN x) else none := by
  obtain ⟨h1, h2⟩ := digitsOK_cons.1 h
  have ha : (bareR x).all digB = true := by
    unfold bareR
    split
    · decide
    · exact bareS_all h2
  have hd : digitsOK (bareR x) = true := digitsOK_cons.2 ⟨bareR_ne h, ha⟩
  unfold numB
  rw [hd, decN_bareR]
  by_cases hl : (bareR x).length ≤ 18
  · rw [decide_eq_true hl]
    simp
  · rw [decide_eq_false hl]
    have hb : 17 < (bareS x).length := by
      unfold bareR at hl
      split at hl
      · exact absurd (by decide) hl
      · omega
    rw [if_neg (Nat.not_le.2 (num_big h2 hb))]
    simp
theorem num_bareS {x : List UInt8} (h : digitsOK x = true) : numB (48 :: bareS x) 65536 = if decN x ≤ 65536 then some (decN x) else none := by
  obtain ⟨h1, h2⟩ := digitsOK_cons.1 h
  have ha : (48 :: bareS x).all digB = true := by
    rw [List.all_cons, bareS_all h2]
    decide
  have hd : digitsOK (48 :: bareS x) = true := digitsOK_cons.2 ⟨by simp, ha⟩
  have hn : decN (48 :: bareS x) = decN x := by rw [decN_cons, decN_bare]; simp
  unfold numB
  rw [hd, hn, List.length_cons]
  by_cases hl : (bareS x).length + 1 ≤ 18
  · rw [decide_eq_true hl]
    simp
  · rw [decide_eq_false hl]
    rw [if_neg (Nat.not_le.2 (num_big h2 (show 17 < (bareS x).length by omega)))]
    simp
def lenO : Option Nat → Int × Int × Int
  | some n => (1, (n : Int), 0)
  | none => (0, 0, 3)
theorem len_none {P : List (List UInt8)} (h0 : P ≠ []) (h : refL [] P = none) : lenA P = (0, 0, 9) := by
  cases P with
  | nil => exact absurd rfl h0
  | cons x r =>
    rw [refL_all] at h
    unfold lenA
    split at h
    · cases h
    · rename_i hc
      rw [if_neg hc]
theorem len_some {P : List (List UInt8)} {a : List UInt8} (h0 : P ≠ []) (h : refL [] P = some a) : lenA P = lenO (numB a 65536) := by
  cases P with
  | nil => exact absurd rfl h0
  | cons x r =>
    rw [refL_all] at h
    unfold lenA
    split at h
    · rename_i hc
      rw [if_pos hc, List.headD_cons]
      have hx : digitsOK x = true := by
        rw [Bool.and_eq_true, List.all_cons, Bool.and_eq_true] at hc
        exact hc.1.1
      injection h with h
      rw [← h, num_bareR hx]
      split <;> rfl
    · cases h
theorem len_bad {P : List (List UInt8)} {x : List UInt8} (hx : x ∈ P) (h : digitsOK x = false) : lenA P = (0, 0, 9) := by
  have : P.all digitsOK = false := by
    rw [Bool.eq_false_iff]
    intro hc
    rw [List.all_eq_true.1 hc x hx] at h
    cases h
  unfold lenA
  rw [this]
  rfl
theorem len_unlike {P : List (List UInt8)} (h0 : 0 < P.length) (h : 1 < (Lib.compact (P.map bareS)).length) : lenA P = (0, 0, 9) := by
  have h1 := like_compact P h0
  rw [decide_eq_false (by omega)] at h1
  unfold lenA
  rw [h1]
  simp
theorem len_like {P : List (List UInt8)} {x : List UInt8} {r : List (List UInt8)} (hP : P = x :: r) (ha : P.all digitsOK = true) (h : ¬ 1 < (Lib.compact (P.map bareS)).length) : lenA P = lenO (numB (48 :: bareS x) 65536) := by
  have h1 := like_compact P (by rw [hP]; simp)
  rw [decide_eq_true (by omega)] at h1
  have hx : digitsOK x = true := List.all_eq_true.1 ha x (by rw [hP]; exact List.mem_cons_self)
  unfold lenA
  rw [ha, h1, if_pos (show (true && true) = true from rfl), num_bareS hx, hP, List.headD_cons]
  split <;> rfl
theorem compactUp_head (zs : List (List UInt8)) : ∀ m : Nat, (Lib.compactUpTo zs.toArray (m + 1)).head? = some zs.toArray[0]!
  | 0 => by
    rw [Lib.compactUpTo_succ, Lib.keeps_lt_one _ 0 (by omega)]
    have : Lib.compactUpTo zs.toArray 0 = [] := rfl
    rw [this]
    rfl
  | m + 1 => by
    have ih := compactUp_head zs m
    rw [Lib.compactUpTo_succ]
    cases hc : Lib.compactUpTo zs.toArray (m + 1) with
    | nil => rw [hc] at ih; cases ih
    | cons y t => rw [hc] at ih; exact ih
theorem compact_head (z : List UInt8) (r : List (List UInt8)) : ∃ t, Lib.compact (z :: r) = z :: t := by
  have h := compactUp_head (z :: r) r.length
  have e : Lib.compact (z :: r) = Lib.compactUpTo (z :: r).toArray (r.length + 1) := rfl
  rw [← e] at h
  cases hc : Lib.compact (z :: r) with
  | nil => rw [hc] at h; cases h
  | cons y t =>
    rw [hc] at h
    refine ⟨t, ?_⟩
    have : y = z := by simpa using h
    rw [this]
/-- Of what is left. -/
def restP (l : List ByteArray) (i : Nat) : List (List UInt8) := partsA ((l.drop i).map (·.data.toList))
theorem restP_zero (l : List ByteArray) : restP l 0 = partsA (l.map (·.data.toList)) := rfl
theorem restP_step {l : List ByteArray} {i : Nat} {x : ByteArray} (h : l[i]? = some x) : restP l i = (splitT 44 x).map (·.data.toList) ++ restP l (i + 1) := by
  have hi := (List.getElem?_eq_some_iff.1 h)
  obtain ⟨hi, hx⟩ := hi
  unfold restP partsA
  rw [List.drop_eq_getElem_cons hi, hx, List.map_cons, List.flatMap_cons, List.map_append, splitT_data]
theorem restP_end {l : List ByteArray} {i : Nat} (h : l.length ≤ i) : restP l i = [] := by
  unfold restP partsA
  rw [List.drop_of_length_le h]
  rfl
theorem parts_ne {l : List (List UInt8)} (h : l ≠ []) : partsA l ≠ [] := by
  cases l with
  | nil => exact absurd rfl h
  | cons x r =>
    unfold partsA
    obtain ⟨a, t, e⟩ := cutC_ne 44 x
    rw [List.flatMap_cons, e]
    simp
end Go.Proofs.YtonlfplloenfcaaGreatDoor
