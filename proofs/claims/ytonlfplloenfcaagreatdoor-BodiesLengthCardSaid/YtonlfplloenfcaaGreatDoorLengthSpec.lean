/-
  A length that is told several times, in plain words: no program stands here.
-/
import Derived.Test.YtonlfplloenfcaaGreatDoorDecSpec
namespace Go.Proofs.YtonlfplloenfcaaGreatDoor

theorem cutC_last (c : UInt8) : ∀ a : List UInt8, ∃ i q, cutC c a = i ++ [q] ∧ ∀ b : List UInt8, (∀ x ∈ b, x ≠ c) → cutC c (a ++ b) = i ++ [q ++ b]
  | [] => ⟨[], [], rfl, fun b hb => cutC_miss c b hb⟩
  | x :: a => by
    obtain ⟨i, q, h1, h2⟩ := cutC_last c a
    by_cases hx : x = c
    · subst hx
      refine ⟨[] :: i, q, by rw [cutC_eq, h1]; rfl, fun b hb => ?_⟩
      rw [List.cons_append, cutC_eq, h2 b hb]
      rfl
    · cases i with
      | nil => exact ⟨[], x :: q, cutC_cons a hx h1, fun b hb => cutC_cons (a ++ b) hx (h2 b hb)⟩
      | cons y i => exact ⟨(x :: y) :: i, q, cutC_cons a hx h1, fun b hb => cutC_cons (a ++ b) hx (h2 b hb)⟩
theorem dig_blank (x : UInt8) (h : digB x = true) : blankB x = false ∧ x ≠ 44 := by
  have h1 := all_bytes (p := fun x => !digB x || (!blankB x && x != 44)) (by decide +kernel) x
  simpa [h] using h1
theorem drop_none {α : Type} {p : α → Bool} : ∀ l : List α, (∀ x ∈ l, p x = false) → l.dropWhile p = l
  | [], _ => rfl
  | x :: r, h => by rw [List.dropWhile_cons_of_neg (by simp [h x List.mem_cons_self])]
theorem trim_digits {v : List UInt8} (h : v.all digB = true) : trimmed v = v := by
  have h1 : ∀ x ∈ v, blankB x = false := fun x hx => (dig_blank x (List.all_eq_true.1 h x hx)).1
  rw [trimmed_eq, drop_none v h1, drop_none v.reverse (fun x hx => h1 x (List.mem_reverse.1 hx)), List.reverse_reverse]
/-- What stands between two numbers. -/
def sepB : Nat → List UInt8
  | 0 => [32, 44]
  | 1 => [44, 48]
  | _ => [9, 44, 32, 48, 48]
def allT (s : List UInt8) : Nat → List UInt8
  | 0 => s
  | i + 1 => allT s i ++ sepB (i % 3) ++ s
/-- A part: noughts, and a number. -/
def Part (s p : List UInt8) : Prop := ∃ z, trimmed p = List.replicate z 48 ++ s
theorem zeros_dig (z : Nat) (s : List UInt8) (h : s.all digB = true) : (List.replicate z 48 ++ s).all digB = true := by
  rw [List.all_append, h, List.all_eq_true.2 fun x hx => by rw [List.eq_of_mem_replicate hx]; decide]
  rfl
theorem all_parts (s : List UInt8) (h : s.all digB = true) : ∀ i : Nat, ∃ a l z, cutC 44 (allT s i) = a ++ [l ++ (List.replicate z 48 ++ s)] ∧ (∀ x ∈ l, blankB x = true) ∧ (∀ p ∈ a, Part s p) ∧
    ∀ b : List UInt8, (∀ x ∈ b, x ≠ 44) → cutC 44 (allT s i ++ b) = a ++ [(l ++ (List.replicate z 48 ++ s)) ++ b]
  | 0 => by
    have h1 : ∀ x ∈ s, x ≠ 44 := fun x hx => (dig_blank x (List.all_eq_true.1 h x hx)).2
    refine ⟨[], [], 0, cutC_miss 44 s h1, by simp, by simp, fun b hb => ?_⟩
    exact cutC_miss 44 (s ++ b) fun x hx => (List.mem_append.1 hx).elim (h1 x) (hb x)
  | i + 1 => by
    have h1 : ∀ x ∈ s, x ≠ 44 := fun x hx => (dig_blank x (List.all_eq_true.1 h x hx)).2
    obtain ⟨a, l, z, e1, hl, ha, e2⟩ := all_parts s h i
    have hsep : ∃ b m y, sepB (i % 3) = b ++ 44 :: (m ++ List.replicate y 48) ∧ (∀ x ∈ b, blankB x = true) ∧ (∀ x ∈ m, blankB x = true) := by
      have h3 : i % 3 = 0 ∨ i % 3 = 1 ∨ i % 3 = 2 := by omega
      rcases h3 with h | h | h
      · exact ⟨[32], [], 0, by rw [h]; rfl, by decide, by decide⟩
      · exact ⟨[], [], 1, by rw [h]; rfl, by decide, by decide⟩
      · exact ⟨[9], [32], 2, by rw [h]; rfl, by decide, by decide⟩
    obtain ⟨b, m, y, hs, hb, hm⟩ := hsep
    have hb4 : ∀ x ∈ b, x ≠ 44 := fun x hx e => by
      have := hb x hx
      rw [e] at this
      exact absurd this (by decide)
    have hr4 : ∀ x ∈ m ++ (List.replicate y 48 ++ s), x ≠ 44 := fun x hx => by
      rcases List.mem_append.1 hx with h2 | h2
      · intro e
        have := hm x h2
        rw [e] at this
        exact absurd this (by decide)
      · rcases List.mem_append.1 h2 with h3 | h3
        · rw [List.eq_of_mem_replicate h3]; decide
        · exact h1 x h3
    have e3 : allT s (i + 1) = (allT s i ++ b) ++ 44 :: (m ++ (List.replicate y 48 ++ s)) := by
      rw [allT, hs]
      simp
    have hpart : Part s ((l ++ (List.replicate z 48 ++ s)) ++ b) := by
      refine ⟨z, ?_⟩
      rw [List.append_assoc, trimmed_pad l _ b hl hb, trim_digits (zeros_dig z s h)]
    refine ⟨a ++ [(l ++ (List.replicate z 48 ++ s)) ++ b], m, y, ?_, hm, ?_, ?_⟩
    · rw [e3, cutC_append, e2 b hb4, cutC_miss 44 _ hr4]
    · intro p hp
      rcases List.mem_append.1 hp with h2 | h2
      · exact ha p h2
      · rw [List.mem_singleton.1 h2]
        exact hpart
    · intro d hd
      have e4 : allT s (i + 1) ++ d = (allT s i ++ b) ++ 44 :: ((m ++ (List.replicate y 48 ++ s)) ++ d) := by rw [e3]; simp
      rw [e4, cutC_append, e2 b hb4, cutC_miss 44 _ (fun x hx => (List.mem_append.1 hx).elim (hr4 x) (hd x))]
theorem all_part (s : List UInt8) (h : s.all digB = true) (i : Nat) : ∀ p ∈ cutC 44 (allT s i), Part s p := by
  obtain ⟨a, l, z, e1, hl, ha, _⟩ := all_parts s h i
  rw [e1]
  intro p hp
  rcases List.mem_append.1 hp with h2 | h2
  · exact ha p h2
  · rw [List.mem_singleton.1 h2]
    refine ⟨z, ?_⟩
    have := trimmed_pad l (List.replicate z 48 ++ s) [] hl (by simp)
    rw [List.append_nil] at this
    rw [this, trim_digits (zeros_dig z s h)]
theorem bare_zeros (s : List UInt8) : ∀ z : Nat, bareS (List.replicate z 48 ++ s) = bareS s
  | 0 => rfl
  | z + 1 => by
    rw [List.replicate_succ, List.cons_append]
    unfold bareS
    rw [List.dropWhile_cons_of_pos (by decide)]
    exact bare_zeros s z
theorem part_ok {n : Nat} {p : List UInt8} (h : Part (decT n) p) : digitsOK (trimmed p) = true ∧ bareS (trimmed p) = bareS (decT n) ∧ decN (trimmed p) = n := by
  obtain ⟨z, h⟩ := h
  rw [h]
  refine ⟨?_, bare_zeros _ z, ?_⟩
  · unfold digitsOK
    rw [zeros_dig z _ (decT_all n), Bool.and_true]
    cases e : List.replicate z 48 ++ decT n with
    | nil => exact absurd (List.append_eq_nil_iff.1 e).2 (decT_ne n)
    | cons x r => rfl
  · rw [← decN_bare, bare_zeros, decN_bare, decT_value]
/-- The parts of so many fields with a number, and one with all of it. -/
def lenParts (n t : Nat) : List (List UInt8) := partsA (List.replicate t (decT n) ++ [allT (decT n) t])
theorem len_parts (n t : Nat) : ∀ x ∈ lenParts n t, digitsOK x = true ∧ bareS x = bareS (decT n) ∧ decN x = n := by
  intro x hx
  unfold lenParts partsA at hx
  obtain ⟨p, hp, rfl⟩ := List.mem_map.1 hx
  obtain ⟨y, hy, hpy⟩ := List.mem_flatMap.1 hp
  rcases List.mem_append.1 hy with h | h
  · rw [List.eq_of_mem_replicate h] at hpy
    exact part_ok (all_part _ (decT_all n) 0 p hpy)
  · rw [List.mem_singleton.1 h] at hpy
    exact part_ok (all_part _ (decT_all n) t p hpy)
theorem len_ne (n t : Nat) : ∃ x r, lenParts n t = x :: r := by
  cases h : lenParts n t with
  | cons x r => exact ⟨x, r, rfl⟩
  | nil =>
    unfold lenParts partsA at h
    rw [List.map_eq_nil_iff, List.flatMap_append] at h
    have h2 := (List.append_eq_nil_iff.1 h).2
    obtain ⟨a, b, e⟩ := cutC_ne 44 (allT (decT n) t)
    simp [e] at h2
theorem len_told (n t : Nat) : lenA (lenParts n t) = if n ≤ 65536 then (1, (n : Int), 0) else (0, 0, 3) := by
  obtain ⟨x, r, e⟩ := len_ne n t
  have hall := len_parts n t
  rw [e] at hall ⊢
  obtain ⟨h1, h2, h3⟩ := hall x List.mem_cons_self
  unfold lenA likeB
  rw [List.headD_cons, List.all_eq_true.2 fun y hy => (hall y hy).1, List.all_eq_true.2 fun y hy => beq_iff_eq.2 ((hall y hy).2.1.trans h2.symm), h3]
  rfl
theorem len_other (n t o : Nat) : lenA (partsA (List.replicate t (decT n) ++ [allT (decT n) t] ++ [decT o])) = if o = n then (if n ≤ 65536 then (1, (n : Int), 0) else (0, 0, 3)) else (0, 0, 9) := by
  obtain ⟨x, r, e⟩ := len_ne n t
  have hall := len_parts n t
  have e2 : partsA (List.replicate t (decT n) ++ [allT (decT n) t] ++ [decT o]) = x :: (r ++ [decT o]) := by
    have h1 : partsA (List.replicate t (decT n) ++ [allT (decT n) t] ++ [decT o]) = lenParts n t ++ partsA [decT o] := by
      unfold lenParts partsA
      rw [List.flatMap_append, List.map_append]
    have h2 : partsA [decT o] = [decT o] := by
      unfold partsA
      rw [List.flatMap_cons, List.flatMap_nil, List.append_nil, cutC_miss 44 _ fun y hy => (dig_blank y (List.all_eq_true.1 (decT_all o) y hy)).2]
      simp [trim_digits (decT_all o)]
    rw [h1, h2, e]
    rfl
  rw [e2]
  rw [e] at hall
  obtain ⟨h1, h2, h3⟩ := hall x List.mem_cons_self
  unfold lenA likeB
  have a1 : (x :: (r ++ [decT o])).all digitsOK = true := by
    rw [List.all_eq_true]
    intro y hy
    rw [← List.cons_append] at hy
    rcases List.mem_append.1 hy with h | h
    · exact (hall y h).1
    · rw [List.mem_singleton.1 h]; exact decT_ok o
  rw [a1, List.headD_cons, h3]
  by_cases ho : o = n
  · subst ho
    rw [List.all_eq_true.2 fun y hy => by
      rw [← List.cons_append] at hy
      rcases List.mem_append.1 hy with h | h
      · exact beq_iff_eq.2 ((hall y h).2.1.trans h2.symm)
      · rw [List.mem_singleton.1 h]; exact beq_iff_eq.2 h2.symm]
    rw [if_pos rfl]
    rfl
  · have a2 : (x :: (r ++ [decT o])).all (fun y => bareS y == bareS x) = false := by
      rw [Bool.eq_false_iff]
      intro h
      have h4 := List.all_eq_true.1 h (decT o) (by simp)
      have h5 := bare_value ((beq_iff_eq.1 h4).trans h2)
      rw [decT_value, decT_value] at h5
      exact ho h5
    rw [a2, if_neg ho]
    rfl
end Go.Proofs.YtonlfplloenfcaaGreatDoor
