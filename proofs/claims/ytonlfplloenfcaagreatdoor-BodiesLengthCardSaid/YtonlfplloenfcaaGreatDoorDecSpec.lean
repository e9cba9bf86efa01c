/-
  Numbers as digits, in plain words: no program stands here.
-/
import Derived.Test.YtonlfplloenfcaaGreatDoorChunkStEtc
namespace Go.Proofs.YtonlfplloenfcaaGreatDoor

/-- A number above 0 as digits to a base from 2 on, by a table; of 0 none. -/
def digP (b : Nat) (t : Nat → UInt8) : Nat → Nat → List UInt8
  | 0, _ => []
  | f + 1, n => if n = 0 then [] else digP b t f (n / b) ++ [t (n % b)]
theorem digP_fuel (b : Nat) (hb : 2 ≤ b) (t : Nat → UInt8) : ∀ (f g n : Nat), n < f → n < g → digP b t f n = digP b t g n
  | 0, _, _, h, _ => by omega
  | _, 0, _, _, h => by omega
  | f + 1, g + 1, n, hf, hg => by
    unfold digP
    split
    · rfl
    · have h1 : n / b < n := Nat.div_lt_self (by omega) (by omega)
      rw [digP_fuel b hb t f g (n / b) (by omega) (by omega)]
def digL (b : Nat) (t : Nat → UInt8) (n : Nat) : List UInt8 := digP b t (n + 1) n
theorem digL_zero (b : Nat) (t : Nat → UInt8) : digL b t 0 = [] := rfl
theorem digL_step (b : Nat) (hb : 2 ≤ b) (t : Nat → UInt8) (n : Nat) (h : n ≠ 0) : digL b t n = digL b t (n / b) ++ [t (n % b)] := by
  have h1 : n / b < n := Nat.div_lt_self (by omega) (by omega)
  show digP b t (n + 1) n = _
  rw [digP, if_neg h, digP_fuel b hb t n (n / b + 1) (n / b) h1 (by omega)]
  rfl
theorem digL_all (b : Nat) (hb : 2 ≤ b) (t : Nat → UInt8) (p : UInt8 → Bool) (hp : ∀ d, d < b → p (t d) = true) : ∀ n : Nat, (digL b t n).all p = true
  | 0 => rfl
  | n + 1 => by
    rw [digL_step b hb t (n + 1) (by omega), List.all_append, digL_all b hb t p hp ((n + 1) / b)]
    simp [hp _ (Nat.mod_lt (n + 1) (by omega : b > 0))]
decreasing_by exact Nat.div_lt_self (by omega) (by omega)
theorem digL_value (b : Nat) (hb : 2 ≤ b) (t : Nat → UInt8) (v : UInt8 → Nat) (hv : ∀ d, d < b → v (t d) = d) : ∀ n : Nat, (digL b t n).foldl (fun a x => b * a + v x) 0 = n
  | 0 => rfl
  | n + 1 => by
    rw [digL_step b hb t (n + 1) (by omega), List.foldl_append, digL_value b hb t v hv ((n + 1) / b)]
    simp only [List.foldl_cons, List.foldl_nil, hv _ (Nat.mod_lt (n + 1) (by omega : b > 0))]
    exact Nat.div_add_mod (n + 1) b
decreasing_by exact Nat.div_lt_self (by omega) (by omega)
theorem digL_len (b : Nat) (hb : 2 ≤ b) (t : Nat → UInt8) : ∀ (k n : Nat), n < b ^ k → (digL b t n).length ≤ k
  | 0, n, h => by
    have : n = 0 := by simpa using h
    subst this
    simp [digL_zero]
  | k + 1, n, h => by
    by_cases h0 : n = 0
    · subst h0
      simp [digL_zero]
    · rw [digL_step b hb t n h0, List.length_append, List.length_cons, List.length_nil]
      have := digL_len b hb t k (n / b) (Nat.div_lt_of_lt_mul (by rw [Nat.mul_comm, ← Nat.pow_succ]; exact h))
      omega
theorem digL_head (b : Nat) (hb : 2 ≤ b) (t : Nat → UInt8) : ∀ n : Nat, n ≠ 0 → ∃ d r, 1 ≤ d ∧ d < b ∧ digL b t n = t d :: r
  | 0, h => absurd rfl h
  | n + 1, h => by
    rw [digL_step b hb t (n + 1) h]
    by_cases h0 : (n + 1) / b = 0
    · rw [h0, digL_zero]
      refine ⟨(n + 1) % b, [], ?_, Nat.mod_lt _ (by omega), rfl⟩
      have := Nat.div_add_mod (n + 1) b
      rw [h0] at this
      omega
    · obtain ⟨d, r, h1, h2, h3⟩ := digL_head b hb t ((n + 1) / b) h0
      exact ⟨d, r ++ [t ((n + 1) % b)], h1, h2, by rw [h3]; rfl⟩
decreasing_by exact Nat.div_lt_self (by omega) (by omega)

/-- Digits to the base 10. -/
def dec1 (d : Nat) : UInt8 := UInt8.ofNat (48 + d)
def decT (n : Nat) : List UInt8 := digL 10 dec1 (n / 10) ++ [dec1 (n % 10)]
theorem dec1_val (d : Nat) (h : d < 10) : (dec1 d).toNat - 48 = d := by
  have := (dig_of d h).2
  unfold dec1
  rw [this]
  omega
theorem decT_all (n : Nat) : (decT n).all digB = true := by
  unfold decT
  rw [List.all_append, digL_all 10 (by omega) dec1 digB (fun d h => (dig_of d h).1)]
  rw [List.all_cons, List.all_nil, show digB (dec1 (n % 10)) = true from (dig_of (n % 10) (Nat.mod_lt _ (by omega))).1]
  rfl
theorem decT_ne (n : Nat) : decT n ≠ [] := by unfold decT; simp
theorem decT_value (n : Nat) : decN (decT n) = n := by
  have h := digL_value 10 (by omega) dec1 (fun x => x.toNat - 48) (fun d h => dec1_val d h) (n / 10)
  have h2 : decN (digL 10 dec1 (n / 10)) = n / 10 := h
  unfold decT
  show List.foldl (fun n x => 10 * n + (x.toNat - 48)) 0 (digL 10 dec1 (n / 10) ++ [dec1 (n % 10)]) = n
  rw [List.foldl_append]
  show 10 * decN (digL 10 dec1 (n / 10)) + ((dec1 (n % 10)).toNat - 48) = n
  rw [h2, dec1_val _ (Nat.mod_lt _ (by omega))]
  exact Nat.div_add_mod n 10
theorem decT_ok (n : Nat) : digitsOK (decT n) = true := by
  unfold digitsOK
  rw [decT_all, Bool.and_true]
  cases h : decT n with
  | nil => exact absurd h (decT_ne n)
  | cons x r => rfl
theorem decT_big (n : Nat) (h : 10 ≤ n) : ∃ d r, 1 ≤ d ∧ d < 10 ∧ decT n = dec1 d :: r := by
  obtain ⟨d, r, h1, h2, h3⟩ := digL_head 10 (by omega) dec1 (n / 10) (by omega)
  exact ⟨d, r ++ [dec1 (n % 10)], h1, h2, by unfold decT; rw [h3]; rfl⟩
theorem decT_len (n : Nat) (h : n < 10 ^ 10) : (decT n).length ≤ 10 := by
  unfold decT
  rw [List.length_append]
  have := digL_len 10 (by omega) dec1 9 (n / 10) (by omega)
  simp
  omega
/-- Two numbers with the same digits, noughts left out, are the same. -/
theorem bare_value {x y : List UInt8} (h : bareS x = bareS y) : decN x = decN y := by rw [← decN_bare x, ← decN_bare y, h]

/-- Great digits to the base 16. -/
def hexU1 (d : Nat) : UInt8 := if d < 10 then UInt8.ofNat (48 + d) else UInt8.ofNat (55 + d)
theorem hexU_facts : ∀ d : Fin 16, hexOK (hexU1 d.val) = true ∧ hexD (hexU1 d.val) = d.val := by decide +kernel
def hexUT (n : Nat) : List UInt8 := digL 16 hexU1 n
theorem hexUT_all (n : Nat) : (hexUT n).all hexOK = true := digL_all 16 (by omega) hexU1 hexOK (fun d h => (hexU_facts ⟨d, h⟩).1) n
theorem hexUT_value (n : Nat) : hexN (hexUT n) = n := digL_value 16 (by omega) hexU1 hexD (fun d h => (hexU_facts ⟨d, h⟩).2) n
theorem hexUT_len (n : Nat) (h : n < 16 ^ 4) : (hexUT n).length ≤ 4 := digL_len 16 (by omega) hexU1 4 n h
end Go.Proofs.YtonlfplloenfcaaGreatDoor
