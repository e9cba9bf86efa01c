/-
  A body that was put by chunks, read back, in plain words: no program stands here.
-/
import Derived.Test.YtonlfplloenfcaaGreatDoorChunkSpec
import Derived.Test.YtonlfplloenfcaaGreatDoorHexSpecEtc
namespace Go.Proofs.YtonlfplloenfcaaGreatDoor

theorem hexd_fin : ∀ y : Fin 16, hexOK (hexd y.val) = true ∧ hexD (hexd y.val) = y.val ∧ ctrlOK (hexd y.val) = true := by decide +kernel
theorem hexd_facts (y : Nat) (h : y < 16) : hexOK (hexd y) = true ∧ hexD (hexd y) = y ∧ ctrlOK (hexd y) = true := hexd_fin ⟨y, h⟩
theorem hexN_snoc (l : List UInt8) (x : UInt8) : hexN (l ++ [x]) = 16 * hexN l + hexD x := by
  unfold hexN
  rw [List.foldl_append]
  rfl
theorem hexB_facts : ∀ (k x : Nat), x < 16 ^ (k + 1) → (hexB x).all hexOK = true ∧ hexN (hexB x) = x ∧ plainB (hexB x) = true ∧ 1 ≤ (hexB x).length
  | 0, x, h => by
    obtain ⟨h1, h2, h3⟩ := hexd_facts x (by simpa using h)
    rw [hexB_small (by simpa using h)]
    refine ⟨by simp [h1], ?_, by simp [plainB, h3], by simp⟩
    have := hexN_snoc [] (hexd x)
    rw [List.nil_append] at this
    rw [this, h2]
    simp [hexN]
  | k + 1, x, h => by
    by_cases hx : x < 16
    · obtain ⟨h1, h2, h3⟩ := hexd_facts x hx
      rw [hexB_small hx]
      refine ⟨by simp [h1], ?_, by simp [plainB, h3], by simp⟩
      have := hexN_snoc [] (hexd x)
      rw [List.nil_append] at this
      rw [this, h2]
      simp [hexN]
    · obtain ⟨i1, i2, i3, i4⟩ := hexB_facts k (x / 16) (Nat.div_lt_of_lt_mul (by rw [Nat.pow_succ, Nat.mul_comm] at h; exact h))
      obtain ⟨h1, h2, h3⟩ := hexd_facts (x % 16) (by omega)
      rw [hexB_big (by omega)]
      refine ⟨by rw [List.all_append, i1]; simp [h1], ?_, ?_, by simp⟩
      · rw [hexN_snoc, i2, h2]; omega
      · unfold plainB at i3 ⊢
        rw [List.all_append, i3]; simp [h3]
theorem takeWhile_all {α : Type} {p : α → Bool} : ∀ {l : List α}, l.all p = true → l.takeWhile p = l ∧ l.dropWhile p = []
  | [], _ => ⟨rfl, rfl⟩
  | x :: r, h => by
    rw [List.all_cons, Bool.and_eq_true] at h
    obtain ⟨h1, h2⟩ := takeWhile_all h.2
    exact ⟨by rw [List.takeWhile_cons, if_pos h.1, h1], by rw [List.dropWhile_cons, if_pos h.1, h2]⟩
theorem size_hex (v : Nat) (h1 : v ≤ 65536) : sizeOK (hexB v) = true ∧ sizeN (hexB v) = v := by
  obtain ⟨i1, i2, i3, i4⟩ := hexB_facts 4 v (by omega)
  have hl := hexB_len 4 v (by omega)
  obtain ⟨t1, t2⟩ := takeWhile_all i1
  unfold sizeOK sizeN sizeW sizeD
  rw [t1, t2, i3, i2, decide_eq_true i4, decide_eq_true (by omega)]
  exact ⟨rfl, rfl⟩
theorem line_of {x : List UInt8} (hx : ∀ j, ¬ eolAt x j) (hl : x.length ≤ 65536) (r : List UInt8) : lineA (x ++ (13 :: 10 :: r)) = .line x.length := by
  refine line_mk hl ?_ fun j hj hc => ?_
  · unfold eolAt
    have h0 := behind (x := x) (r := 13 :: 10 :: r) 0
    have h1 := behind (x := x) (r := 13 :: 10 :: r) 1
    simp only [Nat.add_zero] at h0
    rw [h0, h1]
    exact ⟨rfl, rfl⟩
  · have := line_at hx hc
    omega
theorem take_line (x r : List UInt8) : (x ++ r).take x.length = x := List.take_left
theorem drop_line (x r : List UInt8) : (x ++ (13 :: 10 :: r)).drop (x.length + 2) = r := by
  rw [List.drop_append]; simp
def lastB : List UInt8 := [48, 13, 10, 13, 10]
theorem last_done (f all : Nat) : chunkG (f + 2) all lastB = .done [] [] := by
  have h1 : lineA lastB = .line 1 := line_of (x := [48]) (fun j => eol_of_13 (by decide) j) (by decide) [13, 10]
  have h2 : lineA [13, 10] = .line 0 := line_of (x := []) (fun j => eol_of_13 (by decide) j) (by decide) []
  unfold chunkG
  rw [h1]
  simp only
  rw [if_pos (by decide), if_pos (by decide)]
  show TrailA.chunk (trailG (f + 1) [13, 10]) = _
  unfold trailG
  rw [h2]
  rfl
theorem put_back (s : Nat) (l : List UInt8) (m : Nat) (hs : 1 ≤ s) (hl : l.length ≤ 65536) (hm : l.length ≤ m * s) (hm2 : m = 0 ∨ (m - 1) * s < l.length) :
    ∀ (j : Nat), j ≤ m → ∀ (f all : Nat), all + (l.length - (m - j) * s) ≤ 65536 → ((List.range' (m - j) j).flatMap (chunkT s l) ++ lastB).length < f →
      chunkG f all ((List.range' (m - j) j).flatMap (chunkT s l) ++ lastB) = .done (l.drop ((m - j) * s)) []
  | 0, _, f, all, _, hf => by
    obtain ⟨f, rfl⟩ : ∃ g, f = g + 2 := ⟨f - 2, by simp [lastB] at hf; omega⟩
    have e : (List.range' (m - 0) 0).flatMap (chunkT s l) ++ lastB = lastB := rfl
    rw [e, last_done, List.drop_eq_nil_of_le (by omega)]
  | j + 1, hj, f, all, ha, hf => by
    obtain ⟨f, rfl⟩ : ∃ g, f = g + 1 := ⟨f - 1, by omega⟩
    obtain ⟨k, hk⟩ : ∃ k, m - (j + 1) = k := ⟨_, rfl⟩
    rw [hk] at hf ha ⊢
    have hk1 : k + 1 = m - j := by omega
    have hks : k * s < l.length := by
      rcases hm2 with h0 | h0
      · omega
      · exact Nat.lt_of_le_of_lt (Nat.mul_le_mul_right s (by omega)) h0
    rw [List.range'_succ, List.flatMap_cons] at hf ⊢
    have ih := put_back s l m hs hl hm hm2 j (by omega) f (all + min s (l.length - k * s)) (by
      rw [← hk1, Nat.succ_mul]; omega) (by
      rw [← hk1]
      simp only [List.length_append] at hf ⊢
      have h4 : 4 ≤ (chunkT s l k).length := by unfold chunkT; simp; omega
      omega)
    rw [← hk1] at ih
    generalize hT : List.flatMap (chunkT s l) (List.range' (k + 1) j) ++ lastB = T at ih
    rw [List.append_assoc, hT]
    have hv : min s (l.length - k * s) ≤ 65536 := by omega
    have hv1 : 1 ≤ min s (l.length - k * s) := by omega
    have hpl : ((l.drop (k * s)).take s).length = min s (l.length - k * s) := by rw [List.length_take, List.length_drop]
    have e : chunkT s l k ++ T = hexB (min s (l.length - k * s)) ++ (13 :: 10 :: ((l.drop (k * s)).take s ++ (13 :: 10 :: T))) := by
      unfold chunkT; simp
    rw [e]
    obtain ⟨i1, i2, i3, i4⟩ := hexB_facts 4 (min s (l.length - k * s)) (by omega)
    have hhl := hexB_len 4 (min s (l.length - k * s)) (by omega)
    obtain ⟨z1, z2⟩ := size_hex (min s (l.length - k * s)) hv
    have hline := line_of (x := hexB (min s (l.length - k * s))) (fun j => eol_of_13 (plain_13 i3) j) (by omega) ((l.drop (k * s)).take s ++ (13 :: 10 :: T))
    unfold chunkG
    rw [hline]
    simp only
    rw [take_line, drop_line, z1, z2, if_pos rfl, if_neg (by omega), if_neg (by omega), ← hpl, List.drop_left, List.take_left, hpl]
    rw [show endA (13 :: 10 :: T) = .next T from rfl]
    simp only
    rw [ih]
    show ChunkA.done (List.take s (l.drop (k * s)) ++ l.drop ((k + 1) * s)) [] = .done (l.drop (k * s)) []
    congr 1
    conv => rhs; rw [← List.take_append_drop s (l.drop (k * s))]
    rw [List.drop_drop, Nat.succ_mul]
theorem put_read (s : Nat) (l : List UInt8) (m : Nat) (hs : 1 ≤ s) (hl : l.length ≤ 65536) (hm : l.length ≤ m * s) (hm2 : m = 0 ∨ (m - 1) * s < l.length) :
    chunkA ((List.range m).flatMap (chunkT s l) ++ lastB) = .done l [] := by
  have h := put_back s l m hs hl hm hm2 m (Nat.le_refl _) (((List.range m).flatMap (chunkT s l) ++ lastB).length + 1) 0 (by omega) (by rw [Nat.sub_self, ← List.range_eq_range']; omega)
  rw [Nat.sub_self, ← List.range_eq_range', Nat.zero_mul] at h
  exact h
/-- Of fewer bytes a beginning of the body is told, and it is not done. -/
theorem part_of {P l : List UInt8} (h : chunkA P = .done l []) (k : Nat) (hk : k < P.length) : ∃ x z, chunkA (P.take k) = .more x ∧ l = x ++ z := by
  have ho := chunkA_on (P.take k) (P.drop k)
  rw [List.take_append_drop, h] at ho
  cases hc : chunkA (P.take k) with
  | err e => rw [hc] at ho; cases ho
  | done b q =>
    rw [hc] at ho
    have ho2 : ChunkA.done l [] = .done b (q ++ P.drop k) := ho
    injection ho2 with _ h2
    have := congrArg List.length h2
    simp only [List.length_append, List.length_drop, List.length_nil] at this
    omega
  | more x =>
    rw [hc] at ho
    obtain ⟨⟨z, hz⟩, _⟩ := (show (∃ z, l = x ++ z) ∧ _ from ho)
    exact ⟨x, z, rfl, hz⟩
theorem whole_of {P l : List UInt8} (h : chunkA P = .done l []) (m : List UInt8) : chunkA (P ++ m) = .done l m := by
  have ho := chunkA_on P m
  rw [h] at ho
  exact ho
end Go.Proofs.YtonlfplloenfcaaGreatDoor
