/-
  Lines of a text, in plain words: no program stands here.
  Tokens, targets, control bytes, trimming, in plain words: no program stands here.
-/
import Derived.Lib.IndexMore
import Derived.Lib.SlTrimSet
namespace Go.Proofs.YtonlfplloenfcaaGreatDoor
/-- A line's end stands at a place. -/
def eolAt (s : List UInt8) (j : Nat) : Prop := s[j]? = some 13 ∧ s[j + 1]? = some 10
theorem occ_iff (sub : List UInt8) : ∀ (s : List UInt8) (j : Nat), Lib.occAt s sub j = true ↔ ∀ k b, sub[k]? = some b → s[j + k]? = some b := by
  intro s j
  unfold Lib.occAt
  rw [List.isPrefixOf_iff_prefix]
  constructor
  · rintro ⟨t, ht⟩ k b hk
    have h1 : (s.drop j)[k]? = some b := by
      rw [← ht, List.getElem?_append_left (List.getElem?_eq_some_iff.1 hk).1]; exact hk
    rwa [List.getElem?_drop] at h1
  · intro h
    refine ⟨(s.drop j).drop sub.length, ?_⟩
    apply List.ext_getElem?
    intro k
    by_cases hk : k < sub.length
    · rw [List.getElem?_append_left hk, List.getElem?_drop]
      have h1 : sub[k]? = some sub[k] := List.getElem?_eq_getElem hk
      rw [h1, h k _ h1]
    · rw [List.getElem?_append_right (by omega), List.getElem?_drop, List.getElem?_drop, List.getElem?_drop]
      congr 1
      omega
theorem occ_eol (s : List UInt8) (j : Nat) : Lib.occAt s [13, 10] j = true ↔ eolAt s j := by
  rw [occ_iff]
  constructor
  · intro h
    exact ⟨by simpa using h 0 13 rfl, h 1 10 rfl⟩
  · rintro ⟨h1, h2⟩ k b hk
    match k, hk with
    | 0, hk => simp at hk; subst hk; simpa using h1
    | 1, hk => simp at hk; subst hk; exact h2
    | k + 2, hk => simp at hk
def hcons (x : UInt8) : List (List UInt8) → List (List UInt8)
  | [] => [[x]]
  | h :: t => (x :: h) :: t
/-- A text's lines. -/
def splitB : List UInt8 → List (List UInt8)
  | [] => [[]]
  | [x] => [[x]]
  | x :: y :: r => if x = 13 ∧ y = 10 then [] :: splitB r else hcons x (splitB (y :: r))
theorem split_at : ∀ (n : Nat) (s : List UInt8), eolAt s n → (∀ j, j < n → ¬ eolAt s j) → splitB s = s.take n :: splitB (s.drop (n + 2))
  | 0, s, h, _ => by
    obtain ⟨h1, h2⟩ := h
    match s, h1, h2 with
    | x :: y :: r, h1, h2 =>
      simp at h1 h2
      subst h1; subst h2
      simp [splitB]
  | n + 1, s, h, hn => by
    obtain ⟨h1, h2⟩ := h
    match s, h1, h2 with
    | [x], h1, h2 => simp at h1
    | x :: y :: r, h1, h2 =>
      have h0 : ¬ (x = 13 ∧ y = 10) := by
        rintro ⟨rfl, rfl⟩
        exact hn 0 (by omega) ⟨rfl, rfl⟩
      have ih := split_at n (y :: r) ⟨by simpa using h1, by simpa using h2⟩ (fun j hj hc => hn (j + 1) (by omega) ⟨by simpa using hc.1, by simpa using hc.2⟩)
      rw [splitB, if_neg h0, ih]
      rfl
theorem split_none : ∀ (s : List UInt8), (∀ j, ¬ eolAt s j) → splitB s = [s]
  | [], _ => rfl
  | [x], _ => rfl
  | x :: y :: r, hn => by
    have h0 : ¬ (x = 13 ∧ y = 10) := by
      rintro ⟨rfl, rfl⟩
      exact hn 0 ⟨rfl, rfl⟩
    have ih := split_none (y :: r) (fun j hc => hn (j + 1) ⟨by simpa using hc.1, by simpa using hc.2⟩)
    rw [splitB, if_neg h0, ih]
    rfl
theorem eol_lt {s : List UInt8} {j : Nat} (h : eolAt s j) : j + 1 < s.length := (List.getElem?_eq_some_iff.1 h.2).1
/-- A cut at the first line's end. -/
theorem split_cut (s : List UInt8) : splitB s = (Lib.cut s [13, 10]).1 :: (if (Lib.cut s [13, 10]).2.2 then splitB (Lib.cut s [13, 10]).2.1 else []) := by
  unfold Lib.cut
  rcases Lib.index_spec s [13, 10] with ⟨h1, h2⟩ | ⟨i, h1, h2, h3, h4⟩
  · rw [h1, if_neg (by decide)]
    simp only [Bool.false_eq_true, if_false]
    exact split_none s fun j hc => by
      have h5 := h2 j (by have := eol_lt hc; omega)
      rw [(occ_eol s j).2 hc] at h5
      cases h5
  · rw [h1, if_pos (by omega)]
    simp only [if_true, Int.toNat_natCast, List.length_cons, List.length_nil]
    exact split_at i s ((occ_eol s i).1 h3) fun j hj hc => by
      have h5 := h4 j hj
      rw [(occ_eol s j).2 hc] at h5
      cases h5
theorem cut_le (s sep : List UInt8) (h : (Lib.cut s sep).2.2 = true) : (Lib.cut s sep).2.1.length + sep.length ≤ s.length := by
  have hr := Lib.index_room s sep
  unfold Lib.cut at h ⊢
  split at h
  · rename_i h0
    rw [if_pos h0]
    have := hr h0
    simp only [List.length_drop]
    omega
  · cases h
theorem cut_le1 (s sep : List UInt8) : (Lib.cut s sep).1.length ≤ s.length ∧ (Lib.cut s sep).2.1.length ≤ s.length := by
  unfold Lib.cut
  split
  · simp only [List.length_take, List.length_drop]; omega
  · simp
theorem splitB_len : ∀ (s : List UInt8), (splitB s).length ≤ s.length + 1
  | [] => by simp [splitB]
  | [x] => by simp [splitB]
  | x :: y :: r => by
    rw [splitB]
    split
    · have := splitB_len r; simp; omega
    · have h1 := splitB_len (y :: r)
      have h2 : ∀ l : List (List UInt8), (hcons x l).length ≤ l.length + 1 := fun l => by cases l <;> simp [hcons]
      have h3 := h2 (splitB (y :: r))
      simp at h1 ⊢
      omega
theorem splitB_ne (s : List UInt8) : splitB s ≠ [] := by rw [split_cut]; simp
/-- WHERE THE REFERENCE STANDS in its look for lines' ends: at k, the last line begun at 'from', the lines before it told. -/
structure Scan (s : List UInt8) (k fm : Nat) (pre : List (List UInt8)) : Prop where
  told : pre ++ splitB (s.drop fm) = splitB s
  none_ : ∀ j, fm ≤ j → j < k → ¬ eolAt s j
  le : fm ≤ k + 1
  at_ : fm = k + 1 → s[k]? = some 10
theorem Scan.start (s : List UInt8) : Scan s 0 0 [] := ⟨rfl, fun j _ h => by omega, by omega, fun h => by omega⟩
theorem eol_drop (s : List UInt8) (a j : Nat) : eolAt (s.drop a) j ↔ eolAt s (a + j) := by
  unfold eolAt
  rw [List.getElem?_drop, List.getElem?_drop, Nat.add_assoc]
theorem Scan.hit {s : List UInt8} {k fm : Nat} {pre : List (List UInt8)} (h : Scan s k fm pre) (hk : eolAt s k) : fm ≤ k ∧ Scan s (k + 1) (k + 2) (pre ++ [(s.drop fm).take (k - fm)]) := by
  have hle : fm ≤ k := by
    have h1 := h.le
    rcases Nat.lt_or_ge k fm with h2 | h2
    · have h3 := h.at_ (by omega)
      rw [hk.1] at h3
      exact absurd h3 (by decide)
    · exact h2
  refine ⟨hle, ?_, fun j h1 h2 => by omega, by omega, fun _ => hk.2⟩
  have h2 := split_at (k - fm) (s.drop fm) ((eol_drop _ _ _).2 (by rwa [show fm + (k - fm) = k by omega])) (fun j hj hc => h.none_ (fm + j) (by omega) (by omega) ((eol_drop _ _ _).1 hc))
  rw [← h.told, h2, List.drop_drop, show fm + (k - fm + 2) = k + 2 by omega, List.append_assoc]
  rfl
theorem Scan.miss {s : List UInt8} {k fm : Nat} {pre : List (List UInt8)} (h : Scan s k fm pre) (hk : ¬ eolAt s k) : Scan s (k + 1) fm pre := by
  refine ⟨h.told, fun j h1 h2 => ?_, by have := h.le; omega, fun h1 => by have := h.le; omega⟩
  rcases Nat.lt_or_ge j k with h3 | h3
  · exact h.none_ j h1 h3
  · obtain rfl : j = k := by omega
    exact hk
theorem Scan.done {s : List UInt8} {fm : Nat} {pre : List (List UInt8)} (h : Scan s s.length fm pre) : fm ≤ s.length ∧ pre ++ [s.drop fm] = splitB s := by
  have hle : fm ≤ s.length := by
    have h1 := h.le
    rcases Nat.lt_or_ge s.length fm with h2 | h2
    · have h3 := h.at_ (by omega)
      simp at h3
    · exact h2
  refine ⟨hle, ?_⟩
  rw [← h.told, split_none (s.drop fm) fun j hc => ?_]
  have h1 := eol_lt hc
  rw [List.length_drop] at h1
  exact h.none_ (fm + j) (by omega) (by omega) ((eol_drop _ _ _).1 hc)
end Go.Proofs.YtonlfplloenfcaaGreatDoor
namespace Go.Proofs.YtonlfplloenfcaaGreatDoor
def signB : List UInt8 := [33, 35, 36, 37, 38, 39, 42, 43, 45, 46, 94, 95, 96, 124, 126, 48, 49, 50, 51, 52, 53, 54, 55, 56, 57, 65, 66, 67, 68, 69, 70, 71, 72, 73, 74, 75, 76, 77, 78, 79, 80, 81, 82, 83, 84, 85, 86, 87, 88, 89, 90, 97, 98, 99, 100, 101, 102, 103, 104, 105, 106, 107, 108, 109, 110, 111, 112, 113, 114, 115, 116, 117, 118, 119, 120, 121, 122]
/-- A fact on every byte, from the kernel's look at all. -/
theorem all_bytes {p : UInt8 → Bool} (h : (List.range 256).all (fun n => p (UInt8.ofNat n)) = true) (x : UInt8) : p x = true := by
  have h1 := List.all_eq_true.1 h x.toNat (List.mem_range.2 x.toNat_lt)
  simpa using h1
def digB (x : UInt8) : Bool := 48 ≤ x && x ≤ 57
def signOK (x : UInt8) : Bool := signB.contains x
/-- May a text be a token? -/
def tokenB (l : List UInt8) : Bool := l.all signOK && !l.isEmpty
/-- Has a text a control byte? -/
def ctrlOK (x : UInt8) : Bool := !(x < 32 && x != 9 || x == 127)
def plainB (l : List UInt8) : Bool := l.all ctrlOK
def blankB (x : UInt8) : Bool := x == 32 || x == 9
def trimmed (l : List UInt8) : List UInt8 := Lib.trimS l [32, 9]
theorem blank_eq : (fun x : UInt8 => [32, 9].contains x) = blankB := by
  funext x
  have h := all_bytes (p := fun x => [32, 9].contains x == blankB x) (by decide +kernel) x
  simpa using h

section
variable {α : Type} (p : α → Bool)
theorem dropWhile_nil : ∀ l : List α, l.dropWhile p = [] ↔ ∀ x ∈ l, p x = true
  | [] => by simp
  | x :: r => by
    cases hx : p x
    · simp [List.dropWhile, hx]
    · simp [List.dropWhile, hx, dropWhile_nil r]
/-- The two ends may be cut in either order. -/
theorem dropWhile_ends (l : List α) : (l.reverse.dropWhile p).reverse.dropWhile p = ((l.dropWhile p).reverse.dropWhile p).reverse := by
  by_cases h : l.all p
  · have h1 : l.dropWhile p = [] := by
      rw [dropWhile_nil]; exact List.all_eq_true.1 h
    have h2 : l.reverse.dropWhile p = [] := by
      rw [dropWhile_nil]; intro x hx; exact List.all_eq_true.1 h x (List.mem_reverse.1 hx)
    simp [h1, h2]
  · induction l with
    | nil => simp at h
    | cons x r ih =>
      cases hx : p x
      · have e1 : (x :: r).dropWhile p = x :: r := by simp [List.dropWhile, hx]
        rw [e1]
        have e2 : ((x :: r).reverse.dropWhile p).reverse = x :: (r.reverse.dropWhile p).reverse := by
          rw [List.reverse_cons, List.dropWhile_append]
          split
          · rename_i h3
            have : r.reverse.dropWhile p = [] := by simpa using h3
            simp [this, List.dropWhile, hx]
          · simp
        rw [e2]
        simp [List.dropWhile, hx]
      · have hr : ¬ r.all p = true := by
          intro h2
          apply h
          simp [hx]
          simpa using h2
        have e1 : (x :: r).dropWhile p = r.dropWhile p := by simp [List.dropWhile, hx]
        rw [e1, ← ih hr]
        have hne : ¬ (r.reverse.dropWhile p).isEmpty := by
          intro h2
          apply hr
          have h3 : r.reverse.dropWhile p = [] := by simpa using h2
          rw [dropWhile_nil] at h3
          exact List.all_eq_true.2 fun y hy => h3 y (List.mem_reverse.2 hy)
        have e2 : ((x :: r).reverse.dropWhile p).reverse = x :: (r.reverse.dropWhile p).reverse := by
          rw [List.reverse_cons, List.dropWhile_append, if_neg (by simpa using hne)]
          simp
        rw [e2]
        simp [List.dropWhile, hx]
end
/-- From the left, then from the right. -/
theorem trimmed_eq (l : List UInt8) : trimmed l = ((l.dropWhile blankB).reverse.dropWhile blankB).reverse := by
  unfold trimmed Lib.trimS Lib.trimLeftS Lib.trimRightS
  rw [show (fun x : UInt8 => ([32, 9] : List UInt8).contains x) = blankB from blank_eq]
  exact dropWhile_ends blankB l
end Go.Proofs.YtonlfplloenfcaaGreatDoor
