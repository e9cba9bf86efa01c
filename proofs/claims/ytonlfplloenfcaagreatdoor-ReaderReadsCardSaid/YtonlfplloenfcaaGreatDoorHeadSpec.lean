/-
  Heads, what their reading answers, in plain words: no program stands here.
-/
import Derived.Lib.SlTrimSet
import Derived.Lib.IndexMore
import Derived.Test.YtonlfplloenfcaaGreatDoorLinesEtc
namespace Go.Proofs.YtonlfplloenfcaaGreatDoor
theorem occ_one (s : List UInt8) (c : UInt8) (j : Nat) : Lib.occAt s [c] j = true ↔ s[j]? = some c := by
  rw [occ_iff]
  constructor
  · intro h
    simpa using h 0 c rfl
  · intro h k b hk
    match k, hk with
    | 0, hk => simp at hk; subst hk; simpa using h
    | k + 1, hk => simp at hk
theorem index_one_first {l : List UInt8} {c : UInt8} {k : Nat} (hk : l[k]? = some c) (hn : ∀ j, j < k → l[j]? ≠ some c) : Lib.index l [c] = k :=
  Lib.index_first (Nat.le_of_lt (List.getElem?_eq_some_iff.1 hk).1) ((occ_one _ _ _).2 hk) fun j hj => by
    cases h : Lib.occAt l [c] j
    · rfl
    · exact absurd ((occ_one _ _ _).1 h) (hn j hj)
theorem index_one_none {l : List UInt8} {c : UInt8} (hn : ∀ j, j < l.length → l[j]? ≠ some c) : Lib.index l [c] = -1 :=
  Lib.index_none fun j _ => by
    cases h : Lib.occAt l [c] j
    · rfl
    · have h1 := (occ_one _ _ _).1 h
      exact absurd h1 (hn j (List.getElem?_eq_some_iff.1 h1).1)
/-- Where a head's end stands within what a head may have; below 0: nowhere. -/
def headEnd : List UInt8 := [13, 10, 13, 10]
def endAt (l : List UInt8) : Int := Lib.index (l.take 65536) headEnd
def fourAt (s : List UInt8) (j : Nat) : Prop := s[j]? = some 13 ∧ s[j + 1]? = some 10 ∧ s[j + 2]? = some 13 ∧ s[j + 3]? = some 10
theorem occ_four (s : List UInt8) (j : Nat) : Lib.occAt s headEnd j = true ↔ fourAt s j := by
  rw [occ_iff]
  constructor
  · intro h
    exact ⟨by simpa using h 0 13 rfl, h 1 10 rfl, h 2 13 rfl, h 3 10 rfl⟩
  · rintro ⟨h1, h2, h3, h4⟩ k b hk
    match k, hk with
    | 0, hk => simp [headEnd] at hk; subst hk; simpa using h1
    | 1, hk => simp [headEnd] at hk; subst hk; exact h2
    | 2, hk => simp [headEnd] at hk; subst hk; exact h3
    | 3, hk => simp [headEnd] at hk; subst hk; exact h4
    | k + 4, hk => simp [headEnd] at hk
theorem four_first {s : List UInt8} {k : Nat} (hk : fourAt s k) (hn : ∀ j, j < k → ¬ fourAt s j) : Lib.index s headEnd = k :=
  Lib.index_first (Nat.le_of_lt (List.getElem?_eq_some_iff.1 hk.1).1) ((occ_four _ _).2 hk) fun j hj => by
    cases h : Lib.occAt s headEnd j
    · rfl
    · exact absurd ((occ_four _ _).1 h) (hn j hj)
theorem four_none {s : List UInt8} (hn : ∀ j, j + 3 < s.length → ¬ fourAt s j) : Lib.index s headEnd = -1 :=
  Lib.index_none fun j _ => by
    cases h : Lib.occAt s headEnd j
    · rfl
    · have h1 := (occ_four _ _).1 h
      exact absurd h1 (hn j (List.getElem?_eq_some_iff.1 h1.2.2.2).1)
/-- Where it stands, it stands, and not before. -/
theorem endAt_spec (l : List UInt8) (h : 0 ≤ endAt l) : ∃ k : Nat, endAt l = k ∧ k + 4 ≤ l.length ∧ k + 4 ≤ 65536 ∧ fourAt l k ∧ ∀ j, j < k → ¬ fourAt l j := by
  unfold endAt at h ⊢
  rcases Lib.index_spec (l.take 65536) headEnd with ⟨h1, _⟩ | ⟨i, h1, h2, h3, h4⟩
  · omega
  · have hlen : (l.take 65536).length ≤ 65536 := List.length_take_le _ _
    have hlen2 : (l.take 65536).length ≤ l.length := by rw [List.length_take]; omega
    have key : ∀ j, j ≤ i → (fourAt (l.take 65536) j ↔ fourAt l j) := by
      have hf := (occ_four _ _).1 h3
      have hr := (List.getElem?_eq_some_iff.1 hf.2.2.2).1
      intro j hj
      unfold fourAt
      rw [List.getElem?_take, List.getElem?_take, List.getElem?_take, List.getElem?_take, if_pos (by omega), if_pos (by omega), if_pos (by omega), if_pos (by omega)]
    have hf := (occ_four _ _).1 h3
    have hr := (List.getElem?_eq_some_iff.1 hf.2.2.2).1
    refine ⟨i, h1, by omega, by omega, (key i (Nat.le_refl _)).1 hf, fun j hj hc => ?_⟩
    have h5 := h4 j hj
    rw [(occ_four _ _).2 ((key j (by omega)).2 hc)] at h5
    cases h5
/-- The lines of a head that ends. -/
def headLines (l : List UInt8) : List (List UInt8) := splitB (l.take (endAt l).toNat)
/-- May a line be a field? which one. -/
def colonAt (l : List UInt8) : Int := Lib.index l [58]
def fieldOK (l : List UInt8) : Bool := decide (0 ≤ colonAt l) && (tokenB (l.take (colonAt l).toNat) && plainB (l.drop ((colonAt l).toNat + 1)))
def fieldOf (l : List UInt8) : ByteArray × ByteArray := (⟨(l.take (colonAt l).toNat).toArray⟩, ⟨(trimmed (l.drop ((colonAt l).toNat + 1))).toArray⟩)
/-- A response's first line. -/
def httpB : List UInt8 := [72, 84, 84, 80, 47, 49, 46]
def statusOK (l : List UInt8) : Bool :=
  Lib.hasPrefix l httpB && (decide (12 ≤ l.length) && ((l.getD 7 0 == 48 || l.getD 7 0 == 49) && (l.getD 8 0 == 32 && (digB (l.getD 9 0) && (digB (l.getD 10 0) && (digB (l.getD 11 0) && (l.getD 9 0 != 48 && ((decide (l.length = 12) || l.getD 12 0 == 32) && plainB l))))))))
def statusV (l : List UInt8) : Nat := if statusOK l then 100 * ((l.getD 9 0).toNat - 48) + 10 * ((l.getD 10 0).toNat - 48) + ((l.getD 11 0).toNat - 48) else 0
/-- What a head's reading answers: the error's number, by what its first line is asked. -/
def readE (ok : List UInt8 → Bool) (l : List UInt8) : Int :=
  if endAt l < 0 then (if 65536 ≤ l.length then 3 else 7) else
  if !(ok ((headLines l).headD [])) || !((headLines l).tail.all fieldOK) then 8 else
  if 256 < (headLines l).tail.length then 3 else 0
def readF (l : List UInt8) : List (ByteArray × ByteArray) := (headLines l).tail.map fieldOf
end Go.Proofs.YtonlfplloenfcaaGreatDoor
