/-
  What bytes tell by chunks, in plain words: no program stands here.
-/
import Derived.Test.YtonlfplloenfcaaGreatDoorMoreSpecEtc
namespace Go.Proofs.YtonlfplloenfcaaGreatDoor

/-- A line that bytes begin with: it is too long; it is not there yet; how long it is. -/
inductive LineA where
  | limit | short | line (n : Nat)
def lineA (r : List UInt8) : LineA :=
  if 0 ≤ Lib.index r [13, 10] then (if 65536 < (Lib.index r [13, 10]).toNat then .limit else .line (Lib.index r [13, 10]).toNat) else if 65537 < r.length then .limit else .short
/-- A byte's value as a digit to the base 16. -/
def hexOK (x : UInt8) : Bool := digB x || (97 ≤ x && x ≤ 102) || (65 ≤ x && x ≤ 70)
def hexD (x : UInt8) : Nat := if digB x then x.toNat - 48 else if 97 ≤ x && x ≤ 102 then x.toNat - 87 else x.toNat - 55
def hexN (l : List UInt8) : Nat := l.foldl (fun n x => 16 * n + hexD x) 0
/-- A chunk's size. -/
def sizeD (s : List UInt8) : List UInt8 := s.takeWhile hexOK
def sizeW (s : List UInt8) : List UInt8 := (s.dropWhile hexOK).dropWhile blankB
def sizeOK (s : List UInt8) : Bool := (decide (1 ≤ (sizeD s).length) && decide ((sizeD s).length ≤ 16)) && (((sizeW s).isEmpty || (sizeW s).headD 0 == 59) && plainB s)
def sizeN (s : List UInt8) : Nat := hexN (sizeD s)
/-- What stands behind the last chunk: it is refused; it goes on; it ends, and so much is left. -/
inductive TrailA where
  | err (e : Int) | more | done (q : List UInt8)
def trailG : Nat → List UInt8 → TrailA
  | 0, _ => .more
  | f + 1, r => match lineA r with
    | .limit => .err 3
    | .short => .more
    | .line n => if n = 0 then .done (r.drop 2) else if fieldOK (r.take n) then trailG f (r.drop (n + 2)) else .err 9
/-- What stands behind a chunk. -/
inductive EndA where
  | bad | more | next (r : List UInt8)
def endA : List UInt8 → EndA
  | [] => .more
  | [a] => if a = 13 then .more else .bad
  | a :: b :: r => if a = 13 then (if b = 10 then .next r else .bad) else .bad
/-- What bytes tell: they are refused; a body so far; a whole one, and so much is left. -/
inductive ChunkA where
  | err (e : Int) | more (body : List UInt8) | done (body q : List UInt8)
def ChunkA.pre (p : List UInt8) : ChunkA → ChunkA
  | .err e => .err e
  | .more b => .more (p ++ b)
  | .done b q => .done (p ++ b) q
def TrailA.chunk : TrailA → ChunkA
  | .err e => .err e
  | .more => .more []
  | .done q => .done [] q
def chunkG : Nat → Nat → List UInt8 → ChunkA
  | 0, _, _ => .more []
  | f + 1, all, r => match lineA r with
    | .limit => .err 3
    | .short => .more []
    | .line n =>
      if sizeOK (r.take n) then
        if sizeN (r.take n) = 0 then (trailG f (r.drop (n + 2))).chunk
        else if 65536 < all + sizeN (r.take n) then .err 3
        else match endA ((r.drop (n + 2)).drop (sizeN (r.take n))) with
          | .bad => .err 9
          | .more => .more ((r.drop (n + 2)).take (sizeN (r.take n)))
          | .next q => (chunkG f (all + sizeN (r.take n)) q).pre ((r.drop (n + 2)).take (sizeN (r.take n)))
      else .err 9
def chunkA (l : List UInt8) : ChunkA := chunkG (l.length + 1) 0 l

theorem line_spec {r : List UInt8} {n : Nat} (h : lineA r = .line n) : n + 2 ≤ r.length ∧ n ≤ 65536 ∧ eolAt r n ∧ ∀ j, j < n → ¬ eolAt r j := by
  unfold lineA at h
  rcases Lib.index_spec r [13, 10] with ⟨h1, h2⟩ | ⟨i, h1, h2, h3, h4⟩
  · rw [h1, if_neg (by omega)] at h
    split at h <;> cases h
  · rw [h1, if_pos (by omega), Int.toNat_natCast] at h
    split at h
    · cases h
    · injection h with h
      subst h
      have h5 := (occ_eol r i).1 h3
      refine ⟨by have := eol_lt h5; omega, by omega, h5, fun j hj hc => ?_⟩
      have h6 := h4 j hj
      rw [(occ_eol r j).2 hc] at h6
      cases h6
theorem line_mk {r : List UInt8} {n : Nat} (hn : n ≤ 65536) (h : eolAt r n) (h2 : ∀ j, j < n → ¬ eolAt r j) : lineA r = .line n := by
  have hi : Lib.index r [13, 10] = (n : Int) := Lib.index_first (by have := eol_lt h; omega) ((occ_eol r n).2 h) fun j hj => by
    cases h3 : Lib.occAt r [13, 10] j
    · rfl
    · exact absurd ((occ_eol r j).1 h3) (h2 j hj)
  unfold lineA
  rw [hi, if_pos (by omega), Int.toNat_natCast, if_neg (by omega)]
theorem line_far {r : List UInt8} {n : Nat} (hn : 65536 < n) (h : eolAt r n) (h2 : ∀ j, j < n → ¬ eolAt r j) : lineA r = .limit := by
  have hi : Lib.index r [13, 10] = (n : Int) := Lib.index_first (by have := eol_lt h; omega) ((occ_eol r n).2 h) fun j hj => by
    cases h3 : Lib.occAt r [13, 10] j
    · rfl
    · exact absurd ((occ_eol r j).1 h3) (h2 j hj)
  unfold lineA
  rw [hi, if_pos (by omega), Int.toNat_natCast, if_pos (by omega)]
theorem line_no {r : List UInt8} (h : ∀ j, ¬ eolAt r j) : lineA r = if 65537 < r.length then .limit else .short := by
  have hi : Lib.index r [13, 10] = -1 := Lib.index_none fun j _ => by
    cases h3 : Lib.occAt r [13, 10] j
    · rfl
    · exact absurd ((occ_eol r j).1 h3) (h j)
  unfold lineA
  rw [hi, if_neg (by omega)]
theorem line_short {r : List UInt8} (h : lineA r = .short) : (∀ j, ¬ eolAt r j) ∧ r.length ≤ 65537 := by
  unfold lineA at h
  rcases Lib.index_spec r [13, 10] with ⟨h1, h2⟩ | ⟨i, h1, h2, h3, h4⟩
  · rw [h1, if_neg (by omega)] at h
    refine ⟨fun j hj => ?_, ?_⟩
    · have h5 := h2 j (by have := eol_lt hj; omega)
      rw [(occ_eol r j).2 hj] at h5
      cases h5
    · split at h
      · cases h
      · omega
  · rw [h1, if_pos (by omega)] at h
    split at h <;> cases h
theorem eol_append {r : List UInt8} (m : List UInt8) {j : Nat} (hj : j + 1 < r.length) : eolAt (r ++ m) j ↔ eolAt r j := by
  unfold eolAt
  rw [List.getElem?_append_left (by omega), List.getElem?_append_left hj]
/-- More bytes behind: a line stays, what is too long stays so. -/
theorem line_append {r : List UInt8} {n : Nat} (m : List UInt8) (h : lineA r = .line n) : lineA (r ++ m) = .line n := by
  obtain ⟨h1, h2, h3, h4⟩ := line_spec h
  exact line_mk h2 ((eol_append m (by omega)).2 h3) fun j hj hc => h4 j hj ((eol_append m (by omega)).1 hc)
theorem limit_append {r : List UInt8} (m : List UInt8) (h : lineA r = .limit) : lineA (r ++ m) = .limit := by
  have key : ∃ n, 65536 < n ∧ n < r.length ∧ ∀ j, j < n → ¬ eolAt r j := by
    unfold lineA at h
    rcases Lib.index_spec r [13, 10] with ⟨h1, h2⟩ | ⟨i, h1, h2, h3, h4⟩
    · rw [h1, if_neg (by omega)] at h
      split at h
      · refine ⟨65537, by omega, by omega, fun j hj hc => ?_⟩
        have h5 := h2 j (by omega)
        rw [(occ_eol r j).2 hc] at h5
        cases h5
      · cases h
    · rw [h1, if_pos (by omega), Int.toNat_natCast] at h
      split at h
      · refine ⟨i, by omega, by have := eol_lt ((occ_eol r i).1 h3); omega, fun j hj hc => ?_⟩
        have h5 := h4 j hj
        rw [(occ_eol r j).2 hc] at h5
        cases h5
      · cases h
  obtain ⟨n, h1, h2, h3⟩ := key
  have h4 : ∀ j, j < n → ¬ eolAt (r ++ m) j := fun j hj hc => h3 j hj ((eol_append m (by omega)).1 hc)
  rcases Lib.index_spec (r ++ m) [13, 10] with ⟨h5, h6⟩ | ⟨i, h5, h6, h7, h8⟩
  · rw [line_no fun j hj => by
      have h7 := h6 j (by have := eol_lt hj; omega)
      rw [(occ_eol _ j).2 hj] at h7
      cases h7]
    rw [if_pos (by rw [List.length_append]; omega)]
  · have h9 := (occ_eol _ i).1 h7
    refine line_far (n := i) ?_ h9 fun j hj hc => ?_
    · rcases Nat.lt_or_ge i n with h10 | h10
      · exact absurd h9 (h4 i h10)
      · omega
    · have h11 := h8 j hj
      rw [(occ_eol _ j).2 hc] at h11
      cases h11
theorem drop_append_le {r m : List UInt8} {n : Nat} (h : n ≤ r.length) : (r ++ m).drop n = r.drop n ++ m := by
  rw [List.drop_append_of_le_length h]
theorem take_append_le {r m : List UInt8} {n : Nat} (h : n ≤ r.length) : (r ++ m).take n = r.take n := by
  rw [List.take_append_of_le_length h]

/-- Enough fuel is enough. -/
theorem trail_fuel : ∀ (f g : Nat) (r : List UInt8), r.length < f → r.length < g → trailG f r = trailG g r
  | 0, _, _, h, _ => by omega
  | _, 0, _, _, h => by omega
  | f + 1, g + 1, r, hf, hg => by
    unfold trailG
    cases h : lineA r with
    | limit => rfl
    | short => rfl
    | line n =>
      have hs := line_spec h
      simp only
      rw [trail_fuel f g (r.drop (n + 2)) (by rw [List.length_drop]; omega) (by rw [List.length_drop]; omega)]
theorem end_one (a : UInt8) : endA [a] = if a = 13 then .more else .bad := rfl
theorem end_two (a b : UInt8) (r : List UInt8) : endA (a :: b :: r) = if a = 13 then (if b = 10 then .next r else .bad) else .bad := rfl
theorem end_len {r q : List UInt8} (h : endA r = .next q) : r = 13 :: 10 :: q := by
  match r, h with
  | [], h => cases h
  | [a], h =>
    rw [end_one] at h
    split at h <;> cases h
  | a :: b :: r, h =>
    rw [end_two] at h
    split at h
    · rename_i ha
      split at h
      · rename_i hb
        injection h with h
        rw [ha, hb, h]
      · cases h
    · cases h
theorem trail_len : ∀ (k : Nat) (x q : List UInt8), trailG k x = .done q → q.length ≤ x.length
  | 0, _, _, h => by cases h
  | k + 1, x, q, hq => by
    unfold trailG at hq
    cases h6 : lineA x with
    | limit => rw [h6] at hq; cases hq
    | short => rw [h6] at hq; cases hq
    | line j =>
      rw [h6] at hq
      simp only at hq
      split at hq
      · injection hq with hq
        rw [← hq, List.length_drop]; omega
      · split at hq
        · have := trail_len k _ q hq
          rw [List.length_drop] at this
          omega
        · cases hq
/-- More bytes behind what is told. -/
def TrailOn (m : List UInt8) (a b : TrailA) : Prop := match a with
  | .err e => b = .err e
  | .done q => b = .done (q ++ m)
  | .more => match b with
    | .err _ => True
    | .more => True
    | .done q => q.length ≤ m.length
theorem trail_on (m : List UInt8) : ∀ (f : Nat) (r : List UInt8) (g : Nat), r.length < f → (r ++ m).length < g → TrailOn m (trailG f r) (trailG g (r ++ m))
  | 0, _, _, h, _ => by omega
  | f + 1, r, g + 1, hf, hg => by
    cases h : lineA r with
    | limit =>
      unfold trailG
      rw [h, limit_append m h]
      rfl
    | line n =>
      have hs := line_spec h
      have ih := trail_on m f (r.drop (n + 2)) g (by rw [List.length_drop]; omega) (by rw [List.length_append] at hg ⊢; rw [List.length_drop]; omega)
      unfold trailG
      rw [h, line_append m h]
      simp only
      split
      · rw [drop_append_le (by omega)]; rfl
      · rw [take_append_le (by omega), drop_append_le (by omega)]
        split
        · exact ih
        · rfl
    | short =>
      have h0 : trailG (f + 1) r = .more := by unfold trailG; rw [h]
      rw [h0]
      obtain ⟨h1, h2⟩ := line_short h
      cases h7 : trailG (g + 1) (r ++ m) with
      | err e => trivial
      | more => trivial
      | done q =>
        show q.length ≤ m.length
        unfold trailG at h7
        cases h3 : lineA (r ++ m) with
        | limit => rw [h3] at h7; cases h7
        | short => rw [h3] at h7; cases h7
        | line n =>
          rw [h3] at h7
          obtain ⟨k1, k2, k3, k4⟩ := line_spec h3
          have hn : r.length ≤ n + 1 := by
            rcases Nat.lt_or_ge (n + 1) r.length with h5 | h5
            · exact absurd ((eol_append m h5).1 k3) (h1 n)
            · exact h5
          simp only at h7
          split at h7
          · injection h7 with h7
            rw [← h7, List.length_drop, List.length_append]; omega
          · split at h7
            · have := trail_len _ _ _ h7
              rw [List.length_drop, List.length_append] at this
              omega
            · cases h7
theorem chunk_len : ∀ (k all : Nat) (x b q : List UInt8), chunkG k all x = .done b q → q.length ≤ x.length
  | 0, _, _, _, _, h => by cases h
  | k + 1, all, x, b, q, hq => by
    unfold chunkG at hq
    cases h6 : lineA x with
    | limit => rw [h6] at hq; cases hq
    | short => rw [h6] at hq; cases hq
    | line j =>
      rw [h6] at hq
      simp only at hq
      split at hq
      · split at hq
        · cases ht : trailG k (x.drop (j + 2)) with
          | err e => rw [ht] at hq; cases hq
          | more => rw [ht] at hq; cases hq
          | done q' =>
            rw [ht] at hq
            have := trail_len _ _ _ ht
            rw [List.length_drop] at this
            unfold TrailA.chunk at hq
            simp only [ChunkA.done.injEq] at hq
            rw [← hq.2]; omega
        · split at hq
          · cases hq
          · cases he : endA ((x.drop (j + 2)).drop (sizeN (x.take j))) with
            | bad => rw [he] at hq; cases hq
            | more => rw [he] at hq; cases hq
            | next r3 =>
              rw [he] at hq
              have h3 := congrArg List.length (end_len he)
              simp only [List.length_drop, List.length_cons] at h3
              simp only at hq
              cases hc : chunkG k (all + sizeN (x.take j)) r3 with
              | err e => rw [hc] at hq; cases hq
              | more bb => rw [hc] at hq; cases hq
              | done bb qq =>
                rw [hc] at hq
                have := chunk_len _ _ _ _ _ hc
                unfold ChunkA.pre at hq
                simp only [ChunkA.done.injEq] at hq
                rw [← hq.2]; omega
      · cases hq
def ChunkOn (m : List UInt8) (a b : ChunkA) : Prop := match a with
  | .err e => b = .err e
  | .done x q => b = .done x (q ++ m)
  | .more x => match b with
    | .err _ => True
    | .more y => ∃ z, y = x ++ z
    | .done y q => (∃ z, y = x ++ z) ∧ q.length ≤ m.length
theorem ChunkOn.pre {m p : List UInt8} {a b : ChunkA} (h : ChunkOn m a b) : ChunkOn m (a.pre p) (b.pre p) := by
  cases a with
  | err e => unfold ChunkOn at h; simp only at h; rw [h]; rfl
  | done x q => unfold ChunkOn at h; simp only at h; rw [h]; rfl
  | more x =>
    cases b with
    | err e => trivial
    | more y =>
      obtain ⟨z, rfl⟩ := (show ∃ z, y = x ++ z from h)
      exact ⟨z, by simp⟩
    | done y q =>
      obtain ⟨⟨z, rfl⟩, hq⟩ := (show (∃ z, y = x ++ z) ∧ q.length ≤ m.length from h)
      exact ⟨⟨z, by simp⟩, hq⟩
theorem chunk_on (m : List UInt8) : ∀ (f all : Nat) (r : List UInt8) (g : Nat), r.length < f → (r ++ m).length < g → ChunkOn m (chunkG f all r) (chunkG g all (r ++ m))
  | 0, _, _, _, h, _ => by omega
  | f + 1, all, r, g + 1, hf, hg => by
    cases h : lineA r with
    | limit =>
      unfold chunkG
      rw [h, limit_append m h]
      rfl
    | line n =>
      have hs := line_spec h
      unfold chunkG
      rw [h, line_append m h]
      simp only
      rw [take_append_le (by omega), drop_append_le (by omega)]
      split
      · split
        · have ht := trail_on m f (r.drop (n + 2)) g (by rw [List.length_drop]; omega) (by rw [List.length_append] at hg ⊢; rw [List.length_drop]; omega)
          cases h1 : trailG f (r.drop (n + 2)) with
          | err e =>
            rw [h1] at ht
            rw [show trailG g (r.drop (n + 2) ++ m) = .err e from ht]
            rfl
          | done q =>
            rw [h1] at ht
            rw [show trailG g (r.drop (n + 2) ++ m) = .done (q ++ m) from ht]
            rfl
          | more =>
            rw [h1] at ht
            cases h2 : trailG g (r.drop (n + 2) ++ m) with
            | err e => trivial
            | more => exact ⟨[], rfl⟩
            | done q =>
              rw [h2] at ht
              exact ⟨⟨[], rfl⟩, ht⟩
        · split
          · rfl
          · generalize sizeN (r.take n) = v
            generalize hr1 : r.drop (n + 2) = r1
            have hl1 : r1.length + (n + 2) = r.length := by rw [← hr1, List.length_drop]; omega
            rcases Nat.lt_or_ge r1.length v with hv | hv
            · -- the chunk itself goes on
              have e0 : r1.drop v = [] := List.drop_eq_nil_of_le (by omega)
              have e1 : r1.take v = r1 := List.take_of_length_le (by omega)
              rw [e0, e1]
              have et : (r1 ++ m).take v = r1 ++ m.take (v - r1.length) := by rw [List.take_append, List.take_of_length_le (by omega)]
              rw [et]
              have ed : (r1 ++ m).drop v = m.drop (v - r1.length) := by rw [List.drop_append, List.drop_eq_nil_of_le (by omega)]; rfl
              rw [ed]
              show ChunkOn m (.more r1) _
              cases he : endA (m.drop (v - r1.length)) with
              | bad => trivial
              | more => exact ⟨_, rfl⟩
              | next q =>
                have hq := congrArg List.length (end_len he)
                simp only [List.length_drop, List.length_cons] at hq
                simp only
                cases hc : chunkG g (all + v) q with
                | err e => trivial
                | more y => exact ⟨m.take (v - r1.length) ++ y, by simp⟩
                | done y q2 =>
                  have := chunk_len _ _ _ _ _ hc
                  exact ⟨⟨m.take (v - r1.length) ++ y, by simp⟩, by omega⟩
            · rw [drop_append_le hv, take_append_le hv]
              generalize hr2 : r1.drop v = r2
              have hl2 : r2.length + v = r1.length := by rw [← hr2, List.length_drop]; omega
              match r2, hl2 with
              | [], hl2 =>
                show ChunkOn m (.more (r1.take v)) _
                rw [List.nil_append]
                cases he : endA m with
                | bad => trivial
                | more => exact ⟨[], by simp⟩
                | next q =>
                  have hq := congrArg List.length (end_len he)
                  simp only [List.length_cons] at hq
                  simp only
                  cases hc : chunkG g (all + v) q with
                  | err e => trivial
                  | more y => exact ⟨y, rfl⟩
                  | done y q2 =>
                    have := chunk_len _ _ _ _ _ hc
                    exact ⟨⟨y, rfl⟩, by omega⟩
              | [a], hl2 =>
                by_cases ha : a = 13
                · rw [show endA [a] = .more by rw [end_one, if_pos ha]]
                  show ChunkOn m (.more (r1.take v)) _
                  cases he : endA ([a] ++ m) with
                  | bad => trivial
                  | more => exact ⟨[], by simp⟩
                  | next q =>
                    have hq := congrArg List.length (end_len he)
                    simp only [List.length_cons, List.length_append, List.length_nil] at hq
                    simp only
                    cases hc : chunkG g (all + v) q with
                    | err e => trivial
                    | more y => exact ⟨y, rfl⟩
                    | done y q2 =>
                      have := chunk_len _ _ _ _ _ hc
                      exact ⟨⟨y, rfl⟩, by omega⟩
                · rw [show endA [a] = .bad by rw [end_one, if_neg ha]]
                  have : endA ([a] ++ m) = .bad := by
                    match m with
                    | [] => show endA [a] = .bad; rw [end_one, if_neg ha]
                    | b :: m' => show endA (a :: b :: m') = .bad; rw [end_two, if_neg ha]
                  rw [this]
                  rfl
              | a :: b :: r3, hl2 =>
                rw [List.cons_append, List.cons_append, end_two, end_two]
                by_cases ha : a = 13
                · rw [if_pos ha, if_pos ha]
                  by_cases hb : b = 10
                  · rw [if_pos hb, if_pos hb]
                    simp only [List.length_cons] at hl2
                    simp only
                    exact (chunk_on m f (all + v) r3 g (by omega) (by rw [List.length_append] at hg ⊢; omega)).pre
                  · rw [if_neg hb, if_neg hb]
                    rfl
                · rw [if_neg ha, if_neg ha]
                  rfl
      · rfl
    | short =>
      have h0 : chunkG (f + 1) all r = .more [] := by unfold chunkG; rw [h]
      rw [h0]
      obtain ⟨h1, h2⟩ := line_short h
      cases h3 : lineA (r ++ m) with
      | limit => rw [show chunkG (g + 1) all (r ++ m) = .err 3 by unfold chunkG; rw [h3]]; trivial
      | short => rw [show chunkG (g + 1) all (r ++ m) = .more [] by unfold chunkG; rw [h3]]; exact ⟨[], rfl⟩
      | line n =>
        obtain ⟨k1, k2, k3, k4⟩ := line_spec h3
        have hn : r.length ≤ n + 1 := by
          rcases Nat.lt_or_ge (n + 1) r.length with h5 | h5
          · exact absurd ((eol_append m h5).1 k3) (h1 n)
          · exact h5
        cases hc : chunkG (g + 1) all (r ++ m) with
        | err e => trivial
        | more y => exact ⟨y, rfl⟩
        | done y q =>
          refine ⟨⟨y, rfl⟩, ?_⟩
          unfold chunkG at hc
          rw [h3] at hc
          simp only at hc
          split at hc
          · split at hc
            · cases ht : trailG g (List.drop (n + 2) (r ++ m)) with
              | err e => rw [ht] at hc; cases hc
              | more => rw [ht] at hc; cases hc
              | done q' =>
                rw [ht] at hc
                have := trail_len _ _ _ ht
                rw [List.length_drop, List.length_append] at this
                unfold TrailA.chunk at hc
                simp only [ChunkA.done.injEq] at hc
                rw [← hc.2]; omega
            · split at hc
              · cases hc
              · cases he : endA (List.drop (sizeN (List.take n (r ++ m))) (List.drop (n + 2) (r ++ m))) with
                | bad => rw [he] at hc; cases hc
                | more => rw [he] at hc; cases hc
                | next r3 =>
                  rw [he] at hc
                  have h5 := congrArg List.length (end_len he)
                  simp only [List.length_drop, List.length_cons, List.length_append] at h5
                  simp only at hc
                  cases h6 : chunkG g (all + sizeN (List.take n (r ++ m))) r3 with
                  | err e => rw [h6] at hc; cases hc
                  | more bb => rw [h6] at hc; cases hc
                  | done bb qq =>
                    rw [h6] at hc
                    have := chunk_len _ _ _ _ _ h6
                    unfold ChunkA.pre at hc
                    simp only [ChunkA.done.injEq] at hc
                    rw [← hc.2]; omega
          · cases hc
theorem chunkA_on (r m : List UInt8) : ChunkOn m (chunkA r) (chunkA (r ++ m)) := chunk_on m _ 0 r _ (by omega) (by omega)
end Go.Proofs.YtonlfplloenfcaaGreatDoor
