/-
  A head that was put, read back, in plain words: no program stands here.
  A response's first line, test by test, in plain words: no program stands here.
  footmanref01.Digit, Blank, sign, Token.
  bodies.control: has a text a control byte?
-/
import Derived.Test.YtonlfplloenfcaaGreatDoorPutSpecEtc
import Derived.Lib.Bytes2
import Derived.Test.YtonlfplloenfcaaGreatDoorResultsEtc
namespace Go.Proofs.YtonlfplloenfcaaGreatDoor

/-- Lines, each with its end. -/
def joinL (ls : List (List UInt8)) : List UInt8 := ls.flatMap fun x => x ++ [13, 10]
/-- A line in which no line's end stands, and is not empty. -/
def lineOK (x : List UInt8) : Prop := x ≠ [] ∧ ∀ j, ¬ eolAt x j
theorem joinL_cons (x : List UInt8) (ls : List (List UInt8)) : joinL (x :: ls) = x ++ (13 :: 10 :: joinL ls) := by simp [joinL]
theorem joinL_len_cons (x : List UInt8) (ls : List (List UInt8)) : (joinL (x :: ls)).length = x.length + 2 + (joinL ls).length := by
  rw [joinL_cons]; simp; omega

theorem four_drop (s : List UInt8) (a j : Nat) : fourAt (s.drop a) j ↔ fourAt s (a + j) := by
  unfold fourAt
  simp only [List.getElem?_drop, Nat.add_assoc]
theorem get_line {x r : List UInt8} {j : Nat} (hj : j < x.length) : (x ++ r)[j]? = some x[j] := by
  rw [List.getElem?_append_left hj]; exact List.getElem?_eq_getElem hj
theorem behind {x r : List UInt8} (j : Nat) : (x ++ r)[x.length + j]? = r[j]? := by
  rw [List.getElem?_append_right (by omega)]; congr 1; omega
theorem line_at {x : List UInt8} (hx : ∀ j, ¬ eolAt x j) {r : List UInt8} {j : Nat} (h : eolAt (x ++ (13 :: r)) j) : x.length ≤ j := by
  rcases Nat.lt_or_ge j x.length with h1 | h1
  · obtain ⟨h2, h3⟩ := h
    rw [List.getElem?_append_left h1] at h2
    rcases Nat.lt_or_ge (j + 1) x.length with h4 | h4
    · rw [List.getElem?_append_left h4] at h3
      exact absurd ⟨h2, h3⟩ (hx j)
    · rw [show j + 1 = x.length + 0 by omega, behind] at h3
      simp at h3
  · exact h1
/-- No head's end stands before the last line's end. -/
theorem join_no_four : ∀ (ls : List (List UInt8)), (∀ x ∈ ls, lineOK x) → ∀ (r : List UInt8) (j : Nat), j + 2 < (joinL ls).length → ¬ fourAt (joinL ls ++ r) j
  | [], _, r, j, hj, _ => by simp [joinL] at hj
  | x :: ls, h, r, j, hj, hc => by
    have hx := h x List.mem_cons_self
    rw [joinL_cons, List.append_assoc] at hc
    have h1 := line_at hx.2 (show eolAt (x ++ (13 :: (10 :: joinL ls ++ r))) j from ⟨hc.1, hc.2.1⟩)
    rw [joinL_len_cons] at hj
    obtain ⟨i, rfl⟩ : ∃ i, j = x.length + i := ⟨j - x.length, by omega⟩
    have hb := fun k => behind (x := x) (r := 13 :: 10 :: joinL ls ++ r) k
    unfold fourAt at hc
    simp only [Nat.add_assoc, hb] at hc
    match i, hj, hc with
    | 0, hj, hc =>
      match ls, h, hj, hc with
      | [], _, hj, hc => simp [joinL] at hj
      | y :: t, h, hj, hc =>
        have hy := h y (List.mem_cons_of_mem _ List.mem_cons_self)
        have h2 := hc.2.2.1
        have h3 := hc.2.2.2
        rw [joinL_cons] at h2 h3
        match y, hy with
        | [b], hy => simp at h3
        | b :: b2 :: y', hy =>
          simp at h2 h3
          exact hy.2 0 ⟨by rw [h2]; rfl, by rw [h3]; rfl⟩
        | [], hy => exact hy.1 rfl
    | 1, hj, hc =>
      have h2 := hc.1
      simp at h2
    | i + 2, hj, hc =>
      refine join_no_four ls (fun y hy => h y (List.mem_cons_of_mem _ hy)) r i (by omega) ?_
      unfold fourAt
      simpa [Nat.add_assoc, Nat.add_left_comm, Nat.add_comm] using hc
theorem join_ends : ∀ (ls : List (List UInt8)), ls ≠ [] → ∃ s, joinL ls = s ++ [13, 10]
  | [], h => absurd rfl h
  | [x], _ => ⟨x, by simp [joinL]⟩
  | x :: y :: t, _ => by
    obtain ⟨s, hs⟩ := join_ends (y :: t) (by simp)
    exact ⟨x ++ [13, 10] ++ s, by rw [joinL_cons, hs]; simp⟩
theorem join_four (ls : List (List UInt8)) (h : ls ≠ []) (r : List UInt8) : fourAt (joinL ls ++ ([13, 10] ++ r)) ((joinL ls).length - 2) := by
  obtain ⟨s, hs⟩ := join_ends ls h
  rw [hs]
  have e : (s ++ [13, 10]).length - 2 = s.length + 0 := by simp
  rw [e]
  unfold fourAt
  have hb := fun k => behind (x := s) (r := [13, 10] ++ ([13, 10] ++ r)) k
  simp only [List.append_assoc, Nat.add_assoc, hb]
  simp
theorem eol_of_13 {s : List UInt8} (h : ∀ y ∈ s, y ≠ 13) (j : Nat) : ¬ eolAt s j := fun hc => by
  have h1 := hc.1
  exact h 13 (List.mem_of_getElem? h1) rfl
/-- Lines without their last end, cut up again. -/
theorem split_join : ∀ (ls : List (List UInt8)), ls ≠ [] → (∀ x ∈ ls, lineOK x) → ∀ s, joinL ls = s ++ [13, 10] → splitB s = ls
  | [], h, _, _, _ => absurd rfl h
  | [x], _, h, s, hs => by
    have hx := h x (by simp)
    have e : x = s := by
      simp [joinL] at hs
      exact hs
    subst e
    exact split_none x hx.2
  | x :: y :: t, _, h, s, hs => by
    have hx := h x (by simp)
    obtain ⟨s2, hs2⟩ := join_ends (y :: t) (by simp)
    have ih := split_join (y :: t) (by simp) (fun z hz => h z (List.mem_cons_of_mem _ hz)) s2 hs2
    rw [joinL_cons, hs2] at hs
    have e : s = x ++ (13 :: 10 :: s2) := by
      have h1 : (x ++ (13 :: 10 :: s2)) ++ [13, 10] = s ++ [13, 10] := by simpa using hs
      exact (List.append_cancel_right h1).symm
    subst e
    have hat : eolAt (x ++ (13 :: 10 :: s2)) x.length := by
      unfold eolAt
      have h0 := behind (x := x) (r := 13 :: 10 :: s2) 0
      have h1 := behind (x := x) (r := 13 :: 10 :: s2) 1
      simp only [Nat.add_zero] at h0
      rw [h0, h1]
      simp
    rw [split_at x.length _ hat (fun j hj hc => by have := line_at hx.2 hc; omega)]
    rw [List.take_left, show (x ++ (13 :: 10 :: s2)).drop (x.length + 2) = s2 by rw [List.drop_append]; simp, ih]
/-- Where the head of these lines ends. -/
theorem endAt_join (ls : List (List UInt8)) (h0 : ls ≠ []) (h : ∀ x ∈ ls, lineOK x) (hl : (joinL ls).length + 2 ≤ 65536) (r : List UInt8) : endAt (joinL ls ++ ([13, 10] ++ r)) = ((joinL ls).length : Int) - 2 := by
  have h2 : 2 ≤ (joinL ls).length := by
    obtain ⟨s, hs⟩ := join_ends ls h0
    rw [hs]; simp
  have hf := join_four ls h0 r
  have key : ∀ j, j + 4 ≤ 65536 → (fourAt ((joinL ls ++ ([13, 10] ++ r)).take 65536) j ↔ fourAt (joinL ls ++ ([13, 10] ++ r)) j) := by
    intro j hj
    unfold fourAt
    rw [List.getElem?_take, List.getElem?_take, List.getElem?_take, List.getElem?_take, if_pos (by omega), if_pos (by omega), if_pos (by omega), if_pos (by omega)]
  unfold endAt
  rw [four_first (k := (joinL ls).length - 2) ((key _ (by omega)).2 hf) (fun j hj hc => join_no_four ls h _ j (by omega) ((key j (by omega)).1 hc))]
  omega
theorem headLines_join (ls : List (List UInt8)) (h0 : ls ≠ []) (h : ∀ x ∈ ls, lineOK x) (hl : (joinL ls).length + 2 ≤ 65536) (r : List UInt8) : headLines (joinL ls ++ ([13, 10] ++ r)) = ls := by
  obtain ⟨s, hs⟩ := join_ends ls h0
  unfold headLines
  rw [endAt_join ls h0 h hl r]
  have e : (((joinL ls).length : Int) - 2).toNat = s.length := by rw [hs]; simp
  rw [e, hs, List.append_assoc, List.take_left]
  exact split_join ls h0 h s hs
theorem endAt_part (ls : List (List UInt8)) (h : ∀ x ∈ ls, lineOK x) (k : Nat) (hk : k < (joinL ls).length + 2) : endAt ((joinL ls ++ [13, 10]).take k) < 0 := by
  unfold endAt
  rw [List.take_take]
  have h0 : Lib.index ((joinL ls ++ [13, 10]).take (min 65536 k)) headEnd = -1 := by
    refine four_none (fun j hj hc => ?_)
    rw [List.length_take] at hj
    have hc2 : fourAt (joinL ls ++ [13, 10]) j := by
      unfold fourAt at hc ⊢
      rw [List.getElem?_take, List.getElem?_take, List.getElem?_take, List.getElem?_take, if_pos (by omega), if_pos (by omega), if_pos (by omega), if_pos (by omega)] at hc
      exact hc
    exact join_no_four ls h _ j (by omega) hc2
  rw [h0]
  decide

/-- A field's line; a request's first line. -/
def fieldLine (f : ByteArray × ByteArray) : List UInt8 := f.1.data.toList ++ (58 :: 32 :: f.2.data.toList)
def askLine (m t : ByteArray) : List UInt8 := m.data.toList ++ (32 :: (t.data.toList ++ tailB))
theorem headT_join (m t : ByteArray) (fs : List (ByteArray × ByteArray)) : headT m t fs = joinL (askLine m t :: fs.map fieldLine) ++ [13, 10] := by
  unfold headT askT fieldsT joinL askLine tailB
  rw [List.flatMap_cons, List.flatMap_map]
  have : (fun f : ByteArray × ByteArray => fieldLine f ++ [13, 10]) = fieldT := by
    funext f
    simp [fieldLine, fieldT]
  rw [this]
  simp
theorem sign_facts (x : UInt8) (h : signOK x = true) : x ≠ 13 ∧ x ≠ 58 ∧ x ≠ 32 ∧ x ≠ 10 := by
  have h1 := all_bytes (p := fun x => !signOK x || (x != 13 && (x != 58 && (x != 32 && x != 10)))) (by decide +kernel) x
  simp [h] at h1
  exact ⟨h1.1, h1.2.1, h1.2.2.1, h1.2.2.2⟩
theorem ctrl_facts (x : UInt8) (h : ctrlOK x = true) : x ≠ 13 ∧ x ≠ 10 := by
  have h1 := all_bytes (p := fun x => !ctrlOK x || (x != 13 && x != 10)) (by decide +kernel) x
  simp [h] at h1
  exact h1
theorem targ_facts (x : UInt8) (h : targOK x = true) : x ≠ 13 ∧ x ≠ 10 ∧ x ≠ 32 := by
  have h1 := all_bytes (p := fun x => !targOK x || (x != 13 && (x != 10 && x != 32))) (by decide +kernel) x
  simp [h] at h1
  exact ⟨h1.1, h1.2.1, h1.2.2⟩
theorem token_all {l : List UInt8} (h : tokenB l = true) : (∀ x ∈ l, signOK x = true) ∧ l ≠ [] := by
  unfold tokenB at h
  rw [Bool.and_eq_true] at h
  exact ⟨List.all_eq_true.1 h.1, by simpa using h.2⟩
theorem targ_all {l : List UInt8} (h : targB l = true) : (∀ x ∈ l, targOK x = true) ∧ l ≠ [] := by
  unfold targB at h
  rw [Bool.and_eq_true] at h
  exact ⟨List.all_eq_true.1 h.1, by simpa using h.2⟩
theorem odd_parts {f : ByteArray × ByteArray} (h : oddF f = false) : tokenB f.1.data.toList = true ∧ plainB f.2.data.toList = true ∧ trimmed f.2.data.toList = f.2.data.toList := by
  unfold oddF at h
  simp at h
  exact h
theorem fieldLine_ok {f : ByteArray × ByteArray} (h : oddF f = false) : lineOK (fieldLine f) := by
  obtain ⟨h1, h2, _⟩ := odd_parts h
  obtain ⟨h3, _⟩ := token_all h1
  refine ⟨by unfold fieldLine; simp, fun j => eol_of_13 (fun y hy => ?_) j⟩
  unfold fieldLine at hy
  simp only [List.mem_append, List.mem_cons] at hy
  rcases hy with hy | rfl | rfl | hy
  · exact (sign_facts y (h3 y hy)).1
  · decide
  · decide
  · exact (ctrl_facts y (List.all_eq_true.1 h2 y hy)).1
theorem askLine_ok {m t : ByteArray} (h1 : tokenB m.data.toList = true) (h2 : targB t.data.toList = true) : lineOK (askLine m t) := by
  obtain ⟨h3, _⟩ := token_all h1
  obtain ⟨h4, _⟩ := targ_all h2
  refine ⟨by unfold askLine; simp, fun j => eol_of_13 (fun y hy => ?_) j⟩
  unfold askLine tailB at hy
  simp only [List.mem_append, List.mem_cons, List.not_mem_nil, or_false] at hy
  rcases hy with hy | rfl | hy | rfl | rfl | rfl | rfl | rfl | rfl | rfl | rfl | rfl
  · exact (sign_facts y (h3 y hy)).1
  · decide
  · exact (targ_facts y (h4 y hy)).1
  all_goals decide
theorem colon_of (a r : List UInt8) (h : ∀ x ∈ a, x ≠ 58) : colonAt (a ++ (58 :: r)) = (a.length : Int) := by
  refine index_one_first ?_ (fun j hj hc => ?_)
  · simp
  · rw [get_line hj] at hc
    injection hc with hc
    exact h _ (List.getElem_mem hj) hc
theorem trimmed_blank (x : UInt8) (hx : blankB x = true) (l : List UInt8) : trimmed (x :: l) = trimmed l := by
  rw [trimmed_eq, trimmed_eq]
  simp [List.dropWhile, hx]
theorem field_back {f : ByteArray × ByteArray} (h : oddF f = false) : fieldOK (fieldLine f) = true ∧ fieldOf (fieldLine f) = f := by
  obtain ⟨h1, h2, h3⟩ := odd_parts h
  obtain ⟨h4, _⟩ := token_all h1
  have hc : colonAt (fieldLine f) = (f.1.data.toList.length : Int) := colon_of _ _ fun x hx => (sign_facts x (h4 x hx)).2.1
  have e1 : (fieldLine f).take f.1.data.toList.length = f.1.data.toList := by unfold fieldLine; exact List.take_left
  have e2 : (fieldLine f).drop (f.1.data.toList.length + 1) = 32 :: f.2.data.toList := by
    unfold fieldLine
    rw [List.drop_append]; simp
  constructor
  · unfold fieldOK
    rw [hc, Int.toNat_natCast, e1, e2, h1, decide_eq_true (by omega)]
    unfold plainB at h2 ⊢
    rw [List.all_cons, h2]
    rfl
  · unfold fieldOf
    rw [hc, Int.toNat_natCast, e1, e2, trimmed_blank 32 (by decide), h3]
theorem cut_one (a r : List UInt8) (c : UInt8) (h : ∀ x ∈ a, x ≠ c) : Lib.cut (a ++ (c :: r)) [c] = (a, r, true) := by
  have hi : Lib.index (a ++ (c :: r)) [c] = (a.length : Int) := by
    refine index_one_first ?_ (fun j hj hc => ?_)
    · simp
    · rw [get_line hj] at hc
      injection hc with hc
      exact h _ (List.getElem_mem hj) hc
  unfold Lib.cut
  rw [hi, if_pos (by omega), Int.toNat_natCast, List.take_left]
  simp
theorem ask_back {m t : ByteArray} (h1 : tokenB m.data.toList = true) (h2 : targB t.data.toList = true) : askOK (askLine m t) = true ∧ askM (askLine m t) = m.data.toList ∧ askTo (askLine m t) = t.data.toList := by
  obtain ⟨h3, _⟩ := token_all h1
  have hc : Lib.cut (askLine m t) [32] = (m.data.toList, t.data.toList ++ tailB, true) := cut_one _ _ _ fun x hx => (sign_facts x (h3 x hx)).2.2.1
  have hs : Lib.hasSuffix (t.data.toList ++ tailB) tailB = true := by
    unfold Lib.hasSuffix
    rw [List.isSuffixOf_iff_suffix]
    exact List.suffix_append _ _
  have ht : Lib.trimSuffix (t.data.toList ++ tailB) tailB = t.data.toList := by
    unfold Lib.trimSuffix
    rw [if_pos hs, List.length_append, Nat.add_sub_cancel, List.take_left]
  refine ⟨?_, ?_, ?_⟩
  · unfold askOK
    rw [hc, hs, ht, h1, h2]
    rfl
  · unfold askM
    rw [hc]
  · unfold askTo
    rw [hc, ht]
/-- A request's head that was put: what may be said of its parts. -/
theorem headE_parts {m t : ByteArray} {fs : List (ByteArray × ByteArray)} (h : headE m t fs = 0) : tokenB m.data.toList = true ∧ targB t.data.toList = true ∧ (∀ f ∈ fs, oddF f = false) ∧ fs.length ≤ 256 ∧ (headT m t fs).length ≤ 65536 := by
  unfold headE at h
  split at h
  · cases h
  · rename_i h1
    split at h
    · cases h
    · split at h
      · cases h
      · simp only [Bool.or_eq_true, Bool.not_eq_true', not_or, Bool.not_eq_false] at h1
        refine ⟨h1.1.1, h1.1.2, fun f hf => ?_, by omega, by omega⟩
        have h2 := h1.2
        cases ho : oddF f
        · rfl
        · exact absurd (List.any_eq_true.2 ⟨f, hf, ho⟩) h2
theorem lines_ok {m t : ByteArray} {fs : List (ByteArray × ByteArray)} (h : headE m t fs = 0) : ∀ x ∈ askLine m t :: fs.map fieldLine, lineOK x := by
  obtain ⟨h1, h2, h3, _, _⟩ := headE_parts h
  intro x hx
  rcases List.mem_cons.1 hx with rfl | hx
  · exact askLine_ok h1 h2
  · obtain ⟨f, hf, rfl⟩ := List.mem_map.1 hx
    exact fieldLine_ok (h3 f hf)
theorem head_len {m t : ByteArray} {fs : List (ByteArray × ByteArray)} : (headT m t fs).length = (joinL (askLine m t :: fs.map fieldLine)).length + 2 := by
  rw [headT_join]; simp
theorem head_lines {m t : ByteArray} {fs : List (ByteArray × ByteArray)} (h : headE m t fs = 0) (r : List UInt8) : headLines (headT m t fs ++ r) = askLine m t :: fs.map fieldLine ∧ endAt (headT m t fs ++ r) = ((headT m t fs).length : Int) - 4 := by
  obtain ⟨_, _, _, _, h5⟩ := headE_parts h
  rw [head_len] at h5
  have e : headT m t fs ++ r = joinL (askLine m t :: fs.map fieldLine) ++ ([13, 10] ++ r) := by rw [headT_join, List.append_assoc]
  rw [e]
  refine ⟨headLines_join _ (by simp) (lines_ok h) h5 r, ?_⟩
  rw [endAt_join _ (by simp) (lines_ok h) h5 r, head_len]
  omega
theorem fields_back (fs : List (ByteArray × ByteArray)) (h : ∀ f ∈ fs, oddF f = false) : (fs.map fieldLine).all fieldOK = true ∧ (fs.map fieldLine).map fieldOf = fs := by
  constructor
  · rw [List.all_eq_true]
    intro x hx
    obtain ⟨f, hf, rfl⟩ := List.mem_map.1 hx
    exact (field_back (h f hf)).1
  · rw [List.map_map]
    conv => rhs; rw [← List.map_id fs]
    exact List.map_congr_left fun f hf => (field_back (h f hf)).2
theorem readE_of {ok : List UInt8 → Bool} {l x : List UInt8} {r : List (List UInt8)} (h : 0 ≤ endAt l) (hl : headLines l = x :: r) (hx : ok x = true) (hr : r.all fieldOK = true) : readE ok l = if 256 < r.length then 3 else 0 := by
  unfold readE
  rw [if_neg (by omega), hl]
  simp only [List.headD_cons, List.tail_cons, hx, hr]
  rfl
/-- It is read back, whatever stands behind it. -/
theorem read_back {m t : ByteArray} {fs : List (ByteArray × ByteArray)} (h : headE m t fs = 0) (r : List UInt8) : readE askOK (headT m t fs ++ r) = 0 ∧ readF (headT m t fs ++ r) = fs ∧ (headLines (headT m t fs ++ r)).headD [] = askLine m t := by
  obtain ⟨h1, h2, h3, h4, h5⟩ := headE_parts h
  obtain ⟨hl, he⟩ := head_lines h r
  obtain ⟨hf1, hf2⟩ := fields_back fs h3
  have h6 : 4 ≤ (headT m t fs).length := by
    rw [head_len, joinL_len_cons]
    omega
  refine ⟨?_, ?_, by rw [hl]; rfl⟩
  · rw [readE_of (by rw [he]; omega) hl (ask_back h1 h2).1 hf1, if_neg (by rw [List.length_map]; omega)]
  · unfold readF
    rw [hl]
    exact hf2
/-- Of fewer bytes none is. -/
theorem read_part {m t : ByteArray} {fs : List (ByteArray × ByteArray)} (h : headE m t fs = 0) (ok : List UInt8 → Bool) (k : Nat) (hk : k < (headT m t fs).length) : readE ok ((headT m t fs).take k) = 7 := by
  obtain ⟨_, _, _, _, h5⟩ := headE_parts h
  unfold readE
  rw [if_pos ?_, if_neg (by rw [List.length_take]; omega)]
  rw [headT_join]
  rw [head_len] at hk
  exact endAt_part _ (lines_ok h) k hk
end Go.Proofs.YtonlfplloenfcaaGreatDoor
namespace Go.Proofs.YtonlfplloenfcaaGreatDoor

theorem byte_eq (x : UInt8) (k : Fin 256) : (((x.toNat : Int)) == ((k.val : Nat) : Int)) = (x == UInt8.ofNat k.val) := by
  rw [Bool.eq_iff_iff, beq_iff_eq, beq_iff_eq]
  constructor
  · intro h
    have h2 : x.toNat = k.val := by omega
    rw [← h2]; simp
  · intro h
    rw [h, UInt8.toNat_ofNat']
    have := k.isLt
    omega
theorem byte_48 (x : UInt8) : (x == 48) = ((x.toNat : Int) == 48) := (byte_eq x ⟨48, by decide⟩).symm
theorem byte_49 (x : UInt8) : (x == 49) = ((x.toNat : Int) == 49) := (byte_eq x ⟨49, by decide⟩).symm
theorem byte_32 (x : UInt8) : (x == 32) = ((x.toNat : Int) == 32) := (byte_eq x ⟨32, by decide⟩).symm
theorem getD_byte (s : ByteArray) (k : Nat) (h : k < s.size) : s.data.toList.getD k 0 = s[k] := by
  unfold List.getD
  rw [List.getElem?_eq_getElem (by simpa using h)]
  rfl
theorem prefix_take (l p : List UInt8) : Lib.hasPrefix l p = (l.take p.length == p) := by
  unfold Lib.hasPrefix
  rw [Bool.eq_iff_iff, List.isPrefixOf_iff_prefix, beq_iff_eq]
  exact ⟨fun h => (List.prefix_iff_eq_take.1 h).symm, fun h => List.prefix_iff_eq_take.2 h.symm⟩
theorem status_short {l : List UInt8} (h : l.length < 12) : statusOK l = false := by
  unfold statusOK
  rw [decide_eq_false (show ¬ 12 ≤ l.length by omega)]
  simp
theorem status_long {l : List UInt8} (h : 12 ≤ l.length) : statusOK l = ((l.take 7 == httpB) && ((l.getD 7 0 == 48 || l.getD 7 0 == 49) && (l.getD 8 0 == 32 && (l.getD 9 0 != 48 &&
    ((digB (l.getD 9 0) && (digB (l.getD 10 0) && digB (l.getD 11 0))) && ((decide (l.length = 12) || l.getD 12 0 == 32) && plainB l)))))) := by
  unfold statusOK
  rw [prefix_take, decide_eq_true h]
  have e : httpB.length = 7 := rfl
  rw [e]
  generalize (l.take 7 == httpB) = a
  generalize (l.getD 7 0 == 48 || l.getD 7 0 == 49) = b
  generalize (l.getD 8 0 == 32) = c
  generalize digB (l.getD 9 0) = d1
  generalize digB (l.getD 10 0) = d2
  generalize digB (l.getD 11 0) = d3
  generalize (l.getD 9 0 != 48) = f
  generalize ((decide (l.length = 12) || l.getD 12 0 == 32) && plainB l) = g
  cases a <;> cases b <;> cases c <;> cases d1 <;> cases d2 <;> cases d3 <;> cases f <;> cases g <;> rfl
theorem statusV_no {l : List UInt8} (h : statusOK l = false) : statusV l = 0 := by
  unfold statusV
  rw [if_neg (by rw [h]; decide)]
/-- The number of the digits from a place on. -/
def numF (l : List UInt8) (j : Nat) : Nat := ((l.drop 9).take j).foldl (fun n x => 10 * n + (x.toNat - 48)) 0
theorem numF_succ {l : List UInt8} {j : Nat} {x : UInt8} (h : l[9 + j]? = some x) : numF l (j + 1) = 10 * numF l j + (x.toNat - 48) := by
  unfold numF
  rw [List.take_add_one, List.getElem?_drop, h, List.foldl_append]
  rfl
theorem numF_le {l : List UInt8} : ∀ (j : Nat), (∀ k, k < j → ∃ x, l[9 + k]? = some x ∧ digB x = true) → numF l j < 10 ^ j
  | 0, _ => by simp [numF]
  | j + 1, h => by
    obtain ⟨x, hx, hd⟩ := h j (by omega)
    have ih := numF_le j (fun k hk => h k (by omega))
    rw [numF_succ hx, Nat.pow_succ]
    unfold digB at hd
    simp only [Bool.and_eq_true, decide_eq_true_eq, UInt8.le_iff_toNat_le] at hd
    have h57 : (57 : UInt8).toNat = 57 := rfl
    omega
theorem statusV_yes {l : List UInt8} (h : statusOK l = true) (hl : 12 ≤ l.length) : statusV l = numF l 3 := by
  unfold statusV
  rw [if_pos h]
  have g : ∀ k, k < l.length → l[k]? = some (l.getD k 0) := fun k hk => by
    unfold List.getD
    rw [List.getElem?_eq_getElem hk]
    rfl
  have e0 : numF l 0 = 0 := by simp [numF]
  have e1 := numF_succ (l := l) (j := 0) (g 9 (by omega))
  have e2 := numF_succ (l := l) (j := 1) (g 10 (by omega))
  have e3 := numF_succ (l := l) (j := 2) (g 11 (by omega))
  rw [e0] at e1
  rw [e3, e2, e1]
  omega
end Go.Proofs.YtonlfplloenfcaaGreatDoor
namespace Go.Proofs.YtonlfplloenfcaaGreatDoor
open Go.RowKit

def digI (c : UInt8) : Bool := decide (48 ≤ (c.toNat : Int) ∧ (c.toNat : Int) ≤ 57)
def blankI (c : UInt8) : Bool := decide ((c.toNat : Int) = 32 ∨ (c.toNat : Int) = 9)
def tokI (c : UInt8) : Bool := decide ((48 ≤ (c.toNat : Int) ∧ (c.toNat : Int) ≤ 57) ∨ (97 ≤ (c.toNat : Int) ∧ (c.toNat : Int) ≤ 122) ∨ (65 ≤ (c.toNat : Int) ∧ (c.toNat : Int) ≤ 90) ∨
  (c.toNat : Int) = 33 ∨ (c.toNat : Int) = 35 ∨ (c.toNat : Int) = 36 ∨ (c.toNat : Int) = 37 ∨ (c.toNat : Int) = 38 ∨ (c.toNat : Int) = 39 ∨ (c.toNat : Int) = 42 ∨ (c.toNat : Int) = 43 ∨ (c.toNat : Int) = 45 ∨ (c.toNat : Int) = 46 ∨
  (c.toNat : Int) = 94 ∨ (c.toNat : Int) = 95 ∨ (c.toNat : Int) = 96 ∨ (c.toNat : Int) = 124 ∨ (c.toNat : Int) = 126)
theorem digI_eq (x : UInt8) : digI x = digB x := by
  have h := all_bytes (p := fun x => digI x == digB x) (by decide +kernel) x
  simpa using h
theorem blankI_eq (x : UInt8) : blankI x = blankB x := by
  have h := all_bytes (p := fun x => blankI x == blankB x) (by decide +kernel) x
  simpa using h
theorem tokI_eq (x : UInt8) : tokI x = signOK x := by
  have h := all_bytes (p := fun x => tokI x == signOK x) (by decide +kernel) x
  simpa using h
theorem dig_int (c : UInt8) (w : World) : Calls Tryz.prog 184 #[.int .u8 (c.toNat : Int)] w fun e w' => e = .returned (.bool (digI c)) ∧ w = w' := by
  go_enter Tryz.func184, Tryz.ntmps184
  go_wp2
  all_goals go_ret
  all_goals refine ⟨ret_bool ?_, rfl⟩
  all_goals unfold digI
  · simp [*]
  · exact (decide_eq_false (by omega)).symm
theorem dig_any (c : UInt8) (w : World) : Calls Tryz.prog 184 #[.int .u8 (c.toNat : Int)] w fun e w' => e = .returned (.bool (digB c)) ∧ w = w' := by
  rw [← digI_eq]; exact dig_int c w
theorem blank_any (c : UInt8) (w : World) : Calls Tryz.prog 151 #[.int .u8 (c.toNat : Int)] w fun e w' => e = .returned (.bool (blankB c)) ∧ w = w' := by
  rw [← blankI_eq]
  go_enter Tryz.func151, Tryz.ntmps151
  go_wp2
  all_goals go_ret
  all_goals refine ⟨ret_bool ?_, rfl⟩
  all_goals unfold blankI
  · simp [*]
  · rw [Bool.eq_iff_iff]; simp
theorem sign_any (c : UInt8) (w : World) : Calls Tryz.prog 150 #[.int .u8 (c.toNat : Int)] w fun e w' => e = .returned (.bool (signOK c)) ∧ w = w' := by
  rw [← tokI_eq]
  go_enter Tryz.func150, Tryz.ntmps150
  go_wp2_with (go_at_call 184; refine (dig_int _ _).mono ?_; rintro e w' ⟨rfl, rfl⟩)
  all_goals go_ret
  all_goals refine ⟨ret_bool ?_, rfl⟩
  all_goals simp only [digI, beq_iff_eq, beq_eq_false_iff_ne, ne_eq, decide_eq_true_eq] at *
  all_goals unfold tokI
  all_goals first | exact (decide_eq_true (by omega)).symm | exact (decide_eq_false (by omega)).symm
set_option maxRecDepth 100000 in
theorem rtoken_any (s : ByteArray) (w : World) (hs : s.size ≤ 140737488355328) :
   Calls Tryz.prog 75 #[.string s] w fun e w' => e = .returned (.bool (tokenB s.data.toList)) ∧ w = w' := by
  go_enter Tryz.func75, Tryz.ntmps75
  go_wp2_with fail
  go_loop [3] (fun i => ∃ k : Nat, k ≤ s.size ∧ i = .int .i64 k ∧ Hid ((s.data.toList.take k).all signOK = true)) (fun i => s.size - (intOf i).toNat)
  case atStart => exact ⟨0, Nat.zero_le _, rfl, by simp [Hid]⟩
  case round =>
    obtain ⟨k, hk, rfl, hp⟩ := hrel
    by_cases hlt : k < s.size
    · have good : signOK s[k] = true → Hid ((s.data.toList.take (k + 1)).all signOK = true) := fun h => all_step hlt hp.out h
      have badc : signOK s[k] = false → tokenB s.data.toList = false := fun h => by unfold tokenB; rw [all_fail hlt h]; rfl
      have HG := Lib.hid good
      have HB := Lib.hid badc
      clear good badc
      cases hsg : signOK s[k]
      · have hv := HB.out hsg
        have HV := Lib.hid hv
        have HS := Lib.hid hsg
        clear hv hsg
        go_wp2_with fail
        refine (sign_any _ _).mono ?_
        rintro e w' ⟨rfl, rfl⟩
        rw [HS.out]
        go_wp2_with fail
        go_ret
        exact ⟨ret_bool (by rw [HV.out]), rfl⟩
      · have hv := HG.out hsg
        have HV := Lib.hid hv
        have HS := Lib.hid hsg
        clear hv hsg
        go_wp2_with fail
        refine (sign_any _ _).mono ?_
        rintro e w' ⟨rfl, rfl⟩
        rw [HS.out]
        go_wp2_with fail
        go_round
        case rel => exact ⟨k + 1, by omega, by go_num, HV.out⟩
        case measure => simp [intOf]; omega
    · obtain rfl : k = s.size := by omega
      have h : s.data.toList.all signOK = true := by
        have h := hp.out
        rwa [List.take_of_length_le (by simp)] at h
      have hf : tokenB s.data.toList = (!s.data.toList.isEmpty) := by unfold tokenB; rw [h]; rfl
      have he : s.data.toList.isEmpty = decide (s.size = 0) := by
        rw [Bool.eq_iff_iff, List.isEmpty_iff, decide_eq_true_iff, ← List.length_eq_zero_iff]
        exact Iff.rfl
      have HF := Lib.hid hf
      have HE := Lib.hid he
      clear hf h he
      go_wp2_with fail
      go_ret
      refine ⟨ret_bool ?_, rfl⟩
      rw [HF.out, HE.out, Bool.eq_iff_iff, Bool.not_eq_true', decide_eq_true_iff, decide_eq_false_iff_not]
      omega
end Go.Proofs.YtonlfplloenfcaaGreatDoor
namespace Go.Proofs.YtonlfplloenfcaaGreatDoor
open Go.RowKit

set_option maxRecDepth 100000 in
theorem bcontrol_any (s : ByteArray) (w : World) (hs : s.size ≤ 140737488355328) :
   Calls Tryz.prog 176 #[.string s] w fun e w' => e = .returned (.bool (!plainB s.data.toList)) ∧ ∃ q, w' = w.drewN q := by
  go_enter Tryz.func176, Tryz.ntmps176
  go_wp2_with fail
  go_loopw [6] (fun i wr => ∃ k : Nat, k ≤ s.size ∧ i = .int .i64 k ∧ Hid (plainB (s.data.toList.take k) = true) ∧ ∃ q, wr = w.drewN q) (fun i _ => s.size - (intOf i).toNat)
  case atStart => exact ⟨0, Nat.zero_le _, rfl, by simp [Hid, plainB], 0, rfl⟩
  case round =>
    obtain ⟨k, hk, rfl, hp, q, rfl⟩ := hrel
    by_cases hlt : k < s.size
    · have hx := ctrl_iff s[k]
      have good : ctrlOK s[k] = true → Hid (plainB (s.data.toList.take (k + 1)) = true) := fun h => all_step hlt hp.out h
      have badc : ctrlOK s[k] = false → plainB s.data.toList = false := fun h => all_fail hlt h
      have HX := Lib.hid hx
      have HG := Lib.hid good
      have HB := Lib.hid badc
      clear hx good badc
      by_cases h3 : (s[k].toNat : Int) = 127
      · have b0 : ¬ (s[k].toNat : Int) < 32 := by omega
        have b1 : decide ((s[k].toNat : Int) < 32) = false := decide_eq_false b0
        have b2 : ((s[k].toNat : Int) == 127) = true := by simp [h3]
        have hv := HB.out (by rw [HX.out, b2]; simp)
        have HV := Lib.hid hv
        clear hv h3
        go_wp2
        go_ret
        exact ⟨by rw [HV.out]; rfl, _, rfl⟩
      · have b2 : ((s[k].toNat : Int) == 127) = false := by simp [h3]
        by_cases h1 : (s[k].toNat : Int) < 32
        · have b4 : decide ((s[k].toNat : Int) < 32) = true := decide_eq_true h1
          by_cases h2 : (s[k].toNat : Int) = 9
          · have b1 : ((s[k].toNat : Int) != 9) = false := by simp [h2]
            have hv := HG.out (by rw [HX.out, b1, b2]; simp)
            have HV := Lib.hid hv
            clear hv h2 h3
            go_wp2
            go_roundw
            case rel => exact ⟨k + 1, by omega, by go_num, HV.out, _, rfl⟩
            case measure => simp [intOf]; omega
          · have b1 : ((s[k].toNat : Int) != 9) = true := by simp [h2]
            have hv := HB.out (by rw [HX.out, b1, b2, b4]; simp)
            have HV := Lib.hid hv
            clear hv h2 h3
            go_wp2
            go_ret
            exact ⟨by rw [HV.out]; rfl, _, rfl⟩
        · have b1 : decide ((s[k].toNat : Int) < 32) = false := decide_eq_false h1
          have hv := HG.out (by rw [HX.out, b1, b2]; simp)
          have HV := Lib.hid hv
          clear hv h3
          go_wp2
          go_roundw
          case rel => exact ⟨k + 1, by omega, by go_num, HV.out, _, rfl⟩
          case measure => simp [intOf]; omega
    · obtain rfl : k = s.size := by omega
      have hf : plainB s.data.toList = true := by
        have h := hp.out
        rwa [List.take_of_length_le (by simp)] at h
      have HF := Lib.hid hf
      clear hf
      go_wp2
      go_ret
      exact ⟨by rw [HF.out]; rfl, _, rfl⟩
end Go.Proofs.YtonlfplloenfcaaGreatDoor
