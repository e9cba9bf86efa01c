/-
  What the reading of a head answers at the texts that the outright statements make, in plain words: no program stands here.
  A response's first line, as the program asks it, in plain words: no program stands here.
  footmanref01.Trim.
-/
import Derived.Test.YtonlfplloenfcaaGreatDoorBackSpecEtc
import Derived.Lib.AtoiTie
import Derived.Lib.IndexBytes
namespace Go.Proofs.YtonlfplloenfcaaGreatDoor

/-- What stands behind a head that ends makes no difference. -/
theorem more_same (b r : List UInt8) (h : 0 ≤ endAt b) : endAt (b ++ r) = endAt b ∧ headLines (b ++ r) = headLines b := by
  obtain ⟨k, hk, h1, h2, hf, hn⟩ := endAt_spec b h
  have key : ∀ j, j ≤ k → (fourAt ((b ++ r).take 65536) j ↔ fourAt b j) := by
    intro j hj
    unfold fourAt
    rw [List.getElem?_take, List.getElem?_take, List.getElem?_take, List.getElem?_take, if_pos (by omega), if_pos (by omega), if_pos (by omega), if_pos (by omega),
      List.getElem?_append_left (by omega), List.getElem?_append_left (by omega), List.getElem?_append_left (by omega), List.getElem?_append_left (by omega)]
  have he : endAt (b ++ r) = k := by
    unfold endAt
    exact four_first ((key k (Nat.le_refl _)).2 hf) fun j hj hc => hn j hj ((key j (by omega)).1 hc)
  refine ⟨by rw [he, hk], ?_⟩
  unfold headLines
  rw [he, hk, Int.toNat_natCast, List.take_append_of_le_length (by omega)]
theorem readE_pos {ok : List UInt8 → Bool} {l : List UInt8} (h : 0 ≤ endAt l) : readE ok l = if !(ok ((headLines l).headD [])) || !((headLines l).tail.all fieldOK) then 8 else if 256 < (headLines l).tail.length then 3 else 0 := by
  unfold readE
  rw [if_neg (by omega)]
theorem more_read {ok : List UInt8 → Bool} {b : List UInt8} (r : List UInt8) (h : 0 ≤ endAt b) : readE ok (b ++ r) = readE ok b ∧ readF (b ++ r) = readF b ∧ (headLines (b ++ r)).headD [] = (headLines b).headD [] := by
  obtain ⟨h1, h2⟩ := more_same b r h
  rw [readE_pos h, readE_pos (by rw [h1]; exact h)]
  unfold readF
  rw [h2]
  exact ⟨rfl, rfl, rfl⟩
theorem readE_cases (ok : List UInt8 → Bool) (l : List UInt8) : readE ok l = 0 ∨ readE ok l = 3 ∨ readE ok l = 7 ∨ readE ok l = 8 := by
  unfold readE
  split
  · split
    · exact .inr (.inl rfl)
    · exact .inr (.inr (.inl rfl))
  · split
    · exact .inr (.inr (.inr rfl))
    · split
      · exact .inr (.inl rfl)
      · exact .inl rfl
theorem end_of_read {ok : List UInt8 → Bool} {l : List UInt8} (h : readE ok l ≠ 7) (hl : l.length < 65536) : 0 ≤ endAt l := by
  rcases Int.lt_or_le (endAt l) 0 with h1 | h1
  · exact absurd (by unfold readE; rw [if_pos h1, if_neg (by omega)]) h
  · exact h1
theorem end_le (l : List UInt8) (h : 0 ≤ endAt l) : endAt l + 4 ≤ l.length := by
  obtain ⟨k, hk, h1, h2, hf, hn⟩ := endAt_spec l h
  omega
/-- A text without the byte 10 has no end. -/
theorem end_none {l : List UInt8} (h : ∀ x ∈ l, x ≠ 10) : endAt l < 0 := by
  have h0 : Lib.index (l.take 65536) headEnd = -1 := four_none fun j hj hc => h 10 (List.mem_of_mem_take (List.mem_of_getElem? hc.2.1)) rfl
  unfold endAt
  rw [h0]
  decide
theorem read_none_end {ok : List UInt8 → Bool} {l : List UInt8} (h : ∀ x ∈ l, x ≠ 10) : readE ok l = if 65536 ≤ l.length then 3 else 7 := by
  unfold readE
  rw [if_pos (end_none h)]

/-- What lines answer. -/
theorem read_bad_first {ok : List UInt8 → Bool} {l x : List UInt8} {r : List (List UInt8)} (h : 0 ≤ endAt l) (hl : headLines l = x :: r) (hx : ok x = false) : readE ok l = 8 := by
  rw [readE_pos h, hl]
  simp only [List.headD_cons, hx]
  rfl
theorem read_bad_field {ok : List UInt8 → Bool} {l x : List UInt8} {r : List (List UInt8)} (h : 0 ≤ endAt l) (hl : headLines l = x :: r) (hx : r.all fieldOK = false) : readE ok l = 8 := by
  rw [readE_pos h, hl]
  simp only [List.tail_cons, hx]
  simp
theorem join_pos (x : List UInt8) (ls : List (List UInt8)) (h : ∀ y ∈ x :: ls, lineOK y) (hl : (joinL (x :: ls)).length + 2 ≤ 65536) (r : List UInt8) : 0 ≤ endAt (joinL (x :: ls) ++ ([13, 10] ++ r)) := by
  rw [endAt_join _ (by simp) h hl r, joinL_len_cons]
  omega

/-- A response's first line. -/
def ansLine (v : UInt8) (k : Nat) (words : List UInt8) : List UInt8 := httpB ++ (v :: 32 :: UInt8.ofNat (48 + k / 100) :: UInt8.ofNat (48 + k / 10 % 10) :: UInt8.ofNat (48 + k % 10) :: words)
theorem dig_of (d : Nat) (h : d < 10) : digB (UInt8.ofNat (48 + d)) = true ∧ (UInt8.ofNat (48 + d)).toNat = 48 + d := by
  have e : (UInt8.ofNat (48 + d)).toNat = 48 + d := by
    rw [UInt8.toNat_ofNat']; omega
  refine ⟨?_, e⟩
  unfold digB
  simp only [Bool.and_eq_true, decide_eq_true_eq, UInt8.le_iff_toNat_le, e]
  exact ⟨by show 48 ≤ _; omega, by show _ ≤ 57; omega⟩
theorem dig_ctrl (x : UInt8) (h : digB x = true) : ctrlOK x = true := by
  have h1 := all_bytes (p := fun x => !digB x || ctrlOK x) (by decide +kernel) x
  simpa [h] using h1
theorem plain_13 {l : List UInt8} (h : plainB l = true) : ∀ y ∈ l, y ≠ 13 := fun y hy => (ctrl_facts y (List.all_eq_true.1 h y hy)).1
theorem ans_plain (v : UInt8) (k : Nat) (words : List UInt8) (hv : v = 48 ∨ v = 49) (hk : k < 1000) (hw : plainB words = true) : plainB (ansLine v k words) = true := by
  have d1 := dig_ctrl _ (dig_of (k / 100) (by omega)).1
  have d2 := dig_ctrl _ (dig_of (k / 10 % 10) (by omega)).1
  have d3 := dig_ctrl _ (dig_of (k % 10) (by omega)).1
  unfold plainB at hw ⊢
  unfold ansLine
  rw [List.all_append, List.all_cons, List.all_cons, List.all_cons, List.all_cons, List.all_cons, d1, d2, d3, hw]
  rcases hv with rfl | rfl <;> decide
theorem ans_line (v : UInt8) (k : Nat) (words : List UInt8) (hv : v = 48 ∨ v = 49) (hk : k < 1000) (hw : plainB words = true) : lineOK (ansLine v k words) :=
  ⟨by unfold ansLine httpB; simp, fun j => eol_of_13 (plain_13 (ans_plain v k words hv hk hw)) j⟩
theorem ans_ok (v : UInt8) (k : Nat) (words : List UInt8) (hv : v = 48 ∨ v = 49) (hk1 : 100 ≤ k) (hk : k < 1000) (hw : plainB words = true) (hw2 : words = [] ∨ ∃ r, words = 32 :: r) :
    statusOK (ansLine v k words) = true ∧ statusV (ansLine v k words) = k := by
  have hp := ans_plain v k words hv hk hw
  obtain ⟨d1, e1⟩ := dig_of (k / 100) (by omega)
  obtain ⟨d2, e2⟩ := dig_of (k / 10 % 10) (by omega)
  obtain ⟨d3, e3⟩ := dig_of (k % 10) (by omega)
  have hl : (ansLine v k words).length = 12 + words.length := by unfold ansLine httpB; simp; omega
  have g7 : (ansLine v k words).getD 7 0 = v := rfl
  have g8 : (ansLine v k words).getD 8 0 = 32 := rfl
  have g9 : (ansLine v k words).getD 9 0 = UInt8.ofNat (48 + k / 100) := rfl
  have g10 : (ansLine v k words).getD 10 0 = UInt8.ofNat (48 + k / 10 % 10) := rfl
  have g11 : (ansLine v k words).getD 11 0 = UInt8.ofNat (48 + k % 10) := rfl
  have g12 : (ansLine v k words).getD 12 0 = words.getD 0 0 := rfl
  have hpre : Lib.hasPrefix (ansLine v k words) httpB = true := by
    unfold Lib.hasPrefix
    rw [List.isPrefixOf_iff_prefix]
    exact List.prefix_append _ _
  have hne : (UInt8.ofNat (48 + k / 100) != 48) = true := by
    rw [bne_iff_ne]
    intro h
    have := congrArg UInt8.toNat h
    rw [e1] at this
    have h48 : (48 : UInt8).toNat = 48 := rfl
    omega
  have hv2 : (v == 48 || v == 49) = true := by rcases hv with rfl | rfl <;> rfl
  have hw3 : (decide ((ansLine v k words).length = 12) || words.getD 0 0 == 32) = true := by
    rcases hw2 with rfl | ⟨r, rfl⟩
    · rw [hl]; rfl
    · simp
  have hok : statusOK (ansLine v k words) = true := by
    unfold statusOK
    rw [hpre, g7, g8, g9, g10, g11, g12, d1, d2, d3, hp, hne, hv2, hw3, decide_eq_true (by omega)]
    rfl
  refine ⟨hok, ?_⟩
  unfold statusV
  rw [if_pos hok, g9, g10, g11, e1, e2, e3]
  omega
/-- A field's line with blanks around its value. -/
def padLine (p q : List UInt8) (f : ByteArray × ByteArray) : List UInt8 := f.1.data.toList ++ (58 :: (p ++ (f.2.data.toList ++ q)))
theorem dropWhile_all {α : Type} (p : α → Bool) : ∀ (a r : List α), (∀ x ∈ a, p x = true) → (a ++ r).dropWhile p = r.dropWhile p
  | [], _, _ => rfl
  | x :: a, r, h => by
    rw [List.cons_append, List.dropWhile_cons_of_pos (h x List.mem_cons_self)]
    exact dropWhile_all p a r fun y hy => h y (List.mem_cons_of_mem _ hy)
theorem trimmed_pad (p v q : List UInt8) (hp : ∀ x ∈ p, blankB x = true) (hq : ∀ x ∈ q, blankB x = true) : trimmed (p ++ (v ++ q)) = trimmed v := by
  have e : trimmed (p ++ (v ++ q)) = trimmed (v ++ q) := by rw [trimmed_eq, trimmed_eq, dropWhile_all _ _ _ hp]
  rw [e]
  unfold trimmed Lib.trimS Lib.trimRightS
  rw [show (fun x : UInt8 => ([32, 9] : List UInt8).contains x) = blankB from blank_eq, List.reverse_append, dropWhile_all _ _ _ (fun x hx => hq x (List.mem_reverse.1 hx))]
theorem blank_ctrl (x : UInt8) (h : blankB x = true) : ctrlOK x = true := by
  have h1 := all_bytes (p := fun x => !blankB x || ctrlOK x) (by decide +kernel) x
  simpa [h] using h1
theorem pad_plain (p v q : List UInt8) (hp : ∀ x ∈ p, blankB x = true) (hq : ∀ x ∈ q, blankB x = true) (hv : plainB v = true) : plainB (p ++ (v ++ q)) = true := by
  unfold plainB at hv ⊢
  rw [List.all_append, List.all_append, hv, List.all_eq_true.2 fun x hx => blank_ctrl x (hp x hx), List.all_eq_true.2 fun x hx => blank_ctrl x (hq x hx)]
  rfl
theorem pad_back {f : ByteArray × ByteArray} (p q : List UInt8) (hp : ∀ x ∈ p, blankB x = true) (hq : ∀ x ∈ q, blankB x = true) (h : oddF f = false) : fieldOK (padLine p q f) = true ∧ fieldOf (padLine p q f) = f ∧ lineOK (padLine p q f) := by
  obtain ⟨h1, h2, h3⟩ := odd_parts h
  obtain ⟨h4, _⟩ := token_all h1
  have hpl := pad_plain p f.2.data.toList q hp hq h2
  have hc : colonAt (padLine p q f) = (f.1.data.toList.length : Int) := colon_of _ _ fun x hx => (sign_facts x (h4 x hx)).2.1
  have e1 : (padLine p q f).take f.1.data.toList.length = f.1.data.toList := by unfold padLine; exact List.take_left
  have e2 : (padLine p q f).drop (f.1.data.toList.length + 1) = p ++ (f.2.data.toList ++ q) := by
    unfold padLine
    rw [List.drop_append]; simp
  refine ⟨?_, ?_, by unfold padLine; simp, fun j => eol_of_13 (fun y hy => ?_) j⟩
  · unfold fieldOK
    rw [hc, Int.toNat_natCast, e1, e2, h1, decide_eq_true (by omega), hpl]
    rfl
  · unfold fieldOf
    rw [hc, Int.toNat_natCast, e1, e2, trimmed_pad _ _ _ hp hq, h3]
  · unfold padLine at hy
    rw [List.mem_append, List.mem_cons] at hy
    rcases hy with hy | rfl | hy
    · exact (sign_facts y (h4 y hy)).1
    · decide
    · exact plain_13 hpl y hy
/-- A response with such lines is read as it. -/
theorem answer_read (v : UInt8) (k : Nat) (words p q : List UInt8) (fs : List (ByteArray × ByteArray)) (hv : v = 48 ∨ v = 49) (hk1 : 100 ≤ k) (hk : k < 1000) (hw : plainB words = true) (hw2 : words = [] ∨ ∃ r, words = 32 :: r)
    (hp : ∀ x ∈ p, blankB x = true) (hq : ∀ x ∈ q, blankB x = true) (hf : ∀ f ∈ fs, oddF f = false) (hn : fs.length ≤ 256) (r : List UInt8)
    (hl : (joinL (ansLine v k words :: fs.map (padLine p q))).length + 2 ≤ 65536) :
    readE statusOK (joinL (ansLine v k words :: fs.map (padLine p q)) ++ ([13, 10] ++ r)) = 0 ∧
    endAt (joinL (ansLine v k words :: fs.map (padLine p q)) ++ ([13, 10] ++ r)) + 4 = ((joinL (ansLine v k words :: fs.map (padLine p q))).length : Int) + 2 ∧
    (headLines (joinL (ansLine v k words :: fs.map (padLine p q)) ++ ([13, 10] ++ r))).headD [] = ansLine v k words ∧
    readF (joinL (ansLine v k words :: fs.map (padLine p q)) ++ ([13, 10] ++ r)) = fs := by
  have hall : ∀ y ∈ ansLine v k words :: fs.map (padLine p q), lineOK y := by
    intro y hy
    rcases List.mem_cons.1 hy with rfl | hy
    · exact ans_line v k words hv hk hw
    · obtain ⟨f, hfm, rfl⟩ := List.mem_map.1 hy
      exact (pad_back p q hp hq (hf f hfm)).2.2
  have hL := headLines_join _ (by simp) hall hl r
  have hpos := join_pos _ _ hall hl r
  have hF : (fs.map (padLine p q)).all fieldOK = true := by
    rw [List.all_eq_true]
    intro x hx
    obtain ⟨f, hfm, rfl⟩ := List.mem_map.1 hx
    exact (pad_back p q hp hq (hf f hfm)).1
  refine ⟨?_, ?_, by rw [hL]; rfl, ?_⟩
  · rw [readE_of hpos hL (ans_ok v k words hv hk1 hk hw hw2).1 hF, if_neg (by rw [List.length_map]; omega)]
  · rw [endAt_join _ (by simp) hall hl r]
    omega
  · unfold readF
    rw [hL, List.tail_cons, List.map_map]
    conv => rhs; rw [← List.map_id fs]
    exact List.map_congr_left fun f hfm => (pad_back p q hp hq (hf f hfm)).2.1

/-- A control byte, alone among bytes that end no line. -/
theorem one_odd (a b : List UInt8) (c : UInt8) (ha : ∀ x ∈ a, x ≠ 13 ∧ x ≠ 10) (hb : ∀ x ∈ b, x ≠ 13 ∧ x ≠ 10) : lineOK (a ++ (c :: b)) := by
  refine ⟨by simp, fun j hj => ?_⟩
  obtain ⟨h1, h2⟩ := hj
  rcases Nat.lt_or_ge (j + 1) a.length with h3 | h3
  · rw [List.getElem?_append_left h3] at h2
    exact (ha _ (List.mem_of_getElem? h2)).2 rfl
  · rcases Nat.lt_or_ge j a.length with h4 | h4
    · rw [List.getElem?_append_left h4] at h1
      exact (ha _ (List.mem_of_getElem? h1)).1 rfl
    · obtain ⟨i, rfl⟩ : ∃ i, j = a.length + i := ⟨j - a.length, by omega⟩
      rw [Nat.add_assoc, behind] at h2
      simp at h2
      exact (hb _ (List.mem_of_getElem? h2)).2 rfl
theorem text_ok (x : UInt8) (h1 : 32 ≤ x.toNat) : x ≠ 13 ∧ x ≠ 10 :=
  ⟨fun h => by rw [h] at h1; exact absurd h1 (by decide), fun h => by rw [h] at h1; exact absurd h1 (by decide)⟩
theorem odd_byte (c : UInt8) (h : c.toNat < 32 ∧ c ≠ 9 ∨ c = 127) : ctrlOK c = false ∧ signOK c = false ∧ c ≠ 58 := by
  have h1 := all_bytes (p := fun c => !(c < 32 && c != 9 || c == 127) || (!ctrlOK c && (!signOK c && c != 58))) (by decide +kernel) c
  have h2 : (decide (c < 32) && c != 9 || c == 127) = true := by
    rcases h with ⟨h3, h4⟩ | h3
    · have : c < 32 := UInt8.lt_iff_toNat_lt.2 h3
      simp [this, h4]
    · simp [h3]
  rw [h2] at h1
  simp at h1
  exact ⟨h1.1, h1.2.1, h1.2.2⟩
theorem plain_odd (a b : List UInt8) (c : UInt8) (h : ctrlOK c = false) : plainB (a ++ (c :: b)) = false := by
  unfold plainB
  rw [List.all_append, List.all_cons, h]
  simp
theorem status_plain {l : List UInt8} (h : plainB l = false) : statusOK l = false := by
  unfold statusOK
  rw [h]
  simp
def okB : List UInt8 := [72, 84, 84, 80, 47, 49, 46, 49, 32, 50, 48, 48]
theorem ok_line : lineOK okB := ⟨by decide, fun j => eol_of_13 (by decide) j⟩
/-- The three heads that may not be. -/
theorem bad_first (s t : List UInt8) (c : UInt8) (hs : ∀ x ∈ s, 32 ≤ x.toNat) (ht : ∀ x ∈ t, 32 ≤ x.toNat) (hc : c.toNat < 32 ∧ c ≠ 9 ∨ c = 127) (hl : s.length + t.length ≤ 60000) : readE statusOK ((okB ++ [32]) ++ s ++ [c] ++ t ++ [13, 10, 13, 10]) = 8 := by
  have e : (okB ++ [32]) ++ s ++ [c] ++ t ++ [13, 10, 13, 10] = joinL [((okB ++ [32]) ++ s) ++ (c :: t)] ++ ([13, 10] ++ []) := by simp [joinL]
  have hline : lineOK (((okB ++ [32]) ++ s) ++ (c :: t)) := by
    refine one_odd _ _ _ (fun x hx => ?_) (fun x hx => text_ok x (ht x hx))
    rcases List.mem_append.1 hx with h | h
    · exact (show ∀ x ∈ okB ++ [32], x ≠ 13 ∧ x ≠ 10 by decide) x h
    · exact text_ok x (hs x h)
  have hall : ∀ y ∈ [((okB ++ [32]) ++ s) ++ (c :: t)], lineOK y := by intro y hy; rw [List.mem_singleton.1 hy]; exact hline
  have hlen : (joinL [((okB ++ [32]) ++ s) ++ (c :: t)]).length + 2 ≤ 65536 := by simp [joinL, okB]; omega
  rw [e]
  exact read_bad_first (join_pos _ _ hall hlen _) (headLines_join _ (by simp) hall hlen _) (status_plain (plain_odd _ _ _ (odd_byte c hc).1))
theorem bad_value (s t : List UInt8) (c : UInt8) (hs : ∀ x ∈ s, 32 ≤ x.toNat) (ht : ∀ x ∈ t, 32 ≤ x.toNat) (hc : c.toNat < 32 ∧ c ≠ 9 ∨ c = 127) (hl : s.length + t.length ≤ 60000) : readE statusOK ((okB ++ [13, 10, 65, 58, 32]) ++ s ++ [c] ++ t ++ [33, 13, 10, 13, 10]) = 8 := by
  have e : (okB ++ [13, 10, 65, 58, 32]) ++ s ++ [c] ++ t ++ [33, 13, 10, 13, 10] = joinL [okB, ([65, 58, 32] ++ s) ++ (c :: (t ++ [33]))] ++ ([13, 10] ++ []) := by simp [joinL]
  have hline : lineOK (([65, 58, 32] ++ s) ++ (c :: (t ++ [33]))) := by
    refine one_odd _ _ _ (fun x hx => ?_) (fun x hx => ?_)
    · rcases List.mem_append.1 hx with h | h
      · exact (show ∀ x ∈ ([65, 58, 32] : List UInt8), x ≠ 13 ∧ x ≠ 10 by decide) x h
      · exact text_ok x (hs x h)
    · rcases List.mem_append.1 hx with h | h
      · exact text_ok x (ht x h)
      · rw [List.mem_singleton.1 h]; decide
  have hall : ∀ y ∈ [okB, ([65, 58, 32] ++ s) ++ (c :: (t ++ [33]))], lineOK y := by
    intro y hy
    rcases List.mem_cons.1 hy with rfl | hy
    · exact ok_line
    · rw [List.mem_singleton.1 hy]; exact hline
  have hlen : (joinL [okB, ([65, 58, 32] ++ s) ++ (c :: (t ++ [33]))]).length + 2 ≤ 65536 := by simp [joinL, okB]; omega
  have hca : colonAt (([65, 58, 32] ++ s) ++ (c :: (t ++ [33]))) = 1 := colon_of [65] _ (by decide)
  have hf : fieldOK (([65, 58, 32] ++ s) ++ (c :: (t ++ [33]))) = false := by
    unfold fieldOK
    rw [hca]
    have e2 : (([65, 58, 32] ++ s) ++ (c :: (t ++ [33]))).drop ((1 : Int).toNat + 1) = ([32] ++ s) ++ (c :: (t ++ [33])) := rfl
    rw [e2, plain_odd _ _ _ (odd_byte c hc).1]
    simp
  rw [e]
  refine read_bad_field (join_pos _ _ hall hlen _) (headLines_join _ (by simp) hall hlen _) ?_
  rw [List.all_cons, hf]
  rfl
theorem bad_name (c : UInt8) (hc : c.toNat < 32 ∧ c ≠ 9 ∨ c = 127) : readE statusOK ((okB ++ [13, 10]) ++ [c] ++ [65, 58, 13, 10, 13, 10]) = 8 := by
  have e : (okB ++ [13, 10]) ++ [c] ++ [65, 58, 13, 10, 13, 10] = joinL [okB, [] ++ (c :: [65, 58])] ++ ([13, 10] ++ []) := by simp [joinL]
  have hline : lineOK ([] ++ (c :: [65, 58])) := one_odd _ _ _ (by simp) (by decide)
  have hall : ∀ y ∈ [okB, [] ++ (c :: [65, 58])], lineOK y := by
    intro y hy
    rcases List.mem_cons.1 hy with rfl | hy
    · exact ok_line
    · rw [List.mem_singleton.1 hy]; exact hline
  have hlen : (joinL [okB, [] ++ (c :: [65, 58])]).length + 2 ≤ 65536 := by simp [joinL, okB]
  obtain ⟨_, h2, h3⟩ := odd_byte c hc
  have hca : colonAt ([] ++ (c :: [65, 58])) = 2 := colon_of [c, 65] [] (by
    intro x hx
    rcases List.mem_cons.1 hx with rfl | hx
    · exact h3
    · rw [List.mem_singleton.1 hx]; decide)
  have hf : fieldOK ([] ++ (c :: [65, 58])) = false := by
    unfold fieldOK
    rw [hca]
    have e2 : ([] ++ (c :: [65, 58]) : List UInt8).take (2 : Int).toNat = [c, 65] := rfl
    rw [e2]
    unfold tokenB
    rw [List.all_cons, h2]
    simp
  rw [e]
  refine read_bad_field (join_pos _ _ hall hlen _) (headLines_join _ (by simp) hall hlen _) ?_
  rw [List.all_cons, hf]
  rfl
end Go.Proofs.YtonlfplloenfcaaGreatDoor
namespace Go.Proofs.YtonlfplloenfcaaGreatDoor

theorem trimS_nil (l cs : List UInt8) : (Lib.trimS l cs = []) ↔ ∀ x ∈ l, cs.contains x = true := by
  unfold Lib.trimS Lib.trimLeftS Lib.trimRightS
  rw [dropWhile_nil]
  constructor
  · intro h x hx
    by_cases h2 : l.reverse.dropWhile (fun x => cs.contains x) = []
    · exact (dropWhile_nil _ _).1 h2 x (List.mem_reverse.2 hx)
    · cases h3 : l.reverse.dropWhile (fun x => cs.contains x) with
      | nil => exact absurd h3 h2
      | cons y r =>
        have h4 : cs.contains y = true := h y (by rw [h3]; simp)
        have h5 : ¬ cs.contains y = true := by
          have := List.head?_dropWhile_not (fun x => cs.contains x) l.reverse
          rw [h3] at this
          simpa using this
        exact absurd h4 h5
  · intro h x hx
    have := (List.dropWhile_sublist _).mem (List.mem_reverse.1 hx)
    exact h x (List.mem_reverse.1 this)
def digsB : List UInt8 := [48, 49, 50, 51, 52, 53, 54, 55, 56, 57]
theorem digs_eq (x : UInt8) : digsB.contains x = digB x := by
  have h := all_bytes (p := fun x => digsB.contains x == digB x) (by decide +kernel) x
  simpa using h
theorem one_eq (x : UInt8) : ([48, 49] : List UInt8).contains x = (x == 48 || x == 49) := by
  have h := all_bytes (p := fun x => ([48, 49] : List UInt8).contains x == (x == 48 || x == 49)) (by decide +kernel) x
  simpa using h
theorem trim_one (x : UInt8) : (Lib.trimS [x] [48, 49]).isEmpty = (x == 48 || x == 49) := by
  rw [← one_eq, Bool.eq_iff_iff, List.isEmpty_iff, trimS_nil]
  simp
theorem trim_digs (l : List UInt8) : (Lib.trimS l digsB).isEmpty = l.all digB := by
  rw [Bool.eq_iff_iff, List.isEmpty_iff, trimS_nil, List.all_eq_true]
  exact ⟨fun h x hx => by rw [← digs_eq]; exact h x hx, fun h x hx => by rw [digs_eq]; exact h x hx⟩
theorem atoi_fin : ∀ a b c : Fin 10, Lib.atoi [UInt8.ofNat (48 + a.val), UInt8.ofNat (48 + b.val), UInt8.ofNat (48 + c.val)] = some ((100 * a.val + 10 * b.val + c.val : Nat) : Int) := by decide +kernel
theorem dig_form (x : UInt8) (h : digB x = true) : ∃ a : Fin 10, x = UInt8.ofNat (48 + a.val) ∧ x.toNat = 48 + a.val := by
  unfold digB at h
  simp only [Bool.and_eq_true, decide_eq_true_eq, UInt8.le_iff_toNat_le] at h
  have x48 : (48 : UInt8).toNat = 48 := rfl
  have x57 : (57 : UInt8).toNat = 57 := rfl
  refine ⟨⟨x.toNat - 48, by omega⟩, ?_, by show x.toNat = 48 + (x.toNat - 48); omega⟩
  show x = UInt8.ofNat (48 + (x.toNat - 48))
  rw [show 48 + (x.toNat - 48) = x.toNat by omega]
  simp
theorem atoi_three {a b c : UInt8} (ha : digB a = true) (hb : digB b = true) (hc : digB c = true) :
    Lib.atoi [a, b, c] = some ((100 * (a.toNat - 48) + 10 * (b.toNat - 48) + (c.toNat - 48) : Nat) : Int) := by
  obtain ⟨a', ea, na⟩ := dig_form a ha
  obtain ⟨b', eb, nb⟩ := dig_form b hb
  obtain ⟨c', ec, nc⟩ := dig_form c hc
  rw [na, nb, nc, ea, eb, ec, atoi_fin]
  congr 1
  omega
theorem atoi_all {l : List UInt8} {v : Int} (hl : l.length ≤ 18) (h : Lib.atoi l = some v) : Lib.atoiAll l = .ok v := by
  rw [Lib.atoiAll_short l hl, h]
  rfl
/-- The tests that the program makes, of a line that is long enough. -/
theorem status_asks {l : List UInt8} (h : 12 ≤ l.length) : statusOK l = (Lib.hasPrefix l httpB && ((l.getD 7 0 == 48 || l.getD 7 0 == 49) && (l.getD 8 0 == 32 && (plainB l &&
    ((digB (l.getD 9 0) && (digB (l.getD 10 0) && digB (l.getD 11 0))) && (l.getD 9 0 != 48 && (decide (l.length = 12) || l.getD 12 0 == 32))))))) := by
  rw [status_long h, prefix_take]
  have e : httpB.length = 7 := rfl
  rw [e]
  generalize (l.take 7 == httpB) = a
  generalize (l.getD 7 0 == 48 || l.getD 7 0 == 49) = b
  generalize (l.getD 8 0 == 32) = c
  generalize (digB (l.getD 9 0) && (digB (l.getD 10 0) && digB (l.getD 11 0))) = d
  generalize (l.getD 9 0 != 48) = f
  generalize (decide (l.length = 12) || l.getD 12 0 == 32) = g
  generalize plainB l = p
  cases a <;> cases b <;> cases c <;> cases d <;> cases f <;> cases g <;> cases p <;> rfl
theorem first_digit {a b c : UInt8} (ha : digB a = true) (hb : digB b = true) (hc : digB c = true) : (a != 48) = decide (100 ≤ 100 * (a.toNat - 48) + 10 * (b.toNat - 48) + (c.toNat - 48)) := by
  obtain ⟨a', ea, na⟩ := dig_form a ha
  obtain ⟨b', eb, nb⟩ := dig_form b hb
  obtain ⟨c', ec, nc⟩ := dig_form c hc
  have hb' := b'.isLt
  have hc' := c'.isLt
  rw [Bool.eq_iff_iff, bne_iff_ne, decide_eq_true_iff, na, nb, nc]
  constructor
  · intro h
    have : a'.val ≠ 0 := fun h0 => h (by rw [ea, h0]; rfl)
    omega
  · intro h e
    rw [e] at na
    have : (48 : UInt8).toNat = 48 := rfl
    omega
end Go.Proofs.YtonlfplloenfcaaGreatDoor
namespace Go.Proofs.YtonlfplloenfcaaGreatDoor
open Go.RowKit

theorem bytes_cons (t : ByteArray) (h : 0 < t.size) : t.data.toList = t[0] :: (t.extract 1 t.size).data.toList := by
  rw [Lib.extract_to_end]
  have e : t.data.toList[0]? = some t[0] := List.getElem?_eq_getElem (by simpa using h)
  cases hl : t.data.toList with
  | nil => rw [hl] at e; simp at e
  | cons x r => rw [hl] at e; simp at e; simp [e]
theorem bytes_snoc (t : ByteArray) (h : 0 < t.size) : t.data.toList = (t.extract 0 (t.size - 1)).data.toList ++ [t[t.size - 1]] := by
  have hl : t.data.toList.length = t.size := rfl
  rw [Lib.extract_data, Nat.sub_zero, List.drop_zero]
  have e : t.data.toList[t.size - 1]? = some t[t.size - 1] := List.getElem?_eq_getElem (by rw [hl]; omega)
  conv => lhs; rw [← List.take_append_drop (t.size - 1) t.data.toList]
  congr 1
  apply List.ext_getElem?
  intro j
  rw [List.getElem?_drop]
  match j with
  | 0 => simpa using e
  | j + 1 => rw [List.getElem?_eq_none (by rw [hl]; omega)]; rfl
theorem bytes_nil (t : ByteArray) (h : t.size = 0) : t.data.toList = [] := List.eq_nil_of_length_eq_zero h
theorem bytes_ext {a b : ByteArray} (h : a.data.toList = b.data.toList) : a = b := by
  obtain ⟨⟨a⟩⟩ := a
  obtain ⟨⟨b⟩⟩ := b
  simp only at h
  rw [h]
theorem bytes_mk (t : ByteArray) (l : List UInt8) (h : t.data.toList = l) : t = ⟨l.toArray⟩ := bytes_ext (by simp [h])
theorem extract_size_le (t : ByteArray) (a b : Nat) : (t.extract a b).size ≤ t.size := by
  have h := congrArg List.length (Lib.extract_data t a b)
  rw [List.length_take, List.length_drop] at h
  have e1 : (t.extract a b).data.toList.length = (t.extract a b).size := rfl
  have e2 : t.data.toList.length = t.size := rfl
  omega
theorem extract_size_one (t : ByteArray) (h : 0 < t.size) : (t.extract 1 t.size).size = t.size - 1 := by
  have h := congrArg List.length (Lib.extract_data t 1 t.size)
  rw [List.length_take, List.length_drop] at h
  have e1 : (t.extract 1 t.size).data.toList.length = (t.extract 1 t.size).size := rfl
  have e2 : t.data.toList.length = t.size := rfl
  omega
theorem extract_size_last (t : ByteArray) (h : 0 < t.size) : (t.extract 0 (t.size - 1)).size = t.size - 1 := by
  have h := congrArg List.length (Lib.extract_data t 0 (t.size - 1))
  rw [List.length_take, List.length_drop] at h
  have e1 : (t.extract 0 (t.size - 1)).data.toList.length = (t.extract 0 (t.size - 1)).size := rfl
  have e2 : t.data.toList.length = t.size := rfl
  omega

/-- Behind the first loop. -/
def TrimB (s t : ByteArray) : Prop := (t.data.toList.reverse.dropWhile blankB).reverse = trimmed s.data.toList
theorem trimB_start {s t : ByteArray} (h : t.data.toList.dropWhile blankB = s.data.toList.dropWhile blankB) (hn : t.data.toList.dropWhile blankB = t.data.toList) : TrimB s t := by
  unfold TrimB
  rw [trimmed_eq, ← h, hn]
theorem trimB_step {s t : ByteArray} (h : TrimB s t) (h0 : 0 < t.size) (hb : blankB t[t.size - 1] = true) : TrimB s (t.extract 0 (t.size - 1)) := by
  unfold TrimB at h ⊢
  rw [← h]
  conv => rhs; rw [bytes_snoc t h0]
  rw [List.reverse_append]
  simp [hb]
theorem trimB_done {s t : ByteArray} (h : TrimB s t) (hb : ∀ h0 : 0 < t.size, blankB t[t.size - 1] = false) : t = ⟨(trimmed s.data.toList).toArray⟩ := by
  refine bytes_mk t _ ?_
  unfold TrimB at h
  rw [← h]
  rcases Nat.eq_zero_or_pos t.size with h0 | h0
  · rw [bytes_nil t h0]; rfl
  · have hb := hb h0
    conv => rhs; rw [bytes_snoc t h0]
    conv => lhs; rw [bytes_snoc t h0]
    rw [List.reverse_append]
    simp [hb]

set_option maxRecDepth 100000 in
theorem rtrim_any (s : ByteArray) (w : World) (hs : s.size ≤ 140737488355328) :
   Calls Tryz.prog 78 #[.string s] w fun e w' => e = .returned (.string ⟨(trimmed s.data.toList).toArray⟩) ∧ ∃ q, w' = w.drewN q := by
  go_enter Tryz.func78, Tryz.ntmps78
  go_wp2_with fail
  go_loopw [0] (fun v wr => ∃ t : ByteArray, v = .string t ∧ t.size ≤ s.size ∧ Hid (t.data.toList.dropWhile blankB = s.data.toList.dropWhile blankB) ∧ ∃ q, wr = w.drewN q) (fun v _ => Lib.strSize v)
  case atStart => exact ⟨s, rfl, Nat.le_refl _, rfl, 0, rfl⟩
  case round =>
    obtain ⟨t, rfl, htz, ht, q, rfl⟩ := hrel
    by_cases h0 : 0 < t.size
    · have hcons := bytes_cons t h0
      cases hb : blankB t[0]
      · have hst : TrimB s t := trimB_start ht.out (by rw [hcons]; simp [List.dropWhile, hb])
        have HST := Lib.hid hst
        have HB := Lib.hid hb
        clear hb hst ht hcons
        go_wp2_with fail
        refine (blank_any _ _).mono ?_
        rintro e w' ⟨rfl, rfl⟩
        rw [HB.out]
        go_wp2_with fail
        go_loopw [0] (fun v wr => ∃ t : ByteArray, v = .string t ∧ t.size ≤ s.size ∧ Hid (TrimB s t) ∧ ∃ q, wr = w.drewN q) (fun v _ => Lib.strSize v)
        case atStart => exact ⟨t, rfl, htz, HST, _, rfl⟩
        case round =>
          clear htz HST
          clear q
          obtain ⟨t, rfl, htz, ht, q, rfl⟩ := hrel
          by_cases h0 : 0 < t.size
          · have hz1 := extract_size_last t h0
            have hix : (t.size : Int) - 1 = ((t.size - 1 : Nat) : Int) := by omega
            cases hb : blankB t[t.size - 1]
            · have hst := trimB_done ht.out (fun _ => hb)
              have HST := Lib.hid hst
              have HB := Lib.hid hb
              clear hb hst ht hz1
              go_wp2_with fail
              refine (blank_any _ _).mono ?_
              rintro e w' ⟨rfl, rfl⟩
              rw [HB.out]
              go_wp2_with fail
              go_ret
              exact ⟨ret_str HST.out, _, rfl⟩
            · have hst := trimB_step ht.out h0 hb
              have HST := Lib.hid hst
              have HB := Lib.hid hb
              have HZ := Lib.hid hz1
              clear hb hst ht hz1
              go_wp2_with fail
              refine (blank_any _ _).mono ?_
              rintro e w' ⟨rfl, rfl⟩
              rw [HB.out]
              go_wp2_with fail
              go_roundw
              case rel => exact ⟨_, rfl, by rw [HZ.out]; omega, HST, _, rfl⟩
              case measure => simp only [Lib.strSize_string]; rw [HZ.out]; omega
          · have hst := trimB_done ht.out (fun h => absurd h h0)
            have HST := Lib.hid hst
            clear hst ht
            go_wp2_with fail
            go_ret
            exact ⟨ret_str HST.out, _, rfl⟩
      · have hst : (t.extract 1 t.size).data.toList.dropWhile blankB = s.data.toList.dropWhile blankB := by
          rw [← ht.out, hcons]; simp [List.dropWhile, hb]
        have hz1 := extract_size_one t h0
        have HST := Lib.hid hst
        have HB := Lib.hid hb
        have HZ := Lib.hid hz1
        clear hb hst ht hcons hz1
        go_wp2_with fail
        refine (blank_any _ _).mono ?_
        rintro e w' ⟨rfl, rfl⟩
        rw [HB.out]
        go_wp2_with fail
        go_roundw
        case rel => exact ⟨_, rfl, by rw [HZ.out]; omega, HST.out, _, rfl⟩
        case measure => simp only [Lib.strSize_string]; rw [HZ.out]; omega
    · have h1 : t.size = 0 := by omega
      have hst : TrimB s t := trimB_start ht.out (by rw [bytes_nil t h1]; rfl)
      have HST := Lib.hid hst
      clear hst ht h1
      go_wp2_with fail
      go_loopw [0] (fun v wr => ∃ t : ByteArray, v = .string t ∧ t.size ≤ s.size ∧ Hid (TrimB s t) ∧ ∃ q, wr = w.drewN q) (fun v _ => Lib.strSize v)
      case atStart => exact ⟨t, rfl, htz, HST, _, rfl⟩
      case round =>
        clear htz HST
        clear q
        obtain ⟨t, rfl, htz, ht, q, rfl⟩ := hrel
        by_cases h0 : 0 < t.size
        · have hz1 := extract_size_last t h0
          have hix : (t.size : Int) - 1 = ((t.size - 1 : Nat) : Int) := by omega
          cases hb : blankB t[t.size - 1]
          · have hst := trimB_done ht.out (fun _ => hb)
            have HST := Lib.hid hst
            have HB := Lib.hid hb
            clear hb hst ht hz1
            go_wp2_with fail
            refine (blank_any _ _).mono ?_
            rintro e w' ⟨rfl, rfl⟩
            rw [HB.out]
            go_wp2_with fail
            go_ret
            exact ⟨ret_str HST.out, _, rfl⟩
          · have hst := trimB_step ht.out h0 hb
            have HST := Lib.hid hst
            have HB := Lib.hid hb
            have HZ := Lib.hid hz1
            clear hb hst ht hz1
            go_wp2_with fail
            refine (blank_any _ _).mono ?_
            rintro e w' ⟨rfl, rfl⟩
            rw [HB.out]
            go_wp2_with fail
            go_roundw
            case rel => exact ⟨_, rfl, by rw [HZ.out]; omega, HST, _, rfl⟩
            case measure => simp only [Lib.strSize_string]; rw [HZ.out]; omega
        · have hst := trimB_done ht.out (fun h => absurd h h0)
          have HST := Lib.hid hst
          clear hst ht
          go_wp2_with fail
          go_ret
          exact ⟨ret_str HST.out, _, rfl⟩
end Go.Proofs.YtonlfplloenfcaaGreatDoor
