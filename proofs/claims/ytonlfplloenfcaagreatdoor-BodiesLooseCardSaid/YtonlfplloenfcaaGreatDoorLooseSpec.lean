/-
  Chunks whose sizes have noughts ahead, great letters, blanks and words behind, and fields behind the last one, in plain words: no program stands here.
-/
import Derived.Test.YtonlfplloenfcaaGreatDoorBackChunk
import Derived.Test.YtonlfplloenfcaaGreatDoorDecSpec
namespace Go.Proofs.YtonlfplloenfcaaGreatDoor

theorem takeWhile_stop {α : Type} {p : α → Bool} {x : α} (hx : p x = false) (r : List α) : ∀ d : List α, d.all p = true → (d ++ x :: r).takeWhile p = d ∧ (d ++ x :: r).dropWhile p = x :: r
  | [], _ => by
    rw [List.nil_append, List.takeWhile_cons_of_neg (by simp [hx]), List.dropWhile_cons_of_neg (by simp [hx])]
    exact ⟨rfl, rfl⟩
  | y :: d, h => by
    rw [List.all_cons, Bool.and_eq_true] at h
    obtain ⟨h1, h2⟩ := takeWhile_stop hx r d h.2
    rw [List.cons_append, List.takeWhile_cons_of_pos h.1, List.dropWhile_cons_of_pos h.1, h1, h2]
    exact ⟨rfl, rfl⟩
theorem hex_ctrl (x : UInt8) (h : hexOK x = true) : ctrlOK x = true := by
  have h1 := all_bytes (p := fun x => !hexOK x || ctrlOK x) (by decide +kernel) x
  simpa [h] using h1
theorem loose_size {d t u : List UInt8} (hd : d.all hexOK = true) (h1 : 1 ≤ d.length) (h2 : d.length ≤ 16) {x : UInt8} {r : List UInt8} (ht : t = x :: r) (hx : hexOK x = false) (hu : t.dropWhile blankB = 59 :: u) (hp : plainB t = true) : sizeOK (d ++ t) = true ∧ sizeN (d ++ t) = hexN d := by
  subst ht
  obtain ⟨e1, e2⟩ := takeWhile_stop hx r d hd
  have e3 : sizeD (d ++ x :: r) = d := e1
  have e4 : sizeW (d ++ x :: r) = 59 :: u := by
    unfold sizeW
    rw [e2, hu]
  have e5 : plainB (d ++ x :: r) = true := by
    unfold plainB at hp ⊢
    rw [List.all_append, hp, List.all_eq_true.2 fun y hy => hex_ctrl y (List.all_eq_true.1 hd y hy)]
    rfl
  unfold sizeOK sizeN
  rw [e3, e4, e5, decide_eq_true h1, decide_eq_true h2]
  exact ⟨rfl, rfl⟩
theorem hexN_zeros (l : List UInt8) : ∀ z : Nat, hexN (List.replicate z 48 ++ l) = hexN l
  | 0 => rfl
  | z + 1 => by
    rw [List.replicate_succ, List.cons_append]
    have e : hexN (48 :: (List.replicate z 48 ++ l)) = hexN (List.replicate z 48 ++ l) := by
      unfold hexN
      rw [List.foldl_cons]
      rfl
    rw [e, hexN_zeros l z]
theorem zeros_all (z : Nat) : (List.replicate z (48 : UInt8)).all hexOK = true := by
  rw [List.all_eq_true]
  intro x hx
  rw [List.eq_of_mem_replicate hx]
  decide
def looseEnd (z : Nat) (words : List UInt8) : List UInt8 :=
  (List.replicate (z + 1) 48 ++ (59 :: words)) ++ 13 :: 10 :: (([65, 58, 32] ++ words) ++ 13 :: 10 :: ([98, 58] ++ 13 :: 10 :: ([] ++ 13 :: 10 :: [])))
def looseChunk (z : Nat) (words body : List UInt8) : List UInt8 :=
  (List.replicate z 48 ++ hexUT body.length ++ (32 :: 9 :: 59 :: words)) ++ 13 :: 10 :: (body ++ [13, 10])
def looseT (z : Nat) (words body : List UInt8) : List UInt8 := (if body.length = 0 then [] else looseChunk z words body) ++ looseEnd z words
theorem plain_eol {l : List UInt8} (h : plainB l = true) (j : Nat) : ¬ eolAt l j := eol_of_13 (plain_13 h) j
theorem field_word (words : List UInt8) (hw : plainB words = true) : fieldOK ([65, 58, 32] ++ words) = true := by
  have hc : colonAt ([65, 58, 32] ++ words) = ((1 : Nat) : Int) := index_one_first (k := 1) rfl fun j hj => by
    have : j = 0 := by omega
    subst this
    simp
  have hw2 : plainB (32 :: words) = true := by
    unfold plainB at hw ⊢
    rw [List.all_cons, hw]
    rfl
  unfold fieldOK
  rw [hc]
  show (decide (0 ≤ ((1 : Nat) : Int)) && (tokenB (([65, 58, 32] ++ words).take 1) && plainB (([65, 58, 32] ++ words).drop (1 + 1)))) = true
  have e1 : ([65, 58, 32] ++ words).take 1 = [65] := rfl
  have e2 : ([65, 58, 32] ++ words).drop (1 + 1) = 32 :: words := rfl
  rw [e1, e2, hw2]
  decide
theorem plain_cons {x : UInt8} {l : List UInt8} (hx : ctrlOK x = true) (h : plainB l = true) : plainB (x :: l) = true := by
  unfold plainB at h ⊢
  rw [List.all_cons, hx, h]
  rfl
theorem loose_end (z : Nat) (words : List UInt8) (hz : z ≤ 15) (hw : plainB words = true) (hl : words.length ≤ 1000) (f all : Nat) (hf : (looseEnd z words).length < f) : chunkG f all (looseEnd z words) = .done [] [] := by
  have hp59 : plainB (59 :: words) = true := plain_cons (by decide) hw
  obtain ⟨s1, s2⟩ := loose_size (d := List.replicate (z + 1) 48) (t := 59 :: words) (u := words) (zeros_all _) (by simp) (by simp; omega) rfl (by decide) (by rw [List.dropWhile_cons_of_neg (by decide)]) hp59
  have s3 : hexN (List.replicate (z + 1) 48) = 0 := by
    have := hexN_zeros [] (z + 1)
    rw [List.append_nil] at this
    rw [this]
    rfl
  have p1 : plainB (List.replicate (z + 1) 48 ++ (59 :: words)) = true := by
    unfold plainB at hp59 ⊢
    rw [List.all_append, hp59, List.all_eq_true.2 fun y hy => hex_ctrl y (List.all_eq_true.1 (zeros_all (z + 1)) y hy)]
    rfl
  have p2 : plainB ([65, 58, 32] ++ words) = true := by
    unfold plainB at hw ⊢
    rw [List.all_append, hw]
    decide
  have l1 : lineA (looseEnd z words) = .line (List.replicate (z + 1) 48 ++ (59 :: words)).length := line_of (plain_eol p1) (by simp; omega) _
  have l2 : lineA (([65, 58, 32] ++ words) ++ 13 :: 10 :: ([98, 58] ++ 13 :: 10 :: ([] ++ 13 :: 10 :: []))) = .line ([65, 58, 32] ++ words).length := line_of (plain_eol p2) (by simp; omega) _
  have l3 : lineA ([98, 58] ++ 13 :: 10 :: ([] ++ 13 :: 10 :: [])) = .line 2 := line_of (x := [98, 58]) (plain_eol (by decide)) (by decide) _
  have l4 : lineA ([] ++ 13 :: 10 :: []) = .line 0 := line_of (x := []) (plain_eol (by decide)) (by decide) _
  obtain ⟨f, rfl⟩ : ∃ g, f = g + 4 := ⟨f - 4, by simp [looseEnd] at hf; omega⟩
  rw [chunkG, l1]
  have t1 : (looseEnd z words).take (List.replicate (z + 1) 48 ++ (59 :: words)).length = List.replicate (z + 1) 48 ++ (59 :: words) := take_line _ _
  have d1 : (looseEnd z words).drop ((List.replicate (z + 1) 48 ++ (59 :: words)).length + 2) = ([65, 58, 32] ++ words) ++ 13 :: 10 :: ([98, 58] ++ 13 :: 10 :: ([] ++ 13 :: 10 :: [])) := drop_line _ _
  simp only [t1, d1, s1, if_true]
  rw [if_pos (by rw [s2, s3])]
  rw [trailG, l2]
  have t2 := take_line ([65, 58, 32] ++ words) (13 :: 10 :: ([98, 58] ++ 13 :: 10 :: ([] ++ 13 :: 10 :: [])))
  have d2 := drop_line ([65, 58, 32] ++ words) ([98, 58] ++ 13 :: 10 :: ([] ++ 13 :: 10 :: []))
  simp only [t2, d2, field_word words hw, if_true]
  rw [if_neg (by simp), trailG, l3]
  have t3 : (([98, 58] : List UInt8) ++ 13 :: 10 :: ([] ++ 13 :: 10 :: [])).take 2 = [98, 58] := rfl
  have d3 : (([98, 58] : List UInt8) ++ 13 :: 10 :: ([] ++ 13 :: 10 :: [])).drop (2 + 2) = [] ++ 13 :: 10 :: [] := rfl
  have f3 : fieldOK [98, 58] = true := by decide
  simp only [t3, d3, f3, if_true]
  rw [if_neg (by decide), trailG, l4]
  rfl
theorem loose_read (z : Nat) (words body : List UInt8) (hz : z ≤ 8) (hw : plainB words = true) (hl : words.length ≤ 1000) (hb : body.length ≤ 60000) : chunkA (looseT z words body) = .done body [] := by
  unfold chunkA looseT
  by_cases h0 : body.length = 0
  · rw [if_pos h0]
    have : body = [] := List.eq_nil_of_length_eq_zero h0
    subst this
    exact loose_end z words (by omega) hw hl _ 0 (by simp)
  · rw [if_neg h0]
    have hd : (List.replicate z 48 ++ hexUT body.length).all hexOK = true := by rw [List.all_append, zeros_all, hexUT_all]; rfl
    have hlen := hexUT_len body.length (by omega)
    have hne : 1 ≤ (hexUT body.length).length := by
      obtain ⟨d, r, _, _, h3⟩ := digL_head 16 (by omega) hexU1 body.length h0
      have : hexUT body.length = hexU1 d :: r := h3
      rw [this]
      simp
    have hpt : plainB (32 :: 9 :: 59 :: words) = true := plain_cons (by decide) (plain_cons (by decide) (plain_cons (by decide) hw))
    obtain ⟨s1, s2⟩ := loose_size (d := List.replicate z 48 ++ hexUT body.length) (t := 32 :: 9 :: 59 :: words) (u := words) hd (by simp; omega) (by simp; omega) rfl (by decide)
      (by rw [List.dropWhile_cons_of_pos (by decide), List.dropWhile_cons_of_pos (by decide), List.dropWhile_cons_of_neg (by decide)]) hpt
    rw [hexN_zeros, hexUT_value] at s2
    have p1 : plainB (List.replicate z 48 ++ hexUT body.length ++ (32 :: 9 :: 59 :: words)) = true := by
      unfold plainB at hpt ⊢
      rw [List.all_append, hpt, List.all_eq_true.2 fun y hy => hex_ctrl y (List.all_eq_true.1 hd y hy)]
      rfl
    obtain ⟨L, hL⟩ : ∃ L, List.replicate z 48 ++ hexUT body.length ++ (32 :: 9 :: 59 :: words) = L := ⟨_, rfl⟩
    rw [hL] at s1 s2 p1
    have hLl : L.length ≤ 65536 := by rw [← hL]; simp; omega
    have e0 : looseChunk z words body ++ looseEnd z words = L ++ 13 :: 10 :: (body ++ (13 :: 10 :: looseEnd z words)) := by
      unfold looseChunk
      rw [hL]
      simp
    rw [e0]
    obtain ⟨F, hF⟩ : ∃ F, (L ++ 13 :: 10 :: (body ++ (13 :: 10 :: looseEnd z words))).length = F := ⟨_, rfl⟩
    have hFl : (looseEnd z words).length < F := by rw [← hF]; simp; omega
    rw [hF, chunkG, line_of (plain_eol p1) hLl _]
    simp only [take_line, drop_line, s1, if_true]
    rw [s2, if_neg h0, if_neg (by omega)]
    have e1 : (body ++ (13 :: 10 :: looseEnd z words)).drop body.length = 13 :: 10 :: looseEnd z words := List.drop_left
    have e2 : (body ++ (13 :: 10 :: looseEnd z words)).take body.length = body := List.take_left
    rw [e1, e2]
    show (chunkG F (0 + body.length) (looseEnd z words)).pre body = _
    rw [loose_end z words (by omega) hw hl F _ hFl]
    simp [ChunkA.pre]
end Go.Proofs.YtonlfplloenfcaaGreatDoor
