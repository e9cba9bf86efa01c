/-
  The states of a reader of chunks, in plain words: no program stands here.
  How a body ends, in plain words: no program stands here.
-/
import Derived.Test.YtonlfplloenfcaaGreatDoorChunkSpec
import Derived.Lib.SplitLaws
import Derived.Lib.Join
import Derived.Lib.SlicesCompact
import Derived.Lib.AtoiTie
namespace Go.Proofs.YtonlfplloenfcaaGreatDoor

inductive St where
  | size | chunk | fields | stop
/-- What is still to come makes the whole answer: at: bytes read; body: so far; all: of the sizes told; now: of a chunk that comes next. -/
def Tells (l : List UInt8) (ans : ChunkA) : St → Nat → List UInt8 → Nat → Nat → Int → Bool → Prop
  | .size, k, body, all, _, e, d => e = 0 ∧ d = false ∧ ∃ f, (l.drop k).length < f ∧ (chunkG f all (l.drop k)).pre body = ans
  | .chunk, k, body, all, now, e, d => e = 0 ∧ d = false ∧ 1 ≤ now ∧ all + now ≤ 65536 ∧ ∃ f, (l.drop k).length < f ∧
      (match endA ((l.drop k).drop now) with | .bad => ChunkA.err 9 | .more => .more ((l.drop k).take now) | .next q => (chunkG f (all + now) q).pre ((l.drop k).take now)).pre body = ans
  | .fields, k, body, _, _, e, d => e = 0 ∧ d = false ∧ ∃ f, (l.drop k).length < f ∧ (trailG f (l.drop k)).chunk.pre body = ans
  | .stop, k, body, _, _, e, d => (e = 3 ∨ e = 9) ∧ d = false ∧ ans = .err e ∨ e = 0 ∧ d = true ∧ ans = .done body (l.drop k) ∨ e = 0 ∧ d = false ∧ ans = .more body
def St.rank (n : Nat) : St → Nat → Nat
  | .stop, k => n - k
  | _, k => n - k + 1
theorem pre_nil (a : ChunkA) : a.pre [] = a := by cases a <;> rfl
theorem pre_pre (a : ChunkA) (p q : List UInt8) : (a.pre p).pre q = a.pre (q ++ p) := by cases a <;> simp [ChunkA.pre]
theorem tells_start (l : List UInt8) : Tells l (chunkA l) .size 0 [] 0 0 0 false := ⟨rfl, rfl, l.length + 1, by simp, by rw [List.drop_zero, pre_nil]; rfl⟩
section
variable {l : List UInt8} {ans : ChunkA} {k all now : Nat} {body : List UInt8} {e : Int} {d : Bool}
theorem size_limit (h : Tells l ans .size k body all now e d) (hl : lineA (l.drop k) = .limit) (k' : Nat) : Tells l ans .stop k' body all now 3 false := by
  obtain ⟨rfl, rfl, f, hf, ha⟩ := h
  cases f with
  | zero => omega
  | succ f =>
    rw [chunkG, hl] at ha
    exact .inl ⟨.inl rfl, rfl, ha.symm⟩
theorem size_short (h : Tells l ans .size k body all now e d) (hl : lineA (l.drop k) = .short) : Tells l ans .stop k body all now 0 false := by
  obtain ⟨rfl, rfl, f, hf, ha⟩ := h
  cases f with
  | zero => omega
  | succ f =>
    rw [chunkG, hl] at ha
    refine .inr (.inr ⟨rfl, rfl, ?_⟩)
    rw [← ha]
    simp [ChunkA.pre]
theorem size_bad {n : Nat} (h : Tells l ans .size k body all now e d) (hl : lineA (l.drop k) = .line n) (hs : sizeOK ((l.drop k).take n) = false) (k' : Nat) : Tells l ans .stop k' body all now 9 false := by
  obtain ⟨rfl, rfl, f, hf, ha⟩ := h
  cases f with
  | zero => omega
  | succ f =>
    rw [chunkG, hl] at ha
    simp only [hs] at ha
    exact .inl ⟨.inr rfl, rfl, ha.symm⟩
theorem size_zero {n : Nat} (h : Tells l ans .size k body all now e d) (hl : lineA (l.drop k) = .line n) (hs : sizeOK ((l.drop k).take n) = true) (h0 : sizeN ((l.drop k).take n) = 0) (x : Nat) : Tells l ans .fields (k + n + 2) body x now 0 false := by
  obtain ⟨rfl, rfl, f, hf, ha⟩ := h
  have := (line_spec hl).1
  cases f with
  | zero => omega
  | succ f =>
    rw [chunkG, hl] at ha
    simp only [hs, h0, if_true] at ha
    rw [List.drop_drop, ← Nat.add_assoc] at ha
    refine ⟨rfl, rfl, f, ?_, ha⟩
    rw [List.length_drop] at *
    omega
theorem size_great {n : Nat} (h : Tells l ans .size k body all now e d) (hl : lineA (l.drop k) = .line n) (hs : sizeOK ((l.drop k).take n) = true) (h0 : 65536 < all + sizeN ((l.drop k).take n)) (ha6 : all ≤ 65536) (k' : Nat) : Tells l ans .stop k' body all now 3 false := by
  obtain ⟨rfl, rfl, f, hf, ha⟩ := h
  cases f with
  | zero => omega
  | succ f =>
    rw [chunkG, hl] at ha
    simp only [hs, if_true] at ha
    rw [if_neg (by omega), if_pos h0] at ha
    exact .inl ⟨.inl rfl, rfl, ha.symm⟩
theorem size_next {n : Nat} (h : Tells l ans .size k body all now e d) (hl : lineA (l.drop k) = .line n) (hs : sizeOK ((l.drop k).take n) = true) (h0 : sizeN ((l.drop k).take n) ≠ 0) (h1 : all + sizeN ((l.drop k).take n) ≤ 65536) : Tells l ans .chunk (k + n + 2) body all (sizeN ((l.drop k).take n)) 0 false := by
  obtain ⟨rfl, rfl, f, hf, ha⟩ := h
  have := (line_spec hl).1
  cases f with
  | zero => omega
  | succ f =>
    rw [chunkG, hl] at ha
    simp only [hs, if_true] at ha
    have e2 : (l.drop k).drop (n + 2) = l.drop (k + n + 2) := by rw [List.drop_drop, ← Nat.add_assoc]
    rw [if_neg h0, if_neg (by omega), e2] at ha
    refine ⟨rfl, rfl, by omega, h1, f, ?_, ha⟩
    rw [List.length_drop] at *
    omega
theorem chunk_bad (h : Tells l ans .chunk k body all now e d) (he : endA ((l.drop k).drop now) = .bad) (k' : Nat) (b' : List UInt8) (x : Nat) : Tells l ans .stop k' b' x now 9 false := by
  obtain ⟨rfl, rfl, _, _, f, hf, ha⟩ := h
  rw [he] at ha
  exact .inl ⟨.inr rfl, rfl, ha.symm⟩
theorem chunk_more (h : Tells l ans .chunk k body all now e d) (he : endA ((l.drop k).drop now) = .more) (k' : Nat) (x : Nat) : Tells l ans .stop k' (body ++ (l.drop k).take now) x now 0 false := by
  obtain ⟨rfl, rfl, _, _, f, hf, ha⟩ := h
  rw [he] at ha
  exact .inr (.inr ⟨rfl, rfl, ha.symm⟩)
theorem chunk_next {q : List UInt8} (h : Tells l ans .chunk k body all now e d) (he : endA ((l.drop k).drop now) = .next q) : Tells l ans .size (k + now + 2) (body ++ (l.drop k).take now) (all + now) now 0 false := by
  obtain ⟨rfl, rfl, _, _, f, hf, ha⟩ := h
  have hq : q = l.drop (k + now + 2) := by
    have h1 := end_len he
    rw [List.drop_drop] at h1
    rw [← List.drop_drop, h1]
    rfl
  rw [he] at ha
  simp only [pre_pre] at ha
  rw [hq] at ha
  refine ⟨rfl, rfl, f, ?_, ha⟩
  rw [List.length_drop] at *
  omega
theorem fields_limit (h : Tells l ans .fields k body all now e d) (hl : lineA (l.drop k) = .limit) (k' : Nat) : Tells l ans .stop k' body all now 3 false := by
  obtain ⟨rfl, rfl, f, hf, ha⟩ := h
  cases f with
  | zero => omega
  | succ f =>
    rw [trailG, hl] at ha
    exact .inl ⟨.inl rfl, rfl, ha.symm⟩
theorem fields_short (h : Tells l ans .fields k body all now e d) (hl : lineA (l.drop k) = .short) : Tells l ans .stop k body all now 0 false := by
  obtain ⟨rfl, rfl, f, hf, ha⟩ := h
  cases f with
  | zero => omega
  | succ f =>
    rw [trailG, hl] at ha
    refine .inr (.inr ⟨rfl, rfl, ?_⟩)
    rw [← ha]
    simp [ChunkA.pre, TrailA.chunk]
theorem fields_end (h : Tells l ans .fields k body all now e d) (hl : lineA (l.drop k) = .line 0) : Tells l ans .stop (k + 2) body all now 0 true := by
  obtain ⟨rfl, rfl, f, hf, ha⟩ := h
  cases f with
  | zero => omega
  | succ f =>
    rw [trailG, hl] at ha
    refine .inr (.inl ⟨rfl, rfl, ?_⟩)
    rw [← ha]
    simp [ChunkA.pre, TrailA.chunk]
theorem fields_bad {n : Nat} (h : Tells l ans .fields k body all now e d) (hl : lineA (l.drop k) = .line n) (hn : n ≠ 0) (hs : fieldOK ((l.drop k).take n) = false) (k' : Nat) : Tells l ans .stop k' body all now 9 false := by
  obtain ⟨rfl, rfl, f, hf, ha⟩ := h
  cases f with
  | zero => omega
  | succ f =>
    rw [trailG, hl] at ha
    simp only [hs] at ha
    rw [if_neg hn] at ha
    exact .inl ⟨.inr rfl, rfl, ha.symm⟩
theorem fields_next {n : Nat} (h : Tells l ans .fields k body all now e d) (hl : lineA (l.drop k) = .line n) (hn : n ≠ 0) (hs : fieldOK ((l.drop k).take n) = true) : Tells l ans .fields (k + n + 2) body all now 0 false := by
  obtain ⟨rfl, rfl, f, hf, ha⟩ := h
  have := (line_spec hl).1
  cases f with
  | zero => omega
  | succ f =>
    rw [trailG, hl] at ha
    simp only [hs, if_true] at ha
    rw [if_neg hn, List.drop_drop, ← Nat.add_assoc] at ha
    refine ⟨rfl, rfl, f, ?_, ha⟩
    rw [List.length_drop] at *
    omega
end
/-- How the answer is told as results: body, n, done, e. -/
def ansB : ChunkA → List UInt8
  | .err _ => []
  | .more b => b
  | .done b _ => b
def ansN (n : Nat) : ChunkA → Nat
  | .err _ => 0
  | .more _ => n
  | .done _ q => n - q.length
def ansD : ChunkA → Bool
  | .done _ _ => true
  | _ => false
def ansE : ChunkA → Int
  | .err e => e
  | _ => 0
end Go.Proofs.YtonlfplloenfcaaGreatDoor
namespace Go.Proofs.YtonlfplloenfcaaGreatDoor

/-- A text's parts between a byte. -/
def cutC (c : UInt8) : List UInt8 → List (List UInt8)
  | [] => [[]]
  | x :: r => if x = c then [] :: cutC c r else (x :: (cutC c r).headD []) :: (cutC c r).tail
theorem cutC_ne (c : UInt8) (l : List UInt8) : ∃ h t, cutC c l = h :: t := by
  cases l with
  | nil => exact ⟨_, _, rfl⟩
  | cons x r =>
    unfold cutC
    split
    · exact ⟨_, _, rfl⟩
    · exact ⟨_, _, rfl⟩
theorem cutC_eq (c : UInt8) (r : List UInt8) : cutC c (c :: r) = [] :: cutC c r := by
  rw [cutC, if_pos rfl]
theorem cutC_cons {c x : UInt8} (r : List UInt8) (h : x ≠ c) {a : List UInt8} {t : List (List UInt8)} (e : cutC c r = a :: t) : cutC c (x :: r) = (x :: a) :: t := by
  rw [cutC, if_neg h, e]
  rfl
theorem cutC_append (c : UInt8) (r : List UInt8) : ∀ a : List UInt8, cutC c (a ++ c :: r) = cutC c a ++ cutC c r
  | [] => by
    rw [List.nil_append, cutC_eq]
    rfl
  | x :: a => by
    rw [List.cons_append]
    by_cases hx : x = c
    · subst hx
      rw [cutC_eq, cutC_eq, cutC_append x r a]
      rfl
    · obtain ⟨h, t, e⟩ := cutC_ne c a
      rw [cutC_cons a hx e, cutC_cons (a ++ c :: r) hx (by rw [cutC_append c r a, e]; rfl)]
      rfl
theorem cutC_miss (c : UInt8) : ∀ l : List UInt8, (∀ x ∈ l, x ≠ c) → cutC c l = [l]
  | [], _ => rfl
  | x :: r, h => cutC_cons r (h x List.mem_cons_self) (cutC_miss c r fun y hy => h y (List.mem_cons_of_mem _ hy))
theorem cutC_one (c : UInt8) (a r : List UInt8) (h : ∀ x ∈ a, x ≠ c) : cutC c (a ++ c :: r) = a :: cutC c r := by
  rw [cutC_append, cutC_miss c a h]
  rfl
theorem cutC_len (c : UInt8) : ∀ l : List UInt8, (cutC c l).length = l.count c + 1
  | [] => rfl
  | x :: r => by
    by_cases hx : x = c
    · subst hx
      rw [cutC_eq, List.length_cons, cutC_len x r, List.count_cons_self]
    · obtain ⟨h, t, e⟩ := cutC_ne c r
      rw [cutC_cons r hx e, List.count_cons_of_ne hx, ← cutC_len c r, e]
      rfl
/-- As the library cuts. -/
theorem splitK_cut (c : UInt8) : ∀ (k : Nat) (l : List UInt8), l.count c = k → Lib.splitK [c] 0 k l = cutC c l
  | 0, l, h => by
    rw [cutC_miss c l fun x hx he => by
      subst he
      have := List.count_pos_iff.2 hx
      omega]
    rfl
  | k + 1, l, h => by
    have hm : c ∈ l := List.count_pos_iff.1 (by omega)
    obtain ⟨a, r, rfl, ha⟩ := List.eq_append_cons_of_mem hm
    have hi : Lib.index (a ++ c :: r) [c] = (a.length : Int) := index_one_first (by simp) fun j hj hc => by
      rw [List.getElem?_append_left hj] at hc
      exact ha (List.mem_of_getElem? hc)
    have hcount : r.count c = k := by
      rw [List.count_append, List.count_cons_self, List.count_eq_zero.2 ha] at h
      omega
    have e1 : ((a ++ c :: r).drop (a.length + [c].length)) = r := by
      rw [List.length_cons, List.length_nil, ← List.drop_drop, List.drop_left]
      rfl
    unfold Lib.splitK
    rw [hi, if_neg (by
      intro he
      have := beq_iff_eq.1 he
      omega), Int.toNat_natCast, Nat.add_zero, List.take_left, e1, splitK_cut c k r hcount, cutC_one c a r fun x hx he => ha (he ▸ hx)]
theorem splitC_cut (s : ByteArray) (c : UInt8) : (Lib.splitB ⟨#[c]⟩ 0 (Lib.countB s ⟨#[c]⟩) s).map (·.data.toList) = cutC c s.data.toList := by
  rw [Lib.splitB_data]
  refine splitK_cut c _ _ ?_
  exact (Lib.count_one c s.data.toList).symm
theorem cut_joinTail (c : UInt8) : ∀ (r : List (List UInt8)) (x : List UInt8), cutC c (x ++ Lib.joinTail [c] r) = cutC c x ++ r.flatMap (cutC c)
  | [], x => by simp [Lib.joinTail]
  | y :: r, x => by
    have e : Lib.joinTail [c] (y :: r) = c :: (y ++ Lib.joinTail [c] r) := by simp [Lib.joinTail]
    rw [e, cutC_append, cut_joinTail c r y]
    rfl
theorem cut_join (c : UInt8) (x : List UInt8) (xs : List (List UInt8)) : cutC c (Lib.join (x :: xs) [c]) = (x :: xs).flatMap (cutC c) := by
  rw [Lib.join_cons, cut_joinTail]
  rfl

/-- What the fields of a length tell. -/
def partsA (sizes : List (List UInt8)) : List (List UInt8) := (sizes.flatMap (cutC 44)).map trimmed
def digitsOK (x : List UInt8) : Bool := !x.isEmpty && x.all digB
def bareS (x : List UInt8) : List UInt8 := x.dropWhile (· == 48)
def decN (l : List UInt8) : Nat := l.foldl (fun n x => 10 * n + (x.toNat - 48)) 0
def likeB (l : List (List UInt8)) : Bool := l.all fun x => bareS x == bareS (l.headD [])
def lenA (parts : List (List UInt8)) : Int × Int × Int :=
  if parts.all digitsOK && likeB parts then (if decN (parts.headD []) ≤ 65536 then (1, (decN (parts.headD []) : Int), 0) else (0, 0, 3)) else (0, 0, 9)
def howA (codes sizes : List ByteArray) (ch : Bool) : Int × Int × Int :=
  if codes.length + sizes.length = 0 then (3, 0, 0)
  else if sizes.length = 0 ∧ codes.length = 1 ∧ ch = true then (2, 0, 0)
  else if 0 < codes.length then (0, 0, 9)
  else lenA (partsA (sizes.map (·.data.toList)))

theorem decN_from (l : List UInt8) : ∀ a : Nat, l.foldl (fun n x => 10 * n + (x.toNat - 48)) a = a * 10 ^ l.length + decN l := by
  induction l with
  | nil => intro a; simp [decN]
  | cons x l ih =>
    intro a
    have e : decN (x :: l) = (10 * 0 + (x.toNat - 48)) * 10 ^ l.length + decN l := by
      rw [← ih]
      rfl
    rw [List.foldl_cons, ih, e]
    simp only [List.length_cons, Nat.mul_zero, Nat.zero_add]
    rw [Nat.pow_succ, Nat.add_mul]
    have : 10 * a * 10 ^ l.length = a * (10 ^ l.length * 10) := by rw [Nat.mul_comm 10 a, Nat.mul_assoc, Nat.mul_comm 10]
    omega
theorem decN_cons (x : UInt8) (l : List UInt8) : decN (x :: l) = (x.toNat - 48) * 10 ^ l.length + decN l := by
  rw [decN, List.foldl_cons, decN_from]
  simp
theorem decN_bare (l : List UInt8) : decN (bareS l) = decN l := by
  induction l with
  | nil => rfl
  | cons x l ih =>
    by_cases hx : x = 48
    · subst hx
      have : bareS (48 :: l) = bareS l := by unfold bareS; rw [List.dropWhile_cons_of_pos (by decide)]
      rw [this, ih, decN_cons]
      simp
    · have : bareS (x :: l) = x :: l := by unfold bareS; rw [List.dropWhile_cons_of_neg (by simpa using hx)]
      rw [this]
theorem decN_lt {l : List UInt8} (h : l.all digB = true) : decN l < 10 ^ l.length := by
  induction l with
  | nil => simp [decN]
  | cons x l ih =>
    rw [List.all_cons, Bool.and_eq_true] at h
    have h1 := ih h.2
    have hd : x.toNat - 48 ≤ 9 := by
      have := h.1
      unfold digB at this
      simp only [Bool.and_eq_true, decide_eq_true_eq, UInt8.le_iff_toNat_le] at this
      have h2 : x.toNat ≤ 57 := this.2
      omega
    rw [decN_cons, List.length_cons, Nat.pow_succ]
    have : (x.toNat - 48) * 10 ^ l.length ≤ 9 * 10 ^ l.length := Nat.mul_le_mul_right _ hd
    omega
/-- Digits without a nought ahead: so many make so great a number. -/
theorem decN_ge {x : UInt8} {l : List UInt8} (hx : digB x = true) (h0 : x ≠ 48) : 10 ^ l.length ≤ decN (x :: l) := by
  have hd : 1 ≤ x.toNat - 48 := by
    unfold digB at hx
    simp only [Bool.and_eq_true, decide_eq_true_eq, UInt8.le_iff_toNat_le] at hx
    have h1 : 48 ≤ x.toNat := hx.1
    have h2 : x.toNat ≠ 48 := fun e => h0 (UInt8.toNat_inj.1 e)
    omega
  rw [decN_cons]
  have : 1 * 10 ^ l.length ≤ (x.toNat - 48) * 10 ^ l.length := Nat.mul_le_mul_right _ hd
  omega
theorem bareS_head (l : List UInt8) : ∀ x r, bareS l = x :: r → x ≠ 48 := by
  intro x r h
  induction l with
  | nil => cases h
  | cons y l ih =>
    unfold bareS at h ih
    by_cases hy : y = 48
    · subst hy
      rw [List.dropWhile_cons_of_pos (by decide)] at h
      exact ih h
    · rw [List.dropWhile_cons_of_neg (by simpa using hy)] at h
      injection h with h1 h2
      rw [← h1]
      exact hy
theorem bareS_all {l : List UInt8} (h : l.all digB = true) : (bareS l).all digB = true := by
  rw [List.all_eq_true] at h ⊢
  exact fun x hx => h x ((List.dropWhile_sublist _).subset hx)
/-- A number of more than 17 digits, noughts ahead left out, is above the most. -/
theorem decN_great {l : List UInt8} (h : l.all digB = true) (hl : 6 ≤ (bareS l).length) : 65536 < decN l := by
  rw [← decN_bare]
  have h1 := bareS_all h
  have h2 := bareS_head l
  cases hb : bareS l with
  | nil => rw [hb] at hl; simp at hl
  | cons x r =>
    rw [hb] at h1 hl
    rw [List.all_cons, Bool.and_eq_true] at h1
    have h3 := decN_ge (l := r) h1.1 (h2 x r hb)
    have h4 : 10 ^ 5 ≤ 10 ^ r.length := Nat.pow_le_pow_right (by decide) (by rw [List.length_cons] at hl; omega)
    have h5 : (10 : Nat) ^ 5 = 100000 := by decide
    omega
theorem keeps_iff (zs : List (List UInt8)) (j : Nat) (h0 : 0 < j) (hj : j < zs.length) : Lib.keeps zs.toArray j = false ↔ zs[j]? = zs[j - 1]? := by
  have e1 : zs.toArray[j]! = zs[j] := by simp [hj]
  have e2 : zs.toArray[j - 1]! = zs[j - 1] := by
    have : j - 1 < zs.length := by omega
    simp [this]
  rw [List.getElem?_eq_getElem hj, List.getElem?_eq_getElem (by omega)]
  constructor
  · intro h
    have h3 : zs.toArray[j]! = zs.toArray[j - 1]! := Decidable.byContradiction fun hn => by
      rw [Lib.keeps_pos hn] at h
      cases h
    rw [e1, e2] at h3
    rw [h3]
  · intro h
    injection h with h
    exact Lib.keeps_neg h0 (by rw [e1, e2]; exact h)
theorem compactUp_len (zs : List (List UInt8)) : ∀ m : Nat, 0 < m → m ≤ zs.length → 1 ≤ (Lib.compactUpTo zs.toArray m).length ∧ ((Lib.compactUpTo zs.toArray m).length ≤ 1 ↔ ∀ j, 0 < j → j < m → zs[j]? = zs[j - 1]?)
  | 0, h, _ => absurd h (by omega)
  | 1, _, h1 => by
    rw [Lib.compactUpTo_succ, Lib.keeps_lt_one _ 0 (by omega)]
    exact ⟨by simp, by
      have : Lib.compactUpTo zs.toArray 0 = [] := rfl
      rw [this]
      simp
      intro j hj1 hj2
      omega⟩
  | m + 2, _, h1 => by
    obtain ⟨ih1, ih2⟩ := compactUp_len zs (m + 1) (by omega) (by omega)
    rw [Lib.compactUpTo_succ, List.length_append]
    have hk := keeps_iff zs (m + 1) (by omega) (by omega)
    cases hkk : Lib.keeps zs.toArray (m + 1) with
    | true =>
      rw [if_pos rfl]
      refine ⟨by omega, fun h => ?_, fun h => ?_⟩
      · rw [List.length_cons, List.length_nil] at h
        omega
      · have h3 := hk.2 (h (m + 1) (by omega) (by omega))
        rw [hkk] at h3
        cases h3
    | false =>
      rw [if_neg (by decide)]
      refine ⟨by omega, fun h j hj1 hj2 => ?_, fun h => ?_⟩
      · rcases Nat.lt_or_ge j (m + 1) with h4 | h4
        · exact ih2.1 (by simpa using h) j hj1 h4
        · have : j = m + 1 := by omega
          subst this
          exact hk.1 hkk
      · have := ih2.2 fun j hj1 hj2 => h j hj1 (by omega)
        simpa using this
/-- Is each the same as the one before it, so are all. -/
theorem compact_one (zs : List (List UInt8)) (h : 0 < zs.length) : (Lib.compact zs).length ≤ 1 ↔ ∀ x ∈ zs, x = zs.headD [] := by
  have h1 := (compactUp_len zs zs.length h (Nat.le_refl _)).2
  have hh : zs[0]? = some (zs.headD []) := by
    cases zs with
    | nil => simp at h
    | cons a r => rfl
  refine Iff.trans h1 ⟨fun h2 x hx => ?_, fun h2 j hj1 hj2 => ?_⟩
  · have key : ∀ j, j < zs.length → zs[j]? = some (zs.headD []) := by
      intro j
      induction j with
      | zero => intro _; exact hh
      | succ j ih =>
        intro hj
        rw [h2 (j + 1) (by omega) hj]
        exact ih (by omega)
    obtain ⟨j, hj⟩ := List.mem_iff_getElem?.1 hx
    have hlt : j < zs.length := (List.getElem?_eq_some_iff.1 hj).1
    have := (key j hlt).symm.trans hj
    injection this with this
    exact this.symm
  · have key : ∀ j, j < zs.length → zs[j]? = some (zs.headD []) := fun j hj => by
      rw [List.getElem?_eq_getElem hj, h2 _ (List.getElem_mem hj)]
    rw [key j hj2, key (j - 1) (by omega)]
theorem like_compact (l : List (List UInt8)) (h : 0 < l.length) : likeB l = decide ((Lib.compact (l.map bareS)).length ≤ 1) := by
  have h1 := compact_one (l.map bareS) (by simpa using h)
  have hh : (l.map bareS).headD [] = bareS (l.headD []) := by
    cases l with
    | nil => simp at h
    | cons a r => rfl
  rw [hh] at h1
  have h2 : likeB l = true ↔ ∀ x ∈ l.map bareS, x = bareS (l.headD []) := by
    unfold likeB
    rw [List.all_eq_true]
    constructor
    · intro h3 x hx
      obtain ⟨y, hy, rfl⟩ := List.mem_map.1 hx
      exact beq_iff_eq.1 (h3 y hy)
    · intro h3 x hx
      exact beq_iff_eq.2 (h3 _ (List.mem_map_of_mem hx))
  rw [Bool.eq_iff_iff, decide_eq_true_iff, h1, h2]
theorem dig_val {x : UInt8} (h : digB x = true) : Lib.digitVal x = some (x.toNat - 48) ∧ 48 ≤ x.toNat ∧ x.toNat ≤ 57 := by
  unfold digB at h
  simp only [Bool.and_eq_true, decide_eq_true_eq, UInt8.le_iff_toNat_le] at h
  have h1 : 48 ≤ x.toNat := h.1
  have h2 : x.toNat ≤ 57 := h.2
  exact ⟨by unfold Lib.digitVal; rw [if_pos ⟨h1, h2⟩], h1, h2⟩
theorem decFrom_dig : ∀ (l : List UInt8) (a : Nat), l.all digB = true → Lib.decFrom a l = some (a * 10 ^ l.length + decN l)
  | [], a, _ => by simp [Lib.decFrom, decN]
  | x :: r, a, h => by
    rw [List.all_cons, Bool.and_eq_true] at h
    rw [Lib.decFrom, (dig_val h.1).1]
    show Lib.decFrom (a * 10 + (x.toNat - 48)) r = _
    rw [decFrom_dig r _ h.2, decN_cons, List.length_cons, Nat.pow_succ, Nat.add_mul, ← Nat.mul_assoc]
    have e : a * 10 * 10 ^ r.length = a * 10 ^ r.length * 10 := by rw [Nat.mul_assoc, Nat.mul_comm 10, ← Nat.mul_assoc]
    rw [e, Nat.add_assoc]
theorem atoi_dig {l : List UInt8} (hne : l ≠ []) (h : l.all digB = true) (hl : l.length ≤ 18) : Lib.atoiAll l = .ok (decN l : Int) := by
  have h1 : Lib.atoi l = some (decN l : Int) := by
    cases l with
    | nil => exact absurd rfl hne
    | cons x r =>
      have hx := dig_val (x := x) (by rw [List.all_cons, Bool.and_eq_true] at h; exact h.1)
      have e1 : (x == 45) = false := by
        apply beq_eq_false_iff_ne.2
        intro e
        subst e
        exact absurd hx.2.1 (by decide)
      have e2 : (x == 43) = false := by
        apply beq_eq_false_iff_ne.2
        intro e
        subst e
        exact absurd hx.2.1 (by decide)
      rw [show Lib.atoi (x :: r) = if x == 45 then (Lib.decNat r).map fun (m : Nat) => -(m : Int) else if x == 43 then (Lib.decNat r).map fun (m : Nat) => (m : Int) else (Lib.decNat (x :: r)).map fun (m : Nat) => (m : Int) from rfl]
      rw [e1, e2]
      simp only [Bool.false_eq_true, if_false]
      unfold Lib.decNat
      rw [if_neg (by simp), decFrom_dig _ 0 h]
      simp
  rw [Lib.atoiAll_short l hl, h1]
  rfl
/-- As the document goes through the parts. -/
def bareR (x : List UInt8) : List UInt8 := if bareS x = [] then (if x = [] then [] else [48]) else bareS x
def refL : List UInt8 → List (List UInt8) → Option (List UInt8)
  | all, [] => some all
  | all, x :: r => if !digitsOK x || (!all.isEmpty && all != bareR x) then none else refL (bareR x) r
theorem bareR_ne {x : List UInt8} (h : digitsOK x = true) : bareR x ≠ [] := by
  unfold digitsOK at h
  unfold bareR
  split
  · split
    · rename_i h1
      subst h1
      simp at h
    · simp
  · assumption
theorem bareR_inj {x y : List UInt8} (hx : digitsOK x = true) (hy : digitsOK y = true) : bareR x = bareR y ↔ bareS x = bareS y := by
  have key : ∀ z, digitsOK z = true → bareR z = if bareS z = [] then [48] else bareS z := fun z hz => by
    unfold bareR
    split
    · rw [if_neg]
      intro e
      subst e
      simp [digitsOK] at hz
    · rfl
  have h48 : ∀ z, bareS z ≠ [48] := fun z e => bareS_head z 48 [] e rfl
  rw [key x hx, key y hy]
  by_cases h1 : bareS x = []
  · by_cases h2 : bareS y = []
    · rw [if_pos h1, if_pos h2, h1, h2]
      simp
    · rw [if_pos h1, if_neg h2, h1]
      exact ⟨fun e => absurd e.symm (h48 y), fun e => absurd e.symm h2⟩
  · by_cases h2 : bareS y = []
    · rw [if_neg h1, if_pos h2, h2]
      exact ⟨fun e => absurd e (h48 x), fun e => absurd e h1⟩
    · rw [if_neg h1, if_neg h2]
theorem decN_bareR (x : List UInt8) : decN (bareR x) = decN x := by
  rw [← decN_bare x]
  unfold bareR
  split
  · rename_i h
    rw [h]
    split <;> rfl
  · rfl
theorem refL_from {y : List UInt8} (hy : digitsOK y = true) : ∀ l : List (List UInt8), refL (bareR y) l = if l.all digitsOK && l.all (fun x => bareS x == bareS y) then some (bareR y) else none
  | [] => rfl
  | x :: r => by
    have hne : (bareR y).isEmpty = false := by
      cases h : bareR y with
      | nil => exact absurd h (bareR_ne hy)
      | cons a b => rfl
    rw [refL, hne, List.all_cons, List.all_cons]
    cases hx : digitsOK x with
    | false => simp
    | true =>
      have h1 := bareR_inj hx hy
      by_cases h2 : bareS x = bareS y
      · have h3 : bareR y = bareR x := (h1.2 h2).symm
        rw [h2, ← h3]
        simp
        rw [refL_from hy r]
        simp
      · have h3 : (bareR y != bareR x) = true := by
          simp
          intro e
          exact h2 (h1.1 e.symm)
        have h4 : (bareS x == bareS y) = false := by simpa using h2
        rw [h3, h4]
        simp
theorem refL_all (x : List UInt8) (r : List (List UInt8)) : refL [] (x :: r) = if (x :: r).all digitsOK && likeB (x :: r) then some (bareR x) else none := by
  rw [refL]
  cases hx : digitsOK x with
  | false => simp [hx]
  | true =>
    unfold likeB
    rw [List.headD_cons, List.all_cons, List.all_cons, hx]
    simp only [Bool.not_true, List.isEmpty_nil, Bool.false_and, Bool.or_false, Bool.false_eq_true, if_false, Bool.true_and, BEq.rfl]
    exact refL_from hx r
end Go.Proofs.YtonlfplloenfcaaGreatDoor
