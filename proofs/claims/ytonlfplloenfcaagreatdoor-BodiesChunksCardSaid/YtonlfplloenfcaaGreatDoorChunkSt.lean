/-
  The states of a reader of chunks, in plain words: no program stands here.
-/
import Derived.Test.YtonlfplloenfcaaGreatDoorChunkSpec
namespace Go.Proofs.YtonlfplloenfcaaGreatDoor

inductive St where
  | size | chunk | fields | stop
/-- What is still to come makes the whole answer: at: bytes read; body: so far; all: of the sizes told; now: of a chunk that comes next. -/
def Tells (l : List UInt8) (ans : ChunkA) : St → Nat → List UInt8 → Nat → Nat → Int → Bool → Prop
  | .size, k, body, all, _, e, d => e = 0 ∧ d = false ∧ ∃ f, (l.drop k).length < f ∧ (chunkG f all (l.drop k)).pre body = ans
  | .chunk, k, body, all, now, e, d => e = 0 ∧ d = false ∧ 1 ≤ now ∧ all + now ≤ 65536 ∧ ∃ f, (l.drop k).length < f ∧
      (match endA ((l.drop k).drop now) with | .bad => ChunkA.err 9 | .more => .more ((l.drop k).take now) | .next q => (chunkG f (all + now) q).pre ((l.drop k).take now)).pre body = ans
  | .fields, k, body, _, _, e, d => e = 0 ∧ d = false ∧ ∃ f, (l.drop k).length < f ∧ (trailG f (l.drop k)).chunk.pre body = ans
  | .stop, k, body, _, _, e, d => (e = 3 ∨ e = 9) ∧ d = false ∧ ans = .err e ∨ e = 0 ∧ d = true ∧ ans = .done body (l.drop k) ∨ e = 0 ∧ d = false ∧ ans = .more body
def St.rank (n : Nat) : St → Nat → Nat
  | .stop, k => n - k
  | _, k => n - k + 1
theorem pre_nil (a : ChunkA) : a.pre [] = a := by cases a <;> rfl
theorem pre_pre (a : ChunkA) (p q : List UInt8) : (a.pre p).pre q = a.pre (q ++ p) := by cases a <;> simp [ChunkA.pre]
theorem tells_start (l : List UInt8) : Tells l (chunkA l) .size 0 [] 0 0 0 false := ⟨rfl, rfl, l.length + 1, by simp, by rw [List.drop_zero, pre_nil]; rfl⟩
section
variable {l : List UInt8} {ans : ChunkA} {k all now : Nat} {body : List UInt8} {e : Int} {d : Bool}
theorem size_limit (h : Tells l ans .size k body all now e d) (hl : lineA (l.drop k) = .limit) (k' : Nat) : Tells l ans .stop k' body all now 3 false := by
  obtain ⟨rfl, rfl, f, hf, ha⟩ := h
  cases f with
  | zero => omega
  | succ f =>
    rw [chunkG, hl] at ha
    exact .inl ⟨.inl rfl, rfl, ha.symm⟩
theorem size_short (h : Tells l ans .size k body all now e d) (hl : lineA (l.drop k) = .short) : Tells l ans .stop k body all now 0 false := by
  obtain ⟨rfl, rfl, f, hf, ha⟩ := h
  cases f with
  | zero => omega
  | succ f =>
    rw [chunkG, hl] at ha
    refine .inr (.inr ⟨rfl, rfl, ?_⟩)
    rw [← ha]
    simp [ChunkA.pre]
theorem size_bad {n : Nat} (h : Tells l ans .size k body all now e d) (hl : lineA (l.drop k) = .line n) (hs : sizeOK ((l.drop k).take n) = false) (k' : Nat) : Tells l ans .stop k' body all now 9 false := by
  obtain ⟨rfl, rfl, f, hf, ha⟩ := h
  cases f with
  | zero => omega
  | succ f =>
    rw [chunkG, hl] at ha
    simp only [hs] at ha
    exact .inl ⟨.inr rfl, rfl, ha.symm⟩
theorem size_zero {n : Nat} (h : Tells l ans .size k body all now e d) (hl : lineA (l.drop k) = .line n) (hs : sizeOK ((l.drop k).take n) = true) (h0 : sizeN ((l.drop k).take n) = 0) (x : Nat) : Tells l ans .fields (k + n + 2) body x now 0 false := by
  obtain ⟨rfl, rfl, f, hf, ha⟩ := h
  have := (line_spec hl).1
  cases f with
  | zero => omega
  | succ f =>
    rw [chunkG, hl] at ha
    simp only [hs, h0, if_true] at ha
    rw [List.drop_drop, ← Nat.add_assoc] at ha
    refine ⟨rfl, rfl, f, ?_, ha⟩
    rw [List.length_drop] at *
    omega
theorem size_great {n : Nat} (h : Tells l ans .size k body all now e d) (hl : lineA (l.drop k) = .line n) (hs : sizeOK ((l.drop k).take n) = true) (h0 : 65536 < all + sizeN ((l.drop k).take n)) (ha6 : all ≤ 65536) (k' : Nat) : Tells l ans .stop k' body all now 3 false := by
  obtain ⟨rfl, rfl, f, hf, ha⟩ := h
  cases f with
  | zero => omega
  | succ f =>
    rw [chunkG, hl] at ha
    simp only [hs, if_true] at ha
    rw [if_neg (by omega), if_pos h0] at ha
    exact .inl ⟨.inl rfl, rfl, ha.symm⟩
theorem size_next {n : Nat} (h : Tells l ans .size k body all now e d) (hl : lineA (l.drop k) = .line n) (hs : sizeOK ((l.drop k).take n) = true) (h0 : sizeN ((l.drop k).take n) ≠ 0) (h1 : all + sizeN ((l.drop k).take n) ≤ 65536) : Tells l ans .chunk (k + n + 2) body all (sizeN ((l.drop k).take n)) 0 false := by
  obtain ⟨rfl, rfl, f, hf, ha⟩ := h
  have := (line_spec hl).1
  cases f with
  | zero => omega
  | succ f =>
    rw [chunkG, hl] at ha
    simp only [hs, if_true] at ha
    have e2 : (l.drop k).drop (n + 2) = l.drop (k + n + 2) := by rw [List.drop_drop, ← Nat.add_assoc]
    rw [if_neg h0, if_neg (by omega), e2] at ha
    refine ⟨rfl, rfl, by omega, h1, f, ?_, ha⟩
    rw [List.length_drop] at *
    omega
theorem chunk_bad (h : Tells l ans .chunk k body all now e d) (he : endA ((l.drop k).drop now) = .bad) (k' : Nat) (b' : List UInt8) (x : Nat) : Tells l ans .stop k' b' x now 9 false := by
  obtain ⟨rfl, rfl, _, _, f, hf, ha⟩ := h
  rw [he] at ha
  exact .inl ⟨.inr rfl, rfl, ha.symm⟩
theorem chunk_more (h : Tells l ans .chunk k body all now e d) (he : endA ((l.drop k).drop now) = .more) (k' : Nat) (x : Nat) : Tells l ans .stop k' (body ++ (l.drop k).take now) x now 0 false := by
  obtain ⟨rfl, rfl, _, _, f, hf, ha⟩ := h
  rw [he] at ha
  exact .inr (.inr ⟨rfl, rfl, ha.symm⟩)
theorem chunk_next {q : List UInt8} (h : Tells l ans .chunk k body all now e d) (he : endA ((l.drop k).drop now) = .next q) : Tells l ans .size (k + now + 2) (body ++ (l.drop k).take now) (all + now) now 0 false := by
  obtain ⟨rfl, rfl, _, _, f, hf, ha⟩ := h
  have hq : q = l.drop (k + now + 2) := by
    have h1 := end_len he
    rw [List.drop_drop] at h1
    rw [← List.drop_drop, h1]
    rfl
  rw [he] at ha
  simp only [pre_pre] at ha
  rw [hq] at ha
  refine ⟨rfl, rfl, f, ?_, ha⟩
  rw [List.length_drop] at *
  omega
theorem fields_limit (h : Tells l ans .fields k body all now e d) (hl : lineA (l.drop k) = .limit) (k' : Nat) : Tells l ans .stop k' body all now 3 false := by
  obtain ⟨rfl, rfl, f, hf, ha⟩ := h
  cases f with
  | zero => omega
  | succ f =>
    rw [trailG, hl] at ha
    exact .inl ⟨.inl rfl, rfl, ha.symm⟩
theorem fields_short (h : Tells l ans .fields k body all now e d) (hl : lineA (l.drop k) = .short) : Tells l ans .stop k body all now 0 false := by
  obtain ⟨rfl, rfl, f, hf, ha⟩ := h
  cases f with
  | zero => omega
  | succ f =>
    rw [trailG, hl] at ha
    refine .inr (.inr ⟨rfl, rfl, ?_⟩)
    rw [← ha]
    simp [ChunkA.pre, TrailA.chunk]
theorem fields_end (h : Tells l ans .fields k body all now e d) (hl : lineA (l.drop k) = .line 0) : Tells l ans .stop (k + 2) body all now 0 true := by
  obtain ⟨rfl, rfl, f, hf, ha⟩ := h
  cases f with
  | zero => omega
  | succ f =>
    rw [trailG, hl] at ha
    refine .inr (.inl ⟨rfl, rfl, ?_⟩)
    rw [← ha]
    simp [ChunkA.pre, TrailA.chunk]
theorem fields_bad {n : Nat} (h : Tells l ans .fields k body all now e d) (hl : lineA (l.drop k) = .line n) (hn : n ≠ 0) (hs : fieldOK ((l.drop k).take n) = false) (k' : Nat) : Tells l ans .stop k' body all now 9 false := by
  obtain ⟨rfl, rfl, f, hf, ha⟩ := h
  cases f with
  | zero => omega
  | succ f =>
    rw [trailG, hl] at ha
    simp only [hs] at ha
    rw [if_neg hn] at ha
    exact .inl ⟨.inr rfl, rfl, ha.symm⟩
theorem fields_next {n : Nat} (h : Tells l ans .fields k body all now e d) (hl : lineA (l.drop k) = .line n) (hn : n ≠ 0) (hs : fieldOK ((l.drop k).take n) = true) : Tells l ans .fields (k + n + 2) body all now 0 false := by
  obtain ⟨rfl, rfl, f, hf, ha⟩ := h
  have := (line_spec hl).1
  cases f with
  | zero => omega
  | succ f =>
    rw [trailG, hl] at ha
    simp only [hs, if_true] at ha
    rw [if_neg hn, List.drop_drop, ← Nat.add_assoc] at ha
    refine ⟨rfl, rfl, f, ?_, ha⟩
    rw [List.length_drop] at *
    omega
end
/-- How the answer is told as results: body, n, done, e. -/
def ansB : ChunkA → List UInt8
  | .err _ => []
  | .more b => b
  | .done b _ => b
def ansN (n : Nat) : ChunkA → Nat
  | .err _ => 0
  | .more _ => n
  | .done _ q => n - q.length
def ansD : ChunkA → Bool
  | .done _ _ => true
  | _ => false
def ansE : ChunkA → Int
  | .err e => e
  | _ => 0
end Go.Proofs.YtonlfplloenfcaaGreatDoor
