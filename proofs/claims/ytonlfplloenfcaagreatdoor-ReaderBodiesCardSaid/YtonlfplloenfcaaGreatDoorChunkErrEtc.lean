/-
  How bytes by chunks are refused, in plain words: no program stands here.
  What a reader tells of bytes that came, in plain words: no program stands here.
  However bytes are cut, a reader tells the same, in plain words: no program stands here.
  How long the fields of a head are, in plain words: no program stands here.
  A code that is "chunked", whatever its letters' size: byte by byte; no program stands here.
  Numbers as digits, in plain words: no program stands here.
  A length that is told several times, in plain words: no program stands here.
  BodiesLength's messages: how their bodies end, in plain words: no program stands here.
  A body that was put by chunks, read back, in plain words: no program stands here.
  HeadsAnswer: the text that is read, in plain words.
  ReaderBodies' answers: what they tell, in plain words: no program stands here.
-/
import Derived.Test.YtonlfplloenfcaaGreatDoorChunkStEtc
import Derived.Test.YtonlfplloenfcaaGreatDoorBFieldsEtc
import Derived.Test.YtonlfplloenfcaaGreatDoorNoneT
import Derived.Test.YtonlfplloenfcaaGreatDoorCutTEtc
import Derived.Test.YtonlfplloenfcaaGreatDoorNamesEtc
import Derived.Test.YtonlfplloenfcaaGreatDoorChunkSpec
import Derived.Test.YtonlfplloenfcaaGreatDoorHexSpecEtc
import Derived.Lib.SmallJoins
import Derived.Test.YtonlfplloenfcaaGreatDoorMoreSpecEtc
import Derived.Test.YtonlfplloenfcaaGreatDoorFindEtc
import Derived.Test.YtonlfplloenfcaaGreatDoorReflEtc
import Derived.Test.YtonlfplloenfcaaGreatDoorPutAny
namespace Go.Proofs.YtonlfplloenfcaaGreatDoor

theorem trail_err : ∀ (f : Nat) (r : List UInt8) (z : Int), trailG f r = .err z → z = 3 ∨ z = 9
  | 0, _, _, h => by cases h
  | f + 1, r, z, h => by
    unfold trailG at h
    split at h
    · injection h with h; exact .inl h.symm
    · cases h
    · split at h
      · cases h
      · split at h
        · exact trail_err f _ z h
        · injection h with h; exact .inr h.symm
theorem chunkG_err : ∀ (f all : Nat) (r : List UInt8) (z : Int), chunkG f all r = .err z → z = 3 ∨ z = 9
  | 0, _, _, _, h => by cases h
  | f + 1, all, r, z, h => by
    unfold chunkG at h
    split at h
    · injection h with h; exact .inl h.symm
    · cases h
    · split at h
      · split at h
        · revert h
          cases ht : trailG f _ with
          | err e => intro h; injection h with h; rw [h] at ht; exact trail_err f _ z ht
          | more => intro h; cases h
          | done q => intro h; cases h
        · split at h
          · injection h with h; exact .inl h.symm
          · split at h
            · injection h with h; exact .inr h.symm
            · cases h
            · revert h
              cases hc : chunkG f _ _ with
              | err e => intro h; injection h with h; rw [h] at hc; exact chunkG_err f _ _ z hc
              | more b => intro h; cases h
              | done b q => intro h; cases h
      · injection h with h; exact .inr h.symm
theorem chunkA_err {r : List UInt8} {z : Int} (h : chunkA r = .err z) : z = 3 ∨ z = 9 := chunkG_err _ _ _ _ h
theorem chunkB_len : ∀ (f all : Nat) (r : List UInt8), (ansB (chunkG f all r)).length ≤ r.length
  | 0, _, _ => by simp [chunkG, ansB]
  | f + 1, all, r => by
    have hpre : ∀ (p : List UInt8) (a : ChunkA), (ansB (a.pre p)).length ≤ p.length + (ansB a).length := fun p a => by
      cases a <;> simp [ChunkA.pre, ansB]
    unfold chunkG
    split
    · simp [ansB]
    · simp [ansB]
    · rename_i m hm
      have h1 := (line_spec hm).1
      split
      · split
        · have : ∀ a : TrailA, ansB a.chunk = [] := fun a => by cases a <;> rfl
          rw [this]
          simp
        · split
          · simp [ansB]
          · split
            · simp [ansB]
            · simp only [ansB, List.length_take, List.length_drop]
              omega
            · rename_i q hq
              have h2 := end_len hq
              have h3 := hpre ((r.drop (m + 2)).take (sizeN (r.take m))) (chunkG f (all + sizeN (r.take m)) q)
              have h4 := chunkB_len f (all + sizeN (r.take m)) q
              have h5 := congrArg List.length h2
              simp only [List.length_drop, List.length_cons, List.length_take] at h3 h5
              omega
      · simp [ansB]
theorem chunkA_len (l : List UInt8) : (ansB (chunkA l)).length ≤ l.length := chunkB_len _ _ _

end Go.Proofs.YtonlfplloenfcaaGreatDoor
namespace Go.Proofs.YtonlfplloenfcaaGreatDoor

/-- The heads that bytes begin with: more must come; they are refused; the answer's own, and where it ends. -/
inductive HdA where
  | short | err (e : Int) | fin (a : Nat) (s : Int) (f : List Fd)
def headR : Nat → Nat → List UInt8 → HdA
  | 0, _, _ => .short
  | k + 1, a, l =>
    if gE statusK l = 7 then .short
    else if gE statusK l = 0 then
      if gS statusK l < 200 then headR k (a + (gN statusK l).toNat) (l.drop (gN statusK l).toNat)
      else .fin (a + (gN statusK l).toNat) (gS statusK l) (gF statusK l)
    else .err (gE statusK l)
def headA (a : Nat) (l : List UInt8) : HdA := headR (l.length + 1) a l
/-- A head that may be: how many bytes it has. -/
theorem gN_pos {l : List UInt8} (h : gE statusK l = 0) (hl : l.length < 65536) : 4 ≤ (gN statusK l).toNat ∧ (gN statusK l).toNat ≤ l.length ∧ gN statusK l = ((gN statusK l).toNat : Int) := by
  have he : 0 ≤ endAt l := end_of_read (ok := statusK.ok) (by
    show gE statusK l ≠ 7
    rw [h]
    decide) hl
  have h2 := end_le l he
  have h3 : gN statusK l = endAt l + 4 := by unfold gN; rw [if_pos h]
  rw [h3]
  omega
theorem head_fuel : ∀ (k j a : Nat) (l : List UInt8), l.length < k → l.length < j → l.length < 65536 → headR k a l = headR j a l
  | 0, _, _, _, h, _, _ => by omega
  | _, 0, _, _, _, h, _ => by omega
  | k + 1, j + 1, a, l, hk, hj, hl => by
    unfold headR
    by_cases h7 : gE statusK l = 7
    · rw [if_pos h7, if_pos h7]
    · rw [if_neg h7, if_neg h7]
      by_cases h0 : gE statusK l = 0
      · rw [if_pos h0, if_pos h0]
        have := gN_pos h0 hl
        rw [head_fuel k j (a + (gN statusK l).toNat) (l.drop (gN statusK l).toNat) (by rw [List.length_drop]; omega) (by rw [List.length_drop]; omega) (by rw [List.length_drop]; omega)]
      · rw [if_neg h0, if_neg h0]
theorem headA_short {a : Nat} {l : List UInt8} (h : gE statusK l = 7) : headA a l = .short := by
  unfold headA headR
  rw [if_pos h]
theorem headA_err {a : Nat} {l : List UInt8} (h : gE statusK l ≠ 7) (h0 : gE statusK l ≠ 0) : headA a l = .err (gE statusK l) := by
  unfold headA headR
  rw [if_neg h, if_neg h0]
theorem headA_fin {a : Nat} {l : List UInt8} (h0 : gE statusK l = 0) (hs : ¬ gS statusK l < 200) : headA a l = .fin (a + (gN statusK l).toNat) (gS statusK l) (gF statusK l) := by
  unfold headA headR
  rw [if_neg (by rw [h0]; decide), if_pos h0, if_neg hs]
theorem headA_next {a : Nat} {l : List UInt8} (h0 : gE statusK l = 0) (hs : gS statusK l < 200) (hl : l.length < 65536) : headA a l = headA (a + (gN statusK l).toNat) (l.drop (gN statusK l).toNat) := by
  have hp := gN_pos h0 hl
  unfold headA
  rw [headR, if_neg (by rw [h0]; decide), if_pos h0, if_pos hs]
  exact head_fuel _ _ _ _ (by rw [List.length_drop]; omega) (by omega) (by rw [List.length_drop]; omega)
/-- What more bytes behind a head's bytes leave as it is. -/
theorem get_more {l : List UInt8} (r : List UInt8) (h : gE statusK l ≠ 7) (hl : l.length < 65536) : gE statusK (l ++ r) = gE statusK l ∧ gS statusK (l ++ r) = gS statusK l ∧ gN statusK (l ++ r) = gN statusK l ∧ gF statusK (l ++ r) = gF statusK l := by
  obtain ⟨h1, _, _, h4, h5, h6⟩ := more_g (K := statusK) r (end_of_read (ok := statusK.ok) h hl)
  exact ⟨h1, h4, h5, h6⟩
/-- A head that is no answer's own is passed over, whatever comes behind. -/
theorem head_step {a : Nat} {l : List UInt8} (h0 : gE statusK l = 0) (hs : gS statusK l < 200) (x : List UInt8) (hl : (l ++ x).length < 65536) : headA a (l ++ x) = headA (a + (gN statusK l).toNat) (l.drop (gN statusK l).toNat ++ x) := by
  have hl2 : l.length < 65536 := by rw [List.length_append] at hl; omega
  obtain ⟨e1, e2, e3, _⟩ := get_more x (l := l) (by rw [h0]; decide) hl2
  have hp := gN_pos h0 hl2
  rw [headA_next (e1.trans h0) (by rw [e2]; exact hs) hl, e3, List.drop_append_of_le_length (by omega)]
theorem head_fin_more {a : Nat} {l : List UInt8} (h0 : gE statusK l = 0) (hs : ¬ gS statusK l < 200) (x : List UInt8) (hl : l.length < 65536) : headA a (l ++ x) = .fin (a + (gN statusK l).toNat) (gS statusK l) (gF statusK l) := by
  obtain ⟨e1, e2, e3, e4⟩ := get_more x (l := l) (by rw [h0]; decide) hl
  rw [headA_fin (e1.trans h0) (by rw [e2]; exact hs), e2, e3, e4]
theorem head_err_more {a : Nat} {l : List UInt8} (h : gE statusK l ≠ 7) (h0 : gE statusK l ≠ 0) (x : List UInt8) (hl : l.length < 65536) : headA a (l ++ x) = .err (gE statusK l) := by
  obtain ⟨e1, _, _, _⟩ := get_more x (l := l) h hl
  rw [headA_err (by rw [e1]; exact h) (by rw [e1]; exact h0), e1]

/-- May the connection be kept? -/
def connB : ByteArray := ⟨#[99, 111, 110, 110, 101, 99, 116, 105, 111, 110]⟩
def closeB : ByteArray := ⟨#[99, 108, 111, 115, 101]⟩
def closeP (s : ByteArray) : Bool := (splitT 44 s).any fun p => sameB p.data.toList closeB.data.toList
def keepB (f : List Fd) : Bool := !((findB f connB).any closeP)
/-- What bytes tell: more must come; they are refused; a whole answer, and how many bytes it has; one that ends with the connection. -/
inductive LookA where
  | wait | err (e : Int) | done (n : Nat) (s : Int) (f : List Fd) (b : List UInt8) (keep : Bool) | opn (n : Nat) (s : Int) (f : List Fd) (b : List UInt8)
def bodyA (mt : ByteArray) (a : Nat) (s : Int) (f : List Fd) (rest : List UInt8) : LookA :=
  if (howM mt s f).2.2 ≠ 0 then .err (howM mt s f).2.2
  else if (howM mt s f).1 = 0 then .done a s f [] (keepB f)
  else if (howM mt s f).1 = 1 then (if (howM mt s f).2.1.toNat ≤ rest.length then .done (a + (howM mt s f).2.1.toNat) s f (rest.take (howM mt s f).2.1.toNat) (keepB f) else .wait)
  else if (howM mt s f).1 = 2 then (match chunkA rest with
    | .err e => .err e
    | .more _ => .wait
    | .done b q => .done (a + (rest.length - q.length)) s f b (keepB f))
  else if 65536 < rest.length then .err 3 else .opn (a + rest.length) s f rest
def lookA (mt : ByteArray) (l : List UInt8) : LookA := match headA 0 l with
  | .short => .wait
  | .err e => .err e
  | .fin a s f => bodyA mt a s f (l.drop a)

/-- What more bytes behind leave as it was: heads. -/
theorem head_more (x : List UInt8) : ∀ (k a : Nat) (l : List UInt8), l.length < k → (l ++ x).length < 65536 →
    (∀ e, headR k a l = .err e → headA a (l ++ x) = .err e) ∧ (∀ b s f, headR k a l = .fin b s f → headA a (l ++ x) = .fin b s f ∧ a ≤ b ∧ b ≤ a + l.length)
  | 0, _, _, h, _ => by omega
  | k + 1, a, l, hk, hl => by
    have hl2 : l.length < 65536 := by rw [List.length_append] at hl; omega
    unfold headR
    by_cases h7 : gE statusK l = 7
    · rw [if_pos h7]
      exact ⟨fun e h => (by cases h), fun b s f h => (by cases h)⟩
    · rw [if_neg h7]
      by_cases h0 : gE statusK l = 0
      · rw [if_pos h0]
        have hp := gN_pos h0 hl2
        by_cases hs : gS statusK l < 200
        · rw [if_pos hs, head_step h0 hs x hl]
          have ih := head_more x k (a + (gN statusK l).toNat) (l.drop (gN statusK l).toNat) (by rw [List.length_drop]; omega) (by rw [List.length_append] at hl ⊢; rw [List.length_drop]; omega)
          refine ⟨ih.1, fun b s f h => ?_⟩
          obtain ⟨h1, h2, h3⟩ := ih.2 b s f h
          rw [List.length_drop] at h3
          exact ⟨h1, by omega, by omega⟩
        · rw [if_neg hs, head_fin_more h0 hs x hl2]
          refine ⟨fun e h => (by cases h), fun b s f h => ?_⟩
          injection h with h1 h2 h3
          subst h1 h2 h3
          exact ⟨rfl, by omega, by omega⟩
      · rw [if_neg h0]
        refine ⟨fun e h => ?_, fun b s f h => (by cases h)⟩
        injection h with h
        subst h
        exact head_err_more h7 h0 x hl2
theorem headA_more_err {l x : List UInt8} {a : Nat} {e : Int} (h : headA a l = .err e) (hl : (l ++ x).length < 65536) : headA a (l ++ x) = .err e := (head_more x _ a l (Nat.lt_succ_self _) hl).1 e h
theorem headA_more_fin {l x : List UInt8} {a b : Nat} {s : Int} {f : List Fd} (h : headA a l = .fin b s f) (hl : (l ++ x).length < 65536) : headA a (l ++ x) = .fin b s f ∧ a ≤ b ∧ b ≤ a + l.length := (head_more x _ a l (Nat.lt_succ_self _) hl).2 b s f h
/-- Behind the head: what is told stays. -/
theorem bodyA_more {mt : ByteArray} {a : Nat} {s : Int} {f : List Fd} {rest : List UInt8} (x : List UInt8) :
    (∀ e, bodyA mt a s f rest = .err e → bodyA mt a s f (rest ++ x) = .err e) ∧ (∀ n t g b k, bodyA mt a s f rest = .done n t g b k → bodyA mt a s f (rest ++ x) = .done n t g b k ∧ n ≤ a + rest.length) := by
  unfold bodyA
  by_cases h1 : (howM mt s f).2.2 ≠ 0
  · rw [if_pos h1, if_pos h1]
    exact ⟨fun e h => h, fun n t g b k h => (by cases h)⟩
  · rw [if_neg h1, if_neg h1]
    by_cases h2 : (howM mt s f).1 = 0
    · rw [if_pos h2, if_pos h2]
      refine ⟨fun e h => (by cases h), fun n t g b k h => ⟨h, ?_⟩⟩
      injection h with h
      omega
    · rw [if_neg h2, if_neg h2]
      by_cases h3 : (howM mt s f).1 = 1
      · rw [if_pos h3, if_pos h3]
        by_cases h4 : (howM mt s f).2.1.toNat ≤ rest.length
        · rw [if_pos h4, if_pos (by rw [List.length_append]; omega), List.take_append_of_le_length h4]
          refine ⟨fun e h => (by cases h), fun n t g b k h => ⟨h, ?_⟩⟩
          injection h with h
          omega
        · rw [if_neg h4]
          exact ⟨fun e h => (by cases h), fun n t g b k h => (by cases h)⟩
      · rw [if_neg h3, if_neg h3]
        by_cases h5 : (howM mt s f).1 = 2
        · rw [if_pos h5, if_pos h5]
          have hon := chunkA_on rest x
          cases hc : chunkA rest with
          | err e =>
            rw [hc] at hon
            have hb : chunkA (rest ++ x) = .err e := hon
            rw [hb]
            exact ⟨fun e h => h, fun n t g b k h => (by cases h)⟩
          | more y => exact ⟨fun e h => (by cases h), fun n t g b k h => (by cases h)⟩
          | done y q =>
            rw [hc] at hon
            have hb : chunkA (rest ++ x) = .done y (q ++ x) := hon
            have hq := chunk_len _ _ _ _ _ (show chunkG (rest.length + 1) 0 rest = .done y q from hc)
            rw [hb]
            have e : (rest ++ x).length - (q ++ x).length = rest.length - q.length := by
              rw [List.length_append, List.length_append]
              omega
            simp only [e]
            refine ⟨fun e h => (by cases h), fun n t g b k h => ⟨h, ?_⟩⟩
            injection h with h
            omega
        · rw [if_neg h5, if_neg h5]
          by_cases h6 : 65536 < rest.length
          · rw [if_pos h6, if_pos (by rw [List.length_append]; omega)]
            exact ⟨fun e h => h, fun n t g b k h => (by cases h)⟩
          · rw [if_neg h6]
            exact ⟨fun e h => (by cases h), fun n t g b k h => (by cases h)⟩
theorem lookA_fin {mt : ByteArray} {l : List UInt8} {a : Nat} {s : Int} {f : List Fd} (h : headA 0 l = .fin a s f) : lookA mt l = bodyA mt a s f (l.drop a) := by
  unfold lookA
  rw [h]
theorem lookA_short {mt : ByteArray} {l : List UInt8} (h : headA 0 l = .short) : lookA mt l = .wait := by
  unfold lookA
  rw [h]
theorem lookA_err {mt : ByteArray} {l : List UInt8} {e : Int} (h : headA 0 l = .err e) : lookA mt l = .err e := by
  unfold lookA
  rw [h]
theorem look_more {mt : ByteArray} {l : List UInt8} (x : List UInt8) (hl : (l ++ x).length < 65536) :
    (∀ e, lookA mt l = .err e → lookA mt (l ++ x) = .err e) ∧ (∀ n t g b k, lookA mt l = .done n t g b k → lookA mt (l ++ x) = .done n t g b k ∧ n ≤ l.length) := by
  cases hh : headA 0 l with
  | short =>
    rw [lookA_short hh]
    exact ⟨fun e h => (by cases h), fun n t g b k h => (by cases h)⟩
  | err z =>
    rw [lookA_err hh, lookA_err (headA_more_err hh hl)]
    exact ⟨fun e h => h, fun n t g b k h => (by cases h)⟩
  | fin a s f =>
    obtain ⟨h1, h2, h3⟩ := headA_more_fin hh hl
    rw [lookA_fin hh, lookA_fin h1, List.drop_append_of_le_length (by omega)]
    obtain ⟨b1, b2⟩ := bodyA_more (mt := mt) (a := a) (s := s) (f := f) (rest := l.drop a) x
    refine ⟨b1, fun n t g b k h => ?_⟩
    obtain ⟨c1, c2⟩ := b2 n t g b k h
    rw [List.length_drop] at c2
    exact ⟨c1, by omega⟩

/-- A reader's state: it reads, and these bytes came; it failed; it has the answer. -/
inductive RSt where
  | on (l : List UInt8) | bad (e : Int) | fin (s : Int) (f : List Fd) (b : List UInt8) (keep : Bool)
def putR (mt : ByteArray) (st : RSt) (b : List UInt8) : RSt × Int × Int := match st with
  | .on l => (match lookA mt (l ++ b) with
    | .err e => (.bad e, 0, e)
    | .done n s f x k => (.fin s f x k, (n : Int) - (l.length : Int), 0)
    | _ => (.on (l ++ b), (b.length : Int), 0))
  | .bad e => (.bad e, 0, e)
  | .fin s f x k => (.fin s f x k, 0, 0)
def endR (mt : ByteArray) (st : RSt) : RSt × Int := match st with
  | .on l => (match lookA mt l with
    | .opn _ s f b => (.fin s f b false, 0)
    | _ => (.bad 10, 10))
  | .bad e => (.bad e, e)
  | .fin s f x k => (.fin s f x k, 0)
end Go.Proofs.YtonlfplloenfcaaGreatDoor
namespace Go.Proofs.YtonlfplloenfcaaGreatDoor

/-- A reader of bytes that begin so: what it has, and how many of the answer's bytes were told. -/
def CutI (mt : ByteArray) (B P : List UInt8) (st : RSt) (sum : Int) : Prop := match st with
  | .on l => l = P ∧ (lookA mt P = .wait ∨ ∃ n s f b, lookA mt P = .opn n s f b) ∧ sum = (P.length : Int)
  | .bad e => lookA mt B = .err e
  | .fin s f b k => ∃ n, lookA mt B = .done n s f b k ∧ sum = (n : Int)
theorem err_ne {mt : ByteArray} {l : List UInt8} {e : Int} (h : lookA mt l = .err e) : e ≠ 0 := by
  unfold lookA at h
  split at h
  · cases h
  · rename_i z hz
    injection h with h
    subst h
    unfold headA at hz
    have key : ∀ (k a : Nat) (l : List UInt8), headR k a l = .err z → z ≠ 0 := by
      intro k
      induction k with
      | zero => intro a l h; cases h
      | succ k ih =>
        intro a l h
        unfold headR at h
        split at h
        · cases h
        · split at h
          · split at h
            · exact ih _ _ h
            · cases h
          · injection h with h
            subst h
            assumption
    exact key _ _ _ hz
  · unfold bodyA at h
    split at h
    · rename_i h1
      injection h with h
      subst h
      exact h1
    · split at h
      · cases h
      · split at h
        · split at h <;> cases h
        · split at h
          · split at h
            · rename_i z hz
              injection h with h
              subst h
              rcases chunkA_err hz with rfl | rfl <;> decide
            · cases h
            · cases h
          · split at h
            · injection h with h
              subst h
              decide
            · cases h
theorem putR_err {mt : ByteArray} {l b : List UInt8} {e : Int} (h : lookA mt (l ++ b) = .err e) : putR mt (.on l) b = (.bad e, 0, e) := by
  unfold putR
  simp only [h]
theorem putR_done {mt : ByteArray} {l b : List UInt8} {n : Nat} {s : Int} {f : List Fd} {x : List UInt8} {k : Bool} (h : lookA mt (l ++ b) = .done n s f x k) : putR mt (.on l) b = (.fin s f x k, (n : Int) - (l.length : Int), 0) := by
  unfold putR
  simp only [h]
theorem putR_wait {mt : ByteArray} {l b : List UInt8} (h : lookA mt (l ++ b) = .wait) : putR mt (.on l) b = (.on (l ++ b), (b.length : Int), 0) := by
  unfold putR
  simp only [h]
theorem putR_opn {mt : ByteArray} {l b : List UInt8} {n : Nat} {s : Int} {f : List Fd} {x : List UInt8} (h : lookA mt (l ++ b) = .opn n s f x) : putR mt (.on l) b = (.on (l ++ b), (b.length : Int), 0) := by
  unfold putR
  simp only [h]
theorem cut_start (mt : ByteArray) (B : List UInt8) : CutI mt B [] (.on []) 0 := ⟨rfl, .inl rfl, rfl⟩
theorem cut_put {mt : ByteArray} {B P x : List UInt8} {st : RSt} {sum : Int} (r : List UInt8) (hB : B = P ++ x ++ r) (hl : B.length < 65536) (h : CutI mt B P st sum) (hb : ∀ e, st ≠ .bad e) :
    CutI mt B (P ++ x) (putR mt st x).1 (sum + (putR mt st x).2.1) ∧ ((putR mt st x).2.2 = 0 ↔ ∀ e, (putR mt st x).1 ≠ .bad e) := by
  cases st with
  | bad e => exact absurd rfl (hb e)
  | fin s f b k =>
    obtain ⟨n, h1, h2⟩ := h
    exact ⟨⟨n, h1, by show sum + 0 = _; rw [Int.add_zero]; exact h2⟩, ⟨fun _ e h => (by cases h), fun _ => rfl⟩⟩
  | on l =>
    obtain ⟨rfl, _, hs⟩ := h
    have hm := look_more (mt := mt) (l := l ++ x) r (by rw [← hB]; exact hl)
    rw [← hB] at hm
    cases hk : lookA mt (l ++ x) with
    | wait =>
      rw [putR_wait hk]
      exact ⟨⟨rfl, .inl hk, by rw [hs, List.length_append]; simp⟩, ⟨fun _ e h => (by cases h), fun _ => rfl⟩⟩
    | opn n s f b =>
      rw [putR_opn hk]
      exact ⟨⟨rfl, .inr ⟨n, s, f, b, hk⟩, by rw [hs, List.length_append]; simp⟩, ⟨fun _ e h => (by cases h), fun _ => rfl⟩⟩
    | err e =>
      rw [putR_err hk]
      exact ⟨hm.1 e hk, ⟨fun h => absurd h (err_ne hk), fun h => absurd rfl (h e)⟩⟩
    | done n s f b k =>
      rw [putR_done hk]
      exact ⟨⟨n, (hm.2 n s f b k hk).1, by show sum + ((n : Int) - (l.length : Int)) = _; omega⟩, ⟨fun _ e h => (by cases h), fun _ => rfl⟩⟩
/-- What one that takes all bytes at once tells. -/
theorem cut_all {mt : ByteArray} {B : List UInt8} {st : RSt} {sum : Int} (h : CutI mt B B st sum) :
    (∀ e, st = .bad e → putR mt (.on []) B = (.bad e, 0, e)) ∧ ((∀ e, st ≠ .bad e) → putR mt (.on []) B = (st, sum, 0)) := by
  have e0 : ([] : List UInt8) ++ B = B := rfl
  cases st with
  | bad e =>
    refine ⟨fun z hz => ?_, fun hh => absurd rfl (hh e)⟩
    injection hz with hz
    subst hz
    exact putR_err (l := []) h
  | fin s f b k =>
    obtain ⟨n, h1, h2⟩ := h
    refine ⟨fun z hz => (by cases hz), fun _ => ?_⟩
    rw [putR_done (l := []) h1, h2]
    simp
  | on l =>
    obtain ⟨rfl, h1, h2⟩ := h
    refine ⟨fun z hz => (by cases hz), fun _ => ?_⟩
    rcases h1 with h1 | ⟨n, s, f, b, h1⟩
    · rw [putR_wait (l := []) h1, h2]
      rfl
    · rw [putR_opn (l := []) h1, h2]
      rfl
end Go.Proofs.YtonlfplloenfcaaGreatDoor
namespace Go.Proofs.YtonlfplloenfcaaGreatDoor

theorem splitB_sum : ∀ s : List UInt8, ((splitB s).map List.length).sum ≤ s.length
  | [] => by simp [splitB]
  | [x] => by simp [splitB]
  | x :: y :: r => by
    unfold splitB
    split
    · have := splitB_sum r
      simp only [List.map_cons, List.sum_cons, List.length_nil, List.length_cons]
      omega
    · have := splitB_sum (y :: r)
      cases h : splitB (y :: r) with
      | nil => exact absurd h (splitB_ne _)
      | cons a t =>
        rw [h] at this
        simp only [List.map_cons, List.sum_cons, List.length_cons] at this
        simp only [hcons, List.map_cons, List.sum_cons, List.length_cons]
        omega
theorem fieldOf_len (l : List UInt8) : (fieldOf l).1.size + (fieldOf l).2.size ≤ l.length := by
  have h1 : (fieldOf l).1.size = (l.take (colonAt l).toNat).length := by
    show ((l.take (colonAt l).toNat).toArray).size = _
    simp
  have h2 : (fieldOf l).2.size = (trimmed (l.drop ((colonAt l).toNat + 1))).length := by
    show ((trimmed (l.drop ((colonAt l).toNat + 1))).toArray).size = _
    simp
  have h3 := trimmed_le (l.drop ((colonAt l).toNat + 1))
  rw [List.length_drop] at h3
  rw [h1, h2, List.length_take]
  omega
theorem fieldsL_sum : ∀ ls : List (List UInt8), fsum (ls.map fieldOf) ≤ 2 * ls.length + (ls.map List.length).sum
  | [] => by simp [fsum]
  | x :: r => by
    have ih := fieldsL_sum r
    have h := fieldOf_len x
    unfold fsum at ih ⊢
    simp only [List.map_cons, List.sum_cons, List.length_cons] at ih ⊢
    omega
theorem gF_sum (K : Asks) (l : List UInt8) : fsum (gF K l) ≤ 512 + l.length := by
  have hlen := gF_len K l
  unfold gF at hlen ⊢
  split
  · rename_i h0
    rw [if_pos h0] at hlen
    have h1 := fieldsL_sum (headLines l).tail
    have h2 : ((headLines l).tail.map List.length).sum ≤ l.length := by
      have h3 := splitB_sum (l.take (endAt l).toNat)
      have h4 : headLines l = splitB (l.take (endAt l).toNat) := rfl
      rw [← h4, List.length_take] at h3
      cases h5 : headLines l with
      | nil => simp
      | cons x r =>
        rw [h5] at h3
        simp only [List.map_cons, List.sum_cons] at h3
        simp only [List.tail_cons]
        omega
    unfold readF at hlen ⊢
    rw [List.length_map] at hlen
    omega
  · simp [fsum]
end Go.Proofs.YtonlfplloenfcaaGreatDoor
namespace Go.Proofs.YtonlfplloenfcaaGreatDoor
open Go.RowKit

def chL : List UInt8 := [99, 104, 117, 110, 107, 101, 100]
def okC (x y : UInt8) : Bool := (bits .or .u8 (x.toNat : Int) 32 == (y.toNat : Int)) && decide ((65 : Int) ≤ (x.toNat : Int))
def codeQ (L : List UInt8) (k : Nat) : Bool := decide (L.length = 7) && (List.range k).all fun j => okC (L.getD j 0) (chL.getD j 0)
theorem okC_fin : ∀ x : Fin 256, ∀ y ∈ chL, okC (UInt8.ofNat x.val) y = (lowB (UInt8.ofNat x.val) == y) := by decide +kernel
theorem okC_low (x y : UInt8) (h : y ∈ chL) : okC x y = (lowB x == y) := by
  have := okC_fin ⟨x.toNat, x.toNat_lt⟩ y h
  simpa using this
theorem codeQ_full (L : List UInt8) (h : L.length = 7) : codeQ L 7 = sameB L chB.data.toList := by
  match L, h with
  | [a, b, c, d, e, f, g], _ =>
    have h1 : sameB [a, b, c, d, e, f, g] chB.data.toList = ([lowB a, lowB b, lowB c, lowB d, lowB e, lowB f, lowB g] == chL) := rfl
    have h2 : codeQ [a, b, c, d, e, f, g] 7 = (okC a 99 && (okC b 104 && (okC c 117 && (okC d 110 && (okC e 107 && (okC f 101 && (okC g 100 && true))))))) := by
      unfold codeQ
      rfl
    rw [h1, h2, okC_low a 99 (by decide), okC_low b 104 (by decide), okC_low c 117 (by decide), okC_low d 110 (by decide), okC_low e 107 (by decide), okC_low f 101 (by decide), okC_low g 100 (by decide)]
    rfl
theorem codeQ_other (L : List UInt8) (h : L.length ≠ 7) : sameB L chB.data.toList = false := by
  cases hs : sameB L chB.data.toList with
  | false => rfl
  | true =>
    unfold sameB at hs
    have := congrArg List.length (beq_iff_eq.1 hs)
    unfold lower at this
    rw [List.length_map, List.length_map] at this
    exact absurd this h
theorem codeQ_succ (L : List UInt8) (k : Nat) : codeQ L (k + 1) = (codeQ L k && okC (L.getD k 0) (chL.getD k 0)) := by
  unfold codeQ
  rw [List.range_succ, List.all_append]
  simp [Bool.and_assoc]
theorem codeQ_down (L : List UInt8) : ∀ (d k : Nat), codeQ L k = false → codeQ L (k + d) = false
  | 0, _, h => h
  | d + 1, k, h => by
    rw [← Nat.add_assoc, codeQ_succ, codeQ_down L d k h]
    rfl
theorem codeQ_no (L : List UInt8) (k : Nat) (hk : k ≤ L.length) (h : codeQ L k = false) : sameB L chB.data.toList = false := by
  by_cases h7 : L.length = 7
  · rw [← codeQ_full L h7]
    have := codeQ_down L (7 - k) k h
    rwa [show k + (7 - k) = 7 by omega] at this
  · exact codeQ_other L h7
theorem codeQ_end (L : List UInt8) : codeQ L L.length = sameB L chB.data.toList := by
  by_cases h7 : L.length = 7
  · rw [h7]
    exact codeQ_full L h7
  · rw [codeQ_other L h7]
    unfold codeQ
    rw [decide_eq_false h7]
    rfl
def teS : ByteArray := ⟨#[116, 114, 97, 110, 115, 102, 101, 114, 45, 101, 110, 99, 111, 100, 105, 110, 103]⟩
theorem both_none {m : ByteArray} (h : (m.data.toList == [72, 69, 65, 68]) = false) : howNone m 200 = false := by
  unfold howNone
  rw [h]
  rfl
theorem same_tt : sameB teB.data.toList teB.data.toList = true := by decide +kernel
theorem same_ct : sameB clB.data.toList teB.data.toList = false := by decide +kernel
theorem same_cc : sameB clB.data.toList clB.data.toList = true := by decide +kernel
theorem same_tc : sameB teB.data.toList clB.data.toList = false := by decide +kernel
theorem same_st : sameB teS.data.toList teB.data.toList = true := by decide +kernel
theorem same_sc : sameB teS.data.toList clB.data.toList = false := by decide +kernel
theorem howM_codes {m : ByteArray} {fs : List Fd} {c s : List ByteArray} (h : howNone m 200 = false) (h1 : findB fs teB = c) (h2 : findB fs clB = s) : howM m 200 fs = howA c s (chFirst c) := by
  unfold howM
  rw [if_neg (by rw [h]; decide), h1, h2]
theorem both_one (m code length : ByteArray) (h : howNone m 200 = false) : howM m 200 [(teB, code), (clB, length)] = (0, 0, 9) := by
  rw [howM_codes h (c := [code]) (s := [length]) (by simp [findB, same_tt, same_ct]) (by simp [findB, same_cc, same_tc])]
  exact howA_bad (by simp) (by rintro ⟨h1, _⟩; cases h1)
theorem both_two (m code : ByteArray) (h : howNone m 200 = false) : howM m 200 [(teB, code), (teS, chB)] = (0, 0, 9) := by
  rw [howM_codes h (c := [code, chB]) (s := []) (by simp [findB, same_tt, same_st]) (by simp [findB, same_sc, same_tc])]
  exact howA_bad (by simp) (by rintro ⟨_, h1, _⟩; cases h1)
theorem both_three (m code : ByteArray) (h : howNone m 200 = false) : howM m 200 [(teB, code)] = if sameB code.data.toList chB.data.toList then (2, 0, 0) else (0, 0, 9) := by
  rw [howM_codes h (c := [code]) (s := []) (by simp [findB, same_tt]) (by simp [findB, same_tc])]
  have hc : chFirst [code] = sameB code.data.toList chB.data.toList := rfl
  rw [hc]
  cases hs : sameB code.data.toList chB.data.toList with
  | true => exact howA_chunks rfl rfl rfl
  | false => exact howA_bad (by simp) (by rintro ⟨_, _, h1⟩; cases h1)
theorem one_sum (a b : ByteArray) : fsum [(a, b)] = 2 + a.size + b.size := by simp [fsum]
theorem two_sum (a b c d : ByteArray) : fsum [(a, b), (c, d)] = (2 + a.size + b.size) + (2 + c.size + d.size) := by simp [fsum]
theorem two_small {a b c d : ByteArray} (h1 : a.size ≤ 1048576) (h2 : b.size ≤ 1048576) (h3 : c.size ≤ 1048576) (h4 : d.size ≤ 1048576) : ∀ f ∈ [(a, b), (c, d)], f.1.size ≤ 1048576 ∧ f.2.size ≤ 1048576 := by
  intro f hf
  rcases List.mem_cons.1 hf with rfl | hf
  · exact ⟨h1, h2⟩
  · rw [List.mem_singleton.1 hf]
    exact ⟨h3, h4⟩
theorem one_small {a b : ByteArray} (h1 : a.size ≤ 1048576) (h2 : b.size ≤ 1048576) : ∀ f ∈ [(a, b)], f.1.size ≤ 1048576 ∧ f.2.size ≤ 1048576 := by
  intro f hf
  rw [List.mem_singleton.1 hf]
  exact ⟨h1, h2⟩
end Go.Proofs.YtonlfplloenfcaaGreatDoor
namespace Go.Proofs.YtonlfplloenfcaaGreatDoor

/-- A number above 0 as digits to a base from 2 on, by a table; of 0 none. -/
def digP (b : Nat) (t : Nat → UInt8) : Nat → Nat → List UInt8
  | 0, _ => []
  | f + 1, n => if n = 0 then [] else digP b t f (n / b) ++ [t (n % b)]
theorem digP_fuel (b : Nat) (hb : 2 ≤ b) (t : Nat → UInt8) : ∀ (f g n : Nat), n < f → n < g → digP b t f n = digP b t g n
  | 0, _, _, h, _ => by omega
  | _, 0, _, _, h => by omega
  | f + 1, g + 1, n, hf, hg => by
    unfold digP
    split
    · rfl
    · have h1 : n / b < n := Nat.div_lt_self (by omega) (by omega)
      rw [digP_fuel b hb t f g (n / b) (by omega) (by omega)]
def digL (b : Nat) (t : Nat → UInt8) (n : Nat) : List UInt8 := digP b t (n + 1) n
theorem digL_zero (b : Nat) (t : Nat → UInt8) : digL b t 0 = [] := rfl
theorem digL_step (b : Nat) (hb : 2 ≤ b) (t : Nat → UInt8) (n : Nat) (h : n ≠ 0) : digL b t n = digL b t (n / b) ++ [t (n % b)] := by
  have h1 : n / b < n := Nat.div_lt_self (by omega) (by omega)
  show digP b t (n + 1) n = _
  rw [digP, if_neg h, digP_fuel b hb t n (n / b + 1) (n / b) h1 (by omega)]
  rfl
theorem digL_all (b : Nat) (hb : 2 ≤ b) (t : Nat → UInt8) (p : UInt8 → Bool) (hp : ∀ d, d < b → p (t d) = true) : ∀ n : Nat, (digL b t n).all p = true
  | 0 => rfl
  | n + 1 => by
    rw [digL_step b hb t (n + 1) (by omega), List.all_append, digL_all b hb t p hp ((n + 1) / b)]
    simp [hp _ (Nat.mod_lt (n + 1) (by omega : b > 0))]
decreasing_by exact Nat.div_lt_self (by omega) (by omega)
theorem digL_value (b : Nat) (hb : 2 ≤ b) (t : Nat → UInt8) (v : UInt8 → Nat) (hv : ∀ d, d < b → v (t d) = d) : ∀ n : Nat, (digL b t n).foldl (fun a x => b * a + v x) 0 = n
  | 0 => rfl
  | n + 1 => by
    rw [digL_step b hb t (n + 1) (by omega), List.foldl_append, digL_value b hb t v hv ((n + 1) / b)]
    simp only [List.foldl_cons, List.foldl_nil, hv _ (Nat.mod_lt (n + 1) (by omega : b > 0))]
    exact Nat.div_add_mod (n + 1) b
decreasing_by exact Nat.div_lt_self (by omega) (by omega)
theorem digL_len (b : Nat) (hb : 2 ≤ b) (t : Nat → UInt8) : ∀ (k n : Nat), n < b ^ k → (digL b t n).length ≤ k
  | 0, n, h => by
    have : n = 0 := by simpa using h
    subst this
    simp [digL_zero]
  | k + 1, n, h => by
    by_cases h0 : n = 0
    · subst h0
      simp [digL_zero]
    · rw [digL_step b hb t n h0, List.length_append, List.length_cons, List.length_nil]
      have := digL_len b hb t k (n / b) (Nat.div_lt_of_lt_mul (by rw [Nat.mul_comm, ← Nat.pow_succ]; exact h))
      omega
theorem digL_head (b : Nat) (hb : 2 ≤ b) (t : Nat → UInt8) : ∀ n : Nat, n ≠ 0 → ∃ d r, 1 ≤ d ∧ d < b ∧ digL b t n = t d :: r
  | 0, h => absurd rfl h
  | n + 1, h => by
    rw [digL_step b hb t (n + 1) h]
    by_cases h0 : (n + 1) / b = 0
    · rw [h0, digL_zero]
      refine ⟨(n + 1) % b, [], ?_, Nat.mod_lt _ (by omega), rfl⟩
      have := Nat.div_add_mod (n + 1) b
      rw [h0] at this
      omega
    · obtain ⟨d, r, h1, h2, h3⟩ := digL_head b hb t ((n + 1) / b) h0
      exact ⟨d, r ++ [t ((n + 1) % b)], h1, h2, by rw [h3]; rfl⟩
decreasing_by exact Nat.div_lt_self (by omega) (by omega)

/-- Digits to the base 10. -/
def dec1 (d : Nat) : UInt8 := UInt8.ofNat (48 + d)
def decT (n : Nat) : List UInt8 := digL 10 dec1 (n / 10) ++ [dec1 (n % 10)]
theorem dec1_val (d : Nat) (h : d < 10) : (dec1 d).toNat - 48 = d := by
  have := (dig_of d h).2
  unfold dec1
  rw [this]
  omega
theorem decT_all (n : Nat) : (decT n).all digB = true := by
  unfold decT
  rw [List.all_append, digL_all 10 (by omega) dec1 digB (fun d h => (dig_of d h).1)]
  rw [List.all_cons, List.all_nil, show digB (dec1 (n % 10)) = true from (dig_of (n % 10) (Nat.mod_lt _ (by omega))).1]
  rfl
theorem decT_ne (n : Nat) : decT n ≠ [] := by unfold decT; simp
theorem decT_value (n : Nat) : decN (decT n) = n := by
  have h := digL_value 10 (by omega) dec1 (fun x => x.toNat - 48) (fun d h => dec1_val d h) (n / 10)
  have h2 : decN (digL 10 dec1 (n / 10)) = n / 10 := h
  unfold decT
  show List.foldl (fun n x => 10 * n + (x.toNat - 48)) 0 (digL 10 dec1 (n / 10) ++ [dec1 (n % 10)]) = n
  rw [List.foldl_append]
  show 10 * decN (digL 10 dec1 (n / 10)) + ((dec1 (n % 10)).toNat - 48) = n
  rw [h2, dec1_val _ (Nat.mod_lt _ (by omega))]
  exact Nat.div_add_mod n 10
theorem decT_ok (n : Nat) : digitsOK (decT n) = true := by
  unfold digitsOK
  rw [decT_all, Bool.and_true]
  cases h : decT n with
  | nil => exact absurd h (decT_ne n)
  | cons x r => rfl
theorem decT_big (n : Nat) (h : 10 ≤ n) : ∃ d r, 1 ≤ d ∧ d < 10 ∧ decT n = dec1 d :: r := by
  obtain ⟨d, r, h1, h2, h3⟩ := digL_head 10 (by omega) dec1 (n / 10) (by omega)
  exact ⟨d, r ++ [dec1 (n % 10)], h1, h2, by unfold decT; rw [h3]; rfl⟩
theorem decT_len (n : Nat) (h : n < 10 ^ 10) : (decT n).length ≤ 10 := by
  unfold decT
  rw [List.length_append]
  have := digL_len 10 (by omega) dec1 9 (n / 10) (by omega)
  simp
  omega
/-- Two numbers with the same digits, noughts left out, are the same. -/
theorem bare_value {x y : List UInt8} (h : bareS x = bareS y) : decN x = decN y := by rw [← decN_bare x, ← decN_bare y, h]

/-- Great digits to the base 16. -/
def hexU1 (d : Nat) : UInt8 := if d < 10 then UInt8.ofNat (48 + d) else UInt8.ofNat (55 + d)
theorem hexU_facts : ∀ d : Fin 16, hexOK (hexU1 d.val) = true ∧ hexD (hexU1 d.val) = d.val := by decide +kernel
def hexUT (n : Nat) : List UInt8 := digL 16 hexU1 n
theorem hexUT_all (n : Nat) : (hexUT n).all hexOK = true := digL_all 16 (by omega) hexU1 hexOK (fun d h => (hexU_facts ⟨d, h⟩).1) n
theorem hexUT_value (n : Nat) : hexN (hexUT n) = n := digL_value 16 (by omega) hexU1 hexD (fun d h => (hexU_facts ⟨d, h⟩).2) n
theorem hexUT_len (n : Nat) (h : n < 16 ^ 4) : (hexUT n).length ≤ 4 := digL_len 16 (by omega) hexU1 4 n h
end Go.Proofs.YtonlfplloenfcaaGreatDoor
namespace Go.Proofs.YtonlfplloenfcaaGreatDoor

theorem cutC_last (c : UInt8) : ∀ a : List UInt8, ∃ i q, cutC c a = i ++ [q] ∧ ∀ b : List UInt8, (∀ x ∈ b, x ≠ c) → cutC c (a ++ b) = i ++ [q ++ b]
  | [] => ⟨[], [], rfl, fun b hb => cutC_miss c b hb⟩
  | x :: a => by
    obtain ⟨i, q, h1, h2⟩ := cutC_last c a
    by_cases hx : x = c
    · subst hx
      refine ⟨[] :: i, q, by rw [cutC_eq, h1]; rfl, fun b hb => ?_⟩
      rw [List.cons_append, cutC_eq, h2 b hb]
      rfl
    · cases i with
      | nil => exact ⟨[], x :: q, cutC_cons a hx h1, fun b hb => cutC_cons (a ++ b) hx (h2 b hb)⟩
      | cons y i => exact ⟨(x :: y) :: i, q, cutC_cons a hx h1, fun b hb => cutC_cons (a ++ b) hx (h2 b hb)⟩
theorem dig_blank (x : UInt8) (h : digB x = true) : blankB x = false ∧ x ≠ 44 := by
  have h1 := all_bytes (p := fun x => !digB x || (!blankB x && x != 44)) (by decide +kernel) x
  simpa [h] using h1
theorem drop_none {α : Type} {p : α → Bool} : ∀ l : List α, (∀ x ∈ l, p x = false) → l.dropWhile p = l
  | [], _ => rfl
  | x :: r, h => by rw [List.dropWhile_cons_of_neg (by simp [h x List.mem_cons_self])]
theorem trim_digits {v : List UInt8} (h : v.all digB = true) : trimmed v = v := by
  have h1 : ∀ x ∈ v, blankB x = false := fun x hx => (dig_blank x (List.all_eq_true.1 h x hx)).1
  rw [trimmed_eq, drop_none v h1, drop_none v.reverse (fun x hx => h1 x (List.mem_reverse.1 hx)), List.reverse_reverse]
/-- What stands between two numbers. -/
def sepB : Nat → List UInt8
  | 0 => [32, 44]
  | 1 => [44, 48]
  | _ => [9, 44, 32, 48, 48]
def allT (s : List UInt8) : Nat → List UInt8
  | 0 => s
  | i + 1 => allT s i ++ sepB (i % 3) ++ s
/-- A part: noughts, and a number. -/
def Part (s p : List UInt8) : Prop := ∃ z, trimmed p = List.replicate z 48 ++ s
theorem zeros_dig (z : Nat) (s : List UInt8) (h : s.all digB = true) : (List.replicate z 48 ++ s).all digB = true := by
  rw [List.all_append, h, List.all_eq_true.2 fun x hx => by rw [List.eq_of_mem_replicate hx]; decide]
  rfl
theorem all_parts (s : List UInt8) (h : s.all digB = true) : ∀ i : Nat, ∃ a l z, cutC 44 (allT s i) = a ++ [l ++ (List.replicate z 48 ++ s)] ∧ (∀ x ∈ l, blankB x = true) ∧ (∀ p ∈ a, Part s p) ∧
    ∀ b : List UInt8, (∀ x ∈ b, x ≠ 44) → cutC 44 (allT s i ++ b) = a ++ [(l ++ (List.replicate z 48 ++ s)) ++ b]
  | 0 => by
    have h1 : ∀ x ∈ s, x ≠ 44 := fun x hx => (dig_blank x (List.all_eq_true.1 h x hx)).2
    refine ⟨[], [], 0, cutC_miss 44 s h1, by simp, by simp, fun b hb => ?_⟩
    exact cutC_miss 44 (s ++ b) fun x hx => (List.mem_append.1 hx).elim (h1 x) (hb x)
  | i + 1 => by
    have h1 : ∀ x ∈ s, x ≠ 44 := fun x hx => (dig_blank x (List.all_eq_true.1 h x hx)).2
    obtain ⟨a, l, z, e1, hl, ha, e2⟩ := all_parts s h i
    have hsep : ∃ b m y, sepB (i % 3) = b ++ 44 :: (m ++ List.replicate y 48) ∧ (∀ x ∈ b, blankB x = true) ∧ (∀ x ∈ m, blankB x = true) := by
      have h3 : i % 3 = 0 ∨ i % 3 = 1 ∨ i % 3 = 2 := by omega
      rcases h3 with h | h | h
      · exact ⟨[32], [], 0, by rw [h]; rfl, by decide, by decide⟩
      · exact ⟨[], [], 1, by rw [h]; rfl, by decide, by decide⟩
      · exact ⟨[9], [32], 2, by rw [h]; rfl, by decide, by decide⟩
    obtain ⟨b, m, y, hs, hb, hm⟩ := hsep
    have hb4 : ∀ x ∈ b, x ≠ 44 := fun x hx e => by
      have := hb x hx
      rw [e] at this
      exact absurd this (by decide)
    have hr4 : ∀ x ∈ m ++ (List.replicate y 48 ++ s), x ≠ 44 := fun x hx => by
      rcases List.mem_append.1 hx with h2 | h2
      · intro e
        have := hm x h2
        rw [e] at this
        exact absurd this (by decide)
      · rcases List.mem_append.1 h2 with h3 | h3
        · rw [List.eq_of_mem_replicate h3]; decide
        · exact h1 x h3
    have e3 : allT s (i + 1) = (allT s i ++ b) ++ 44 :: (m ++ (List.replicate y 48 ++ s)) := by
      rw [allT, hs]
      simp
    have hpart : Part s ((l ++ (List.replicate z 48 ++ s)) ++ b) := by
      refine ⟨z, ?_⟩
      rw [List.append_assoc, trimmed_pad l _ b hl hb, trim_digits (zeros_dig z s h)]
    refine ⟨a ++ [(l ++ (List.replicate z 48 ++ s)) ++ b], m, y, ?_, hm, ?_, ?_⟩
    · rw [e3, cutC_append, e2 b hb4, cutC_miss 44 _ hr4]
    · intro p hp
      rcases List.mem_append.1 hp with h2 | h2
      · exact ha p h2
      · rw [List.mem_singleton.1 h2]
        exact hpart
    · intro d hd
      have e4 : allT s (i + 1) ++ d = (allT s i ++ b) ++ 44 :: ((m ++ (List.replicate y 48 ++ s)) ++ d) := by rw [e3]; simp
      rw [e4, cutC_append, e2 b hb4, cutC_miss 44 _ (fun x hx => (List.mem_append.1 hx).elim (hr4 x) (hd x))]
theorem all_part (s : List UInt8) (h : s.all digB = true) (i : Nat) : ∀ p ∈ cutC 44 (allT s i), Part s p := by
  obtain ⟨a, l, z, e1, hl, ha, _⟩ := all_parts s h i
  rw [e1]
  intro p hp
  rcases List.mem_append.1 hp with h2 | h2
  · exact ha p h2
  · rw [List.mem_singleton.1 h2]
    refine ⟨z, ?_⟩
    have := trimmed_pad l (List.replicate z 48 ++ s) [] hl (by simp)
    rw [List.append_nil] at this
    rw [this, trim_digits (zeros_dig z s h)]
theorem bare_zeros (s : List UInt8) : ∀ z : Nat, bareS (List.replicate z 48 ++ s) = bareS s
  | 0 => rfl
  | z + 1 => by
    rw [List.replicate_succ, List.cons_append]
    unfold bareS
    rw [List.dropWhile_cons_of_pos (by decide)]
    exact bare_zeros s z
theorem part_ok {n : Nat} {p : List UInt8} (h : Part (decT n) p) : digitsOK (trimmed p) = true ∧ bareS (trimmed p) = bareS (decT n) ∧ decN (trimmed p) = n := by
  obtain ⟨z, h⟩ := h
  rw [h]
  refine ⟨?_, bare_zeros _ z, ?_⟩
  · unfold digitsOK
    rw [zeros_dig z _ (decT_all n), Bool.and_true]
    cases e : List.replicate z 48 ++ decT n with
    | nil => exact absurd (List.append_eq_nil_iff.1 e).2 (decT_ne n)
    | cons x r => rfl
  · rw [← decN_bare, bare_zeros, decN_bare, decT_value]
/-- The parts of so many fields with a number, and one with all of it. -/
def lenParts (n t : Nat) : List (List UInt8) := partsA (List.replicate t (decT n) ++ [allT (decT n) t])
theorem len_parts (n t : Nat) : ∀ x ∈ lenParts n t, digitsOK x = true ∧ bareS x = bareS (decT n) ∧ decN x = n := by
  intro x hx
  unfold lenParts partsA at hx
  obtain ⟨p, hp, rfl⟩ := List.mem_map.1 hx
  obtain ⟨y, hy, hpy⟩ := List.mem_flatMap.1 hp
  rcases List.mem_append.1 hy with h | h
  · rw [List.eq_of_mem_replicate h] at hpy
    exact part_ok (all_part _ (decT_all n) 0 p hpy)
  · rw [List.mem_singleton.1 h] at hpy
    exact part_ok (all_part _ (decT_all n) t p hpy)
theorem len_ne (n t : Nat) : ∃ x r, lenParts n t = x :: r := by
  cases h : lenParts n t with
  | cons x r => exact ⟨x, r, rfl⟩
  | nil =>
    unfold lenParts partsA at h
    rw [List.map_eq_nil_iff, List.flatMap_append] at h
    have h2 := (List.append_eq_nil_iff.1 h).2
    obtain ⟨a, b, e⟩ := cutC_ne 44 (allT (decT n) t)
    simp [e] at h2
theorem len_told (n t : Nat) : lenA (lenParts n t) = if n ≤ 65536 then (1, (n : Int), 0) else (0, 0, 3) := by
  obtain ⟨x, r, e⟩ := len_ne n t
  have hall := len_parts n t
  rw [e] at hall ⊢
  obtain ⟨h1, h2, h3⟩ := hall x List.mem_cons_self
  unfold lenA likeB
  rw [List.headD_cons, List.all_eq_true.2 fun y hy => (hall y hy).1, List.all_eq_true.2 fun y hy => beq_iff_eq.2 ((hall y hy).2.1.trans h2.symm), h3]
  rfl
theorem len_other (n t o : Nat) : lenA (partsA (List.replicate t (decT n) ++ [allT (decT n) t] ++ [decT o])) = if o = n then (if n ≤ 65536 then (1, (n : Int), 0) else (0, 0, 3)) else (0, 0, 9) := by
  obtain ⟨x, r, e⟩ := len_ne n t
  have hall := len_parts n t
  have e2 : partsA (List.replicate t (decT n) ++ [allT (decT n) t] ++ [decT o]) = x :: (r ++ [decT o]) := by
    have h1 : partsA (List.replicate t (decT n) ++ [allT (decT n) t] ++ [decT o]) = lenParts n t ++ partsA [decT o] := by
      unfold lenParts partsA
      rw [List.flatMap_append, List.map_append]
    have h2 : partsA [decT o] = [decT o] := by
      unfold partsA
      rw [List.flatMap_cons, List.flatMap_nil, List.append_nil, cutC_miss 44 _ fun y hy => (dig_blank y (List.all_eq_true.1 (decT_all o) y hy)).2]
      simp [trim_digits (decT_all o)]
    rw [h1, h2, e]
    rfl
  rw [e2]
  rw [e] at hall
  obtain ⟨h1, h2, h3⟩ := hall x List.mem_cons_self
  unfold lenA likeB
  have a1 : (x :: (r ++ [decT o])).all digitsOK = true := by
    rw [List.all_eq_true]
    intro y hy
    rw [← List.cons_append] at hy
    rcases List.mem_append.1 hy with h | h
    · exact (hall y h).1
    · rw [List.mem_singleton.1 h]; exact decT_ok o
  rw [a1, List.headD_cons, h3]
  by_cases ho : o = n
  · subst ho
    rw [List.all_eq_true.2 fun y hy => by
      rw [← List.cons_append] at hy
      rcases List.mem_append.1 hy with h | h
      · exact beq_iff_eq.2 ((hall y h).2.1.trans h2.symm)
      · rw [List.mem_singleton.1 h]; exact beq_iff_eq.2 h2.symm]
    rw [if_pos rfl]
    rfl
  · have a2 : (x :: (r ++ [decT o])).all (fun y => bareS y == bareS x) = false := by
      rw [Bool.eq_false_iff]
      intro h
      have h4 := List.all_eq_true.1 h (decT o) (by simp)
      have h5 := bare_value ((beq_iff_eq.1 h4).trans h2)
      rw [decT_value, decT_value] at h5
      exact ho h5
    rw [a2, if_neg ho]
    rfl
end Go.Proofs.YtonlfplloenfcaaGreatDoor
namespace Go.Proofs.YtonlfplloenfcaaGreatDoor

def clX : ByteArray := ⟨#[99, 111, 110, 116, 101, 110, 116, 45, 76, 69, 78, 71, 84, 72]⟩
def strT (l : List UInt8) : ByteArray := ⟨l.toArray⟩
def lenFs (n t : Nat) : List Fd := List.replicate t (clX, strT (decT n)) ++ [(clB, strT (allT (decT n) t))]
def lenFs2 (n t o : Nat) : List Fd := lenFs n t ++ [(clB, strT (decT o))]
theorem same_xt : sameB clX.data.toList teB.data.toList = false := by decide +kernel
theorem same_xc : sameB clX.data.toList clB.data.toList = true := by decide +kernel
theorem find_rep_t (d : ByteArray) : ∀ t : Nat, findB (List.replicate t (clX, d)) teB = []
  | 0 => rfl
  | t + 1 => by
    have ih := find_rep_t d t
    unfold findB at ih ⊢
    rw [List.replicate_succ, List.filter_cons]
    simp only [same_xt]
    exact ih
theorem find_rep_c (d : ByteArray) : ∀ t : Nat, findB (List.replicate t (clX, d)) clB = List.replicate t d
  | 0 => rfl
  | t + 1 => by
    have ih := find_rep_c d t
    unfold findB at ih ⊢
    rw [List.replicate_succ, List.filter_cons]
    simp only [same_xc]
    rw [if_pos trivial, List.map_cons, ih, List.replicate_succ]
theorem get_none : howNone ⟨#[71, 69, 84]⟩ 200 = false := by decide +kernel
theorem find_one_t (d : ByteArray) : findB [(clB, d)] teB = [] := by simp [findB, same_ct]
theorem find_one_c (d : ByteArray) : findB [(clB, d)] clB = [d] := by simp [findB, same_cc]
theorem len_m (n t : Nat) : howM ⟨#[71, 69, 84]⟩ 200 (lenFs n t) = if n ≤ 65536 then (1, (n : Int), 0) else (0, 0, 3) := by
  have h1 : findB (lenFs n t) teB = [] := by
    unfold lenFs
    rw [findB_append, find_rep_t, find_one_t]
    rfl
  have h2 : findB (lenFs n t) clB = List.replicate t (strT (decT n)) ++ [strT (allT (decT n) t)] := by
    unfold lenFs
    rw [findB_append, find_rep_c, find_one_c]
  rw [howM_codes get_none h1 h2, howA_len rfl (by simp)]
  have h3 : (List.replicate t (strT (decT n)) ++ [strT (allT (decT n) t)]).map (·.data.toList) = List.replicate t (decT n) ++ [allT (decT n) t] := by
    rw [List.map_append, List.map_replicate]
    rfl
  rw [h3]
  exact len_told n t
theorem len_m2 (n t o : Nat) : howM ⟨#[71, 69, 84]⟩ 200 (lenFs2 n t o) = if o = n then (if n ≤ 65536 then (1, (n : Int), 0) else (0, 0, 3)) else (0, 0, 9) := by
  have h1 : findB (lenFs2 n t o) teB = [] := by
    unfold lenFs2 lenFs
    rw [findB_append, findB_append, find_rep_t, find_one_t, find_one_t]
    rfl
  have h2 : findB (lenFs2 n t o) clB = List.replicate t (strT (decT n)) ++ [strT (allT (decT n) t)] ++ [strT (decT o)] := by
    unfold lenFs2 lenFs
    rw [findB_append, findB_append, find_rep_c, find_one_c, find_one_c]
  rw [howM_codes get_none h1 h2, howA_len rfl (by simp)]
  have h3 : (List.replicate t (strT (decT n)) ++ [strT (allT (decT n) t)] ++ [strT (decT o)]).map (·.data.toList) = List.replicate t (decT n) ++ [allT (decT n) t] ++ [decT o] := by
    rw [List.map_append, List.map_append, List.map_replicate]
    rfl
  rw [h3]
  exact len_other n t o
theorem fsum_append (a b : List Fd) : fsum (a ++ b) = fsum a + fsum b := by simp [fsum]
theorem fsum_rep (f : Fd) : ∀ t : Nat, fsum (List.replicate t f) = t * (2 + f.1.size + f.2.size)
  | 0 => by simp [fsum]
  | t + 1 => by
    have ih := fsum_rep f t
    rw [List.replicate_succ, show f :: List.replicate t f = [f] ++ List.replicate t f from rfl, fsum_append, ih, Nat.succ_mul]
    simp [fsum]
    omega
theorem sep_len (k : Nat) : (sepB k).length ≤ 5 := by
  match k with
  | 0 => decide
  | 1 => decide
  | k + 2 => exact Nat.le_of_eq rfl
theorem allT_len (s : List UInt8) : ∀ t : Nat, (allT s t).length ≤ (t + 1) * s.length + 5 * t
  | 0 => by simp [allT]
  | t + 1 => by
    have ih := allT_len s t
    have := sep_len (t % 3)
    unfold allT
    rw [List.length_append, List.length_append, Nat.succ_mul (t + 1) s.length]
    omega
end Go.Proofs.YtonlfplloenfcaaGreatDoor
namespace Go.Proofs.YtonlfplloenfcaaGreatDoor

theorem hexd_fin : ∀ y : Fin 16, hexOK (hexd y.val) = true ∧ hexD (hexd y.val) = y.val ∧ ctrlOK (hexd y.val) = true := by decide +kernel
theorem hexd_facts (y : Nat) (h : y < 16) : hexOK (hexd y) = true ∧ hexD (hexd y) = y ∧ ctrlOK (hexd y) = true := hexd_fin ⟨y, h⟩
theorem hexN_snoc (l : List UInt8) (x : UInt8) : hexN (l ++ [x]) = 16 * hexN l + hexD x := by
  unfold hexN
  rw [List.foldl_append]
  rfl
theorem hexB_facts : ∀ (k x : Nat), x < 16 ^ (k + 1) → (hexB x).all hexOK = true ∧ hexN (hexB x) = x ∧ plainB (hexB x) = true ∧ 1 ≤ (hexB x).length
  | 0, x, h => by
    obtain ⟨h1, h2, h3⟩ := hexd_facts x (by simpa using h)
    rw [hexB_small (by simpa using h)]
    refine ⟨by simp [h1], ?_, by simp [plainB, h3], by simp⟩
    have := hexN_snoc [] (hexd x)
    rw [List.nil_append] at this
    rw [this, h2]
    simp [hexN]
  | k + 1, x, h => by
    by_cases hx : x < 16
    · obtain ⟨h1, h2, h3⟩ := hexd_facts x hx
      rw [hexB_small hx]
      refine ⟨by simp [h1], ?_, by simp [plainB, h3], by simp⟩
      have := hexN_snoc [] (hexd x)
      rw [List.nil_append] at this
      rw [this, h2]
      simp [hexN]
    · obtain ⟨i1, i2, i3, i4⟩ := hexB_facts k (x / 16) (Nat.div_lt_of_lt_mul (by rw [Nat.pow_succ, Nat.mul_comm] at h; exact h))
      obtain ⟨h1, h2, h3⟩ := hexd_facts (x % 16) (by omega)
      rw [hexB_big (by omega)]
      refine ⟨by rw [List.all_append, i1]; simp [h1], ?_, ?_, by simp⟩
      · rw [hexN_snoc, i2, h2]; omega
      · unfold plainB at i3 ⊢
        rw [List.all_append, i3]; simp [h3]
theorem takeWhile_all {α : Type} {p : α → Bool} : ∀ {l : List α}, l.all p = true → l.takeWhile p = l ∧ l.dropWhile p = []
  | [], _ => ⟨rfl, rfl⟩
  | x :: r, h => by
    rw [List.all_cons, Bool.and_eq_true] at h
    obtain ⟨h1, h2⟩ := takeWhile_all h.2
    exact ⟨by rw [List.takeWhile_cons, if_pos h.1, h1], by rw [List.dropWhile_cons, if_pos h.1, h2]⟩
theorem size_hex (v : Nat) (h1 : v ≤ 65536) : sizeOK (hexB v) = true ∧ sizeN (hexB v) = v := by
  obtain ⟨i1, i2, i3, i4⟩ := hexB_facts 4 v (by omega)
  have hl := hexB_len 4 v (by omega)
  obtain ⟨t1, t2⟩ := takeWhile_all i1
  unfold sizeOK sizeN sizeW sizeD
  rw [t1, t2, i3, i2, decide_eq_true i4, decide_eq_true (by omega)]
  exact ⟨rfl, rfl⟩
theorem line_of {x : List UInt8} (hx : ∀ j, ¬ eolAt x j) (hl : x.length ≤ 65536) (r : List UInt8) : lineA (x ++ (13 :: 10 :: r)) = .line x.length := by
  refine line_mk hl ?_ fun j hj hc => ?_
  · unfold eolAt
    have h0 := behind (x := x) (r := 13 :: 10 :: r) 0
    have h1 := behind (x := x) (r := 13 :: 10 :: r) 1
    simp only [Nat.add_zero] at h0
    rw [h0, h1]
    exact ⟨rfl, rfl⟩
  · have := line_at hx hc
    omega
theorem take_line (x r : List UInt8) : (x ++ r).take x.length = x := List.take_left
theorem drop_line (x r : List UInt8) : (x ++ (13 :: 10 :: r)).drop (x.length + 2) = r := by
  rw [List.drop_append]; simp
def lastB : List UInt8 := [48, 13, 10, 13, 10]
theorem last_done (f all : Nat) : chunkG (f + 2) all lastB = .done [] [] := by
  have h1 : lineA lastB = .line 1 := line_of (x := [48]) (fun j => eol_of_13 (by decide) j) (by decide) [13, 10]
  have h2 : lineA [13, 10] = .line 0 := line_of (x := []) (fun j => eol_of_13 (by decide) j) (by decide) []
  unfold chunkG
  rw [h1]
  simp only
  rw [if_pos (by decide), if_pos (by decide)]
  show TrailA.chunk (trailG (f + 1) [13, 10]) = _
  unfold trailG
  rw [h2]
  rfl
theorem put_back (s : Nat) (l : List UInt8) (m : Nat) (hs : 1 ≤ s) (hl : l.length ≤ 65536) (hm : l.length ≤ m * s) (hm2 : m = 0 ∨ (m - 1) * s < l.length) :
    ∀ (j : Nat), j ≤ m → ∀ (f all : Nat), all + (l.length - (m - j) * s) ≤ 65536 → ((List.range' (m - j) j).flatMap (chunkT s l) ++ lastB).length < f →
      chunkG f all ((List.range' (m - j) j).flatMap (chunkT s l) ++ lastB) = .done (l.drop ((m - j) * s)) []
  | 0, _, f, all, _, hf => by
    obtain ⟨f, rfl⟩ : ∃ g, f = g + 2 := ⟨f - 2, by simp [lastB] at hf; omega⟩
    have e : (List.range' (m - 0) 0).flatMap (chunkT s l) ++ lastB = lastB := rfl
    rw [e, last_done, List.drop_eq_nil_of_le (by omega)]
  | j + 1, hj, f, all, ha, hf => by
    obtain ⟨f, rfl⟩ : ∃ g, f = g + 1 := ⟨f - 1, by omega⟩
    obtain ⟨k, hk⟩ : ∃ k, m - (j + 1) = k := ⟨_, rfl⟩
    rw [hk] at hf ha ⊢
    have hk1 : k + 1 = m - j := by omega
    have hks : k * s < l.length := by
      rcases hm2 with h0 | h0
      · omega
      · exact Nat.lt_of_le_of_lt (Nat.mul_le_mul_right s (by omega)) h0
    rw [List.range'_succ, List.flatMap_cons] at hf ⊢
    have ih := put_back s l m hs hl hm hm2 j (by omega) f (all + min s (l.length - k * s)) (by
      rw [← hk1, Nat.succ_mul]; omega) (by
      rw [← hk1]
      simp only [List.length_append] at hf ⊢
      have h4 : 4 ≤ (chunkT s l k).length := by unfold chunkT; simp; omega
      omega)
    rw [← hk1] at ih
    generalize hT : List.flatMap (chunkT s l) (List.range' (k + 1) j) ++ lastB = T at ih
    rw [List.append_assoc, hT]
    have hv : min s (l.length - k * s) ≤ 65536 := by omega
    have hv1 : 1 ≤ min s (l.length - k * s) := by omega
    have hpl : ((l.drop (k * s)).take s).length = min s (l.length - k * s) := by rw [List.length_take, List.length_drop]
    have e : chunkT s l k ++ T = hexB (min s (l.length - k * s)) ++ (13 :: 10 :: ((l.drop (k * s)).take s ++ (13 :: 10 :: T))) := by
      unfold chunkT; simp
    rw [e]
    obtain ⟨i1, i2, i3, i4⟩ := hexB_facts 4 (min s (l.length - k * s)) (by omega)
    have hhl := hexB_len 4 (min s (l.length - k * s)) (by omega)
    obtain ⟨z1, z2⟩ := size_hex (min s (l.length - k * s)) hv
    have hline := line_of (x := hexB (min s (l.length - k * s))) (fun j => eol_of_13 (plain_13 i3) j) (by omega) ((l.drop (k * s)).take s ++ (13 :: 10 :: T))
    unfold chunkG
    rw [hline]
    simp only
    rw [take_line, drop_line, z1, z2, if_pos rfl, if_neg (by omega), if_neg (by omega), ← hpl, List.drop_left, List.take_left, hpl]
    rw [show endA (13 :: 10 :: T) = .next T from rfl]
    simp only
    rw [ih]
    show ChunkA.done (List.take s (l.drop (k * s)) ++ l.drop ((k + 1) * s)) [] = .done (l.drop (k * s)) []
    congr 1
    conv => rhs; rw [← List.take_append_drop s (l.drop (k * s))]
    rw [List.drop_drop, Nat.succ_mul]
theorem put_read (s : Nat) (l : List UInt8) (m : Nat) (hs : 1 ≤ s) (hl : l.length ≤ 65536) (hm : l.length ≤ m * s) (hm2 : m = 0 ∨ (m - 1) * s < l.length) :
    chunkA ((List.range m).flatMap (chunkT s l) ++ lastB) = .done l [] := by
  have h := put_back s l m hs hl hm hm2 m (Nat.le_refl _) (((List.range m).flatMap (chunkT s l) ++ lastB).length + 1) 0 (by omega) (by rw [Nat.sub_self, ← List.range_eq_range']; omega)
  rw [Nat.sub_self, ← List.range_eq_range', Nat.zero_mul] at h
  exact h
/-- Of fewer bytes a beginning of the body is told, and it is not done. -/
theorem part_of {P l : List UInt8} (h : chunkA P = .done l []) (k : Nat) (hk : k < P.length) : ∃ x z, chunkA (P.take k) = .more x ∧ l = x ++ z := by
  have ho := chunkA_on (P.take k) (P.drop k)
  rw [List.take_append_drop, h] at ho
  cases hc : chunkA (P.take k) with
  | err e => rw [hc] at ho; cases ho
  | done b q =>
    rw [hc] at ho
    have ho2 : ChunkA.done l [] = .done b (q ++ P.drop k) := ho
    injection ho2 with _ h2
    have := congrArg List.length h2
    simp only [List.length_append, List.length_drop, List.length_nil] at this
    omega
  | more x =>
    rw [hc] at ho
    obtain ⟨⟨z, hz⟩, _⟩ := (show (∃ z, l = x ++ z) ∧ _ from ho)
    exact ⟨x, z, rfl, hz⟩
theorem whole_of {P l : List UInt8} (h : chunkA P = .done l []) (m : List UInt8) : chunkA (P ++ m) = .done l m := by
  have ho := chunkA_on P m
  rw [h] at ho
  exact ho
end Go.Proofs.YtonlfplloenfcaaGreatDoor
namespace Go.Proofs.YtonlfplloenfcaaGreatDoor
open Go.RowKit

def ansT (v : UInt8) (k : Nat) (wd pb qb : ByteArray) (fs : List Fd) : List UInt8 := joinL (ansLine v k wd.data.toList :: fs.map (padLine pb.data.toList qb.data.toList))
def ansX (v : UInt8) (k : Nat) (wd pb qb : ByteArray) (fs : List Fd) : ByteArray := ⟨(ansT v k wd pb qb fs).toArray⟩
theorem ansX_size (v : UInt8) (k : Nat) (wd pb qb : ByteArray) (fs : List Fd) : (ansX v k wd pb qb fs).size = (ansT v k wd pb qb fs).length := by
  show ((ansT v k wd pb qb fs).toArray).size = _
  rw [List.size_toArray]
theorem byte_ext {a b : ByteArray} (h : a.data.toList = b.data.toList) : a = b := ByteArray.ext (Array.toList_inj.1 h)
theorem ansX_first (v : UInt8) (k : Nat) (wd pb qb : ByteArray) (x1 x2 x3 : Nat) (h1 : k / 100 = x1) (h2 : k / 10 % 10 = x2) (h3 : k % 10 = x3) :
    (⟨#[72, 84, 84, 80, 47, 49, 46]⟩ ++ ⟨#[v]⟩ ++ ⟨#[32]⟩ ++ ⟨#[48 + UInt8.ofNat x1, 48 + UInt8.ofNat x2, 48 + UInt8.ofNat x3]⟩ ++ wd ++ ⟨#[13, 10]⟩ : ByteArray) = ansX v k wd pb qb [] := by
  apply byte_ext
  simp only [Go.Joins.data_append]
  unfold ansX ansT ansLine
  rw [h1, h2, h3, UInt8.ofNat_add, UInt8.ofNat_add, UInt8.ofNat_add]
  simp [joinL, httpB]
theorem ansX_succ (v : UInt8) (k : Nat) (wd pb qb : ByteArray) (fs : List Fd) (j : Nat) (f : Fd) (h : fs[j]? = some f) :
    ansX v k wd pb qb (fs.take j) ++ f.1 ++ ⟨#[58]⟩ ++ pb ++ f.2 ++ qb ++ ⟨#[13, 10]⟩ = ansX v k wd pb qb (fs.take (j + 1)) := by
  apply byte_ext
  simp only [Go.Joins.data_append]
  unfold ansX ansT
  rw [List.take_add_one, h]
  simp [joinL, padLine]
theorem ansT_len (v : UInt8) (k : Nat) (wd pb qb : ByteArray) (hp : pb.size ≤ 3) (hq : qb.size ≤ 2) : ∀ fs : List Fd, (ansT v k wd pb qb fs).length ≤ 14 + wd.size + 4 * fsum fs := by
  intro fs
  have h0 : (ansLine v k wd.data.toList).length = 12 + wd.size := by
    unfold ansLine httpB
    rw [List.length_append]
    simp only [List.length_cons, List.length_nil, Array.length_toList]
    show 7 + (wd.size + 1 + 1 + 1 + 1 + 1) = _
    omega
  have key : ∀ gs : List Fd, (joinL (gs.map (padLine pb.data.toList qb.data.toList))).length ≤ 4 * fsum gs := by
    intro gs
    induction gs with
    | nil => simp [joinL]
    | cons g r ih =>
      have e : fsum (g :: r) = (2 + g.1.size + g.2.size) + fsum r := by simp [fsum]
      have e1 : (padLine pb.data.toList qb.data.toList g).length = g.1.size + (pb.size + (g.2.size + qb.size) + 1) := by
        unfold padLine
        rw [List.length_append, List.length_cons, List.length_append, List.length_append]
        rfl
      rw [List.map_cons, joinL_len_cons, e, e1]
      omega
  unfold ansT
  rw [joinL_len_cons, h0]
  have := key fs
  omega
theorem ans_g (v : UInt8) (k : Nat) (wd pb qb : ByteArray) (fs : List Fd) (hv : v = 48 ∨ v = 49) (hk1 : 100 ≤ k) (hk : k < 1000) (hw : plainB wd.data.toList = true) (hw2 : wd.data.toList = [] ∨ ∃ r, wd.data.toList = 32 :: r)
    (hp : ∀ x ∈ pb.data.toList, blankB x = true) (hq : ∀ x ∈ qb.data.toList, blankB x = true) (hf : ∀ f ∈ fs, oddF f = false) (hn : fs.length ≤ 256)
    (hl : (ansT v k wd pb qb fs).length + 2 ≤ 65536) :
    gE statusK (ansT v k wd pb qb fs ++ [13, 10]) = 0 ∧ gN statusK (ansT v k wd pb qb fs ++ [13, 10]) = ((ansT v k wd pb qb fs).length : Int) + 2 ∧ gS statusK (ansT v k wd pb qb fs ++ [13, 10]) = (k : Int) ∧ gF statusK (ansT v k wd pb qb fs ++ [13, 10]) = fs := by
  obtain ⟨h1, h2, h3, h4⟩ := answer_read v k wd.data.toList pb.data.toList qb.data.toList fs hv hk1 hk hw hw2 hp hq hf hn [] hl
  have e0 : ansT v k wd pb qb fs ++ [13, 10] = joinL (ansLine v k wd.data.toList :: fs.map (padLine pb.data.toList qb.data.toList)) ++ ([13, 10] ++ []) := by rw [List.append_nil]; rfl
  rw [← e0] at h1 h2 h3 h4
  have e : gE statusK (ansT v k wd pb qb fs ++ [13, 10]) = 0 := h1
  have f : firstL (ansT v k wd pb qb fs ++ [13, 10]) = ansLine v k wd.data.toList := h3
  unfold gS gN gF
  rw [e, if_pos rfl, if_pos rfl, if_pos rfl, f, h2, h4]
  refine ⟨rfl, rfl, ?_, rfl⟩
  show ((statusV (ansLine v k wd.data.toList) : Nat) : Int) = _
  rw [(ans_ok v k wd.data.toList hv hk1 hk hw hw2).2]
end Go.Proofs.YtonlfplloenfcaaGreatDoor
namespace Go.Proofs.YtonlfplloenfcaaGreatDoor
open Go.RowKit

def aFd : Fd := (⟨#[65]⟩, ⟨#[98]⟩)
def bodFs (how n : Nat) : List Fd := if how = 0 then [aFd, (clB, strT (decT n))] else if how = 1 then [aFd, (teB, chB)] else [aFd]
def bodH (how n : Nat) : List UInt8 := ansT 49 200 ⟨#[32, 88]⟩ ⟨#[32]⟩ ⟨#[]⟩ (bodFs how n) ++ [13, 10]
theorem odd_digits (n : Nat) : oddF (clB, strT (decT n)) = false := by
  have h1 : tokenB clB.data.toList = true := by decide +kernel
  have h3 : (strT (decT n)).data.toList = decT n := by unfold strT; simp
  have h2 : plainB (decT n) = true := by
    unfold plainB
    rw [List.all_eq_true]
    intro x hx
    have := List.all_eq_true.1 (decT_all n) x hx
    have key : ∀ x : UInt8, (!digB x || ctrlOK x) = true := all_bytes (p := fun x => !digB x || ctrlOK x) (by decide +kernel)
    have := key x
    simp_all
  unfold oddF
  rw [h3, h1, h2, trim_digits (decT_all n)]
  simp
theorem odd_bod (how n : Nat) : ∀ f ∈ bodFs how n, oddF f = false := by
  have ha : oddF aFd = false := by decide +kernel
  have ht : oddF (teB, chB) = false := by decide +kernel
  intro f hf
  unfold bodFs at hf
  split at hf
  · rcases List.mem_cons.1 hf with rfl | hf
    · exact ha
    · rcases List.mem_cons.1 hf with rfl | hf
      · exact odd_digits n
      · cases hf
  · split at hf
    · rcases List.mem_cons.1 hf with rfl | hf
      · exact ha
      · rcases List.mem_cons.1 hf with rfl | hf
        · exact ht
        · cases hf
    · rcases List.mem_cons.1 hf with rfl | hf
      · exact ha
      · cases hf
theorem bod_len (how n : Nat) (hn : n < 10 ^ 10) : (bodH how n).length ≤ 200 := by
  have h := ansT_len 49 200 ⟨#[32, 88]⟩ ⟨#[32]⟩ ⟨#[]⟩ (by decide) (by decide) (bodFs how n)
  have h1 : fsum (bodFs how n) ≤ 40 := by
    have hd := decT_len n hn
    have h3 : (strT (decT n)).size = (decT n).length := by show (decT n).toArray.size = _; simp
    have e1 : clB.size = 14 := rfl
    have e2 : teB.size = 17 := rfl
    have e3 : chB.size = 7 := rfl
    have e4 : aFd.1.size = 1 := rfl
    have e5 : aFd.2.size = 1 := rfl
    unfold bodFs fsum
    split
    · simp [h3, e1, e4, e5]; omega
    · split
      · simp [e2, e3, e4, e5]
      · simp [e4, e5]
  have e6 : (⟨#[32, 88]⟩ : ByteArray).size = 2 := rfl
  unfold bodH
  rw [List.length_append]
  simp only [List.length_cons, List.length_nil]
  rw [e6] at h
  omega
theorem bod_head (how n : Nat) (hn : n < 10 ^ 10) (r : List UInt8) : headA 0 (bodH how n ++ r) = .fin (bodH how n).length 200 (bodFs how n) := by
  have hlen := bod_len how n hn
  have hle : (bodFs how n).length ≤ 256 := by
    unfold bodFs
    split
    · simp
    · split <;> simp
  obtain ⟨h1, h2, h3, h4⟩ := answer_read 49 200 [32, 88] [32] [] (bodFs how n) (.inr rfl) (by omega) (by omega) (by decide +kernel) (.inr ⟨[88], rfl⟩)
    (by decide +kernel) (by simp) (odd_bod how n) hle r (by
      unfold bodH ansT at hlen
      rw [List.length_append] at hlen
      simp only [List.length_cons, List.length_nil] at hlen
      exact Nat.le_trans hlen (by omega))
  have e0 : bodH how n ++ r = joinL (ansLine 49 200 [32, 88] :: (bodFs how n).map (padLine [32] [])) ++ ([13, 10] ++ r) := by
    unfold bodH ansT
    rw [List.append_assoc]
  rw [← e0] at h1 h2 h3 h4
  have e : gE statusK (bodH how n ++ r) = 0 := h1
  have f : firstL (bodH how n ++ r) = ansLine 49 200 [32, 88] := h3
  have hS : gS statusK (bodH how n ++ r) = 200 := by
    unfold gS
    rw [e, if_pos rfl, f]
    show ((statusV (ansLine 49 200 [32, 88]) : Nat) : Int) = _
    rw [(ans_ok 49 200 [32, 88] (.inr rfl) (by omega) (by omega) (by decide +kernel) (.inr ⟨[88], rfl⟩)).2]
    rfl
  have hN : gN statusK (bodH how n ++ r) = ((bodH how n).length : Int) := by
    unfold gN
    rw [e, if_pos rfl, h2]
    unfold bodH ansT
    rw [List.length_append]
    simp
  have hF : gF statusK (bodH how n ++ r) = bodFs how n := by
    unfold gF
    rw [e, if_pos rfl, h4]
  rw [headA_fin e (by rw [hS]; omega), hS, hN, hF]
  simp
theorem bod_how (how n : Nat) (hn : n ≤ 65536) : howM ⟨#[71, 69, 84]⟩ 200 (bodFs how n) = if how = 0 then (1, (n : Int), 0) else if how = 1 then (2, 0, 0) else (3, 0, 0) := by
  have s1 : sameB aFd.1.data.toList teB.data.toList = false := by decide +kernel
  have s2 : sameB aFd.1.data.toList clB.data.toList = false := by decide +kernel
  unfold bodFs
  split
  · have h1 : findB [aFd, (clB, strT (decT n))] teB = [] := by simp [findB, s1, same_ct]
    have h2 : findB [aFd, (clB, strT (decT n))] clB = [strT (decT n)] := by simp [findB, s2, same_cc]
    rw [howM_codes get_none h1 h2, howA_len rfl (by simp)]
    have h3 := len_told n 0
    have h4 : lenParts n 0 = partsA ([strT (decT n)].map (·.data.toList)) := by
      unfold lenParts allT strT
      simp
    rw [h4, if_pos hn] at h3
    exact h3
  · split
    · have h1 : findB [aFd, (teB, chB)] teB = [chB] := by simp [findB, s1, same_tt]
      have h2 : findB [aFd, (teB, chB)] clB = [] := by simp [findB, s2, same_tc]
      rw [howM_codes get_none h1 h2]
      exact howA_chunks rfl rfl (by decide +kernel)
    · have h1 : findB [aFd] teB = [] := by simp [findB, s1]
      have h2 : findB [aFd] clB = [] := by simp [findB, s2]
      rw [howM_codes get_none h1 h2]
      exact howA_close rfl rfl
/-- What such an answer tells: by its length; by chunks; by the connection's end. -/
theorem bod_look0 (l r : List UInt8) (hl : l.length ≤ 65536) : lookA ⟨#[71, 69, 84]⟩ (bodH 0 l.length ++ (l ++ r)) = .done ((bodH 0 l.length).length + l.length) 200 (bodFs 0 l.length) l (keepB (bodFs 0 l.length)) := by
  rw [lookA_fin (bod_head 0 l.length (by omega) _), List.drop_left]
  unfold bodyA
  have hw : howM ⟨#[71, 69, 84]⟩ 200 (bodFs 0 l.length) = (1, (l.length : Int), 0) := bod_how 0 l.length hl
  rw [hw, if_neg (by simp), if_neg (by simp), if_pos rfl, Int.toNat_natCast, if_pos (by rw [List.length_append]; omega), List.take_left]
theorem bod_look1 (n : Nat) (l c r : List UInt8) (hn : n ≤ 65536) (hc : chunkA c = .done l []) : lookA ⟨#[71, 69, 84]⟩ (bodH 1 n ++ (c ++ r)) = .done ((bodH 1 n).length + c.length) 200 (bodFs 1 n) l (keepB (bodFs 1 n)) := by
  rw [lookA_fin (bod_head 1 n (by omega) _), List.drop_left]
  have hon := chunkA_on c r
  rw [hc] at hon
  have hb : chunkA (c ++ r) = .done l ([] ++ r) := hon
  unfold bodyA
  have hw : howM ⟨#[71, 69, 84]⟩ 200 (bodFs 1 n) = (2, 0, 0) := bod_how 1 n hn
  rw [hw, if_neg (by decide), if_neg (by decide), if_neg (by decide), if_pos rfl, hb]
  simp
theorem bod_look2 (n : Nat) (l : List UInt8) (hn : n ≤ 65536) (hl : l.length ≤ 65536) : lookA ⟨#[71, 69, 84]⟩ (bodH 2 n ++ l) = .opn ((bodH 2 n).length + l.length) 200 (bodFs 2 n) l := by
  rw [lookA_fin (bod_head 2 n (by omega) _), List.drop_left]
  unfold bodyA
  have hw : howM ⟨#[71, 69, 84]⟩ 200 (bodFs 2 n) = (3, 0, 0) := bod_how 2 n hn
  rw [hw, if_neg (by decide), if_neg (by decide), if_neg (by decide), if_neg (by decide), if_neg (by omega)]
theorem bod_keep (how n : Nat) : keepB (bodFs how n) = true := by
  have s1 : sameB aFd.1.data.toList connB.data.toList = false := by decide +kernel
  have s2 : sameB clB.data.toList connB.data.toList = false := by decide +kernel
  have s3 : sameB teB.data.toList connB.data.toList = false := by decide +kernel
  have h : findB (bodFs how n) connB = [] := by
    unfold bodFs
    split
    · simp [findB, s1, s2]
    · split <;> simp [findB, s1, s3]
  unfold keepB
  rw [h]
  rfl
theorem bod_text0 (n : Nat) : (⟨(bodH 0 n).toArray⟩ : ByteArray) = ⟨#[72, 84, 84, 80, 47, 49, 46, 49, 32, 50, 48, 48, 32, 88, 13, 10, 65, 58, 32, 98, 13, 10]⟩ ++ ⟨#[67, 111, 110, 116, 101, 110, 116, 45, 76, 101, 110, 103, 116, 104, 58, 32]⟩ ++ ⟨(decT n).toArray⟩ ++ ⟨#[13, 10, 13, 10]⟩ := by
  apply ByteArray.ext
  simp only [ByteArray.data_append]
  unfold bodH ansT bodFs
  rw [if_pos rfl]
  simp [joinL, padLine, ansLine, httpB, aFd, clB, strT]
theorem bod_text1 (n : Nat) : (⟨(bodH 1 n).toArray⟩ : ByteArray) = ⟨#[72, 84, 84, 80, 47, 49, 46, 49, 32, 50, 48, 48, 32, 88, 13, 10, 65, 58, 32, 98, 13, 10]⟩ ++ ⟨#[84, 114, 97, 110, 115, 102, 101, 114, 45, 69, 110, 99, 111, 100, 105, 110, 103, 58, 32, 99, 104, 117, 110, 107, 101, 100, 13, 10, 13, 10]⟩ := by
  apply ByteArray.ext
  simp only [ByteArray.data_append]
  unfold bodH ansT bodFs
  simp [joinL, padLine, ansLine, httpB, aFd, teB, chB]
theorem bod_text2 (n : Nat) : (⟨(bodH 2 n).toArray⟩ : ByteArray) = ⟨#[72, 84, 84, 80, 47, 49, 46, 49, 32, 50, 48, 48, 32, 88, 13, 10, 65, 58, 32, 98, 13, 10]⟩ ++ ⟨#[13, 10]⟩ := by
  apply ByteArray.ext
  simp only [ByteArray.data_append]
  unfold bodH ansT bodFs
  simp [joinL, padLine, ansLine, httpB, aFd]
/-- What bodies.Put writes is read back as the body. -/
theorem put_done20 (s n : Nat) (l : List UInt8) (hl : l.length = n) (hn : n ≤ 65536) (h1 : 1 ≤ s) (h2 : s ≤ 65536) : putErr (s : Int) n = 0 ∧ chunkA (putOut (s : Int) l) = .done l [] ∧ 5 ≤ (putOut (s : Int) l).length := by
  have he : putErr (s : Int) n = 0 := by
    unfold putErr
    rw [if_neg (by omega), if_neg (by omega)]
  have hs : ((s : Int).toNat) = s := Int.toNat_natCast s
  have ho : putOut (s : Int) l = (List.range ((n + s - 1) / s)).flatMap (chunkT s l) ++ lastB := by
    unfold putOut
    rw [hl, if_pos he, hs]
    rfl
  have hd := Nat.div_add_mod (n + s - 1) s
  have hm := Nat.mod_lt (n + s - 1) (show 0 < s by omega)
  obtain ⟨m, hm0⟩ : ∃ m, (n + s - 1) / s = m := ⟨_, rfl⟩
  rw [hm0] at hd ho
  have hms : s * m = m * s := Nat.mul_comm _ _
  refine ⟨he, ?_, ?_⟩
  · rw [ho]
    refine put_read s l m h1 (by omega) (by omega) ?_
    rcases Nat.eq_zero_or_pos m with h0 | h0
    · exact .inl h0
    · refine .inr ?_
      have e : (m - 1) * s + s = m * s := by
        have := Nat.succ_mul (m - 1) s
        rw [show (m - 1).succ = m by omega] at this
        exact this.symm
      omega
  · rw [ho, List.length_append]
    simp [lastB]
theorem putOut_small (s : Nat) (l : List UInt8) (hs : 1 ≤ s) (hs2 : s ≤ 65536) (hl : l.length ≤ 5000) : (putOut (s : Int) l).length ≤ 51000 := by
  unfold putOut
  split
  · have h3 := flat_len2 ((s : Int).toNat) l (by omega) ((l.length + (s : Int).toNat - 1) / (s : Int).toNat)
    have h4 : (l.length + (s : Int).toNat - 1) / (s : Int).toNat ≤ 5000 := by
      refine Nat.div_le_of_le_mul ?_
      omega
    rw [List.length_append]
    simp only [List.length_cons, List.length_nil]
    generalize (l.length + (s : Int).toNat - 1) / (s : Int).toNat = k at *
    generalize k * (s : Int).toNat = y at *
    omega
  · simp
def getM : ByteArray := ⟨#[71, 69, 84]⟩
/-- What is put, how it is told: the head, what stands behind it, what behind that. -/
def BodF (r : Nat) (l HB lb l3 : List UInt8) : Prop := HB.length ≤ 200 ∧ lb.length ≤ 51000 ∧ l3.length ≤ 1000 ∧
  ((r ≠ 2 ∧ ∃ fs, lookA getM (HB ++ (lb ++ l3)) = .done (HB.length + lb.length) 200 fs l true ∧ 0 < fs.length) ∨ (r = 2 ∧ l3 = [] ∧ ∃ fs, lookA getM (HB ++ (lb ++ l3)) = .opn (HB.length + lb.length) 200 fs l ∧ 0 < fs.length))
theorem bodFs_pos (how n : Nat) : 0 < (bodFs how n).length := by
  unfold bodFs
  split
  · simp
  · split <;> simp
theorem bodF0 {l l3 : List UInt8} (hl : l.length ≤ 5000) (h3 : l3.length ≤ 1000) : BodF 0 l (bodH 0 l.length) l l3 := by
  have h := bod_look0 l l3 (by omega)
  rw [bod_keep] at h
  exact ⟨bod_len 0 l.length (by omega), by omega, h3, .inl ⟨by decide, _, h, bodFs_pos _ _⟩⟩
theorem bodF1 {l l3 : List UInt8} (s : Nat) (hs : 1 ≤ s) (hs2 : s ≤ 65536) (hc : chunkA (putOut (s : Int) l) = .done l []) (hl : l.length ≤ 5000) (h3 : l3.length ≤ 1000) : BodF 1 l (bodH 1 l.length) (putOut (s : Int) l) l3 := by
  have h := bod_look1 l.length l (putOut (s : Int) l) l3 (by omega) hc
  rw [bod_keep] at h
  exact ⟨bod_len 1 l.length (by omega), putOut_small s l hs hs2 hl, h3, .inl ⟨by decide, _, h, bodFs_pos _ _⟩⟩
theorem bodF2 {l : List UInt8} (hl : l.length ≤ 5000) : BodF 2 l (bodH 2 l.length) l [] := by
  have h := bod_look2 l.length l (by omega) (by omega)
  have e : l ++ ([] : List UInt8) = l := List.append_nil l
  refine ⟨bod_len 2 l.length (by omega), by omega, by simp, .inr ⟨rfl, rfl, bodFs 2 l.length, ?_, bodFs_pos _ _⟩⟩
  rw [e]
  exact h
end Go.Proofs.YtonlfplloenfcaaGreatDoor
