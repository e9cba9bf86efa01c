/-
  How bytes by chunks are refused, in plain words: no program stands here.
  What a reader tells of bytes that came, in plain words: no program stands here.
  However bytes are cut, a reader tells the same, in plain words: no program stands here.
  How long the fields of a head are, in plain words: no program stands here.
-/
import Derived.Test.YtonlfplloenfcaaGreatDoorChunkStEtc
import Derived.Test.YtonlfplloenfcaaGreatDoorBFieldsEtc
import Derived.Test.YtonlfplloenfcaaGreatDoorLenTEtc
import Derived.Test.YtonlfplloenfcaaGreatDoorCutTEtc
namespace Go.Proofs.YtonlfplloenfcaaGreatDoor

theorem trail_err : ∀ (f : Nat) (r : List UInt8) (z : Int), trailG f r = .err z → z = 3 ∨ z = 9
  | 0, _, _, h => by cases h
  | f + 1, r, z, h => by
    unfold trailG at h
    split at h
    · injection h with h; exact .inl h.symm
    · cases h
    · split at h
      · cases h
      · split at h
        · exact trail_err f _ z h
        · injection h with h; exact .inr h.symm
theorem chunkG_err : ∀ (f all : Nat) (r : List UInt8) (z : Int), chunkG f all r = .err z → z = 3 ∨ z = 9
  | 0, _, _, _, h => by cases h
  | f + 1, all, r, z, h => by
    unfold chunkG at h
    split at h
    · injection h with h; exact .inl h.symm
    · cases h
    · split at h
      · split at h
        · revert h
          cases ht : trailG f _ with
          | err e => intro h; injection h with h; rw [h] at ht; exact trail_err f _ z ht
          | more => intro h; cases h
          | done q => intro h; cases h
        · split at h
          · injection h with h; exact .inl h.symm
          · split at h
            · injection h with h; exact .inr h.symm
            · cases h
            · revert h
              cases hc : chunkG f _ _ with
              | err e => intro h; injection h with h; rw [h] at hc; exact chunkG_err f _ _ z hc
              | more b => intro h; cases h
              | done b q => intro h; cases h
      · injection h with h; exact .inr h.symm
theorem chunkA_err {r : List UInt8} {z : Int} (h : chunkA r = .err z) : z = 3 ∨ z = 9 := chunkG_err _ _ _ _ h
theorem chunkB_len : ∀ (f all : Nat) (r : List UInt8), (ansB (chunkG f all r)).length ≤ r.length
  | 0, _, _ => by simp [chunkG, ansB]
  | f + 1, all, r => by
    have hpre : ∀ (p : List UInt8) (a : ChunkA), (ansB (a.pre p)).length ≤ p.length + (ansB a).length := fun p a => by
      cases a <;> simp [ChunkA.pre, ansB]
    unfold chunkG
    split
    · simp [ansB]
    · simp [ansB]
    · rename_i m hm
      have h1 := (line_spec hm).1
      split
      · split
        · have : ∀ a : TrailA, ansB a.chunk = [] := fun a => by cases a <;> rfl
          rw [this]
          simp
        · split
          · simp [ansB]
          · split
            · simp [ansB]
            · simp only [ansB, List.length_take, List.length_drop]
              omega
            · rename_i q hq
              have h2 := end_len hq
              have h3 := hpre ((r.drop (m + 2)).take (sizeN (r.take m))) (chunkG f (all + sizeN (r.take m)) q)
              have h4 := chunkB_len f (all + sizeN (r.take m)) q
              have h5 := congrArg List.length h2
              simp only [List.length_drop, List.length_cons, List.length_take] at h3 h5
              omega
      · simp [ansB]
theorem chunkA_len (l : List UInt8) : (ansB (chunkA l)).length ≤ l.length := chunkB_len _ _ _

end Go.Proofs.YtonlfplloenfcaaGreatDoor
namespace Go.Proofs.YtonlfplloenfcaaGreatDoor

/-- The heads that bytes begin with: more must come; they are refused; the answer's own, and where it ends. -/
inductive HdA where
  | short | err (e : Int) | fin (a : Nat) (s : Int) (f : List Fd)
def headR : Nat → Nat → List UInt8 → HdA
  | 0, _, _ => .short
  | k + 1, a, l =>
    if gE statusK l = 7 then .short
    else if gE statusK l = 0 then
      if gS statusK l < 200 then headR k (a + (gN statusK l).toNat) (l.drop (gN statusK l).toNat)
      else .fin (a + (gN statusK l).toNat) (gS statusK l) (gF statusK l)
    else .err (gE statusK l)
def headA (a : Nat) (l : List UInt8) : HdA := headR (l.length + 1) a l
/-- A head that may be: how many bytes it has. -/
theorem gN_pos {l : List UInt8} (h : gE statusK l = 0) (hl : l.length < 65536) : 4 ≤ (gN statusK l).toNat ∧ (gN statusK l).toNat ≤ l.length ∧ gN statusK l = ((gN statusK l).toNat : Int) := by
  have he : 0 ≤ endAt l := end_of_read (ok := statusK.ok) (by
    show gE statusK l ≠ 7
    rw [h]
    decide) hl
  have h2 := end_le l he
  have h3 : gN statusK l = endAt l + 4 := by unfold gN; rw [if_pos h]
  rw [h3]
  omega
theorem head_fuel : ∀ (k j a : Nat) (l : List UInt8), l.length < k → l.length < j → l.length < 65536 → headR k a l = headR j a l
  | 0, _, _, _, h, _, _ => by omega
  | _, 0, _, _, _, h, _ => by omega
  | k + 1, j + 1, a, l, hk, hj, hl => by
    unfold headR
    by_cases h7 : gE statusK l = 7
    · rw [if_pos h7, if_pos h7]
    · rw [if_neg h7, if_neg h7]
      by_cases h0 : gE statusK l = 0
      · rw [if_pos h0, if_pos h0]
        have := gN_pos h0 hl
        rw [head_fuel k j (a + (gN statusK l).toNat) (l.drop (gN statusK l).toNat) (by rw [List.length_drop]; omega) (by rw [List.length_drop]; omega) (by rw [List.length_drop]; omega)]
      · rw [if_neg h0, if_neg h0]
theorem headA_short {a : Nat} {l : List UInt8} (h : gE statusK l = 7) : headA a l = .short := by
  unfold headA headR
  rw [if_pos h]
theorem headA_err {a : Nat} {l : List UInt8} (h : gE statusK l ≠ 7) (h0 : gE statusK l ≠ 0) : headA a l = .err (gE statusK l) := by
  unfold headA headR
  rw [if_neg h, if_neg h0]
theorem headA_fin {a : Nat} {l : List UInt8} (h0 : gE statusK l = 0) (hs : ¬ gS statusK l < 200) : headA a l = .fin (a + (gN statusK l).toNat) (gS statusK l) (gF statusK l) := by
  unfold headA headR
  rw [if_neg (by rw [h0]; decide), if_pos h0, if_neg hs]
theorem headA_next {a : Nat} {l : List UInt8} (h0 : gE statusK l = 0) (hs : gS statusK l < 200) (hl : l.length < 65536) : headA a l = headA (a + (gN statusK l).toNat) (l.drop (gN statusK l).toNat) := by
  have hp := gN_pos h0 hl
  unfold headA
  rw [headR, if_neg (by rw [h0]; decide), if_pos h0, if_pos hs]
  exact head_fuel _ _ _ _ (by rw [List.length_drop]; omega) (by omega) (by rw [List.length_drop]; omega)
/-- What more bytes behind a head's bytes leave as it is. -/
theorem get_more {l : List UInt8} (r : List UInt8) (h : gE statusK l ≠ 7) (hl : l.length < 65536) : gE statusK (l ++ r) = gE statusK l ∧ gS statusK (l ++ r) = gS statusK l ∧ gN statusK (l ++ r) = gN statusK l ∧ gF statusK (l ++ r) = gF statusK l := by
  obtain ⟨h1, _, _, h4, h5, h6⟩ := more_g (K := statusK) r (end_of_read (ok := statusK.ok) h hl)
  exact ⟨h1, h4, h5, h6⟩
/-- A head that is no answer's own is passed over, whatever comes behind. -/
theorem head_step {a : Nat} {l : List UInt8} (h0 : gE statusK l = 0) (hs : gS statusK l < 200) (x : List UInt8) (hl : (l ++ x).length < 65536) : headA a (l ++ x) = headA (a + (gN statusK l).toNat) (l.drop (gN statusK l).toNat ++ x) := by
  have hl2 : l.length < 65536 := by rw [List.length_append] at hl; omega
  obtain ⟨e1, e2, e3, _⟩ := get_more x (l := l) (by rw [h0]; decide) hl2
  have hp := gN_pos h0 hl2
  rw [headA_next (e1.trans h0) (by rw [e2]; exact hs) hl, e3, List.drop_append_of_le_length (by omega)]
theorem head_fin_more {a : Nat} {l : List UInt8} (h0 : gE statusK l = 0) (hs : ¬ gS statusK l < 200) (x : List UInt8) (hl : l.length < 65536) : headA a (l ++ x) = .fin (a + (gN statusK l).toNat) (gS statusK l) (gF statusK l) := by
  obtain ⟨e1, e2, e3, e4⟩ := get_more x (l := l) (by rw [h0]; decide) hl
  rw [headA_fin (e1.trans h0) (by rw [e2]; exact hs), e2, e3, e4]
theorem head_err_more {a : Nat} {l : List UInt8} (h : gE statusK l ≠ 7) (h0 : gE statusK l ≠ 0) (x : List UInt8) (hl : l.length < 65536) : headA a (l ++ x) = .err (gE statusK l) := by
  obtain ⟨e1, _, _, _⟩ := get_more x (l := l) h hl
  rw [headA_err (by rw [e1]; exact h) (by rw [e1]; exact h0), e1]

/-- May the connection be kept? -/
def connB : ByteArray := ⟨#[99, 111, 110, 110, 101, 99, 116, 105, 111, 110]⟩
def closeB : ByteArray := ⟨#[99, 108, 111, 115, 101]⟩
def closeP (s : ByteArray) : Bool := (splitT 44 s).any fun p => sameB p.data.toList closeB.data.toList
def keepB (f : List Fd) : Bool := !((findB f connB).any closeP)
/-- What bytes tell: more must come; they are refused; a whole answer, and how many bytes it has; one that ends with the connection. -/
inductive LookA where
  | wait | err (e : Int) | done (n : Nat) (s : Int) (f : List Fd) (b : List UInt8) (keep : Bool) | opn (n : Nat) (s : Int) (f : List Fd) (b : List UInt8)
def bodyA (mt : ByteArray) (a : Nat) (s : Int) (f : List Fd) (rest : List UInt8) : LookA :=
  if (howM mt s f).2.2 ≠ 0 then .err (howM mt s f).2.2
  else if (howM mt s f).1 = 0 then .done a s f [] (keepB f)
  else if (howM mt s f).1 = 1 then (if (howM mt s f).2.1.toNat ≤ rest.length then .done (a + (howM mt s f).2.1.toNat) s f (rest.take (howM mt s f).2.1.toNat) (keepB f) else .wait)
  else if (howM mt s f).1 = 2 then (match chunkA rest with
    | .err e => .err e
    | .more _ => .wait
    | .done b q => .done (a + (rest.length - q.length)) s f b (keepB f))
  else if 65536 < rest.length then .err 3 else .opn (a + rest.length) s f rest
def lookA (mt : ByteArray) (l : List UInt8) : LookA := match headA 0 l with
  | .short => .wait
  | .err e => .err e
  | .fin a s f => bodyA mt a s f (l.drop a)

/-- What more bytes behind leave as it was: heads. -/
theorem head_more (x : List UInt8) : ∀ (k a : Nat) (l : List UInt8), l.length < k → (l ++ x).length < 65536 →
    (∀ e, headR k a l = .err e → headA a (l ++ x) = .err e) ∧ (∀ b s f, headR k a l = .fin b s f → headA a (l ++ x) = .fin b s f ∧ a ≤ b ∧ b ≤ a + l.length)
  | 0, _, _, h, _ => by omega
  | k + 1, a, l, hk, hl => by
    have hl2 : l.length < 65536 := by rw [List.length_append] at hl; omega
    unfold headR
    by_cases h7 : gE statusK l = 7
    · rw [if_pos h7]
      exact ⟨fun e h => (by cases h), fun b s f h => (by cases h)⟩
    · rw [if_neg h7]
      by_cases h0 : gE statusK l = 0
      · rw [if_pos h0]
        have hp := gN_pos h0 hl2
        by_cases hs : gS statusK l < 200
        · rw [if_pos hs, head_step h0 hs x hl]
          have ih := head_more x k (a + (gN statusK l).toNat) (l.drop (gN statusK l).toNat) (by rw [List.length_drop]; omega) (by rw [List.length_append] at hl ⊢; rw [List.length_drop]; omega)
          refine ⟨ih.1, fun b s f h => ?_⟩
          obtain ⟨h1, h2, h3⟩ := ih.2 b s f h
          rw [List.length_drop] at h3
          exact ⟨h1, by omega, by omega⟩
        · rw [if_neg hs, head_fin_more h0 hs x hl2]
          refine ⟨fun e h => (by cases h), fun b s f h => ?_⟩
          injection h with h1 h2 h3
          subst h1 h2 h3
          exact ⟨rfl, by omega, by omega⟩
      · rw [if_neg h0]
        refine ⟨fun e h => ?_, fun b s f h => (by cases h)⟩
        injection h with h
        subst h
        exact head_err_more h7 h0 x hl2
theorem headA_more_err {l x : List UInt8} {a : Nat} {e : Int} (h : headA a l = .err e) (hl : (l ++ x).length < 65536) : headA a (l ++ x) = .err e := (head_more x _ a l (Nat.lt_succ_self _) hl).1 e h
theorem headA_more_fin {l x : List UInt8} {a b : Nat} {s : Int} {f : List Fd} (h : headA a l = .fin b s f) (hl : (l ++ x).length < 65536) : headA a (l ++ x) = .fin b s f ∧ a ≤ b ∧ b ≤ a + l.length := (head_more x _ a l (Nat.lt_succ_self _) hl).2 b s f h
/-- Behind the head: what is told stays. -/
theorem bodyA_more {mt : ByteArray} {a : Nat} {s : Int} {f : List Fd} {rest : List UInt8} (x : List UInt8) :
    (∀ e, bodyA mt a s f rest = .err e → bodyA mt a s f (rest ++ x) = .err e) ∧ (∀ n t g b k, bodyA mt a s f rest = .done n t g b k → bodyA mt a s f (rest ++ x) = .done n t g b k ∧ n ≤ a + rest.length) := by
  unfold bodyA
  by_cases h1 : (howM mt s f).2.2 ≠ 0
  · rw [if_pos h1, if_pos h1]
    exact ⟨fun e h => h, fun n t g b k h => (by cases h)⟩
  · rw [if_neg h1, if_neg h1]
    by_cases h2 : (howM mt s f).1 = 0
    · rw [if_pos h2, if_pos h2]
      refine ⟨fun e h => (by cases h), fun n t g b k h => ⟨h, ?_⟩⟩
      injection h with h
      omega
    · rw [if_neg h2, if_neg h2]
      by_cases h3 : (howM mt s f).1 = 1
      · rw [if_pos h3, if_pos h3]
        by_cases h4 : (howM mt s f).2.1.toNat ≤ rest.length
        · rw [if_pos h4, if_pos (by rw [List.length_append]; omega), List.take_append_of_le_length h4]
          refine ⟨fun e h => (by cases h), fun n t g b k h => ⟨h, ?_⟩⟩
          injection h with h
          omega
        · rw [if_neg h4]
          exact ⟨fun e h => (by cases h), fun n t g b k h => (by cases h)⟩
      · rw [if_neg h3, if_neg h3]
        by_cases h5 : (howM mt s f).1 = 2
        · rw [if_pos h5, if_pos h5]
          have hon := chunkA_on rest x
          cases hc : chunkA rest with
          | err e =>
            rw [hc] at hon
            have hb : chunkA (rest ++ x) = .err e := hon
            rw [hb]
            exact ⟨fun e h => h, fun n t g b k h => (by cases h)⟩
          | more y => exact ⟨fun e h => (by cases h), fun n t g b k h => (by cases h)⟩
          | done y q =>
            rw [hc] at hon
            have hb : chunkA (rest ++ x) = .done y (q ++ x) := hon
            have hq := chunk_len _ _ _ _ _ (show chunkG (rest.length + 1) 0 rest = .done y q from hc)
            rw [hb]
            have e : (rest ++ x).length - (q ++ x).length = rest.length - q.length := by
              rw [List.length_append, List.length_append]
              omega
            simp only [e]
            refine ⟨fun e h => (by cases h), fun n t g b k h => ⟨h, ?_⟩⟩
            injection h with h
            omega
        · rw [if_neg h5, if_neg h5]
          by_cases h6 : 65536 < rest.length
          · rw [if_pos h6, if_pos (by rw [List.length_append]; omega)]
            exact ⟨fun e h => h, fun n t g b k h => (by cases h)⟩
          · rw [if_neg h6]
            exact ⟨fun e h => (by cases h), fun n t g b k h => (by cases h)⟩
theorem lookA_fin {mt : ByteArray} {l : List UInt8} {a : Nat} {s : Int} {f : List Fd} (h : headA 0 l = .fin a s f) : lookA mt l = bodyA mt a s f (l.drop a) := by
  unfold lookA
  rw [h]
theorem lookA_short {mt : ByteArray} {l : List UInt8} (h : headA 0 l = .short) : lookA mt l = .wait := by
  unfold lookA
  rw [h]
theorem lookA_err {mt : ByteArray} {l : List UInt8} {e : Int} (h : headA 0 l = .err e) : lookA mt l = .err e := by
  unfold lookA
  rw [h]
theorem look_more {mt : ByteArray} {l : List UInt8} (x : List UInt8) (hl : (l ++ x).length < 65536) :
    (∀ e, lookA mt l = .err e → lookA mt (l ++ x) = .err e) ∧ (∀ n t g b k, lookA mt l = .done n t g b k → lookA mt (l ++ x) = .done n t g b k ∧ n ≤ l.length) := by
  cases hh : headA 0 l with
  | short =>
    rw [lookA_short hh]
    exact ⟨fun e h => (by cases h), fun n t g b k h => (by cases h)⟩
  | err z =>
    rw [lookA_err hh, lookA_err (headA_more_err hh hl)]
    exact ⟨fun e h => h, fun n t g b k h => (by cases h)⟩
  | fin a s f =>
    obtain ⟨h1, h2, h3⟩ := headA_more_fin hh hl
    rw [lookA_fin hh, lookA_fin h1, List.drop_append_of_le_length (by omega)]
    obtain ⟨b1, b2⟩ := bodyA_more (mt := mt) (a := a) (s := s) (f := f) (rest := l.drop a) x
    refine ⟨b1, fun n t g b k h => ?_⟩
    obtain ⟨c1, c2⟩ := b2 n t g b k h
    rw [List.length_drop] at c2
    exact ⟨c1, by omega⟩

/-- A reader's state: it reads, and these bytes came; it failed; it has the answer. -/
inductive RSt where
  | on (l : List UInt8) | bad (e : Int) | fin (s : Int) (f : List Fd) (b : List UInt8) (keep : Bool)
def putR (mt : ByteArray) (st : RSt) (b : List UInt8) : RSt × Int × Int := match st with
  | .on l => (match lookA mt (l ++ b) with
    | .err e => (.bad e, 0, e)
    | .done n s f x k => (.fin s f x k, (n : Int) - (l.length : Int), 0)
    | _ => (.on (l ++ b), (b.length : Int), 0))
  | .bad e => (.bad e, 0, e)
  | .fin s f x k => (.fin s f x k, 0, 0)
def endR (mt : ByteArray) (st : RSt) : RSt × Int := match st with
  | .on l => (match lookA mt l with
    | .opn _ s f b => (.fin s f b false, 0)
    | _ => (.bad 10, 10))
  | .bad e => (.bad e, e)
  | .fin s f x k => (.fin s f x k, 0)
end Go.Proofs.YtonlfplloenfcaaGreatDoor
namespace Go.Proofs.YtonlfplloenfcaaGreatDoor

theorem err_ne {mt : ByteArray} {l : List UInt8} {e : Int} (h : lookA mt l = .err e) : e ≠ 0 := by
  unfold lookA at h
  split at h
  · cases h
  · rename_i z hz
    injection h with h
    subst h
    unfold headA at hz
    have key : ∀ (k a : Nat) (l : List UInt8), headR k a l = .err z → z ≠ 0 := by
      intro k
      induction k with
      | zero => intro a l h; cases h
      | succ k ih =>
        intro a l h
        unfold headR at h
        split at h
        · cases h
        · split at h
          · split at h
            · exact ih _ _ h
            · cases h
          · injection h with h
            subst h
            assumption
    exact key _ _ _ hz
  · unfold bodyA at h
    split at h
    · rename_i h1
      injection h with h
      subst h
      exact h1
    · split at h
      · cases h
      · split at h
        · split at h <;> cases h
        · split at h
          · split at h
            · rename_i z hz
              injection h with h
              subst h
              rcases chunkA_err hz with rfl | rfl <;> decide
            · cases h
            · cases h
          · split at h
            · injection h with h
              subst h
              decide
            · cases h
theorem putR_err {mt : ByteArray} {l b : List UInt8} {e : Int} (h : lookA mt (l ++ b) = .err e) : putR mt (.on l) b = (.bad e, 0, e) := by
  unfold putR
  simp only [h]
theorem putR_done {mt : ByteArray} {l b : List UInt8} {n : Nat} {s : Int} {f : List Fd} {x : List UInt8} {k : Bool} (h : lookA mt (l ++ b) = .done n s f x k) : putR mt (.on l) b = (.fin s f x k, (n : Int) - (l.length : Int), 0) := by
  unfold putR
  simp only [h]
theorem putR_wait {mt : ByteArray} {l b : List UInt8} (h : lookA mt (l ++ b) = .wait) : putR mt (.on l) b = (.on (l ++ b), (b.length : Int), 0) := by
  unfold putR
  simp only [h]
theorem putR_opn {mt : ByteArray} {l b : List UInt8} {n : Nat} {s : Int} {f : List Fd} {x : List UInt8} (h : lookA mt (l ++ b) = .opn n s f x) : putR mt (.on l) b = (.on (l ++ b), (b.length : Int), 0) := by
  unfold putR
  simp only [h]
end Go.Proofs.YtonlfplloenfcaaGreatDoor
namespace Go.Proofs.YtonlfplloenfcaaGreatDoor

theorem splitB_sum : ∀ s : List UInt8, ((splitB s).map List.length).sum ≤ s.length
  | [] => by simp [splitB]
  | [x] => by simp [splitB]
  | x :: y :: r => by
    unfold splitB
    split
    · have := splitB_sum r
      simp only [List.map_cons, List.sum_cons, List.length_nil, List.length_cons]
      omega
    · have := splitB_sum (y :: r)
      cases h : splitB (y :: r) with
      | nil => exact absurd h (splitB_ne _)
      | cons a t =>
        rw [h] at this
        simp only [List.map_cons, List.sum_cons, List.length_cons] at this
        simp only [hcons, List.map_cons, List.sum_cons, List.length_cons]
        omega
theorem fieldOf_len (l : List UInt8) : (fieldOf l).1.size + (fieldOf l).2.size ≤ l.length := by
  have h1 : (fieldOf l).1.size = (l.take (colonAt l).toNat).length := by
    show ((l.take (colonAt l).toNat).toArray).size = _
    simp
  have h2 : (fieldOf l).2.size = (trimmed (l.drop ((colonAt l).toNat + 1))).length := by
    show ((trimmed (l.drop ((colonAt l).toNat + 1))).toArray).size = _
    simp
  have h3 := trimmed_le (l.drop ((colonAt l).toNat + 1))
  rw [List.length_drop] at h3
  rw [h1, h2, List.length_take]
  omega
theorem fieldsL_sum : ∀ ls : List (List UInt8), fsum (ls.map fieldOf) ≤ 2 * ls.length + (ls.map List.length).sum
  | [] => by simp [fsum]
  | x :: r => by
    have ih := fieldsL_sum r
    have h := fieldOf_len x
    unfold fsum at ih ⊢
    simp only [List.map_cons, List.sum_cons, List.length_cons] at ih ⊢
    omega
theorem gF_sum (K : Asks) (l : List UInt8) : fsum (gF K l) ≤ 512 + l.length := by
  have hlen := gF_len K l
  unfold gF at hlen ⊢
  split
  · rename_i h0
    rw [if_pos h0] at hlen
    have h1 := fieldsL_sum (headLines l).tail
    have h2 : ((headLines l).tail.map List.length).sum ≤ l.length := by
      have h3 := splitB_sum (l.take (endAt l).toNat)
      have h4 : headLines l = splitB (l.take (endAt l).toNat) := rfl
      rw [← h4, List.length_take] at h3
      cases h5 : headLines l with
      | nil => simp
      | cons x r =>
        rw [h5] at h3
        simp only [List.map_cons, List.sum_cons] at h3
        simp only [List.tail_cons]
        omega
    unfold readF at hlen ⊢
    rw [List.length_map] at hlen
    omega
  · simp [fsum]
end Go.Proofs.YtonlfplloenfcaaGreatDoor
