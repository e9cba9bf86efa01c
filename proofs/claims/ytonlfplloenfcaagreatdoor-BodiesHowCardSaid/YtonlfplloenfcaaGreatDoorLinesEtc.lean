/-
  Lines of a text, in plain words: no program stands here.
  Tokens, targets, control bytes, trimming, in plain words: no program stands here.
  A statement that draws its order, inside the body of a range over a function: over any program.
  A range over a function whose iterator keeps state of its own in cells: the law of the walk, over any program. (Turned from the library law for iterators that only read.)
-/
import Derived.Lib.IndexMore
import Derived.Lib.SlTrimSet
import Derived.OwnWalkIn
import Derived.RangeFuncCalls
import Derived.RegionTactic
import Derived.OrdersIn
import Derived.RangeFuncNested
import Derived.RangeFuncBound
import Derived.RangeFuncLeaves
namespace Go.Proofs.YtonlfplloenfcaaGreatDoor
/-- A line's end stands at a place. -/
def eolAt (s : List UInt8) (j : Nat) : Prop := s[j]? = some 13 ∧ s[j + 1]? = some 10
theorem occ_iff (sub : List UInt8) : ∀ (s : List UInt8) (j : Nat), Lib.occAt s sub j = true ↔ ∀ k b, sub[k]? = some b → s[j + k]? = some b := by
  intro s j
  unfold Lib.occAt
  rw [List.isPrefixOf_iff_prefix]
  constructor
  · rintro ⟨t, ht⟩ k b hk
    have h1 : (s.drop j)[k]? = some b := by
      rw [← ht, List.getElem?_append_left (List.getElem?_eq_some_iff.1 hk).1]; exact hk
    rwa [List.getElem?_drop] at h1
  · intro h
    refine ⟨(s.drop j).drop sub.length, ?_⟩
    apply List.ext_getElem?
    intro k
    by_cases hk : k < sub.length
    · rw [List.getElem?_append_left hk, List.getElem?_drop]
      have h1 : sub[k]? = some sub[k] := List.getElem?_eq_getElem hk
      rw [h1, h k _ h1]
    · rw [List.getElem?_append_right (by omega), List.getElem?_drop, List.getElem?_drop, List.getElem?_drop]
      congr 1
      omega
theorem occ_eol (s : List UInt8) (j : Nat) : Lib.occAt s [13, 10] j = true ↔ eolAt s j := by
  rw [occ_iff]
  constructor
  · intro h
    exact ⟨by simpa using h 0 13 rfl, h 1 10 rfl⟩
  · rintro ⟨h1, h2⟩ k b hk
    match k, hk with
    | 0, hk => simp at hk; subst hk; simpa using h1
    | 1, hk => simp at hk; subst hk; exact h2
    | k + 2, hk => simp at hk
def hcons (x : UInt8) : List (List UInt8) → List (List UInt8)
  | [] => [[x]]
  | h :: t => (x :: h) :: t
/-- A text's lines. -/
def splitB : List UInt8 → List (List UInt8)
  | [] => [[]]
  | [x] => [[x]]
  | x :: y :: r => if x = 13 ∧ y = 10 then [] :: splitB r else hcons x (splitB (y :: r))
theorem split_at : ∀ (n : Nat) (s : List UInt8), eolAt s n → (∀ j, j < n → ¬ eolAt s j) → splitB s = s.take n :: splitB (s.drop (n + 2))
  | 0, s, h, _ => by
    obtain ⟨h1, h2⟩ := h
    match s, h1, h2 with
    | x :: y :: r, h1, h2 =>
      simp at h1 h2
      subst h1; subst h2
      simp [splitB]
  | n + 1, s, h, hn => by
    obtain ⟨h1, h2⟩ := h
    match s, h1, h2 with
    | [x], h1, h2 => simp at h1
    | x :: y :: r, h1, h2 =>
      have h0 : ¬ (x = 13 ∧ y = 10) := by
        rintro ⟨rfl, rfl⟩
        exact hn 0 (by omega) ⟨rfl, rfl⟩
      have ih := split_at n (y :: r) ⟨by simpa using h1, by simpa using h2⟩ (fun j hj hc => hn (j + 1) (by omega) ⟨by simpa using hc.1, by simpa using hc.2⟩)
      rw [splitB, if_neg h0, ih]
      rfl
theorem split_none : ∀ (s : List UInt8), (∀ j, ¬ eolAt s j) → splitB s = [s]
  | [], _ => rfl
  | [x], _ => rfl
  | x :: y :: r, hn => by
    have h0 : ¬ (x = 13 ∧ y = 10) := by
      rintro ⟨rfl, rfl⟩
      exact hn 0 ⟨rfl, rfl⟩
    have ih := split_none (y :: r) (fun j hc => hn (j + 1) ⟨by simpa using hc.1, by simpa using hc.2⟩)
    rw [splitB, if_neg h0, ih]
    rfl
theorem eol_lt {s : List UInt8} {j : Nat} (h : eolAt s j) : j + 1 < s.length := (List.getElem?_eq_some_iff.1 h.2).1
/-- A cut at the first line's end. -/
theorem split_cut (s : List UInt8) : splitB s = (Lib.cut s [13, 10]).1 :: (if (Lib.cut s [13, 10]).2.2 then splitB (Lib.cut s [13, 10]).2.1 else []) := by
  unfold Lib.cut
  rcases Lib.index_spec s [13, 10] with ⟨h1, h2⟩ | ⟨i, h1, h2, h3, h4⟩
  · rw [h1, if_neg (by decide)]
    simp only [Bool.false_eq_true, if_false]
    exact split_none s fun j hc => by
      have h5 := h2 j (by have := eol_lt hc; omega)
      rw [(occ_eol s j).2 hc] at h5
      cases h5
  · rw [h1, if_pos (by omega)]
    simp only [if_true, Int.toNat_natCast, List.length_cons, List.length_nil]
    exact split_at i s ((occ_eol s i).1 h3) fun j hj hc => by
      have h5 := h4 j hj
      rw [(occ_eol s j).2 hc] at h5
      cases h5
theorem cut_le (s sep : List UInt8) (h : (Lib.cut s sep).2.2 = true) : (Lib.cut s sep).2.1.length + sep.length ≤ s.length := by
  have hr := Lib.index_room s sep
  unfold Lib.cut at h ⊢
  split at h
  · rename_i h0
    rw [if_pos h0]
    have := hr h0
    simp only [List.length_drop]
    omega
  · cases h
theorem cut_le1 (s sep : List UInt8) : (Lib.cut s sep).1.length ≤ s.length ∧ (Lib.cut s sep).2.1.length ≤ s.length := by
  unfold Lib.cut
  split
  · simp only [List.length_take, List.length_drop]; omega
  · simp
theorem splitB_len : ∀ (s : List UInt8), (splitB s).length ≤ s.length + 1
  | [] => by simp [splitB]
  | [x] => by simp [splitB]
  | x :: y :: r => by
    rw [splitB]
    split
    · have := splitB_len r; simp; omega
    · have h1 := splitB_len (y :: r)
      have h2 : ∀ l : List (List UInt8), (hcons x l).length ≤ l.length + 1 := fun l => by cases l <;> simp [hcons]
      have h3 := h2 (splitB (y :: r))
      simp at h1 ⊢
      omega
theorem splitB_ne (s : List UInt8) : splitB s ≠ [] := by rw [split_cut]; simp
/-- WHERE THE REFERENCE STANDS in its look for lines' ends: at k, the last line begun at 'from', the lines before it told. -/
structure Scan (s : List UInt8) (k fm : Nat) (pre : List (List UInt8)) : Prop where
  told : pre ++ splitB (s.drop fm) = splitB s
  none_ : ∀ j, fm ≤ j → j < k → ¬ eolAt s j
  le : fm ≤ k + 1
  at_ : fm = k + 1 → s[k]? = some 10
theorem Scan.start (s : List UInt8) : Scan s 0 0 [] := ⟨rfl, fun j _ h => by omega, by omega, fun h => by omega⟩
theorem eol_drop (s : List UInt8) (a j : Nat) : eolAt (s.drop a) j ↔ eolAt s (a + j) := by
  unfold eolAt
  rw [List.getElem?_drop, List.getElem?_drop, Nat.add_assoc]
theorem Scan.hit {s : List UInt8} {k fm : Nat} {pre : List (List UInt8)} (h : Scan s k fm pre) (hk : eolAt s k) : fm ≤ k ∧ Scan s (k + 1) (k + 2) (pre ++ [(s.drop fm).take (k - fm)]) := by
  have hle : fm ≤ k := by
    have h1 := h.le
    rcases Nat.lt_or_ge k fm with h2 | h2
    · have h3 := h.at_ (by omega)
      rw [hk.1] at h3
      exact absurd h3 (by decide)
    · exact h2
  refine ⟨hle, ?_, fun j h1 h2 => by omega, by omega, fun _ => hk.2⟩
  have h2 := split_at (k - fm) (s.drop fm) ((eol_drop _ _ _).2 (by rwa [show fm + (k - fm) = k by omega])) (fun j hj hc => h.none_ (fm + j) (by omega) (by omega) ((eol_drop _ _ _).1 hc))
  rw [← h.told, h2, List.drop_drop, show fm + (k - fm + 2) = k + 2 by omega, List.append_assoc]
  rfl
theorem Scan.miss {s : List UInt8} {k fm : Nat} {pre : List (List UInt8)} (h : Scan s k fm pre) (hk : ¬ eolAt s k) : Scan s (k + 1) fm pre := by
  refine ⟨h.told, fun j h1 h2 => ?_, by have := h.le; omega, fun h1 => by have := h.le; omega⟩
  rcases Nat.lt_or_ge j k with h3 | h3
  · exact h.none_ j h1 h3
  · obtain rfl : j = k := by omega
    exact hk
theorem Scan.done {s : List UInt8} {fm : Nat} {pre : List (List UInt8)} (h : Scan s s.length fm pre) : fm ≤ s.length ∧ pre ++ [s.drop fm] = splitB s := by
  have hle : fm ≤ s.length := by
    have h1 := h.le
    rcases Nat.lt_or_ge s.length fm with h2 | h2
    · have h3 := h.at_ (by omega)
      simp at h3
    · exact h2
  refine ⟨hle, ?_⟩
  rw [← h.told, split_none (s.drop fm) fun j hc => ?_]
  have h1 := eol_lt hc
  rw [List.length_drop] at h1
  exact h.none_ (fm + j) (by omega) (by omega) ((eol_drop _ _ _).1 hc)
end Go.Proofs.YtonlfplloenfcaaGreatDoor
namespace Go.Proofs.YtonlfplloenfcaaGreatDoor
def signB : List UInt8 := [33, 35, 36, 37, 38, 39, 42, 43, 45, 46, 94, 95, 96, 124, 126, 48, 49, 50, 51, 52, 53, 54, 55, 56, 57, 65, 66, 67, 68, 69, 70, 71, 72, 73, 74, 75, 76, 77, 78, 79, 80, 81, 82, 83, 84, 85, 86, 87, 88, 89, 90, 97, 98, 99, 100, 101, 102, 103, 104, 105, 106, 107, 108, 109, 110, 111, 112, 113, 114, 115, 116, 117, 118, 119, 120, 121, 122]
/-- A fact on every byte, from the kernel's look at all. -/
theorem all_bytes {p : UInt8 → Bool} (h : (List.range 256).all (fun n => p (UInt8.ofNat n)) = true) (x : UInt8) : p x = true := by
  have h1 := List.all_eq_true.1 h x.toNat (List.mem_range.2 x.toNat_lt)
  simpa using h1
def digB (x : UInt8) : Bool := 48 ≤ x && x ≤ 57
def signOK (x : UInt8) : Bool := signB.contains x
theorem signOK_eq (x : UInt8) : signOK x = (digB x || (97 ≤ x && x ≤ 122) || (65 ≤ x && x ≤ 90) || [33, 35, 36, 37, 38, 39, 42, 43, 45, 46, 94, 95, 96, 124, 126].contains x) := by
  have h := all_bytes (p := fun x => signOK x == (digB x || (97 ≤ x && x ≤ 122) || (65 ≤ x && x ≤ 90) || [33, 35, 36, 37, 38, 39, 42, 43, 45, 46, 94, 95, 96, 124, 126].contains x)) (by decide +kernel) x
  simpa using h
/-- May a text be a token? -/
def tokenB (l : List UInt8) : Bool := l.all signOK && !l.isEmpty
/-- Has a text a control byte? -/
def ctrlOK (x : UInt8) : Bool := !(x < 32 && x != 9 || x == 127)
def plainB (l : List UInt8) : Bool := l.all ctrlOK
/-- May a text be a target? -/
def targOK (x : UInt8) : Bool := 33 ≤ x && x ≤ 126
def targB (l : List UInt8) : Bool := l.all targOK && !l.isEmpty
def blankB (x : UInt8) : Bool := x == 32 || x == 9
def trimmed (l : List UInt8) : List UInt8 := Lib.trimS l [32, 9]
theorem blank_eq : (fun x : UInt8 => [32, 9].contains x) = blankB := by
  funext x
  have h := all_bytes (p := fun x => [32, 9].contains x == blankB x) (by decide +kernel) x
  simpa using h

section
variable {α : Type} (p : α → Bool)
theorem dropWhile_nil : ∀ l : List α, l.dropWhile p = [] ↔ ∀ x ∈ l, p x = true
  | [] => by simp
  | x :: r => by
    cases hx : p x
    · simp [List.dropWhile, hx]
    · simp [List.dropWhile, hx, dropWhile_nil r]
/-- The two ends may be cut in either order. -/
theorem dropWhile_ends (l : List α) : (l.reverse.dropWhile p).reverse.dropWhile p = ((l.dropWhile p).reverse.dropWhile p).reverse := by
  by_cases h : l.all p
  · have h1 : l.dropWhile p = [] := by
      rw [dropWhile_nil]; exact List.all_eq_true.1 h
    have h2 : l.reverse.dropWhile p = [] := by
      rw [dropWhile_nil]; intro x hx; exact List.all_eq_true.1 h x (List.mem_reverse.1 hx)
    simp [h1, h2]
  · induction l with
    | nil => simp at h
    | cons x r ih =>
      cases hx : p x
      · have e1 : (x :: r).dropWhile p = x :: r := by simp [List.dropWhile, hx]
        rw [e1]
        have e2 : ((x :: r).reverse.dropWhile p).reverse = x :: (r.reverse.dropWhile p).reverse := by
          rw [List.reverse_cons, List.dropWhile_append]
          split
          · rename_i h3
            have : r.reverse.dropWhile p = [] := by simpa using h3
            simp [this, List.dropWhile, hx]
          · simp
        rw [e2]
        simp [List.dropWhile, hx]
      · have hr : ¬ r.all p = true := by
          intro h2
          apply h
          simp [hx]
          simpa using h2
        have e1 : (x :: r).dropWhile p = r.dropWhile p := by simp [List.dropWhile, hx]
        rw [e1, ← ih hr]
        have hne : ¬ (r.reverse.dropWhile p).isEmpty := by
          intro h2
          apply hr
          have h3 : r.reverse.dropWhile p = [] := by simpa using h2
          rw [dropWhile_nil] at h3
          exact List.all_eq_true.2 fun y hy => h3 y (List.mem_reverse.2 hy)
        have e2 : ((x :: r).reverse.dropWhile p).reverse = x :: (r.reverse.dropWhile p).reverse := by
          rw [List.reverse_cons, List.dropWhile_append, if_neg (by simpa using hne)]
          simp
        rw [e2]
        simp [List.dropWhile, hx]
end
/-- From the left, then from the right. -/
theorem trimmed_eq (l : List UInt8) : trimmed l = ((l.dropWhile blankB).reverse.dropWhile blankB).reverse := by
  unfold trimmed Lib.trimS Lib.trimLeftS Lib.trimRightS
  rw [show (fun x : UInt8 => ([32, 9] : List UInt8).contains x) = blankB from blank_eq]
  exact dropWhile_ends blankB l
end Go.Proofs.YtonlfplloenfcaaGreatDoor
namespace Go.Proofs.YtonlfplloenfcaaGreatDoor
open Go.RowKit
variable {P : Program} {l n : Nat}

def Oper.plainB (o : Oper) : Bool := match o.op with | .defer _ => false | _ => true
/-- An operation that is no defer statement runs inside a round as everywhere. -/
theorem opIn_of_op {o : Oper} {a : Act} {w : World} {K : Act → World → Prop} {Q : Exit → Act → World → Prop} (hnd : Oper.plainB o = true) (h : Oper.wp P o a w K Q) : Oper.wpIn (Fence.wide.inRound l) n P o a w K Q := by
  refine ⟨fun _ _ => trivial, ?_⟩
  rw [Oper.semAt_plain _ _ _ (fun c hc => by unfold Oper.plainB at hnd; rw [hc] at hnd; cases hnd)]
  unfold Oper.wp at h
  generalize (execOp a.eval o).run P w = r at *
  cases r with
  | ok nx w' =>
    match nx, h with
    | .value v, h => exact h
    | .skip, h => exact h
    | .defer d, h => exact h
    | .enter f args, h => exact ⟨(fun h => by cases h), CallsIn.inRound l (callsIn_wide.2 h)⟩
    | .row r args, h =>
      refine ⟨(fun h => by cases h), fun c cs _ => ?_⟩
      obtain ⟨v, w'', r, s⟩ := (show Rows P _ args w' _ from h) c cs
      exact ⟨v, w'', r, stepsIn_wide.2 s⟩
  | halt x w' => cases x <;> exact h
theorem anyIn_of_any {md : Region.Mode} {ops : Array Oper} {Q : Exit → Act → World → Prop} (hnd : ops.all Oper.plainB = true) (hQ : ¬ LetsOut Q) : ∀ (fuel : Nat) (listed : Array Bool) (a : Act) (w : World),
    wpAny P md ops Q fuel listed a w → wpAnyIn (Fence.wide.inRound l) n P md ops Q fuel listed a w
  | 0, _, _, _, h => h
  | fuel + 1, listed, a, w, ⟨h0, h1⟩ => by
    refine ⟨h0, fun i hi => ?_⟩
    have h2 := h1 i hi
    unfold wpOp at h2
    unfold wpOpIn
    cases ho : ops[i]? with
    | none =>
      rw [ho] at h2
      exact anyIn_of_any hnd hQ fuel _ a w h2
    | some o =>
      rw [ho] at h2
      simp only at h2 ⊢
      split
      · rename_i hw
        rw [if_pos hw] at h2
        rcases h2 with h2 | h2
        · have hp : Oper.plainB o = true := by
            have := Array.all_eq_true'.1 hnd o (Array.mem_of_getElem? ho)
            exact this
          exact Oper.wpIn_mono (fun a w => anyIn_of_any hnd hQ fuel _ a w) (opIn_of_op hp h2)
        · exact absurd h2.2 hQ
      · rename_i hw
        rw [if_neg hw] at h2
        exact ⟨fun _ _ => trivial, anyIn_of_any hnd hQ fuel _ _ w h2⟩
theorem wpIn_region_round {id : Nat} {ops : Array Oper} {Q : Exit → Act → World → Prop} {a : Act} {w : World} (hm : P.follows .mixedOrders = true) (hnd : ops.all Oper.plainB = true) (hQ : ¬ LetsOut Q)
    (h : wpAny P .any ops Q ops.size (Array.replicate ops.size false) a w.drew) : (Code.region id ops true).wpIn (Fence.wide.inRound l) n P Q a w :=
  wpIn_region_any hm (anyIn_of_any hnd hQ _ _ _ _ h)
end Go.Proofs.YtonlfplloenfcaaGreatDoor
namespace Go.Proofs.YtonlfplloenfcaaGreatDoor
open Go.RowKit
variable {F : Fence} {n : Nat} {P : Program}
/-- An iterator that keeps state of its own in cells: Ks: a step of its own, between two rounds; Kp: what it asks of a round that goes on; R: what it hands out behind what has come. -/
def SeqSteps {α : Type} (F : Fence) (n : Nat) (P : Program) (g : Nat) (lb : Array Value) (encs : List α → α → Array Value) (R : List α → α → Prop) (Kp Ks : World → World → Prop) (S : List α → Prop) (w : World) : Prop :=
  ∀ (l : Nat) (J Jx : List α → World → Prop) (W : World), Below w.heap.size w W → (∀ s A B, J s A → Ks A B → J s B) →
    (∀ pre x W1, J pre W1 → R pre x → YieldAt F (n - 1) P l (encs pre x) W1 fun e W' =>
      (e = .returned (.bool true) ∧ J (pre ++ [x]) W' ∧ Kp W1 W') ∨ (e = .returned (.bool false) ∧ Jx (pre ++ [x]) W')) →
    J [] W →
    CallsIn F n P g (#[.func (.yield l) #[] #[]] ++ lb) W fun e W' => (∃ v, e = .returned v) ∧ ((∃ xs, S xs ∧ J xs W') ∨ (∃ pre, Jx pre W'))

/-- The two blocks that the law itself lays: the rounds' deferred calls, the loop's record. -/
def Books (L : Loop) (D l : Nat) (W : World) : Prop := W.heap[l]? = some (.loop L) ∧ W.heap[D]? = some (.deferred (some []))
theorem Books.kept {L : Loop} {D l B : Nat} {W W' : World} (h : Books L D l W) (hk : KeepsFrom B W W') (hD : B ≤ D) (hl : B ≤ l) : Books L D l W' := ⟨hk.same _ _ hl h.1 rfl, hk.same _ _ hD h.2 rfl⟩
theorem Books.put {L L' : Loop} {D l : Nat} {W : World} (h : Books L D l W) (hne : D ≠ l) : Books L' D l (W.putObj l (.loop L')) :=
  ⟨World.putObj_heap_same (Array.getElem?_eq_some_iff.1 h.1).1, (World.putObj_heap_other hne).trans h.2⟩

theorem wpIn_rangeFunc_steps {α : Type} {g : Operand} {ps : Array Tmp} {assign body : Code} {Q : Exit → Act → World → Prop} {a : Act} {w : World}
    (hro : F.round = none) (h1 : 1 ≤ n) {gf : Nat} {lb : Array Value} (hg : a.eval g = .func (.func gf) #[] lb) (hFg : F.fn gf) (eg : ∀ args w, (callFunc gf args).run P w = .ok (.enter gf args) w)
    {encs : List α → α → Array Value} {R : List α → α → Prop} {Kp Ks : World → World → Prop} {S : List α → Prop} {w0 : World} (hseq : SeqSteps F (n - 1) P gf lb encs R Kp Ks S w0)
    (hKt : ∀ {A B C : World}, Kp A B → Kp B C → Kp A C) (hKb : ∀ (W : World) (l : Nat) (o : Obj), w.heap.size ≤ l → Kp W (W.putObj l o))
    (hKs : ∀ A B, Ks A B → KeepsFrom w.heap.size A B) (hb0 : Below w0.heap.size w0 w) (hps : ∀ pre x, (encs pre x).size = ps.size)
    (I : List α → World → Prop) (Ix : Code → List α → World → Prop) (hI : OwnFrom w.heap.size I) (hIx : ∀ c, OwnFrom w.heap.size (Ix c)) (hIs : ∀ s A B, I s A → Ks A B → I s B) (h0 : I [] w) (a₁ : List α → α → Act)
    (hassign : ∀ (l : Nat) (pre : List α) (x : α) (W : World) (K : Act → World → Prop), K (a₁ pre x) W →
      assign.wpIn (F.inRound l) (n - 1 - 1) P (Exit.then K (fun _ _ _ => False)) { tmps := (ps.zip (encs pre x)).foldl (fun t (p, v) => t.setIfInBounds p v) a.tmps, defers := [] } W)
    (hbody : ∀ (l : Nat) (pre : List α) (x : α) (W : World), I pre W → R pre x → body.wpIn (F.inRound l) (n - 1 - 1) P (ownPostG w.heap.size Kp I Ix (pre ++ [x]) W) (a₁ pre x) W)
    (hdone : ∀ (D : Nat) (xs : List α) (W : World), w.heap.size ≤ D → S xs → I xs W → W.heap[D]? = some (.deferred (some [])) → Q .normal { a with defers := { target := .collected D, args := #[] } :: a.defers } W)
    (hstop : ∀ (D : Nat) (c : Code) (pre : List α) (W : World), w.heap.size ≤ D → Ix c pre W → W.heap[D]? = some (.deferred (some [])) → c.wpIn F n P Q { a with defers := { target := .collected D, args := #[] } :: a.defers } W) :
    (Code.rangeFunc g ps assign body).wpIn F n P Q a w := by
  refine wpIn_rangeFunc ?_
  intro fn hfn
  rw [hro]
  obtain ⟨L, hL⟩ : ∃ L : LoopState → Option Code → Loop, L = fun st pe => { state := st, pending := pe, fn, tmps := a.tmps, params := ps, assign, body, defers := w.heap.size } := ⟨_, rfl⟩
  obtain ⟨W1, hW1⟩ : ∃ W1, (w.alloc (.deferred (some []))).alloc (.loop (L .ready none)) = W1 := ⟨_, rfl⟩
  have hB1 : Books (L .ready none) w.heap.size (w.heap.size + 1) W1 := by
    rw [← hW1]
    refine ⟨?_, (Below.heap_alloc _ _ _ (by simp)).trans (World.alloc_heap_new w _)⟩
    have := World.alloc_heap_new (w.alloc (.deferred (some []))) (.loop (L .ready none))
    rwa [World.size_alloc] at this
  have hI1 : I [] W1 := by rw [← hW1]; exact hI.alloc _ (hI.alloc _ h0)
  have hb1 : Below w0.heap.size w0 W1 := by
    rw [← hW1]; exact hb0.trans ((((Below.refl _ w).alloc (Nat.le_refl _) _).alloc (by simp) _).mono hb0.size)
  have hne : w.heap.size ≠ w.heap.size + 1 := by omega
  refine ⟨w.heap.size + 1, [{ target := .collected w.heap.size, args := #[] }], W1, { target := .fn (.func gf) lb, args := #[.func (.yield (w.heap.size + 1)) #[] #[]] }, W1, gf,
    #[.func (.yield (w.heap.size + 1)) #[] #[]] ++ lb, W1, ?_, ?_, ?_, ?_, fun _ => h1, ?_⟩
  · rw [← hW1, hL]; exact run_enterLoop_outer _ _ _ _ _
  · simp only [resolve, hg]
    simp [go_sem]
  · intro f' hf'; simp [Target.leads] at hf'; subst hf'; exact hFg
  · simp [invoke, go_sem, eg]
  refine (hseq (w.heap.size + 1) (fun pre W => I pre W ∧ Books (L .ready none) w.heap.size (w.heap.size + 1) W) (fun pre W => ∃ c, Ix c pre W ∧ Books (L .done (some c)) w.heap.size (w.heap.size + 1) W) W1 hb1
    (fun s A B hs hk => ⟨hIs s A B hs.1 hk, hs.2.kept (hKs A B hk) (Nat.le_refl _) (by omega)⟩) ?_ ⟨hI1, hB1⟩).mono ?_
  · -- a round
    rintro pre x W ⟨hi, hbk⟩ hlen
    have hy := run_yield (P := P) (args := encs pre x) hbk.1 (by rw [hL]; exact hps pre x)
    rw [hL] at hy
    refine ⟨fn, _, assign, body, hy, roundIn_of_wpIn hfn (hassign _ pre x W _ ⟨_, run_beginRound hbk.1 (by rw [hL]), ?_⟩)⟩
    have hbk2 : Books ({ L .ready none with state := .busy }) w.heap.size (w.heap.size + 1) (W.putObj (w.heap.size + 1) (.loop { L .ready none with state := .busy })) := hbk.put hne
    have hkp2 : Kp W (W.putObj (w.heap.size + 1) (.loop { L .ready none with state := .busy })) := hKb _ _ _ (by omega)
    refine wpIn_mono (hbody _ pre x _ (hI.putObj _ hi (by omega) hbk.1 rfl) hlen) ?_
    have fin : ∀ (jump : Option Code) (W3 : World), KeepsFrom w.heap.size (W.putObj (w.heap.size + 1) (.loop { L .ready none with state := .busy })) W3 →
        (Instr.endRound (w.heap.size + 1) jump).run P W3 = .ok (.bool jump.isNone) (W3.putObj (w.heap.size + 1) (.loop (L (if jump.isNone then .ready else .done) jump))) ∧
        W3.heap[w.heap.size + 1]? = some (.loop { L .ready none with state := .busy }) ∧
        Books (L (if jump.isNone then .ready else .done) jump) w.heap.size (w.heap.size + 1) (W3.putObj (w.heap.size + 1) (.loop (L (if jump.isNone then .ready else .done) jump))) := fun jump W3 hk3 => by
      have hbk3 := hbk2.kept hk3 (Nat.le_refl _) (by omega)
      have hr := run_endRound (P := P) jump hbk3.1
      rw [hL] at hr hbk3 ⊢
      exact ⟨hr, hbk3.1, hbk3.put hne⟩
    have out : ∀ (c : Code) (W3 : World), KeepsFrom w.heap.size (W.putObj (w.heap.size + 1) (.loop { L .ready none with state := .busy })) W3 → Ix c (pre ++ [x]) W3 →
        ∃ v' w', (Instr.endRound (w.heap.size + 1) (some c)).run P W3 = .ok v' w' ∧ ((Ending.returned v' = .returned (.bool true) ∧ (I (pre ++ [x]) w' ∧ Books (L .ready none) w.heap.size (w.heap.size + 1) w') ∧ Kp W w') ∨
          (Ending.returned v' = .returned (.bool false) ∧ ∃ c, Ix c (pre ++ [x]) w' ∧ Books (L .done (some c)) w.heap.size (w.heap.size + 1) w')) := fun c W3 hk3 hi3 => by
      obtain ⟨hr, hl3, hb3⟩ := fin (some c) W3 hk3
      exact ⟨_, _, hr, .inr ⟨rfl, c, (hIx _).putObj _ hi3 (by omega) hl3 rfl, hb3⟩⟩
    rintro e a3 W3 hp
    cases e with
    | normal =>
      obtain ⟨hk3, hkp3, hi3⟩ := hp
      obtain ⟨hr, hl3, hb3⟩ := fin none W3 hk3
      exact ⟨_, _, hr, .inl ⟨rfl, ⟨hI.putObj _ hi3 (by omega) hl3 rfl, hb3⟩, hKt (hKt hkp2 hkp3) (hKb _ _ _ (by omega))⟩⟩
    | ret => exact out .ret W3 hp.1 hp.2
    | exit id => exact out (.exit id) W3 hp.1 hp.2
    | goto t => exact out (.goto t) W3 hp.1 hp.2
    | panic ch => exact hp.elim
    | outgrown => exact hp.elim
  · -- behind the iterator
    rintro e W2 ⟨⟨v, rfl⟩, (⟨xs, hS, hi, hbk⟩ | ⟨pre, c, hi, hbk⟩)⟩
    · exact ⟨none, _, by have := run_endLoop (P := P) hbk.1 (by rw [hL]; simp); rw [hL] at this; exact this, hdone _ xs _ (Nat.le_refl _) hS (hI.putObj _ hi (by omega) hbk.1 rfl) ((World.putObj_heap_other (by omega)).trans hbk.2)⟩
    · exact ⟨some c, _, by have := run_endLoop (P := P) hbk.1 (by rw [hL]; simp); rw [hL] at this; exact this, hstop _ c pre _ (Nat.le_refl _) ((hIx c).putObj _ hi (by omega) hbk.1 rfl) ((World.putObj_heap_other (by omega)).trans hbk.2)⟩
end Go.Proofs.YtonlfplloenfcaaGreatDoor
