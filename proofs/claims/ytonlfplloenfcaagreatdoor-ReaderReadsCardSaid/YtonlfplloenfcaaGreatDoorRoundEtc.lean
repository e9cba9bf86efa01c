/-
  A statement that draws its order, inside the body of a range over a function: over any program.
  A range over a function whose iterator keeps state of its own in cells: the law of the walk, over any program. (Turned from the library law for iterators that only read.)
-/
import Derived.OwnWalkIn
import Derived.RangeFuncCalls
import Derived.RegionTactic
import Derived.OrdersIn
import Derived.RangeFuncNested
import Derived.RangeFuncBound
import Derived.RangeFuncLeaves
namespace Go.Proofs.YtonlfplloenfcaaGreatDoor
open Go.RowKit
variable {P : Program} {l n : Nat}

def Oper.plainB (o : Oper) : Bool := match o.op with | .defer _ => false | _ => true
/-- An operation that is no defer statement runs inside a round as everywhere. -/
theorem opIn_of_op {o : Oper} {a : Act} {w : World} {K : Act → World → Prop} {Q : Exit → Act → World → Prop} (hnd : Oper.plainB o = true) (h : Oper.wp P o a w K Q) : Oper.wpIn (Fence.wide.inRound l) n P o a w K Q := by
  refine ⟨fun _ _ => trivial, ?_⟩
  rw [Oper.semAt_plain _ _ _ (fun c hc => by unfold Oper.plainB at hnd; rw [hc] at hnd; cases hnd)]
  unfold Oper.wp at h
  generalize (execOp a.eval o).run P w = r at *
  cases r with
  | ok nx w' =>
    match nx, h with
    | .value v, h => exact h
    | .skip, h => exact h
    | .defer d, h => exact h
    | .enter f args, h => exact ⟨(fun h => by cases h), CallsIn.inRound l (callsIn_wide.2 h)⟩
    | .row r args, h =>
      refine ⟨(fun h => by cases h), fun c cs _ => ?_⟩
      obtain ⟨v, w'', r, s⟩ := (show Rows P _ args w' _ from h) c cs
      exact ⟨v, w'', r, stepsIn_wide.2 s⟩
  | halt x w' => cases x <;> exact h
theorem anyIn_of_any {md : Region.Mode} {ops : Array Oper} {Q : Exit → Act → World → Prop} (hnd : ops.all Oper.plainB = true) (hQ : ¬ LetsOut Q) : ∀ (fuel : Nat) (listed : Array Bool) (a : Act) (w : World),
    wpAny P md ops Q fuel listed a w → wpAnyIn (Fence.wide.inRound l) n P md ops Q fuel listed a w
  | 0, _, _, _, h => h
  | fuel + 1, listed, a, w, ⟨h0, h1⟩ => by
    refine ⟨h0, fun i hi => ?_⟩
    have h2 := h1 i hi
    unfold wpOp at h2
    unfold wpOpIn
    cases ho : ops[i]? with
    | none =>
      rw [ho] at h2
      exact anyIn_of_any hnd hQ fuel _ a w h2
    | some o =>
      rw [ho] at h2
      simp only at h2 ⊢
      split
      · rename_i hw
        rw [if_pos hw] at h2
        rcases h2 with h2 | h2
        · have hp : Oper.plainB o = true := by
            have := Array.all_eq_true'.1 hnd o (Array.mem_of_getElem? ho)
            exact this
          exact Oper.wpIn_mono (fun a w => anyIn_of_any hnd hQ fuel _ a w) (opIn_of_op hp h2)
        · exact absurd h2.2 hQ
      · rename_i hw
        rw [if_neg hw] at h2
        exact ⟨fun _ _ => trivial, anyIn_of_any hnd hQ fuel _ _ w h2⟩
theorem wpIn_region_round {id : Nat} {ops : Array Oper} {Q : Exit → Act → World → Prop} {a : Act} {w : World} (hm : P.follows .mixedOrders = true) (hnd : ops.all Oper.plainB = true) (hQ : ¬ LetsOut Q)
    (h : wpAny P .any ops Q ops.size (Array.replicate ops.size false) a w.drew) : (Code.region id ops true).wpIn (Fence.wide.inRound l) n P Q a w :=
  wpIn_region_any hm (anyIn_of_any hnd hQ _ _ _ _ h)
end Go.Proofs.YtonlfplloenfcaaGreatDoor
namespace Go.Proofs.YtonlfplloenfcaaGreatDoor
open Go.RowKit
variable {F : Fence} {n : Nat} {P : Program}
/-- An iterator that keeps state of its own in cells: Ks: a step of its own, between two rounds; Kp: what it asks of a round that goes on; R: what it hands out behind what has come. -/
def SeqSteps {α : Type} (F : Fence) (n : Nat) (P : Program) (g : Nat) (lb : Array Value) (encs : List α → α → Array Value) (R : List α → α → Prop) (Kp Ks : World → World → Prop) (S : List α → Prop) (w : World) : Prop :=
  ∀ (l : Nat) (J Jx : List α → World → Prop) (W : World), Below w.heap.size w W → (∀ s A B, J s A → Ks A B → J s B) →
    (∀ pre x W1, J pre W1 → R pre x → YieldAt F (n - 1) P l (encs pre x) W1 fun e W' =>
      (e = .returned (.bool true) ∧ J (pre ++ [x]) W' ∧ Kp W1 W') ∨ (e = .returned (.bool false) ∧ Jx (pre ++ [x]) W')) →
    J [] W →
    CallsIn F n P g (#[.func (.yield l) #[] #[]] ++ lb) W fun e W' => (∃ v, e = .returned v) ∧ ((∃ xs, S xs ∧ J xs W') ∨ (∃ pre, Jx pre W'))

/-- The two blocks that the law itself lays: the rounds' deferred calls, the loop's record. -/
def Books (L : Loop) (D l : Nat) (W : World) : Prop := W.heap[l]? = some (.loop L) ∧ W.heap[D]? = some (.deferred (some []))
theorem Books.kept {L : Loop} {D l B : Nat} {W W' : World} (h : Books L D l W) (hk : KeepsFrom B W W') (hD : B ≤ D) (hl : B ≤ l) : Books L D l W' := ⟨hk.same _ _ hl h.1 rfl, hk.same _ _ hD h.2 rfl⟩
theorem Books.put {L L' : Loop} {D l : Nat} {W : World} (h : Books L D l W) (hne : D ≠ l) : Books L' D l (W.putObj l (.loop L')) :=
  ⟨World.putObj_heap_same (Array.getElem?_eq_some_iff.1 h.1).1, (World.putObj_heap_other hne).trans h.2⟩

theorem wpIn_rangeFunc_steps {α : Type} {g : Operand} {ps : Array Tmp} {assign body : Code} {Q : Exit → Act → World → Prop} {a : Act} {w : World}
    (hro : F.round = none) (h1 : 1 ≤ n) {gf : Nat} {lb : Array Value} (hg : a.eval g = .func (.func gf) #[] lb) (hFg : F.fn gf) (eg : ∀ args w, (callFunc gf args).run P w = .ok (.enter gf args) w)
    {encs : List α → α → Array Value} {R : List α → α → Prop} {Kp Ks : World → World → Prop} {S : List α → Prop} {w0 : World} (hseq : SeqSteps F (n - 1) P gf lb encs R Kp Ks S w0)
    (hKt : ∀ {A B C : World}, Kp A B → Kp B C → Kp A C) (hKb : ∀ (W : World) (l : Nat) (o : Obj), w.heap.size ≤ l → Kp W (W.putObj l o))
    (hKs : ∀ A B, Ks A B → KeepsFrom w.heap.size A B) (hb0 : Below w0.heap.size w0 w) (hps : ∀ pre x, (encs pre x).size = ps.size)
    (I : List α → World → Prop) (Ix : Code → List α → World → Prop) (hI : OwnFrom w.heap.size I) (hIx : ∀ c, OwnFrom w.heap.size (Ix c)) (hIs : ∀ s A B, I s A → Ks A B → I s B) (h0 : I [] w) (a₁ : List α → α → Act)
    (hassign : ∀ (l : Nat) (pre : List α) (x : α) (W : World) (K : Act → World → Prop), K (a₁ pre x) W →
      assign.wpIn (F.inRound l) (n - 1 - 1) P (Exit.then K (fun _ _ _ => False)) { tmps := (ps.zip (encs pre x)).foldl (fun t (p, v) => t.setIfInBounds p v) a.tmps, defers := [] } W)
    (hbody : ∀ (l : Nat) (pre : List α) (x : α) (W : World), I pre W → R pre x → body.wpIn (F.inRound l) (n - 1 - 1) P (ownPostG w.heap.size Kp I Ix (pre ++ [x]) W) (a₁ pre x) W)
    (hdone : ∀ (D : Nat) (xs : List α) (W : World), w.heap.size ≤ D → S xs → I xs W → W.heap[D]? = some (.deferred (some [])) → Q .normal { a with defers := { target := .collected D, args := #[] } :: a.defers } W)
    (hstop : ∀ (D : Nat) (c : Code) (pre : List α) (W : World), w.heap.size ≤ D → Ix c pre W → W.heap[D]? = some (.deferred (some [])) → c.wpIn F n P Q { a with defers := { target := .collected D, args := #[] } :: a.defers } W) :
    (Code.rangeFunc g ps assign body).wpIn F n P Q a w := by
  refine wpIn_rangeFunc ?_
  intro fn hfn
  rw [hro]
  obtain ⟨L, hL⟩ : ∃ L : LoopState → Option Code → Loop, L = fun st pe => { state := st, pending := pe, fn, tmps := a.tmps, params := ps, assign, body, defers := w.heap.size } := ⟨_, rfl⟩
  obtain ⟨W1, hW1⟩ : ∃ W1, (w.alloc (.deferred (some []))).alloc (.loop (L .ready none)) = W1 := ⟨_, rfl⟩
  have hB1 : Books (L .ready none) w.heap.size (w.heap.size + 1) W1 := by
    rw [← hW1]
    refine ⟨?_, (Below.heap_alloc _ _ _ (by simp)).trans (World.alloc_heap_new w _)⟩
    have := World.alloc_heap_new (w.alloc (.deferred (some []))) (.loop (L .ready none))
    rwa [World.size_alloc] at this
  have hI1 : I [] W1 := by rw [← hW1]; exact hI.alloc _ (hI.alloc _ h0)
  have hb1 : Below w0.heap.size w0 W1 := by
    rw [← hW1]; exact hb0.trans ((((Below.refl _ w).alloc (Nat.le_refl _) _).alloc (by simp) _).mono hb0.size)
  have hne : w.heap.size ≠ w.heap.size + 1 := by omega
  refine ⟨w.heap.size + 1, [{ target := .collected w.heap.size, args := #[] }], W1, { target := .fn (.func gf) lb, args := #[.func (.yield (w.heap.size + 1)) #[] #[]] }, W1, gf,
    #[.func (.yield (w.heap.size + 1)) #[] #[]] ++ lb, W1, ?_, ?_, ?_, ?_, fun _ => h1, ?_⟩
  · rw [← hW1, hL]; exact run_enterLoop_outer _ _ _ _ _
  · simp only [resolve, hg]
    simp [go_sem]
  · intro f' hf'; simp [Target.leads] at hf'; subst hf'; exact hFg
  · simp [invoke, go_sem, eg]
  refine (hseq (w.heap.size + 1) (fun pre W => I pre W ∧ Books (L .ready none) w.heap.size (w.heap.size + 1) W) (fun pre W => ∃ c, Ix c pre W ∧ Books (L .done (some c)) w.heap.size (w.heap.size + 1) W) W1 hb1
    (fun s A B hs hk => ⟨hIs s A B hs.1 hk, hs.2.kept (hKs A B hk) (Nat.le_refl _) (by omega)⟩) ?_ ⟨hI1, hB1⟩).mono ?_
  · -- a round
    rintro pre x W ⟨hi, hbk⟩ hlen
    have hy := run_yield (P := P) (args := encs pre x) hbk.1 (by rw [hL]; exact hps pre x)
    rw [hL] at hy
    refine ⟨fn, _, assign, body, hy, roundIn_of_wpIn hfn (hassign _ pre x W _ ⟨_, run_beginRound hbk.1 (by rw [hL]), ?_⟩)⟩
    have hbk2 : Books ({ L .ready none with state := .busy }) w.heap.size (w.heap.size + 1) (W.putObj (w.heap.size + 1) (.loop { L .ready none with state := .busy })) := hbk.put hne
    have hkp2 : Kp W (W.putObj (w.heap.size + 1) (.loop { L .ready none with state := .busy })) := hKb _ _ _ (by omega)
    refine wpIn_mono (hbody _ pre x _ (hI.putObj _ hi (by omega) hbk.1 rfl) hlen) ?_
    have fin : ∀ (jump : Option Code) (W3 : World), KeepsFrom w.heap.size (W.putObj (w.heap.size + 1) (.loop { L .ready none with state := .busy })) W3 →
        (Instr.endRound (w.heap.size + 1) jump).run P W3 = .ok (.bool jump.isNone) (W3.putObj (w.heap.size + 1) (.loop (L (if jump.isNone then .ready else .done) jump))) ∧
        W3.heap[w.heap.size + 1]? = some (.loop { L .ready none with state := .busy }) ∧
        Books (L (if jump.isNone then .ready else .done) jump) w.heap.size (w.heap.size + 1) (W3.putObj (w.heap.size + 1) (.loop (L (if jump.isNone then .ready else .done) jump))) := fun jump W3 hk3 => by
      have hbk3 := hbk2.kept hk3 (Nat.le_refl _) (by omega)
      have hr := run_endRound (P := P) jump hbk3.1
      rw [hL] at hr hbk3 ⊢
      exact ⟨hr, hbk3.1, hbk3.put hne⟩
    have out : ∀ (c : Code) (W3 : World), KeepsFrom w.heap.size (W.putObj (w.heap.size + 1) (.loop { L .ready none with state := .busy })) W3 → Ix c (pre ++ [x]) W3 →
        ∃ v' w', (Instr.endRound (w.heap.size + 1) (some c)).run P W3 = .ok v' w' ∧ ((Ending.returned v' = .returned (.bool true) ∧ (I (pre ++ [x]) w' ∧ Books (L .ready none) w.heap.size (w.heap.size + 1) w') ∧ Kp W w') ∨
          (Ending.returned v' = .returned (.bool false) ∧ ∃ c, Ix c (pre ++ [x]) w' ∧ Books (L .done (some c)) w.heap.size (w.heap.size + 1) w')) := fun c W3 hk3 hi3 => by
      obtain ⟨hr, hl3, hb3⟩ := fin (some c) W3 hk3
      exact ⟨_, _, hr, .inr ⟨rfl, c, (hIx _).putObj _ hi3 (by omega) hl3 rfl, hb3⟩⟩
    rintro e a3 W3 hp
    cases e with
    | normal =>
      obtain ⟨hk3, hkp3, hi3⟩ := hp
      obtain ⟨hr, hl3, hb3⟩ := fin none W3 hk3
      exact ⟨_, _, hr, .inl ⟨rfl, ⟨hI.putObj _ hi3 (by omega) hl3 rfl, hb3⟩, hKt (hKt hkp2 hkp3) (hKb _ _ _ (by omega))⟩⟩
    | ret => exact out .ret W3 hp.1 hp.2
    | exit id => exact out (.exit id) W3 hp.1 hp.2
    | goto t => exact out (.goto t) W3 hp.1 hp.2
    | panic ch => exact hp.elim
    | outgrown => exact hp.elim
  · -- behind the iterator
    rintro e W2 ⟨⟨v, rfl⟩, (⟨xs, hS, hi, hbk⟩ | ⟨pre, c, hi, hbk⟩)⟩
    · exact ⟨none, _, by have := run_endLoop (P := P) hbk.1 (by rw [hL]; simp); rw [hL] at this; exact this, hdone _ xs _ (Nat.le_refl _) hS (hI.putObj _ hi (by omega) hbk.1 rfl) ((World.putObj_heap_other (by omega)).trans hbk.2)⟩
    · exact ⟨some c, _, by have := run_endLoop (P := P) hbk.1 (by rw [hL]; simp); rw [hL] at this; exact this, hstop _ c pre _ (Nat.le_refl _) ((hIx c).putObj _ hi (by omega) hbk.1 rfl) ((World.putObj_heap_other (by omega)).trans hbk.2)⟩
end Go.Proofs.YtonlfplloenfcaaGreatDoor
