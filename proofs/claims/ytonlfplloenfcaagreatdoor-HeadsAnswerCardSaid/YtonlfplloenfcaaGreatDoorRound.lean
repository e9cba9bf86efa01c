/-
  A statement that draws its order, inside the body of a range over a function: over any program.
-/
import Derived.OwnWalkIn
import Derived.RangeFuncCalls
import Derived.RegionTactic
import Derived.OrdersIn
namespace Go.Proofs.YtonlfplloenfcaaGreatDoor
open Go.RowKit
variable {P : Program} {l n : Nat}

def Oper.plainB (o : Oper) : Bool := match o.op with | .defer _ => false | _ => true
/-- An operation that is no defer statement runs inside a round as everywhere. -/
theorem opIn_of_op {o : Oper} {a : Act} {w : World} {K : Act → World → Prop} {Q : Exit → Act → World → Prop} (hnd : Oper.plainB o = true) (h : Oper.wp P o a w K Q) : Oper.wpIn (Fence.wide.inRound l) n P o a w K Q := by
  refine ⟨fun _ _ => trivial, ?_⟩
  rw [Oper.semAt_plain _ _ _ (fun c hc => by unfold Oper.plainB at hnd; rw [hc] at hnd; cases hnd)]
  unfold Oper.wp at h
  generalize (execOp a.eval o).run P w = r at *
  cases r with
  | ok nx w' =>
    match nx, h with
    | .value v, h => exact h
    | .skip, h => exact h
    | .defer d, h => exact h
    | .enter f args, h => exact ⟨(fun h => by cases h), CallsIn.inRound l (callsIn_wide.2 h)⟩
    | .row r args, h =>
      refine ⟨(fun h => by cases h), fun c cs _ => ?_⟩
      obtain ⟨v, w'', r, s⟩ := (show Rows P _ args w' _ from h) c cs
      exact ⟨v, w'', r, stepsIn_wide.2 s⟩
  | halt x w' => cases x <;> exact h
theorem anyIn_of_any {md : Region.Mode} {ops : Array Oper} {Q : Exit → Act → World → Prop} (hnd : ops.all Oper.plainB = true) (hQ : ¬ LetsOut Q) : ∀ (fuel : Nat) (listed : Array Bool) (a : Act) (w : World),
    wpAny P md ops Q fuel listed a w → wpAnyIn (Fence.wide.inRound l) n P md ops Q fuel listed a w
  | 0, _, _, _, h => h
  | fuel + 1, listed, a, w, ⟨h0, h1⟩ => by
    refine ⟨h0, fun i hi => ?_⟩
    have h2 := h1 i hi
    unfold wpOp at h2
    unfold wpOpIn
    cases ho : ops[i]? with
    | none =>
      rw [ho] at h2
      exact anyIn_of_any hnd hQ fuel _ a w h2
    | some o =>
      rw [ho] at h2
      simp only at h2 ⊢
      split
      · rename_i hw
        rw [if_pos hw] at h2
        rcases h2 with h2 | h2
        · have hp : Oper.plainB o = true := by
            have := Array.all_eq_true'.1 hnd o (Array.mem_of_getElem? ho)
            exact this
          exact Oper.wpIn_mono (fun a w => anyIn_of_any hnd hQ fuel _ a w) (opIn_of_op hp h2)
        · exact absurd h2.2 hQ
      · rename_i hw
        rw [if_neg hw] at h2
        exact ⟨fun _ _ => trivial, anyIn_of_any hnd hQ fuel _ _ w h2⟩
theorem wpIn_region_round {id : Nat} {ops : Array Oper} {Q : Exit → Act → World → Prop} {a : Act} {w : World} (hm : P.follows .mixedOrders = true) (hnd : ops.all Oper.plainB = true) (hQ : ¬ LetsOut Q)
    (h : wpAny P .any ops Q ops.size (Array.replicate ops.size false) a w.drew) : (Code.region id ops true).wpIn (Fence.wide.inRound l) n P Q a w :=
  wpIn_region_any hm (anyIn_of_any hnd hQ _ _ _ _ h)
end Go.Proofs.YtonlfplloenfcaaGreatDoor
