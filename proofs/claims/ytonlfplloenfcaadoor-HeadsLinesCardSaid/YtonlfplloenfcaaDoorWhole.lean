/-
  Closed facts of the whole program, which every card of this seat asks: one theorem each (together they want too much of the kernel's memory).
-/
import Derived.Test.YtonlfplloenfcaaDoorOpenw
namespace Go.Proofs.YtonlfplloenfcaaDoor
open Go.ChangeShapes Go.WideShapes Go.ChangeAt Go.RowKit Go.Deep

theorem and_i {a b : Bool} (ha : a = true) (hb : b = true) : (a && b) = true := by rw [ha, hb]; rfl
theorem maps_rowed : mapsRowed Tryd.prog = true := by kernel_rfl
theorem plain_keys : (true == Tryd.prog.plainKeys) = true := by kernel_rfl
theorem stops_heard : Tryd.prog.stopsHeard = true := by kernel_rfl
theorem order_facts : (Tryd.prog.mayEnter && ((false == Tryd.prog.liftsFinal) && ((Tryd.prog.make == some .cut) && (Tryd.prog.mainIs == some (true, "12eba56699f8db452dae775f92352ab5b1df894d2799c217e81dc569ebb2f2a8".toList))))) = true := by kernel_rfl
theorem may_enter : Tryd.prog.mayEnter = true := (Bool.and_eq_true_iff.1 order_facts).1
theorem lifts_final : (false == Tryd.prog.liftsFinal) = true := (Bool.and_eq_true_iff.1 (Bool.and_eq_true_iff.1 order_facts).2).1
theorem make_is : (Tryd.prog.make == some .cut) = true := (Bool.and_eq_true_iff.1 (Bool.and_eq_true_iff.1 (Bool.and_eq_true_iff.1 order_facts).2).2).1
theorem main_is : Tryd.prog.mainIs = some (true, "12eba56699f8db452dae775f92352ab5b1df894d2799c217e81dc569ebb2f2a8".toList) := eq_of_beq (Bool.and_eq_true_iff.1 (Bool.and_eq_true_iff.1 (Bool.and_eq_true_iff.1 order_facts).2).2).2
end Go.Proofs.YtonlfplloenfcaaDoor

