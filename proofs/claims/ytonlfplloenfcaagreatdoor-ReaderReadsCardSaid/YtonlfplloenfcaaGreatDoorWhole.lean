/-
  Closed facts of the whole program, which every card of this seat asks: one theorem each (together they want too much of the kernel's memory).
-/
import Derived.Test.YtonlfplloenfcaaGreatDoorOpenbEtc
namespace Go.Proofs.YtonlfplloenfcaaGreatDoor
open Go.ChangeShapes Go.WideShapes Go.ChangeAt Go.RowKit Go.Deep

theorem and_i {a b : Bool} (ha : a = true) (hb : b = true) : (a && b) = true := by rw [ha, hb]; rfl
theorem maps_rowed : mapsRowed Tryz.prog = true := by kernel_rfl
theorem plain_keys : (true == Tryz.prog.plainKeys) = true := by kernel_rfl
theorem stops_heard : Tryz.prog.stopsHeard = true := by kernel_rfl
theorem order_facts : (Tryz.prog.mayEnter && ((false == Tryz.prog.liftsFinal) && ((Tryz.prog.make == some .cut) && (Tryz.prog.mainIs == some (true, "8f05b6ca80ed6d59d1a7de63d39844b70636a850684812ff888b6492df993b4d".toList))))) = true := by kernel_rfl
theorem may_enter : Tryz.prog.mayEnter = true := (Bool.and_eq_true_iff.1 order_facts).1
theorem lifts_final : (false == Tryz.prog.liftsFinal) = true := (Bool.and_eq_true_iff.1 (Bool.and_eq_true_iff.1 order_facts).2).1
theorem make_is : (Tryz.prog.make == some .cut) = true := (Bool.and_eq_true_iff.1 (Bool.and_eq_true_iff.1 (Bool.and_eq_true_iff.1 order_facts).2).2).1
theorem main_is : Tryz.prog.mainIs = some (true, "8f05b6ca80ed6d59d1a7de63d39844b70636a850684812ff888b6492df993b4d".toList) := eq_of_beq (Bool.and_eq_true_iff.1 (Bool.and_eq_true_iff.1 (Bool.and_eq_true_iff.1 order_facts).2).2).2
end Go.Proofs.YtonlfplloenfcaaGreatDoor
