/-
  BodiesBack: the closed facts of its row, one theorem each.
-/
import Derived.Test.YtonlfplloenfcaaGreatDoorWhole
namespace Go.Proofs.YtonlfplloenfcaaGreatDoor.bodiesBackFacts
open Go.ChangeShapes Go.WideShapes Go.ChangeAt Go.RowKit Go.Deep
theorem wf_is : Rows.bodiesBackRow.wf (OpenSpec.ofChange Rows.bodiesBackSpec) = true := by kernel_rfl
theorem params_is : Tryz.f13.params.all (Tryz.prog.readableRec ·) = true := by kernel_rfl
theorem tie_is : namedTie Tryz.prog Rows.bodiesBackRow.named Rows.bodiesBackSpec.vars = true := by kernel_rfl
theorem stops_is : (Rows.bodiesBackRow.stops == []) = true := by kernel_rfl
theorem pstops_is : (Tryz.prog.stops == []) = true := by kernel_rfl
theorem knobs_is : (Rows.bodiesBackRow.knobs == []) = true := by kernel_rfl
theorem pknobs_is : (Tryz.prog.stopKnobs == []) = true := by kernel_rfl
theorem inPlace_is : (Rows.bodiesBackRow.inPlace == Tryz.prog.inPlace 13) = true := by kernel_rfl
theorem unfollowed_is : (Rows.bodiesBackRow.unfollowed == Tryz.prog.unfollowed 13) = true := by kernel_rfl
theorem recurses_is : (Rows.bodiesBackRow.recurses == Tryz.prog.recurses 13) = true := by kernel_rfl
theorem named_is : (Rows.bodiesBackRow.named == Tryz.prog.varsNamed 13) = true := by kernel_rfl
theorem maps_is : (Rows.bodiesBackRow.maps == (Tryz.f13.params.toList ++ Rows.bodiesBackSpec.plain.varTypes Tryz.prog).any (Tryz.prog.mapsRec ·)) = true := by kernel_rfl
theorem ifaces_is : (Rows.bodiesBackRow.ifaces == (Tryz.f13.params.toList ++ Rows.bodiesBackSpec.plain.varTypes Tryz.prog).any (Tryz.prog.ifacesRec ·)) = true := by kernel_rfl
theorem mapsOut_is : (Rows.bodiesBackRow.mapsOut == Tryz.prog.mapsAmong Tryz.f13.resultTypes.toList) = true := by kernel_rfl
theorem loops_is : (Rows.bodiesBackRow.loops == (Tryz.f13.params.toList ++ Rows.bodiesBackSpec.plain.varTypes Tryz.prog).any (Tryz.prog.loopsFrom ·)) = true := by kernel_rfl
theorem wideKeys_is : (Rows.bodiesBackRow.wideKeys == (Tryz.f13.params.toList ++ Rows.bodiesBackSpec.plain.varTypes Tryz.prog ++ Tryz.f13.resultTypes.toList).any (Tryz.prog.wideKeysFrom ·)) = true := by kernel_rfl
theorem vars_is : Rows.bodiesBackSpec.vars.all (Tryz.prog.varReadable ·) = true := by kernel_rfl
theorem results_is : Tryz.f13.resultTypes.all (fun t => Tryz.prog.readableRec t && decide (t < Tryz.prog.types.size)) = true := by kernel_rfl
theorem ifacesOut_is : (Rows.bodiesBackRow.ifacesOut == Tryz.f13.resultTypes.toList.any (Tryz.prog.ifacesRec ·)) = true := by kernel_rfl
theorem loopsOut_is : (Rows.bodiesBackRow.loopsOut == Tryz.f13.resultTypes.toList.any (Tryz.prog.loopsFrom ·)) = true := by kernel_rfl
theorem shortTexts_is : Rows.bodiesBackRow.shortTexts.isNone = true := by kernel_rfl
theorem kinds_is : (Rows.bodiesBackRow.kinds == (if Rows.bodiesBackRow.domain.isEmpty then [] else Tryz.f13.params.toList.map fun t => match Tryz.prog.underlying t with | some (.int k) => some k | _ => none)) = true := by kernel_rfl
theorem pinned_is : (Rows.bodiesBackRow.pinned == Rows.bodiesBackRow.pinnedBy) = true := by kernel_rfl
theorem veiled_is : (Rows.bodiesBackRow.veiled == (Tryz.f13.params.toList ++ Rows.bodiesBackSpec.plain.varTypes Tryz.prog ++ Tryz.f13.resultTypes.toList).any (Tryz.prog.veiledRec ·)) = true := by kernel_rfl
theorem veiledFits_is : Rows.bodiesBackRow.veiledFits Tryz.prog Tryz.f13.params.toList (Tryz.f13.params.toList ++ Rows.bodiesBackSpec.plain.varTypes Tryz.prog ++ Tryz.f13.resultTypes.toList) = true := by kernel_rfl
set_option maxRecDepth 100000 in
theorem closed : joinedFacts Tryz.prog 13 Tryz.f13 Rows.bodiesBackSpec Rows.bodiesBackRow = true := by
  unfold joinedFacts
  exact and_i (and_i (and_i (and_i (and_i (and_i (and_i (and_i (and_i (and_i (and_i (and_i (and_i (and_i (and_i (and_i (and_i (and_i (and_i (and_i (and_i (and_i (and_i (and_i (and_i (and_i (and_i (and_i (and_i (and_i (and_i (wf_is) laidOut_is) maps_rowed) params_is) tie_is) stops_is) pstops_is) knobs_is) pknobs_is) inPlace_is) unfollowed_is) recurses_is) named_is) maps_is) ifaces_is) mapsOut_is) loops_is) wideKeys_is) vars_is) results_is) ifacesOut_is) loopsOut_is) plain_keys) shortTexts_is) stops_heard) may_enter) lifts_final) make_is) kinds_is) pinned_is) veiled_is) veiledFits_is
theorem instance_is : Tryz.f13.isInstance Tryz.prog Rows.bodiesBackRow.origin Rows.bodiesBackRow.targs := of_decide_eq_true (by kernel_rfl)
theorem wrapper_is : Tryz.f13.isWrapper Tryz.prog Rows.bodiesBackRow.wrapper Rows.bodiesBackRow.mainSum := by unfold Func.isWrapper; first | (rw [if_pos (by decide +kernel)]; kernel_rfl) | (rw [if_neg (by decide +kernel)]; exact ⟨rfl, rfl⟩)
theorem text_is : Rows.bodiesBackRow.wfByText (OpenSpec.ofChange Rows.bodiesBackSpec) = true := by kernel_rfl
theorem goes_is : false = Rows.bodiesBackRow.goesBy Tryz.prog := by kernel_rfl
theorem id_is : Tryz.prog.funcNamed "footman/footmanlaw13.BodiesBack" = some 13 := by kernel_rfl
end Go.Proofs.YtonlfplloenfcaaGreatDoor.bodiesBackFacts
