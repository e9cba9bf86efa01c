/-
  BodiesLength: the closed facts of its row, one theorem each.
-/
import Derived.Test.YtonlfplloenfcaaGreatDoorWhole
namespace Go.Proofs.YtonlfplloenfcaaGreatDoor.bodiesLengthFacts
open Go.ChangeShapes Go.WideShapes Go.ChangeAt Go.RowKit Go.Deep
theorem wf_is : Rows.bodiesLengthRow.wf (OpenSpec.ofChange Rows.bodiesLengthSpec) = true := by kernel_rfl
theorem params_is : Tryz.f17.params.all (Tryz.prog.readableRec ·) = true := by kernel_rfl
theorem tie_is : namedTie Tryz.prog Rows.bodiesLengthRow.named Rows.bodiesLengthSpec.vars = true := by kernel_rfl
theorem stops_is : (Rows.bodiesLengthRow.stops == []) = true := by kernel_rfl
theorem pstops_is : (Tryz.prog.stops == []) = true := by kernel_rfl
theorem knobs_is : (Rows.bodiesLengthRow.knobs == []) = true := by kernel_rfl
theorem pknobs_is : (Tryz.prog.stopKnobs == []) = true := by kernel_rfl
theorem inPlace_is : (Rows.bodiesLengthRow.inPlace == Tryz.prog.inPlace 17) = true := by kernel_rfl
theorem unfollowed_is : (Rows.bodiesLengthRow.unfollowed == Tryz.prog.unfollowed 17) = true := by kernel_rfl
theorem recurses_is : (Rows.bodiesLengthRow.recurses == Tryz.prog.recurses 17) = true := by kernel_rfl
theorem named_is : (Rows.bodiesLengthRow.named == Tryz.prog.varsNamed 17) = true := by kernel_rfl
theorem maps_is : (Rows.bodiesLengthRow.maps == (Tryz.f17.params.toList ++ Rows.bodiesLengthSpec.plain.varTypes Tryz.prog).any (Tryz.prog.mapsRec ·)) = true := by kernel_rfl
theorem ifaces_is : (Rows.bodiesLengthRow.ifaces == (Tryz.f17.params.toList ++ Rows.bodiesLengthSpec.plain.varTypes Tryz.prog).any (Tryz.prog.ifacesRec ·)) = true := by kernel_rfl
theorem mapsOut_is : (Rows.bodiesLengthRow.mapsOut == Tryz.prog.mapsAmong Tryz.f17.resultTypes.toList) = true := by kernel_rfl
theorem loops_is : (Rows.bodiesLengthRow.loops == (Tryz.f17.params.toList ++ Rows.bodiesLengthSpec.plain.varTypes Tryz.prog).any (Tryz.prog.loopsFrom ·)) = true := by kernel_rfl
theorem wideKeys_is : (Rows.bodiesLengthRow.wideKeys == (Tryz.f17.params.toList ++ Rows.bodiesLengthSpec.plain.varTypes Tryz.prog ++ Tryz.f17.resultTypes.toList).any (Tryz.prog.wideKeysFrom ·)) = true := by kernel_rfl
theorem vars_is : Rows.bodiesLengthSpec.vars.all (Tryz.prog.varReadable ·) = true := by kernel_rfl
theorem results_is : Tryz.f17.resultTypes.all (fun t => Tryz.prog.readableRec t && decide (t < Tryz.prog.types.size)) = true := by kernel_rfl
theorem ifacesOut_is : (Rows.bodiesLengthRow.ifacesOut == Tryz.f17.resultTypes.toList.any (Tryz.prog.ifacesRec ·)) = true := by kernel_rfl
theorem loopsOut_is : (Rows.bodiesLengthRow.loopsOut == Tryz.f17.resultTypes.toList.any (Tryz.prog.loopsFrom ·)) = true := by kernel_rfl
theorem shortTexts_is : Rows.bodiesLengthRow.shortTexts.isNone = true := by kernel_rfl
theorem kinds_is : (Rows.bodiesLengthRow.kinds == (if Rows.bodiesLengthRow.domain.isEmpty then [] else Tryz.f17.params.toList.map fun t => match Tryz.prog.underlying t with | some (.int k) => some k | _ => none)) = true := by kernel_rfl
theorem pinned_is : (Rows.bodiesLengthRow.pinned == Rows.bodiesLengthRow.pinnedBy) = true := by kernel_rfl
theorem veiled_is : (Rows.bodiesLengthRow.veiled == (Tryz.f17.params.toList ++ Rows.bodiesLengthSpec.plain.varTypes Tryz.prog ++ Tryz.f17.resultTypes.toList).any (Tryz.prog.veiledRec ·)) = true := by kernel_rfl
theorem veiledFits_is : Rows.bodiesLengthRow.veiledFits Tryz.prog Tryz.f17.params.toList (Tryz.f17.params.toList ++ Rows.bodiesLengthSpec.plain.varTypes Tryz.prog ++ Tryz.f17.resultTypes.toList) = true := by kernel_rfl
set_option maxRecDepth 100000 in
theorem closed : joinedFacts Tryz.prog 17 Tryz.f17 Rows.bodiesLengthSpec Rows.bodiesLengthRow = true := by
  unfold joinedFacts
  exact and_i (and_i (and_i (and_i (and_i (and_i (and_i (and_i (and_i (and_i (and_i (and_i (and_i (and_i (and_i (and_i (and_i (and_i (and_i (and_i (and_i (and_i (and_i (and_i (and_i (and_i (and_i (and_i (and_i (and_i (and_i (wf_is) laidOut_is) maps_rowed) params_is) tie_is) stops_is) pstops_is) knobs_is) pknobs_is) inPlace_is) unfollowed_is) recurses_is) named_is) maps_is) ifaces_is) mapsOut_is) loops_is) wideKeys_is) vars_is) results_is) ifacesOut_is) loopsOut_is) plain_keys) shortTexts_is) stops_heard) may_enter) lifts_final) make_is) kinds_is) pinned_is) veiled_is) veiledFits_is
theorem instance_is : Tryz.f17.isInstance Tryz.prog Rows.bodiesLengthRow.origin Rows.bodiesLengthRow.targs := of_decide_eq_true (by kernel_rfl)
theorem wrapper_is : Tryz.f17.isWrapper Tryz.prog Rows.bodiesLengthRow.wrapper Rows.bodiesLengthRow.mainSum := by unfold Func.isWrapper; first | (rw [if_pos (by decide +kernel)]; kernel_rfl) | (rw [if_neg (by decide +kernel)]; exact ⟨rfl, rfl⟩)
theorem text_is : Rows.bodiesLengthRow.wfByText (OpenSpec.ofChange Rows.bodiesLengthSpec) = true := by kernel_rfl
theorem goes_is : false = Rows.bodiesLengthRow.goesBy Tryz.prog := by kernel_rfl
theorem id_is : Tryz.prog.funcNamed "footman/footmanlaw13.BodiesLength" = some 17 := by kernel_rfl
end Go.Proofs.YtonlfplloenfcaaGreatDoor.bodiesLengthFacts
