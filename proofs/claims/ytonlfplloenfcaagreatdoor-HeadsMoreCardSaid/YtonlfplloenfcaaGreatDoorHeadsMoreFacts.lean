/-
  HeadsMore: the closed facts of its row, one theorem each.
-/
import Derived.Test.YtonlfplloenfcaaGreatDoorWhole
namespace Go.Proofs.YtonlfplloenfcaaGreatDoor.headsMoreFacts
open Go.ChangeShapes Go.WideShapes Go.ChangeAt Go.RowKit Go.Deep
theorem wf_is : Rows.headsMoreRow.wf (OpenSpec.ofChange Rows.headsMoreSpec) = true := by kernel_rfl
theorem params_is : Tryz.f8.params.all (Tryz.prog.readableRec ·) = true := by kernel_rfl
theorem tie_is : namedTie Tryz.prog Rows.headsMoreRow.named Rows.headsMoreSpec.vars = true := by kernel_rfl
theorem stops_is : (Rows.headsMoreRow.stops == []) = true := by kernel_rfl
theorem pstops_is : (Tryz.prog.stops == []) = true := by kernel_rfl
theorem knobs_is : (Rows.headsMoreRow.knobs == []) = true := by kernel_rfl
theorem pknobs_is : (Tryz.prog.stopKnobs == []) = true := by kernel_rfl
theorem inPlace_is : (Rows.headsMoreRow.inPlace == Tryz.prog.inPlace 8) = true := by kernel_rfl
theorem unfollowed_is : (Rows.headsMoreRow.unfollowed == Tryz.prog.unfollowed 8) = true := by kernel_rfl
theorem recurses_is : (Rows.headsMoreRow.recurses == Tryz.prog.recurses 8) = true := by kernel_rfl
theorem named_is : (Rows.headsMoreRow.named == Tryz.prog.varsNamed 8) = true := by kernel_rfl
theorem maps_is : (Rows.headsMoreRow.maps == (Tryz.f8.params.toList ++ Rows.headsMoreSpec.plain.varTypes Tryz.prog).any (Tryz.prog.mapsRec ·)) = true := by kernel_rfl
theorem ifaces_is : (Rows.headsMoreRow.ifaces == (Tryz.f8.params.toList ++ Rows.headsMoreSpec.plain.varTypes Tryz.prog).any (Tryz.prog.ifacesRec ·)) = true := by kernel_rfl
theorem mapsOut_is : (Rows.headsMoreRow.mapsOut == Tryz.prog.mapsAmong Tryz.f8.resultTypes.toList) = true := by kernel_rfl
theorem loops_is : (Rows.headsMoreRow.loops == (Tryz.f8.params.toList ++ Rows.headsMoreSpec.plain.varTypes Tryz.prog).any (Tryz.prog.loopsFrom ·)) = true := by kernel_rfl
theorem wideKeys_is : (Rows.headsMoreRow.wideKeys == (Tryz.f8.params.toList ++ Rows.headsMoreSpec.plain.varTypes Tryz.prog ++ Tryz.f8.resultTypes.toList).any (Tryz.prog.wideKeysFrom ·)) = true := by kernel_rfl
theorem vars_is : Rows.headsMoreSpec.vars.all (Tryz.prog.varReadable ·) = true := by kernel_rfl
theorem results_is : Tryz.f8.resultTypes.all (fun t => Tryz.prog.readableRec t && decide (t < Tryz.prog.types.size)) = true := by kernel_rfl
theorem ifacesOut_is : (Rows.headsMoreRow.ifacesOut == Tryz.f8.resultTypes.toList.any (Tryz.prog.ifacesRec ·)) = true := by kernel_rfl
theorem loopsOut_is : (Rows.headsMoreRow.loopsOut == Tryz.f8.resultTypes.toList.any (Tryz.prog.loopsFrom ·)) = true := by kernel_rfl
theorem shortTexts_is : Rows.headsMoreRow.shortTexts.isNone = true := by kernel_rfl
theorem kinds_is : (Rows.headsMoreRow.kinds == (if Rows.headsMoreRow.domain.isEmpty then [] else Tryz.f8.params.toList.map fun t => match Tryz.prog.underlying t with | some (.int k) => some k | _ => none)) = true := by kernel_rfl
theorem pinned_is : (Rows.headsMoreRow.pinned == Rows.headsMoreRow.pinnedBy) = true := by kernel_rfl
theorem veiled_is : (Rows.headsMoreRow.veiled == (Tryz.f8.params.toList ++ Rows.headsMoreSpec.plain.varTypes Tryz.prog ++ Tryz.f8.resultTypes.toList).any (Tryz.prog.veiledRec ·)) = true := by kernel_rfl
theorem veiledFits_is : Rows.headsMoreRow.veiledFits Tryz.prog Tryz.f8.params.toList (Tryz.f8.params.toList ++ Rows.headsMoreSpec.plain.varTypes Tryz.prog ++ Tryz.f8.resultTypes.toList) = true := by kernel_rfl
set_option maxRecDepth 100000 in
theorem closed : joinedFacts Tryz.prog 8 Tryz.f8 Rows.headsMoreSpec Rows.headsMoreRow = true := by
  unfold joinedFacts
  exact and_i (and_i (and_i (and_i (and_i (and_i (and_i (and_i (and_i (and_i (and_i (and_i (and_i (and_i (and_i (and_i (and_i (and_i (and_i (and_i (and_i (and_i (and_i (and_i (and_i (and_i (and_i (and_i (and_i (and_i (and_i (wf_is) laidOut_is) maps_rowed) params_is) tie_is) stops_is) pstops_is) knobs_is) pknobs_is) inPlace_is) unfollowed_is) recurses_is) named_is) maps_is) ifaces_is) mapsOut_is) loops_is) wideKeys_is) vars_is) results_is) ifacesOut_is) loopsOut_is) plain_keys) shortTexts_is) stops_heard) may_enter) lifts_final) make_is) kinds_is) pinned_is) veiled_is) veiledFits_is
theorem instance_is : Tryz.f8.isInstance Tryz.prog Rows.headsMoreRow.origin Rows.headsMoreRow.targs := of_decide_eq_true (by kernel_rfl)
theorem wrapper_is : Tryz.f8.isWrapper Tryz.prog Rows.headsMoreRow.wrapper Rows.headsMoreRow.mainSum := by unfold Func.isWrapper; first | (rw [if_pos (by decide +kernel)]; kernel_rfl) | (rw [if_neg (by decide +kernel)]; exact ⟨rfl, rfl⟩)
theorem text_is : Rows.headsMoreRow.wfByText (OpenSpec.ofChange Rows.headsMoreSpec) = true := by kernel_rfl
theorem goes_is : false = Rows.headsMoreRow.goesBy Tryz.prog := by kernel_rfl
theorem id_is : Tryz.prog.funcNamed "footman/footmanlaw12.HeadsMore" = some 8 := by kernel_rfl
end Go.Proofs.YtonlfplloenfcaaGreatDoor.headsMoreFacts
