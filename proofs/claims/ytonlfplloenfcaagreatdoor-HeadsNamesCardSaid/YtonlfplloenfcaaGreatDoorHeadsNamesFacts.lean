/-
  HeadsNames: the closed facts of its row, one theorem each.
-/
import Derived.Test.YtonlfplloenfcaaGreatDoorWhole
namespace Go.Proofs.YtonlfplloenfcaaGreatDoor.headsNamesFacts
open Go.ChangeShapes Go.WideShapes Go.ChangeAt Go.RowKit Go.Deep
theorem wf_is : Rows.headsNamesRow.wf (OpenSpec.ofChange Rows.headsNamesSpec) = true := by kernel_rfl
theorem params_is : Tryz.f10.params.all (Tryz.prog.readableRec ·) = true := by kernel_rfl
theorem tie_is : namedTie Tryz.prog Rows.headsNamesRow.named Rows.headsNamesSpec.vars = true := by kernel_rfl
theorem stops_is : (Rows.headsNamesRow.stops == []) = true := by kernel_rfl
theorem pstops_is : (Tryz.prog.stops == []) = true := by kernel_rfl
theorem knobs_is : (Rows.headsNamesRow.knobs == []) = true := by kernel_rfl
theorem pknobs_is : (Tryz.prog.stopKnobs == []) = true := by kernel_rfl
theorem inPlace_is : (Rows.headsNamesRow.inPlace == Tryz.prog.inPlace 10) = true := by kernel_rfl
theorem unfollowed_is : (Rows.headsNamesRow.unfollowed == Tryz.prog.unfollowed 10) = true := by kernel_rfl
theorem recurses_is : (Rows.headsNamesRow.recurses == Tryz.prog.recurses 10) = true := by kernel_rfl
theorem named_is : (Rows.headsNamesRow.named == Tryz.prog.varsNamed 10) = true := by kernel_rfl
theorem maps_is : (Rows.headsNamesRow.maps == (Tryz.f10.params.toList ++ Rows.headsNamesSpec.plain.varTypes Tryz.prog).any (Tryz.prog.mapsRec ·)) = true := by kernel_rfl
theorem ifaces_is : (Rows.headsNamesRow.ifaces == (Tryz.f10.params.toList ++ Rows.headsNamesSpec.plain.varTypes Tryz.prog).any (Tryz.prog.ifacesRec ·)) = true := by kernel_rfl
theorem mapsOut_is : (Rows.headsNamesRow.mapsOut == Tryz.prog.mapsAmong Tryz.f10.resultTypes.toList) = true := by kernel_rfl
theorem loops_is : (Rows.headsNamesRow.loops == (Tryz.f10.params.toList ++ Rows.headsNamesSpec.plain.varTypes Tryz.prog).any (Tryz.prog.loopsFrom ·)) = true := by kernel_rfl
theorem wideKeys_is : (Rows.headsNamesRow.wideKeys == (Tryz.f10.params.toList ++ Rows.headsNamesSpec.plain.varTypes Tryz.prog ++ Tryz.f10.resultTypes.toList).any (Tryz.prog.wideKeysFrom ·)) = true := by kernel_rfl
theorem vars_is : Rows.headsNamesSpec.vars.all (Tryz.prog.varReadable ·) = true := by kernel_rfl
theorem results_is : Tryz.f10.resultTypes.all (fun t => Tryz.prog.readableRec t && decide (t < Tryz.prog.types.size)) = true := by kernel_rfl
theorem ifacesOut_is : (Rows.headsNamesRow.ifacesOut == Tryz.f10.resultTypes.toList.any (Tryz.prog.ifacesRec ·)) = true := by kernel_rfl
theorem loopsOut_is : (Rows.headsNamesRow.loopsOut == Tryz.f10.resultTypes.toList.any (Tryz.prog.loopsFrom ·)) = true := by kernel_rfl
theorem shortTexts_is : Rows.headsNamesRow.shortTexts.isNone = true := by kernel_rfl
theorem kinds_is : (Rows.headsNamesRow.kinds == (if Rows.headsNamesRow.domain.isEmpty then [] else Tryz.f10.params.toList.map fun t => match Tryz.prog.underlying t with | some (.int k) => some k | _ => none)) = true := by kernel_rfl
theorem pinned_is : (Rows.headsNamesRow.pinned == Rows.headsNamesRow.pinnedBy) = true := by kernel_rfl
theorem veiled_is : (Rows.headsNamesRow.veiled == (Tryz.f10.params.toList ++ Rows.headsNamesSpec.plain.varTypes Tryz.prog ++ Tryz.f10.resultTypes.toList).any (Tryz.prog.veiledRec ·)) = true := by kernel_rfl
theorem veiledFits_is : Rows.headsNamesRow.veiledFits Tryz.prog Tryz.f10.params.toList (Tryz.f10.params.toList ++ Rows.headsNamesSpec.plain.varTypes Tryz.prog ++ Tryz.f10.resultTypes.toList) = true := by kernel_rfl
set_option maxRecDepth 100000 in
theorem closed : joinedFacts Tryz.prog 10 Tryz.f10 Rows.headsNamesSpec Rows.headsNamesRow = true := by
  unfold joinedFacts
  exact and_i (and_i (and_i (and_i (and_i (and_i (and_i (and_i (and_i (and_i (and_i (and_i (and_i (and_i (and_i (and_i (and_i (and_i (and_i (and_i (and_i (and_i (and_i (and_i (and_i (and_i (and_i (and_i (and_i (and_i (and_i (wf_is) laidOut_is) maps_rowed) params_is) tie_is) stops_is) pstops_is) knobs_is) pknobs_is) inPlace_is) unfollowed_is) recurses_is) named_is) maps_is) ifaces_is) mapsOut_is) loops_is) wideKeys_is) vars_is) results_is) ifacesOut_is) loopsOut_is) plain_keys) shortTexts_is) stops_heard) may_enter) lifts_final) make_is) kinds_is) pinned_is) veiled_is) veiledFits_is
theorem instance_is : Tryz.f10.isInstance Tryz.prog Rows.headsNamesRow.origin Rows.headsNamesRow.targs := of_decide_eq_true (by kernel_rfl)
theorem wrapper_is : Tryz.f10.isWrapper Tryz.prog Rows.headsNamesRow.wrapper Rows.headsNamesRow.mainSum := by unfold Func.isWrapper; first | (rw [if_pos (by decide +kernel)]; kernel_rfl) | (rw [if_neg (by decide +kernel)]; exact ⟨rfl, rfl⟩)
theorem text_is : Rows.headsNamesRow.wfByText (OpenSpec.ofChange Rows.headsNamesSpec) = true := by kernel_rfl
theorem goes_is : false = Rows.headsNamesRow.goesBy Tryz.prog := by kernel_rfl
theorem id_is : Tryz.prog.funcNamed "footman/footmanlaw12.HeadsNames" = some 10 := by kernel_rfl
end Go.Proofs.YtonlfplloenfcaaGreatDoor.headsNamesFacts
