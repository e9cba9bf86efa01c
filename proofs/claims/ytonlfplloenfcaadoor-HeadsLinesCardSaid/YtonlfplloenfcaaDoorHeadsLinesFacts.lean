/-
  HeadsLines: the closed facts of its row, one theorem each.
-/
import Derived.Test.YtonlfplloenfcaaDoorWhole
namespace Go.Proofs.YtonlfplloenfcaaDoor.headsLinesFacts
open Go.ChangeShapes Go.WideShapes Go.ChangeAt Go.RowKit Go.Deep
theorem wf_is : Rows.headsLinesRow.wf (OpenSpec.ofChange Rows.headsLinesSpec) = true := by kernel_rfl
theorem params_is : Tryd.f5.params.all (Tryd.prog.readableRec ·) = true := by kernel_rfl
theorem tie_is : namedTie Tryd.prog Rows.headsLinesRow.named Rows.headsLinesSpec.vars = true := by kernel_rfl
theorem stops_is : (Rows.headsLinesRow.stops == []) = true := by kernel_rfl
theorem pstops_is : (Tryd.prog.stops == []) = true := by kernel_rfl
theorem knobs_is : (Rows.headsLinesRow.knobs == []) = true := by kernel_rfl
theorem pknobs_is : (Tryd.prog.stopKnobs == []) = true := by kernel_rfl
theorem inPlace_is : (Rows.headsLinesRow.inPlace == Tryd.prog.inPlace 5) = true := by kernel_rfl
theorem unfollowed_is : (Rows.headsLinesRow.unfollowed == Tryd.prog.unfollowed 5) = true := by kernel_rfl
theorem recurses_is : (Rows.headsLinesRow.recurses == Tryd.prog.recurses 5) = true := by kernel_rfl
theorem named_is : (Rows.headsLinesRow.named == Tryd.prog.varsNamed 5) = true := by kernel_rfl
theorem maps_is : (Rows.headsLinesRow.maps == (Tryd.f5.params.toList ++ Rows.headsLinesSpec.plain.varTypes Tryd.prog).any (Tryd.prog.mapsRec ·)) = true := by kernel_rfl
theorem ifaces_is : (Rows.headsLinesRow.ifaces == (Tryd.f5.params.toList ++ Rows.headsLinesSpec.plain.varTypes Tryd.prog).any (Tryd.prog.ifacesRec ·)) = true := by kernel_rfl
theorem mapsOut_is : (Rows.headsLinesRow.mapsOut == Tryd.prog.mapsAmong Tryd.f5.resultTypes.toList) = true := by kernel_rfl
theorem loops_is : (Rows.headsLinesRow.loops == (Tryd.f5.params.toList ++ Rows.headsLinesSpec.plain.varTypes Tryd.prog).any (Tryd.prog.loopsFrom ·)) = true := by kernel_rfl
theorem wideKeys_is : (Rows.headsLinesRow.wideKeys == (Tryd.f5.params.toList ++ Rows.headsLinesSpec.plain.varTypes Tryd.prog ++ Tryd.f5.resultTypes.toList).any (Tryd.prog.wideKeysFrom ·)) = true := by kernel_rfl
theorem vars_is : Rows.headsLinesSpec.vars.all (Tryd.prog.varReadable ·) = true := by kernel_rfl
theorem results_is : Tryd.f5.resultTypes.all (fun t => Tryd.prog.readableRec t && decide (t < Tryd.prog.types.size)) = true := by kernel_rfl
theorem ifacesOut_is : (Rows.headsLinesRow.ifacesOut == Tryd.f5.resultTypes.toList.any (Tryd.prog.ifacesRec ·)) = true := by kernel_rfl
theorem loopsOut_is : (Rows.headsLinesRow.loopsOut == Tryd.f5.resultTypes.toList.any (Tryd.prog.loopsFrom ·)) = true := by kernel_rfl
theorem shortTexts_is : Rows.headsLinesRow.shortTexts.isNone = true := by kernel_rfl
theorem kinds_is : (Rows.headsLinesRow.kinds == (if Rows.headsLinesRow.domain.isEmpty then [] else Tryd.f5.params.toList.map fun t => match Tryd.prog.underlying t with | some (.int k) => some k | _ => none)) = true := by kernel_rfl
theorem pinned_is : (Rows.headsLinesRow.pinned == Rows.headsLinesRow.pinnedBy) = true := by kernel_rfl
theorem veiled_is : (Rows.headsLinesRow.veiled == (Tryd.f5.params.toList ++ Rows.headsLinesSpec.plain.varTypes Tryd.prog ++ Tryd.f5.resultTypes.toList).any (Tryd.prog.veiledRec ·)) = true := by kernel_rfl
theorem veiledFits_is : Rows.headsLinesRow.veiledFits Tryd.prog Tryd.f5.params.toList (Tryd.f5.params.toList ++ Rows.headsLinesSpec.plain.varTypes Tryd.prog ++ Tryd.f5.resultTypes.toList) = true := by kernel_rfl
set_option maxRecDepth 100000 in
theorem closed : joinedFacts Tryd.prog 5 Tryd.f5 Rows.headsLinesSpec Rows.headsLinesRow = true := by
  unfold joinedFacts
  exact and_i (and_i (and_i (and_i (and_i (and_i (and_i (and_i (and_i (and_i (and_i (and_i (and_i (and_i (and_i (and_i (and_i (and_i (and_i (and_i (and_i (and_i (and_i (and_i (and_i (and_i (and_i (and_i (and_i (and_i (and_i (wf_is) laidOut_is) maps_rowed) params_is) tie_is) stops_is) pstops_is) knobs_is) pknobs_is) inPlace_is) unfollowed_is) recurses_is) named_is) maps_is) ifaces_is) mapsOut_is) loops_is) wideKeys_is) vars_is) results_is) ifacesOut_is) loopsOut_is) plain_keys) shortTexts_is) stops_heard) may_enter) lifts_final) make_is) kinds_is) pinned_is) veiled_is) veiledFits_is
theorem instance_is : Tryd.f5.isInstance Tryd.prog Rows.headsLinesRow.origin Rows.headsLinesRow.targs := of_decide_eq_true (by kernel_rfl)
theorem wrapper_is : Tryd.f5.isWrapper Tryd.prog Rows.headsLinesRow.wrapper Rows.headsLinesRow.mainSum := by unfold Func.isWrapper; first | (rw [if_pos (by decide +kernel)]; kernel_rfl) | (rw [if_neg (by decide +kernel)]; exact ⟨rfl, rfl⟩)
theorem text_is : Rows.headsLinesRow.wfByText (OpenSpec.ofChange Rows.headsLinesSpec) = true := by kernel_rfl
theorem goes_is : false = Rows.headsLinesRow.goesBy Tryd.prog := by kernel_rfl
theorem id_is : Tryd.prog.funcNamed "footman/footmanlaw12.HeadsLines" = some 5 := by kernel_rfl
end Go.Proofs.YtonlfplloenfcaaDoor.headsLinesFacts

