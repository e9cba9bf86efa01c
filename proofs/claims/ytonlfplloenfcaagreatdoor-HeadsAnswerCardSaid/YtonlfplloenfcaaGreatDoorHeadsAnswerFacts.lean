/-
  HeadsAnswer: the closed facts of its row, one theorem each.
-/
import Derived.Test.YtonlfplloenfcaaGreatDoorWhole
namespace Go.Proofs.YtonlfplloenfcaaGreatDoor.headsAnswerFacts
open Go.ChangeShapes Go.WideShapes Go.ChangeAt Go.RowKit Go.Deep
theorem wf_is : Rows.headsAnswerRow.wf (OpenSpec.ofChange Rows.headsAnswerSpec) = true := by kernel_rfl
theorem params_is : Tryz.f9.params.all (Tryz.prog.readableRec ·) = true := by kernel_rfl
theorem tie_is : namedTie Tryz.prog Rows.headsAnswerRow.named Rows.headsAnswerSpec.vars = true := by kernel_rfl
theorem stops_is : (Rows.headsAnswerRow.stops == []) = true := by kernel_rfl
theorem pstops_is : (Tryz.prog.stops == []) = true := by kernel_rfl
theorem knobs_is : (Rows.headsAnswerRow.knobs == []) = true := by kernel_rfl
theorem pknobs_is : (Tryz.prog.stopKnobs == []) = true := by kernel_rfl
theorem inPlace_is : (Rows.headsAnswerRow.inPlace == Tryz.prog.inPlace 9) = true := by kernel_rfl
theorem unfollowed_is : (Rows.headsAnswerRow.unfollowed == Tryz.prog.unfollowed 9) = true := by kernel_rfl
theorem recurses_is : (Rows.headsAnswerRow.recurses == Tryz.prog.recurses 9) = true := by kernel_rfl
theorem named_is : (Rows.headsAnswerRow.named == Tryz.prog.varsNamed 9) = true := by kernel_rfl
theorem maps_is : (Rows.headsAnswerRow.maps == (Tryz.f9.params.toList ++ Rows.headsAnswerSpec.plain.varTypes Tryz.prog).any (Tryz.prog.mapsRec ·)) = true := by kernel_rfl
theorem ifaces_is : (Rows.headsAnswerRow.ifaces == (Tryz.f9.params.toList ++ Rows.headsAnswerSpec.plain.varTypes Tryz.prog).any (Tryz.prog.ifacesRec ·)) = true := by kernel_rfl
theorem mapsOut_is : (Rows.headsAnswerRow.mapsOut == Tryz.prog.mapsAmong Tryz.f9.resultTypes.toList) = true := by kernel_rfl
theorem loops_is : (Rows.headsAnswerRow.loops == (Tryz.f9.params.toList ++ Rows.headsAnswerSpec.plain.varTypes Tryz.prog).any (Tryz.prog.loopsFrom ·)) = true := by kernel_rfl
theorem wideKeys_is : (Rows.headsAnswerRow.wideKeys == (Tryz.f9.params.toList ++ Rows.headsAnswerSpec.plain.varTypes Tryz.prog ++ Tryz.f9.resultTypes.toList).any (Tryz.prog.wideKeysFrom ·)) = true := by kernel_rfl
theorem vars_is : Rows.headsAnswerSpec.vars.all (Tryz.prog.varReadable ·) = true := by kernel_rfl
theorem results_is : Tryz.f9.resultTypes.all (fun t => Tryz.prog.readableRec t && decide (t < Tryz.prog.types.size)) = true := by kernel_rfl
theorem ifacesOut_is : (Rows.headsAnswerRow.ifacesOut == Tryz.f9.resultTypes.toList.any (Tryz.prog.ifacesRec ·)) = true := by kernel_rfl
theorem loopsOut_is : (Rows.headsAnswerRow.loopsOut == Tryz.f9.resultTypes.toList.any (Tryz.prog.loopsFrom ·)) = true := by kernel_rfl
theorem shortTexts_is : Rows.headsAnswerRow.shortTexts.isNone = true := by kernel_rfl
theorem kinds_is : (Rows.headsAnswerRow.kinds == (if Rows.headsAnswerRow.domain.isEmpty then [] else Tryz.f9.params.toList.map fun t => match Tryz.prog.underlying t with | some (.int k) => some k | _ => none)) = true := by kernel_rfl
theorem pinned_is : (Rows.headsAnswerRow.pinned == Rows.headsAnswerRow.pinnedBy) = true := by kernel_rfl
theorem veiled_is : (Rows.headsAnswerRow.veiled == (Tryz.f9.params.toList ++ Rows.headsAnswerSpec.plain.varTypes Tryz.prog ++ Tryz.f9.resultTypes.toList).any (Tryz.prog.veiledRec ·)) = true := by kernel_rfl
theorem veiledFits_is : Rows.headsAnswerRow.veiledFits Tryz.prog Tryz.f9.params.toList (Tryz.f9.params.toList ++ Rows.headsAnswerSpec.plain.varTypes Tryz.prog ++ Tryz.f9.resultTypes.toList) = true := by kernel_rfl
set_option maxRecDepth 100000 in
theorem closed : joinedFacts Tryz.prog 9 Tryz.f9 Rows.headsAnswerSpec Rows.headsAnswerRow = true := by
  unfold joinedFacts
  exact and_i (and_i (and_i (and_i (and_i (and_i (and_i (and_i (and_i (and_i (and_i (and_i (and_i (and_i (and_i (and_i (and_i (and_i (and_i (and_i (and_i (and_i (and_i (and_i (and_i (and_i (and_i (and_i (and_i (and_i (and_i (wf_is) laidOut_is) maps_rowed) params_is) tie_is) stops_is) pstops_is) knobs_is) pknobs_is) inPlace_is) unfollowed_is) recurses_is) named_is) maps_is) ifaces_is) mapsOut_is) loops_is) wideKeys_is) vars_is) results_is) ifacesOut_is) loopsOut_is) plain_keys) shortTexts_is) stops_heard) may_enter) lifts_final) make_is) kinds_is) pinned_is) veiled_is) veiledFits_is
theorem instance_is : Tryz.f9.isInstance Tryz.prog Rows.headsAnswerRow.origin Rows.headsAnswerRow.targs := of_decide_eq_true (by kernel_rfl)
theorem wrapper_is : Tryz.f9.isWrapper Tryz.prog Rows.headsAnswerRow.wrapper Rows.headsAnswerRow.mainSum := by unfold Func.isWrapper; first | (rw [if_pos (by decide +kernel)]; kernel_rfl) | (rw [if_neg (by decide +kernel)]; exact ⟨rfl, rfl⟩)
theorem text_is : Rows.headsAnswerRow.wfByText (OpenSpec.ofChange Rows.headsAnswerSpec) = true := by kernel_rfl
theorem goes_is : false = Rows.headsAnswerRow.goesBy Tryz.prog := by kernel_rfl
theorem id_is : Tryz.prog.funcNamed "footman/footmanlaw12.HeadsAnswer" = some 9 := by kernel_rfl
end Go.Proofs.YtonlfplloenfcaaGreatDoor.headsAnswerFacts
