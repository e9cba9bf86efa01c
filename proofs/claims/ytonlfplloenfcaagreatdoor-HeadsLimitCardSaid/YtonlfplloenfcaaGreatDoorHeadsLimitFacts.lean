/-
  HeadsLimit: the closed facts of its row, one theorem each.
-/
import Derived.Test.YtonlfplloenfcaaGreatDoorWhole
namespace Go.Proofs.YtonlfplloenfcaaGreatDoor.headsLimitFacts
open Go.ChangeShapes Go.WideShapes Go.ChangeAt Go.RowKit Go.Deep
theorem wf_is : Rows.headsLimitRow.wf (OpenSpec.ofChange Rows.headsLimitSpec) = true := by kernel_rfl
theorem params_is : Tryz.f12.params.all (Tryz.prog.readableRec ·) = true := by kernel_rfl
theorem tie_is : namedTie Tryz.prog Rows.headsLimitRow.named Rows.headsLimitSpec.vars = true := by kernel_rfl
theorem stops_is : (Rows.headsLimitRow.stops == []) = true := by kernel_rfl
theorem pstops_is : (Tryz.prog.stops == []) = true := by kernel_rfl
theorem knobs_is : (Rows.headsLimitRow.knobs == []) = true := by kernel_rfl
theorem pknobs_is : (Tryz.prog.stopKnobs == []) = true := by kernel_rfl
theorem inPlace_is : (Rows.headsLimitRow.inPlace == Tryz.prog.inPlace 12) = true := by kernel_rfl
theorem unfollowed_is : (Rows.headsLimitRow.unfollowed == Tryz.prog.unfollowed 12) = true := by kernel_rfl
theorem recurses_is : (Rows.headsLimitRow.recurses == Tryz.prog.recurses 12) = true := by kernel_rfl
theorem named_is : (Rows.headsLimitRow.named == Tryz.prog.varsNamed 12) = true := by kernel_rfl
theorem maps_is : (Rows.headsLimitRow.maps == (Tryz.f12.params.toList ++ Rows.headsLimitSpec.plain.varTypes Tryz.prog).any (Tryz.prog.mapsRec ·)) = true := by kernel_rfl
theorem ifaces_is : (Rows.headsLimitRow.ifaces == (Tryz.f12.params.toList ++ Rows.headsLimitSpec.plain.varTypes Tryz.prog).any (Tryz.prog.ifacesRec ·)) = true := by kernel_rfl
theorem mapsOut_is : (Rows.headsLimitRow.mapsOut == Tryz.prog.mapsAmong Tryz.f12.resultTypes.toList) = true := by kernel_rfl
theorem loops_is : (Rows.headsLimitRow.loops == (Tryz.f12.params.toList ++ Rows.headsLimitSpec.plain.varTypes Tryz.prog).any (Tryz.prog.loopsFrom ·)) = true := by kernel_rfl
theorem wideKeys_is : (Rows.headsLimitRow.wideKeys == (Tryz.f12.params.toList ++ Rows.headsLimitSpec.plain.varTypes Tryz.prog ++ Tryz.f12.resultTypes.toList).any (Tryz.prog.wideKeysFrom ·)) = true := by kernel_rfl
theorem vars_is : Rows.headsLimitSpec.vars.all (Tryz.prog.varReadable ·) = true := by kernel_rfl
theorem results_is : Tryz.f12.resultTypes.all (fun t => Tryz.prog.readableRec t && decide (t < Tryz.prog.types.size)) = true := by kernel_rfl
theorem ifacesOut_is : (Rows.headsLimitRow.ifacesOut == Tryz.f12.resultTypes.toList.any (Tryz.prog.ifacesRec ·)) = true := by kernel_rfl
theorem loopsOut_is : (Rows.headsLimitRow.loopsOut == Tryz.f12.resultTypes.toList.any (Tryz.prog.loopsFrom ·)) = true := by kernel_rfl
theorem shortTexts_is : Rows.headsLimitRow.shortTexts.isNone = true := by kernel_rfl
theorem kinds_is : (Rows.headsLimitRow.kinds == (if Rows.headsLimitRow.domain.isEmpty then [] else Tryz.f12.params.toList.map fun t => match Tryz.prog.underlying t with | some (.int k) => some k | _ => none)) = true := by kernel_rfl
theorem pinned_is : (Rows.headsLimitRow.pinned == Rows.headsLimitRow.pinnedBy) = true := by kernel_rfl
theorem veiled_is : (Rows.headsLimitRow.veiled == (Tryz.f12.params.toList ++ Rows.headsLimitSpec.plain.varTypes Tryz.prog ++ Tryz.f12.resultTypes.toList).any (Tryz.prog.veiledRec ·)) = true := by kernel_rfl
theorem veiledFits_is : Rows.headsLimitRow.veiledFits Tryz.prog Tryz.f12.params.toList (Tryz.f12.params.toList ++ Rows.headsLimitSpec.plain.varTypes Tryz.prog ++ Tryz.f12.resultTypes.toList) = true := by kernel_rfl
set_option maxRecDepth 100000 in
theorem closed : joinedFacts Tryz.prog 12 Tryz.f12 Rows.headsLimitSpec Rows.headsLimitRow = true := by
  unfold joinedFacts
  exact and_i (and_i (and_i (and_i (and_i (and_i (and_i (and_i (and_i (and_i (and_i (and_i (and_i (and_i (and_i (and_i (and_i (and_i (and_i (and_i (and_i (and_i (and_i (and_i (and_i (and_i (and_i (and_i (and_i (and_i (and_i (wf_is) laidOut_is) maps_rowed) params_is) tie_is) stops_is) pstops_is) knobs_is) pknobs_is) inPlace_is) unfollowed_is) recurses_is) named_is) maps_is) ifaces_is) mapsOut_is) loops_is) wideKeys_is) vars_is) results_is) ifacesOut_is) loopsOut_is) plain_keys) shortTexts_is) stops_heard) may_enter) lifts_final) make_is) kinds_is) pinned_is) veiled_is) veiledFits_is
theorem instance_is : Tryz.f12.isInstance Tryz.prog Rows.headsLimitRow.origin Rows.headsLimitRow.targs := of_decide_eq_true (by kernel_rfl)
theorem wrapper_is : Tryz.f12.isWrapper Tryz.prog Rows.headsLimitRow.wrapper Rows.headsLimitRow.mainSum := by unfold Func.isWrapper; first | (rw [if_pos (by decide +kernel)]; kernel_rfl) | (rw [if_neg (by decide +kernel)]; exact ⟨rfl, rfl⟩)
theorem text_is : Rows.headsLimitRow.wfByText (OpenSpec.ofChange Rows.headsLimitSpec) = true := by kernel_rfl
theorem goes_is : false = Rows.headsLimitRow.goesBy Tryz.prog := by kernel_rfl
theorem id_is : Tryz.prog.funcNamed "footman/footmanlaw12.HeadsLimit" = some 12 := by kernel_rfl
end Go.Proofs.YtonlfplloenfcaaGreatDoor.headsLimitFacts
