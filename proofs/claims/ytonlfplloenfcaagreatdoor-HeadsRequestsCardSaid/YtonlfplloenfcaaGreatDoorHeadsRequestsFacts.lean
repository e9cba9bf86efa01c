/-
  HeadsRequests: the closed facts of its row, one theorem each.
-/
import Derived.Test.YtonlfplloenfcaaGreatDoorWhole
namespace Go.Proofs.YtonlfplloenfcaaGreatDoor.headsRequestsFacts
open Go.ChangeShapes Go.WideShapes Go.ChangeAt Go.RowKit Go.Deep
theorem wf_is : Rows.headsRequestsRow.wf (OpenSpec.ofChange Rows.headsRequestsSpec) = true := by kernel_rfl
theorem params_is : Tryz.f4.params.all (Tryz.prog.readableRec ·) = true := by kernel_rfl
theorem tie_is : namedTie Tryz.prog Rows.headsRequestsRow.named Rows.headsRequestsSpec.vars = true := by kernel_rfl
theorem stops_is : (Rows.headsRequestsRow.stops == []) = true := by kernel_rfl
theorem pstops_is : (Tryz.prog.stops == []) = true := by kernel_rfl
theorem knobs_is : (Rows.headsRequestsRow.knobs == []) = true := by kernel_rfl
theorem pknobs_is : (Tryz.prog.stopKnobs == []) = true := by kernel_rfl
theorem inPlace_is : (Rows.headsRequestsRow.inPlace == Tryz.prog.inPlace 4) = true := by kernel_rfl
theorem unfollowed_is : (Rows.headsRequestsRow.unfollowed == Tryz.prog.unfollowed 4) = true := by kernel_rfl
theorem recurses_is : (Rows.headsRequestsRow.recurses == Tryz.prog.recurses 4) = true := by kernel_rfl
theorem named_is : (Rows.headsRequestsRow.named == Tryz.prog.varsNamed 4) = true := by kernel_rfl
theorem maps_is : (Rows.headsRequestsRow.maps == (Tryz.f4.params.toList ++ Rows.headsRequestsSpec.plain.varTypes Tryz.prog).any (Tryz.prog.mapsRec ·)) = true := by kernel_rfl
theorem ifaces_is : (Rows.headsRequestsRow.ifaces == (Tryz.f4.params.toList ++ Rows.headsRequestsSpec.plain.varTypes Tryz.prog).any (Tryz.prog.ifacesRec ·)) = true := by kernel_rfl
theorem mapsOut_is : (Rows.headsRequestsRow.mapsOut == Tryz.prog.mapsAmong Tryz.f4.resultTypes.toList) = true := by kernel_rfl
theorem loops_is : (Rows.headsRequestsRow.loops == (Tryz.f4.params.toList ++ Rows.headsRequestsSpec.plain.varTypes Tryz.prog).any (Tryz.prog.loopsFrom ·)) = true := by kernel_rfl
theorem wideKeys_is : (Rows.headsRequestsRow.wideKeys == (Tryz.f4.params.toList ++ Rows.headsRequestsSpec.plain.varTypes Tryz.prog ++ Tryz.f4.resultTypes.toList).any (Tryz.prog.wideKeysFrom ·)) = true := by kernel_rfl
theorem vars_is : Rows.headsRequestsSpec.vars.all (Tryz.prog.varReadable ·) = true := by kernel_rfl
theorem results_is : Tryz.f4.resultTypes.all (fun t => Tryz.prog.readableRec t && decide (t < Tryz.prog.types.size)) = true := by kernel_rfl
theorem ifacesOut_is : (Rows.headsRequestsRow.ifacesOut == Tryz.f4.resultTypes.toList.any (Tryz.prog.ifacesRec ·)) = true := by kernel_rfl
theorem loopsOut_is : (Rows.headsRequestsRow.loopsOut == Tryz.f4.resultTypes.toList.any (Tryz.prog.loopsFrom ·)) = true := by kernel_rfl
theorem shortTexts_is : Rows.headsRequestsRow.shortTexts.isNone = true := by kernel_rfl
theorem kinds_is : (Rows.headsRequestsRow.kinds == (if Rows.headsRequestsRow.domain.isEmpty then [] else Tryz.f4.params.toList.map fun t => match Tryz.prog.underlying t with | some (.int k) => some k | _ => none)) = true := by kernel_rfl
theorem pinned_is : (Rows.headsRequestsRow.pinned == Rows.headsRequestsRow.pinnedBy) = true := by kernel_rfl
theorem veiled_is : (Rows.headsRequestsRow.veiled == (Tryz.f4.params.toList ++ Rows.headsRequestsSpec.plain.varTypes Tryz.prog ++ Tryz.f4.resultTypes.toList).any (Tryz.prog.veiledRec ·)) = true := by kernel_rfl
theorem veiledFits_is : Rows.headsRequestsRow.veiledFits Tryz.prog Tryz.f4.params.toList (Tryz.f4.params.toList ++ Rows.headsRequestsSpec.plain.varTypes Tryz.prog ++ Tryz.f4.resultTypes.toList) = true := by kernel_rfl
set_option maxRecDepth 100000 in
theorem closed : joinedFacts Tryz.prog 4 Tryz.f4 Rows.headsRequestsSpec Rows.headsRequestsRow = true := by
  unfold joinedFacts
  exact and_i (and_i (and_i (and_i (and_i (and_i (and_i (and_i (and_i (and_i (and_i (and_i (and_i (and_i (and_i (and_i (and_i (and_i (and_i (and_i (and_i (and_i (and_i (and_i (and_i (and_i (and_i (and_i (and_i (and_i (and_i (wf_is) laidOut_is) maps_rowed) params_is) tie_is) stops_is) pstops_is) knobs_is) pknobs_is) inPlace_is) unfollowed_is) recurses_is) named_is) maps_is) ifaces_is) mapsOut_is) loops_is) wideKeys_is) vars_is) results_is) ifacesOut_is) loopsOut_is) plain_keys) shortTexts_is) stops_heard) may_enter) lifts_final) make_is) kinds_is) pinned_is) veiled_is) veiledFits_is
theorem instance_is : Tryz.f4.isInstance Tryz.prog Rows.headsRequestsRow.origin Rows.headsRequestsRow.targs := of_decide_eq_true (by kernel_rfl)
theorem wrapper_is : Tryz.f4.isWrapper Tryz.prog Rows.headsRequestsRow.wrapper Rows.headsRequestsRow.mainSum := by unfold Func.isWrapper; first | (rw [if_pos (by decide +kernel)]; kernel_rfl) | (rw [if_neg (by decide +kernel)]; exact ⟨rfl, rfl⟩)
theorem text_is : Rows.headsRequestsRow.wfByText (OpenSpec.ofChange Rows.headsRequestsSpec) = true := by kernel_rfl
theorem goes_is : false = Rows.headsRequestsRow.goesBy Tryz.prog := by kernel_rfl
theorem id_is : Tryz.prog.funcNamed "footman/footmanlaw12.HeadsRequests" = some 4 := by kernel_rfl
end Go.Proofs.YtonlfplloenfcaaGreatDoor.headsRequestsFacts
