/-
  HeadsGets: the closed facts of its row, one theorem each.
-/
import Derived.Test.YtonlfplloenfcaaGreatDoorWhole
namespace Go.Proofs.YtonlfplloenfcaaGreatDoor.headsGetsFacts
open Go.ChangeShapes Go.WideShapes Go.ChangeAt Go.RowKit Go.Deep
theorem wf_is : Rows.headsGetsRow.wf (OpenSpec.ofChange Rows.headsGetsSpec) = true := by kernel_rfl
theorem params_is : Tryz.f6.params.all (Tryz.prog.readableRec ·) = true := by kernel_rfl
theorem tie_is : namedTie Tryz.prog Rows.headsGetsRow.named Rows.headsGetsSpec.vars = true := by kernel_rfl
theorem stops_is : (Rows.headsGetsRow.stops == []) = true := by kernel_rfl
theorem pstops_is : (Tryz.prog.stops == []) = true := by kernel_rfl
theorem knobs_is : (Rows.headsGetsRow.knobs == []) = true := by kernel_rfl
theorem pknobs_is : (Tryz.prog.stopKnobs == []) = true := by kernel_rfl
theorem inPlace_is : (Rows.headsGetsRow.inPlace == Tryz.prog.inPlace 6) = true := by kernel_rfl
theorem unfollowed_is : (Rows.headsGetsRow.unfollowed == Tryz.prog.unfollowed 6) = true := by kernel_rfl
theorem recurses_is : (Rows.headsGetsRow.recurses == Tryz.prog.recurses 6) = true := by kernel_rfl
theorem named_is : (Rows.headsGetsRow.named == Tryz.prog.varsNamed 6) = true := by kernel_rfl
theorem maps_is : (Rows.headsGetsRow.maps == (Tryz.f6.params.toList ++ Rows.headsGetsSpec.plain.varTypes Tryz.prog).any (Tryz.prog.mapsRec ·)) = true := by kernel_rfl
theorem ifaces_is : (Rows.headsGetsRow.ifaces == (Tryz.f6.params.toList ++ Rows.headsGetsSpec.plain.varTypes Tryz.prog).any (Tryz.prog.ifacesRec ·)) = true := by kernel_rfl
theorem mapsOut_is : (Rows.headsGetsRow.mapsOut == Tryz.prog.mapsAmong Tryz.f6.resultTypes.toList) = true := by kernel_rfl
theorem loops_is : (Rows.headsGetsRow.loops == (Tryz.f6.params.toList ++ Rows.headsGetsSpec.plain.varTypes Tryz.prog).any (Tryz.prog.loopsFrom ·)) = true := by kernel_rfl
theorem wideKeys_is : (Rows.headsGetsRow.wideKeys == (Tryz.f6.params.toList ++ Rows.headsGetsSpec.plain.varTypes Tryz.prog ++ Tryz.f6.resultTypes.toList).any (Tryz.prog.wideKeysFrom ·)) = true := by kernel_rfl
theorem vars_is : Rows.headsGetsSpec.vars.all (Tryz.prog.varReadable ·) = true := by kernel_rfl
theorem results_is : Tryz.f6.resultTypes.all (fun t => Tryz.prog.readableRec t && decide (t < Tryz.prog.types.size)) = true := by kernel_rfl
theorem ifacesOut_is : (Rows.headsGetsRow.ifacesOut == Tryz.f6.resultTypes.toList.any (Tryz.prog.ifacesRec ·)) = true := by kernel_rfl
theorem loopsOut_is : (Rows.headsGetsRow.loopsOut == Tryz.f6.resultTypes.toList.any (Tryz.prog.loopsFrom ·)) = true := by kernel_rfl
theorem shortTexts_is : Rows.headsGetsRow.shortTexts.isNone = true := by kernel_rfl
theorem kinds_is : (Rows.headsGetsRow.kinds == (if Rows.headsGetsRow.domain.isEmpty then [] else Tryz.f6.params.toList.map fun t => match Tryz.prog.underlying t with | some (.int k) => some k | _ => none)) = true := by kernel_rfl
theorem pinned_is : (Rows.headsGetsRow.pinned == Rows.headsGetsRow.pinnedBy) = true := by kernel_rfl
theorem veiled_is : (Rows.headsGetsRow.veiled == (Tryz.f6.params.toList ++ Rows.headsGetsSpec.plain.varTypes Tryz.prog ++ Tryz.f6.resultTypes.toList).any (Tryz.prog.veiledRec ·)) = true := by kernel_rfl
theorem veiledFits_is : Rows.headsGetsRow.veiledFits Tryz.prog Tryz.f6.params.toList (Tryz.f6.params.toList ++ Rows.headsGetsSpec.plain.varTypes Tryz.prog ++ Tryz.f6.resultTypes.toList) = true := by kernel_rfl
set_option maxRecDepth 100000 in
theorem closed : joinedFacts Tryz.prog 6 Tryz.f6 Rows.headsGetsSpec Rows.headsGetsRow = true := by
  unfold joinedFacts
  exact and_i (and_i (and_i (and_i (and_i (and_i (and_i (and_i (and_i (and_i (and_i (and_i (and_i (and_i (and_i (and_i (and_i (and_i (and_i (and_i (and_i (and_i (and_i (and_i (and_i (and_i (and_i (and_i (and_i (and_i (and_i (wf_is) laidOut_is) maps_rowed) params_is) tie_is) stops_is) pstops_is) knobs_is) pknobs_is) inPlace_is) unfollowed_is) recurses_is) named_is) maps_is) ifaces_is) mapsOut_is) loops_is) wideKeys_is) vars_is) results_is) ifacesOut_is) loopsOut_is) plain_keys) shortTexts_is) stops_heard) may_enter) lifts_final) make_is) kinds_is) pinned_is) veiled_is) veiledFits_is
theorem instance_is : Tryz.f6.isInstance Tryz.prog Rows.headsGetsRow.origin Rows.headsGetsRow.targs := of_decide_eq_true (by kernel_rfl)
theorem wrapper_is : Tryz.f6.isWrapper Tryz.prog Rows.headsGetsRow.wrapper Rows.headsGetsRow.mainSum := by unfold Func.isWrapper; first | (rw [if_pos (by decide +kernel)]; kernel_rfl) | (rw [if_neg (by decide +kernel)]; exact ⟨rfl, rfl⟩)
theorem text_is : Rows.headsGetsRow.wfByText (OpenSpec.ofChange Rows.headsGetsSpec) = true := by kernel_rfl
theorem goes_is : false = Rows.headsGetsRow.goesBy Tryz.prog := by kernel_rfl
theorem id_is : Tryz.prog.funcNamed "footman/footmanlaw12.HeadsGets" = some 6 := by kernel_rfl
end Go.Proofs.YtonlfplloenfcaaGreatDoor.headsGetsFacts
