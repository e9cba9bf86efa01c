/-
  HeadsBack: the closed facts of its row, one theorem each.
-/
import Derived.Test.YtonlfplloenfcaaGreatDoorWhole
namespace Go.Proofs.YtonlfplloenfcaaGreatDoor.headsBackFacts
open Go.ChangeShapes Go.WideShapes Go.ChangeAt Go.RowKit Go.Deep
theorem wf_is : Rows.headsBackRow.wf (OpenSpec.ofChange Rows.headsBackSpec) = true := by kernel_rfl
theorem params_is : Tryz.f11.params.all (Tryz.prog.readableRec ·) = true := by kernel_rfl
theorem tie_is : namedTie Tryz.prog Rows.headsBackRow.named Rows.headsBackSpec.vars = true := by kernel_rfl
theorem stops_is : (Rows.headsBackRow.stops == []) = true := by kernel_rfl
theorem pstops_is : (Tryz.prog.stops == []) = true := by kernel_rfl
theorem knobs_is : (Rows.headsBackRow.knobs == []) = true := by kernel_rfl
theorem pknobs_is : (Tryz.prog.stopKnobs == []) = true := by kernel_rfl
theorem inPlace_is : (Rows.headsBackRow.inPlace == Tryz.prog.inPlace 11) = true := by kernel_rfl
theorem unfollowed_is : (Rows.headsBackRow.unfollowed == Tryz.prog.unfollowed 11) = true := by kernel_rfl
theorem recurses_is : (Rows.headsBackRow.recurses == Tryz.prog.recurses 11) = true := by kernel_rfl
theorem named_is : (Rows.headsBackRow.named == Tryz.prog.varsNamed 11) = true := by kernel_rfl
theorem maps_is : (Rows.headsBackRow.maps == (Tryz.f11.params.toList ++ Rows.headsBackSpec.plain.varTypes Tryz.prog).any (Tryz.prog.mapsRec ·)) = true := by kernel_rfl
theorem ifaces_is : (Rows.headsBackRow.ifaces == (Tryz.f11.params.toList ++ Rows.headsBackSpec.plain.varTypes Tryz.prog).any (Tryz.prog.ifacesRec ·)) = true := by kernel_rfl
theorem mapsOut_is : (Rows.headsBackRow.mapsOut == Tryz.prog.mapsAmong Tryz.f11.resultTypes.toList) = true := by kernel_rfl
theorem loops_is : (Rows.headsBackRow.loops == (Tryz.f11.params.toList ++ Rows.headsBackSpec.plain.varTypes Tryz.prog).any (Tryz.prog.loopsFrom ·)) = true := by kernel_rfl
theorem wideKeys_is : (Rows.headsBackRow.wideKeys == (Tryz.f11.params.toList ++ Rows.headsBackSpec.plain.varTypes Tryz.prog ++ Tryz.f11.resultTypes.toList).any (Tryz.prog.wideKeysFrom ·)) = true := by kernel_rfl
theorem vars_is : Rows.headsBackSpec.vars.all (Tryz.prog.varReadable ·) = true := by kernel_rfl
theorem results_is : Tryz.f11.resultTypes.all (fun t => Tryz.prog.readableRec t && decide (t < Tryz.prog.types.size)) = true := by kernel_rfl
theorem ifacesOut_is : (Rows.headsBackRow.ifacesOut == Tryz.f11.resultTypes.toList.any (Tryz.prog.ifacesRec ·)) = true := by kernel_rfl
theorem loopsOut_is : (Rows.headsBackRow.loopsOut == Tryz.f11.resultTypes.toList.any (Tryz.prog.loopsFrom ·)) = true := by kernel_rfl
theorem shortTexts_is : Rows.headsBackRow.shortTexts.isNone = true := by kernel_rfl
theorem kinds_is : (Rows.headsBackRow.kinds == (if Rows.headsBackRow.domain.isEmpty then [] else Tryz.f11.params.toList.map fun t => match Tryz.prog.underlying t with | some (.int k) => some k | _ => none)) = true := by kernel_rfl
theorem pinned_is : (Rows.headsBackRow.pinned == Rows.headsBackRow.pinnedBy) = true := by kernel_rfl
theorem veiled_is : (Rows.headsBackRow.veiled == (Tryz.f11.params.toList ++ Rows.headsBackSpec.plain.varTypes Tryz.prog ++ Tryz.f11.resultTypes.toList).any (Tryz.prog.veiledRec ·)) = true := by kernel_rfl
theorem veiledFits_is : Rows.headsBackRow.veiledFits Tryz.prog Tryz.f11.params.toList (Tryz.f11.params.toList ++ Rows.headsBackSpec.plain.varTypes Tryz.prog ++ Tryz.f11.resultTypes.toList) = true := by kernel_rfl
set_option maxRecDepth 100000 in
theorem closed : joinedFacts Tryz.prog 11 Tryz.f11 Rows.headsBackSpec Rows.headsBackRow = true := by
  unfold joinedFacts
  exact and_i (and_i (and_i (and_i (and_i (and_i (and_i (and_i (and_i (and_i (and_i (and_i (and_i (and_i (and_i (and_i (and_i (and_i (and_i (and_i (and_i (and_i (and_i (and_i (and_i (and_i (and_i (and_i (and_i (and_i (and_i (wf_is) laidOut_is) maps_rowed) params_is) tie_is) stops_is) pstops_is) knobs_is) pknobs_is) inPlace_is) unfollowed_is) recurses_is) named_is) maps_is) ifaces_is) mapsOut_is) loops_is) wideKeys_is) vars_is) results_is) ifacesOut_is) loopsOut_is) plain_keys) shortTexts_is) stops_heard) may_enter) lifts_final) make_is) kinds_is) pinned_is) veiled_is) veiledFits_is
theorem instance_is : Tryz.f11.isInstance Tryz.prog Rows.headsBackRow.origin Rows.headsBackRow.targs := of_decide_eq_true (by kernel_rfl)
theorem wrapper_is : Tryz.f11.isWrapper Tryz.prog Rows.headsBackRow.wrapper Rows.headsBackRow.mainSum := by unfold Func.isWrapper; first | (rw [if_pos (by decide +kernel)]; kernel_rfl) | (rw [if_neg (by decide +kernel)]; exact ⟨rfl, rfl⟩)
theorem text_is : Rows.headsBackRow.wfByText (OpenSpec.ofChange Rows.headsBackSpec) = true := by kernel_rfl
theorem goes_is : false = Rows.headsBackRow.goesBy Tryz.prog := by kernel_rfl
theorem id_is : Tryz.prog.funcNamed "footman/footmanlaw12.HeadsBack" = some 11 := by kernel_rfl
end Go.Proofs.YtonlfplloenfcaaGreatDoor.headsBackFacts
