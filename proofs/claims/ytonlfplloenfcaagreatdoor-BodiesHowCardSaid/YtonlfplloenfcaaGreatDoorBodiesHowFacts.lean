/-
  BodiesHow: the closed facts of its row, one theorem each.
-/
import Derived.Test.YtonlfplloenfcaaGreatDoorWhole
namespace Go.Proofs.YtonlfplloenfcaaGreatDoor.bodiesHowFacts
open Go.ChangeShapes Go.WideShapes Go.ChangeAt Go.RowKit Go.Deep
theorem wf_is : Rows.bodiesHowRow.wf (OpenSpec.ofChange Rows.bodiesHowSpec) = true := by kernel_rfl
theorem params_is : Tryz.f7.params.all (Tryz.prog.readableRec ·) = true := by kernel_rfl
theorem tie_is : namedTie Tryz.prog Rows.bodiesHowRow.named Rows.bodiesHowSpec.vars = true := by kernel_rfl
theorem stops_is : (Rows.bodiesHowRow.stops == []) = true := by kernel_rfl
theorem pstops_is : (Tryz.prog.stops == []) = true := by kernel_rfl
theorem knobs_is : (Rows.bodiesHowRow.knobs == []) = true := by kernel_rfl
theorem pknobs_is : (Tryz.prog.stopKnobs == []) = true := by kernel_rfl
theorem inPlace_is : (Rows.bodiesHowRow.inPlace == Tryz.prog.inPlace 7) = true := by kernel_rfl
theorem unfollowed_is : (Rows.bodiesHowRow.unfollowed == Tryz.prog.unfollowed 7) = true := by kernel_rfl
theorem recurses_is : (Rows.bodiesHowRow.recurses == Tryz.prog.recurses 7) = true := by kernel_rfl
theorem named_is : (Rows.bodiesHowRow.named == Tryz.prog.varsNamed 7) = true := by kernel_rfl
theorem maps_is : (Rows.bodiesHowRow.maps == (Tryz.f7.params.toList ++ Rows.bodiesHowSpec.plain.varTypes Tryz.prog).any (Tryz.prog.mapsRec ·)) = true := by kernel_rfl
theorem ifaces_is : (Rows.bodiesHowRow.ifaces == (Tryz.f7.params.toList ++ Rows.bodiesHowSpec.plain.varTypes Tryz.prog).any (Tryz.prog.ifacesRec ·)) = true := by kernel_rfl
theorem mapsOut_is : (Rows.bodiesHowRow.mapsOut == Tryz.prog.mapsAmong Tryz.f7.resultTypes.toList) = true := by kernel_rfl
theorem loops_is : (Rows.bodiesHowRow.loops == (Tryz.f7.params.toList ++ Rows.bodiesHowSpec.plain.varTypes Tryz.prog).any (Tryz.prog.loopsFrom ·)) = true := by kernel_rfl
theorem wideKeys_is : (Rows.bodiesHowRow.wideKeys == (Tryz.f7.params.toList ++ Rows.bodiesHowSpec.plain.varTypes Tryz.prog ++ Tryz.f7.resultTypes.toList).any (Tryz.prog.wideKeysFrom ·)) = true := by kernel_rfl
theorem vars_is : Rows.bodiesHowSpec.vars.all (Tryz.prog.varReadable ·) = true := by kernel_rfl
theorem results_is : Tryz.f7.resultTypes.all (fun t => Tryz.prog.readableRec t && decide (t < Tryz.prog.types.size)) = true := by kernel_rfl
theorem ifacesOut_is : (Rows.bodiesHowRow.ifacesOut == Tryz.f7.resultTypes.toList.any (Tryz.prog.ifacesRec ·)) = true := by kernel_rfl
theorem loopsOut_is : (Rows.bodiesHowRow.loopsOut == Tryz.f7.resultTypes.toList.any (Tryz.prog.loopsFrom ·)) = true := by kernel_rfl
theorem shortTexts_is : Rows.bodiesHowRow.shortTexts.isNone = true := by kernel_rfl
theorem kinds_is : (Rows.bodiesHowRow.kinds == (if Rows.bodiesHowRow.domain.isEmpty then [] else Tryz.f7.params.toList.map fun t => match Tryz.prog.underlying t with | some (.int k) => some k | _ => none)) = true := by kernel_rfl
theorem pinned_is : (Rows.bodiesHowRow.pinned == Rows.bodiesHowRow.pinnedBy) = true := by kernel_rfl
theorem veiled_is : (Rows.bodiesHowRow.veiled == (Tryz.f7.params.toList ++ Rows.bodiesHowSpec.plain.varTypes Tryz.prog ++ Tryz.f7.resultTypes.toList).any (Tryz.prog.veiledRec ·)) = true := by kernel_rfl
theorem veiledFits_is : Rows.bodiesHowRow.veiledFits Tryz.prog Tryz.f7.params.toList (Tryz.f7.params.toList ++ Rows.bodiesHowSpec.plain.varTypes Tryz.prog ++ Tryz.f7.resultTypes.toList) = true := by kernel_rfl
set_option maxRecDepth 100000 in
theorem closed : joinedFacts Tryz.prog 7 Tryz.f7 Rows.bodiesHowSpec Rows.bodiesHowRow = true := by
  unfold joinedFacts
  exact and_i (and_i (and_i (and_i (and_i (and_i (and_i (and_i (and_i (and_i (and_i (and_i (and_i (and_i (and_i (and_i (and_i (and_i (and_i (and_i (and_i (and_i (and_i (and_i (and_i (and_i (and_i (and_i (and_i (and_i (and_i (wf_is) laidOut_is) maps_rowed) params_is) tie_is) stops_is) pstops_is) knobs_is) pknobs_is) inPlace_is) unfollowed_is) recurses_is) named_is) maps_is) ifaces_is) mapsOut_is) loops_is) wideKeys_is) vars_is) results_is) ifacesOut_is) loopsOut_is) plain_keys) shortTexts_is) stops_heard) may_enter) lifts_final) make_is) kinds_is) pinned_is) veiled_is) veiledFits_is
theorem instance_is : Tryz.f7.isInstance Tryz.prog Rows.bodiesHowRow.origin Rows.bodiesHowRow.targs := of_decide_eq_true (by kernel_rfl)
theorem wrapper_is : Tryz.f7.isWrapper Tryz.prog Rows.bodiesHowRow.wrapper Rows.bodiesHowRow.mainSum := by unfold Func.isWrapper; first | (rw [if_pos (by decide +kernel)]; kernel_rfl) | (rw [if_neg (by decide +kernel)]; exact ⟨rfl, rfl⟩)
theorem text_is : Rows.bodiesHowRow.wfByText (OpenSpec.ofChange Rows.bodiesHowSpec) = true := by kernel_rfl
theorem goes_is : false = Rows.bodiesHowRow.goesBy Tryz.prog := by kernel_rfl
theorem id_is : Tryz.prog.funcNamed "footman/footmanlaw13.BodiesHow" = some 7 := by kernel_rfl
end Go.Proofs.YtonlfplloenfcaaGreatDoor.bodiesHowFacts
