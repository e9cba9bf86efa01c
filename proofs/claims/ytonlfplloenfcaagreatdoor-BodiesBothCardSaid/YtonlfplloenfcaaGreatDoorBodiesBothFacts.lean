/-
  BodiesBoth: the closed facts of its row, one theorem each.
-/
import Derived.Test.YtonlfplloenfcaaGreatDoorWhole
namespace Go.Proofs.YtonlfplloenfcaaGreatDoor.bodiesBothFacts
open Go.ChangeShapes Go.WideShapes Go.ChangeAt Go.RowKit Go.Deep
theorem wf_is : Rows.bodiesBothRow.wf (OpenSpec.ofChange Rows.bodiesBothSpec) = true := by kernel_rfl
theorem params_is : Tryz.f18.params.all (Tryz.prog.readableRec ·) = true := by kernel_rfl
theorem tie_is : namedTie Tryz.prog Rows.bodiesBothRow.named Rows.bodiesBothSpec.vars = true := by kernel_rfl
theorem stops_is : (Rows.bodiesBothRow.stops == []) = true := by kernel_rfl
theorem pstops_is : (Tryz.prog.stops == []) = true := by kernel_rfl
theorem knobs_is : (Rows.bodiesBothRow.knobs == []) = true := by kernel_rfl
theorem pknobs_is : (Tryz.prog.stopKnobs == []) = true := by kernel_rfl
theorem inPlace_is : (Rows.bodiesBothRow.inPlace == Tryz.prog.inPlace 18) = true := by kernel_rfl
theorem unfollowed_is : (Rows.bodiesBothRow.unfollowed == Tryz.prog.unfollowed 18) = true := by kernel_rfl
theorem recurses_is : (Rows.bodiesBothRow.recurses == Tryz.prog.recurses 18) = true := by kernel_rfl
theorem named_is : (Rows.bodiesBothRow.named == Tryz.prog.varsNamed 18) = true := by kernel_rfl
theorem maps_is : (Rows.bodiesBothRow.maps == (Tryz.f18.params.toList ++ Rows.bodiesBothSpec.plain.varTypes Tryz.prog).any (Tryz.prog.mapsRec ·)) = true := by kernel_rfl
theorem ifaces_is : (Rows.bodiesBothRow.ifaces == (Tryz.f18.params.toList ++ Rows.bodiesBothSpec.plain.varTypes Tryz.prog).any (Tryz.prog.ifacesRec ·)) = true := by kernel_rfl
theorem mapsOut_is : (Rows.bodiesBothRow.mapsOut == Tryz.prog.mapsAmong Tryz.f18.resultTypes.toList) = true := by kernel_rfl
theorem loops_is : (Rows.bodiesBothRow.loops == (Tryz.f18.params.toList ++ Rows.bodiesBothSpec.plain.varTypes Tryz.prog).any (Tryz.prog.loopsFrom ·)) = true := by kernel_rfl
theorem wideKeys_is : (Rows.bodiesBothRow.wideKeys == (Tryz.f18.params.toList ++ Rows.bodiesBothSpec.plain.varTypes Tryz.prog ++ Tryz.f18.resultTypes.toList).any (Tryz.prog.wideKeysFrom ·)) = true := by kernel_rfl
theorem vars_is : Rows.bodiesBothSpec.vars.all (Tryz.prog.varReadable ·) = true := by kernel_rfl
theorem results_is : Tryz.f18.resultTypes.all (fun t => Tryz.prog.readableRec t && decide (t < Tryz.prog.types.size)) = true := by kernel_rfl
theorem ifacesOut_is : (Rows.bodiesBothRow.ifacesOut == Tryz.f18.resultTypes.toList.any (Tryz.prog.ifacesRec ·)) = true := by kernel_rfl
theorem loopsOut_is : (Rows.bodiesBothRow.loopsOut == Tryz.f18.resultTypes.toList.any (Tryz.prog.loopsFrom ·)) = true := by kernel_rfl
theorem shortTexts_is : Rows.bodiesBothRow.shortTexts.isNone = true := by kernel_rfl
theorem kinds_is : (Rows.bodiesBothRow.kinds == (if Rows.bodiesBothRow.domain.isEmpty then [] else Tryz.f18.params.toList.map fun t => match Tryz.prog.underlying t with | some (.int k) => some k | _ => none)) = true := by kernel_rfl
theorem pinned_is : (Rows.bodiesBothRow.pinned == Rows.bodiesBothRow.pinnedBy) = true := by kernel_rfl
theorem veiled_is : (Rows.bodiesBothRow.veiled == (Tryz.f18.params.toList ++ Rows.bodiesBothSpec.plain.varTypes Tryz.prog ++ Tryz.f18.resultTypes.toList).any (Tryz.prog.veiledRec ·)) = true := by kernel_rfl
theorem veiledFits_is : Rows.bodiesBothRow.veiledFits Tryz.prog Tryz.f18.params.toList (Tryz.f18.params.toList ++ Rows.bodiesBothSpec.plain.varTypes Tryz.prog ++ Tryz.f18.resultTypes.toList) = true := by kernel_rfl
set_option maxRecDepth 100000 in
theorem closed : joinedFacts Tryz.prog 18 Tryz.f18 Rows.bodiesBothSpec Rows.bodiesBothRow = true := by
  unfold joinedFacts
  exact and_i (and_i (and_i (and_i (and_i (and_i (and_i (and_i (and_i (and_i (and_i (and_i (and_i (and_i (and_i (and_i (and_i (and_i (and_i (and_i (and_i (and_i (and_i (and_i (and_i (and_i (and_i (and_i (and_i (and_i (and_i (wf_is) laidOut_is) maps_rowed) params_is) tie_is) stops_is) pstops_is) knobs_is) pknobs_is) inPlace_is) unfollowed_is) recurses_is) named_is) maps_is) ifaces_is) mapsOut_is) loops_is) wideKeys_is) vars_is) results_is) ifacesOut_is) loopsOut_is) plain_keys) shortTexts_is) stops_heard) may_enter) lifts_final) make_is) kinds_is) pinned_is) veiled_is) veiledFits_is
theorem instance_is : Tryz.f18.isInstance Tryz.prog Rows.bodiesBothRow.origin Rows.bodiesBothRow.targs := of_decide_eq_true (by kernel_rfl)
theorem wrapper_is : Tryz.f18.isWrapper Tryz.prog Rows.bodiesBothRow.wrapper Rows.bodiesBothRow.mainSum := by unfold Func.isWrapper; first | (rw [if_pos (by decide +kernel)]; kernel_rfl) | (rw [if_neg (by decide +kernel)]; exact ⟨rfl, rfl⟩)
theorem text_is : Rows.bodiesBothRow.wfByText (OpenSpec.ofChange Rows.bodiesBothSpec) = true := by kernel_rfl
theorem goes_is : false = Rows.bodiesBothRow.goesBy Tryz.prog := by kernel_rfl
theorem id_is : Tryz.prog.funcNamed "footman/footmanlaw13.BodiesBoth" = some 18 := by kernel_rfl
end Go.Proofs.YtonlfplloenfcaaGreatDoor.bodiesBothFacts
