/-
  BodiesNone: the closed facts of its row, one theorem each.
-/
import Derived.Test.YtonlfplloenfcaaGreatDoorWhole
namespace Go.Proofs.YtonlfplloenfcaaGreatDoor.bodiesNoneFacts
open Go.ChangeShapes Go.WideShapes Go.ChangeAt Go.RowKit Go.Deep
theorem wf_is : Rows.bodiesNoneRow.wf (OpenSpec.ofChange Rows.bodiesNoneSpec) = true := by kernel_rfl
theorem params_is : Tryz.f16.params.all (Tryz.prog.readableRec ·) = true := by kernel_rfl
theorem tie_is : namedTie Tryz.prog Rows.bodiesNoneRow.named Rows.bodiesNoneSpec.vars = true := by kernel_rfl
theorem stops_is : (Rows.bodiesNoneRow.stops == []) = true := by kernel_rfl
theorem pstops_is : (Tryz.prog.stops == []) = true := by kernel_rfl
theorem knobs_is : (Rows.bodiesNoneRow.knobs == []) = true := by kernel_rfl
theorem pknobs_is : (Tryz.prog.stopKnobs == []) = true := by kernel_rfl
theorem inPlace_is : (Rows.bodiesNoneRow.inPlace == Tryz.prog.inPlace 16) = true := by kernel_rfl
theorem unfollowed_is : (Rows.bodiesNoneRow.unfollowed == Tryz.prog.unfollowed 16) = true := by kernel_rfl
theorem recurses_is : (Rows.bodiesNoneRow.recurses == Tryz.prog.recurses 16) = true := by kernel_rfl
theorem named_is : (Rows.bodiesNoneRow.named == Tryz.prog.varsNamed 16) = true := by kernel_rfl
theorem maps_is : (Rows.bodiesNoneRow.maps == (Tryz.f16.params.toList ++ Rows.bodiesNoneSpec.plain.varTypes Tryz.prog).any (Tryz.prog.mapsRec ·)) = true := by kernel_rfl
theorem ifaces_is : (Rows.bodiesNoneRow.ifaces == (Tryz.f16.params.toList ++ Rows.bodiesNoneSpec.plain.varTypes Tryz.prog).any (Tryz.prog.ifacesRec ·)) = true := by kernel_rfl
theorem mapsOut_is : (Rows.bodiesNoneRow.mapsOut == Tryz.prog.mapsAmong Tryz.f16.resultTypes.toList) = true := by kernel_rfl
theorem loops_is : (Rows.bodiesNoneRow.loops == (Tryz.f16.params.toList ++ Rows.bodiesNoneSpec.plain.varTypes Tryz.prog).any (Tryz.prog.loopsFrom ·)) = true := by kernel_rfl
theorem wideKeys_is : (Rows.bodiesNoneRow.wideKeys == (Tryz.f16.params.toList ++ Rows.bodiesNoneSpec.plain.varTypes Tryz.prog ++ Tryz.f16.resultTypes.toList).any (Tryz.prog.wideKeysFrom ·)) = true := by kernel_rfl
theorem vars_is : Rows.bodiesNoneSpec.vars.all (Tryz.prog.varReadable ·) = true := by kernel_rfl
theorem results_is : Tryz.f16.resultTypes.all (fun t => Tryz.prog.readableRec t && decide (t < Tryz.prog.types.size)) = true := by kernel_rfl
theorem ifacesOut_is : (Rows.bodiesNoneRow.ifacesOut == Tryz.f16.resultTypes.toList.any (Tryz.prog.ifacesRec ·)) = true := by kernel_rfl
theorem loopsOut_is : (Rows.bodiesNoneRow.loopsOut == Tryz.f16.resultTypes.toList.any (Tryz.prog.loopsFrom ·)) = true := by kernel_rfl
theorem shortTexts_is : Rows.bodiesNoneRow.shortTexts.isNone = true := by kernel_rfl
theorem kinds_is : (Rows.bodiesNoneRow.kinds == (if Rows.bodiesNoneRow.domain.isEmpty then [] else Tryz.f16.params.toList.map fun t => match Tryz.prog.underlying t with | some (.int k) => some k | _ => none)) = true := by kernel_rfl
theorem pinned_is : (Rows.bodiesNoneRow.pinned == Rows.bodiesNoneRow.pinnedBy) = true := by kernel_rfl
theorem veiled_is : (Rows.bodiesNoneRow.veiled == (Tryz.f16.params.toList ++ Rows.bodiesNoneSpec.plain.varTypes Tryz.prog ++ Tryz.f16.resultTypes.toList).any (Tryz.prog.veiledRec ·)) = true := by kernel_rfl
theorem veiledFits_is : Rows.bodiesNoneRow.veiledFits Tryz.prog Tryz.f16.params.toList (Tryz.f16.params.toList ++ Rows.bodiesNoneSpec.plain.varTypes Tryz.prog ++ Tryz.f16.resultTypes.toList) = true := by kernel_rfl
set_option maxRecDepth 100000 in
theorem closed : joinedFacts Tryz.prog 16 Tryz.f16 Rows.bodiesNoneSpec Rows.bodiesNoneRow = true := by
  unfold joinedFacts
  exact and_i (and_i (and_i (and_i (and_i (and_i (and_i (and_i (and_i (and_i (and_i (and_i (and_i (and_i (and_i (and_i (and_i (and_i (and_i (and_i (and_i (and_i (and_i (and_i (and_i (and_i (and_i (and_i (and_i (and_i (and_i (wf_is) laidOut_is) maps_rowed) params_is) tie_is) stops_is) pstops_is) knobs_is) pknobs_is) inPlace_is) unfollowed_is) recurses_is) named_is) maps_is) ifaces_is) mapsOut_is) loops_is) wideKeys_is) vars_is) results_is) ifacesOut_is) loopsOut_is) plain_keys) shortTexts_is) stops_heard) may_enter) lifts_final) make_is) kinds_is) pinned_is) veiled_is) veiledFits_is
theorem instance_is : Tryz.f16.isInstance Tryz.prog Rows.bodiesNoneRow.origin Rows.bodiesNoneRow.targs := of_decide_eq_true (by kernel_rfl)
theorem wrapper_is : Tryz.f16.isWrapper Tryz.prog Rows.bodiesNoneRow.wrapper Rows.bodiesNoneRow.mainSum := by unfold Func.isWrapper; first | (rw [if_pos (by decide +kernel)]; kernel_rfl) | (rw [if_neg (by decide +kernel)]; exact ⟨rfl, rfl⟩)
theorem text_is : Rows.bodiesNoneRow.wfByText (OpenSpec.ofChange Rows.bodiesNoneSpec) = true := by kernel_rfl
theorem goes_is : false = Rows.bodiesNoneRow.goesBy Tryz.prog := by kernel_rfl
theorem id_is : Tryz.prog.funcNamed "footman/footmanlaw13.BodiesNone" = some 16 := by kernel_rfl
end Go.Proofs.YtonlfplloenfcaaGreatDoor.bodiesNoneFacts
