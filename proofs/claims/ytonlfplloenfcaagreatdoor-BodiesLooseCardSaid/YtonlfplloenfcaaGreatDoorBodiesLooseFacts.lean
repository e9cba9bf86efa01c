/-
  BodiesLoose: the closed facts of its row, one theorem each.
-/
import Derived.Test.YtonlfplloenfcaaGreatDoorWhole
namespace Go.Proofs.YtonlfplloenfcaaGreatDoor.bodiesLooseFacts
open Go.ChangeShapes Go.WideShapes Go.ChangeAt Go.RowKit Go.Deep
theorem wf_is : Rows.bodiesLooseRow.wf (OpenSpec.ofChange Rows.bodiesLooseSpec) = true := by kernel_rfl
theorem params_is : Tryz.f15.params.all (Tryz.prog.readableRec ·) = true := by kernel_rfl
theorem tie_is : namedTie Tryz.prog Rows.bodiesLooseRow.named Rows.bodiesLooseSpec.vars = true := by kernel_rfl
theorem stops_is : (Rows.bodiesLooseRow.stops == []) = true := by kernel_rfl
theorem pstops_is : (Tryz.prog.stops == []) = true := by kernel_rfl
theorem knobs_is : (Rows.bodiesLooseRow.knobs == []) = true := by kernel_rfl
theorem pknobs_is : (Tryz.prog.stopKnobs == []) = true := by kernel_rfl
theorem inPlace_is : (Rows.bodiesLooseRow.inPlace == Tryz.prog.inPlace 15) = true := by kernel_rfl
theorem unfollowed_is : (Rows.bodiesLooseRow.unfollowed == Tryz.prog.unfollowed 15) = true := by kernel_rfl
theorem recurses_is : (Rows.bodiesLooseRow.recurses == Tryz.prog.recurses 15) = true := by kernel_rfl
theorem named_is : (Rows.bodiesLooseRow.named == Tryz.prog.varsNamed 15) = true := by kernel_rfl
theorem maps_is : (Rows.bodiesLooseRow.maps == (Tryz.f15.params.toList ++ Rows.bodiesLooseSpec.plain.varTypes Tryz.prog).any (Tryz.prog.mapsRec ·)) = true := by kernel_rfl
theorem ifaces_is : (Rows.bodiesLooseRow.ifaces == (Tryz.f15.params.toList ++ Rows.bodiesLooseSpec.plain.varTypes Tryz.prog).any (Tryz.prog.ifacesRec ·)) = true := by kernel_rfl
theorem mapsOut_is : (Rows.bodiesLooseRow.mapsOut == Tryz.prog.mapsAmong Tryz.f15.resultTypes.toList) = true := by kernel_rfl
theorem loops_is : (Rows.bodiesLooseRow.loops == (Tryz.f15.params.toList ++ Rows.bodiesLooseSpec.plain.varTypes Tryz.prog).any (Tryz.prog.loopsFrom ·)) = true := by kernel_rfl
theorem wideKeys_is : (Rows.bodiesLooseRow.wideKeys == (Tryz.f15.params.toList ++ Rows.bodiesLooseSpec.plain.varTypes Tryz.prog ++ Tryz.f15.resultTypes.toList).any (Tryz.prog.wideKeysFrom ·)) = true := by kernel_rfl
theorem vars_is : Rows.bodiesLooseSpec.vars.all (Tryz.prog.varReadable ·) = true := by kernel_rfl
theorem results_is : Tryz.f15.resultTypes.all (fun t => Tryz.prog.readableRec t && decide (t < Tryz.prog.types.size)) = true := by kernel_rfl
theorem ifacesOut_is : (Rows.bodiesLooseRow.ifacesOut == Tryz.f15.resultTypes.toList.any (Tryz.prog.ifacesRec ·)) = true := by kernel_rfl
theorem loopsOut_is : (Rows.bodiesLooseRow.loopsOut == Tryz.f15.resultTypes.toList.any (Tryz.prog.loopsFrom ·)) = true := by kernel_rfl
theorem shortTexts_is : Rows.bodiesLooseRow.shortTexts.isNone = true := by kernel_rfl
theorem kinds_is : (Rows.bodiesLooseRow.kinds == (if Rows.bodiesLooseRow.domain.isEmpty then [] else Tryz.f15.params.toList.map fun t => match Tryz.prog.underlying t with | some (.int k) => some k | _ => none)) = true := by kernel_rfl
theorem pinned_is : (Rows.bodiesLooseRow.pinned == Rows.bodiesLooseRow.pinnedBy) = true := by kernel_rfl
theorem veiled_is : (Rows.bodiesLooseRow.veiled == (Tryz.f15.params.toList ++ Rows.bodiesLooseSpec.plain.varTypes Tryz.prog ++ Tryz.f15.resultTypes.toList).any (Tryz.prog.veiledRec ·)) = true := by kernel_rfl
theorem veiledFits_is : Rows.bodiesLooseRow.veiledFits Tryz.prog Tryz.f15.params.toList (Tryz.f15.params.toList ++ Rows.bodiesLooseSpec.plain.varTypes Tryz.prog ++ Tryz.f15.resultTypes.toList) = true := by kernel_rfl
set_option maxRecDepth 100000 in
theorem closed : joinedFacts Tryz.prog 15 Tryz.f15 Rows.bodiesLooseSpec Rows.bodiesLooseRow = true := by
  unfold joinedFacts
  exact and_i (and_i (and_i (and_i (and_i (and_i (and_i (and_i (and_i (and_i (and_i (and_i (and_i (and_i (and_i (and_i (and_i (and_i (and_i (and_i (and_i (and_i (and_i (and_i (and_i (and_i (and_i (and_i (and_i (and_i (and_i (wf_is) laidOut_is) maps_rowed) params_is) tie_is) stops_is) pstops_is) knobs_is) pknobs_is) inPlace_is) unfollowed_is) recurses_is) named_is) maps_is) ifaces_is) mapsOut_is) loops_is) wideKeys_is) vars_is) results_is) ifacesOut_is) loopsOut_is) plain_keys) shortTexts_is) stops_heard) may_enter) lifts_final) make_is) kinds_is) pinned_is) veiled_is) veiledFits_is
theorem instance_is : Tryz.f15.isInstance Tryz.prog Rows.bodiesLooseRow.origin Rows.bodiesLooseRow.targs := of_decide_eq_true (by kernel_rfl)
theorem wrapper_is : Tryz.f15.isWrapper Tryz.prog Rows.bodiesLooseRow.wrapper Rows.bodiesLooseRow.mainSum := by unfold Func.isWrapper; first | (rw [if_pos (by decide +kernel)]; kernel_rfl) | (rw [if_neg (by decide +kernel)]; exact ⟨rfl, rfl⟩)
theorem text_is : Rows.bodiesLooseRow.wfByText (OpenSpec.ofChange Rows.bodiesLooseSpec) = true := by kernel_rfl
theorem goes_is : false = Rows.bodiesLooseRow.goesBy Tryz.prog := by kernel_rfl
theorem id_is : Tryz.prog.funcNamed "footman/footmanlaw13.BodiesLoose" = some 15 := by kernel_rfl
end Go.Proofs.YtonlfplloenfcaaGreatDoor.bodiesLooseFacts
