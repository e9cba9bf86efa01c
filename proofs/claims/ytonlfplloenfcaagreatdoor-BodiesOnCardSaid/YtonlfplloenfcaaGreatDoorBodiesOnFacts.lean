/-
  BodiesOn: the closed facts of its row, one theorem each.
-/
import Derived.Test.YtonlfplloenfcaaGreatDoorWhole
namespace Go.Proofs.YtonlfplloenfcaaGreatDoor.bodiesOnFacts
open Go.ChangeShapes Go.WideShapes Go.ChangeAt Go.RowKit Go.Deep
theorem wf_is : Rows.bodiesOnRow.wf (OpenSpec.ofChange Rows.bodiesOnSpec) = true := by kernel_rfl
theorem params_is : Tryz.f14.params.all (Tryz.prog.readableRec ·) = true := by kernel_rfl
theorem tie_is : namedTie Tryz.prog Rows.bodiesOnRow.named Rows.bodiesOnSpec.vars = true := by kernel_rfl
theorem stops_is : (Rows.bodiesOnRow.stops == []) = true := by kernel_rfl
theorem pstops_is : (Tryz.prog.stops == []) = true := by kernel_rfl
theorem knobs_is : (Rows.bodiesOnRow.knobs == []) = true := by kernel_rfl
theorem pknobs_is : (Tryz.prog.stopKnobs == []) = true := by kernel_rfl
theorem inPlace_is : (Rows.bodiesOnRow.inPlace == Tryz.prog.inPlace 14) = true := by kernel_rfl
theorem unfollowed_is : (Rows.bodiesOnRow.unfollowed == Tryz.prog.unfollowed 14) = true := by kernel_rfl
theorem recurses_is : (Rows.bodiesOnRow.recurses == Tryz.prog.recurses 14) = true := by kernel_rfl
theorem named_is : (Rows.bodiesOnRow.named == Tryz.prog.varsNamed 14) = true := by kernel_rfl
theorem maps_is : (Rows.bodiesOnRow.maps == (Tryz.f14.params.toList ++ Rows.bodiesOnSpec.plain.varTypes Tryz.prog).any (Tryz.prog.mapsRec ·)) = true := by kernel_rfl
theorem ifaces_is : (Rows.bodiesOnRow.ifaces == (Tryz.f14.params.toList ++ Rows.bodiesOnSpec.plain.varTypes Tryz.prog).any (Tryz.prog.ifacesRec ·)) = true := by kernel_rfl
theorem mapsOut_is : (Rows.bodiesOnRow.mapsOut == Tryz.prog.mapsAmong Tryz.f14.resultTypes.toList) = true := by kernel_rfl
theorem loops_is : (Rows.bodiesOnRow.loops == (Tryz.f14.params.toList ++ Rows.bodiesOnSpec.plain.varTypes Tryz.prog).any (Tryz.prog.loopsFrom ·)) = true := by kernel_rfl
theorem wideKeys_is : (Rows.bodiesOnRow.wideKeys == (Tryz.f14.params.toList ++ Rows.bodiesOnSpec.plain.varTypes Tryz.prog ++ Tryz.f14.resultTypes.toList).any (Tryz.prog.wideKeysFrom ·)) = true := by kernel_rfl
theorem vars_is : Rows.bodiesOnSpec.vars.all (Tryz.prog.varReadable ·) = true := by kernel_rfl
theorem results_is : Tryz.f14.resultTypes.all (fun t => Tryz.prog.readableRec t && decide (t < Tryz.prog.types.size)) = true := by kernel_rfl
theorem ifacesOut_is : (Rows.bodiesOnRow.ifacesOut == Tryz.f14.resultTypes.toList.any (Tryz.prog.ifacesRec ·)) = true := by kernel_rfl
theorem loopsOut_is : (Rows.bodiesOnRow.loopsOut == Tryz.f14.resultTypes.toList.any (Tryz.prog.loopsFrom ·)) = true := by kernel_rfl
theorem shortTexts_is : Rows.bodiesOnRow.shortTexts.isNone = true := by kernel_rfl
theorem kinds_is : (Rows.bodiesOnRow.kinds == (if Rows.bodiesOnRow.domain.isEmpty then [] else Tryz.f14.params.toList.map fun t => match Tryz.prog.underlying t with | some (.int k) => some k | _ => none)) = true := by kernel_rfl
theorem pinned_is : (Rows.bodiesOnRow.pinned == Rows.bodiesOnRow.pinnedBy) = true := by kernel_rfl
theorem veiled_is : (Rows.bodiesOnRow.veiled == (Tryz.f14.params.toList ++ Rows.bodiesOnSpec.plain.varTypes Tryz.prog ++ Tryz.f14.resultTypes.toList).any (Tryz.prog.veiledRec ·)) = true := by kernel_rfl
theorem veiledFits_is : Rows.bodiesOnRow.veiledFits Tryz.prog Tryz.f14.params.toList (Tryz.f14.params.toList ++ Rows.bodiesOnSpec.plain.varTypes Tryz.prog ++ Tryz.f14.resultTypes.toList) = true := by kernel_rfl
set_option maxRecDepth 100000 in
theorem closed : joinedFacts Tryz.prog 14 Tryz.f14 Rows.bodiesOnSpec Rows.bodiesOnRow = true := by
  unfold joinedFacts
  exact and_i (and_i (and_i (and_i (and_i (and_i (and_i (and_i (and_i (and_i (and_i (and_i (and_i (and_i (and_i (and_i (and_i (and_i (and_i (and_i (and_i (and_i (and_i (and_i (and_i (and_i (and_i (and_i (and_i (and_i (and_i (wf_is) laidOut_is) maps_rowed) params_is) tie_is) stops_is) pstops_is) knobs_is) pknobs_is) inPlace_is) unfollowed_is) recurses_is) named_is) maps_is) ifaces_is) mapsOut_is) loops_is) wideKeys_is) vars_is) results_is) ifacesOut_is) loopsOut_is) plain_keys) shortTexts_is) stops_heard) may_enter) lifts_final) make_is) kinds_is) pinned_is) veiled_is) veiledFits_is
theorem instance_is : Tryz.f14.isInstance Tryz.prog Rows.bodiesOnRow.origin Rows.bodiesOnRow.targs := of_decide_eq_true (by kernel_rfl)
theorem wrapper_is : Tryz.f14.isWrapper Tryz.prog Rows.bodiesOnRow.wrapper Rows.bodiesOnRow.mainSum := by unfold Func.isWrapper; first | (rw [if_pos (by decide +kernel)]; kernel_rfl) | (rw [if_neg (by decide +kernel)]; exact ⟨rfl, rfl⟩)
theorem text_is : Rows.bodiesOnRow.wfByText (OpenSpec.ofChange Rows.bodiesOnSpec) = true := by kernel_rfl
theorem goes_is : false = Rows.bodiesOnRow.goesBy Tryz.prog := by kernel_rfl
theorem id_is : Tryz.prog.funcNamed "footman/footmanlaw13.BodiesOn" = some 14 := by kernel_rfl
end Go.Proofs.YtonlfplloenfcaaGreatDoor.bodiesOnFacts
