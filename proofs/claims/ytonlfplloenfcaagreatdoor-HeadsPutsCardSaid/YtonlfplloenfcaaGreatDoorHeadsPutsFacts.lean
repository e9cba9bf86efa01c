/-
  HeadsPuts: the closed facts of its row, one theorem each.
-/
import Derived.Test.YtonlfplloenfcaaGreatDoorWhole
namespace Go.Proofs.YtonlfplloenfcaaGreatDoor.headsPutsFacts
open Go.ChangeShapes Go.WideShapes Go.ChangeAt Go.RowKit Go.Deep
theorem wf_is : Rows.headsPutsRow.wf (OpenSpec.ofChange Rows.headsPutsSpec) = true := by kernel_rfl
theorem params_is : Tryz.f3.params.all (Tryz.prog.readableRec ·) = true := by kernel_rfl
theorem tie_is : namedTie Tryz.prog Rows.headsPutsRow.named Rows.headsPutsSpec.vars = true := by kernel_rfl
theorem stops_is : (Rows.headsPutsRow.stops == []) = true := by kernel_rfl
theorem pstops_is : (Tryz.prog.stops == []) = true := by kernel_rfl
theorem knobs_is : (Rows.headsPutsRow.knobs == []) = true := by kernel_rfl
theorem pknobs_is : (Tryz.prog.stopKnobs == []) = true := by kernel_rfl
theorem inPlace_is : (Rows.headsPutsRow.inPlace == Tryz.prog.inPlace 3) = true := by kernel_rfl
theorem unfollowed_is : (Rows.headsPutsRow.unfollowed == Tryz.prog.unfollowed 3) = true := by kernel_rfl
theorem recurses_is : (Rows.headsPutsRow.recurses == Tryz.prog.recurses 3) = true := by kernel_rfl
theorem named_is : (Rows.headsPutsRow.named == Tryz.prog.varsNamed 3) = true := by kernel_rfl
theorem maps_is : (Rows.headsPutsRow.maps == (Tryz.f3.params.toList ++ Rows.headsPutsSpec.plain.varTypes Tryz.prog).any (Tryz.prog.mapsRec ·)) = true := by kernel_rfl
theorem ifaces_is : (Rows.headsPutsRow.ifaces == (Tryz.f3.params.toList ++ Rows.headsPutsSpec.plain.varTypes Tryz.prog).any (Tryz.prog.ifacesRec ·)) = true := by kernel_rfl
theorem mapsOut_is : (Rows.headsPutsRow.mapsOut == Tryz.prog.mapsAmong Tryz.f3.resultTypes.toList) = true := by kernel_rfl
theorem loops_is : (Rows.headsPutsRow.loops == (Tryz.f3.params.toList ++ Rows.headsPutsSpec.plain.varTypes Tryz.prog).any (Tryz.prog.loopsFrom ·)) = true := by kernel_rfl
theorem wideKeys_is : (Rows.headsPutsRow.wideKeys == (Tryz.f3.params.toList ++ Rows.headsPutsSpec.plain.varTypes Tryz.prog ++ Tryz.f3.resultTypes.toList).any (Tryz.prog.wideKeysFrom ·)) = true := by kernel_rfl
theorem vars_is : Rows.headsPutsSpec.vars.all (Tryz.prog.varReadable ·) = true := by kernel_rfl
theorem results_is : Tryz.f3.resultTypes.all (fun t => Tryz.prog.readableRec t && decide (t < Tryz.prog.types.size)) = true := by kernel_rfl
theorem ifacesOut_is : (Rows.headsPutsRow.ifacesOut == Tryz.f3.resultTypes.toList.any (Tryz.prog.ifacesRec ·)) = true := by kernel_rfl
theorem loopsOut_is : (Rows.headsPutsRow.loopsOut == Tryz.f3.resultTypes.toList.any (Tryz.prog.loopsFrom ·)) = true := by kernel_rfl
theorem shortTexts_is : Rows.headsPutsRow.shortTexts.isNone = true := by kernel_rfl
theorem kinds_is : (Rows.headsPutsRow.kinds == (if Rows.headsPutsRow.domain.isEmpty then [] else Tryz.f3.params.toList.map fun t => match Tryz.prog.underlying t with | some (.int k) => some k | _ => none)) = true := by kernel_rfl
theorem pinned_is : (Rows.headsPutsRow.pinned == Rows.headsPutsRow.pinnedBy) = true := by kernel_rfl
theorem veiled_is : (Rows.headsPutsRow.veiled == (Tryz.f3.params.toList ++ Rows.headsPutsSpec.plain.varTypes Tryz.prog ++ Tryz.f3.resultTypes.toList).any (Tryz.prog.veiledRec ·)) = true := by kernel_rfl
theorem veiledFits_is : Rows.headsPutsRow.veiledFits Tryz.prog Tryz.f3.params.toList (Tryz.f3.params.toList ++ Rows.headsPutsSpec.plain.varTypes Tryz.prog ++ Tryz.f3.resultTypes.toList) = true := by kernel_rfl
set_option maxRecDepth 100000 in
theorem closed : joinedFacts Tryz.prog 3 Tryz.f3 Rows.headsPutsSpec Rows.headsPutsRow = true := by
  unfold joinedFacts
  exact and_i (and_i (and_i (and_i (and_i (and_i (and_i (and_i (and_i (and_i (and_i (and_i (and_i (and_i (and_i (and_i (and_i (and_i (and_i (and_i (and_i (and_i (and_i (and_i (and_i (and_i (and_i (and_i (and_i (and_i (and_i (wf_is) laidOut_is) maps_rowed) params_is) tie_is) stops_is) pstops_is) knobs_is) pknobs_is) inPlace_is) unfollowed_is) recurses_is) named_is) maps_is) ifaces_is) mapsOut_is) loops_is) wideKeys_is) vars_is) results_is) ifacesOut_is) loopsOut_is) plain_keys) shortTexts_is) stops_heard) may_enter) lifts_final) make_is) kinds_is) pinned_is) veiled_is) veiledFits_is
theorem instance_is : Tryz.f3.isInstance Tryz.prog Rows.headsPutsRow.origin Rows.headsPutsRow.targs := of_decide_eq_true (by kernel_rfl)
theorem wrapper_is : Tryz.f3.isWrapper Tryz.prog Rows.headsPutsRow.wrapper Rows.headsPutsRow.mainSum := by unfold Func.isWrapper; first | (rw [if_pos (by decide +kernel)]; kernel_rfl) | (rw [if_neg (by decide +kernel)]; exact ⟨rfl, rfl⟩)
theorem text_is : Rows.headsPutsRow.wfByText (OpenSpec.ofChange Rows.headsPutsSpec) = true := by kernel_rfl
theorem goes_is : false = Rows.headsPutsRow.goesBy Tryz.prog := by kernel_rfl
theorem id_is : Tryz.prog.funcNamed "footman/footmanlaw12.HeadsPuts" = some 3 := by kernel_rfl
end Go.Proofs.YtonlfplloenfcaaGreatDoor.headsPutsFacts
