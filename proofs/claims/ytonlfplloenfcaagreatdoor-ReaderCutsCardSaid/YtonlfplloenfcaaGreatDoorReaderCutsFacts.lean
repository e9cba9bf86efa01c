/-
  ReaderCuts: the closed facts of its row, one theorem each.
-/
import Derived.Test.YtonlfplloenfcaaGreatDoorWhole
namespace Go.Proofs.YtonlfplloenfcaaGreatDoor.readerCutsFacts
open Go.ChangeShapes Go.WideShapes Go.ChangeAt Go.RowKit Go.Deep
theorem wf_is : Rows.readerCutsRow.wf (OpenSpec.ofChange Rows.readerCutsSpec) = true := by kernel_rfl
theorem params_is : Tryz.f20.params.all (Tryz.prog.readableRec ·) = true := by kernel_rfl
theorem tie_is : namedTie Tryz.prog Rows.readerCutsRow.named Rows.readerCutsSpec.vars = true := by kernel_rfl
theorem stops_is : (Rows.readerCutsRow.stops == []) = true := by kernel_rfl
theorem pstops_is : (Tryz.prog.stops == []) = true := by kernel_rfl
theorem knobs_is : (Rows.readerCutsRow.knobs == []) = true := by kernel_rfl
theorem pknobs_is : (Tryz.prog.stopKnobs == []) = true := by kernel_rfl
theorem inPlace_is : (Rows.readerCutsRow.inPlace == Tryz.prog.inPlace 20) = true := by kernel_rfl
theorem unfollowed_is : (Rows.readerCutsRow.unfollowed == Tryz.prog.unfollowed 20) = true := by kernel_rfl
theorem recurses_is : (Rows.readerCutsRow.recurses == Tryz.prog.recurses 20) = true := by kernel_rfl
theorem named_is : (Rows.readerCutsRow.named == Tryz.prog.varsNamed 20) = true := by kernel_rfl
theorem maps_is : (Rows.readerCutsRow.maps == (Tryz.f20.params.toList ++ Rows.readerCutsSpec.plain.varTypes Tryz.prog).any (Tryz.prog.mapsRec ·)) = true := by kernel_rfl
theorem ifaces_is : (Rows.readerCutsRow.ifaces == (Tryz.f20.params.toList ++ Rows.readerCutsSpec.plain.varTypes Tryz.prog).any (Tryz.prog.ifacesRec ·)) = true := by kernel_rfl
theorem mapsOut_is : (Rows.readerCutsRow.mapsOut == Tryz.prog.mapsAmong Tryz.f20.resultTypes.toList) = true := by kernel_rfl
theorem loops_is : (Rows.readerCutsRow.loops == (Tryz.f20.params.toList ++ Rows.readerCutsSpec.plain.varTypes Tryz.prog).any (Tryz.prog.loopsFrom ·)) = true := by kernel_rfl
theorem wideKeys_is : (Rows.readerCutsRow.wideKeys == (Tryz.f20.params.toList ++ Rows.readerCutsSpec.plain.varTypes Tryz.prog ++ Tryz.f20.resultTypes.toList).any (Tryz.prog.wideKeysFrom ·)) = true := by kernel_rfl
theorem vars_is : Rows.readerCutsSpec.vars.all (Tryz.prog.varReadable ·) = true := by kernel_rfl
theorem results_is : Tryz.f20.resultTypes.all (fun t => Tryz.prog.readableRec t && decide (t < Tryz.prog.types.size)) = true := by kernel_rfl
theorem ifacesOut_is : (Rows.readerCutsRow.ifacesOut == Tryz.f20.resultTypes.toList.any (Tryz.prog.ifacesRec ·)) = true := by kernel_rfl
theorem loopsOut_is : (Rows.readerCutsRow.loopsOut == Tryz.f20.resultTypes.toList.any (Tryz.prog.loopsFrom ·)) = true := by kernel_rfl
theorem shortTexts_is : Rows.readerCutsRow.shortTexts.isNone = true := by kernel_rfl
theorem kinds_is : (Rows.readerCutsRow.kinds == (if Rows.readerCutsRow.domain.isEmpty then [] else Tryz.f20.params.toList.map fun t => match Tryz.prog.underlying t with | some (.int k) => some k | _ => none)) = true := by kernel_rfl
theorem pinned_is : (Rows.readerCutsRow.pinned == Rows.readerCutsRow.pinnedBy) = true := by kernel_rfl
theorem veiled_is : (Rows.readerCutsRow.veiled == (Tryz.f20.params.toList ++ Rows.readerCutsSpec.plain.varTypes Tryz.prog ++ Tryz.f20.resultTypes.toList).any (Tryz.prog.veiledRec ·)) = true := by kernel_rfl
theorem veiledFits_is : Rows.readerCutsRow.veiledFits Tryz.prog Tryz.f20.params.toList (Tryz.f20.params.toList ++ Rows.readerCutsSpec.plain.varTypes Tryz.prog ++ Tryz.f20.resultTypes.toList) = true := by kernel_rfl
set_option maxRecDepth 100000 in
theorem closed : joinedFacts Tryz.prog 20 Tryz.f20 Rows.readerCutsSpec Rows.readerCutsRow = true := by
  unfold joinedFacts
  exact and_i (and_i (and_i (and_i (and_i (and_i (and_i (and_i (and_i (and_i (and_i (and_i (and_i (and_i (and_i (and_i (and_i (and_i (and_i (and_i (and_i (and_i (and_i (and_i (and_i (and_i (and_i (and_i (and_i (and_i (and_i (wf_is) laidOut_is) maps_rowed) params_is) tie_is) stops_is) pstops_is) knobs_is) pknobs_is) inPlace_is) unfollowed_is) recurses_is) named_is) maps_is) ifaces_is) mapsOut_is) loops_is) wideKeys_is) vars_is) results_is) ifacesOut_is) loopsOut_is) plain_keys) shortTexts_is) stops_heard) may_enter) lifts_final) make_is) kinds_is) pinned_is) veiled_is) veiledFits_is
theorem instance_is : Tryz.f20.isInstance Tryz.prog Rows.readerCutsRow.origin Rows.readerCutsRow.targs := of_decide_eq_true (by kernel_rfl)
theorem wrapper_is : Tryz.f20.isWrapper Tryz.prog Rows.readerCutsRow.wrapper Rows.readerCutsRow.mainSum := by unfold Func.isWrapper; first | (rw [if_pos (by decide +kernel)]; kernel_rfl) | (rw [if_neg (by decide +kernel)]; exact ⟨rfl, rfl⟩)
theorem text_is : Rows.readerCutsRow.wfByText (OpenSpec.ofChange Rows.readerCutsSpec) = true := by kernel_rfl
theorem goes_is : false = Rows.readerCutsRow.goesBy Tryz.prog := by kernel_rfl
theorem id_is : Tryz.prog.funcNamed "footman/footmanlaw20.ReaderCuts" = some 20 := by kernel_rfl
end Go.Proofs.YtonlfplloenfcaaGreatDoor.readerCutsFacts
