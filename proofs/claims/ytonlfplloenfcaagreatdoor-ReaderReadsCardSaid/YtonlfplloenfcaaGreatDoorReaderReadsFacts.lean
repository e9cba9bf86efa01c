/-
  ReaderReads: the closed facts of its row, one theorem each.
-/
import Derived.Test.YtonlfplloenfcaaGreatDoorWhole
namespace Go.Proofs.YtonlfplloenfcaaGreatDoor.readerReadsFacts
open Go.ChangeShapes Go.WideShapes Go.ChangeAt Go.RowKit Go.Deep
theorem wf_is : Rows.readerReadsRow.wf (OpenSpec.ofChange Rows.readerReadsSpec) = true := by kernel_rfl
theorem params_is : Tryz.f19.params.all (Tryz.prog.readableRec ·) = true := by kernel_rfl
theorem tie_is : namedTie Tryz.prog Rows.readerReadsRow.named Rows.readerReadsSpec.vars = true := by kernel_rfl
theorem stops_is : (Rows.readerReadsRow.stops == []) = true := by kernel_rfl
theorem pstops_is : (Tryz.prog.stops == []) = true := by kernel_rfl
theorem knobs_is : (Rows.readerReadsRow.knobs == []) = true := by kernel_rfl
theorem pknobs_is : (Tryz.prog.stopKnobs == []) = true := by kernel_rfl
theorem inPlace_is : (Rows.readerReadsRow.inPlace == Tryz.prog.inPlace 19) = true := by kernel_rfl
theorem unfollowed_is : (Rows.readerReadsRow.unfollowed == Tryz.prog.unfollowed 19) = true := by kernel_rfl
theorem recurses_is : (Rows.readerReadsRow.recurses == Tryz.prog.recurses 19) = true := by kernel_rfl
theorem named_is : (Rows.readerReadsRow.named == Tryz.prog.varsNamed 19) = true := by kernel_rfl
theorem maps_is : (Rows.readerReadsRow.maps == (Tryz.f19.params.toList ++ Rows.readerReadsSpec.plain.varTypes Tryz.prog).any (Tryz.prog.mapsRec ·)) = true := by kernel_rfl
theorem ifaces_is : (Rows.readerReadsRow.ifaces == (Tryz.f19.params.toList ++ Rows.readerReadsSpec.plain.varTypes Tryz.prog).any (Tryz.prog.ifacesRec ·)) = true := by kernel_rfl
theorem mapsOut_is : (Rows.readerReadsRow.mapsOut == Tryz.prog.mapsAmong Tryz.f19.resultTypes.toList) = true := by kernel_rfl
theorem loops_is : (Rows.readerReadsRow.loops == (Tryz.f19.params.toList ++ Rows.readerReadsSpec.plain.varTypes Tryz.prog).any (Tryz.prog.loopsFrom ·)) = true := by kernel_rfl
theorem wideKeys_is : (Rows.readerReadsRow.wideKeys == (Tryz.f19.params.toList ++ Rows.readerReadsSpec.plain.varTypes Tryz.prog ++ Tryz.f19.resultTypes.toList).any (Tryz.prog.wideKeysFrom ·)) = true := by kernel_rfl
theorem vars_is : Rows.readerReadsSpec.vars.all (Tryz.prog.varReadable ·) = true := by kernel_rfl
theorem results_is : Tryz.f19.resultTypes.all (fun t => Tryz.prog.readableRec t && decide (t < Tryz.prog.types.size)) = true := by kernel_rfl
theorem ifacesOut_is : (Rows.readerReadsRow.ifacesOut == Tryz.f19.resultTypes.toList.any (Tryz.prog.ifacesRec ·)) = true := by kernel_rfl
theorem loopsOut_is : (Rows.readerReadsRow.loopsOut == Tryz.f19.resultTypes.toList.any (Tryz.prog.loopsFrom ·)) = true := by kernel_rfl
theorem shortTexts_is : Rows.readerReadsRow.shortTexts.isNone = true := by kernel_rfl
theorem kinds_is : (Rows.readerReadsRow.kinds == (if Rows.readerReadsRow.domain.isEmpty then [] else Tryz.f19.params.toList.map fun t => match Tryz.prog.underlying t with | some (.int k) => some k | _ => none)) = true := by kernel_rfl
theorem pinned_is : (Rows.readerReadsRow.pinned == Rows.readerReadsRow.pinnedBy) = true := by kernel_rfl
theorem veiled_is : (Rows.readerReadsRow.veiled == (Tryz.f19.params.toList ++ Rows.readerReadsSpec.plain.varTypes Tryz.prog ++ Tryz.f19.resultTypes.toList).any (Tryz.prog.veiledRec ·)) = true := by kernel_rfl
theorem veiledFits_is : Rows.readerReadsRow.veiledFits Tryz.prog Tryz.f19.params.toList (Tryz.f19.params.toList ++ Rows.readerReadsSpec.plain.varTypes Tryz.prog ++ Tryz.f19.resultTypes.toList) = true := by kernel_rfl
set_option maxRecDepth 100000 in
theorem closed : joinedFacts Tryz.prog 19 Tryz.f19 Rows.readerReadsSpec Rows.readerReadsRow = true := by
  unfold joinedFacts
  exact and_i (and_i (and_i (and_i (and_i (and_i (and_i (and_i (and_i (and_i (and_i (and_i (and_i (and_i (and_i (and_i (and_i (and_i (and_i (and_i (and_i (and_i (and_i (and_i (and_i (and_i (and_i (and_i (and_i (and_i (and_i (wf_is) laidOut_is) maps_rowed) params_is) tie_is) stops_is) pstops_is) knobs_is) pknobs_is) inPlace_is) unfollowed_is) recurses_is) named_is) maps_is) ifaces_is) mapsOut_is) loops_is) wideKeys_is) vars_is) results_is) ifacesOut_is) loopsOut_is) plain_keys) shortTexts_is) stops_heard) may_enter) lifts_final) make_is) kinds_is) pinned_is) veiled_is) veiledFits_is
theorem instance_is : Tryz.f19.isInstance Tryz.prog Rows.readerReadsRow.origin Rows.readerReadsRow.targs := of_decide_eq_true (by kernel_rfl)
theorem wrapper_is : Tryz.f19.isWrapper Tryz.prog Rows.readerReadsRow.wrapper Rows.readerReadsRow.mainSum := by unfold Func.isWrapper; first | (rw [if_pos (by decide +kernel)]; kernel_rfl) | (rw [if_neg (by decide +kernel)]; exact ⟨rfl, rfl⟩)
theorem text_is : Rows.readerReadsRow.wfByText (OpenSpec.ofChange Rows.readerReadsSpec) = true := by kernel_rfl
theorem goes_is : false = Rows.readerReadsRow.goesBy Tryz.prog := by kernel_rfl
theorem id_is : Tryz.prog.funcNamed "footman/footmanlaw20.ReaderReads" = some 19 := by kernel_rfl
end Go.Proofs.YtonlfplloenfcaaGreatDoor.readerReadsFacts
