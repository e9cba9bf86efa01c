/-
  ReaderBodies: the closed facts of its row, one theorem each.
-/
import Derived.Test.YtonlfplloenfcaaGreatDoorWhole
namespace Go.Proofs.YtonlfplloenfcaaGreatDoor.readerBodiesFacts
open Go.ChangeShapes Go.WideShapes Go.ChangeAt Go.RowKit Go.Deep
theorem wf_is : Rows.readerBodiesRow.wf (OpenSpec.ofChange Rows.readerBodiesSpec) = true := by kernel_rfl
theorem params_is : Tryz.f21.params.all (Tryz.prog.readableRec ·) = true := by kernel_rfl
theorem tie_is : namedTie Tryz.prog Rows.readerBodiesRow.named Rows.readerBodiesSpec.vars = true := by kernel_rfl
theorem stops_is : (Rows.readerBodiesRow.stops == []) = true := by kernel_rfl
theorem pstops_is : (Tryz.prog.stops == []) = true := by kernel_rfl
theorem knobs_is : (Rows.readerBodiesRow.knobs == []) = true := by kernel_rfl
theorem pknobs_is : (Tryz.prog.stopKnobs == []) = true := by kernel_rfl
theorem inPlace_is : (Rows.readerBodiesRow.inPlace == Tryz.prog.inPlace 21) = true := by kernel_rfl
theorem unfollowed_is : (Rows.readerBodiesRow.unfollowed == Tryz.prog.unfollowed 21) = true := by kernel_rfl
theorem recurses_is : (Rows.readerBodiesRow.recurses == Tryz.prog.recurses 21) = true := by kernel_rfl
theorem named_is : (Rows.readerBodiesRow.named == Tryz.prog.varsNamed 21) = true := by kernel_rfl
theorem maps_is : (Rows.readerBodiesRow.maps == (Tryz.f21.params.toList ++ Rows.readerBodiesSpec.plain.varTypes Tryz.prog).any (Tryz.prog.mapsRec ·)) = true := by kernel_rfl
theorem ifaces_is : (Rows.readerBodiesRow.ifaces == (Tryz.f21.params.toList ++ Rows.readerBodiesSpec.plain.varTypes Tryz.prog).any (Tryz.prog.ifacesRec ·)) = true := by kernel_rfl
theorem mapsOut_is : (Rows.readerBodiesRow.mapsOut == Tryz.prog.mapsAmong Tryz.f21.resultTypes.toList) = true := by kernel_rfl
theorem loops_is : (Rows.readerBodiesRow.loops == (Tryz.f21.params.toList ++ Rows.readerBodiesSpec.plain.varTypes Tryz.prog).any (Tryz.prog.loopsFrom ·)) = true := by kernel_rfl
theorem wideKeys_is : (Rows.readerBodiesRow.wideKeys == (Tryz.f21.params.toList ++ Rows.readerBodiesSpec.plain.varTypes Tryz.prog ++ Tryz.f21.resultTypes.toList).any (Tryz.prog.wideKeysFrom ·)) = true := by kernel_rfl
theorem vars_is : Rows.readerBodiesSpec.vars.all (Tryz.prog.varReadable ·) = true := by kernel_rfl
theorem results_is : Tryz.f21.resultTypes.all (fun t => Tryz.prog.readableRec t && decide (t < Tryz.prog.types.size)) = true := by kernel_rfl
theorem ifacesOut_is : (Rows.readerBodiesRow.ifacesOut == Tryz.f21.resultTypes.toList.any (Tryz.prog.ifacesRec ·)) = true := by kernel_rfl
theorem loopsOut_is : (Rows.readerBodiesRow.loopsOut == Tryz.f21.resultTypes.toList.any (Tryz.prog.loopsFrom ·)) = true := by kernel_rfl
theorem shortTexts_is : Rows.readerBodiesRow.shortTexts.isNone = true := by kernel_rfl
theorem kinds_is : (Rows.readerBodiesRow.kinds == (if Rows.readerBodiesRow.domain.isEmpty then [] else Tryz.f21.params.toList.map fun t => match Tryz.prog.underlying t with | some (.int k) => some k | _ => none)) = true := by kernel_rfl
theorem pinned_is : (Rows.readerBodiesRow.pinned == Rows.readerBodiesRow.pinnedBy) = true := by kernel_rfl
theorem veiled_is : (Rows.readerBodiesRow.veiled == (Tryz.f21.params.toList ++ Rows.readerBodiesSpec.plain.varTypes Tryz.prog ++ Tryz.f21.resultTypes.toList).any (Tryz.prog.veiledRec ·)) = true := by kernel_rfl
theorem veiledFits_is : Rows.readerBodiesRow.veiledFits Tryz.prog Tryz.f21.params.toList (Tryz.f21.params.toList ++ Rows.readerBodiesSpec.plain.varTypes Tryz.prog ++ Tryz.f21.resultTypes.toList) = true := by kernel_rfl
set_option maxRecDepth 100000 in
theorem closed : joinedFacts Tryz.prog 21 Tryz.f21 Rows.readerBodiesSpec Rows.readerBodiesRow = true := by
  unfold joinedFacts
  exact and_i (and_i (and_i (and_i (and_i (and_i (and_i (and_i (and_i (and_i (and_i (and_i (and_i (and_i (and_i (and_i (and_i (and_i (and_i (and_i (and_i (and_i (and_i (and_i (and_i (and_i (and_i (and_i (and_i (and_i (and_i (wf_is) laidOut_is) maps_rowed) params_is) tie_is) stops_is) pstops_is) knobs_is) pknobs_is) inPlace_is) unfollowed_is) recurses_is) named_is) maps_is) ifaces_is) mapsOut_is) loops_is) wideKeys_is) vars_is) results_is) ifacesOut_is) loopsOut_is) plain_keys) shortTexts_is) stops_heard) may_enter) lifts_final) make_is) kinds_is) pinned_is) veiled_is) veiledFits_is
theorem instance_is : Tryz.f21.isInstance Tryz.prog Rows.readerBodiesRow.origin Rows.readerBodiesRow.targs := of_decide_eq_true (by kernel_rfl)
theorem wrapper_is : Tryz.f21.isWrapper Tryz.prog Rows.readerBodiesRow.wrapper Rows.readerBodiesRow.mainSum := by unfold Func.isWrapper; first | (rw [if_pos (by decide +kernel)]; kernel_rfl) | (rw [if_neg (by decide +kernel)]; exact ⟨rfl, rfl⟩)
theorem text_is : Rows.readerBodiesRow.wfByText (OpenSpec.ofChange Rows.readerBodiesSpec) = true := by kernel_rfl
theorem goes_is : false = Rows.readerBodiesRow.goesBy Tryz.prog := by kernel_rfl
theorem id_is : Tryz.prog.funcNamed "footman/footmanlaw20.ReaderBodies" = some 21 := by kernel_rfl
end Go.Proofs.YtonlfplloenfcaaGreatDoor.readerBodiesFacts
