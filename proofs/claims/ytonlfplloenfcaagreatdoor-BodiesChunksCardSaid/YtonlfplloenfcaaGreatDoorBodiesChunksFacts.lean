/-
  BodiesChunks: the closed facts of its row, one theorem each.
-/
import Derived.Test.YtonlfplloenfcaaGreatDoorWhole
namespace Go.Proofs.YtonlfplloenfcaaGreatDoor.bodiesChunksFacts
open Go.ChangeShapes Go.WideShapes Go.ChangeAt Go.RowKit Go.Deep
theorem wf_is : Rows.bodiesChunksRow.wf (OpenSpec.ofChange Rows.bodiesChunksSpec) = true := by kernel_rfl
theorem params_is : Tryz.f5.params.all (Tryz.prog.readableRec ·) = true := by kernel_rfl
theorem tie_is : namedTie Tryz.prog Rows.bodiesChunksRow.named Rows.bodiesChunksSpec.vars = true := by kernel_rfl
theorem stops_is : (Rows.bodiesChunksRow.stops == []) = true := by kernel_rfl
theorem pstops_is : (Tryz.prog.stops == []) = true := by kernel_rfl
theorem knobs_is : (Rows.bodiesChunksRow.knobs == []) = true := by kernel_rfl
theorem pknobs_is : (Tryz.prog.stopKnobs == []) = true := by kernel_rfl
theorem inPlace_is : (Rows.bodiesChunksRow.inPlace == Tryz.prog.inPlace 5) = true := by kernel_rfl
theorem unfollowed_is : (Rows.bodiesChunksRow.unfollowed == Tryz.prog.unfollowed 5) = true := by kernel_rfl
theorem recurses_is : (Rows.bodiesChunksRow.recurses == Tryz.prog.recurses 5) = true := by kernel_rfl
theorem named_is : (Rows.bodiesChunksRow.named == Tryz.prog.varsNamed 5) = true := by kernel_rfl
theorem maps_is : (Rows.bodiesChunksRow.maps == (Tryz.f5.params.toList ++ Rows.bodiesChunksSpec.plain.varTypes Tryz.prog).any (Tryz.prog.mapsRec ·)) = true := by kernel_rfl
theorem ifaces_is : (Rows.bodiesChunksRow.ifaces == (Tryz.f5.params.toList ++ Rows.bodiesChunksSpec.plain.varTypes Tryz.prog).any (Tryz.prog.ifacesRec ·)) = true := by kernel_rfl
theorem mapsOut_is : (Rows.bodiesChunksRow.mapsOut == Tryz.prog.mapsAmong Tryz.f5.resultTypes.toList) = true := by kernel_rfl
theorem loops_is : (Rows.bodiesChunksRow.loops == (Tryz.f5.params.toList ++ Rows.bodiesChunksSpec.plain.varTypes Tryz.prog).any (Tryz.prog.loopsFrom ·)) = true := by kernel_rfl
theorem wideKeys_is : (Rows.bodiesChunksRow.wideKeys == (Tryz.f5.params.toList ++ Rows.bodiesChunksSpec.plain.varTypes Tryz.prog ++ Tryz.f5.resultTypes.toList).any (Tryz.prog.wideKeysFrom ·)) = true := by kernel_rfl
theorem vars_is : Rows.bodiesChunksSpec.vars.all (Tryz.prog.varReadable ·) = true := by kernel_rfl
theorem results_is : Tryz.f5.resultTypes.all (fun t => Tryz.prog.readableRec t && decide (t < Tryz.prog.types.size)) = true := by kernel_rfl
theorem ifacesOut_is : (Rows.bodiesChunksRow.ifacesOut == Tryz.f5.resultTypes.toList.any (Tryz.prog.ifacesRec ·)) = true := by kernel_rfl
theorem loopsOut_is : (Rows.bodiesChunksRow.loopsOut == Tryz.f5.resultTypes.toList.any (Tryz.prog.loopsFrom ·)) = true := by kernel_rfl
theorem shortTexts_is : Rows.bodiesChunksRow.shortTexts.isNone = true := by kernel_rfl
theorem kinds_is : (Rows.bodiesChunksRow.kinds == (if Rows.bodiesChunksRow.domain.isEmpty then [] else Tryz.f5.params.toList.map fun t => match Tryz.prog.underlying t with | some (.int k) => some k | _ => none)) = true := by kernel_rfl
theorem pinned_is : (Rows.bodiesChunksRow.pinned == Rows.bodiesChunksRow.pinnedBy) = true := by kernel_rfl
theorem veiled_is : (Rows.bodiesChunksRow.veiled == (Tryz.f5.params.toList ++ Rows.bodiesChunksSpec.plain.varTypes Tryz.prog ++ Tryz.f5.resultTypes.toList).any (Tryz.prog.veiledRec ·)) = true := by kernel_rfl
theorem veiledFits_is : Rows.bodiesChunksRow.veiledFits Tryz.prog Tryz.f5.params.toList (Tryz.f5.params.toList ++ Rows.bodiesChunksSpec.plain.varTypes Tryz.prog ++ Tryz.f5.resultTypes.toList) = true := by kernel_rfl
set_option maxRecDepth 100000 in
theorem closed : joinedFacts Tryz.prog 5 Tryz.f5 Rows.bodiesChunksSpec Rows.bodiesChunksRow = true := by
  unfold joinedFacts
  exact and_i (and_i (and_i (and_i (and_i (and_i (and_i (and_i (and_i (and_i (and_i (and_i (and_i (and_i (and_i (and_i (and_i (and_i (and_i (and_i (and_i (and_i (and_i (and_i (and_i (and_i (and_i (and_i (and_i (and_i (and_i (wf_is) laidOut_is) maps_rowed) params_is) tie_is) stops_is) pstops_is) knobs_is) pknobs_is) inPlace_is) unfollowed_is) recurses_is) named_is) maps_is) ifaces_is) mapsOut_is) loops_is) wideKeys_is) vars_is) results_is) ifacesOut_is) loopsOut_is) plain_keys) shortTexts_is) stops_heard) may_enter) lifts_final) make_is) kinds_is) pinned_is) veiled_is) veiledFits_is
theorem instance_is : Tryz.f5.isInstance Tryz.prog Rows.bodiesChunksRow.origin Rows.bodiesChunksRow.targs := of_decide_eq_true (by kernel_rfl)
theorem wrapper_is : Tryz.f5.isWrapper Tryz.prog Rows.bodiesChunksRow.wrapper Rows.bodiesChunksRow.mainSum := by unfold Func.isWrapper; first | (rw [if_pos (by decide +kernel)]; kernel_rfl) | (rw [if_neg (by decide +kernel)]; exact ⟨rfl, rfl⟩)
theorem text_is : Rows.bodiesChunksRow.wfByText (OpenSpec.ofChange Rows.bodiesChunksSpec) = true := by kernel_rfl
theorem goes_is : false = Rows.bodiesChunksRow.goesBy Tryz.prog := by kernel_rfl
theorem id_is : Tryz.prog.funcNamed "footman/footmanlaw13.BodiesChunks" = some 5 := by kernel_rfl
end Go.Proofs.YtonlfplloenfcaaGreatDoor.bodiesChunksFacts
