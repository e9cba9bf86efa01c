/-
  ReaderBodies: the row and its card.
-/
import Derived.Test.YtonlfplloenfcaaGreatDoorDig13Etc
import Derived.Test.YtonlfplloenfcaaGreatDoorReaderBodiesFacts
import Derived.Test.YtonlfplloenfcaaGreatDoorOpeneEtc
namespace Go.Proofs.YtonlfplloenfcaaGreatDoor.readerBodiesDone
open Go.ChangeShapes Go.WideShapes Go.ChangeAt Go.RowKit Go.Deep
open Go.ChangeMaps (open_string shut_string)

set_option maxRecDepth 100000 in
theorem contract (H : Type) (enc : TypeId × Value → H) (W : World) (base : Nat) (args : Array Value) (ds gs : List (DataW H)) (before : List MemPlace)
    (hval : ∀ (j : Nat) t v, Tryz.f21.params[j]? = some t → args[j]? = some v → Value.okWide Tryz.prog W .any base t v)
    (hW : DataW.Whole enc Tryz.prog Tryz.f21.params.toList Rows.readerBodiesSpec.vars false W args.toList ds gs before)
    (hsz : (DataW.weightsEach Tryz.prog (Tryz.f21.params.toList ++ Rows.readerBodiesSpec.plain.varTypes Tryz.prog) (ds ++ gs)).all (· ≤ reachBytes) = true)
    (hL : laidMetH Tryz.prog Rows.readerBodiesRow.laid W) (hsh : W.ShapedOpen Tryz.prog) :
    Calls Tryz.prog 21 args W fun e W' => ∃ v, e = .returned v ∧ Rows.readerBodiesSpec.post enc Tryz.prog Tryz.f21 false true false false W args v W' := by
  have hW' := hW
  obtain ⟨p, q, hA0, hV, rfl, hfz, hnd⟩ := hW
  have hA : DataW.TrodAll enc Tryz.prog W 0 (fun _ => true) true Tryz.f21.params.toList args.toList ds p := hA0
  rw [Tryz.params21] at hA hval hsz
  obtain ⟨v0, vs0, d0, ds0, p0, q0, hargs, rfl, rfl, h0, r0⟩ := trodAll_cons hA
  obtain ⟨rfl, rfl, rfl⟩ := trodAll_nil r0
  obtain rfl : args = #[v0] := by cases args; simp_all
  obtain ⟨rfl, rfl⟩ := trodVars_none hV
  have k0 := h0
  have lt0 : ∀ x ∈ p0, x.block < W.heap.size := by obtain ⟨m, hm⟩ := k0; exact DataW.trod_lt m _ _ _ hm
  obtain ⟨A0, B0, n0, c0, m0, e0, x0, y0, l0, bb0, rfl, hc0, hl0, hn0, hL0, hm0, hx0, hy0⟩ := open_body (hval 0 104 v0 rfl rfl) h0 lt0 (fun k hk => by
      have := List.all_eq_true.1 hsz k (DataW.weights_mem_each (j := 0) (t := 104) (d := d0) rfl rfl k hk)
      simpa using this)
  have hp : PowTab W := pow_of hL (by kernel_rfl)
  have hm : MaxOk W := max_of hsh
  have he : ErrOk W := err_of hL (by kernel_rfl)
  clear hA0
  have htb := tab64_of hL (by kernel_rfl)
  refine (readerbodies_any A0 B0 n0 c0 m0 e0 x0 y0 l0 bb0 W hc0 hl0 hn0 hL0 hm0 hx0 hy0 hm (maxG_lt hm) he (errG_lt he) htb (cell_lt htb)).mono fun e W' ⟨he', bel⟩ => ?_
  have he := he'
  subst he
  exact ⟨_, rfl, _, _, _, [], _, [], hW', trodAll_mk1 (shut_bool Tryz.underlying4 _), (trodAll_cons_mk (Below.trod laidOut_is (by kernel_rfl) (of_decide_eq_true (by kernel_rfl)) k0 bel lt0) trodAll_mk0), rfl, bel.frame _, fun h => by cases h⟩

theorem laid_met (os : Os) : laidMet Tryz.prog Rows.readerBodiesRow.laid ((laidAll os).forCall (fun _ _ => 0) ⟨#[], #[.agg #[.slice none 0 0, .slice none 0 0, .int .u8 0, .int .u8 0]], []⟩).memory :=
  laidMet_of_run' 8 (by kernel_rfl) (by kernel_rfl)
theorem reads (os : Os) {H : Type} (enc : TypeId × Value → H) : ∃ places, DataW.whole enc Tryz.prog ((laidAll os).forCall (fun _ _ => 0) ⟨#[], #[.agg #[.slice none 0 0, .slice none 0 0, .int .u8 0, .int .u8 0]], []⟩).memory Tryz.f21.params.toList Rows.readerBodiesSpec.vars false #[Value.agg #[.slice none 0 0, .slice none 0 0, .int .u8 0, .int .u8 0]].toList 8 = some ([.agg [.nil, .nil, .lit (.int .u8 0), .lit (.int .u8 0)]], [], places) :=
  ⟨[], by kernel_rfl⟩

set_option maxRecDepth 100000 in
theorem lifted (os : Os) (started : os.Started) (H : Type) (enc : TypeId × Value → H) (F : Stop.Interp) :
    ReturnsInHanded {} Tryz.checked os 21 .any ((OpenSpec.ofChange Rows.readerBodiesSpec).preRow enc Tryz.prog Tryz.f21 Rows.readerBodiesRow.domain false Rows.readerBodiesRow.laid) (((OpenSpec.ofChange Rows.readerBodiesSpec).at F).post enc Tryz.prog Tryz.f21 false true false false) := by
  obtain ⟨places, hx⟩ := reads os enc
  refine returnsInHanded_of_row (C := Tryz.checked) (s := OpenSpec.ofChange Rows.readerBodiesSpec) ownKnob_is started (by kernel_rfl) Tryz.func21
    (witness_row_at (enc := enc) (C := Tryz.checked) false (laidAll os) #[.agg #[.slice none 0 0, .slice none 0 0, .int .u8 0, .int .u8 0]] rfl (by kernel_rfl) (by kernel_rfl) (by kernel_rfl)
      (OpenSpec.preRow_of_cond 8 hx (by kernel_rfl) (fun k hk => by cases hk) (by kernel_rfl) (laid_met os))) ?_
  intro W base args ds gs before hval hW _ _ hsz hL hsh _
  exact contract H enc W base args ds gs before hval hW hsz hL hsh

set_option maxRecDepth 100000 in
theorem said : Rows.ReaderBodiesSaid :=
  OpenClaim.holds_of_cond 21 Tryz.f21 rfl rfl rfl rfl rfl rfl rfl ⟨rfl, rfl, rfl, rfl, rfl⟩ rfl rfl rfl rfl rfl readerBodiesFacts.id_is Tryz.func21 readerBodiesFacts.closed
    readerBodiesFacts.instance_is readerBodiesFacts.wrapper_is
    (fun os started H enc _ F => by rw [OpenClaim.pre_eq_preRow]; exact lifted os started H enc F)

set_option maxRecDepth 100000 in
theorem plain (f : FuncId) (fn : Func) (hf : Tryz.pinned.checked.prog.funcNamed "footman/footmanlaw20.ReaderBodies" = some f) (hfn : Tryz.pinned.checked.prog.funcs[f]? = some fn) :
    true = Tryz.pinned.checked.prog.looks [] ∧ ∀ (j : Nat) t, fn.params[j]? = some t → Tryz.pinned.checked.prog.wantsStandIn t = false := by
  obtain rfl : f = 21 := Option.some.inj (readerBodiesFacts.id_is.symm.trans hf) |>.symm
  obtain rfl : fn = Tryz.f21 := (Option.some.inj (Tryz.func21.symm.trans hfn)).symm
  refine ⟨by kernel_rfl, fun j t ht => ?_⟩
  rw [Tryz.params21] at ht
  have hm := Array.mem_of_getElem? ht
  simp at hm
  subst hm
  exact (show Tryz.prog.wantsStandIn 104 = false by kernel_rfl)

set_option maxRecDepth 100000 in
/-- The statement. -/
theorem card : Rows.ReaderBodiesCardSaid :=
  Claim7.holds_tied_plain_at .later [] _ _ _ _ said (fun _ h => by cases h) readerBodiesFacts.text_is (fun _ h => by cases h) readerBodies_row_tie rfl ⟨rfl, rfl⟩ main_is rfl plain readerBodiesFacts.goes_is
end Go.Proofs.YtonlfplloenfcaaGreatDoor.readerBodiesDone
