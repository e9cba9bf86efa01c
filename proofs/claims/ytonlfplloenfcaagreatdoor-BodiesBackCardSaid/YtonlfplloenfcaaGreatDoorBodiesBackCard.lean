/-
  BodiesBack: the row and its card.
-/
import Derived.Test.YtonlfplloenfcaaGreatDoorBodiesBack
import Derived.Test.YtonlfplloenfcaaGreatDoorBodiesBackFacts
import Derived.Test.YtonlfplloenfcaaGreatDoorOpenv
namespace Go.Proofs.YtonlfplloenfcaaGreatDoor.bodiesBackDone
open Go.ChangeShapes Go.WideShapes Go.ChangeAt Go.RowKit Go.Deep
open Go.ChangeMaps (open_string shut_string)

set_option maxRecDepth 100000 in
theorem contract (H : Type) (enc : TypeId × Value → H) (W : World) (base : Nat) (args : Array Value) (ds gs : List (DataW H)) (before : List MemPlace)
    (hval : ∀ (j : Nat) t v, Tryz.f13.params[j]? = some t → args[j]? = some v → Value.okWide Tryz.prog W .any base t v)
    (hW : DataW.Whole enc Tryz.prog Tryz.f13.params.toList Rows.bodiesBackSpec.vars false W args.toList ds gs before)
    (hsz : (DataW.weightsEach Tryz.prog (Tryz.f13.params.toList ++ Rows.bodiesBackSpec.plain.varTypes Tryz.prog) (ds ++ gs)).all (· ≤ reachBytes) = true)
    (hL : laidMetH Tryz.prog Rows.bodiesBackRow.laid W) (hsh : W.ShapedOpen Tryz.prog) :
    Calls Tryz.prog 13 args W fun e W' => ∃ v, e = .returned v ∧ Rows.bodiesBackSpec.post enc Tryz.prog Tryz.f13 false true false false W args v W' := by
  have hW' := hW
  obtain ⟨p, q, hA0, hV, rfl, hfz, hnd⟩ := hW
  have hA : DataW.TrodAll enc Tryz.prog W 0 (fun _ => true) true Tryz.f13.params.toList args.toList ds p := hA0
  rw [Tryz.params13] at hA hval hsz
  obtain ⟨v0, vs0, d0, ds0, p0, q0, hargs, rfl, rfl, h0, r0⟩ := trodAll_cons hA
  obtain ⟨v1, vs1, d1, ds1, p1, q1, rfl, rfl, rfl, h1, r1⟩ := trodAll_cons r0
  obtain ⟨v2, vs2, d2, ds2, p2, q2, rfl, rfl, rfl, h2, r2⟩ := trodAll_cons r1
  obtain ⟨rfl, rfl, rfl⟩ := trodAll_nil r2
  obtain rfl : args = #[v0, v1, v2] := by cases args; simp_all
  obtain ⟨rfl, rfl⟩ := trodVars_none hV
  have k0 := h0
  have lt0 : ∀ x ∈ p0, x.block < W.heap.size := by obtain ⟨m, hm⟩ := k0; exact DataW.trod_lt m _ _ _ hm
  obtain ⟨A0, n0, c0, rfl⟩ := okWide_slice Tryz.underlying23 (hval 0 23 v0 (by simp) (by simp))
  obtain ⟨hc0, l0, hl0, hn0⟩ := (by obtain ⟨fuel, hf⟩ := h0; exact open_byte_list (x := (d0, p0)) hf lt0 (fun k hk => by
      have := List.all_eq_true.1 hsz k (DataW.weights_mem_each (j := 0) (t := 23) (d := d0) rfl rfl k hk)
      simpa using this) : n0 ≤ c0 ∧ ∃ l : List UInt8, Lies W W.heap.size A0 n0 (Lib.byteCells l) ∧ n0 ≤ 140737488355328)
  have k1 := h1
  have lt1 : ∀ x ∈ p1, x.block < W.heap.size := by obtain ⟨m, hm⟩ := k1; exact DataW.trod_lt m _ _ _ hm
  obtain ⟨x1, y1, rfl, hx1, hy1⟩ := open_u16x2 (hval 1 74 v1 rfl rfl) h1
  have k2 := h2
  have lt2 : ∀ x ∈ p2, x.block < W.heap.size := by obtain ⟨m, hm⟩ := k2; exact DataW.trod_lt m _ _ _ hm
  obtain ⟨A2, n2, c2, rfl⟩ := okWide_slice Tryz.underlying23 (hval 2 23 v2 (by simp) (by simp))
  obtain ⟨hc2, l2, hl2, hn2⟩ := (by obtain ⟨fuel, hf⟩ := h2; exact open_byte_list (x := (d2, p2)) hf lt2 (fun k hk => by
      have := List.all_eq_true.1 hsz k (DataW.weights_mem_each (j := 2) (t := 23) (d := d2) rfl rfl k hk)
      simpa using this) : n2 ≤ c2 ∧ ∃ l : List UInt8, Lies W W.heap.size A2 n2 (Lib.byteCells l) ∧ n2 ≤ 140737488355328)
  have hp : PowTab W := pow_of hL (by kernel_rfl)
  have hm : MaxOk W := max_of hsh
  clear hA0
  have htb := tab64_of hL (by kernel_rfl)
  refine (bodiesback_any A0 A2 n0 c0 n2 c2 x1 y1 l0 l2 W hc0 hl0 hn0 hl2 hn2 hx1 hy1 hm (maxG_lt hm) htb (cell_lt htb)).mono fun e W' ⟨he, bel⟩ => ?_
  subst he
  exact ⟨_, rfl, _, _, _, [], _, [], hW', trodAll_mk1 (shut_bool Tryz.underlying4 _), (trodAll_cons_mk (Below.trod laidOut_is (by kernel_rfl) (of_decide_eq_true (by kernel_rfl)) k0 bel lt0) (trodAll_cons_mk (Below.trod laidOut_is (by kernel_rfl) (of_decide_eq_true (by kernel_rfl)) k1 bel lt1) (trodAll_cons_mk (Below.trod laidOut_is (by kernel_rfl) (of_decide_eq_true (by kernel_rfl)) k2 bel lt2) trodAll_mk0))), rfl, bel.frame _, fun h => by cases h⟩

theorem laid_met (os : Os) : laidMet Tryz.prog Rows.bodiesBackRow.laid ((laidAll os).forCall (fun _ _ => 0) ⟨#[], #[.slice none 0 0, .agg #[.int .u16 0, .int .u16 0], .slice none 0 0], []⟩).memory :=
  laidMet_of_run' 8 (by kernel_rfl) (by kernel_rfl)
theorem reads (os : Os) {H : Type} (enc : TypeId × Value → H) : ∃ places, DataW.whole enc Tryz.prog ((laidAll os).forCall (fun _ _ => 0) ⟨#[], #[.slice none 0 0, .agg #[.int .u16 0, .int .u16 0], .slice none 0 0], []⟩).memory Tryz.f13.params.toList Rows.bodiesBackSpec.vars false #[Value.slice none 0 0, .agg #[.int .u16 0, .int .u16 0], .slice none 0 0].toList 8 = some ([.nil, .agg [.lit (.int .u16 0), .lit (.int .u16 0)], .nil], [], places) :=
  ⟨[], by kernel_rfl⟩

set_option maxRecDepth 100000 in
theorem lifted (os : Os) (started : os.Started) (H : Type) (enc : TypeId × Value → H) (F : Stop.Interp) :
    ReturnsInHanded {} Tryz.checked os 13 .any ((OpenSpec.ofChange Rows.bodiesBackSpec).preRow enc Tryz.prog Tryz.f13 Rows.bodiesBackRow.domain false Rows.bodiesBackRow.laid) (((OpenSpec.ofChange Rows.bodiesBackSpec).at F).post enc Tryz.prog Tryz.f13 false true false false) := by
  obtain ⟨places, hx⟩ := reads os enc
  refine returnsInHanded_of_row (C := Tryz.checked) (s := OpenSpec.ofChange Rows.bodiesBackSpec) ownKnob_is started (by kernel_rfl) Tryz.func13
    (witness_row_at (enc := enc) (C := Tryz.checked) false (laidAll os) #[.slice none 0 0, .agg #[.int .u16 0, .int .u16 0], .slice none 0 0] rfl (by kernel_rfl) (by kernel_rfl) (by kernel_rfl)
      (OpenSpec.preRow_of_cond 8 hx (by kernel_rfl) (fun k hk => by cases hk) (by kernel_rfl) (laid_met os))) ?_
  intro W base args ds gs before hval hW _ _ hsz hL hsh _
  exact contract H enc W base args ds gs before hval hW hsz hL hsh

set_option maxRecDepth 100000 in
theorem said : Rows.BodiesBackSaid :=
  OpenClaim.holds_of_cond 13 Tryz.f13 rfl rfl rfl rfl rfl rfl rfl ⟨rfl, rfl, rfl, rfl, rfl⟩ rfl rfl rfl rfl rfl bodiesBackFacts.id_is Tryz.func13 bodiesBackFacts.closed
    bodiesBackFacts.instance_is bodiesBackFacts.wrapper_is
    (fun os started H enc _ F => by rw [OpenClaim.pre_eq_preRow]; exact lifted os started H enc F)

set_option maxRecDepth 100000 in
theorem plain (f : FuncId) (fn : Func) (hf : Tryz.pinned.checked.prog.funcNamed "footman/footmanlaw13.BodiesBack" = some f) (hfn : Tryz.pinned.checked.prog.funcs[f]? = some fn) :
    true = Tryz.pinned.checked.prog.looks [] ∧ ∀ (j : Nat) t, fn.params[j]? = some t → Tryz.pinned.checked.prog.wantsStandIn t = false := by
  obtain rfl : f = 13 := Option.some.inj (bodiesBackFacts.id_is.symm.trans hf) |>.symm
  obtain rfl : fn = Tryz.f13 := (Option.some.inj (Tryz.func13.symm.trans hfn)).symm
  refine ⟨by kernel_rfl, fun j t ht => ?_⟩
  rw [Tryz.params13] at ht
  have hm := Array.mem_of_getElem? ht
  simp at hm
  rcases hm with rfl | rfl | rfl
  · exact (show Tryz.prog.wantsStandIn 23 = false by kernel_rfl)
  · exact (show Tryz.prog.wantsStandIn 74 = false by kernel_rfl)
  · exact (show Tryz.prog.wantsStandIn 23 = false by kernel_rfl)

set_option maxRecDepth 100000 in
/-- The statement. -/
theorem card : Rows.BodiesBackCardSaid :=
  Claim7.holds_tied_plain_at .later [] _ _ _ _ said (fun _ h => by cases h) bodiesBackFacts.text_is (fun _ h => by cases h) bodiesBack_row_tie rfl ⟨rfl, rfl⟩ main_is rfl plain bodiesBackFacts.goes_is
end Go.Proofs.YtonlfplloenfcaaGreatDoor.bodiesBackDone
