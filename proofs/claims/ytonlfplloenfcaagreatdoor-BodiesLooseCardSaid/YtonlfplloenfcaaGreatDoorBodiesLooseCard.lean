/-
  BodiesLoose: the row and its card.
-/
import Derived.Test.YtonlfplloenfcaaGreatDoorBodiesLoose
import Derived.Test.YtonlfplloenfcaaGreatDoorBodiesLooseFacts
import Derived.Test.YtonlfplloenfcaaGreatDoorOpenm
namespace Go.Proofs.YtonlfplloenfcaaGreatDoor.bodiesLooseDone
open Go.ChangeShapes Go.WideShapes Go.ChangeAt Go.RowKit Go.Deep
open Go.ChangeMaps (open_string shut_string)

set_option maxRecDepth 100000 in
theorem contract (H : Type) (enc : TypeId × Value → H) (W : World) (base : Nat) (args : Array Value) (ds gs : List (DataW H)) (before : List MemPlace)
    (hval : ∀ (j : Nat) t v, Tryz.f15.params[j]? = some t → args[j]? = some v → Value.okWide Tryz.prog W .any base t v)
    (hW : DataW.Whole enc Tryz.prog Tryz.f15.params.toList Rows.bodiesLooseSpec.vars false W args.toList ds gs before)
    (hsz : (DataW.weightsEach Tryz.prog (Tryz.f15.params.toList ++ Rows.bodiesLooseSpec.plain.varTypes Tryz.prog) (ds ++ gs)).all (· ≤ reachBytes) = true)
    (hL : laidMetH Tryz.prog Rows.bodiesLooseRow.laid W) (hsh : W.ShapedOpen Tryz.prog) :
    Calls Tryz.prog 15 args W fun e W' => ∃ v, e = .returned v ∧ Rows.bodiesLooseSpec.post enc Tryz.prog Tryz.f15 false true false false W args v W' := by
  have hW' := hW
  obtain ⟨p, q, hA0, hV, rfl, hfz, hnd⟩ := hW
  have hA : DataW.TrodAll enc Tryz.prog W 0 (fun _ => true) true Tryz.f15.params.toList args.toList ds p := hA0
  rw [Tryz.params15] at hA hval hsz
  obtain ⟨v0, vs0, d0, ds0, p0, q0, hargs, rfl, rfl, h0, r0⟩ := trodAll_cons hA
  obtain ⟨v1, vs1, d1, ds1, p1, q1, rfl, rfl, rfl, h1, r1⟩ := trodAll_cons r0
  obtain ⟨v2, vs2, d2, ds2, p2, q2, rfl, rfl, rfl, h2, r2⟩ := trodAll_cons r1
  obtain ⟨rfl, rfl, rfl⟩ := trodAll_nil r2
  obtain rfl : args = #[v0, v1, v2] := by cases args; simp_all
  obtain ⟨rfl, rfl⟩ := trodVars_none hV
  have k0 := h0
  have lt0 : ∀ x ∈ p0, x.block < W.heap.size := by obtain ⟨m, hm⟩ := k0; exact DataW.trod_lt m _ _ _ hm
  obtain ⟨A0, n0, c0, rfl⟩ := okWide_slice Tryz.underlying23 (hval 0 23 v0 (by simp) (by simp))
  obtain ⟨hc0, l0, hl0, hn0⟩ := (by obtain ⟨fuel, hf⟩ := h0; exact open_byte_list (x := (d0, p0)) hf lt0 (fun k hk => by
      have := List.all_eq_true.1 hsz k (DataW.weights_mem_each (j := 0) (t := 23) (d := d0) rfl rfl k hk)
      simpa using this) : n0 ≤ c0 ∧ ∃ l : List UInt8, Lies W W.heap.size A0 n0 (Lib.byteCells l) ∧ n0 ≤ 140737488355328)
  obtain ⟨s1, rfl, rfl, rfl, hs1⟩ := open_string Tryz.underlying9 (hval 1 9 v1 (by simp) (by simp)) h1
  have hz1 : s1.size ≤ 140737488355328 := reach_size (sized_string hsz (j := 1) (t := 9) rfl rfl)
  obtain ⟨z2, rfl, rfl, rfl, w2⟩ := open_int Tryz.underlying5 (hval 2 5 v2 rfl rfl) h2
  have hp : PowTab W := pow_of hL (by kernel_rfl)
  have hm : MaxOk W := max_of hsh
  clear hA0
  obtain ⟨zn, rfl, hzn⟩ : ∃ zn : Nat, z2 = (zn : Int) ∧ zn < 256 := by
    have hw := w2
    simp [Lit.wf, IntKind.min, IntKind.max, IntKind.signed, IntKind.bits] at hw
    exact ⟨z2.toNat, by omega, by omega⟩
  have htb := tab64_of hL (by kernel_rfl)
  refine (bodiesloose_any A0 n0 c0 zn s1 l0 W hl0 hn0 hz1 hzn hm (maxG_lt hm) htb (cell_lt htb)).mono fun e W' ⟨he, bel⟩ => ?_
  subst he
  exact ⟨_, rfl, _, _, _, [], _, [], hW', trodAll_mk1 (shut_bool Tryz.underlying4 _), (trodAll_cons_mk (Below.trod laidOut_is (by kernel_rfl) (of_decide_eq_true (by kernel_rfl)) k0 bel lt0) (trodAll_cons_mk (shut_string Tryz.underlying9 hs1) (trodAll_cons_mk (shut_int Tryz.underlying5 w2) trodAll_mk0))), rfl, bel.frame _, fun h => by cases h⟩

theorem laid_met (os : Os) : laidMet Tryz.prog Rows.bodiesLooseRow.laid ((laidAll os).forCall (fun _ _ => 0) ⟨#[], #[.slice none 0 0, .string ⟨#[]⟩, .int .u8 0], []⟩).memory :=
  laidMet_of_run' 8 (by kernel_rfl) (by kernel_rfl)
theorem reads (os : Os) {H : Type} (enc : TypeId × Value → H) : ∃ places, DataW.whole enc Tryz.prog ((laidAll os).forCall (fun _ _ => 0) ⟨#[], #[.slice none 0 0, .string ⟨#[]⟩, .int .u8 0], []⟩).memory Tryz.f15.params.toList Rows.bodiesLooseSpec.vars false #[Value.slice none 0 0, .string ⟨#[]⟩, .int .u8 0].toList 8 = some ([.nil, .lit (.string []), .lit (.int .u8 0)], [], places) :=
  ⟨[], by kernel_rfl⟩

set_option maxRecDepth 100000 in
theorem lifted (os : Os) (started : os.Started) (H : Type) (enc : TypeId × Value → H) (F : Stop.Interp) :
    ReturnsInHanded {} Tryz.checked os 15 .any ((OpenSpec.ofChange Rows.bodiesLooseSpec).preRow enc Tryz.prog Tryz.f15 Rows.bodiesLooseRow.domain false Rows.bodiesLooseRow.laid) (((OpenSpec.ofChange Rows.bodiesLooseSpec).at F).post enc Tryz.prog Tryz.f15 false true false false) := by
  obtain ⟨places, hx⟩ := reads os enc
  refine returnsInHanded_of_row (C := Tryz.checked) (s := OpenSpec.ofChange Rows.bodiesLooseSpec) ownKnob_is started (by kernel_rfl) Tryz.func15
    (witness_row_at (enc := enc) (C := Tryz.checked) false (laidAll os) #[.slice none 0 0, .string ⟨#[]⟩, .int .u8 0] rfl (by kernel_rfl) (by kernel_rfl) (by kernel_rfl)
      (OpenSpec.preRow_of_cond 8 hx (by kernel_rfl) (fun k hk => by cases hk) (by kernel_rfl) (laid_met os))) ?_
  intro W base args ds gs before hval hW _ _ hsz hL hsh _
  exact contract H enc W base args ds gs before hval hW hsz hL hsh

set_option maxRecDepth 100000 in
theorem said : Rows.BodiesLooseSaid :=
  OpenClaim.holds_of_cond 15 Tryz.f15 rfl rfl rfl rfl rfl rfl rfl ⟨rfl, rfl, rfl, rfl, rfl⟩ rfl rfl rfl rfl rfl bodiesLooseFacts.id_is Tryz.func15 bodiesLooseFacts.closed
    bodiesLooseFacts.instance_is bodiesLooseFacts.wrapper_is
    (fun os started H enc _ F => by rw [OpenClaim.pre_eq_preRow]; exact lifted os started H enc F)

set_option maxRecDepth 100000 in
theorem plain (f : FuncId) (fn : Func) (hf : Tryz.pinned.checked.prog.funcNamed "footman/footmanlaw13.BodiesLoose" = some f) (hfn : Tryz.pinned.checked.prog.funcs[f]? = some fn) :
    true = Tryz.pinned.checked.prog.looks [] ∧ ∀ (j : Nat) t, fn.params[j]? = some t → Tryz.pinned.checked.prog.wantsStandIn t = false := by
  obtain rfl : f = 15 := Option.some.inj (bodiesLooseFacts.id_is.symm.trans hf) |>.symm
  obtain rfl : fn = Tryz.f15 := (Option.some.inj (Tryz.func15.symm.trans hfn)).symm
  refine ⟨by kernel_rfl, fun j t ht => ?_⟩
  rw [Tryz.params15] at ht
  have hm := Array.mem_of_getElem? ht
  simp at hm
  rcases hm with rfl | rfl | rfl
  · exact (show Tryz.prog.wantsStandIn 23 = false by kernel_rfl)
  · exact (show Tryz.prog.wantsStandIn 9 = false by kernel_rfl)
  · exact (show Tryz.prog.wantsStandIn 5 = false by kernel_rfl)

set_option maxRecDepth 100000 in
/-- The statement. -/
theorem card : Rows.BodiesLooseCardSaid :=
  Claim7.holds_tied_plain_at .later [] _ _ _ _ said (fun _ h => by cases h) bodiesLooseFacts.text_is (fun _ h => by cases h) bodiesLoose_row_tie rfl ⟨rfl, rfl⟩ main_is rfl plain bodiesLooseFacts.goes_is
end Go.Proofs.YtonlfplloenfcaaGreatDoor.bodiesLooseDone
