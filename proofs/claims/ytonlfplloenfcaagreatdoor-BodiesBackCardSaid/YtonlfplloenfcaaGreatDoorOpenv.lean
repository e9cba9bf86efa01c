/-
  An argument that is an array of two small numbers, opened.
-/
import Derived.Test.YtonlfplloenfcaaGreatDoorOpenm
import Derived.WideKeyArr2
namespace Go.Proofs.YtonlfplloenfcaaGreatDoor
open Go.Joins Go.ChangeShapes Go.WideShapes Go.ChangeAt Go.RowKit Go.Deep

section
variable {H : Type} {enc : TypeId × Value → H} {P : Program} {w : World} {base : Nat} {spare : Nat → Bool} {held : Bool}
theorem trod_array2 {t e : TypeId} {fuel : Nat} {c0 c1 : Value} {x : DataW H × List MemPlace} (ht : P.underlying t = some (.array 2 e)) (hce : P.cellsOf e = 1)
    (h : DataW.trod enc P w base spare held fuel t [c0, c1] = some x) :
    ∃ y0 y1 n, x = (.agg [y0.1, y1.1], y0.2 ++ y1.2) ∧ DataW.trod enc P w base spare held n e [c0] = some y0 ∧ DataW.trod enc P w base spare held n e [c1] = some y1 := by
  cases fuel with
  | zero => simp [DataW.trod] at h
  | succ n =>
    unfold DataW.trod at h
    rw [ht] at h
    have r2 : List.range 2 = [0, 1] := rfl
    simp [r2, hce] at h
    obtain ⟨_, h⟩ := h
    cases h0 : DataW.trod enc P w base spare held n e [c0] with
    | none => simp [h0] at h
    | some y0 =>
      cases h1 : DataW.trod enc P w base spare held n e [c1] with
      | none => simp [h0, h1] at h
      | some y1 =>
        simp [h0, h1] at h
        exact ⟨y0, y1, n, h.symm, h0, h1⟩
end
theorem small_u16 {z : Int} (h : (Lit.int .u16 z).wf = true) : ∃ n : Nat, z = (n : Int) ∧ n < 65536 := by
  simp [Lit.wf, IntKind.min, IntKind.max, IntKind.signed, IntKind.bits] at h
  exact ⟨z.toNat, by omega, by omega⟩
set_option maxRecDepth 100000 in
theorem open_u16x2 {H : Type} {enc : TypeId × Value → H} {w : World} {b0 : Nat} {v : Value} {d : DataW H} {p : List MemPlace} (hv : Value.okWide Tryz.prog w .any b0 74 v) (h : DataW.Trod enc Tryz.prog w 0 (fun _ => true) true 74 v d p) :
    ∃ x0 x1 : Nat, v = .agg #[.int .u16 (x0 : Int), .int .u16 (x1 : Int)] ∧ x0 < 65536 ∧ x1 < 65536 := by
  obtain ⟨cs, rfl, hs⟩ := WideMaps.okWide_arr (P := Tryz.prog) (k := 74) (e := 60) (n := 2) ⟨Tryz.underlying74, by kernel_rfl, by kernel_rfl, by kernel_rfl⟩ hv
  obtain ⟨c0, c1, rfl⟩ := array2 hs
  obtain ⟨fuel, hf⟩ := h
  obtain ⟨y0, y1, n, _, h0, h1⟩ := trod_array2 Tryz.underlying74 (by kernel_rfl) hf
  obtain ⟨z0, e0, _, w0⟩ := DataW.trod_int Tryz.underlying60 h0
  obtain ⟨z1, e1, _, w1⟩ := DataW.trod_int Tryz.underlying60 h1
  simp only [List.cons.injEq, and_true] at e0 e1
  subst e0 e1
  obtain ⟨n0, rfl, h3⟩ := small_u16 w0
  obtain ⟨n1, rfl, h4⟩ := small_u16 w1
  exact ⟨n0, n1, rfl, h3, h4⟩
end Go.Proofs.YtonlfplloenfcaaGreatDoor
