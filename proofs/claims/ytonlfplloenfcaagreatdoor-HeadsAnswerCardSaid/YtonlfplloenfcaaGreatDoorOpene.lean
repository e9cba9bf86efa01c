/-
  The library's error of a number that is none: some error, in every world that a claim speaks of which lists it.
-/
import Derived.Test.YtonlfplloenfcaaGreatDoorOpenm
import Derived.Test.YtonlfplloenfcaaGreatDoorResponse
import Derived.LaidLaws
namespace Go.Proofs.YtonlfplloenfcaaGreatDoor
open Go.RowKit

theorem err_of {l : List (String × DataW Unit)} {W : World} (h : laidMetH Tryz.prog l W) (he : l.filter (fun x => x.1 == "strconv.ErrSyntax") = [("strconv.ErrSyntax", Rows.laid_strconv_ErrSyntax)]) : ErrOk W := by
  have h2 := h.filter (fun x => x.1 == "strconv.ErrSyntax")
  rw [he] at h2
  obtain ⟨ps, ⟨g0, t0, cs0, f0, p0, q0, hg0, ht0, hv0, hd0, _, e0⟩, _, hrows⟩ := (laidMetH_iff.1 h2).1
  obtain rfl := Option.some.inj (errG_is.symm.trans hg0)
  have ht : (Tryz.prog.globals[errG]?).map (·.type) = some 116 := by kernel_rfl
  obtain rfl := Option.some.inj (ht.symm.trans ht0)
  obtain ⟨f1, u, v, hcs, hn, h1⟩ := iface_of_trod Tryz.underlying116 hd0
  unfold World.var? at hv0
  rw [errG_is] at hv0
  have hv1 : (match W.heap[errG]? with | some (.cells cs _ _) => some cs | _ => none) = some cs0 := hv0
  cases hh : W.heap[errG]? with
  | none => rw [hh] at hv1; cases hv1
  | some o =>
    rw [hh] at hv1
    cases o with
    | cells cs t f =>
      injection hv1 with hv1
      subst hv1
      have e : cs = #[.iface u v] := by cases cs; simp_all
      exact ⟨u, v, t, f, by rw [hh, e]⟩
    | _ => cases hv1
theorem errG_lt {W : World} (h : ErrOk W) : errG < W.heap.size := by
  obtain ⟨tp, p, t, f, h⟩ := h
  exact (Array.getElem?_eq_some_iff.1 h).1
end Go.Proofs.YtonlfplloenfcaaGreatDoor
