/-
  heads.request: a request's first line.
-/
import Derived.Test.YtonlfplloenfcaaDoorToken
import Derived.Test.YtonlfplloenfcaaDoorOdd
import Derived.Test.YtonlfplloenfcaaDoorReads
import Derived.Test.YtonlfplloenfcaaDoorLinesIt
import Derived.Test.YtonlfplloenfcaaDoorTysEtc
import Derived.Lib.QuietBelow
import Derived.Deep.RegionHeld3
import Derived.Deep.DrawnRows
namespace Go.Proofs.YtonlfplloenfcaaDoor
open Go.RowKit
attribute [local go_sem] Oper.semAt_some

def FirstPost (K : Asks) (x : List UInt8) (g : Nat) (w : World) (e : Ending) (w' : World) : Prop :=
  e = .returned (.bool (K.ok x)) ∧ w.grownBy w' (some g) ∧ ∃ c0 c1 c2 : Value, Blk w' g 26 #[c0, c1, c2, .slice none 0 0, .slice none 0 0] ∧
    (K.ok x = true → c0 = .string (K.m x) ∧ c1 = .string (K.t x) ∧ c2 = .int .i64 (K.s x))

theorem grown_two {w : World} {g q : Nat} (v0 v1 : Value) : w.grownBy (((w.drewN q).setCell ⟨g, 0, none⟩ v0).setCell ⟨g, 1, none⟩ v1) (some g) :=
  ⟨rfl, rfl, rfl, by simp [World.setCell, World.drewN], fun k _ hk => (Below.heap_setCell _ _ _ _ (fun e => hk (by rw [e]))).trans (Below.heap_setCell (w.drewN q) _ _ _ (fun e => hk (by rw [e])))⟩
theorem grown_below {w W2 W3 : World} {row : Option Nat} (h : w.grownBy W2 row) (hb : Below W2.heap.size W2 W3) : w.grownBy W3 row :=
  ⟨hb.os.trans h.os, hb.tape.trans h.tape, hb.output.trans h.output, Nat.le_trans h.size hb.size, fun k hk hr => (hb.block k (Nat.lt_of_lt_of_le hk h.size)).trans (h.block k hk hr)⟩
theorem first_done {K : Asks} {x : List UInt8} {g : Nat} {w W2 W3 : World} {b : Bool} {c0 c1 c2 : Value} (hok : K.ok x = b) (hgr : w.grownBy W2 (some g)) (hk : Blk W2 g 26 #[c0, c1, c2, .slice none 0 0, .slice none 0 0])
    (hb : Below W2.heap.size W2 W3) (hv : b = true → c0 = .string (K.m x) ∧ c1 = .string (K.t x) ∧ c2 = .int .i64 (K.s x)) : FirstPost K x g w (.returned (.bool b)) W3 :=
  ⟨by rw [hok], grown_below hgr hb, c0, c1, c2, hk.below hb hk.lt, fun h => hv (hok.symm.trans h)⟩

end Go.Proofs.YtonlfplloenfcaaDoor

