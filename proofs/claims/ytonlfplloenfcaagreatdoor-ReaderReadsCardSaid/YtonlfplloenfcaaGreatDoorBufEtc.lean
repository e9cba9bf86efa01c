/-
  bytes.Buffer: how it is kept. Over any program.
  heads.request: a request's first line.
-/
import Derived.Test.YtonlfplloenfcaaGreatDoorMem
import Derived.Test.YtonlfplloenfcaaGreatDoorResultsEtc
import Derived.Test.YtonlfplloenfcaaGreatDoorShelf
import Derived.Lib.OthersKept
import Derived.RangeFuncNested
import Derived.Test.YtonlfplloenfcaaGreatDoorToken
import Derived.Test.YtonlfplloenfcaaGreatDoorOddEtc
import Derived.Test.YtonlfplloenfcaaGreatDoorFindEtc
import Derived.Test.YtonlfplloenfcaaGreatDoorWordEtc
import Derived.Lib.QuietBelow
import Derived.Deep.RegionHeld3
import Derived.Deep.DrawnRows
namespace Go.Proofs.YtonlfplloenfcaaGreatDoor
open Go.RowKit Go.Shelf

section
variable {T e : TypeId} {B b : Nat} {bs : List Value} {W W' : World}
theorem blk_grown {g : Nat} {t : TypeId} {cs : Array Value} {row : Option Nat} (h : Blk W g t cs) (hg : W.grownBy W' row) (hr : ∀ r, row = some r → ∃ o : Obj, W.heap[r]? = some o ∧ o.isCells = false) : Blk W' g t cs :=
  (hg.block g h.lt (fun e => by
    obtain ⟨o, h1, h2⟩ := hr g e.symm
    unfold Blk at h
    rw [h] at h1
    cases h1
    cases h2)).trans h
theorem keepsFrom_below (h : Below W.heap.size W W') (B : Nat) : KeepsFrom B W W' := ⟨h.size, fun k _ _ hk _ => (h.block k (Array.getElem?_eq_some_iff.1 hk).1).trans hk⟩
end
end Go.Proofs.YtonlfplloenfcaaGreatDoor
namespace Go.Proofs.YtonlfplloenfcaaGreatDoor
open Go.RowKit
attribute [local go_sem] Oper.semAt_some

def FirstPost (K : Asks) (x : List UInt8) (g : Nat) (w : World) (e : Ending) (w' : World) : Prop :=
  e = .returned (.bool (K.ok x)) ∧ w.grownBy w' (some g) ∧ ∃ c0 c1 c2 : Value, Blk w' g 25 #[c0, c1, c2, .slice none 0 0, .slice none 0 0] ∧
    (K.ok x = true → c0 = .string (K.m x) ∧ c1 = .string (K.t x) ∧ c2 = .int .i64 (K.s x))

theorem grown_below {w W2 W3 : World} {row : Option Nat} (h : w.grownBy W2 row) (hb : Below W2.heap.size W2 W3) : w.grownBy W3 row :=
  ⟨hb.os.trans h.os, hb.tape.trans h.tape, hb.output.trans h.output, Nat.le_trans h.size hb.size, fun k hk hr => (hb.block k (Nat.lt_of_lt_of_le hk h.size)).trans (h.block k hk hr)⟩
theorem first_done {K : Asks} {x : List UInt8} {g : Nat} {w W2 W3 : World} {b : Bool} {c0 c1 c2 : Value} (hok : K.ok x = b) (hgr : w.grownBy W2 (some g)) (hk : Blk W2 g 25 #[c0, c1, c2, .slice none 0 0, .slice none 0 0])
    (hb : Below W2.heap.size W2 W3) (hv : b = true → c0 = .string (K.m x) ∧ c1 = .string (K.t x) ∧ c2 = .int .i64 (K.s x)) : FirstPost K x g w (.returned (.bool b)) W3 :=
  ⟨by rw [hok], grown_below hgr hb, c0, c1, c2, hk.below hb hk.lt, fun h => hv (hok.symm.trans h)⟩

end Go.Proofs.YtonlfplloenfcaaGreatDoor
