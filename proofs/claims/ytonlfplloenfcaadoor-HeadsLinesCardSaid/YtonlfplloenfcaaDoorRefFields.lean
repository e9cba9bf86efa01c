/-
  footmanref12.fields: of a head's lines but the first.
-/
import Derived.Test.YtonlfplloenfcaaDoorRefLineEtc
import Derived.Test.YtonlfplloenfcaaDoorReadFactsEtc
import Derived.Test.YtonlfplloenfcaaDoorReads
import Derived.Test.YtonlfplloenfcaaDoorFields
import Derived.Maps.AppendAt
namespace Go.Proofs.YtonlfplloenfcaaDoor
open Go.RowKit
attribute [local go_sem] Oper.semAt_some

theorem two_at {W : World} {h : Nat} (hsz : W.heap.size = h) (x y : Value) (t : TypeId) : ∀ (j : Nat) (u : Value), [x, y][j]? = some u → (W.alloc (.cells #[x, y] t)).cell? ((⟨h, 0, none⟩ : Addr).add j) = some u := by
  subst hsz
  exact two_new W t x y

end Go.Proofs.YtonlfplloenfcaaDoor

