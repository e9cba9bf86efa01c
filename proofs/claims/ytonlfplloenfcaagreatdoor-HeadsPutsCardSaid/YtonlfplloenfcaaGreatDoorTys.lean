/-
  A frame by the blocks' element types: only blocks of the listed types have turned. Plain facts, over any program.
-/
import Derived.Test.YtonlfplloenfcaaGreatDoorMem
namespace Go.Proofs.YtonlfplloenfcaaGreatDoor
open Go.RowKit

structure Tys (es : List TypeId) (w w' : World) : Prop where
  size : w.heap.size ≤ w'.heap.size
  block : ∀ k, k < w.heap.size → (∀ c e f, w.heap[k]? = some (.cells c e f) → e ∉ es) → w'.heap[k]? = w.heap[k]?

theorem Tys.refl (es : List TypeId) (w : World) : Tys es w w := ⟨Nat.le_refl _, fun _ _ _ => rfl⟩
theorem Tys.trans {es : List TypeId} {a b c : World} (h : Tys es a b) (k : Tys es b c) : Tys es a c :=
  ⟨Nat.le_trans h.size k.size, fun i hi hn => by
    have e1 := h.block i hi hn
    rw [k.block i (Nat.lt_of_lt_of_le hi h.size) (by rw [e1]; exact hn), e1]⟩
theorem Tys.mono {es es' : List TypeId} {a b : World} (h : Tys es a b) (hs : ∀ e ∈ es, e ∈ es') : Tys es' a b :=
  ⟨h.size, fun i hi hn => h.block i hi fun c e f hc he => hn c e f hc (hs e he)⟩
theorem Tys.of_below (es : List TypeId) {a b : World} (h : Below a.heap.size a b) : Tys es a b := ⟨h.size, fun k hk _ => h.block k hk⟩
theorem Tys.alloc {es : List TypeId} {a b : World} (h : Tys es a b) (o : Obj) : Tys es a (b.alloc o) := h.trans ⟨by simp, fun k hk _ => Below.heap_alloc _ _ _ hk⟩
theorem Tys.drewN {es : List TypeId} {a b : World} (h : Tys es a b) (n : Nat) : Tys es a (b.drewN n) := ⟨h.size, h.block⟩
theorem Tys.drew {es : List TypeId} {a b : World} (h : Tys es a b) : Tys es a b.drew := ⟨h.size, h.block⟩
theorem Tys.setCell {es : List TypeId} {a b : World} (h : Tys es a b) {p : Addr} {c : Array Value} {e : TypeId} {f : Nat × Nat} (hp : b.heap[p.block]? = some (.cells c e f)) (he : e ∈ es) (u : Value) : Tys es a (b.setCell p u) :=
  h.trans ⟨by simp [World.setCell], fun k _ hn => Below.heap_setCell _ _ _ _ (fun e' => by subst e'; exact hn _ _ _ hp he)⟩
theorem Tys.grown {es : List TypeId} {a b c : World} {row : Option Nat} (h : Tys es a b) (hg : b.grownBy c row) (hr : ∀ g, row = some g → ∃ cs e f, b.heap[g]? = some (.cells cs e f) ∧ e ∈ es) : Tys es a c :=
  h.trans ⟨hg.size, fun k hk hn => hg.block k hk (fun e => by
    obtain ⟨cs, e', f, h1, h2⟩ := hr k e.symm
    exact hn _ _ _ h1 h2)⟩
theorem own_heap {w : World} {base n : Nat} {e : TypeId} {size : Nat} {v : Value} {xs : List Value} (h : w.ownsRow base e size v n xs) {g : Nat} (hg : v.ownBlock = some g) : ∃ cs, w.heap[g]? = some (.cells cs e (0, 0)) := by
  rcases h.2 with ⟨rfl, _⟩ | ⟨g', cap, cur, rfl, _, hh, _⟩
  · simp [Value.ownBlock] at hg
  · simp [Value.ownBlock] at hg; subst hg; exact ⟨_, hh⟩
theorem own_tys {es : List TypeId} {w w' : World} {base n : Nat} {e : TypeId} {size : Nat} {v : Value} {xs : List Value} (h : w.ownsRow base e size v n xs) (ht : Tys es w w') (he : e ∉ es) : w'.ownsRow base e size v n xs := by
  refine ⟨h.1, ?_⟩
  rcases h.2 with hn | ⟨g, cap, cur, rfl, hb, hgg, rest⟩
  · exact .inl hn
  · refine .inr ⟨g, cap, cur, rfl, hb, ?_, rest⟩
    rw [ht.block g (Array.getElem?_eq_some_iff.1 hgg).1 (fun c e' f hc he' => by rw [hgg] at hc; injection hc with hc; injection hc with _ h2; exact he (h2 ▸ he'))]
    exact hgg
theorem blk_tys {es : List TypeId} {w w' : World} {g : Nat} {t : TypeId} {cs : Array Value} (h : Blk w g t cs) (ht : Tys es w w') (he : t ∉ es) : Blk w' g t cs :=
  (ht.block g h.lt (fun c e' f hc he' => by unfold Blk at h; rw [h] at hc; injection hc with hc; injection hc with _ h2; exact he (h2 ▸ he'))).trans h
/-- Rows of two element types lie in two blocks. -/
theorem own_ne {w : World} {base base' n n' : Nat} {e e' : TypeId} {size size' : Nat} {v v' : Value} {xs xs' : List Value} (h : w.ownsRow base e size v n xs) (h' : w.ownsRow base' e' size' v' n' xs') (hne : e ≠ e') {g : Nat} (hg : v.ownBlock = some g) : v'.ownBlock ≠ some g := by
  intro hg'
  obtain ⟨cs, h1⟩ := own_heap h hg
  obtain ⟨cs', h2⟩ := own_heap h' hg'
  rw [h1] at h2
  injection h2 with h2
  injection h2 with _ h3
  exact hne h3
theorem Blk.heap {w : World} {g : Nat} {t : TypeId} {cs : Array Value} (h : Blk w g t cs) : w.heap[g]? = some (.cells cs t (0, 0)) := h
end Go.Proofs.YtonlfplloenfcaaGreatDoor
