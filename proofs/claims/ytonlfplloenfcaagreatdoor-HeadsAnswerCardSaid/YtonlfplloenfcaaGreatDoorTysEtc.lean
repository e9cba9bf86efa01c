/-
  A frame by the blocks' element types: only blocks of the listed types have turned. Plain facts, over any program.
  Results of which the first is a struct in its own block.
-/
import Derived.Test.YtonlfplloenfcaaGreatDoorMem
import Derived.Laws.Rows
import Derived.Test.YtonlfplloenfcaaGreatDoorProg
namespace Go.Proofs.YtonlfplloenfcaaGreatDoor
open Go.RowKit

structure Tys (es : List TypeId) (w w' : World) : Prop where
  size : w.heap.size ≤ w'.heap.size
  block : ∀ k, k < w.heap.size → (∀ c e f, w.heap[k]? = some (.cells c e f) → e ∉ es) → w'.heap[k]? = w.heap[k]?

theorem Tys.refl (es : List TypeId) (w : World) : Tys es w w := ⟨Nat.le_refl _, fun _ _ _ => rfl⟩
theorem Tys.trans {es : List TypeId} {a b c : World} (h : Tys es a b) (k : Tys es b c) : Tys es a c :=
  ⟨Nat.le_trans h.size k.size, fun i hi hn => by
    have e1 := h.block i hi hn
    rw [k.block i (Nat.lt_of_lt_of_le hi h.size) (by rw [e1]; exact hn), e1]⟩
theorem Tys.mono {es es' : List TypeId} {a b : World} (h : Tys es a b) (hs : ∀ e ∈ es, e ∈ es') : Tys es' a b :=
  ⟨h.size, fun i hi hn => h.block i hi fun c e f hc he => hn c e f hc (hs e he)⟩
theorem Tys.of_below (es : List TypeId) {a b : World} (h : Below a.heap.size a b) : Tys es a b := ⟨h.size, fun k hk _ => h.block k hk⟩
theorem Tys.alloc {es : List TypeId} {a b : World} (h : Tys es a b) (o : Obj) : Tys es a (b.alloc o) := h.trans ⟨by simp, fun k hk _ => Below.heap_alloc _ _ _ hk⟩
theorem Tys.drewN {es : List TypeId} {a b : World} (h : Tys es a b) (n : Nat) : Tys es a (b.drewN n) := ⟨h.size, h.block⟩
theorem Tys.drew {es : List TypeId} {a b : World} (h : Tys es a b) : Tys es a b.drew := ⟨h.size, h.block⟩
theorem Tys.setCell {es : List TypeId} {a b : World} (h : Tys es a b) {p : Addr} {c : Array Value} {e : TypeId} {f : Nat × Nat} (hp : b.heap[p.block]? = some (.cells c e f)) (he : e ∈ es) (u : Value) : Tys es a (b.setCell p u) :=
  h.trans ⟨by simp [World.setCell], fun k _ hn => Below.heap_setCell _ _ _ _ (fun e' => by subst e'; exact hn _ _ _ hp he)⟩
theorem Tys.grown {es : List TypeId} {a b c : World} {row : Option Nat} (h : Tys es a b) (hg : b.grownBy c row) (hr : ∀ g, row = some g → ∃ cs e f, b.heap[g]? = some (.cells cs e f) ∧ e ∈ es) : Tys es a c :=
  h.trans ⟨hg.size, fun k hk hn => hg.block k hk (fun e => by
    obtain ⟨cs, e', f, h1, h2⟩ := hr k e.symm
    exact hn _ _ _ h1 h2)⟩
theorem own_heap {w : World} {base n : Nat} {e : TypeId} {size : Nat} {v : Value} {xs : List Value} (h : w.ownsRow base e size v n xs) {g : Nat} (hg : v.ownBlock = some g) : ∃ cs, w.heap[g]? = some (.cells cs e (0, 0)) := by
  rcases h.2 with ⟨rfl, _⟩ | ⟨g', cap, cur, rfl, _, hh, _⟩
  · simp [Value.ownBlock] at hg
  · simp [Value.ownBlock] at hg; subst hg; exact ⟨_, hh⟩
theorem own_tys {es : List TypeId} {w w' : World} {base n : Nat} {e : TypeId} {size : Nat} {v : Value} {xs : List Value} (h : w.ownsRow base e size v n xs) (ht : Tys es w w') (he : e ∉ es) : w'.ownsRow base e size v n xs := by
  refine ⟨h.1, ?_⟩
  rcases h.2 with hn | ⟨g, cap, cur, rfl, hb, hgg, rest⟩
  · exact .inl hn
  · refine .inr ⟨g, cap, cur, rfl, hb, ?_, rest⟩
    rw [ht.block g (Array.getElem?_eq_some_iff.1 hgg).1 (fun c e' f hc he' => by rw [hgg] at hc; injection hc with hc; injection hc with _ h2; exact he (h2 ▸ he'))]
    exact hgg
theorem blk_tys {es : List TypeId} {w w' : World} {g : Nat} {t : TypeId} {cs : Array Value} (h : Blk w g t cs) (ht : Tys es w w') (he : t ∉ es) : Blk w' g t cs :=
  (ht.block g h.lt (fun c e' f hc he' => by unfold Blk at h; rw [h] at hc; injection hc with hc; injection hc with _ h2; exact he (h2 ▸ he'))).trans h
/-- Rows of two element types lie in two blocks. -/
theorem own_ne {w : World} {base base' n n' : Nat} {e e' : TypeId} {size size' : Nat} {v v' : Value} {xs xs' : List Value} (h : w.ownsRow base e size v n xs) (h' : w.ownsRow base' e' size' v' n' xs') (hne : e ≠ e') {g : Nat} (hg : v.ownBlock = some g) : v'.ownBlock ≠ some g := by
  intro hg'
  obtain ⟨cs, h1⟩ := own_heap h hg
  obtain ⟨cs', h2⟩ := own_heap h' hg'
  rw [h1] at h2
  injection h2 with h2
  injection h2 with _ h3
  exact hne h3
theorem Blk.heap {w : World} {g : Nat} {t : TypeId} {cs : Array Value} (h : Blk w g t cs) : w.heap[g]? = some (.cells cs t (0, 0)) := h
end Go.Proofs.YtonlfplloenfcaaGreatDoor
namespace Go.Proofs.YtonlfplloenfcaaGreatDoor
open Go.RowKit
variable {P : Program}
theorem results_row_tmp {fn : Func} {p u : Tmp} {ty : TypeId} (h : fn.results = #[.cell p ty, .tmp u]) (tmps : Array Value) (w : World) (g : Nat) (t : TypeId) (cs : Array Value) (fr : Nat × Nat) (d : TypeDesc)
    (hp : tmps.getD p undef = .pointer (some ⟨g, 0, none⟩)) (hg : w.heap[g]? = some (.cells cs t fr))
    (hu : P.underlying ty = some d) (hd : (match d with | .struct _ | .array _ _ => true | _ => false) = true) (hi : (P.info? ty).map (·.size) = some cs.size) :
    (results fn tmps).run P w = .ok (.tuple #[.agg cs, tmps.getD u undef]) w := by
  have hp' : tmps[p]?.getD undef = .pointer (some ⟨g, 0, none⟩) := by simpa using hp
  simp [results, h, hp', asAddr, run_loadVar_row w g t ty cs fr d hg hu hd hi]
theorem results_row_tmp2 {fn : Func} {p u v : Tmp} {ty : TypeId} (h : fn.results = #[.cell p ty, .tmp u, .tmp v]) (tmps : Array Value) (w : World) (g : Nat) (t : TypeId) (cs : Array Value) (fr : Nat × Nat) (d : TypeDesc)
    (hp : tmps.getD p undef = .pointer (some ⟨g, 0, none⟩)) (hg : w.heap[g]? = some (.cells cs t fr))
    (hu : P.underlying ty = some d) (hd : (match d with | .struct _ | .array _ _ => true | _ => false) = true) (hi : (P.info? ty).map (·.size) = some cs.size) :
    (results fn tmps).run P w = .ok (.tuple #[.agg cs, tmps.getD u undef, tmps.getD v undef]) w := by
  have hp' : tmps[p]?.getD undef = .pointer (some ⟨g, 0, none⟩) := by simpa using hp
  simp [results, h, hp', asAddr, run_loadVar_row w g t ty cs fr d hg hu hd hi]
theorem run_loadVar_one (w : World) (g : Nat) (ty : TypeId) (d : TypeDesc) (v : Value) (hu : P.underlying ty = some d) (hd : (match d with | .struct _ | .array _ _ => true | _ => false) = false) (hc : w.cell? ⟨g, 0, none⟩ = some v) :
    (loadVar ty ⟨g, 0, none⟩).run P w = .ok v w := by
  have hagg : (isAgg ty).run P w = .ok false w := by
    unfold isAgg
    rw [Sem.run_bind, run_underlying hu w]
    cases d <;> simp_all
  simp [loadVar, Sem.run_bind, hagg, hc]
theorem results_row_cells {fn : Func} {p q r : Tmp} {ty t2 t3 : TypeId} (h : fn.results = #[.cell p ty, .cell q t2, .cell r t3]) (tmps : Array Value) (w : World) (g g2 g3 : Nat) (t : TypeId) (cs : Array Value) (fr : Nat × Nat) (d d2 d3 : TypeDesc) (v2 v3 : Value)
    (hp : tmps.getD p undef = .pointer (some ⟨g, 0, none⟩)) (hg : w.heap[g]? = some (.cells cs t fr)) (hq : tmps.getD q undef = .pointer (some ⟨g2, 0, none⟩)) (hr : tmps.getD r undef = .pointer (some ⟨g3, 0, none⟩))
    (hu : P.underlying ty = some d) (hd : (match d with | .struct _ | .array _ _ => true | _ => false) = true) (hi : (P.info? ty).map (·.size) = some cs.size)
    (hu2 : P.underlying t2 = some d2) (hd2 : (match d2 with | .struct _ | .array _ _ => true | _ => false) = false) (hc2 : w.cell? ⟨g2, 0, none⟩ = some v2)
    (hu3 : P.underlying t3 = some d3) (hd3 : (match d3 with | .struct _ | .array _ _ => true | _ => false) = false) (hc3 : w.cell? ⟨g3, 0, none⟩ = some v3) :
    (results fn tmps).run P w = .ok (.tuple #[.agg cs, v2, v3]) w := by
  have hp' : tmps[p]?.getD undef = .pointer (some ⟨g, 0, none⟩) := by simpa using hp
  have hq' : tmps[q]?.getD undef = .pointer (some ⟨g2, 0, none⟩) := by simpa using hq
  have hr' : tmps[r]?.getD undef = .pointer (some ⟨g3, 0, none⟩) := by simpa using hr
  simp [results, h, hp', hq', hr', asAddr, run_loadVar_row w g t ty cs fr d hg hu hd hi, run_loadVar_one w g2 t2 d2 v2 hu2 hd2 hc2, run_loadVar_one w g3 t3 d3 v3 hu3 hd3 hc3]
theorem infoF2 : (Tryz.prog.info? 63).map (·.size) = some 2 := by kernel_rfl
theorem set_two {w : World} {g : Nat} {t : TypeId} {a b : Value} (h : Blk w g t #[a, b]) (v0 v1 : Value) :
    Blk ((w.setCell ⟨g, 0, none⟩ v0).setCell ⟨g, 1, none⟩ v1) g t #[v0, v1] := by
  have h1 := (h.set_ 0 v0).set_ 1 v1
  simpa using h1
theorem below_two {B : Nat} {a w : World} (h : Below B a w) {g : Nat} (hg : B ≤ g) (v0 v1 : Value) : Below B a ((w.setCell ⟨g, 0, none⟩ v0).setCell ⟨g, 1, none⟩ v1) :=
  (h.setCell (p := ⟨g, 0, none⟩) hg v0).setCell (p := ⟨g, 1, none⟩) hg v1
end Go.Proofs.YtonlfplloenfcaaGreatDoor
