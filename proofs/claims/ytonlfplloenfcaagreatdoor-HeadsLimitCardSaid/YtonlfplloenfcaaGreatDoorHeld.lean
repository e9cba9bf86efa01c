/-
  Book: a row of lists that are held. Plain facts, over any program.
-/
import Derived.Test.YtonlfplloenfcaaGreatDoorTysEtc
namespace Go.Proofs.YtonlfplloenfcaaGreatDoor
open Go.RowKit

/-- N lists are held in block ga: of each the list, the longer one, its number. -/
def ArrIs (w : World) (H : TypeId) (ga N : Nat) (l lg : Nat → Value) (m : Nat → Nat) : Prop :=
  ∃ cur, w.heap[ga]? = some (.cells cur H (0, 0)) ∧ ∀ j, j < N → cur[j * 3]? = some (l j) ∧ cur[j * 3 + 1]? = some (lg j) ∧ cur[j * 3 + 2]? = some (.int .i64 (m j))
section
variable {w w' : World} {H : TypeId} {ga N : Nat} {l lg : Nat → Value} {m : Nat → Nat}
theorem ArrIs.at_ (h : ArrIs w H ga N l lg m) {j : Nat} (hj : j < N) : w.cell? ⟨ga, j * 3, none⟩ = some (l j) ∧ w.cell? ⟨ga, j * 3 + 1, none⟩ = some (lg j) ∧ w.cell? ⟨ga, j * 3 + 2, none⟩ = some (.int .i64 (m j)) := by
  obtain ⟨cur, hg, hc⟩ := h
  obtain ⟨h1, h2, h3⟩ := hc j hj
  exact ⟨(cell_of_row _ _ _ _ _ _ hg).trans h1, (cell_of_row _ _ _ _ _ _ hg).trans h2, (cell_of_row _ _ _ _ _ _ hg).trans h3⟩
theorem ArrIs.frozen (h : ArrIs w H ga N l lg m) (j : Nat) : w.frozen? ⟨ga, j, none⟩ = false := by
  obtain ⟨cur, hg, _⟩ := h
  exact Blk.frozen (t := H) (cs := cur) hg j
theorem ArrIs.lt (h : ArrIs w H ga N l lg m) : ga < w.heap.size := by
  obtain ⟨cur, hg, _⟩ := h
  exact Blk.lt (t := H) (cs := cur) hg
theorem ArrIs.heap (h : ArrIs w H ga N l lg m) : ∃ cur, w.heap[ga]? = some (.cells cur H (0, 0)) := ⟨h.choose, h.choose_spec.1⟩
theorem ArrIs.same (h : ArrIs w H ga N l lg m) (hs : w'.heap[ga]? = w.heap[ga]?) : ArrIs w' H ga N l lg m := by
  obtain ⟨cur, hg, hc⟩ := h
  exact ⟨cur, hs.trans hg, hc⟩
theorem ArrIs.tys {es : List TypeId} (h : ArrIs w H ga N l lg m) (ht : Tys es w w') (he : H ∉ es) : ArrIs w' H ga N l lg m := by
  obtain ⟨cur, hg, hc⟩ := h
  exact ⟨cur, blk_tys (cs := cur) hg ht he, hc⟩
theorem ArrIs.setLong (h : ArrIs w H ga N l lg m) (i : Nat) (v : Value) : ArrIs (w.setCell ⟨ga, i * 3 + 1, none⟩ v) H ga N l (fun j => if j = i then v else lg j) m := by
  obtain ⟨cur, hg, hc⟩ := h
  refine ⟨cur.setIfInBounds (i * 3 + 1) v, Blk.set_ (t := H) (cs := cur) hg _ _, fun j hj => ?_⟩
  obtain ⟨h1, h2, h3⟩ := hc j hj
  refine ⟨?_, ?_, ?_⟩
  · rw [Array.getElem?_setIfInBounds, if_neg (by omega)]; exact h1
  · rw [Array.getElem?_setIfInBounds]
    by_cases e : j = i
    · subst e
      have hlt : j * 3 + 1 < cur.size := (Array.getElem?_eq_some_iff.1 h2).1
      rw [if_pos rfl, if_pos hlt]
      simp
    · rw [if_neg (by omega)]; simpa [e] using h2
  · rw [Array.getElem?_setIfInBounds, if_neg (by omega)]; exact h3
end
/-- What is held of a list: its cells as three. -/
def hcells : List (Value × Nat) → List Value
  | [] => []
  | (v, m) :: r => v :: .slice none 0 0 :: .int .i64 (m : Int) :: hcells r
theorem hcells_append : ∀ (a b : List (Value × Nat)), hcells (a ++ b) = hcells a ++ hcells b
  | [], b => rfl
  | (v, m) :: r, b => by simp [hcells, hcells_append r b]
theorem hcells_at : ∀ (hs : List (Value × Nat)) (j : Nat) (v : Value) (m : Nat), hs[j]? = some (v, m) → (hcells hs)[j * 3]? = some v ∧ (hcells hs)[j * 3 + 1]? = some (.slice none 0 0) ∧ (hcells hs)[j * 3 + 2]? = some (.int .i64 (m : Int))
  | [], j, v, m, h => by simp at h
  | (v', m') :: r, 0, v, m, h => by
    simp at h
    obtain ⟨rfl, rfl⟩ := h
    simp [hcells]
  | (v', m') :: r, j + 1, v, m, h => by
    have ih := hcells_at r j v m (by simpa using h)
    have e0 : (j + 1) * 3 = (j * 3) + 3 := by omega
    refine ⟨?_, ?_, ?_⟩
    · rw [e0]; simpa [hcells] using ih.1
    · rw [show (j + 1) * 3 + 1 = (j * 3 + 1) + 3 by omega]; simpa [hcells] using ih.2.1
    · rw [show (j + 1) * 3 + 2 = (j * 3 + 2) + 3 by omega]; simpa [hcells] using ih.2.2
/-- An owned row of lists that are held, as 'ArrIs'. -/
theorem ArrIs.of_own {w : World} {Bs H ga cap : Nat} {hs : List (Value × Nat)} (h : w.ownsRow Bs H 3 (.slice (some ⟨ga, 0, none⟩) hs.length cap) hs.length (hcells hs)) :
    ArrIs w H ga hs.length (fun j => (hs.getD j (.slice none 0 0, 0)).1) (fun _ => .slice none 0 0) (fun j => (hs.getD j (.slice none 0 0, 0)).2) := by
  rcases h.2 with ⟨h2, _⟩ | ⟨g', cap', cur, hv, _, hh, hnc, hcm, hcs, htake⟩
  · simp at h2
  · simp only [Value.slice.injEq, Option.some.injEq, Addr.mk.injEq, and_true, true_and] at hv
    obtain ⟨rfl, rfl⟩ := hv
    refine ⟨cur, hh, fun j hj => ?_⟩
    obtain ⟨⟨v, m⟩, hj2⟩ : ∃ p, hs[j]? = some p := ⟨hs[j]'hj, List.getElem?_eq_getElem hj⟩
    obtain ⟨h1, h2, h3⟩ := hcells_at hs j v m hj2
    have get : ∀ q u, q < hs.length * 3 → (hcells hs)[q]? = some u → cur[q]? = some u := by
      intro q u hq hu
      rw [← htake, List.getElem?_take, if_pos hq] at hu
      simpa using hu
    have e : hs.getD j (.slice none 0 0, 0) = (v, m) := by simp [List.getD, hj2]
    simp only [e]
    exact ⟨get _ _ (by omega) h1, get _ _ (by omega) h2, get _ _ (by omega) h3⟩

/-- A row of the call's own, its first k elements marked. -/
def Row (w : World) (Bs : Nat) (E : TypeId) (sz : Nat) (v : Value) (n k : Nat) (mk : Nat → Value) : Prop := ∃ xs, w.ownsRow Bs E sz v n xs ∧ ∀ i, i < k * sz → xs[i]? = some (mk i)
section
variable {w w' : World} {Bs : Nat} {E : TypeId} {sz : Nat} {v : Value} {n k : Nat} {mk : Nat → Value}
theorem Row.own (h : Row w Bs E sz v n k mk) : ∃ xs, w.ownsRow Bs E sz v n xs := ⟨h.choose, h.choose_spec.1⟩
theorem Row.of_own {xs : List Value} (h : w.ownsRow Bs E sz v n xs) : Row w Bs E sz v n 0 mk := ⟨xs, h, fun i hi => by omega⟩
theorem Row.tys {es : List TypeId} (h : Row w Bs E sz v n k mk) (ht : Tys es w w') (he : E ∉ es) : Row w' Bs E sz v n k mk := by
  obtain ⟨xs, h1, h2⟩ := h
  exact ⟨xs, own_tys h1 ht he, h2⟩
theorem Row.below (h : Row w Bs E sz v n k mk) (hb : Below w.heap.size w w') : Row w' Bs E sz v n k mk := by
  obtain ⟨xs, h1, h2⟩ := h
  exact ⟨xs, own_below h1 hb, h2⟩
theorem Row.kept {row : Option Nat} (h : Row w Bs E sz v n k mk) (hg : w.grownBy w' row) (hne : v.ownBlock = none ∨ v.ownBlock ≠ row) : Row w' Bs E sz v n k mk := by
  obtain ⟨xs, h1, h2⟩ := h
  exact ⟨xs, h1.kept hg hne, h2⟩
theorem Row.form (h : Row w Bs E sz v n k mk) (hn : 0 < n) : ∃ b cap, v = .slice (some ⟨b, 0, none⟩) n cap ∧ Bs ≤ b ∧ b < w.heap.size ∧ (∃ cur, w.heap[b]? = some (.cells cur E (0, 0))) ∧ n ≤ cap := by
  obtain ⟨xs, h1, _⟩ := h
  rcases h1.2 with ⟨_, h0⟩ | ⟨g, cap, cur, rfl, hb, hh, hnc, _⟩
  · omega
  · exact ⟨g, cap, rfl, hb, (Array.getElem?_eq_some_iff.1 hh).1, ⟨cur, hh⟩, hnc⟩
theorem Row.cell {b cap : Nat} (h : Row w Bs E sz (.slice (some ⟨b, 0, none⟩) n cap) n k mk) {j : Nat} (hj : j < k * sz) (hk : k ≤ n) : w.cell? ⟨b, j, none⟩ = some (mk j) := by
  obtain ⟨xs, h1, h2⟩ := h
  rw [h1.cellAt j (Nat.lt_of_lt_of_le hj (Nat.mul_le_mul_right _ hk)), h2 j hj]
theorem Row.some_ {b cap : Nat} (h : Row w Bs E sz (.slice (some ⟨b, 0, none⟩) n cap) n k mk) {j : Nat} (hj : j < n * sz) : ∃ u, w.cell? ⟨b, j, none⟩ = some u := by
  obtain ⟨xs, h1, _⟩ := h
  rw [h1.cellAt j hj]
  exact ⟨xs[j]'(by rw [h1.1]; exact hj), List.getElem?_eq_getElem _⟩
theorem Row.free {b cap : Nat} (h : Row w Bs E sz (.slice (some ⟨b, 0, none⟩) n cap) n k mk) (j : Nat) : w.frozen? ⟨b, j, none⟩ = false := by
  obtain ⟨xs, h1, _⟩ := h
  exact h1.frozenAt j
theorem Row.set1 {b cap : Nat} (h : Row w Bs E 1 (.slice (some ⟨b, 0, none⟩) n cap) n k mk) (hk : k < n) : Row (w.setCell ⟨b, k, none⟩ (mk k)) Bs E 1 (.slice (some ⟨b, 0, none⟩) n cap) n (k + 1) mk := by
  obtain ⟨xs, h1, h2⟩ := h
  refine ⟨_, (h1.stored k (mk k)).1, fun i hi => ?_⟩
  have hl := h1.1
  rw [List.getElem?_set]
  by_cases e : k = i
  · subst e
    rw [if_pos rfl, if_pos (by omega)]
  · rw [if_neg e]
    exact h2 i (by omega)
theorem Row.set2 {b cap : Nat} (h : Row w Bs E 2 (.slice (some ⟨b, 0, none⟩) n cap) n k mk) (hk : k < n) :
    Row ((w.setCell ⟨b, k * 2, none⟩ (mk (k * 2))).setCell ⟨b, k * 2 + 1, none⟩ (mk (k * 2 + 1))) Bs E 2 (.slice (some ⟨b, 0, none⟩) n cap) n (k + 1) mk := by
  obtain ⟨xs, h1, h2⟩ := h
  refine ⟨_, ((h1.stored (k * 2) (mk (k * 2))).1.stored (k * 2 + 1) (mk (k * 2 + 1))).1, fun i hi => ?_⟩
  have hl := h1.1
  rw [List.getElem?_set, List.getElem?_set]
  by_cases e : k * 2 + 1 = i
  · subst e
    rw [if_pos rfl, if_pos (by simp; omega)]
  · rw [if_neg e]
    by_cases e2 : k * 2 = i
    · subst e2
      rw [if_pos rfl, if_pos (by omega)]
    · rw [if_neg e2]
      exact h2 i (by omega)
end
end Go.Proofs.YtonlfplloenfcaaGreatDoor
