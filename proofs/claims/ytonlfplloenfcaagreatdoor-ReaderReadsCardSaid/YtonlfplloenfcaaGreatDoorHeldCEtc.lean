/-
  (Second form, of bookc.py: rows may be full fronts of longer blocks.)
  Book: a row of lists that are held. Plain facts, over any program.
  (Second form, of bookc.py: rows may be full fronts of longer blocks.)
  Book: grow, in plain words, over any program.
  (Second form, of bookc.py: rows may be full fronts of longer blocks.)
  Book: one kind of lists, in its three states. Plain facts, over any program.
  Book: fill, grow, look where no list of a kind is held. (Written by none.py.)
  append onto a row of the call's own, with where the new row lies: in the old block, or in the block just made, the old one left as it was. Over any program. (The proof is turned from the library's 'run_append_own'.)
  append onto a row of the call's own, or onto a full front of one, with where the new row lies. Over any program.
-/
import Derived.Test.YtonlfplloenfcaaGreatDoorResultsEtc
import Derived.Test.YtonlfplloenfcaaGreatDoorMem
namespace Go.Proofs.YtonlfplloenfcaaGreatDoor.C
open Go.RowKit

/-- N lists are held in block ga: of each the list, the longer one, its number. -/
def ArrIs (w : World) (H : TypeId) (ga N : Nat) (l lg : Nat → Value) (m : Nat → Nat) : Prop :=
  ∃ cur, w.heap[ga]? = some (.cells cur H (0, 0)) ∧ ∀ j, j < N → cur[j * 3]? = some (l j) ∧ cur[j * 3 + 1]? = some (lg j) ∧ cur[j * 3 + 2]? = some (.int .i64 (m j))
section
variable {w w' : World} {H : TypeId} {ga N : Nat} {l lg : Nat → Value} {m : Nat → Nat}
theorem ArrIs.at_ (h : ArrIs w H ga N l lg m) {j : Nat} (hj : j < N) : w.cell? ⟨ga, j * 3, none⟩ = some (l j) ∧ w.cell? ⟨ga, j * 3 + 1, none⟩ = some (lg j) ∧ w.cell? ⟨ga, j * 3 + 2, none⟩ = some (.int .i64 (m j)) := by
  obtain ⟨cur, hg, hc⟩ := h
  obtain ⟨h1, h2, h3⟩ := hc j hj
  exact ⟨(cell_of_row _ _ _ _ _ _ hg).trans h1, (cell_of_row _ _ _ _ _ _ hg).trans h2, (cell_of_row _ _ _ _ _ _ hg).trans h3⟩
theorem ArrIs.frozen (h : ArrIs w H ga N l lg m) (j : Nat) : w.frozen? ⟨ga, j, none⟩ = false := by
  obtain ⟨cur, hg, _⟩ := h
  exact Blk.frozen (t := H) (cs := cur) hg j
theorem ArrIs.lt (h : ArrIs w H ga N l lg m) : ga < w.heap.size := by
  obtain ⟨cur, hg, _⟩ := h
  exact Blk.lt (t := H) (cs := cur) hg
theorem ArrIs.heap (h : ArrIs w H ga N l lg m) : ∃ cur, w.heap[ga]? = some (.cells cur H (0, 0)) := ⟨h.choose, h.choose_spec.1⟩
theorem ArrIs.same (h : ArrIs w H ga N l lg m) (hs : w'.heap[ga]? = w.heap[ga]?) : ArrIs w' H ga N l lg m := by
  obtain ⟨cur, hg, hc⟩ := h
  exact ⟨cur, hs.trans hg, hc⟩
theorem ArrIs.tys {es : List TypeId} (h : ArrIs w H ga N l lg m) (ht : Tys es w w') (he : H ∉ es) : ArrIs w' H ga N l lg m := by
  obtain ⟨cur, hg, hc⟩ := h
  exact ⟨cur, blk_tys (cs := cur) hg ht he, hc⟩
theorem ArrIs.setLong (h : ArrIs w H ga N l lg m) (i : Nat) (v : Value) : ArrIs (w.setCell ⟨ga, i * 3 + 1, none⟩ v) H ga N l (fun j => if j = i then v else lg j) m := by
  obtain ⟨cur, hg, hc⟩ := h
  refine ⟨cur.setIfInBounds (i * 3 + 1) v, Blk.set_ (t := H) (cs := cur) hg _ _, fun j hj => ?_⟩
  obtain ⟨h1, h2, h3⟩ := hc j hj
  refine ⟨?_, ?_, ?_⟩
  · rw [Array.getElem?_setIfInBounds, if_neg (by omega)]; exact h1
  · rw [Array.getElem?_setIfInBounds]
    by_cases e : j = i
    · subst e
      have hlt : j * 3 + 1 < cur.size := (Array.getElem?_eq_some_iff.1 h2).1
      rw [if_pos rfl, if_pos hlt]
      simp
    · rw [if_neg (by omega)]; simpa [e] using h2
  · rw [Array.getElem?_setIfInBounds, if_neg (by omega)]; exact h3
end
/-- What is held of a list: its cells as three. -/
def hcells : List (Value × Nat) → List Value
  | [] => []
  | (v, m) :: r => v :: .slice none 0 0 :: .int .i64 (m : Int) :: hcells r
theorem hcells_append : ∀ (a b : List (Value × Nat)), hcells (a ++ b) = hcells a ++ hcells b
  | [], b => rfl
  | (v, m) :: r, b => by simp [hcells, hcells_append r b]
theorem hcells_at : ∀ (hs : List (Value × Nat)) (j : Nat) (v : Value) (m : Nat), hs[j]? = some (v, m) → (hcells hs)[j * 3]? = some v ∧ (hcells hs)[j * 3 + 1]? = some (.slice none 0 0) ∧ (hcells hs)[j * 3 + 2]? = some (.int .i64 (m : Int))
  | [], j, v, m, h => by simp at h
  | (v', m') :: r, 0, v, m, h => by
    simp at h
    obtain ⟨rfl, rfl⟩ := h
    simp [hcells]
  | (v', m') :: r, j + 1, v, m, h => by
    have ih := hcells_at r j v m (by simpa using h)
    have e0 : (j + 1) * 3 = (j * 3) + 3 := by omega
    refine ⟨?_, ?_, ?_⟩
    · rw [e0]; simpa [hcells] using ih.1
    · rw [show (j + 1) * 3 + 1 = (j * 3 + 1) + 3 by omega]; simpa [hcells] using ih.2.1
    · rw [show (j + 1) * 3 + 2 = (j * 3 + 2) + 3 by omega]; simpa [hcells] using ih.2.2
/-- An owned row of lists that are held, as 'ArrIs'. -/
theorem ArrIs.of_own {w : World} {Bs H ga cap : Nat} {hs : List (Value × Nat)} (h : w.ownsRow Bs H 3 (.slice (some ⟨ga, 0, none⟩) hs.length cap) hs.length (hcells hs)) :
    ArrIs w H ga hs.length (fun j => (hs.getD j (.slice none 0 0, 0)).1) (fun _ => .slice none 0 0) (fun j => (hs.getD j (.slice none 0 0, 0)).2) := by
  rcases h.2 with ⟨h2, _⟩ | ⟨g', cap', cur, hv, _, hh, hnc, hcm, hcs, htake⟩
  · simp at h2
  · simp only [Value.slice.injEq, Option.some.injEq, Addr.mk.injEq, and_true, true_and] at hv
    obtain ⟨rfl, rfl⟩ := hv
    refine ⟨cur, hh, fun j hj => ?_⟩
    obtain ⟨⟨v, m⟩, hj2⟩ : ∃ p, hs[j]? = some p := ⟨hs[j]'hj, List.getElem?_eq_getElem hj⟩
    obtain ⟨h1, h2, h3⟩ := hcells_at hs j v m hj2
    have get : ∀ q u, q < hs.length * 3 → (hcells hs)[q]? = some u → cur[q]? = some u := by
      intro q u hq hu
      rw [← htake, List.getElem?_take, if_pos hq] at hu
      simpa using hu
    have e : hs.getD j (.slice none 0 0, 0) = (v, m) := by simp [List.getD, hj2]
    simp only [e]
    exact ⟨get _ _ (by omega) h1, get _ _ (by omega) h2, get _ _ (by omega) h3⟩

/-- A row of the call's own, or the front of one, full. -/
def own2 (w : World) (Bs : Nat) (E : TypeId) (sz : Nat) (v : Value) (n : Nat) (xs : List Value) : Prop :=
  w.ownsRow Bs E sz v n xs ∨ (xs.length = n * sz ∧ ∃ g cur, v = .slice (some ⟨g, 0, none⟩) n n ∧ Bs ≤ g ∧ w.heap[g]? = some (.cells cur E (0, 0)) ∧ n * sz ≤ cur.size ∧ cur.toList.take (n * sz) = xs)
section
variable {w w' : World} {Bs : Nat} {E : TypeId} {sz : Nat} {v : Value} {n : Nat} {xs : List Value}
theorem own2.len (h : own2 w Bs E sz v n xs) : xs.length = n * sz := h.elim (fun h => h.1) (fun h => h.1)
theorem own2.form (h : own2 w Bs E sz v n xs) : ∃ A c, v = .slice A n c := by
  rcases h with h | ⟨_, g, cur, rfl, _⟩
  · exact own_form h
  · exact ⟨_, _, rfl⟩
theorem own2.heap (h : own2 w Bs E sz v n xs) {g : Nat} (hg : v.ownBlock = some g) : ∃ cs, w.heap[g]? = some (.cells cs E (0, 0)) := by
  rcases h with h | ⟨_, g', cur, rfl, _, hh, _⟩
  · exact own_heap h hg
  · obtain rfl : g' = g := by simpa [Value.ownBlock] using hg
    exact ⟨_, hh⟩
theorem own2.lt (h : own2 w Bs E sz v n xs) : ∀ k, v.ownBlock = some k → Bs ≤ k ∧ k < w.heap.size := by
  rcases h with h | ⟨_, g', cur, rfl, hb, hh, _⟩
  · exact h.lt
  · intro k hk
    obtain rfl : g' = k := by simpa [Value.ownBlock] using hk
    exact ⟨hb, (Array.getElem?_eq_some_iff.1 hh).1⟩
theorem own2.same (h : own2 w Bs E sz v n xs) (hs : ∀ g, v.ownBlock = some g → w'.heap[g]? = w.heap[g]?) : own2 w' Bs E sz v n xs := by
  rcases h with ⟨h1, h2⟩ | ⟨h1, g, cur, rfl, hb, hh, h3⟩
  · refine .inl ⟨h1, ?_⟩
    rcases h2 with h2 | ⟨g, cap, cur, rfl, hb, hh, h3⟩
    · exact .inl h2
    · exact .inr ⟨g, cap, cur, rfl, hb, (hs g rfl).trans hh, h3⟩
  · exact .inr ⟨h1, g, cur, rfl, hb, (hs g rfl).trans hh, h3⟩
theorem own2.cellAt {b cap : Nat} (h : own2 w Bs E sz (.slice (some ⟨b, 0, none⟩) n cap) n xs) (j : Nat) (hj : j < n * sz) : w.cell? ⟨b, j, none⟩ = xs[j]? := by
  rcases h with h | ⟨_, g, cur, e, _, hh, _, ht⟩
  · exact h.cellAt j hj
  · simp only [Value.slice.injEq, Option.some.injEq, Addr.mk.injEq, and_true, true_and] at e
    obtain ⟨rfl, rfl⟩ := e
    rw [cell_of_row w b j cur E (0, 0) hh, ← ht, List.getElem?_take, if_pos hj]
    simp
theorem own2.frozenAt {b cap : Nat} (h : own2 w Bs E sz (.slice (some ⟨b, 0, none⟩) n cap) n xs) (j : Nat) : w.frozen? ⟨b, j, none⟩ = false := by
  rcases h with h | ⟨_, g, cur, e, _, hh, _⟩
  · exact h.frozenAt j
  · simp only [Value.slice.injEq, Option.some.injEq, Addr.mk.injEq, and_true, true_and] at e
    obtain ⟨rfl, rfl⟩ := e
    exact frozen_of_row w b j cur E hh
theorem own2.stored {b cap : Nat} (h : own2 w Bs E sz (.slice (some ⟨b, 0, none⟩) n cap) n xs) (j : Nat) (u : Value) : own2 (w.setCell ⟨b, j, none⟩ u) Bs E sz (.slice (some ⟨b, 0, none⟩) n cap) n (xs.set j u) := by
  rcases h with h | ⟨hl, g, cur, e, hb, hh, hc, ht⟩
  · exact .inl (h.stored j u).1
  · simp only [Value.slice.injEq, Option.some.injEq, Addr.mk.injEq, and_true, true_and] at e
    obtain ⟨rfl, rfl⟩ := e
    refine .inr ⟨by simpa using hl, b, cur.setIfInBounds j u, rfl, hb, heap_setCell_same w b j cur E u hh, by simpa using hc, ?_⟩
    rw [Array.toList_setIfInBounds, ← ht, List.take_set]
end
/-- A list that was clipped. -/
theorem own2.clip {w : World} {Bs : Nat} {E : TypeId} {sz n c : Nat} {A : Option Addr} {xs : List Value} (h : w.ownsRow Bs E sz (.slice A n c) n xs) : own2 w Bs E sz (.slice A n n) n xs := by
  obtain ⟨h1, h2⟩ := h
  rcases h2 with ⟨e, rfl⟩ | ⟨g, cap, cur, e, hb, hh, hnc, hcm, hcs, ht⟩
  · injection e with e1 e2 e3
    subst e1
    exact .inl ⟨h1, .inl ⟨rfl, rfl⟩⟩
  · injection e with e1 e2 e3
    subst e1 e3
    exact .inr ⟨h1, g, cur, rfl, hb, hh, by rw [hcs]; exact Nat.mul_le_mul_right _ hnc, ht⟩

/-- A row of the call's own, its first k elements marked. -/
def Row (w : World) (Bs : Nat) (E : TypeId) (sz : Nat) (v : Value) (n k : Nat) (mk : Nat → Value) : Prop := ∃ xs, own2 w Bs E sz v n xs ∧ ∀ i, i < k * sz → xs[i]? = some (mk i)
section
variable {w w' : World} {Bs : Nat} {E : TypeId} {sz : Nat} {v : Value} {n k : Nat} {mk : Nat → Value}
theorem Row.own (h : Row w Bs E sz v n k mk) : ∃ xs, own2 w Bs E sz v n xs := ⟨h.choose, h.choose_spec.1⟩
theorem Row.tys {es : List TypeId} (h : Row w Bs E sz v n k mk) (ht : Tys es w w') (he : E ∉ es) : Row w' Bs E sz v n k mk := by
  obtain ⟨xs, h1, h2⟩ := h
  exact ⟨xs, h1.same (fun g hg => by
    obtain ⟨cs, hh⟩ := h1.heap hg
    exact ht.block g (Array.getElem?_eq_some_iff.1 hh).1 (fun c e' f hc he' => by rw [hh] at hc; injection hc with hc; injection hc with _ h2; exact he (h2 ▸ he'))), h2⟩
theorem Row.below (h : Row w Bs E sz v n k mk) (hb : Below w.heap.size w w') : Row w' Bs E sz v n k mk := by
  obtain ⟨xs, h1, h2⟩ := h
  exact ⟨xs, h1.same (fun g hg => hb.block g (h1.lt g hg).2), h2⟩
theorem Row.kept {row : Option Nat} (h : Row w Bs E sz v n k mk) (hg : w.grownBy w' row) (hne : v.ownBlock = none ∨ v.ownBlock ≠ row) : Row w' Bs E sz v n k mk := by
  obtain ⟨xs, h1, h2⟩ := h
  exact ⟨xs, h1.same (fun g hv => hg.block g (h1.lt g hv).2 (fun e => by rw [hv] at hne; exact hne.elim (fun h => by cases h) (fun h => h e))), h2⟩
theorem Row.form (h : Row w Bs E sz v n k mk) (hn : 0 < n) : ∃ b cap, v = .slice (some ⟨b, 0, none⟩) n cap ∧ Bs ≤ b ∧ b < w.heap.size ∧ (∃ cur, w.heap[b]? = some (.cells cur E (0, 0))) ∧ n ≤ cap := by
  obtain ⟨xs, h1, _⟩ := h
  rcases h1 with h1 | ⟨_, g, cur, rfl, hb, hh, _⟩
  · rcases h1.2 with ⟨_, h0⟩ | ⟨g, cap, cur, rfl, hb, hh, hnc, _⟩
    · omega
    · exact ⟨g, cap, rfl, hb, (Array.getElem?_eq_some_iff.1 hh).1, ⟨cur, hh⟩, hnc⟩
  · exact ⟨g, n, rfl, hb, (Array.getElem?_eq_some_iff.1 hh).1, ⟨cur, hh⟩, Nat.le_refl _⟩
theorem Row.cell {b cap : Nat} (h : Row w Bs E sz (.slice (some ⟨b, 0, none⟩) n cap) n k mk) {j : Nat} (hj : j < k * sz) (hk : k ≤ n) : w.cell? ⟨b, j, none⟩ = some (mk j) := by
  obtain ⟨xs, h1, h2⟩ := h
  rw [h1.cellAt j (Nat.lt_of_lt_of_le hj (Nat.mul_le_mul_right _ hk)), h2 j hj]
theorem Row.some_ {b cap : Nat} (h : Row w Bs E sz (.slice (some ⟨b, 0, none⟩) n cap) n k mk) {j : Nat} (hj : j < n * sz) : ∃ u, w.cell? ⟨b, j, none⟩ = some u := by
  obtain ⟨xs, h1, _⟩ := h
  rw [h1.cellAt j hj]
  exact ⟨xs[j]'(by rw [h1.len]; exact hj), List.getElem?_eq_getElem _⟩
theorem Row.free {b cap : Nat} (h : Row w Bs E sz (.slice (some ⟨b, 0, none⟩) n cap) n k mk) (j : Nat) : w.frozen? ⟨b, j, none⟩ = false := by
  obtain ⟨xs, h1, _⟩ := h
  exact h1.frozenAt j
theorem Row.set1 {b cap : Nat} (h : Row w Bs E 1 (.slice (some ⟨b, 0, none⟩) n cap) n k mk) (hk : k < n) : Row (w.setCell ⟨b, k, none⟩ (mk k)) Bs E 1 (.slice (some ⟨b, 0, none⟩) n cap) n (k + 1) mk := by
  obtain ⟨xs, h1, h2⟩ := h
  refine ⟨_, (h1.stored k (mk k)), fun i hi => ?_⟩
  have hl := h1.len
  rw [List.getElem?_set]
  by_cases e : k = i
  · subst e
    rw [if_pos rfl, if_pos (by omega)]
  · rw [if_neg e]
    exact h2 i (by omega)
theorem Row.set2 {b cap : Nat} (h : Row w Bs E 2 (.slice (some ⟨b, 0, none⟩) n cap) n k mk) (hk : k < n) :
    Row ((w.setCell ⟨b, k * 2, none⟩ (mk (k * 2))).setCell ⟨b, k * 2 + 1, none⟩ (mk (k * 2 + 1))) Bs E 2 (.slice (some ⟨b, 0, none⟩) n cap) n (k + 1) mk := by
  obtain ⟨xs, h1, h2⟩ := h
  refine ⟨_, ((h1.stored (k * 2) (mk (k * 2))).stored (k * 2 + 1) (mk (k * 2 + 1))), fun i hi => ?_⟩
  have hl := h1.len
  rw [List.getElem?_set, List.getElem?_set]
  by_cases e : k * 2 + 1 = i
  · subst e
    rw [if_pos rfl, if_pos (by simp; omega)]
  · rw [if_neg e]
    by_cases e2 : k * 2 = i
    · subst e2
      rw [if_pos rfl, if_pos (by omega)]
    · rw [if_neg e2]
      exact h2 i (by omega)
end
end Go.Proofs.YtonlfplloenfcaaGreatDoor.C
namespace Go.Proofs.YtonlfplloenfcaaGreatDoor.C
open Go.RowKit

/-- A list all of whose elements are marks. -/
def Marked (w : World) (E : TypeId) (sz : Nat) (v : Value) (n : Nat) (mk : Nat → Value) : Prop :=
  n = 0 ∨ ∃ b cap, v = .slice (some ⟨b, 0, none⟩) n cap ∧ (∃ cur, w.heap[b]? = some (.cells cur E (0, 0))) ∧ ∀ i, i < n * sz → w.cell? ⟨b, i, none⟩ = some (mk i)
theorem Marked.same {w w' : World} {E sz n : Nat} {v : Value} {mk : Nat → Value} (h : Marked w E sz v n mk) (hs : ∀ b, v.ownBlock = some b → b < w.heap.size → w'.heap[b]? = w.heap[b]?) : Marked w' E sz v n mk := by
  rcases h with h0 | ⟨b, cap, rfl, ⟨cur, hc⟩, hcell⟩
  · exact .inl h0
  · have e := hs b rfl (Array.getElem?_eq_some_iff.1 hc).1
    exact .inr ⟨b, cap, rfl, ⟨cur, e.trans hc⟩, fun i hi => (World.cell?_of_block (w := w) (a := ⟨b, i, none⟩) e).trans (hcell i hi)⟩
/-- The longer one begins with the list, in one block. -/
theorem Marked.front {w : World} {Bs E sz n k : Nat} {v long : Value} {mk : Nat → Value} (h : Row w Bs E sz long (n + k) (n + k) mk) (hf : n = 0 ∨ ∃ b cap, v = .slice (some ⟨b, 0, none⟩) n cap) (ho : long.ownBlock = v.ownBlock) : Marked w E sz v n mk := by
  rcases hf with h0 | ⟨b, cap, rfl⟩
  · exact .inl h0
  · rcases Nat.eq_zero_or_pos (n + k) with h0 | h0
    · exact .inl (by omega)
    · obtain ⟨b', cap', rfl, _, _, hc, _⟩ := h.form h0
      obtain rfl : b' = b := by simpa [Value.ownBlock] using ho
      exact .inr ⟨b', cap, rfl, hc, fun i hi => h.cell (Nat.lt_of_lt_of_le hi (Nat.mul_le_mul_right _ (by omega))) (Nat.le_refl _)⟩


theorem grown_trans {a b c : World} {row row' : Option Nat} (h : a.grownBy b row) (k : b.grownBy c row') (hr : ∀ g, row' = some g → row = some g ∨ a.heap.size ≤ g) : a.grownBy c row :=
  ⟨k.os.trans h.os, k.tape.trans h.tape, k.output.trans h.output, Nat.le_trans h.size k.size, fun i hi hne => (k.block i (Nat.lt_of_lt_of_le hi h.size) (fun e => by
    rcases hr i e.symm with h1 | h1
    · exact hne h1.symm
    · omega)).trans (h.block i hi hne)⟩

/-- Lists in a book while they are made longer: k are done. -/
def GInv (E H : TypeId) (sz Bs ga N : Nat) (l : Nat → Value) (n m : Nat → Nat) (mk : Nat → Nat → Value) (w wr : World) (k : Nat) (L : Nat → Value) : Prop :=
  Below Bs w wr ∧ Tys [E, H] w wr ∧ ArrIs wr H ga N l L m ∧ (∀ j, k ≤ j → L j = .slice none 0 0) ∧
  (∀ j, j < k → Row wr Bs E sz (L j) (n j + 40) (n j + 40) (mk (m j)) ∧ Marked wr E sz (l j) (n j) (mk (m j)) ∧ ∀ j', k ≤ j' → j' < N → ∀ b, (L j).ownBlock = some b → (l j').ownBlock ≠ some b) ∧
  (∀ j, k ≤ j → j < N → Row wr Bs E sz (l j) (n j) (n j) (mk (m j)))

/-- One list while it is made longer by q. -/
def GIn (E : TypeId) (sz Bs : Nat) (lk : Value) (nk : Nat) (mk : Nat → Value) (W0 wi : World) (v : Value) (q : Nat) : Prop :=
  W0.grownBy wi lk.ownBlock ∧ Row wi Bs E sz v (nk + q) (nk + q) mk ∧ (v.ownBlock = lk.ownBlock ∨ ((∃ b, W0.heap.size ≤ b ∧ v.ownBlock = some b) ∧ Marked wi E sz lk nk mk))

theorem GIn.marked {E : TypeId} {sz Bs nk q : Nat} {lk v : Value} {mk : Nat → Value} {W0 wi : World} (h : GIn E sz Bs lk nk mk W0 wi v q) (hf : nk = 0 ∨ ∃ b cap, lk = .slice (some ⟨b, 0, none⟩) nk cap) : Marked wi E sz lk nk mk := by
  obtain ⟨_, h2, h3 | ⟨_, h3⟩⟩ := h
  · exact Marked.front h2 hf h3
  · exact h3

theorem GIn.step {E : TypeId} {sz Bs nk q : Nat} {lk v v' : Value} {mk : Nat → Value} {W0 wi w3 w4 : World} {xs news : List Value} (h : GIn E sz Bs lk nk mk W0 wi v q) (hf : nk = 0 ∨ ∃ b cap, lk = .slice (some ⟨b, 0, none⟩) nk cap)
    (hlk : ∀ b, lk.ownBlock = some b → b < W0.heap.size)
    (h3 : Below wi.heap.size wi w3) (hx : ∀ i, i < (nk + q) * sz → xs[i]? = some (mk i)) (hxl : xs.length = (nk + q) * sz) (hnews : ∀ i, i < sz → news[i]? = some (mk ((nk + q) * sz + i)))
    (hown : own2 w4 Bs E sz v' (nk + q + 1) (xs ++ news)) (hat : (v'.ownBlock = v.ownBlock ∧ w3.grownBy w4 v.ownBlock) ∨ (v'.ownBlock = some w3.heap.size ∧ w3.grownBy w4 none)) :
    GIn E sz Bs lk nk mk W0 w4 v' (q + 1) := by
  have hm := h.marked hf
  obtain ⟨h1, h2, h4⟩ := h
  have g3 : W0.grownBy w3 lk.ownBlock := grown_trans h1 (grown_of_below h3 none) (fun g hg => by cases hg)
  have hrow : Row w4 Bs E sz v' (nk + (q + 1)) (nk + (q + 1)) mk := by
    refine ⟨_, hown, fun i hi => ?_⟩
    by_cases hlt : i < (nk + q) * sz
    · rw [List.getElem?_append_left (by omega)]
      exact hx i hlt
    · rw [List.getElem?_append_right (by omega), hxl]
      have e : (nk + (q + 1)) * sz = (nk + q) * sz + sz := by rw [show nk + (q + 1) = nk + q + 1 by omega, Nat.add_mul (nk + q) 1 sz, Nat.one_mul]
      rw [hnews (i - (nk + q) * sz) (by omega)]
      congr 2
      omega
  have hm3 : Marked w3 E sz lk nk mk := hm.same fun b hb _ => h3.block b (Nat.lt_of_lt_of_le (hlk b hb) h1.size)
  rcases hat with ⟨ho, hg⟩ | ⟨ho, hg⟩
  · refine ⟨grown_trans g3 hg (fun g hg' => ?_), hrow, ?_⟩
    · rcases h4 with h4 | ⟨⟨b, hb, hvb⟩, _⟩
      · left; rw [← h4]; exact hg'
      · right
        rw [hvb] at hg'
        injection hg' with hg'
        omega
    · rcases h4 with h4 | ⟨⟨b, hb, hvb⟩, _⟩
      · exact .inl (ho.trans h4)
      · refine .inr ⟨⟨b, hb, ho.trans hvb⟩, hm3.same fun b' hb' _ => hg.block b' (Nat.lt_of_lt_of_le (hlk b' hb') (Nat.le_trans h1.size h3.size)) (fun e => ?_)⟩
        rw [hvb] at e
        injection e with e
        have := hlk b' hb'
        omega
  · refine ⟨grown_trans g3 hg (fun g hg' => by cases hg'), hrow, .inr ⟨⟨_, Nat.le_trans h1.size h3.size, ho⟩, hm3.same fun b' hb' _ => hg.block b' (Nat.lt_of_lt_of_le (hlk b' hb') (Nat.le_trans h1.size h3.size)) (by simp)⟩⟩

theorem GInv.step {E H : TypeId} {sz Bs ga N k : Nat} {l L : Nat → Value} {n m : Nat → Nat} {mk : Nat → Nat → Value} {w wr wi : World} {v : Value} {o : Obj} (hEH : E ≠ H) (hga : Bs ≤ ga) (hk : k < N) (hBw : Bs ≤ wr.heap.size)
    (hD : ∀ i j b, i < N → j < N → i ≠ j → (l i).ownBlock = some b → (l j).ownBlock ≠ some b)
    (h : GInv E H sz Bs ga N l n m mk w wr k L) (hi : GIn E sz Bs (l k) (n k) (mk (m k)) (wr.alloc o) wi v 40) :
    GInv E H sz Bs ga N l n m mk w (wi.setCell ⟨ga, k * 3 + 1, none⟩ v) (k + 1) (fun j => if j = k then v else L j) := by
  obtain ⟨hb, hty, hA, hL, hdone, hrows⟩ := h
  have hrk := hrows k (Nat.le_refl _) hk
  have hlt : ∀ j, k ≤ j → j < N → ∀ b, (l j).ownBlock = some b → b < wr.heap.size := fun j h1 h2 b hb => by
    obtain ⟨xs, hx⟩ := (hrows j h1 h2).own
    exact (hx.lt b hb).2
  have hlk := hlt k (Nat.le_refl _) hk
  have hlkB : ∀ b, (l k).ownBlock = some b → Bs ≤ b := fun b hb => by
    obtain ⟨xs, hx⟩ := hrk.own
    exact (hx.lt b hb).1
  have hlkE : ∀ b, (l k).ownBlock = some b → ∃ cs, wr.heap[b]? = some (.cells cs E (0, 0)) := fun b hb => by
    obtain ⟨xs, hx⟩ := hrk.own
    exact hx.heap hb
  have hf : n k = 0 ∨ ∃ b cap, l k = .slice (some ⟨b, 0, none⟩) (n k) cap := by
    rcases Nat.eq_zero_or_pos (n k) with h0 | h0
    · exact .inl h0
    · obtain ⟨b, cap, e, _⟩ := hrk.form h0
      exact .inr ⟨b, cap, e⟩
  have hm := hi.marked hf
  obtain ⟨hg, hrow, hat⟩ := hi
  have hgr : wr.grownBy wi (l k).ownBlock := grown_trans (World.grownBy_alloc wr o (l k).ownBlock) hg (fun g h => .inl h)
  have hgaw : ga < wr.heap.size := hA.lt
  have hgane : some ga ≠ (l k).ownBlock := fun e => by
    obtain ⟨cs, h1⟩ := hlkE ga e.symm
    obtain ⟨cur, h2⟩ := hA.heap
    rw [h1] at h2
    injection h2 with h2
    injection h2 with _ h3
    exact hEH h3
  have hAi : ArrIs wi H ga N l L m := hA.same (hgr.block ga hgaw hgane)
  obtain ⟨cur, hcur⟩ := hAi.heap
  have hbi : Below Bs w wi := (hb.alloc hBw o).grown hg (by simp; omega) hlkB
  have hti : Tys [E, H] w wi := (hty.alloc o).grown hg (fun g e => by
    obtain ⟨cs, h1⟩ := hlkE g e
    exact ⟨cs, _, _, (Below.heap_alloc _ _ _ (hlk g e)).trans h1, by simp⟩)
  have hts : Tys [H] wi (wi.setCell ⟨ga, k * 3 + 1, none⟩ v) := (Tys.refl _ _).setCell (p := ⟨ga, k * 3 + 1, none⟩) hcur (by simp) v
  have hEn : E ∉ [H] := by simp [hEH]
  have hne : ∀ b cs, wi.heap[b]? = some (Obj.cells cs E (0, 0)) → (wi.setCell ⟨ga, k * 3 + 1, none⟩ v).heap[b]? = wi.heap[b]? := fun b cs hb => Below.heap_setCell _ _ _ _ (fun e => by
    subst e
    rw [hcur] at hb
    injection hb with hb
    injection hb with _ h3
    exact hEH h3.symm)
  have mset : ∀ {v' n' mk'}, Marked wi E sz v' n' mk' → Marked (wi.setCell ⟨ga, k * 3 + 1, none⟩ v) E sz v' n' mk' := fun h => by
    rcases h with h0 | ⟨b, cap, rfl, ⟨c2, hc⟩, hcell⟩
    · exact .inl h0
    · have e := hne b c2 hc
      exact .inr ⟨b, cap, rfl, ⟨c2, e.trans hc⟩, fun i hi => (World.cell?_of_block (w := wi) (a := ⟨b, i, none⟩) e).trans (hcell i hi)⟩
  refine ⟨hbi.setCell hga _, hti.trans (hts.mono (by simp)), hAi.setLong k v, fun j hj => ?_, fun j hj => ?_, fun j hj hjN => ?_⟩
  · simp only
    rw [if_neg (by omega)]
    exact hL j (by omega)
  · by_cases e : j = k
    · subst e
      simp only [if_true]
      refine ⟨hrow.tys hts hEn, mset hm, fun j' hj' hjN b hvb hlb => ?_⟩
      rcases hat with hat | ⟨⟨b', hb', hvb'⟩, _⟩
      · rw [hat] at hvb
        exact hD j j' b hk hjN (by omega) hvb hlb
      · have h1 := hlt j' (by omega) hjN b hlb
        rw [hvb'] at hvb
        injection hvb with hvb
        simp at hb'
        omega
    · simp only
      rw [if_neg e]
      obtain ⟨d1, d2, d3⟩ := hdone j (by omega)
      have hLlt : ∀ b, (L j).ownBlock = some b → b < wr.heap.size ∧ some b ≠ (l k).ownBlock := fun b hb => by
        obtain ⟨xs, hx⟩ := d1.own
        exact ⟨(hx.lt b hb).2, fun e' => d3 k (Nat.le_refl _) hk b hb e'.symm⟩
      refine ⟨(d1.kept hgr ?_).tys hts hEn, ?_, fun j' hj' => d3 j' (by omega)⟩
      · cases hv : (L j).ownBlock with
        | none => exact .inl rfl
        | some b => exact .inr (hLlt b hv).2
      · exact mset (d2.same fun b hb hlt2 => hgr.block b hlt2 (fun e' => hD j k b (by omega) hk e hb e'.symm))
  · refine ((hrows j (by omega) hjN).kept hgr ?_).tys hts hEn
    cases hv : (l j).ownBlock with
    | none => exact .inl rfl
    | some b => exact .inr (fun e' => hD j k b hjN hk (by omega) hv e'.symm)
end Go.Proofs.YtonlfplloenfcaaGreatDoor.C
namespace Go.Proofs.YtonlfplloenfcaaGreatDoor.C
open Go.RowKit

def lenOf : Value → Nat
  | .slice _ n _ => n
  | _ => 0
def hl (hs : List (Value × Nat)) (j : Nat) : Value := (hs.getD j (.slice none 0 0, 0)).1
def hm (hs : List (Value × Nat)) (j : Nat) : Nat := (hs.getD j (.slice none 0 0, 0)).2
def hn (hs : List (Value × Nat)) (j : Nat) : Nat := lenOf (hl hs j)
def Far (hs : List (Value × Nat)) : Prop := ∀ i j b, i < hs.length → j < hs.length → i ≠ j → (hl hs i).ownBlock = some b → (hl hs j).ownBlock ≠ some b
def Nums (hs : List (Value × Nat)) : Prop := ∀ j, j < hs.length → hn hs j ≤ 1000000000 ∧ hm hs j ≤ 1000000

/-- Lists of a kind, owned, each for itself; k: of each so many elements are marked (none, or all). -/
def Kind (w : World) (Bs : Nat) (E H : TypeId) (sz : Nat) (v : Value) (hs : List (Value × Nat)) (all : Bool) (mk : Nat → Nat → Value) : Prop :=
  w.ownsRow Bs H 3 v hs.length (hcells hs) ∧ ∀ j, j < hs.length → Row w Bs E sz (hl hs j) (hn hs j) (if all then hn hs j else 0) (mk (hm hs j))
/-- They have been made longer. -/
def KindLong (w : World) (Bs : Nat) (E H : TypeId) (sz : Nat) (v : Value) (hs : List (Value × Nat)) (mk : Nat → Nat → Value) : Prop :=
  (∃ A c, v = .slice A hs.length c) ∧ (hs = [] ∨ ∃ ga cap L, v = .slice (some ⟨ga, 0, none⟩) hs.length cap ∧ ArrIs w H ga hs.length (hl hs) L (hm hs) ∧
    ∀ j, j < hs.length → Row w Bs E sz (L j) (hn hs j + 40) (hn hs j + 40) (mk (hm hs j)) ∧ Marked w E sz (hl hs j) (hn hs j) (mk (hm hs j)))

section
variable {w w' : World} {Bs : Nat} {E H : TypeId} {sz : Nat} {v : Value} {hs : List (Value × Nat)} {all : Bool} {mk : Nat → Nat → Value} {es : List TypeId}
theorem Kind.tys (h : Kind w Bs E H sz v hs all mk) (ht : Tys es w w') (hE : E ∉ es) (hH : H ∉ es) : Kind w' Bs E H sz v hs all mk :=
  ⟨own_tys h.1 ht hH, fun j hj => (h.2 j hj).tys ht hE⟩
theorem Marked.tys {E : TypeId} {sz n : Nat} {v : Value} {mk : Nat → Value} (h : Marked w E sz v n mk) (ht : Tys es w w') (hE : E ∉ es) : Marked w' E sz v n mk := by
  rcases h with h0 | ⟨b, cap, rfl, ⟨cur, hc⟩, hcell⟩
  · exact .inl h0
  · have e := ht.block b (Array.getElem?_eq_some_iff.1 hc).1 (fun c e' f h' he => by rw [hc] at h'; injection h' with h'; injection h' with _ h2; exact hE (h2 ▸ he))
    exact .inr ⟨b, cap, rfl, ⟨cur, e.trans hc⟩, fun i hi => (World.cell?_of_block (w := w) (a := ⟨b, i, none⟩) e).trans (hcell i hi)⟩
theorem KindLong.tys (h : KindLong w Bs E H sz v hs mk) (ht : Tys es w w') (hE : E ∉ es) (hH : H ∉ es) : KindLong w' Bs E H sz v hs mk := by
  refine ⟨h.1, ?_⟩
  rcases h.2 with h0 | ⟨ga, cap, L, e, hA, hR⟩
  · exact .inl h0
  · exact .inr ⟨ga, cap, L, e, hA.tys ht hH, fun j hj => ⟨(hR j hj).1.tys ht hE, (hR j hj).2.tys ht hE⟩⟩
theorem KindLong.below (h : KindLong w Bs E H sz v hs mk) (hb : Below w.heap.size w w') : KindLong w' Bs E H sz v hs mk := by
  refine ⟨h.1, ?_⟩
  rcases h.2 with h0 | ⟨ga, cap, L, e, hA, hR⟩
  · exact .inl h0
  · exact .inr ⟨ga, cap, L, e, hA.same (hb.block ga hA.lt), fun j hj => ⟨(hR j hj).1.below hb, (hR j hj).2.same fun b _ hlt => hb.block b hlt⟩⟩
theorem Kind.form (h : Kind w Bs E H sz v hs all mk) : ∃ A c, v = .slice A hs.length c := own_form h.1
theorem Kind.arr (h : Kind w Bs E H sz v hs all mk) (hne : hs ≠ []) : ∃ ga cap, v = .slice (some ⟨ga, 0, none⟩) hs.length cap ∧ Bs ≤ ga ∧ ArrIs w H ga hs.length (hl hs) (fun _ => .slice none 0 0) (hm hs) := by
  rcases h.1.2 with ⟨_, h0⟩ | ⟨g, cap, cur, rfl, hb, _⟩
  · exact absurd (List.eq_nil_of_length_eq_zero h0) hne
  · exact ⟨g, cap, rfl, hb, ArrIs.of_own h.1⟩
theorem Kind.slices (h : Kind w Bs E H sz v hs all mk) : ∀ j, j < hs.length → ∃ A c, hl hs j = .slice A (hn hs j) c := fun j hj => by
  obtain ⟨xs, hx⟩ := (h.2 j hj).own
  exact hx.form
theorem Kind.nil (hv : v = .slice none 0 0) : Kind w Bs E H sz v [] all mk := ⟨by subst hv; exact World.ownsRow_nil _ _ _ _, fun j hj => by simp at hj⟩
/-- One more is held. -/
theorem Kind.push {v' l : Value} {m n : Nat} {xs : List Value} (_h : Kind w Bs E H sz v hs false mk) (hrows : ∀ j, j < hs.length → Row w' Bs E sz (hl hs j) (hn hs j) 0 (mk (hm hs j)))
    (hown : w'.ownsRow Bs H 3 v' (hs.length + 1) (hcells hs ++ [l, .slice none 0 0, .int .i64 (m : Int)])) (hl' : own2 w' Bs E sz l n xs) (hlen : lenOf l = n) : Kind w' Bs E H sz v' (hs ++ [(l, m)]) false mk := by
  refine ⟨by rw [hcells_append, List.length_append]; exact hown, fun j hj => ?_⟩
  rw [List.length_append] at hj
  simp only [List.length_singleton] at hj
  by_cases e : j < hs.length
  · have e1 : (hs ++ [(l, m)]).getD j (.slice none 0 0, 0) = hs.getD j (.slice none 0 0, 0) := by simp [List.getD, List.getElem?_append_left e]
    have := hrows j e
    unfold hn hl hm at this ⊢
    rw [e1]
    exact this
  · have e1 : (hs ++ [(l, m)]).getD j (.slice none 0 0, 0) = (l, m) := by
      obtain rfl : j = hs.length := by omega
      simp [List.getD]
    unfold hn hl hm
    rw [e1]
    simp only [hlen]
    exact ⟨xs, hl', fun i hi => by simp at hi⟩
end
theorem Far.nil : Far [] := fun i j b hi => by simp at hi
theorem Nums.nil : Nums [] := fun j hj => by simp at hj
theorem Far.push {hs : List (Value × Nat)} {l : Value} {m : Nat} (h : Far hs) (hn : ∀ j, j < hs.length → ∀ b, (hl hs j).ownBlock = some b → l.ownBlock ≠ some b) : Far (hs ++ [(l, m)]) := by
  have e1 : ∀ j, j < hs.length → hl (hs ++ [(l, m)]) j = hl hs j := fun j hj => by simp [hl, List.getD, List.getElem?_append_left hj]
  have e2 : hl (hs ++ [(l, m)]) hs.length = l := by simp [hl, List.getD]
  intro i j b hi hj hij
  rw [List.length_append] at hi hj
  simp only [List.length_singleton] at hi hj
  by_cases h1 : i < hs.length
  · by_cases h2 : j < hs.length
    · rw [e1 i h1, e1 j h2]; exact h i j b h1 h2 hij
    · obtain rfl : j = hs.length := by omega
      rw [e1 i h1, e2]; exact hn i h1 b
  · obtain rfl : i = hs.length := by omega
    rw [e2, e1 j (by omega)]
    intro hb hb'
    exact hn j (by omega) b hb' hb
theorem Nums.push {hs : List (Value × Nat)} {l : Value} {m : Nat} (h : Nums hs) (h1 : lenOf l ≤ 1000000000) (h2 : m ≤ 1000000) : Nums (hs ++ [(l, m)]) := by
  intro j hj
  rw [List.length_append] at hj
  simp only [List.length_singleton] at hj
  by_cases e : j < hs.length
  · have e1 : (hs ++ [(l, m)]).getD j (.slice none 0 0, 0) = hs.getD j (.slice none 0 0, 0) := by simp [List.getD, List.getElem?_append_left e]
    have := h j e
    unfold hn hl hm at this ⊢
    rw [e1]
    exact this
  · have e1 : (hs ++ [(l, m)]).getD j (.slice none 0 0, 0) = (l, m) := by
      obtain rfl : j = hs.length := by omega
      simp [List.getD]
    unfold hn hl hm
    rw [e1]
    exact ⟨h1, h2⟩
end Go.Proofs.YtonlfplloenfcaaGreatDoor.C
namespace Go.Proofs.YtonlfplloenfcaaGreatDoor
open Go.RowKit

theorem fillbyte_none (g c : Nat) (A : Option Addr) (cs : Array Value) (w : World) (hB : Blk w g 42 cs) (hv : cs[1]? = some (.slice A 0 c)) :
    Calls Tryz.prog 82 #[.pointer (some ⟨g, 0, none⟩)] w fun e w' => e = .returned (.tuple #[]) ∧ w = w' := by
  have c0 := (hB.cell 1).trans hv
  go_enter Tryz.func82, Tryz.ntmps82
  go_wp2_with fail
  refine wp_loop_rounds 1 ?_
  rw [rounds_succ]
  go_wp2_with fail
  go_end0
  exact ⟨rfl, rfl⟩

theorem growbyte_none (g c : Nat) (A : Option Addr) (cs : Array Value) (w : World) (hB : Blk w g 42 cs) (hv : cs[1]? = some (.slice A 0 c)) :
    Calls Tryz.prog 90 #[.pointer (some ⟨g, 0, none⟩)] w fun e w' => e = .returned (.tuple #[]) ∧ w = w' := by
  have c0 := (hB.cell 1).trans hv
  go_enter Tryz.func90, Tryz.ntmps90
  go_wp2_with fail
  refine wp_loop_rounds 1 ?_
  rw [rounds_succ]
  go_wp2_with fail
  go_end0
  exact ⟨rfl, rfl⟩

theorem lookbyte_none (g c : Nat) (A : Option Addr) (cs : Array Value) (w : World) (hB : Blk w g 42 cs) (hv : cs[1]? = some (.slice A 0 c)) :
    Calls Tryz.prog 98 #[.pointer (some ⟨g, 0, none⟩)] w fun e w' => e = .returned (.bool true) ∧ w = w' := by
  have c0 := (hB.cell 1).trans hv
  go_enter Tryz.func98, Tryz.ntmps98
  go_wp2_with fail
  refine wp_loop_rounds 1 ?_
  rw [rounds_succ]
  go_wp2_with fail
  go_ret
  exact ⟨rfl, rfl⟩

theorem fillint_none (g c : Nat) (A : Option Addr) (cs : Array Value) (w : World) (hB : Blk w g 42 cs) (hv : cs[2]? = some (.slice A 0 c)) :
    Calls Tryz.prog 83 #[.pointer (some ⟨g, 0, none⟩)] w fun e w' => e = .returned (.tuple #[]) ∧ w = w' := by
  have c0 := (hB.cell 2).trans hv
  go_enter Tryz.func83, Tryz.ntmps83
  go_wp2_with fail
  refine wp_loop_rounds 1 ?_
  rw [rounds_succ]
  go_wp2_with fail
  go_end0
  exact ⟨rfl, rfl⟩

theorem growint_none (g c : Nat) (A : Option Addr) (cs : Array Value) (w : World) (hB : Blk w g 42 cs) (hv : cs[2]? = some (.slice A 0 c)) :
    Calls Tryz.prog 91 #[.pointer (some ⟨g, 0, none⟩)] w fun e w' => e = .returned (.tuple #[]) ∧ w = w' := by
  have c0 := (hB.cell 2).trans hv
  go_enter Tryz.func91, Tryz.ntmps91
  go_wp2_with fail
  refine wp_loop_rounds 1 ?_
  rw [rounds_succ]
  go_wp2_with fail
  go_end0
  exact ⟨rfl, rfl⟩

theorem lookint_none (g c : Nat) (A : Option Addr) (cs : Array Value) (w : World) (hB : Blk w g 42 cs) (hv : cs[2]? = some (.slice A 0 c)) :
    Calls Tryz.prog 99 #[.pointer (some ⟨g, 0, none⟩)] w fun e w' => e = .returned (.bool true) ∧ w = w' := by
  have c0 := (hB.cell 2).trans hv
  go_enter Tryz.func99, Tryz.ntmps99
  go_wp2_with fail
  refine wp_loop_rounds 1 ?_
  rw [rounds_succ]
  go_wp2_with fail
  go_ret
  exact ⟨rfl, rfl⟩

theorem filltext_none (g c : Nat) (A : Option Addr) (cs : Array Value) (w : World) (hB : Blk w g 42 cs) (hv : cs[3]? = some (.slice A 0 c)) :
    Calls Tryz.prog 84 #[.pointer (some ⟨g, 0, none⟩)] w fun e w' => e = .returned (.tuple #[]) ∧ w = w' := by
  have c0 := (hB.cell 3).trans hv
  go_enter Tryz.func84, Tryz.ntmps84
  go_wp2_with fail
  refine wp_loop_rounds 1 ?_
  rw [rounds_succ]
  go_wp2_with fail
  go_end0
  exact ⟨rfl, rfl⟩

theorem growtext_none (g c : Nat) (A : Option Addr) (cs : Array Value) (w : World) (hB : Blk w g 42 cs) (hv : cs[3]? = some (.slice A 0 c)) :
    Calls Tryz.prog 92 #[.pointer (some ⟨g, 0, none⟩)] w fun e w' => e = .returned (.tuple #[]) ∧ w = w' := by
  have c0 := (hB.cell 3).trans hv
  go_enter Tryz.func92, Tryz.ntmps92
  go_wp2_with fail
  refine wp_loop_rounds 1 ?_
  rw [rounds_succ]
  go_wp2_with fail
  go_end0
  exact ⟨rfl, rfl⟩

theorem looktext_none (g c : Nat) (A : Option Addr) (cs : Array Value) (w : World) (hB : Blk w g 42 cs) (hv : cs[3]? = some (.slice A 0 c)) :
    Calls Tryz.prog 100 #[.pointer (some ⟨g, 0, none⟩)] w fun e w' => e = .returned (.bool true) ∧ w = w' := by
  have c0 := (hB.cell 3).trans hv
  go_enter Tryz.func100, Tryz.ntmps100
  go_wp2_with fail
  refine wp_loop_rounds 1 ?_
  rw [rounds_succ]
  go_wp2_with fail
  go_ret
  exact ⟨rfl, rfl⟩

theorem fillfield_none (g c : Nat) (A : Option Addr) (cs : Array Value) (w : World) (hB : Blk w g 42 cs) (hv : cs[4]? = some (.slice A 0 c)) :
    Calls Tryz.prog 85 #[.pointer (some ⟨g, 0, none⟩)] w fun e w' => e = .returned (.tuple #[]) ∧ w = w' := by
  have c0 := (hB.cell 4).trans hv
  go_enter Tryz.func85, Tryz.ntmps85
  go_wp2_with fail
  refine wp_loop_rounds 1 ?_
  rw [rounds_succ]
  go_wp2_with fail
  go_end0
  exact ⟨rfl, rfl⟩

theorem growfield_none (g c : Nat) (A : Option Addr) (cs : Array Value) (w : World) (hB : Blk w g 42 cs) (hv : cs[4]? = some (.slice A 0 c)) :
    Calls Tryz.prog 93 #[.pointer (some ⟨g, 0, none⟩)] w fun e w' => e = .returned (.tuple #[]) ∧ w = w' := by
  have c0 := (hB.cell 4).trans hv
  go_enter Tryz.func93, Tryz.ntmps93
  go_wp2_with fail
  refine wp_loop_rounds 1 ?_
  rw [rounds_succ]
  go_wp2_with fail
  go_end0
  exact ⟨rfl, rfl⟩

theorem lookfield_none (g c : Nat) (A : Option Addr) (cs : Array Value) (w : World) (hB : Blk w g 42 cs) (hv : cs[4]? = some (.slice A 0 c)) :
    Calls Tryz.prog 101 #[.pointer (some ⟨g, 0, none⟩)] w fun e w' => e = .returned (.bool true) ∧ w = w' := by
  have c0 := (hB.cell 4).trans hv
  go_enter Tryz.func101, Tryz.ntmps101
  go_wp2_with fail
  refine wp_loop_rounds 1 ?_
  rw [rounds_succ]
  go_wp2_with fail
  go_ret
  exact ⟨rfl, rfl⟩

theorem fillcookie_none (g c : Nat) (A : Option Addr) (cs : Array Value) (w : World) (hB : Blk w g 42 cs) (hv : cs[5]? = some (.slice A 0 c)) :
    Calls Tryz.prog 86 #[.pointer (some ⟨g, 0, none⟩)] w fun e w' => e = .returned (.tuple #[]) ∧ w = w' := by
  have c0 := (hB.cell 5).trans hv
  go_enter Tryz.func86, Tryz.ntmps86
  go_wp2_with fail
  refine wp_loop_rounds 1 ?_
  rw [rounds_succ]
  go_wp2_with fail
  go_end0
  exact ⟨rfl, rfl⟩

theorem growcookie_none (g c : Nat) (A : Option Addr) (cs : Array Value) (w : World) (hB : Blk w g 42 cs) (hv : cs[5]? = some (.slice A 0 c)) :
    Calls Tryz.prog 94 #[.pointer (some ⟨g, 0, none⟩)] w fun e w' => e = .returned (.tuple #[]) ∧ w = w' := by
  have c0 := (hB.cell 5).trans hv
  go_enter Tryz.func94, Tryz.ntmps94
  go_wp2_with fail
  refine wp_loop_rounds 1 ?_
  rw [rounds_succ]
  go_wp2_with fail
  go_end0
  exact ⟨rfl, rfl⟩

theorem lookcookie_none (g c : Nat) (A : Option Addr) (cs : Array Value) (w : World) (hB : Blk w g 42 cs) (hv : cs[5]? = some (.slice A 0 c)) :
    Calls Tryz.prog 102 #[.pointer (some ⟨g, 0, none⟩)] w fun e w' => e = .returned (.bool true) ∧ w = w' := by
  have c0 := (hB.cell 5).trans hv
  go_enter Tryz.func102, Tryz.ntmps102
  go_wp2_with fail
  refine wp_loop_rounds 1 ?_
  rw [rounds_succ]
  go_wp2_with fail
  go_ret
  exact ⟨rfl, rfl⟩

theorem fillsealed_none (g c : Nat) (A : Option Addr) (cs : Array Value) (w : World) (hB : Blk w g 42 cs) (hv : cs[6]? = some (.slice A 0 c)) :
    Calls Tryz.prog 87 #[.pointer (some ⟨g, 0, none⟩)] w fun e w' => e = .returned (.tuple #[]) ∧ w = w' := by
  have c0 := (hB.cell 6).trans hv
  go_enter Tryz.func87, Tryz.ntmps87
  go_wp2_with fail
  refine wp_loop_rounds 1 ?_
  rw [rounds_succ]
  go_wp2_with fail
  go_end0
  exact ⟨rfl, rfl⟩

theorem growsealed_none (g c : Nat) (A : Option Addr) (cs : Array Value) (w : World) (hB : Blk w g 42 cs) (hv : cs[6]? = some (.slice A 0 c)) :
    Calls Tryz.prog 95 #[.pointer (some ⟨g, 0, none⟩)] w fun e w' => e = .returned (.tuple #[]) ∧ w = w' := by
  have c0 := (hB.cell 6).trans hv
  go_enter Tryz.func95, Tryz.ntmps95
  go_wp2_with fail
  refine wp_loop_rounds 1 ?_
  rw [rounds_succ]
  go_wp2_with fail
  go_end0
  exact ⟨rfl, rfl⟩

theorem looksealed_none (g c : Nat) (A : Option Addr) (cs : Array Value) (w : World) (hB : Blk w g 42 cs) (hv : cs[6]? = some (.slice A 0 c)) :
    Calls Tryz.prog 103 #[.pointer (some ⟨g, 0, none⟩)] w fun e w' => e = .returned (.bool true) ∧ w = w' := by
  have c0 := (hB.cell 6).trans hv
  go_enter Tryz.func103, Tryz.ntmps103
  go_wp2_with fail
  refine wp_loop_rounds 1 ?_
  rw [rounds_succ]
  go_wp2_with fail
  go_ret
  exact ⟨rfl, rfl⟩

theorem fillchange_none (g c : Nat) (A : Option Addr) (cs : Array Value) (w : World) (hB : Blk w g 42 cs) (hv : cs[7]? = some (.slice A 0 c)) :
    Calls Tryz.prog 88 #[.pointer (some ⟨g, 0, none⟩)] w fun e w' => e = .returned (.tuple #[]) ∧ w = w' := by
  have c0 := (hB.cell 7).trans hv
  go_enter Tryz.func88, Tryz.ntmps88
  go_wp2_with fail
  refine wp_loop_rounds 1 ?_
  rw [rounds_succ]
  go_wp2_with fail
  go_end0
  exact ⟨rfl, rfl⟩

theorem growchange_none (g c : Nat) (A : Option Addr) (cs : Array Value) (w : World) (hB : Blk w g 42 cs) (hv : cs[7]? = some (.slice A 0 c)) :
    Calls Tryz.prog 96 #[.pointer (some ⟨g, 0, none⟩)] w fun e w' => e = .returned (.tuple #[]) ∧ w = w' := by
  have c0 := (hB.cell 7).trans hv
  go_enter Tryz.func96, Tryz.ntmps96
  go_wp2_with fail
  refine wp_loop_rounds 1 ?_
  rw [rounds_succ]
  go_wp2_with fail
  go_end0
  exact ⟨rfl, rfl⟩

theorem lookchange_none (g c : Nat) (A : Option Addr) (cs : Array Value) (w : World) (hB : Blk w g 42 cs) (hv : cs[7]? = some (.slice A 0 c)) :
    Calls Tryz.prog 104 #[.pointer (some ⟨g, 0, none⟩)] w fun e w' => e = .returned (.bool true) ∧ w = w' := by
  have c0 := (hB.cell 7).trans hv
  go_enter Tryz.func104, Tryz.ntmps104
  go_wp2_with fail
  refine wp_loop_rounds 1 ?_
  rw [rounds_succ]
  go_wp2_with fail
  go_ret
  exact ⟨rfl, rfl⟩

theorem fillmessage_none (g c : Nat) (A : Option Addr) (cs : Array Value) (w : World) (hB : Blk w g 42 cs) (hv : cs[8]? = some (.slice A 0 c)) :
    Calls Tryz.prog 89 #[.pointer (some ⟨g, 0, none⟩)] w fun e w' => e = .returned (.tuple #[]) ∧ w = w' := by
  have c0 := (hB.cell 8).trans hv
  go_enter Tryz.func89, Tryz.ntmps89
  go_wp2_with fail
  refine wp_loop_rounds 1 ?_
  rw [rounds_succ]
  go_wp2_with fail
  go_end0
  exact ⟨rfl, rfl⟩

theorem growmessage_none (g c : Nat) (A : Option Addr) (cs : Array Value) (w : World) (hB : Blk w g 42 cs) (hv : cs[8]? = some (.slice A 0 c)) :
    Calls Tryz.prog 97 #[.pointer (some ⟨g, 0, none⟩)] w fun e w' => e = .returned (.tuple #[]) ∧ w = w' := by
  have c0 := (hB.cell 8).trans hv
  go_enter Tryz.func97, Tryz.ntmps97
  go_wp2_with fail
  refine wp_loop_rounds 1 ?_
  rw [rounds_succ]
  go_wp2_with fail
  go_end0
  exact ⟨rfl, rfl⟩

theorem lookmessage_none (g c : Nat) (A : Option Addr) (cs : Array Value) (w : World) (hB : Blk w g 42 cs) (hv : cs[8]? = some (.slice A 0 c)) :
    Calls Tryz.prog 105 #[.pointer (some ⟨g, 0, none⟩)] w fun e w' => e = .returned (.bool true) ∧ w = w' := by
  have c0 := (hB.cell 8).trans hv
  go_enter Tryz.func105, Tryz.ntmps105
  go_wp2_with fail
  refine wp_loop_rounds 1 ?_
  rw [rounds_succ]
  go_wp2_with fail
  go_ret
  exact ⟨rfl, rfl⟩
end Go.Proofs.YtonlfplloenfcaaGreatDoor
namespace Go.Proofs.YtonlfplloenfcaaGreatDoor
open Go.RowKit

section
variable {P : Program} (w : World)
theorem run_append_strong (base : Nat) (t ty e : TypeId) (i : TypeInfo) (z : Value) (size bytes : Nat) (ht : P.underlying t = some (.slice e)) (hi : P.info? e = some i) (hz : i.zero = some z)
    (hsize : i.size = size) (hby : i.bytes = bytes) (hzs : z.cells.size = size) (_hsz : 0 < size)
    (v : Value) (n : Nat) (xs : List Value) (hown : w.ownsRow base e size v n xs)
    (a : Addr) (m c : Nat) (news : List Value) (hl : news.length = m * size) (hnews : ∀ j u, news[j]? = some u → w.cell? (a.add j) = some u) (h1 : ∀ u ∈ news, u.oneCell' = true)
    (h63 : n + m ≤ maxLen) (hbytes : (n + m) * bytes ≤ 140737488355328) (hbase : base ≤ w.heap.size) (hm : 0 < m) :
    ∃ v' w', (Builtin.append_ #[t, t] ty #[v, .slice (some a) m c]).run P w = .ok v' w' ∧ w'.ownsRow base e size v' (n + m) (xs ++ news) ∧
      ((v'.ownBlock = v.ownBlock ∧ w.grownBy w' v.ownBlock) ∨ (v'.ownBlock = some w.heap.size ∧ w.grownBy w' none)) := by
  subst hsize
  subst hby
  have hsmall : n + m ≤ 9223372036854775807 := by simp only [maxLen] at h63; omega
  have hlen : (xs ++ news).length = (n + m) * i.size := by rw [List.length_append, hown.1, hl, Nat.add_mul]
  have grown : ∀ (old : Nat), old < n + m →
      (w.drew.alloc (.cells (xs.toArray ++ news.toArray ++ Builtin.zeroCells z.cells (grownCap w (n + m) old e - (n + m))) e)).ownsRow base e i.size
        (.slice (some ⟨w.heap.size, 0, none⟩) (n + m) (grownCap w (n + m) old e)) (n + m) (xs ++ news) ∧
      w.grownBy (w.drew.alloc (.cells (xs.toArray ++ news.toArray ++ Builtin.zeroCells z.cells (grownCap w (n + m) old e - (n + m))) e)) none := by
    intro old ho
    have hge := grownCap_ge w (n + m) old e
    have hcm : grownCap w (n + m) old e ≤ maxLen := grownCap_le_maxLen w (n + m) old e h63
    refine ⟨⟨hlen, .inr ⟨w.heap.size, _, _, rfl, hbase, heap_alloc_new w.drew _, hge, hcm, ?_, ?_⟩⟩, ⟨rfl, rfl, rfl, by simp, fun k hk _ => Below.heap_alloc w.drew _ k hk⟩⟩
    · simp only [Array.size_append, List.size_toArray, size_zeroCells, hzs, hown.1, hl, ← Nat.add_mul]
      congr 1
      omega
    · simp only [Array.toList_append, List.append_assoc]
      rw [← List.append_assoc, ← hlen]
      exact List.take_left
  rcases hown.2 with ⟨rfl, rfl⟩ | ⟨g, cap, cur, rfl, hbg, hg, hnc, hcm, hcs, htake⟩
  · have hx : xs = [] := List.eq_nil_of_length_eq_zero (by simpa using hown.1)
    subst hx
    have hr := run_append_nil (P := P) w t ty e i z ht hi hz a m c news hl hnews (by omega) (by omega) (by have hb := hbytes; simp only [Nat.zero_add] at hb; omega)
    have hgr := grown 0 (by omega)
    simp only [Nat.zero_add, List.nil_append, Array.empty_append] at hgr ⊢
    exact ⟨_, _, hr, hgr.1, .inr ⟨rfl, hgr.2⟩⟩
  · by_cases hroom : n + m ≤ cap
    · have hfit : n * i.size + news.length ≤ cur.size := by rw [hl, hcs, ← Nat.add_mul]; exact Nat.mul_le_mul_right _ hroom
      have hr := run_append_room (P := P) w t ty e i ht hi g n cap cur hg a m c news hl hnews h1 hroom hfit
      refine ⟨_, _, hr, ⟨hlen, .inr ⟨g, cap, _, rfl, hbg, setRow_heap w g cur _ e _ hg, hroom, hcm, ?_, ?_⟩⟩, .inl ⟨rfl, ⟨rfl, rfl, rfl, by simp, fun k _ hk => setRow_other w g k _ (fun e => hk (by simp [Value.ownBlock, e]))⟩⟩⟩
      · simp only [List.size_toArray, List.length_append, List.length_take, List.length_drop, Array.length_toList]
        omega
      · rw [htake, ← hlen]
        exact List.take_left
    · have holds : ∀ j u, xs[j]? = some u → w.cell? ((⟨g, 0, none⟩ : Addr).add j) = some u := hown.cells (g := g) rfl
      have hr := run_append_grow (P := P) w t ty e i z ht hi hz ⟨g, 0, none⟩ n cap xs hown.1 holds a m c news hl hnews (by omega) (by omega) (growslice_fits (by omega) hbytes)
      have hgr := grown cap (by omega)
      exact ⟨_, _, hr, hgr.1, .inr ⟨rfl, hgr.2⟩⟩

end
end Go.Proofs.YtonlfplloenfcaaGreatDoor
namespace Go.Proofs.YtonlfplloenfcaaGreatDoor.C
open Go.RowKit

section
variable {P : Program} (w : World)
theorem run_append_strong2 (base : Nat) (t ty e : TypeId) (i : TypeInfo) (z : Value) (size bytes : Nat) (ht : P.underlying t = some (.slice e)) (hi : P.info? e = some i) (hz : i.zero = some z)
    (hsize : i.size = size) (hby : i.bytes = bytes) (hzs : z.cells.size = size) (hsz : 0 < size)
    (v : Value) (n : Nat) (xs : List Value) (hown : own2 w base e size v n xs)
    (a : Addr) (m c : Nat) (news : List Value) (hl : news.length = m * size) (hnews : ∀ j u, news[j]? = some u → w.cell? (a.add j) = some u) (h1 : ∀ u ∈ news, u.oneCell' = true)
    (h63 : n + m ≤ maxLen) (hbytes : (n + m) * bytes ≤ 140737488355328) (hbase : base ≤ w.heap.size) (hm : 0 < m) :
    ∃ v' w', (Builtin.append_ #[t, t] ty #[v, .slice (some a) m c]).run P w = .ok v' w' ∧ w'.ownsRow base e size v' (n + m) (xs ++ news) ∧
      ((v'.ownBlock = v.ownBlock ∧ w.grownBy w' v.ownBlock) ∨ (v'.ownBlock = some w.heap.size ∧ w.grownBy w' none)) := by
  rcases hown with hown | ⟨hlx, g, cur, rfl, hbg, hg, hcs, htake⟩
  · exact run_append_strong w base t ty e i z size bytes ht hi hz hsize hby hzs hsz v n xs hown a m c news hl hnews h1 h63 hbytes hbase hm
  · subst hsize
    subst hby
    have hlen : (xs ++ news).length = (n + m) * i.size := by rw [List.length_append, hlx, hl, Nat.add_mul]
    have holds : ∀ j u, xs[j]? = some u → w.cell? ((⟨g, 0, none⟩ : Addr).add j) = some u := fun j u hu => by
      rw [Addr.add_lit, Nat.zero_add, cell_of_row w g j cur e (0, 0) hg]
      rw [← htake, List.getElem?_take] at hu
      split at hu
      · simpa using hu
      · cases hu
    have hr := run_append_grow (P := P) w t ty e i z ht hi hz ⟨g, 0, none⟩ n n xs hlx holds a m c news hl hnews (by omega) (by simp only [maxLen] at h63; omega) (growslice_fits (by omega) hbytes)
    have hge := grownCap_ge w (n + m) n e
    have hcm : grownCap w (n + m) n e ≤ maxLen := grownCap_le_maxLen w (n + m) n e h63
    refine ⟨_, _, hr, ⟨hlen, .inr ⟨w.heap.size, _, _, rfl, hbase, heap_alloc_new w.drew _, hge, hcm, ?_, ?_⟩⟩, .inr ⟨rfl, ⟨rfl, rfl, rfl, by simp, fun k hk _ => Below.heap_alloc w.drew _ k hk⟩⟩⟩
    · simp only [Array.size_append, List.size_toArray, size_zeroCells, hzs, hlx, hl, ← Nat.add_mul]
      congr 1
      omega
    · simp only [Array.toList_append, List.append_assoc]
      rw [← List.append_assoc, ← hlen]
      exact List.take_left
theorem wpList_append_strong2 {ops : Array Oper} {rest : List Oper} {o : Oper} {a : Act} {Q : Exit → Act → World → Prop} (hgd : o.guard = none) (s x : Operand) (t : TypeId)
    (ho : o.op = .call { callee := .builtin .append, args := #[s, x], argTypes := #[t, t] })
    (base : Nat) (e : TypeId) (i : TypeInfo) (z : Value) (size bytes : Nat) (ht : P.underlying t = some (.slice e)) (hi : P.info? e = some i) (hz : i.zero = some z)
    (hsize : i.size = size) (hby : i.bytes = bytes) (hzs : z.cells.size = size) (hsz : 0 < size)
    (v : Value) (n : Nat) (xs : List Value) (hs : a.eval s = v) (hown : own2 w base e size v n xs)
    (ad : Addr) (m c : Nat) (news : List Value) (hx : a.eval x = .slice (some ad) m c) (hl : news.length = m * size) (hnews : ∀ j u, news[j]? = some u → w.cell? (ad.add j) = some u) (h1 : ∀ u ∈ news, u.oneCell' = true)
    (h63 : n + m ≤ maxLen) (hbytes : (n + m) * bytes ≤ 140737488355328) (hbase : base ≤ w.heap.size) (hm : 0 < m)
    (h : ∀ v' w', own2 w' base e size v' (n + m) (xs ++ news) → ((v'.ownBlock = v.ownBlock ∧ w.grownBy w' v.ownBlock) ∨ (v'.ownBlock = some w.heap.size ∧ w.grownBy w' none)) → wpList P ops Q rest (a.put o.dst v') w') : wpList P ops Q (o :: rest) a w := by
  obtain ⟨v', w', hr, h2, h3⟩ := run_append_strong2 (P := P) w base t o.type e i z size bytes ht hi hz hsize hby hzs hsz v n xs hown ad m c news hl hnews h1 h63 hbytes hbase hm
  refine wpList_plain hgd fun K hK => ?_
  unfold Oper.wp execOp
  simp only [ho, resolve, invoke, builtin, Sem.run_bind, Sem.run_pure, Result.andThen_ok, List.map_toArray, List.map_cons, List.map_nil, hs, hx, hr]
  exact hK _ _ (h v' w' (.inl h2) h3)
end
end Go.Proofs.YtonlfplloenfcaaGreatDoor.C
