/-
  Book: one kind of lists, in its three states. Plain facts, over any program.
-/
import Derived.Test.YtonlfplloenfcaaGreatDoorGrowpEtc
namespace Go.Proofs.YtonlfplloenfcaaGreatDoor
open Go.RowKit

def lenOf : Value → Nat
  | .slice _ n _ => n
  | _ => 0
def hl (hs : List (Value × Nat)) (j : Nat) : Value := (hs.getD j (.slice none 0 0, 0)).1
def hm (hs : List (Value × Nat)) (j : Nat) : Nat := (hs.getD j (.slice none 0 0, 0)).2
def hn (hs : List (Value × Nat)) (j : Nat) : Nat := lenOf (hl hs j)
def Far (hs : List (Value × Nat)) : Prop := ∀ i j b, i < hs.length → j < hs.length → i ≠ j → (hl hs i).ownBlock = some b → (hl hs j).ownBlock ≠ some b
def Nums (hs : List (Value × Nat)) : Prop := ∀ j, j < hs.length → hn hs j ≤ 1000000000 ∧ hm hs j ≤ 1000000

/-- Lists of a kind, owned, each for itself; k: of each so many elements are marked (none, or all). -/
def Kind (w : World) (Bs : Nat) (E H : TypeId) (sz : Nat) (v : Value) (hs : List (Value × Nat)) (all : Bool) (mk : Nat → Nat → Value) : Prop :=
  w.ownsRow Bs H 3 v hs.length (hcells hs) ∧ ∀ j, j < hs.length → Row w Bs E sz (hl hs j) (hn hs j) (if all then hn hs j else 0) (mk (hm hs j))
/-- They have been made longer. -/
def KindLong (w : World) (Bs : Nat) (E H : TypeId) (sz : Nat) (v : Value) (hs : List (Value × Nat)) (mk : Nat → Nat → Value) : Prop :=
  (∃ A c, v = .slice A hs.length c) ∧ (hs = [] ∨ ∃ ga cap L, v = .slice (some ⟨ga, 0, none⟩) hs.length cap ∧ ArrIs w H ga hs.length (hl hs) L (hm hs) ∧
    ∀ j, j < hs.length → Row w Bs E sz (L j) (hn hs j + 40) (hn hs j + 40) (mk (hm hs j)) ∧ Marked w E sz (hl hs j) (hn hs j) (mk (hm hs j)))

section
variable {w w' : World} {Bs : Nat} {E H : TypeId} {sz : Nat} {v : Value} {hs : List (Value × Nat)} {all : Bool} {mk : Nat → Nat → Value} {es : List TypeId}
theorem Kind.tys (h : Kind w Bs E H sz v hs all mk) (ht : Tys es w w') (hE : E ∉ es) (hH : H ∉ es) : Kind w' Bs E H sz v hs all mk :=
  ⟨own_tys h.1 ht hH, fun j hj => (h.2 j hj).tys ht hE⟩
theorem Marked.tys {E : TypeId} {sz n : Nat} {v : Value} {mk : Nat → Value} (h : Marked w E sz v n mk) (ht : Tys es w w') (hE : E ∉ es) : Marked w' E sz v n mk := by
  rcases h with h0 | ⟨b, cap, rfl, ⟨cur, hc⟩, hcell⟩
  · exact .inl h0
  · have e := ht.block b (Array.getElem?_eq_some_iff.1 hc).1 (fun c e' f h' he => by rw [hc] at h'; injection h' with h'; injection h' with _ h2; exact hE (h2 ▸ he))
    exact .inr ⟨b, cap, rfl, ⟨cur, e.trans hc⟩, fun i hi => (World.cell?_of_block (w := w) (a := ⟨b, i, none⟩) e).trans (hcell i hi)⟩
theorem KindLong.tys (h : KindLong w Bs E H sz v hs mk) (ht : Tys es w w') (hE : E ∉ es) (hH : H ∉ es) : KindLong w' Bs E H sz v hs mk := by
  refine ⟨h.1, ?_⟩
  rcases h.2 with h0 | ⟨ga, cap, L, e, hA, hR⟩
  · exact .inl h0
  · exact .inr ⟨ga, cap, L, e, hA.tys ht hH, fun j hj => ⟨(hR j hj).1.tys ht hE, (hR j hj).2.tys ht hE⟩⟩
theorem KindLong.below (h : KindLong w Bs E H sz v hs mk) (hb : Below w.heap.size w w') : KindLong w' Bs E H sz v hs mk := by
  refine ⟨h.1, ?_⟩
  rcases h.2 with h0 | ⟨ga, cap, L, e, hA, hR⟩
  · exact .inl h0
  · exact .inr ⟨ga, cap, L, e, hA.same (hb.block ga hA.lt), fun j hj => ⟨(hR j hj).1.below hb, (hR j hj).2.same fun b _ hlt => hb.block b hlt⟩⟩
theorem Kind.form (h : Kind w Bs E H sz v hs all mk) : ∃ A c, v = .slice A hs.length c := own_form h.1
theorem Kind.arr (h : Kind w Bs E H sz v hs all mk) (hne : hs ≠ []) : ∃ ga cap, v = .slice (some ⟨ga, 0, none⟩) hs.length cap ∧ Bs ≤ ga ∧ ArrIs w H ga hs.length (hl hs) (fun _ => .slice none 0 0) (hm hs) := by
  rcases h.1.2 with ⟨_, h0⟩ | ⟨g, cap, cur, rfl, hb, _⟩
  · exact absurd (List.eq_nil_of_length_eq_zero h0) hne
  · exact ⟨g, cap, rfl, hb, ArrIs.of_own h.1⟩
theorem Kind.slices (h : Kind w Bs E H sz v hs all mk) : ∀ j, j < hs.length → ∃ A c, hl hs j = .slice A (hn hs j) c := fun j hj => by
  obtain ⟨xs, hx⟩ := (h.2 j hj).own
  exact own_form hx
theorem Kind.nil (hv : v = .slice none 0 0) : Kind w Bs E H sz v [] all mk := ⟨by subst hv; exact World.ownsRow_nil _ _ _ _, fun j hj => by simp at hj⟩
/-- One more is held. -/
theorem Kind.push {v' l : Value} {m n : Nat} {xs : List Value} (_h : Kind w Bs E H sz v hs false mk) (hrows : ∀ j, j < hs.length → Row w' Bs E sz (hl hs j) (hn hs j) 0 (mk (hm hs j)))
    (hown : w'.ownsRow Bs H 3 v' (hs.length + 1) (hcells hs ++ [l, .slice none 0 0, .int .i64 (m : Int)])) (hl' : w'.ownsRow Bs E sz l n xs) (hlen : lenOf l = n) : Kind w' Bs E H sz v' (hs ++ [(l, m)]) false mk := by
  refine ⟨by rw [hcells_append, List.length_append]; exact hown, fun j hj => ?_⟩
  rw [List.length_append] at hj
  simp only [List.length_singleton] at hj
  by_cases e : j < hs.length
  · have e1 : (hs ++ [(l, m)]).getD j (.slice none 0 0, 0) = hs.getD j (.slice none 0 0, 0) := by simp [List.getD, List.getElem?_append_left e]
    have := hrows j e
    unfold hn hl hm at this ⊢
    rw [e1]
    exact this
  · have e1 : (hs ++ [(l, m)]).getD j (.slice none 0 0, 0) = (l, m) := by
      obtain rfl : j = hs.length := by omega
      simp [List.getD]
    unfold hn hl hm
    rw [e1]
    simp only [hlen]
    exact ⟨xs, hl', fun i hi => by simp at hi⟩
end
theorem Far.nil : Far [] := fun i j b hi => by simp at hi
theorem Nums.nil : Nums [] := fun j hj => by simp at hj
theorem Far.push {hs : List (Value × Nat)} {l : Value} {m : Nat} (h : Far hs) (hn : ∀ j, j < hs.length → ∀ b, (hl hs j).ownBlock = some b → l.ownBlock ≠ some b) : Far (hs ++ [(l, m)]) := by
  have e1 : ∀ j, j < hs.length → hl (hs ++ [(l, m)]) j = hl hs j := fun j hj => by simp [hl, List.getD, List.getElem?_append_left hj]
  have e2 : hl (hs ++ [(l, m)]) hs.length = l := by simp [hl, List.getD]
  intro i j b hi hj hij
  rw [List.length_append] at hi hj
  simp only [List.length_singleton] at hi hj
  by_cases h1 : i < hs.length
  · by_cases h2 : j < hs.length
    · rw [e1 i h1, e1 j h2]; exact h i j b h1 h2 hij
    · obtain rfl : j = hs.length := by omega
      rw [e1 i h1, e2]; exact hn i h1 b
  · obtain rfl : i = hs.length := by omega
    rw [e2, e1 j (by omega)]
    intro hb hb'
    exact hn j (by omega) b hb' hb
theorem Nums.push {hs : List (Value × Nat)} {l : Value} {m : Nat} (h : Nums hs) (h1 : lenOf l ≤ 1000000000) (h2 : m ≤ 1000000) : Nums (hs ++ [(l, m)]) := by
  intro j hj
  rw [List.length_append] at hj
  simp only [List.length_singleton] at hj
  by_cases e : j < hs.length
  · have e1 : (hs ++ [(l, m)]).getD j (.slice none 0 0, 0) = hs.getD j (.slice none 0 0, 0) := by simp [List.getD, List.getElem?_append_left e]
    have := h j e
    unfold hn hl hm at this ⊢
    rw [e1]
    exact this
  · have e1 : (hs ++ [(l, m)]).getD j (.slice none 0 0, 0) = (l, m) := by
      obtain rfl : j = hs.length := by omega
      simp [List.getD]
    unfold hn hl hm
    rw [e1]
    exact ⟨h1, h2⟩
end Go.Proofs.YtonlfplloenfcaaGreatDoor
