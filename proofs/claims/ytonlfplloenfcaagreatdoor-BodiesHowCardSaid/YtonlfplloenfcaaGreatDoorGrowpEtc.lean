/-
  Book: grow, in plain words, over any program.
  footmanref01.Trim.
-/
import Derived.Test.YtonlfplloenfcaaGreatDoorHeldEtc
import Derived.Lib.IndexBytes
namespace Go.Proofs.YtonlfplloenfcaaGreatDoor
open Go.RowKit

/-- A list all of whose elements are marks. -/
def Marked (w : World) (E : TypeId) (sz : Nat) (v : Value) (n : Nat) (mk : Nat → Value) : Prop :=
  n = 0 ∨ ∃ b cap, v = .slice (some ⟨b, 0, none⟩) n cap ∧ (∃ cur, w.heap[b]? = some (.cells cur E (0, 0))) ∧ ∀ i, i < n * sz → w.cell? ⟨b, i, none⟩ = some (mk i)
theorem Marked.of_row {w : World} {Bs E sz n : Nat} {v : Value} {mk : Nat → Value} (h : Row w Bs E sz v n n mk) : Marked w E sz v n mk := by
  rcases Nat.eq_zero_or_pos n with h0 | h0
  · exact .inl h0
  · obtain ⟨b, cap, rfl, _, _, hc, _⟩ := h.form h0
    exact .inr ⟨b, cap, rfl, hc, fun i hi => h.cell hi (Nat.le_refl _)⟩
theorem Marked.same {w w' : World} {E sz n : Nat} {v : Value} {mk : Nat → Value} (h : Marked w E sz v n mk) (hs : ∀ b, v.ownBlock = some b → b < w.heap.size → w'.heap[b]? = w.heap[b]?) : Marked w' E sz v n mk := by
  rcases h with h0 | ⟨b, cap, rfl, ⟨cur, hc⟩, hcell⟩
  · exact .inl h0
  · have e := hs b rfl (Array.getElem?_eq_some_iff.1 hc).1
    exact .inr ⟨b, cap, rfl, ⟨cur, e.trans hc⟩, fun i hi => (World.cell?_of_block (w := w) (a := ⟨b, i, none⟩) e).trans (hcell i hi)⟩
/-- The longer one begins with the list, in one block. -/
theorem Marked.front {w : World} {Bs E sz n k : Nat} {v long : Value} {mk : Nat → Value} (h : Row w Bs E sz long (n + k) (n + k) mk) (hf : n = 0 ∨ ∃ b cap, v = .slice (some ⟨b, 0, none⟩) n cap) (ho : long.ownBlock = v.ownBlock) : Marked w E sz v n mk := by
  rcases hf with h0 | ⟨b, cap, rfl⟩
  · exact .inl h0
  · rcases Nat.eq_zero_or_pos (n + k) with h0 | h0
    · exact .inl (by omega)
    · obtain ⟨b', cap', rfl, _, _, hc, _⟩ := h.form h0
      obtain rfl : b' = b := by simpa [Value.ownBlock] using ho
      exact .inr ⟨b', cap, rfl, hc, fun i hi => h.cell (Nat.lt_of_lt_of_le hi (Nat.mul_le_mul_right _ (by omega))) (Nat.le_refl _)⟩


theorem grown_trans {a b c : World} {row row' : Option Nat} (h : a.grownBy b row) (k : b.grownBy c row') (hr : ∀ g, row' = some g → row = some g ∨ a.heap.size ≤ g) : a.grownBy c row :=
  ⟨k.os.trans h.os, k.tape.trans h.tape, k.output.trans h.output, Nat.le_trans h.size k.size, fun i hi hne => (k.block i (Nat.lt_of_lt_of_le hi h.size) (fun e => by
    rcases hr i e.symm with h1 | h1
    · exact hne h1.symm
    · omega)).trans (h.block i hi hne)⟩

/-- Lists in a book while they are made longer: k are done. -/
def GInv (E H : TypeId) (sz Bs ga N : Nat) (l : Nat → Value) (n m : Nat → Nat) (mk : Nat → Nat → Value) (w wr : World) (k : Nat) (L : Nat → Value) : Prop :=
  Below Bs w wr ∧ Tys [E, H] w wr ∧ ArrIs wr H ga N l L m ∧ (∀ j, k ≤ j → L j = .slice none 0 0) ∧
  (∀ j, j < k → Row wr Bs E sz (L j) (n j + 40) (n j + 40) (mk (m j)) ∧ Marked wr E sz (l j) (n j) (mk (m j)) ∧ ∀ j', k ≤ j' → j' < N → ∀ b, (L j).ownBlock = some b → (l j').ownBlock ≠ some b) ∧
  (∀ j, k ≤ j → j < N → Row wr Bs E sz (l j) (n j) (n j) (mk (m j)))

/-- One list while it is made longer by q. -/
def GIn (E : TypeId) (sz Bs : Nat) (lk : Value) (nk : Nat) (mk : Nat → Value) (W0 wi : World) (v : Value) (q : Nat) : Prop :=
  W0.grownBy wi lk.ownBlock ∧ Row wi Bs E sz v (nk + q) (nk + q) mk ∧ (v.ownBlock = lk.ownBlock ∨ ((∃ b, W0.heap.size ≤ b ∧ v.ownBlock = some b) ∧ Marked wi E sz lk nk mk))

theorem GIn.marked {E : TypeId} {sz Bs nk q : Nat} {lk v : Value} {mk : Nat → Value} {W0 wi : World} (h : GIn E sz Bs lk nk mk W0 wi v q) (hf : nk = 0 ∨ ∃ b cap, lk = .slice (some ⟨b, 0, none⟩) nk cap) : Marked wi E sz lk nk mk := by
  obtain ⟨_, h2, h3 | ⟨_, h3⟩⟩ := h
  · exact Marked.front h2 hf h3
  · exact h3

theorem GIn.step {E : TypeId} {sz Bs nk q : Nat} {lk v v' : Value} {mk : Nat → Value} {W0 wi w3 w4 : World} {xs news : List Value} (h : GIn E sz Bs lk nk mk W0 wi v q) (hf : nk = 0 ∨ ∃ b cap, lk = .slice (some ⟨b, 0, none⟩) nk cap)
    (hlk : ∀ b, lk.ownBlock = some b → b < W0.heap.size)
    (h3 : Below wi.heap.size wi w3) (hx : ∀ i, i < (nk + q) * sz → xs[i]? = some (mk i)) (hxl : xs.length = (nk + q) * sz) (hnews : ∀ i, i < sz → news[i]? = some (mk ((nk + q) * sz + i)))
    (hown : w4.ownsRow Bs E sz v' (nk + q + 1) (xs ++ news)) (hat : (v'.ownBlock = v.ownBlock ∧ w3.grownBy w4 v.ownBlock) ∨ (v'.ownBlock = some w3.heap.size ∧ w3.grownBy w4 none)) :
    GIn E sz Bs lk nk mk W0 w4 v' (q + 1) := by
  have hm := h.marked hf
  obtain ⟨h1, h2, h4⟩ := h
  have g3 : W0.grownBy w3 lk.ownBlock := grown_trans h1 (grown_of_below h3 none) (fun g hg => by cases hg)
  have hrow : Row w4 Bs E sz v' (nk + (q + 1)) (nk + (q + 1)) mk := by
    refine ⟨_, hown, fun i hi => ?_⟩
    by_cases hlt : i < (nk + q) * sz
    · rw [List.getElem?_append_left (by omega)]
      exact hx i hlt
    · rw [List.getElem?_append_right (by omega), hxl]
      have e : (nk + (q + 1)) * sz = (nk + q) * sz + sz := by rw [show nk + (q + 1) = nk + q + 1 by omega, Nat.add_mul (nk + q) 1 sz, Nat.one_mul]
      rw [hnews (i - (nk + q) * sz) (by omega)]
      congr 2
      omega
  have hm3 : Marked w3 E sz lk nk mk := hm.same fun b hb _ => h3.block b (Nat.lt_of_lt_of_le (hlk b hb) h1.size)
  rcases hat with ⟨ho, hg⟩ | ⟨ho, hg⟩
  · refine ⟨grown_trans g3 hg (fun g hg' => ?_), hrow, ?_⟩
    · rcases h4 with h4 | ⟨⟨b, hb, hvb⟩, _⟩
      · left; rw [← h4]; exact hg'
      · right
        rw [hvb] at hg'
        injection hg' with hg'
        omega
    · rcases h4 with h4 | ⟨⟨b, hb, hvb⟩, _⟩
      · exact .inl (ho.trans h4)
      · refine .inr ⟨⟨b, hb, ho.trans hvb⟩, hm3.same fun b' hb' _ => hg.block b' (Nat.lt_of_lt_of_le (hlk b' hb') (Nat.le_trans h1.size h3.size)) (fun e => ?_)⟩
        rw [hvb] at e
        injection e with e
        have := hlk b' hb'
        omega
  · refine ⟨grown_trans g3 hg (fun g hg' => by cases hg'), hrow, .inr ⟨⟨_, Nat.le_trans h1.size h3.size, ho⟩, hm3.same fun b' hb' _ => hg.block b' (Nat.lt_of_lt_of_le (hlk b' hb') (Nat.le_trans h1.size h3.size)) (by simp)⟩⟩

theorem GInv.step {E H : TypeId} {sz Bs ga N k : Nat} {l L : Nat → Value} {n m : Nat → Nat} {mk : Nat → Nat → Value} {w wr wi : World} {v : Value} {o : Obj} (hEH : E ≠ H) (hga : Bs ≤ ga) (hk : k < N) (hBw : Bs ≤ wr.heap.size)
    (hD : ∀ i j b, i < N → j < N → i ≠ j → (l i).ownBlock = some b → (l j).ownBlock ≠ some b)
    (h : GInv E H sz Bs ga N l n m mk w wr k L) (hi : GIn E sz Bs (l k) (n k) (mk (m k)) (wr.alloc o) wi v 40) :
    GInv E H sz Bs ga N l n m mk w (wi.setCell ⟨ga, k * 3 + 1, none⟩ v) (k + 1) (fun j => if j = k then v else L j) := by
  obtain ⟨hb, hty, hA, hL, hdone, hrows⟩ := h
  have hrk := hrows k (Nat.le_refl _) hk
  have hlt : ∀ j, k ≤ j → j < N → ∀ b, (l j).ownBlock = some b → b < wr.heap.size := fun j h1 h2 b hb => by
    obtain ⟨xs, hx⟩ := (hrows j h1 h2).own
    exact (hx.lt b hb).2
  have hlk := hlt k (Nat.le_refl _) hk
  have hlkB : ∀ b, (l k).ownBlock = some b → Bs ≤ b := fun b hb => by
    obtain ⟨xs, hx⟩ := hrk.own
    exact (hx.lt b hb).1
  have hlkE : ∀ b, (l k).ownBlock = some b → ∃ cs, wr.heap[b]? = some (.cells cs E (0, 0)) := fun b hb => by
    obtain ⟨xs, hx⟩ := hrk.own
    exact own_heap hx hb
  have hf : n k = 0 ∨ ∃ b cap, l k = .slice (some ⟨b, 0, none⟩) (n k) cap := by
    rcases Nat.eq_zero_or_pos (n k) with h0 | h0
    · exact .inl h0
    · obtain ⟨b, cap, e, _⟩ := hrk.form h0
      exact .inr ⟨b, cap, e⟩
  have hm := hi.marked hf
  obtain ⟨hg, hrow, hat⟩ := hi
  have hgr : wr.grownBy wi (l k).ownBlock := grown_trans (World.grownBy_alloc wr o (l k).ownBlock) hg (fun g h => .inl h)
  have hgaw : ga < wr.heap.size := hA.lt
  have hgane : some ga ≠ (l k).ownBlock := fun e => by
    obtain ⟨cs, h1⟩ := hlkE ga e.symm
    obtain ⟨cur, h2⟩ := hA.heap
    rw [h1] at h2
    injection h2 with h2
    injection h2 with _ h3
    exact hEH h3
  have hAi : ArrIs wi H ga N l L m := hA.same (hgr.block ga hgaw hgane)
  obtain ⟨cur, hcur⟩ := hAi.heap
  have hbi : Below Bs w wi := (hb.alloc hBw o).grown hg (by simp; omega) hlkB
  have hti : Tys [E, H] w wi := (hty.alloc o).grown hg (fun g e => by
    obtain ⟨cs, h1⟩ := hlkE g e
    exact ⟨cs, _, _, (Below.heap_alloc _ _ _ (hlk g e)).trans h1, by simp⟩)
  have hts : Tys [H] wi (wi.setCell ⟨ga, k * 3 + 1, none⟩ v) := (Tys.refl _ _).setCell (p := ⟨ga, k * 3 + 1, none⟩) hcur (by simp) v
  have hEn : E ∉ [H] := by simp [hEH]
  have hne : ∀ b cs, wi.heap[b]? = some (Obj.cells cs E (0, 0)) → (wi.setCell ⟨ga, k * 3 + 1, none⟩ v).heap[b]? = wi.heap[b]? := fun b cs hb => Below.heap_setCell _ _ _ _ (fun e => by
    subst e
    rw [hcur] at hb
    injection hb with hb
    injection hb with _ h3
    exact hEH h3.symm)
  have mset : ∀ {v' n' mk'}, Marked wi E sz v' n' mk' → Marked (wi.setCell ⟨ga, k * 3 + 1, none⟩ v) E sz v' n' mk' := fun h => by
    rcases h with h0 | ⟨b, cap, rfl, ⟨c2, hc⟩, hcell⟩
    · exact .inl h0
    · have e := hne b c2 hc
      exact .inr ⟨b, cap, rfl, ⟨c2, e.trans hc⟩, fun i hi => (World.cell?_of_block (w := wi) (a := ⟨b, i, none⟩) e).trans (hcell i hi)⟩
  refine ⟨hbi.setCell hga _, hti.trans (hts.mono (by simp)), hAi.setLong k v, fun j hj => ?_, fun j hj => ?_, fun j hj hjN => ?_⟩
  · simp only
    rw [if_neg (by omega)]
    exact hL j (by omega)
  · by_cases e : j = k
    · subst e
      simp only [if_true]
      refine ⟨hrow.tys hts hEn, mset hm, fun j' hj' hjN b hvb hlb => ?_⟩
      rcases hat with hat | ⟨⟨b', hb', hvb'⟩, _⟩
      · rw [hat] at hvb
        exact hD j j' b hk hjN (by omega) hvb hlb
      · have h1 := hlt j' (by omega) hjN b hlb
        rw [hvb'] at hvb
        injection hvb with hvb
        simp at hb'
        omega
    · simp only
      rw [if_neg e]
      obtain ⟨d1, d2, d3⟩ := hdone j (by omega)
      have hLlt : ∀ b, (L j).ownBlock = some b → b < wr.heap.size ∧ some b ≠ (l k).ownBlock := fun b hb => by
        obtain ⟨xs, hx⟩ := d1.own
        exact ⟨(hx.lt b hb).2, fun e' => d3 k (Nat.le_refl _) hk b hb e'.symm⟩
      refine ⟨(d1.kept hgr ?_).tys hts hEn, ?_, fun j' hj' => d3 j' (by omega)⟩
      · cases hv : (L j).ownBlock with
        | none => exact .inl rfl
        | some b => exact .inr (hLlt b hv).2
      · exact mset (d2.same fun b hb hlt2 => hgr.block b hlt2 (fun e' => hD j k b (by omega) hk e hb e'.symm))
  · refine ((hrows j (by omega) hjN).kept hgr ?_).tys hts hEn
    cases hv : (l j).ownBlock with
    | none => exact .inl rfl
    | some b => exact .inr (fun e' => hD j k b hjN hk (by omega) hv e'.symm)
end Go.Proofs.YtonlfplloenfcaaGreatDoor
namespace Go.Proofs.YtonlfplloenfcaaGreatDoor
open Go.RowKit

theorem bytes_cons (t : ByteArray) (h : 0 < t.size) : t.data.toList = t[0] :: (t.extract 1 t.size).data.toList := by
  rw [Lib.extract_to_end]
  have e : t.data.toList[0]? = some t[0] := List.getElem?_eq_getElem (by simpa using h)
  cases hl : t.data.toList with
  | nil => rw [hl] at e; simp at e
  | cons x r => rw [hl] at e; simp at e; simp [e]
theorem bytes_snoc (t : ByteArray) (h : 0 < t.size) : t.data.toList = (t.extract 0 (t.size - 1)).data.toList ++ [t[t.size - 1]] := by
  have hl : t.data.toList.length = t.size := rfl
  rw [Lib.extract_data, Nat.sub_zero, List.drop_zero]
  have e : t.data.toList[t.size - 1]? = some t[t.size - 1] := List.getElem?_eq_getElem (by rw [hl]; omega)
  conv => lhs; rw [← List.take_append_drop (t.size - 1) t.data.toList]
  congr 1
  apply List.ext_getElem?
  intro j
  rw [List.getElem?_drop]
  match j with
  | 0 => simpa using e
  | j + 1 => rw [List.getElem?_eq_none (by rw [hl]; omega)]; rfl
theorem bytes_nil (t : ByteArray) (h : t.size = 0) : t.data.toList = [] := List.eq_nil_of_length_eq_zero h
theorem bytes_ext {a b : ByteArray} (h : a.data.toList = b.data.toList) : a = b := by
  obtain ⟨⟨a⟩⟩ := a
  obtain ⟨⟨b⟩⟩ := b
  simp only at h
  rw [h]
theorem bytes_mk (t : ByteArray) (l : List UInt8) (h : t.data.toList = l) : t = ⟨l.toArray⟩ := bytes_ext (by simp [h])
theorem extract_size_le (t : ByteArray) (a b : Nat) : (t.extract a b).size ≤ t.size := by
  have h := congrArg List.length (Lib.extract_data t a b)
  rw [List.length_take, List.length_drop] at h
  have e1 : (t.extract a b).data.toList.length = (t.extract a b).size := rfl
  have e2 : t.data.toList.length = t.size := rfl
  omega
theorem extract_size_one (t : ByteArray) (h : 0 < t.size) : (t.extract 1 t.size).size = t.size - 1 := by
  have h := congrArg List.length (Lib.extract_data t 1 t.size)
  rw [List.length_take, List.length_drop] at h
  have e1 : (t.extract 1 t.size).data.toList.length = (t.extract 1 t.size).size := rfl
  have e2 : t.data.toList.length = t.size := rfl
  omega
theorem extract_size_last (t : ByteArray) (h : 0 < t.size) : (t.extract 0 (t.size - 1)).size = t.size - 1 := by
  have h := congrArg List.length (Lib.extract_data t 0 (t.size - 1))
  rw [List.length_take, List.length_drop] at h
  have e1 : (t.extract 0 (t.size - 1)).data.toList.length = (t.extract 0 (t.size - 1)).size := rfl
  have e2 : t.data.toList.length = t.size := rfl
  omega

/-- Behind the first loop. -/
def TrimB (s t : ByteArray) : Prop := (t.data.toList.reverse.dropWhile blankB).reverse = trimmed s.data.toList
theorem trimB_start {s t : ByteArray} (h : t.data.toList.dropWhile blankB = s.data.toList.dropWhile blankB) (hn : t.data.toList.dropWhile blankB = t.data.toList) : TrimB s t := by
  unfold TrimB
  rw [trimmed_eq, ← h, hn]
theorem trimB_step {s t : ByteArray} (h : TrimB s t) (h0 : 0 < t.size) (hb : blankB t[t.size - 1] = true) : TrimB s (t.extract 0 (t.size - 1)) := by
  unfold TrimB at h ⊢
  rw [← h]
  conv => rhs; rw [bytes_snoc t h0]
  rw [List.reverse_append]
  simp [hb]
theorem trimB_done {s t : ByteArray} (h : TrimB s t) (hb : ∀ h0 : 0 < t.size, blankB t[t.size - 1] = false) : t = ⟨(trimmed s.data.toList).toArray⟩ := by
  refine bytes_mk t _ ?_
  unfold TrimB at h
  rw [← h]
  rcases Nat.eq_zero_or_pos t.size with h0 | h0
  · rw [bytes_nil t h0]; rfl
  · have hb := hb h0
    conv => rhs; rw [bytes_snoc t h0]
    conv => lhs; rw [bytes_snoc t h0]
    rw [List.reverse_append]
    simp [hb]

set_option maxRecDepth 100000 in
theorem rtrim_any (s : ByteArray) (w : World) (hs : s.size ≤ 140737488355328) :
   Calls Tryz.prog 78 #[.string s] w fun e w' => e = .returned (.string ⟨(trimmed s.data.toList).toArray⟩) ∧ ∃ q, w' = w.drewN q := by
  go_enter Tryz.func78, Tryz.ntmps78
  go_wp2_with fail
  go_loopw [0] (fun v wr => ∃ t : ByteArray, v = .string t ∧ t.size ≤ s.size ∧ Hid (t.data.toList.dropWhile blankB = s.data.toList.dropWhile blankB) ∧ ∃ q, wr = w.drewN q) (fun v _ => Lib.strSize v)
  case atStart => exact ⟨s, rfl, Nat.le_refl _, rfl, 0, rfl⟩
  case round =>
    obtain ⟨t, rfl, htz, ht, q, rfl⟩ := hrel
    by_cases h0 : 0 < t.size
    · have hcons := bytes_cons t h0
      cases hb : blankB t[0]
      · have hst : TrimB s t := trimB_start ht.out (by rw [hcons]; simp [List.dropWhile, hb])
        have HST := Lib.hid hst
        have HB := Lib.hid hb
        clear hb hst ht hcons
        go_wp2_with fail
        refine (blank_any _ _).mono ?_
        rintro e w' ⟨rfl, rfl⟩
        rw [HB.out]
        go_wp2_with fail
        go_loopw [0] (fun v wr => ∃ t : ByteArray, v = .string t ∧ t.size ≤ s.size ∧ Hid (TrimB s t) ∧ ∃ q, wr = w.drewN q) (fun v _ => Lib.strSize v)
        case atStart => exact ⟨t, rfl, htz, HST, _, rfl⟩
        case round =>
          clear htz HST
          clear q
          obtain ⟨t, rfl, htz, ht, q, rfl⟩ := hrel
          by_cases h0 : 0 < t.size
          · have hz1 := extract_size_last t h0
            have hix : (t.size : Int) - 1 = ((t.size - 1 : Nat) : Int) := by omega
            cases hb : blankB t[t.size - 1]
            · have hst := trimB_done ht.out (fun _ => hb)
              have HST := Lib.hid hst
              have HB := Lib.hid hb
              clear hb hst ht hz1
              go_wp2_with fail
              refine (blank_any _ _).mono ?_
              rintro e w' ⟨rfl, rfl⟩
              rw [HB.out]
              go_wp2_with fail
              go_ret
              exact ⟨ret_str HST.out, _, rfl⟩
            · have hst := trimB_step ht.out h0 hb
              have HST := Lib.hid hst
              have HB := Lib.hid hb
              have HZ := Lib.hid hz1
              clear hb hst ht hz1
              go_wp2_with fail
              refine (blank_any _ _).mono ?_
              rintro e w' ⟨rfl, rfl⟩
              rw [HB.out]
              go_wp2_with fail
              go_roundw
              case rel => exact ⟨_, rfl, by rw [HZ.out]; omega, HST, _, rfl⟩
              case measure => simp only [Lib.strSize_string]; rw [HZ.out]; omega
          · have hst := trimB_done ht.out (fun h => absurd h h0)
            have HST := Lib.hid hst
            clear hst ht
            go_wp2_with fail
            go_ret
            exact ⟨ret_str HST.out, _, rfl⟩
      · have hst : (t.extract 1 t.size).data.toList.dropWhile blankB = s.data.toList.dropWhile blankB := by
          rw [← ht.out, hcons]; simp [List.dropWhile, hb]
        have hz1 := extract_size_one t h0
        have HST := Lib.hid hst
        have HB := Lib.hid hb
        have HZ := Lib.hid hz1
        clear hb hst ht hcons hz1
        go_wp2_with fail
        refine (blank_any _ _).mono ?_
        rintro e w' ⟨rfl, rfl⟩
        rw [HB.out]
        go_wp2_with fail
        go_roundw
        case rel => exact ⟨_, rfl, by rw [HZ.out]; omega, HST.out, _, rfl⟩
        case measure => simp only [Lib.strSize_string]; rw [HZ.out]; omega
    · have h1 : t.size = 0 := by omega
      have hst : TrimB s t := trimB_start ht.out (by rw [bytes_nil t h1]; rfl)
      have HST := Lib.hid hst
      clear hst ht h1
      go_wp2_with fail
      go_loopw [0] (fun v wr => ∃ t : ByteArray, v = .string t ∧ t.size ≤ s.size ∧ Hid (TrimB s t) ∧ ∃ q, wr = w.drewN q) (fun v _ => Lib.strSize v)
      case atStart => exact ⟨t, rfl, htz, HST, _, rfl⟩
      case round =>
        clear htz HST
        clear q
        obtain ⟨t, rfl, htz, ht, q, rfl⟩ := hrel
        by_cases h0 : 0 < t.size
        · have hz1 := extract_size_last t h0
          have hix : (t.size : Int) - 1 = ((t.size - 1 : Nat) : Int) := by omega
          cases hb : blankB t[t.size - 1]
          · have hst := trimB_done ht.out (fun _ => hb)
            have HST := Lib.hid hst
            have HB := Lib.hid hb
            clear hb hst ht hz1
            go_wp2_with fail
            refine (blank_any _ _).mono ?_
            rintro e w' ⟨rfl, rfl⟩
            rw [HB.out]
            go_wp2_with fail
            go_ret
            exact ⟨ret_str HST.out, _, rfl⟩
          · have hst := trimB_step ht.out h0 hb
            have HST := Lib.hid hst
            have HB := Lib.hid hb
            have HZ := Lib.hid hz1
            clear hb hst ht hz1
            go_wp2_with fail
            refine (blank_any _ _).mono ?_
            rintro e w' ⟨rfl, rfl⟩
            rw [HB.out]
            go_wp2_with fail
            go_roundw
            case rel => exact ⟨_, rfl, by rw [HZ.out]; omega, HST, _, rfl⟩
            case measure => simp only [Lib.strSize_string]; rw [HZ.out]; omega
        · have hst := trimB_done ht.out (fun h => absurd h h0)
          have HST := Lib.hid hst
          clear hst ht
          go_wp2_with fail
          go_ret
          exact ⟨ret_str HST.out, _, rfl⟩
end Go.Proofs.YtonlfplloenfcaaGreatDoor
