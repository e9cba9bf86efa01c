/-
  heads.kind.get: a message's head, by how its first line is read.
-/
import Derived.Test.YtonlfplloenfcaaGreatDoorBufEtc
import Derived.Test.YtonlfplloenfcaaGreatDoorNamesEtc
import Derived.Test.YtonlfplloenfcaaGreatDoorResultsEtc
import Derived.Test.YtonlfplloenfcaaGreatDoorRoundEtc
import Derived.Test.YtonlfplloenfcaaGreatDoorWordEtc
import Derived.Test.YtonlfplloenfcaaGreatDoorANumberEtc
import Derived.Lib.OthersKept
namespace Go.Proofs.YtonlfplloenfcaaGreatDoor
open Go.RowKit Go.Shelf
attribute [local go_sem] Oper.semAt_some

theorem boxes_new (w : World) (t1 t2 t3 t4 t5 : TypeId) (c1 c2 c3 c4 c5 : Array Value) :
    ∃ W, ((((w.alloc (.cells c1 t1)).alloc (.cells c2 t2)).alloc (.cells c3 t3)).alloc (.cells c4 t4)).alloc (.cells c5 t5) = W ∧
      Blk W w.heap.size t1 c1 ∧ Blk W (w.heap.size + 1) t2 c2 ∧ Blk W (w.heap.size + 1 + 1) t3 c3 ∧ Blk W (w.heap.size + 1 + 1 + 1) t4 c4 ∧ Blk W (w.heap.size + 1 + 1 + 1 + 1) t5 c5 ∧ Below w.heap.size w W ∧ W.heap.size = w.heap.size + 5 := by
  refine ⟨_, rfl, ?_, ?_, ?_, ?_, ?_, ?_, by simp⟩
  · exact ((((Blk.new w t1 c1).alloc _).alloc _).alloc _).alloc _
  · have h := ((((Blk.new (w.alloc (.cells c1 t1)) t2 c2).alloc (.cells c3 t3)).alloc (.cells c4 t4)).alloc (.cells c5 t5))
    simpa only [World.size_alloc] using h
  · have h := (((Blk.new ((w.alloc (.cells c1 t1)).alloc (.cells c2 t2)) t3 c3).alloc (.cells c4 t4)).alloc (.cells c5 t5))
    simpa only [World.size_alloc] using h
  · have h := ((Blk.new (((w.alloc (.cells c1 t1)).alloc (.cells c2 t2)).alloc (.cells c3 t3)) t4 c4).alloc (.cells c5 t5))
    simpa only [World.size_alloc] using h
  · have h := (Blk.new ((((w.alloc (.cells c1 t1)).alloc (.cells c2 t2)).alloc (.cells c3 t3)).alloc (.cells c4 t4)) t5 c5)
    simpa only [World.size_alloc] using h
  · exact (((((Below.refl _ w).alloc (Nat.le_refl _) _).alloc (by simp) _).alloc (by simp; omega) _).alloc (by simp; omega) _).alloc (by simp; omega) _
/-- The three results stored. -/
theorem set_seven {w0 W : World} {s : Nat} {a b c d e x y : Value} (hB : Below s w0 W) (kM : Blk W (s + 1) 25 #[a, b, c, d, e]) (kN : Blk W (s + 1 + 1) 3 #[x]) (kE : Blk W (s + 1 + 1 + 1) 28 #[y]) (v0 v1 v2 v3 v4 vn ve : Value) :
    ∃ W9, ((((((W.setCell ⟨s + 1, 0, none⟩ v0).setCell ⟨s + 1, 1, none⟩ v1).setCell ⟨s + 1, 2, none⟩ v2).setCell ⟨s + 1, 3, none⟩ v3).setCell ⟨s + 1, 4, none⟩ v4).setCell ⟨s + 1 + 1, 0, none⟩ vn).setCell ⟨s + 1 + 1 + 1, 0, none⟩ ve = W9 ∧
      Blk W9 (s + 1) 25 #[v0, v1, v2, v3, v4] ∧ Blk W9 (s + 1 + 1) 3 #[vn] ∧ Blk W9 (s + 1 + 1 + 1) 28 #[ve] ∧ Below s w0 W9 ∧ Tys [25, 3, 28] W W9 ∧ W9.heap.size = W.heap.size ∧ (∀ k, s + 4 ≤ k → W9.heap[k]? = W.heap[k]?) := by
  obtain ⟨W5, h5, k5, t5, b5, z5⟩ := set_five kM v0 v1 v2 v3 v4
  rw [h5]
  have kN5 := blk_tys kN t5 (by decide)
  have kE5 := blk_tys kE t5 (by decide)
  have kN6 : Blk (W5.setCell ⟨s + 1 + 1, 0, none⟩ vn) (s + 1 + 1) 3 #[vn] := by simpa using kN5.set_ 0 vn
  have kE6 : Blk (W5.setCell ⟨s + 1 + 1, 0, none⟩ vn) (s + 1 + 1 + 1) 28 #[y] := kE5.far (p := ⟨s + 1 + 1, 0, none⟩) (show s + 1 + 1 + 1 ≠ s + 1 + 1 by omega) vn
  have kM6 : Blk (W5.setCell ⟨s + 1 + 1, 0, none⟩ vn) (s + 1) 25 #[v0, v1, v2, v3, v4] := k5.far (p := ⟨s + 1 + 1, 0, none⟩) (show s + 1 ≠ s + 1 + 1 by omega) vn
  have hb5 := hB.trans (b5 s (by omega))
  refine ⟨_, rfl, kM6.far (p := ⟨s + 1 + 1 + 1, 0, none⟩) (show s + 1 ≠ s + 1 + 1 + 1 by omega) ve, kN6.far (p := ⟨s + 1 + 1 + 1, 0, none⟩) (show s + 1 + 1 ≠ s + 1 + 1 + 1 by omega) ve, by simpa using kE6.set_ 0 ve, ?_, ?_, by simp [World.setCell, z5], fun k hk => ?_⟩
  · exact (hb5.setCell (p := ⟨s + 1 + 1, 0, none⟩) (show s ≤ s + 1 + 1 by omega) vn).setCell (p := ⟨s + 1 + 1 + 1, 0, none⟩) (show s ≤ s + 1 + 1 + 1 by omega) ve
  · exact ((t5.mono (by simp)).setCell (p := ⟨s + 1 + 1, 0, none⟩) kN5.heap (by simp) vn).setCell (p := ⟨s + 1 + 1 + 1, 0, none⟩) kE6.heap (by simp) ve
  · rw [← h5]
    have f := fun (X : World) (g o : Nat) (v : Value) (hg : k ≠ g) => Below.heap_setCell X ⟨g, o, none⟩ v k hg
    exact ((f _ _ _ _ (by omega)).trans (f _ _ _ _ (by omega))).trans ((((((f _ _ _ _ (by omega)).trans (f _ _ _ _ (by omega))).trans (f _ _ _ _ (by omega))).trans (f _ _ _ _ (by omega))).trans (f _ _ _ _ (by omega))))
/-- What the rounds over a head's lines keep. -/
def HeadIs (K : Asks) : List (List UInt8) → Value → Value → Value → Value → Prop
  | [], c0, c1, c2, v => c0 = .string ⟨#[]⟩ ∧ c1 = .string ⟨#[]⟩ ∧ c2 = .int .i64 0 ∧ v = .slice none 0 0
  | x :: _, c0, c1, c2, _ => K.ok x = true ∧ c0 = .string (K.m x) ∧ c1 = .string (K.t x) ∧ c2 = .int .i64 (K.s x)
structure KInv (K : Asks) (w : World) (fid : Nat) (ls pre : List (List UInt8)) (W : World) (v c0 c1 c2 : Value) : Prop where
  msg : Blk W (w.heap.size + 1) 25 #[c0, c1, c2, v, .slice none 0 0]
  own : W.ownsRow w.heap.size 63 2 v pre.tail.length (fcells (pre.tail.map fieldOf))
  free : v.ownBlock ≠ some (w.heap.size + 5)
  first : HeadIs K pre c0 c1 c2 v
  good : pre.tail.all fieldOK = true
  sofar : pre <+: ls
  kind : Blk W w.heap.size 124 #[.func (.func fid) #[] #[]]
  num : Blk W (w.heap.size + 1 + 1) 3 #[.int .i64 0]
  err : Blk W (w.heap.size + 1 + 1 + 1) 28 #[.int .i64 0]
  room : w.heap.size + 6 ≤ W.heap.size
  bel : Below w.heap.size w W
def KI (K : Asks) (w : World) (fid : Nat) (ls pre : List (List UInt8)) (W : World) : Prop := ∃ v c0 c1 c2, KInv K w fid ls pre W v c0 c1 c2
/-- What a round leaves that refuses the head. -/
def KX (K : Asks) (w : World) (l : List UInt8) (c : Code) (_ : List (List UInt8)) (W : World) : Prop :=
  c = .ret ∧ Blk W (w.heap.size + 1) 25 #[.string ⟨#[]⟩, .string ⟨#[]⟩, .int .i64 0, .slice none 0 0, .slice none 0 0] ∧
    Blk W (w.heap.size + 1 + 1) 3 #[.int .i64 0] ∧ Blk W (w.heap.size + 1 + 1 + 1) 28 #[.int .i64 8] ∧ gE K l = 8 ∧ Below w.heap.size w W
theorem own_grown {w w' : World} {base n size : Nat} {e : TypeId} {v : Value} {xs : List Value} {row : Option Nat} (h : w.ownsRow base e size v n xs) (hg : w.grownBy w' row) (hr : ∀ r, row = some r → ∃ o : Obj, w.heap[r]? = some o ∧ o.isCells = false) : w'.ownsRow base e size v n xs := by
  refine h.kept hg ?_
  cases hv : v.ownBlock with
  | none => exact .inl rfl
  | some g =>
    refine .inr fun e => ?_
    obtain ⟨cs, hc⟩ := own_heap h hv
    obtain ⟨o, ho, hi⟩ := hr g e.symm
    rw [hc] at ho
    injection ho with ho
    rw [← ho] at hi
    cases hi
theorem KI_own (K : Asks) (w : World) (fid : Nat) (ls : List (List UInt8)) (B : Nat) (hB : w.heap.size ≤ B) : OwnFrom B (KI K w fid ls) := by
  rintro pre W W' row ⟨v, c0, c1, c2, h⟩ hg hr
  have hr2 := fun r e => (hr r e).2
  exact ⟨v, c0, c1, c2, blk_grown h.msg hg hr2, own_grown h.own hg hr2, h.free, h.first, h.good, h.sofar, blk_grown h.kind hg hr2, blk_grown h.num hg hr2, blk_grown h.err hg hr2, Nat.le_trans h.room hg.size,
    h.bel.grown hg (by have := h.room; omega) (fun j hj => Nat.le_trans hB (hr j hj).1)⟩
theorem KX_own (K : Asks) (w : World) (l : List UInt8) (B : Nat) (hB : w.heap.size ≤ B) (c : Code) : OwnFrom B (KX K w l c) := by
  rintro pre W W' row ⟨h1, h2, h3, h4, h5, h6⟩ hg hr
  have hr2 := fun r e => (hr r e).2
  exact ⟨h1, blk_grown h2 hg hr2, blk_grown h3 hg hr2, blk_grown h4 hg hr2, h5, h6.grown hg h6.size (fun j hj => Nat.le_trans hB (hr j hj).1)⟩
theorem KI_step {K : Asks} {w : World} {fid : Nat} {ls pre : List (List UInt8)} {A B : World} (h : KI K w fid ls pre A) (hg : A.grownBy B (some (w.heap.size + 5))) : KI K w fid ls pre B := by
  obtain ⟨v, c0, c1, c2, h⟩ := h
  refine ⟨v, c0, c1, c2, h.msg.grown hg (by simp), h.own.kept hg (by
    cases hv : v.ownBlock with
    | none => exact .inl rfl
    | some g => exact .inr (by rw [← hv]; exact h.free)), h.free, h.first, h.good, h.sofar, h.kind.grown hg (by simp), h.num.grown hg (by simp), h.err.grown hg (by simp), Nat.le_trans h.room hg.size, h.bel.grown hg (by have := h.room; omega) (fun j hj => by cases hj; omega)⟩
theorem keeps_set {W : World} {B : Nat} {p : Addr} (v : Value) (hp : p.block < B) : KeepsFrom B W (W.setCell p v) :=
  ⟨by simp [World.setCell], fun k o hB hk _ => (Below.heap_setCell _ _ _ _ (by omega)).trans hk⟩
theorem keeps_grown {W W' : World} {B base n size : Nat} {e : TypeId} {v : Value} {xs : List Value} (hown : W.ownsRow base e size v n xs) (hg : W.grownBy W' v.ownBlock) : KeepsFrom B W W' :=
  ⟨hg.size, fun k o _ hk ho => (hg.block k (Array.getElem?_eq_some_iff.1 hk).1 (fun e => by
    obtain ⟨cs, hc⟩ := own_heap hown e.symm
    rw [hk] at hc
    injection hc with hc
    rw [hc] at ho
    cases ho)).trans hk⟩
theorem prefix_snoc {α : Type} {pre ls : List α} {x : α} (h : pre <+: ls) (hx : ls[pre.length]? = some x) : pre ++ [x] <+: ls := by
  obtain ⟨t, rfl⟩ := h
  match t, hx with
  | [], hx => simp at hx
  | y :: t, hx =>
    simp at hx
    subst hx
    exact ⟨t, by simp⟩
/-- A round that puts a field. -/
theorem round_good {K : Asks} {w W V2 w' : World} {fid : Nat} {ls r : List (List UInt8)} {y x : List UInt8} {v v' c0 c1 c2 : Value} {fa ft : ByteArray} (hI : KInv K w fid ls (y :: r) W v c0 c1 c2) (hm : maxG < w.heap.size) (hV : Below W.heap.size W V2)
    (hown : w'.ownsRow w.heap.size 63 2 v' (r.length + 1) (fcells (r.map fieldOf) ++ [.string fa, .string ft])) (hg : V2.grownBy w' v.ownBlock) (hor : v'.ownBlock = v.ownBlock ∨ v'.ownBlock = some V2.heap.size)
    (hfo : fieldOK x = true) (hff : fieldOf x = (fa, ft)) (hx : ls[(y :: r).length]? = some x) :
    KeepsFrom (w.heap.size + 6) W (w'.setCell ⟨w.heap.size + 1, 3, none⟩ v') ∧ KpB (w.heap.size + 5) W (w'.setCell ⟨w.heap.size + 1, 3, none⟩ v') ∧ KI K w fid ls (y :: r ++ [x]) (w'.setCell ⟨w.heap.size + 1, 3, none⟩ v') := by
  have hroom := hI.room
  have ho2 := own_below hI.own hV
  have hz := hV.size
  have hz2 := hg.size
  have nM : v.ownBlock ≠ some (w.heap.size + 1) := own_blk_ne hI.own hI.msg (by decide)
  have nK : v.ownBlock ≠ some w.heap.size := own_blk_ne hI.own hI.kind (by decide)
  have nN : v.ownBlock ≠ some (w.heap.size + 1 + 1) := own_blk_ne hI.own hI.num (by decide)
  have nE : v.ownBlock ≠ some (w.heap.size + 1 + 1 + 1) := own_blk_ne hI.own hI.err (by decide)
  have kM := (hI.msg.below hV hI.msg.lt).grown hg (Ne.symm nM)
  have kK := (hI.kind.below hV hI.kind.lt).grown hg (Ne.symm nK)
  have kN := (hI.num.below hV hI.num.lt).grown hg (Ne.symm nN)
  have kE := (hI.err.below hV hI.err.lt).grown hg (Ne.symm nE)
  have hb := (hI.bel.trans (hV.mono hI.bel.size)).grown hg (by omega) (fun j hj => (hI.own.lt j hj).1)
  refine ⟨((keepsFrom_below hV _).trans (keeps_grown ho2 hg)).trans (keeps_set _ (by show w.heap.size + 1 < _; omega)), ⟨?_, ?_⟩, v', c0, c1, c2, ?_, ?_, ?_, ?_, ?_, ?_, ?_, ?_, ?_, ?_, ?_⟩
  · exact (Below.heap_setCell _ _ _ _ (show w.heap.size + 5 ≠ w.heap.size + 1 by omega)).trans ((hg.block _ (by omega) (fun e => hI.free e.symm)).trans (hV.block _ (by omega)))
  · exact (Below.heap_setCell _ _ _ _ (show maxG ≠ w.heap.size + 1 by omega)).trans ((hg.block _ (by omega) (fun e => by have := (hI.own.lt _ e.symm).1; omega)).trans (hV.block _ (by omega)))
  · simpa using kM.set_ 3 v'
  · have h1 := own_tys hown ((Tys.refl [25] w').setCell (p := ⟨w.heap.size + 1, 3, none⟩) kM.heap (by simp) v') (by decide)
    have e1 : (y :: r ++ [x]).tail = r ++ [x] := rfl
    rw [e1, List.length_append, List.map_append, List.map_cons, List.map_nil, hff, fcells_snoc]
    exact h1
  · rcases hor with h | h
    · rw [h]; exact hI.free
    · rw [h]; intro e; injection e with e; omega
  · exact hI.first
  · have e1 : (y :: r ++ [x]).tail = r ++ [x] := rfl
    have hg2 : r.all fieldOK = true := hI.good
    rw [e1, List.all_append, hg2, List.all_cons, hfo]
    rfl
  · exact prefix_snoc hI.sofar hx
  · exact kK.far (p := ⟨w.heap.size + 1, 3, none⟩) (show w.heap.size ≠ w.heap.size + 1 by omega) v'
  · exact kN.far (p := ⟨w.heap.size + 1, 3, none⟩) (show w.heap.size + 1 + 1 ≠ w.heap.size + 1 by omega) v'
  · exact kE.far (p := ⟨w.heap.size + 1, 3, none⟩) (show w.heap.size + 1 + 1 + 1 ≠ w.heap.size + 1 by omega) v'
  · show _ ≤ (w'.setCell _ _).heap.size
    simp [World.setCell]; omega
  · exact hb.setCell (p := ⟨w.heap.size + 1, 3, none⟩) (show w.heap.size ≤ w.heap.size + 1 by omega) v'
theorem blk_put {W : World} {g D : Nat} {t : TypeId} {cs : Array Value} {o : Obj} (h : Blk W g t cs) (hne : g ≠ D) : Blk (W.putObj D o) g t cs := (World.putObj_heap_other hne).trans h
theorem cut_field {x a b : List UInt8} {f : Bool} (h : Lib.cut x [58] = (a, b, f)) : fieldOK x = (f && (tokenB a && plainB b)) ∧ (f = true → fieldOf x = (⟨a.toArray⟩, ⟨(trimmed b).toArray⟩)) := by
  unfold Lib.cut at h
  have hc : Lib.index x [58] = colonAt x := rfl
  rw [hc] at h
  unfold fieldOK fieldOf
  split at h
  · rename_i h0
    simp only [Prod.mk.injEq] at h
    obtain ⟨rfl, rfl, rfl⟩ := h
    rw [decide_eq_true h0]
    exact ⟨rfl, fun _ => rfl⟩
  · rename_i h0
    simp only [Prod.mk.injEq] at h
    obtain ⟨rfl, rfl, rfl⟩ := h
    rw [decide_eq_false h0]
    exact ⟨rfl, fun h => by cases h⟩
theorem prefix_first {l : List UInt8} {y : List UInt8} {r : List (List UInt8)} (h : (y :: r) <+: headLines l) : firstL l = y := by
  obtain ⟨t, ht⟩ := h
  unfold firstL
  rw [← ht]
  rfl
theorem bytesOf_nums (l : List UInt8) : Lib.bytesOf (l.map fun x => (x.toNat : Int)) = l := by
  unfold Lib.bytesOf
  rw [List.map_map]
  conv => rhs; rw [← List.map_id l]
  refine List.map_congr_left fun x _ => ?_
  simp

set_option maxRecDepth 100000 in
set_option maxHeartbeats 400000 in
theorem kget_any (K : Asks) (fid : Nat) (heg : ∀ args w, (callFunc fid args).run Tryz.prog w = .ok (.enter fid args) w) (C : World → Prop) (hfirst : ∀ (s : ByteArray) (g : Nat) (w : World), s.size ≤ 1000000 → MaxOk w → C w →
      Blk w g 25 #[.string ⟨#[]⟩, .string ⟨#[]⟩, .int .i64 0, .slice none 0 0, .slice none 0 0] → Calls Tryz.prog fid #[.pointer (some ⟨g, 0, none⟩), .string s] w (FirstPost K s.data.toList g w))
    (b off n c : Nat) (l : List UInt8) (w : World) (h : Lies w w.heap.size (some ⟨b, off, none⟩) n (Lib.byteCells l)) (hc : n ≤ c) (hn : n ≤ 2000000) (hm : MaxOk w) (hmg : maxG < w.heap.size) (hCw : ∀ W, Below w.heap.size w W → C W) :
    CallsIn Fence.wide 9 Tryz.prog 107 #[.agg #[.func (.func fid) #[] #[]], .slice (some ⟨b, off, none⟩) n c] w (ReadPost K l w) := by
  have h1 : 1 ≤ 9 := by omega
  have hl : l.length = n := by simpa [Lib.byteCells] using h.1
  obtain ⟨m', hm'⟩ : ∃ m', min n 65536 = m' := ⟨_, rfl⟩
  have hmi : min (n : Int) 65536 = (m' : Int) := by omega
  have hmn : m' ≤ n := by omega
  have hmc : m' ≤ c := by omega
  have htk : l.take m' = l.take 65536 := by
    rw [← hm']
    rcases Nat.le_total n 65536 with h1 | h1
    · rw [Nat.min_eq_left h1, List.take_of_length_le (by omega), List.take_of_length_le (by omega)]
    · rw [Nat.min_eq_right h1]
  have HM' := Lib.hid hm'
  clear hm'
  refine callsIn_of_wp_marks Tryz.func107 rfl trivial ?_ rfl
  simp only [Tryz.ntmps107, List.size_toArray, List.length_cons, List.length_nil, Nat.reduceAdd, Nat.reduceSub, Array.replicate_succ, Array.replicate_zero, List.push_toArray, List.append_toArray, List.nil_append, List.cons_append]
  obtain ⟨W0, hW0, kF, kM, kN, kE, kB, hb0, hz0⟩ := boxes_new w 124 25 3 28 5 #[.func (.func fid) #[] #[]] #[.string ⟨#[]⟩, .string ⟨#[]⟩, .int .i64 0, .slice none 0 0, .slice none 0 0] #[.int .i64 0] #[.int .i64 0] #[.int .u8 13, .int .u8 10, .int .u8 13, .int .u8 10]
  have hcv := run_same_conv Tryz.underlying23 Tryz.underlying5 kB 4 4
  gi_wp2_with fail
  obtain ⟨W1, hW1⟩ : ∃ W1, frozenW W0 (w.heap.size + 1 + 1 + 1 + 1) 4 = W1 := ⟨_, rfl⟩
  have hb1 : Below w.heap.size w W1 := by rw [← hW1]; exact frozenW_below hb0 (by omega) _
  have hz1 : W1.heap.size = w.heap.size + 5 := by rw [← hW1, ← hz0]; simp [frozenW, World.freeze]
  have kF1 : Blk W1 w.heap.size 124 #[.func (.func fid) #[] #[]] := by rw [← hW1]; exact (frozenW_other (by omega)).trans kF
  have kM1 : Blk W1 (w.heap.size + 1) 25 #[.string ⟨#[]⟩, .string ⟨#[]⟩, .int .i64 0, .slice none 0 0, .slice none 0 0] := by rw [← hW1]; exact (frozenW_other (by omega)).trans kM
  have kN1 : Blk W1 (w.heap.size + 1 + 1) 3 #[.int .i64 0] := by rw [← hW1]; exact (frozenW_other (by omega)).trans kN
  have kE1 : Blk W1 (w.heap.size + 1 + 1 + 1) 28 #[.int .i64 0] := by rw [← hW1]; exact (frozenW_other (by omega)).trans kE
  have hc4 : ∀ k, W1.cell? ⟨w.heap.size + 1 + 1 + 1 + 1, k, none⟩ = (#[.int .u8 13, .int .u8 10, .int .u8 13, .int .u8 10] : Array Value)[k]? := fun k => by
    rw [← hW1]; exact cell_of_row _ _ _ _ _ _ (frozenW_heap kB)
  rw [hW1]
  clear hW1 hcv hW0 kF kM kN kE kB hb0 hz0
  obtain ⟨mx, hmx⟩ := hm.below hb1 hmg
  obtain ⟨bo, off', hA, hbw, hsrc⟩ : ∃ bo off', (0 < n → (⟨b, off, none⟩ : Addr) = ⟨bo, off', none⟩) ∧ (0 < n → bo < w.heap.size) ∧ (∀ (j : Nat) (u : Value), (Lib.byteCells l)[j]? = some u → w.cell? ⟨bo, off' + j, none⟩ = some u) := by
    rcases Nat.eq_zero_or_pos n with h0 | h0
    · refine ⟨0, 0, fun h => absurd h (by omega), fun h => absurd h (by omega), fun j u hu => ?_⟩
      have : l = [] := List.eq_nil_of_length_eq_zero (by omega)
      subst this
      simp [Lib.byteCells] at hu
    · obtain ⟨b', o', e, h2, h3⟩ := h.2 h0
      injection e with e
      exact ⟨b', o', fun _ => e, fun _ => h2, h3⟩
  have hIdx := Tryz.bytes_Index_at ⟨b, off, none⟩ ⟨w.heap.size + 1 + 1 + 1 + 1, 0, none⟩ m' c 4 4 ((l.take m').map fun x => (x.toNat : Int)) [13, 10, 13, 10] mx W1 (by simp; omega) rfl
    (by intro x hx; obtain ⟨y, _, rfl⟩ := List.mem_map.1 hx; have := y.toNat_lt; exact ⟨by omega, by omega⟩) (by decide)
    (fun i hi => by
      have e := hA (by omega)
      rw [e, Addr.add_lit]
      refine (hb1.cell (p := ⟨bo, off' + i, none⟩) (hbw (by omega))).trans (hsrc i _ ?_)
      unfold Lib.byteCells
      have e1 : ((l.take m').map fun x => (x.toNat : Int))[i]? = some ((l[i]'(by omega)).toNat : Int) := by
        rw [List.getElem?_map, List.getElem?_take, if_pos hi, List.getElem?_eq_getElem (by omega)]
        rfl
      rw [List.getElem?_map, List.getElem?_eq_getElem (by omega), List.getD, e1]
      rfl)
    (fun i hi => by
      rw [Addr.add_lit, Nat.zero_add, hc4 i]
      match i, hi with
      | 0, _ => rfl
      | 1, _ => rfl
      | 2, _ => rfl
      | 3, _ => rfl) hmc (by omega) (by omega) hmx
  rw [bytesOf_nums, htk] at hIdx
  have hIv : Lib.index (l.take 65536) (Lib.bytesOf [13, 10, 13, 10]) = endAt l := rfl
  rw [hIv] at hIdx
  clear hIv
  have HI := Lib.hid hIdx
  clear hIdx
  refine ⟨trivial, (callsIn_wide.2 HI.out).mono ?_⟩
  rintro e w2 ⟨rfl, q, rfl⟩
  clear HI hc4
  have B2 := Lib.hid (below_drewN hb1 q)
  have kF2 := kF1.drewN q
  have kM2 := kM1.drewN q
  have kN2 := kN1.drewN q
  have kE2 := kE1.drewN q
  have hz2 : (W1.drewN q).heap.size = w.heap.size + 5 := hz1
  clear hb1 kF1 kM1 kN1 kE1 hz1 hmx
  generalize W1.drewN q = W2 at *
  have c0 := kM2.cell 0
  have c1 := kM2.cell 1
  have c2 := kM2.cell 2
  have c3 := kM2.cell 3
  have c4 := kM2.cell 4
  simp at c0 c1 c2 c3 c4
  have f0 := kM2.frozen 0
  have f1 := kM2.frozen 1
  have f2 := kM2.frozen 2
  have f3 := kM2.frozen 3
  have f4 := kM2.frozen 4
  have cN := kN2.cell 0
  have cE := kE2.cell 0
  simp at cN cE
  have fN := kN2.frozen 0
  have fE := kE2.frozen 0
  have HZ := Lib.hid hz2
  have HLEN := Lib.hid hl
  have HFI := Lib.hid hfirst
  have HCW := Lib.hid hCw
  have HMX := Lib.hid hm
  clear hz2 hl hmi hfirst hm hCw
  have KF := Lib.hid kF2
  have KM := Lib.hid kM2
  have KN := Lib.hid kN2
  have KE := Lib.hid kE2
  clear kF2 kM2 kN2 kE2
  have hne1 : w.heap.size + 1 ≠ w.heap.size + 1 + 1 := by omega
  have hne2 : w.heap.size + 1 ≠ w.heap.size + 1 + 1 + 1 := by omega
  have hne3 : w.heap.size + 1 + 1 ≠ w.heap.size + 1 + 1 + 1 := by omega
  by_cases hneg : 0 ≤ endAt l
  · obtain ⟨k, hk, hk1, hk2, _, _⟩ := endAt_spec l hneg
    rw [HLEN.out] at hk1
    have hkn : k ≤ n := by omega
    have hkc : k ≤ c := by omega
    have hcv : (convert 23 9 (.slice (some ⟨b, off, none⟩) k c)).run Tryz.prog W2 = .ok (.string ⟨(l.take k).toArray⟩) W2 := by
      have hlen : (l.take k).length = k := by rw [List.length_take, HLEN.out]; omega
      have := run_convert_bytes_back (P := Tryz.prog) W2 23 9 5 ⟨b, off, none⟩ c (l.take k) Tryz.underlying23 Tryz.underlying5 Tryz.underlying9 (fun j hj => by
        rw [hA (by omega), Addr.add_lit]
        refine (B2.out.cell (p := ⟨bo, off' + j, none⟩) (hbw (by omega))).trans (hsrc j _ ?_)
        unfold Lib.byteCells
        rw [hlen] at hj
        rw [List.getElem?_map, List.getElem?_eq_getElem (by rw [HLEN.out]; omega)]
        simp)
      rwa [hlen] at this
    have hs1 : (l.take k).length ≤ 65536 := by rw [List.length_take]; omega
    have hhl : splitB (l.take k) = headLines l := by unfold headLines; rw [hk, Int.toNat_natCast]
    have HHL := Lib.hid hhl
    have HK := Lib.hid hk
    have HS1 := Lib.hid hs1
    have HP := Lib.hid hneg
    rw [hk]
    clear hhl hk hs1 hneg hsrc hA h htk
    generalize hs : l.take k = sb at *
    gi_wp2_with fail
    refine ⟨trivial, (lines_in 8 ⟨sb.toArray⟩ W2).mono ?_⟩
    rintro e w3 ⟨rfl, rfl⟩
    gi_wp2_with fail
    obtain ⟨W3, hW3⟩ : ∃ W3, W2.alloc (.cells #[.string ⟨sb.toArray⟩] 9) = W3 := ⟨_, rfl⟩
    have hal : Below W2.heap.size W2 W3 := by rw [← hW3]; exact (Below.refl _ _).alloc (Nat.le_refl _) _
    have hz3 : W3.heap.size = w.heap.size + 6 := by rw [← hW3, World.size_alloc, HZ.out]
    have hB3 : Blk W3 (w.heap.size + 5) 9 #[.string ⟨sb.toArray⟩] := by rw [← hW3, ← HZ.out]; exact Blk.new _ _ _
    have b3 : Below w.heap.size w W3 := B2.out.trans (hal.mono (by have := HZ.out; omega))
    have kF3 := KF.out.below hal KF.out.lt
    have kM3 := KM.out.below hal KM.out.lt
    have kN3 := KN.out.below hal KN.out.lt
    have kE3 := KE.out.below hal KE.out.lt
    have hm3 := HMX.out.below b3 hmg
    rw [hW3, HZ.out]
    clear hW3 hal c0 c1 c2 c3 c4 cN cE f0 f1 f2 f3 f4 fN fE
    have h0 : KI K w fid (headLines l) [] W3 := ⟨_, _, _, _, kM3, World.ownsRow_nil _ _ _ _, by simp [Value.ownBlock], ⟨rfl, rfl, rfl, rfl⟩, rfl, List.nil_prefix, kF3, kN3, kE3, by omega, b3⟩
    refine wpIn_rangeFunc_steps rfl h1 (gf := 218) (lb := #[.pointer (some ⟨w.heap.size + 5, 0, none⟩)]) rfl trivial (enters_of Tryz.func218 (by kernel_rfl) rfl)
      (lines_steps 8 (by omega) (w.heap.size + 5) ⟨sb.toArray⟩ (by have := HS1.out; simp only [ByteArray.size, List.size_toArray]; omega) (by omega) W3 (by omega) (by omega) hB3 hm3)
      (fun h k => ⟨k.1.trans h.1, k.2.trans h.2⟩) (fun W l o hl => ⟨World.putObj_heap_other (show w.heap.size + 5 ≠ l by omega), World.putObj_heap_other (show maxG ≠ l by omega)⟩)
      (fun A B hg => KeepsFrom.of_grownBy hg (fun j hj => by cases hj; omega)) (Below.refl _ _) (fun _ _ => rfl)
      (KI K w fid (headLines l)) (KX K w l) (KI_own K w fid _ _ (by omega)) (KX_own K w l _ (by omega)) (fun s A B h hg => KI_step h hg) h0
      ?a1 ?assign ?body ?done ?stop
    case assign =>
      intro l pre x W K hK
      gi_wp2
      exact hK
    case body =>
      rintro l1 pre x W ⟨v, c0, c1, c2, hI⟩ hx
      have hx2 : (splitB sb)[pre.length]? = some x := hx
      rw [HHL.out] at hx2
      cases pre with
      | nil =>
        obtain ⟨rfl, rfl, rfl, rfl⟩ := hI.first
        have kc := hI.kind.cell 0
        simp at kc
        have hxs : x ∈ headLines l := List.mem_of_getElem? hx2
        have hxz : x.length ≤ 65536 := lines_size l HP.out x hxs
        have hfl : firstL l = x := by
          unfold firstL
          match hh : headLines l, hx2 with
          | y :: r, hx2 => simp at hx2; simp [hx2]
        have hF := HFI.out ⟨x.toArray⟩ (w.heap.size + 1) W (by simp only [ByteArray.size, List.size_toArray]; omega) (HMX.out.below hI.bel hmg) (HCW.out _ hI.bel) hI.msg
        rw [mk_list x] at hF
        have HF := Lib.hid hF
        have HI := Lib.hid hI
        have HX := Lib.hid (And.intro hx2 hfl)
        clear hF hI hx2 hfl hx hxs h0 hB3 b3 hm3 kF3 kM3 kN3 kE3
        gi_wp2_with fail
        refine ⟨trivial, (CallsIn.inRound l1 (callsIn_wide.2 HF.out)).mono ?_⟩
        rintro e W4 ⟨rfl, hg4, c0, c1, c2, hk4, hok4⟩
        have hz4 := hg4.size
        have hb4 := HI.out.bel.grown hg4 HI.out.bel.size (fun j hj => by cases hj; omega)
        have hkN4 := HI.out.num.grown hg4 (by intro e; injection e with e; omega)
        have hkE4 := HI.out.err.grown hg4 (by intro e; injection e with e; omega)
        have hkF4 := HI.out.kind.grown hg4 (by intro e; injection e with e; omega)
        cases hK : K.ok x
        · have c0' := hk4.cell 0
          have c1' := hk4.cell 1
          have c2' := hk4.cell 2
          have c3' := hk4.cell 3
          have c4' := hk4.cell 4
          have cN' := hkN4.cell 0
          have cE' := hkE4.cell 0
          simp at c0' c1' c2' c3' c4' cN' cE'
          have f0' := hk4.frozen 0
          have f1' := hk4.frozen 1
          have f2' := hk4.frozen 2
          have f3' := hk4.frozen 3
          have f4' := hk4.frozen 4
          have fN' := hkN4.frozen 0
          have fE' := hkE4.frozen 0
          have HH := Lib.hid (And.intro hg4 (And.intro hk4 (And.intro hb4 (And.intro hkN4 hkE4))))
          have HKX := Lib.hid hK
          clear hg4 hk4 hb4 hkN4 hkE4 hkF4 hok4 hK hz4
          gi_wp2_with fail
          obtain ⟨W9, hW9, k9, kn9, ke9, b9, _, hs9, far9⟩ := set_seven HH.out.2.2.1 HH.out.2.1 HH.out.2.2.2.1 HH.out.2.2.2.2 (.string ⟨#[]⟩) (.string ⟨#[]⟩) (.int .i64 0) (.slice none 0 0) (.slice none 0 0) (.int .i64 0) (.int .i64 8)
          rw [hW9]
          refine ⟨(KeepsFrom.of_grownBy HH.out.1 (fun j hj => by cases hj; omega)).trans ⟨by rw [hs9]; exact Nat.le_refl _, fun k o hB hk _ => (far9 k (by omega)).trans hk⟩, rfl, k9, kn9, ke9, g_first HP.out (by rw [HX.out.2]; exact HKX.out), b9⟩
        · have HH := Lib.hid (And.intro hg4 (And.intro hk4 (And.intro hb4 (And.intro hkN4 (And.intro hkE4 hkF4)))))
          have HOK := Lib.hid (hok4 hK)
          have HKX := Lib.hid hK
          clear hg4 hk4 hb4 hkN4 hkE4 hkF4 hok4 hK
          gi_wp2_with fail
          obtain ⟨hg4, hk4, hb4, hkN4, hkE4, hkF4⟩ := HH.out
          have hroom := HI.out.room
          refine ⟨KeepsFrom.of_grownBy hg4 (fun j hj => by cases hj; omega), ⟨hg4.block _ (by omega) (by intro e; injection e with e; omega), hg4.block _ (by omega) (by intro e; injection e with e; omega)⟩, _, _, _, _, hk4, World.ownsRow_nil _ _ _ _, by simp [Value.ownBlock], ⟨HKX.out, HOK.out.1, HOK.out.2.1, HOK.out.2.2⟩, rfl, prefix_snoc List.nil_prefix HX.out.1, hkF4, hkN4, hkE4, by omega, hb4⟩
      | cons y r =>
        obtain ⟨hKy, rfl, rfl, rfl⟩ := hI.first
        have hxs : x ∈ headLines l := List.mem_of_getElem? hx2
        have hxz : x.length ≤ 65536 := lines_size l HP.out x hxs
        have hcnt := lines_count l HP.out
        have hfl : firstL l = y := prefix_first hI.sofar
        have hpl : (y :: r).length ≤ 65537 := Nat.le_trans hI.sofar.length_le hcnt
        obtain ⟨pn, hpn⟩ : ∃ pn, (y :: r).length = pn := ⟨_, rfl⟩
        have hp1 : 1 ≤ pn := by rw [← hpn]; simp
        have hp0 : ((pn : Int) == 0) = false := by simp; omega
        obtain ⟨mm, hmm⟩ := HMX.out.below hI.bel hmg
        have hC := Tryz.strings_Cut ⟨x.toArray⟩ ⟨#[58]⟩ mm W (by simp only [ByteArray.size, List.size_toArray]; omega) hmm
        obtain ⟨⟨a, bb, f⟩, hcf⟩ : ∃ z, Lib.cut (⟨x.toArray⟩ : ByteArray).data.toList (⟨#[58]⟩ : ByteArray).data.toList = z := ⟨_, rfl⟩
        rw [hcf] at hC
        rw [mk_list x] at hcf
        replace hcf : Lib.cut x [58] = (a, bb, f) := hcf
        obtain ⟨hfo, hff⟩ := cut_field hcf
        have hcl := cut_le1 x [58]
        rw [hcf] at hcl
        simp only at hC hcl
        rw [hpn]
        have HC := Lib.hid hC
        have HI := Lib.hid hI
        have HX := Lib.hid (And.intro hx2 (And.intro hfl (And.intro hpn (And.intro hKy (And.intro hfo hff)))))
        have hroom := HI.out.room
        have HM4 := Lib.hid (And.intro hI.msg (And.intro hI.num hI.err))
        clear hC hI hx2 hfl hx hxs h0 hB3 b3 hm3 kF3 kM3 kN3 kE3 hcf hmm hpn hKy hfo hff hcv
        obtain ⟨A, cA, rfl⟩ := own_form HI.out.own
        have hE8 : fieldOK x = false → gE K l = 8 := fun hb => by
          rw [g_fields HP.out (by rw [HX.out.2.1]; exact HX.out.2.2.2.1)]
          refine fieldsE_bad (k := r.length) ?_ hb
          rw [List.getElem?_tail]
          exact HX.out.1
        have HE8 := Lib.hid hE8
        clear hE8
        gi_wp2_with fail
        refine ⟨trivial, (CallsIn.inRound l1 (callsIn_wide.2 HC.out)).mono ?_⟩
        rintro e W4 ⟨rfl, q4, rfl⟩
        have hw4 : Below W.heap.size W (W.drewN q4) := below_drewN (Below.refl _ _) q4
        clear HC
        generalize W.drewN q4 = W4 at *
        cases f
        · have kM5 := HM4.out.1.below hw4 HM4.out.1.lt
          have kN5 := HM4.out.2.1.below hw4 HM4.out.2.1.lt
          have kE5 := HM4.out.2.2.below hw4 HM4.out.2.2.lt
          have b5 := HI.out.bel.trans (hw4.mono HI.out.bel.size)
          have c0' := kM5.cell 0
          have c1' := kM5.cell 1
          have c2' := kM5.cell 2
          have c3' := kM5.cell 3
          have c4' := kM5.cell 4
          have cN' := kN5.cell 0
          have cE' := kE5.cell 0
          simp at c0' c1' c2' c3' c4' cN' cE'
          have f0' := kM5.frozen 0
          have f1' := kM5.frozen 1
          have f2' := kM5.frozen 2
          have f3' := kM5.frozen 3
          have f4' := kM5.frozen 4
          have fN' := kN5.frozen 0
          have fE' := kE5.frozen 0
          have HH := Lib.hid (And.intro kM5 (And.intro kN5 (And.intro kE5 (And.intro b5 hw4))))
          clear kM5 kN5 kE5 b5 hw4
          gi_wp2_with fail
          refine ⟨trivial, ?_⟩
          gi_wp2_with fail
          refine ⟨trivial, ?_⟩
          gi_wp2_with fail
          obtain ⟨W9, hW9, k9, kn9, ke9, b9, _, hs9, far9⟩ := set_seven HH.out.2.2.2.1 HH.out.1 HH.out.2.1 HH.out.2.2.1 (.string ⟨#[]⟩) (.string ⟨#[]⟩) (.int .i64 0) (.slice none 0 0) (.slice none 0 0) (.int .i64 0) (.int .i64 8)
          rw [hW9]
          exact ⟨(keepsFrom_below HH.out.2.2.2.2 _).trans ⟨by rw [hs9]; exact Nat.le_refl _, fun k o hB hk _ => (far9 k (by omega)).trans hk⟩, rfl, k9, kn9, ke9, HE8.out (by rw [HX.out.2.2.2.2.1]; rfl), b9⟩
        · have hTk := fun V => token_any ⟨a.toArray⟩ V (by simp only [ByteArray.size, List.size_toArray]; omega)
          rw [mk_list a] at hTk
          have HTK := Lib.hid hTk
          have hCt := fun V => control_any ⟨bb.toArray⟩ V (by simp only [ByteArray.size, List.size_toArray]; omega)
          rw [mk_list bb] at hCt
          have HCT := Lib.hid hCt
          clear hTk hCt
          have HW4 := Lib.hid hw4
          clear hw4
          generalize tokenB a = tk at *
          generalize hplb : plainB bb = pl at *
          cases tk
          · gi_wp2_with fail
            refine ⟨trivial, (CallsIn.inRound l1 (callsIn_wide.2 (HTK.out _))).mono ?_⟩
            rintro e W5 ⟨rfl, hb5⟩
            have hw5 := below_step HW4.out hb5
            clear hb5
            have kM5 := HM4.out.1.below hw5 HM4.out.1.lt
            have kN5 := HM4.out.2.1.below hw5 HM4.out.2.1.lt
            have kE5 := HM4.out.2.2.below hw5 HM4.out.2.2.lt
            have b5 := HI.out.bel.trans (hw5.mono HI.out.bel.size)
            have c0' := kM5.cell 0
            have c1' := kM5.cell 1
            have c2' := kM5.cell 2
            have c3' := kM5.cell 3
            have c4' := kM5.cell 4
            have cN' := kN5.cell 0
            have cE' := kE5.cell 0
            simp at c0' c1' c2' c3' c4' cN' cE'
            have f0' := kM5.frozen 0
            have f1' := kM5.frozen 1
            have f2' := kM5.frozen 2
            have f3' := kM5.frozen 3
            have f4' := kM5.frozen 4
            have fN' := kN5.frozen 0
            have fE' := kE5.frozen 0
            have HH := Lib.hid (And.intro kM5 (And.intro kN5 (And.intro kE5 (And.intro b5 hw5))))
            clear kM5 kN5 kE5 b5 hw5
            gi_wp2_with fail
            refine ⟨trivial, ?_⟩
            gi_wp2_with fail
            obtain ⟨W9, hW9, k9, kn9, ke9, b9, _, hs9, far9⟩ := set_seven HH.out.2.2.2.1 HH.out.1 HH.out.2.1 HH.out.2.2.1 (.string ⟨#[]⟩) (.string ⟨#[]⟩) (.int .i64 0) (.slice none 0 0) (.slice none 0 0) (.int .i64 0) (.int .i64 8)
            rw [hW9]
            exact ⟨(keepsFrom_below HH.out.2.2.2.2 _).trans ⟨by rw [hs9]; exact Nat.le_refl _, fun k o hB hk _ => (far9 k (by omega)).trans hk⟩, rfl, k9, kn9, ke9, HE8.out (by rw [HX.out.2.2.2.2.1]; rfl), b9⟩
          · gi_wp2_with fail
            refine ⟨trivial, (CallsIn.inRound l1 (callsIn_wide.2 (HTK.out _))).mono ?_⟩
            rintro e W5 ⟨rfl, hb5⟩
            have HW5 := Lib.hid (below_step HW4.out hb5)
            clear hb5
            gi_wp2_with fail
            refine ⟨trivial, (CallsIn.inRound l1 (callsIn_wide.2 (HCT.out _))).mono ?_⟩
            rintro e W6 ⟨rfl, q6, rfl⟩
            have hw6 := below_step HW5.out (below_drewN (Below.refl _ W5) q6)
            generalize W5.drewN q6 = W6 at *
            cases pl
            · have kM5 := HM4.out.1.below hw6 HM4.out.1.lt
              have kN5 := HM4.out.2.1.below hw6 HM4.out.2.1.lt
              have kE5 := HM4.out.2.2.below hw6 HM4.out.2.2.lt
              have b5 := HI.out.bel.trans (hw6.mono HI.out.bel.size)
              have c0' := kM5.cell 0
              have c1' := kM5.cell 1
              have c2' := kM5.cell 2
              have c3' := kM5.cell 3
              have c4' := kM5.cell 4
              have cN' := kN5.cell 0
              have cE' := kE5.cell 0
              simp at c0' c1' c2' c3' c4' cN' cE'
              have f0' := kM5.frozen 0
              have f1' := kM5.frozen 1
              have f2' := kM5.frozen 2
              have f3' := kM5.frozen 3
              have f4' := kM5.frozen 4
              have fN' := kN5.frozen 0
              have fE' := kE5.frozen 0
              have HH := Lib.hid (And.intro kM5 (And.intro kN5 (And.intro kE5 (And.intro b5 hw6))))
              clear kM5 kN5 kE5 b5 hw6
              gi_wp2_with fail
              obtain ⟨W9, hW9, k9, kn9, ke9, b9, _, hs9, far9⟩ := set_seven HH.out.2.2.2.1 HH.out.1 HH.out.2.1 HH.out.2.2.1 (.string ⟨#[]⟩) (.string ⟨#[]⟩) (.int .i64 0) (.slice none 0 0) (.slice none 0 0) (.int .i64 0) (.int .i64 8)
              rw [hW9]
              exact ⟨(keepsFrom_below HH.out.2.2.2.2 _).trans ⟨by rw [hs9]; exact Nat.le_refl _, fun k o hB hk _ => (far9 k (by omega)).trans hk⟩, rfl, k9, kn9, ke9, HE8.out (by rw [HX.out.2.2.2.2.1]; rfl), b9⟩
            · have kM6 := HM4.out.1.below hw6 HM4.out.1.lt
              have c3' := kM6.cell 3
              have f3' := kM6.frozen 3
              simp at c3'
              have HW6 := Lib.hid hw6
              have KM6 := Lib.hid kM6
              clear hw6 kM6
              gi_wp2_with fail
              have hTr := fun V => trim_any ⟨bb.toArray⟩ V (by simp only [ByteArray.size, List.size_toArray]; omega)
              rw [mk_list bb] at hTr
              have HTR := Lib.hid hTr
              clear hTr
              obtain ⟨tr, htr⟩ : ∃ tr : ByteArray, tr = ⟨(trimmed bb).toArray⟩ := ⟨_, rfl⟩
              rw [← htr] at HTR
              have hFO : fieldOK x = true := HX.out.2.2.2.2.1
              obtain ⟨a2, ha2⟩ : ∃ a2 : ByteArray, a2 = ⟨a.toArray⟩ := ⟨_, rfl⟩
              have hFF : fieldOf x = (a2, tr) := by rw [HX.out.2.2.2.2.2 trivial, ha2, htr]
              have HFO := Lib.hid hFO
              have HFF := Lib.hid hFF
              rw [← ha2]
              clear htr hFO hFF ha2
              obtain ⟨i0, hi, hz0, hz1, hz2⟩ := info_parts infoF
              have HOWN := Lib.hid HI.out.own
              have HW7 := Lib.hid (HW6.out.drew)
              have KM7 := Lib.hid (KM6.out.drew)
              refine wpIn_region_round (by kernel_rfl) (by kernel_rfl) (by rintro ⟨a, w, h⟩; exact h) ?_
              generalize W6.drew = W7 at *
              have c7 := KM7.out.cell 3
              have f7 := KM7.out.frozen 3
              simp at c7
              refine wpAny_take (i := 0) (v := ?v0) rfl (by kernel_rfl) (by kernel_rfl) (by kernel_rfl) (fun _ _ _ h => h) (Or.inl ⟨by rfl, ?hy0⟩) ?_
              case hy0 => (intro w; go_simp; try (with_reducible rfl))
              refine wpAny_take (i := 2) (v := ?v2) rfl (by kernel_rfl) (by kernel_rfl) (by kernel_rfl) (fun _ _ _ h => h) (Or.inl ⟨by rfl, ?hy2⟩) ?_
              case hy2 => (intro w; go_simp; try (with_reducible rfl))
              refine wpAny_take (i := 3) (v := ?v3) rfl (by kernel_rfl) (by kernel_rfl) (by kernel_rfl) (fun _ _ _ h => h) (Or.inl ⟨by rfl, ?hy3⟩) ?_
              case hy3 => (intro w; go_simp; try (with_reducible rfl))

              refine wpAny_ready (rs := [1, 4]) (by kernel_rfl) (by simp) ?_
              refine AllReady.cons rfl (fun K hK => ?_) (AllReady.cons rfl (fun K hK => ?_) AllReady.nil)
              · go_simp
                refine hK _ _ ?_
                clear hK K
                refine wpAny_ready (rs := [4]) (by kernel_rfl) (by simp) ?_
                refine AllReady.cons rfl (fun K hK => ?_) AllReady.nil
                go_simp
                refine (HTR.out _).mono ?_
                rintro e W8 ⟨rfl, hb8⟩
                have hz78 : W7.heap.size ≤ W8.heap.size := hb8.size
                have KM8 := Lib.hid (KM7.out.below hb8 KM7.out.lt)
                have HW8 := Lib.hid (below_step HW7.out hb8)
                clear hb8
                refine hK _ _ ?_
                clear hK K
                refine wpAny_take (i := 5) (v := ?v5) rfl (by kernel_rfl) (by kernel_rfl) (by kernel_rfl) (fun _ _ _ h => h) (Or.inl ⟨by rfl, ?hy5⟩) ?_
                case hy5 => (intro w; go_simp; try (with_reducible rfl))
                refine wpAny_ready (rs := [6]) (by kernel_rfl) (by simp) ?_
                refine AllReady.cons rfl (fun K hK => ?_) AllReady.nil
                go_simp
                refine hK _ _ ?_
                clear hK K
                refine wpAny_ready (rs := [7]) (by kernel_rfl) (by simp) ?_
                refine AllReady.cons rfl (fun K hK => ?_) AllReady.nil
                have hal : Below W8.heap.size W8 (W8.alloc (.cells #[.string a2, .string tr] 63)) := (Below.refl _ _).alloc (Nat.le_refl _) _
                have hbl := below_step HW8.out hal
                have hnew : ∀ (j : Nat) (u : Value), [Value.string a2, .string tr][j]? = some u → (W8.alloc (.cells #[.string a2, .string tr] 63)).cell? ((⟨W8.heap.size, 0, none⟩ : Addr).add j) = some u := two_at rfl _ _ _
                have hrd : Reads (W8.alloc (.cells #[.string a2, .string tr] 63)) (W8.heap.size + 1) 2 (some ⟨W8.heap.size, 0, none⟩) 1 [.string a2, .string tr] := ⟨rfl, fun _ => ⟨_, rfl, Nat.lt_succ_self _, hnew⟩⟩
                have HBL := Lib.hid hbl
                have KMA := Lib.hid (KM8.out.alloc (.cells #[.string a2, .string tr] 63))
                have hoa := own_below HI.out.own hbl
                clear hal hbl
                refine step_append_any _ rfl _ _ 22 (by rfl) w.heap.size 63 i0 _ 2 32 Tryz.underlying22 hi hz0 hz1 hz2 rfl (by decide) _ _ _ (by rfl) hoa _ _ 1 1 _ (by rfl) hrd (by simp [Value.oneCell']) (by unfold maxLen; simp only [List.length_cons] at hpl; simp only [List.tail_cons]; omega) (by simp only [List.length_cons] at hpl; simp only [List.tail_cons]; omega) (Nat.le_trans HI.out.bel.size HBL.out.size) ?_
                intro v2 w2 hown2 hg2 hor2
                obtain ⟨A2, cA2, rfl⟩ := own_form hown2
                go_simp
                refine hK _ _ ?_
                clear hK K
                refine wpAny_take (i := 8) (v := ?v8) rfl (by kernel_rfl) (by kernel_rfl) (by kernel_rfl) (fun _ _ _ h => h) (Or.inl ⟨by rfl, ?hy8⟩) ?_
                case hy8 => (intro w; go_simp; try (with_reducible rfl))
                refine wpAny_ready (rs := [9]) (by kernel_rfl) (by simp) ?_
                refine AllReady.cons rfl (fun K hK => ?_) AllReady.nil

                have hne9 : (Value.slice A (y :: r).tail.length cA).ownBlock ≠ some (w.heap.size + 1) := own_blk_ne HI.out.own HI.out.msg (by decide)
                have hk9 := KMA.out.grown hg2 (Ne.symm hne9)
                have c9 := hk9.cell 3
                have f9 := hk9.frozen 3
                simp at c9
                have HR9 := Lib.hid (round_good HI.out hmg HBL.out hown2 hg2 hor2 HFO.out HFF.out HX.out.1)
                clear hown2 hg2 hor2 hk9 hne9
                go_simp
                refine hK _ _ ?_
                clear hK K

                refine wpAny_done (by kernel_rfl) ?_ _
                show KeepsFrom W3.heap.size W _ ∧ _
                rw [hz3]
                exact HR9.out
              · go_simp
                refine (HTR.out _).mono ?_
                rintro e W8 ⟨rfl, hb8⟩
                have hz78 : W7.heap.size ≤ W8.heap.size := hb8.size
                have KM8 := Lib.hid (KM7.out.below hb8 KM7.out.lt)
                have HW8 := Lib.hid (below_step HW7.out hb8)
                clear hb8
                refine hK _ _ ?_
                clear hK K
                have c8 := KM8.out.cell 3
                have f8 := KM8.out.frozen 3
                simp at c8
                refine wpAny_take (i := 5) (v := ?v5) rfl (by kernel_rfl) (by kernel_rfl) (by kernel_rfl) (fun _ _ _ h => h) (Or.inl ⟨by rfl, ?hy5⟩) ?_
                case hy5 => (intro w; go_simp; try (with_reducible rfl))
                refine wpAny_ready (rs := [1, 6]) (by kernel_rfl) (by simp) ?_
                refine AllReady.cons rfl (fun K hK => ?_) (AllReady.cons rfl (fun K hK => ?_) AllReady.nil)
                · go_simp
                  refine hK _ _ ?_
                  clear hK K
                  refine wpAny_ready (rs := [6]) (by kernel_rfl) (by simp) ?_
                  refine AllReady.cons rfl (fun K hK => ?_) AllReady.nil
                  go_simp
                  refine hK _ _ ?_
                  clear hK K
                  refine wpAny_ready (rs := [7]) (by kernel_rfl) (by simp) ?_
                  refine AllReady.cons rfl (fun K hK => ?_) AllReady.nil
                  have hal : Below W8.heap.size W8 (W8.alloc (.cells #[.string a2, .string tr] 63)) := (Below.refl _ _).alloc (Nat.le_refl _) _
                  have hbl := below_step HW8.out hal
                  have hnew : ∀ (j : Nat) (u : Value), [Value.string a2, .string tr][j]? = some u → (W8.alloc (.cells #[.string a2, .string tr] 63)).cell? ((⟨W8.heap.size, 0, none⟩ : Addr).add j) = some u := two_at rfl _ _ _
                  have hrd : Reads (W8.alloc (.cells #[.string a2, .string tr] 63)) (W8.heap.size + 1) 2 (some ⟨W8.heap.size, 0, none⟩) 1 [.string a2, .string tr] := ⟨rfl, fun _ => ⟨_, rfl, Nat.lt_succ_self _, hnew⟩⟩
                  have HBL := Lib.hid hbl
                  have KMA := Lib.hid (KM8.out.alloc (.cells #[.string a2, .string tr] 63))
                  have hoa := own_below HI.out.own hbl
                  clear hal hbl
                  refine step_append_any _ rfl _ _ 22 (by rfl) w.heap.size 63 i0 _ 2 32 Tryz.underlying22 hi hz0 hz1 hz2 rfl (by decide) _ _ _ (by rfl) hoa _ _ 1 1 _ (by rfl) hrd (by simp [Value.oneCell']) (by unfold maxLen; simp only [List.length_cons] at hpl; simp only [List.tail_cons]; omega) (by simp only [List.length_cons] at hpl; simp only [List.tail_cons]; omega) (Nat.le_trans HI.out.bel.size HBL.out.size) ?_
                  intro v2 w2 hown2 hg2 hor2
                  obtain ⟨A2, cA2, rfl⟩ := own_form hown2
                  go_simp
                  refine hK _ _ ?_
                  clear hK K
                  refine wpAny_take (i := 8) (v := ?v8) rfl (by kernel_rfl) (by kernel_rfl) (by kernel_rfl) (fun _ _ _ h => h) (Or.inl ⟨by rfl, ?hy8⟩) ?_
                  case hy8 => (intro w; go_simp; try (with_reducible rfl))
                  refine wpAny_ready (rs := [9]) (by kernel_rfl) (by simp) ?_
                  refine AllReady.cons rfl (fun K hK => ?_) AllReady.nil

                  have hne9 : (Value.slice A (y :: r).tail.length cA).ownBlock ≠ some (w.heap.size + 1) := own_blk_ne HI.out.own HI.out.msg (by decide)
                  have hk9 := KMA.out.grown hg2 (Ne.symm hne9)
                  have c9 := hk9.cell 3
                  have f9 := hk9.frozen 3
                  simp at c9
                  have HR9 := Lib.hid (round_good HI.out hmg HBL.out hown2 hg2 hor2 HFO.out HFF.out HX.out.1)
                  clear hown2 hg2 hor2 hk9 hne9
                  go_simp
                  refine hK _ _ ?_
                  clear hK K

                  refine wpAny_done (by kernel_rfl) ?_ _
                  show KeepsFrom W3.heap.size W _ ∧ _
                  rw [hz3]
                  exact HR9.out
                · go_simp
                  refine hK _ _ ?_
                  clear hK K
                  have hkA := KM8.out.alloc (.cells #[.string a2, .string tr] 63)
                  have cA8 := hkA.cell 3
                  have fA8 := hkA.frozen 3
                  simp at cA8
                  clear hkA
                  refine wpAny_ready (rs := [1]) (by kernel_rfl) (by simp) ?_
                  refine AllReady.cons rfl (fun K hK => ?_) AllReady.nil
                  go_simp
                  refine hK _ _ ?_
                  clear hK K
                  refine wpAny_ready (rs := [7]) (by kernel_rfl) (by simp) ?_
                  refine AllReady.cons rfl (fun K hK => ?_) AllReady.nil
                  have hal : Below W8.heap.size W8 (W8.alloc (.cells #[.string a2, .string tr] 63)) := (Below.refl _ _).alloc (Nat.le_refl _) _
                  have hbl := below_step HW8.out hal
                  have hnew : ∀ (j : Nat) (u : Value), [Value.string a2, .string tr][j]? = some u → (W8.alloc (.cells #[.string a2, .string tr] 63)).cell? ((⟨W8.heap.size, 0, none⟩ : Addr).add j) = some u := two_at rfl _ _ _
                  have hrd : Reads (W8.alloc (.cells #[.string a2, .string tr] 63)) (W8.heap.size + 1) 2 (some ⟨W8.heap.size, 0, none⟩) 1 [.string a2, .string tr] := ⟨rfl, fun _ => ⟨_, rfl, Nat.lt_succ_self _, hnew⟩⟩
                  have HBL := Lib.hid hbl
                  have KMA := Lib.hid (KM8.out.alloc (.cells #[.string a2, .string tr] 63))
                  have hoa := own_below HI.out.own hbl
                  clear hal hbl
                  refine step_append_any _ rfl _ _ 22 (by rfl) w.heap.size 63 i0 _ 2 32 Tryz.underlying22 hi hz0 hz1 hz2 rfl (by decide) _ _ _ (by rfl) hoa _ _ 1 1 _ (by rfl) hrd (by simp [Value.oneCell']) (by unfold maxLen; simp only [List.length_cons] at hpl; simp only [List.tail_cons]; omega) (by simp only [List.length_cons] at hpl; simp only [List.tail_cons]; omega) (Nat.le_trans HI.out.bel.size HBL.out.size) ?_
                  intro v2 w2 hown2 hg2 hor2
                  obtain ⟨A2, cA2, rfl⟩ := own_form hown2
                  go_simp
                  refine hK _ _ ?_
                  clear hK K
                  refine wpAny_take (i := 8) (v := ?v8) rfl (by kernel_rfl) (by kernel_rfl) (by kernel_rfl) (fun _ _ _ h => h) (Or.inl ⟨by rfl, ?hy8⟩) ?_
                  case hy8 => (intro w; go_simp; try (with_reducible rfl))
                  refine wpAny_ready (rs := [9]) (by kernel_rfl) (by simp) ?_
                  refine AllReady.cons rfl (fun K hK => ?_) AllReady.nil

                  have hne9 : (Value.slice A (y :: r).tail.length cA).ownBlock ≠ some (w.heap.size + 1) := own_blk_ne HI.out.own HI.out.msg (by decide)
                  have hk9 := KMA.out.grown hg2 (Ne.symm hne9)
                  have c9 := hk9.cell 3
                  have f9 := hk9.frozen 3
                  simp at c9
                  have HR9 := Lib.hid (round_good HI.out hmg HBL.out hown2 hg2 hor2 HFO.out HFF.out HX.out.1)
                  clear hown2 hg2 hor2 hk9 hne9
                  go_simp
                  refine hK _ _ ?_
                  clear hK K

                  refine wpAny_done (by kernel_rfl) ?_ _
                  show KeepsFrom W3.heap.size W _ ∧ _
                  rw [hz3]
                  exact HR9.out
    case done =>
      rintro D xs W hD hxs ⟨v, c0, c1, c2, hI⟩ hK
      have hxs2 : xs = splitB sb := hxs
      rw [HHL.out] at hxs2
      subst hxs2
      have hD6 : w.heap.size + 6 ≤ D := by rw [← hz3]; exact hD
      obtain ⟨x, r, hxr, hfl, htl⟩ := lines_ne l
      have hcnt := lines_count l HP.out
      rw [hxr] at hI
      rw [hxr, List.length_cons] at hcnt
      obtain ⟨hKx, rfl, rfl, rfl⟩ := hI.first
      obtain ⟨A, cA, rfl⟩ := own_form hI.own
      have hEg : gE K l = fieldsE r := by rw [g_fields HP.out (by rw [hfl]; exact hKx), htl]
      have hFg : gF K l = fieldsF r := by rw [g_fieldsF HP.out (by rw [hfl]; exact hKx), htl]
      have hgood : r.all fieldOK = true := hI.good
      have hfE : fieldsE r = (if 256 < r.length then 3 else 0) := by unfold fieldsE; rw [if_pos hgood]
      have hown : W.ownsRow w.heap.size 63 2 (.slice A r.length cA) r.length (fcells (r.map fieldOf)) := hI.own
      have hM : Blk W (w.heap.size + 1) 25 #[.string (K.m x), .string (K.t x), .int .i64 (K.s x), .slice A r.length cA, .slice none 0 0] := hI.msg
      have c0' := hM.cell 0
      have c1' := hM.cell 1
      have c2' := hM.cell 2
      have c3' := hM.cell 3
      have c4' := hM.cell 4
      have cN' := hI.num.cell 0
      have cE' := hI.err.cell 0
      simp at c0' c1' c2' c3' c4' cN' cE'
      have f0' := hM.frozen 0
      have f1' := hM.frozen 1
      have f2' := hM.frozen 2
      have f3' := hM.frozen 3
      have f4' := hM.frozen 4
      have fN' := hI.num.frozen 0
      have fE' := hI.err.frozen 0
      have HH := Lib.hid (And.intro hM (And.intro hI.num (And.intro hI.err (And.intro hI.bel hown))))
      have HG := Lib.hid (And.intro hEg (And.intro hFg (And.intro hfE (And.intro hgood hfl))))
      have HK3 := Lib.hid hK
      have hrl : r.length ≤ 65536 := by omega
      clear hEg hFg hfE hgood hown hM hI hxr htl hfl hK hcv hcnt hKx h0 hB3 b3 hm3 kF3 kM3 kN3 kE3
      obtain ⟨rn, hrn⟩ : ∃ rn, r.length = rn := ⟨_, rfl⟩
      rw [hrn] at HH hrl c3'
      have HRN := Lib.hid hrn
      clear hrn
      have hkk : IntKind.i64.wrap ((k : Int) + 4) = (k : Int) + 4 := Go.IntWalk.i64_in _ ⟨by omega, by omega⟩
      by_cases h256 : 256 < rn
      · have hd : decide ((256 : Int) < (rn : Int)) = true := decide_eq_true (by omega)
        have HB := Lib.hid h256
        clear h256
        gi_wp2_with fail
        obtain ⟨W9, hW9, k9, kn9, ke9, b9, _, _, far9⟩ := set_seven HH.out.2.2.2.1 HH.out.1 HH.out.2.1 HH.out.2.2.1 (.string ⟨#[]⟩) (.string ⟨#[]⟩) (.int .i64 0) (.slice none 0 0) (.slice none 0 0) (.int .i64 0) (.int .i64 3)
        rw [hW9]
        have hK9 := (far9 D (by omega)).trans HK3.out
        refine ⟨by simp, .inl ⟨_, _, rfl, run_takeDeferred hK9, ?_⟩⟩
        refine ⟨_, results_row_cells rfl _ _ (w.heap.size + 1) (w.heap.size + 1 + 1) (w.heap.size + 1 + 1 + 1) 25 _ (0, 0) _ _ _ _ _ rfl (blk_put k9 (by omega)) rfl rfl Tryz.underlying25 rfl infoM Tryz.underlying3 rfl ((blk_put kn9 (by omega)).cell 0) Tryz.underlying28 rfl ((blk_put ke9 (by omega)).cell 0), ?_⟩
        exact read_none (by rw [HG.out.1, HG.out.2.2.1, HRN.out, if_pos HB.out]) (by decide) (b9.trans (belowK_b (w := w) (Nat.le_refl _) _ D _ _ (by omega) hK9 rfl rfl))
      · have hd : decide ((256 : Int) < (rn : Int)) = false := decide_eq_false (by omega)
        have HB := Lib.hid h256
        clear h256
        gi_wp2_with fail
        obtain ⟨W9, hW9, k9, kn9, ke9, b9, t9, _, far9⟩ := set_seven HH.out.2.2.2.1 HH.out.1 HH.out.2.1 HH.out.2.2.1 (.string (K.m x)) (.string (K.t x)) (.int .i64 (K.s x)) (.slice A rn cA) (.slice none 0 0) (.int .i64 ((k : Int) + 4)) (.int .i64 0)
        rw [hW9]
        have hK9 := (far9 D (by omega)).trans HK3.out
        have hE0 : gE K l = 0 := by rw [HG.out.1, HG.out.2.2.1, HRN.out, if_neg HB.out]
        have hF0 : gF K l = r.map fieldOf := by rw [HG.out.2.1]; unfold fieldsF; rw [if_pos (by rw [← HG.out.1]; exact hE0)]
        have ho9 := ownsRow_putObj (own_tys HH.out.2.2.2.2 t9 (by decide)) (.deferred none) hK9 rfl
        refine ⟨by simp, .inl ⟨_, _, rfl, run_takeDeferred hK9, ?_⟩⟩
        refine ⟨_, results_row_cells rfl _ _ (w.heap.size + 1) (w.heap.size + 1 + 1) (w.heap.size + 1 + 1 + 1) 25 _ (0, 0) _ _ _ _ _ rfl (blk_put k9 (by omega)) rfl rfl Tryz.underlying25 rfl infoM Tryz.underlying3 rfl ((blk_put kn9 (by omega)).cell 0) Tryz.underlying28 rfl ((blk_put ke9 (by omega)).cell 0), ?_⟩
        refine read_some hE0 (by rw [HG.out.2.2.2.2]) (by rw [HG.out.2.2.2.2]) (by rw [HG.out.2.2.2.2]) (by rw [HK.out]) ?_ (b9.trans (belowK_b (w := w) (Nat.le_refl _) _ D _ _ (by omega) hK9 rfl rfl))
        rw [hF0, List.length_map, HRN.out]
        exact ho9
    case stop =>
      rintro D c pre W hD ⟨rfl, k9, kn9, ke9, hE, b9⟩ hK
      have hD6 : w.heap.size + 6 ≤ D := by rw [← hz3]; exact hD
      gi_wp2_with fail
      refine ⟨by simp, .inl ⟨_, _, rfl, run_takeDeferred hK, ?_⟩⟩
      refine ⟨_, results_row_cells rfl _ _ (w.heap.size + 1) (w.heap.size + 1 + 1) (w.heap.size + 1 + 1 + 1) 25 _ (0, 0) _ _ _ _ _ rfl (blk_put k9 (by omega)) rfl rfl Tryz.underlying25 rfl infoM Tryz.underlying3 rfl ((blk_put kn9 (by omega)).cell 0) Tryz.underlying28 rfl ((blk_put ke9 (by omega)).cell 0), ?_⟩
      exact read_none hE (by decide) (b9.trans (belowK_b (w := w) (Nat.le_refl _) _ D _ _ (by omega) hK rfl rfl))
  · have hng : endAt l < 0 := by omega
    have hE := g_short (K := K) hng
    have HE := Lib.hid hE
    clear hE hneg hsrc hA h htk
    have hd : decide (0 ≤ endAt l) = false := decide_eq_false (by omega)
    clear hng
    generalize endAt l = at_ at *
    rcases Nat.lt_or_ge n 65536 with hb2 | hb
    rotate_left
    · have hb3 : (65536 : Int) ≤ (n : Int) := by omega
      gi_wp2_with fail
      obtain ⟨W9, hW9, k9, kn9, ke9, b9, _, _, _⟩ := set_seven B2.out KM.out KN.out KE.out (.string ⟨#[]⟩) (.string ⟨#[]⟩) (.int .i64 0) (.slice none 0 0) (.slice none 0 0) (.int .i64 0) (.int .i64 3)
      rw [hW9]
      refine ⟨_, results_row_cells rfl _ _ (w.heap.size + 1) (w.heap.size + 1 + 1) (w.heap.size + 1 + 1 + 1) 25 _ (0, 0) _ _ _ _ _ rfl k9 rfl rfl Tryz.underlying25 rfl infoM Tryz.underlying3 rfl (kn9.cell 0) Tryz.underlying28 rfl (ke9.cell 0), ?_⟩
      exact read_none (by rw [HE.out, if_pos (by rw [HLEN.out]; exact hb)]) (by decide) b9
    · have hb3 : decide ((65536 : Int) ≤ (n : Int)) = false := decide_eq_false (by omega)
      have HB := Lib.hid hb2
      clear hb2
      gi_wp2_with fail
      obtain ⟨W9, hW9, k9, kn9, ke9, b9, _, _, _⟩ := set_seven B2.out KM.out KN.out KE.out (.string ⟨#[]⟩) (.string ⟨#[]⟩) (.int .i64 0) (.slice none 0 0) (.slice none 0 0) (.int .i64 0) (.int .i64 7)
      rw [hW9]
      refine ⟨_, results_row_cells rfl _ _ (w.heap.size + 1) (w.heap.size + 1 + 1) (w.heap.size + 1 + 1 + 1) 25 _ (0, 0) _ _ _ _ _ rfl k9 rfl rfl Tryz.underlying25 rfl infoM Tryz.underlying3 rfl (kn9.cell 0) Tryz.underlying28 rfl (ke9.cell 0), ?_⟩
      exact read_none (by rw [HE.out, if_neg (by rw [HLEN.out]; have := HB.out; omega)]) (by decide) b9
end Go.Proofs.YtonlfplloenfcaaGreatDoor
