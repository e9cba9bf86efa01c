/-
  footmanlaw12.bad: are bytes refused, as a response's head, by an error?
  heads.kind.get, heads.Get, heads.Request, at any slice, nil too.
  bodies: a reader's size, and how it fails.
-/
import Derived.Test.YtonlfplloenfcaaGreatDoorBLineEtc
import Derived.Test.YtonlfplloenfcaaGreatDoorNamesEtc
import Derived.Test.YtonlfplloenfcaaGreatDoorResultsEtc
import Derived.Test.YtonlfplloenfcaaGreatDoorKGet
import Derived.Test.YtonlfplloenfcaaGreatDoorStatSpecEtc
import Derived.Test.YtonlfplloenfcaaGreatDoorLenTEtc
import Derived.Test.YtonlfplloenfcaaGreatDoorShelfB
import Derived.Test.YtonlfplloenfcaaGreatDoorMoreSpecEtc
namespace Go.Proofs.YtonlfplloenfcaaGreatDoor
open Go.RowKit

theorem str_bytes (s : ByteArray) (w : World) : Lies (Lib.bytesWorld w 5 s) (Lib.bytesWorld w 5 s).heap.size (some ⟨w.heap.size, 0, none⟩) s.size (Lib.byteCells s.data.toList) ∧ Below w.heap.size w (Lib.bytesWorld w 5 s) ∧ w.heap.size < (Lib.bytesWorld w 5 s).heap.size := by
  have hz : w.heap.size < (Lib.bytesWorld w 5 s).heap.size := by rw [Lib.bytesWorld_size]; omega
  refine ⟨⟨by simp [Lib.byteCells], fun h0 => ⟨_, _, rfl, hz, fun j u hu => ?_⟩⟩, bytesWorld_below _ _ _, hz⟩
  obtain ⟨x, hx, rfl⟩ := bytes_at hu
  have hj : j < s.size := (List.getElem?_eq_some_iff.1 hx).1
  rw [Nat.zero_add, Lib.bytesWorld_cell w _ s j hj]
  have : s.data.toList.getD j 0 = x := by unfold List.getD; rw [hx]; rfl
  rw [this]
end Go.Proofs.YtonlfplloenfcaaGreatDoor
namespace Go.Proofs.YtonlfplloenfcaaGreatDoor
open Go.RowKit Go.Shelf
attribute [local go_sem] Oper.semAt_some

set_option maxRecDepth 100000 in
set_option maxHeartbeats 400000 in
theorem kget_nil (K : Asks) (fid : Nat) (c : Nat) (w : World) :
    CallsIn Fence.wide 9 Tryz.prog 107 #[.agg #[.func (.func fid) #[] #[]], .slice none 0 c] w (ReadPost K [] w) := by
  have h1 : 1 ≤ 9 := by omega
  refine callsIn_of_wp_marks Tryz.func107 rfl trivial ?_ rfl
  simp only [Tryz.ntmps107, List.size_toArray, List.length_cons, List.length_nil, Nat.reduceAdd, Nat.reduceSub, Array.replicate_succ, Array.replicate_zero, List.push_toArray, List.append_toArray, List.nil_append, List.cons_append]
  obtain ⟨W0, hW0, kF, kM, kN, kE, kB, hb0, hz0⟩ := boxes_new w 124 25 3 28 5 #[.func (.func fid) #[] #[]] #[.string ⟨#[]⟩, .string ⟨#[]⟩, .int .i64 0, .slice none 0 0, .slice none 0 0] #[.int .i64 0] #[.int .i64 0] #[.int .u8 13, .int .u8 10, .int .u8 13, .int .u8 10]
  have hcv := run_same_conv Tryz.underlying23 Tryz.underlying5 kB 4 4
  gi_wp2_with fail
  obtain ⟨W1, hW1⟩ : ∃ W1, frozenW W0 (w.heap.size + 1 + 1 + 1 + 1) 4 = W1 := ⟨_, rfl⟩
  have hb1 : Below w.heap.size w W1 := by rw [← hW1]; exact frozenW_below hb0 (by omega) _
  have hz1 : W1.heap.size = w.heap.size + 5 := by rw [← hW1, ← hz0]; simp [frozenW, World.freeze]
  have kF1 : Blk W1 w.heap.size 124 #[.func (.func fid) #[] #[]] := by rw [← hW1]; exact (frozenW_other (by omega)).trans kF
  have kM1 : Blk W1 (w.heap.size + 1) 25 #[.string ⟨#[]⟩, .string ⟨#[]⟩, .int .i64 0, .slice none 0 0, .slice none 0 0] := by rw [← hW1]; exact (frozenW_other (by omega)).trans kM
  have kN1 : Blk W1 (w.heap.size + 1 + 1) 3 #[.int .i64 0] := by rw [← hW1]; exact (frozenW_other (by omega)).trans kN
  have kE1 : Blk W1 (w.heap.size + 1 + 1 + 1) 28 #[.int .i64 0] := by rw [← hW1]; exact (frozenW_other (by omega)).trans kE
  have hc4 : ∀ k, W1.cell? ⟨w.heap.size + 1 + 1 + 1 + 1, k, none⟩ = (#[.int .u8 13, .int .u8 10, .int .u8 13, .int .u8 10] : Array Value)[k]? := fun k => by
    rw [← hW1]; exact cell_of_row _ _ _ _ _ _ (frozenW_heap kB)
  rw [hW1]
  clear hW1 hcv hW0 kF kM kN kE kB hb0 hz0
  have HI := Lib.hid (Any.bytes_Index_longer Tryz.lays185 none (some ⟨w.heap.size + 1 + 1 + 1 + 1, 0, none⟩) 0 c 4 4 W1 (by decide) (by decide) (by decide))
  refine ⟨trivial, (callsIn_wide.2 HI.out).mono ?_⟩
  rintro e w2 ⟨rfl, hw2⟩
  have hw2' := hw2.symm
  subst hw2'
  clear HI hc4 hw2
  have B2 := Lib.hid hb1
  have kF2 := kF1
  have kM2 := kM1
  have kN2 := kN1
  have kE2 := kE1
  clear hb1 kF1 kM1 kN1 kE1
  have c0 := kM2.cell 0
  have c1 := kM2.cell 1
  have c2 := kM2.cell 2
  have c3 := kM2.cell 3
  have c4 := kM2.cell 4
  simp at c0 c1 c2 c3 c4
  have f0 := kM2.frozen 0
  have f1 := kM2.frozen 1
  have f2 := kM2.frozen 2
  have f3 := kM2.frozen 3
  have f4 := kM2.frozen 4
  have cN := kN2.cell 0
  have cE := kE2.cell 0
  simp at cN cE
  have fN := kN2.frozen 0
  have fE := kE2.frozen 0
  have KM := Lib.hid kM2
  have KN := Lib.hid kN2
  have KE := Lib.hid kE2
  clear kF2 kM2 kN2 kE2 hz1
  gi_wp2_with fail
  obtain ⟨W9, hW9, k9, kn9, ke9, b9, _, _, _⟩ := set_seven B2.out KM.out KN.out KE.out (.string ⟨#[]⟩) (.string ⟨#[]⟩) (.int .i64 0) (.slice none 0 0) (.slice none 0 0) (.int .i64 0) (.int .i64 7)
  rw [hW9]
  refine ⟨_, results_row_cells rfl _ _ (w.heap.size + 1) (w.heap.size + 1 + 1) (w.heap.size + 1 + 1 + 1) 25 _ (0, 0) _ _ _ _ _ rfl k9 rfl rfl Tryz.underlying25 rfl infoM Tryz.underlying3 rfl (kn9.cell 0) Tryz.underlying28 rfl (ke9.cell 0), ?_⟩
  exact read_none (by rw [g_short (K := K) (show endAt [] < 0 by decide)]; rfl) (by decide) b9
set_option maxRecDepth 100000 in
set_option maxHeartbeats 400000 in
theorem kget_zero (K : Asks) (fid : Nat) (a : Addr) (c : Nat) (w : World) :
    CallsIn Fence.wide 9 Tryz.prog 107 #[.agg #[.func (.func fid) #[] #[]], .slice (some a) 0 c] w (ReadPost K [] w) := by
  have h1 : 1 ≤ 9 := by omega
  refine callsIn_of_wp_marks Tryz.func107 rfl trivial ?_ rfl
  simp only [Tryz.ntmps107, List.size_toArray, List.length_cons, List.length_nil, Nat.reduceAdd, Nat.reduceSub, Array.replicate_succ, Array.replicate_zero, List.push_toArray, List.append_toArray, List.nil_append, List.cons_append]
  obtain ⟨W0, hW0, kF, kM, kN, kE, kB, hb0, hz0⟩ := boxes_new w 124 25 3 28 5 #[.func (.func fid) #[] #[]] #[.string ⟨#[]⟩, .string ⟨#[]⟩, .int .i64 0, .slice none 0 0, .slice none 0 0] #[.int .i64 0] #[.int .i64 0] #[.int .u8 13, .int .u8 10, .int .u8 13, .int .u8 10]
  have hcv := run_same_conv Tryz.underlying23 Tryz.underlying5 kB 4 4
  gi_wp2_with fail
  obtain ⟨W1, hW1⟩ : ∃ W1, frozenW W0 (w.heap.size + 1 + 1 + 1 + 1) 4 = W1 := ⟨_, rfl⟩
  have hb1 : Below w.heap.size w W1 := by rw [← hW1]; exact frozenW_below hb0 (by omega) _
  have hz1 : W1.heap.size = w.heap.size + 5 := by rw [← hW1, ← hz0]; simp [frozenW, World.freeze]
  have kF1 : Blk W1 w.heap.size 124 #[.func (.func fid) #[] #[]] := by rw [← hW1]; exact (frozenW_other (by omega)).trans kF
  have kM1 : Blk W1 (w.heap.size + 1) 25 #[.string ⟨#[]⟩, .string ⟨#[]⟩, .int .i64 0, .slice none 0 0, .slice none 0 0] := by rw [← hW1]; exact (frozenW_other (by omega)).trans kM
  have kN1 : Blk W1 (w.heap.size + 1 + 1) 3 #[.int .i64 0] := by rw [← hW1]; exact (frozenW_other (by omega)).trans kN
  have kE1 : Blk W1 (w.heap.size + 1 + 1 + 1) 28 #[.int .i64 0] := by rw [← hW1]; exact (frozenW_other (by omega)).trans kE
  have hc4 : ∀ k, W1.cell? ⟨w.heap.size + 1 + 1 + 1 + 1, k, none⟩ = (#[.int .u8 13, .int .u8 10, .int .u8 13, .int .u8 10] : Array Value)[k]? := fun k => by
    rw [← hW1]; exact cell_of_row _ _ _ _ _ _ (frozenW_heap kB)
  rw [hW1]
  clear hW1 hcv hW0 kF kM kN kE kB hb0 hz0
  have HI := Lib.hid (Any.bytes_Index_longer Tryz.lays185 (some a) (some ⟨w.heap.size + 1 + 1 + 1 + 1, 0, none⟩) 0 c 4 4 W1 (by decide) (by decide) (by decide))
  refine ⟨trivial, (callsIn_wide.2 HI.out).mono ?_⟩
  rintro e w2 ⟨rfl, hw2⟩
  have hw2' := hw2.symm
  subst hw2'
  clear HI hc4 hw2
  have B2 := Lib.hid hb1
  have kF2 := kF1
  have kM2 := kM1
  have kN2 := kN1
  have kE2 := kE1
  clear hb1 kF1 kM1 kN1 kE1
  have c0 := kM2.cell 0
  have c1 := kM2.cell 1
  have c2 := kM2.cell 2
  have c3 := kM2.cell 3
  have c4 := kM2.cell 4
  simp at c0 c1 c2 c3 c4
  have f0 := kM2.frozen 0
  have f1 := kM2.frozen 1
  have f2 := kM2.frozen 2
  have f3 := kM2.frozen 3
  have f4 := kM2.frozen 4
  have cN := kN2.cell 0
  have cE := kE2.cell 0
  simp at cN cE
  have fN := kN2.frozen 0
  have fE := kE2.frozen 0
  have KM := Lib.hid kM2
  have KN := Lib.hid kN2
  have KE := Lib.hid kE2
  clear kF2 kM2 kN2 kE2 hz1
  gi_wp2_with fail
  obtain ⟨W9, hW9, k9, kn9, ke9, b9, _, _, _⟩ := set_seven B2.out KM.out KN.out KE.out (.string ⟨#[]⟩) (.string ⟨#[]⟩) (.int .i64 0) (.slice none 0 0) (.slice none 0 0) (.int .i64 0) (.int .i64 7)
  rw [hW9]
  refine ⟨_, results_row_cells rfl _ _ (w.heap.size + 1) (w.heap.size + 1 + 1) (w.heap.size + 1 + 1 + 1) 25 _ (0, 0) _ _ _ _ _ rfl k9 rfl rfl Tryz.underlying25 rfl infoM Tryz.underlying3 rfl (kn9.cell 0) Tryz.underlying28 rfl (ke9.cell 0), ?_⟩
  exact read_none (by rw [g_short (K := K) (show endAt [] < 0 by decide)]; rfl) (by decide) b9
set_option maxRecDepth 100000 in
theorem kget_opt (K : Asks) (fid : Nat) (heg : ∀ args w, (callFunc fid args).run Tryz.prog w = .ok (.enter fid args) w) (C : World → Prop) (hfirst : ∀ (s : ByteArray) (g : Nat) (w : World), s.size ≤ 1000000 → MaxOk w → C w →
      Blk w g 25 #[.string ⟨#[]⟩, .string ⟨#[]⟩, .int .i64 0, .slice none 0 0, .slice none 0 0] → Calls Tryz.prog fid #[.pointer (some ⟨g, 0, none⟩), .string s] w (FirstPost K s.data.toList g w))
    (A : Option Addr) (n c : Nat) (l : List UInt8) (w : World) (h : Lies w w.heap.size A n (Lib.byteCells l)) (hc : n ≤ c) (hn : n ≤ 2000000) (hm : MaxOk w) (hmg : maxG < w.heap.size) (hCw : ∀ W, Below w.heap.size w W → C W) :
    CallsIn Fence.wide 9 Tryz.prog 107 #[.agg #[.func (.func fid) #[] #[]], .slice A n c] w (ReadPost K l w) := by
  rcases Nat.eq_zero_or_pos n with h0 | h0
  · subst h0
    have hl : l = [] := List.eq_nil_of_length_eq_zero (by simpa [Lib.byteCells] using h.1)
    subst hl
    cases A with
    | none => exact kget_nil K fid c w
    | some a => exact kget_zero K fid a c w
  · obtain ⟨b, o, rfl, _⟩ := h.2 h0
    exact kget_any K fid heg C hfirst b o n c l w h hc hn hm hmg hCw
set_option maxRecDepth 100000 in
theorem hget_opt (A : Option Addr) (n c : Nat) (l : List UInt8) (w : World) (h : Lies w w.heap.size A n (Lib.byteCells l)) (hc : n ≤ c) (hn : n ≤ 2000000) (hm : MaxOk w) (hmg : maxG < w.heap.size) (he : ErrOk w) (heg : errG < w.heap.size) :
    Calls Tryz.prog 38 #[.slice A n c] w (ReadPost statusK l w) := by
  have hk0 := Blk.new w 25 #[.string ⟨#[]⟩, .string ⟨#[]⟩, .int .i64 0, .slice none 0 0, .slice none 0 0]
  have hB0 : Below w.heap.size w (w.alloc (.cells #[.string ⟨#[]⟩, .string ⟨#[]⟩, .int .i64 0, .slice none 0 0, .slice none 0 0] 25)) := (Below.refl _ _).alloc (Nat.le_refl _) _
  have hz0 : w.heap.size < (w.alloc (.cells #[.string ⟨#[]⟩, .string ⟨#[]⟩, .int .i64 0, .slice none 0 0, .slice none 0 0] 25)).heap.size := by simp
  have HG := Lib.hid (callsIn_wide.1 (kget_opt statusK 115 enters_response (fun w => ErrOk w ∧ errG < w.heap.size) (fun s g w h1 _ h2 h3 => response_any s g w h1 h2.1 h2.2 h3) A n c l _ ((h.below hB0).more hB0.size) hc hn (hm.below hB0 hmg) (Nat.lt_trans hmg hz0) (fun W hW => ⟨(he.below hB0 heg).below hW (Nat.lt_trans heg hz0), Nat.lt_of_lt_of_le (Nat.lt_trans heg hz0) hW.size⟩)))
  have K0 := Lib.hid hk0
  have B0 := Lib.hid hB0
  clear hk0 hB0 h hm he
  go_enter Tryz.func38, Tryz.ntmps38
  go_wp2_with fail
  refine (HG.out).mono ?_
  generalize w.alloc (.cells #[.string ⟨#[]⟩, .string ⟨#[]⟩, .int .i64 0, .slice none 0 0, .slice none 0 0] 25) = W1 at *
  rintro e w1 ⟨⟨v, rfl, hown⟩, hb1⟩
  obtain ⟨A', cA, rfl⟩ := own_form hown
  have K1 := Lib.hid (K0.out.below hb1 hz0)
  have HO := Lib.hid (ownsRow_base hown B0.out.size)
  have HB := Lib.hid (B0.out.trans (hb1.mono B0.out.size))
  clear hown hb1 HG
  have c0 := K1.out.cell 0
  have c1 := K1.out.cell 1
  have c2 := K1.out.cell 2
  have c3 := K1.out.cell 3
  have c4 := K1.out.cell 4
  simp at c0 c1 c2 c3 c4
  have f0 := K1.out.frozen 0
  have f1 := K1.out.frozen 1
  have f2 := K1.out.frozen 2
  have f3 := K1.out.frozen 3
  have f4 := K1.out.frozen 4
  go_wp2_with fail
  obtain ⟨W5, hW5, hk5, ht5, hb5, _⟩ := set_five K1.out (.string (gM statusK l)) (.string (gT statusK l)) (.int .i64 (gS statusK l)) (.slice A' (gF statusK l).length cA) (.slice none 0 0)
  rw [hW5]
  refine bodyPost_ret (results_row_tmp2 rfl _ _ w.heap.size 25 _ (0, 0) _ rfl hk5 Tryz.underlying25 rfl infoM) rfl ?_
  exact ⟨⟨_, rfl, own_tys HO.out ht5 (by decide)⟩, HB.out.trans (hb5 w.heap.size (Nat.le_refl _))⟩
end Go.Proofs.YtonlfplloenfcaaGreatDoor
namespace Go.Proofs.YtonlfplloenfcaaGreatDoor
open Go.RowKit Go.Shelf
attribute [local go_sem] Oper.semAt_some

/-- A state, as a value. -/
def stV (g : Nat) : St → Value
  | .size => .func (.func 111) #[.pointer (some ⟨g, 0, none⟩)] #[]
  | .chunk => .func (.func 180) #[.pointer (some ⟨g, 0, none⟩)] #[]
  | .fields => .func (.func 179) #[.pointer (some ⟨g, 0, none⟩)] #[]
  | .stop => .nilFunc
/-- The reader in its block, the first one that was made behind w. -/
structure RI (w W : World) (A : Option Addr) (n c : Nat) (l : List UInt8) (ans : ChunkA) (st : St) (k : Nat) (body : List UInt8) (all now : Nat) (e : Int) (d : Bool) (left : Nat) (vb : Value) : Prop where
  blk : Blk W w.heap.size 133 (rdC A n c k vb left now e d)
  own : W.ownsRow w.heap.size 5 1 vb body.length (Lib.byteCells body)
  tells : Tells l ans st k body all now e d
  kle : k ≤ n
  sum : st = .size ∨ st = .chunk → left + all = 65536
  bel : Below w.heap.size w W
  len : body.length ≤ k
/-- What a state leaves. -/
def StepPost (w : World) (A : Option Addr) (n c : Nat) (l : List UInt8) (ans : ChunkA) (r : Nat) (e : Ending) (w' : World) : Prop :=
  ∃ st k body all now z d left vb, e = .returned (stV w.heap.size st) ∧ RI w w' A n c l ans st k body all now z d left vb ∧ St.rank n st k < r

set_option maxRecDepth 100000 in
theorem fails_any (g : Nat) (z : Int) (cs : Array Value) (w : World) (hg : Blk w g 133 cs) (hz : cs.size = 7) :
    Calls Tryz.prog 177 #[.pointer (some ⟨g, 0, none⟩), .int .i64 z] w fun e w' => e = .returned .nilFunc ∧ w' = w.setCell ⟨g, 5, none⟩ (.int .i64 z) := by
  have c5 := hg.cell 5
  rw [Array.getElem?_eq_getElem (by omega)] at c5
  have f5 := hg.frozen 5
  generalize cs[5] = v5 at c5
  clear hg hz
  go_enter Tryz.func177, Tryz.ntmps177
  go_wp2_with fail
  go_ret
  exact ⟨rfl, rfl⟩
section
variable {w W W1 : World} {A : Option Addr} {n c k k' all all' now now' left left' : Nat} {l body : List UInt8} {ans : ChunkA} {st st' : St} {e e' : Int} {d d' : Bool} {vb : Value}
theorem RI.step (h : RI w W A n c l ans st k body all now e d left vb) (hB : Below W.heap.size W W1) : RI w W1 A n c l ans st k body all now e d left vb :=
  ⟨h.blk.below hB h.blk.lt, own_below h.own hB, h.tells, h.kle, h.sum, h.bel.trans (hB.mono h.bel.size), h.len⟩
theorem RI.set (h : RI w W A n c l ans st k body all now e d left vb) (i : Nat) (v : Value) (hcs : (rdC A n c k vb left now e d).setIfInBounds i v = rdC A n c k' vb left' now' e' d') (ht : Tells l ans st' k' body all' now' e' d') (hk : k' ≤ n) (hs : st' = .size ∨ st' = .chunk → left' + all' = 65536) (hlen : body.length ≤ k') :
    RI w (W.setCell ⟨w.heap.size, i, none⟩ v) A n c l ans st' k' body all' now' e' d' left' vb :=
  ⟨by rw [← hcs]; exact h.blk.set_ i v, own_tys h.own ((Tys.refl [133] W).setCell (p := ⟨w.heap.size, i, none⟩) h.blk (by simp) v) (by decide), ht, hk, hs, h.bel.setCell (p := ⟨w.heap.size, i, none⟩) (Nat.le_refl _) v, hlen⟩
theorem RI.as (h : RI w W A n c l ans st k body all now e d left vb) (ht : Tells l ans st' k body all' now e d) (hs : st' = .size ∨ st' = .chunk → left + all' = 65536) : RI w W A n c l ans st' k body all' now e d left vb :=
  ⟨h.blk, h.own, ht, h.kle, hs, h.bel, h.len⟩
end
theorem stop_sum {p : Prop} : (St.stop = .size ∨ St.stop = .chunk) → p := fun h => by rcases h with h | h <;> cases h
theorem fields_sum {p : Prop} : (St.fields = .size ∨ St.fields = .chunk) → p := fun h => by rcases h with h | h <;> cases h
def hexSet : List UInt8 := [48, 49, 50, 51, 52, 53, 54, 55, 56, 57, 97, 98, 99, 100, 101, 102, 65, 66, 67, 68, 69, 70]
theorem hexSet_eq : (fun x : UInt8 => hexSet.contains x) = hexOK := by
  funext x
  have h := all_bytes (p := fun x => hexSet.contains x == hexOK x) (by decide +kernel) x
  simpa using h
theorem take_while (p : UInt8 → Bool) (l : List UInt8) : l.take (l.length - (l.dropWhile p).length) = l.takeWhile p := by
  have h : l.takeWhile p ++ l.dropWhile p = l := List.takeWhile_append_dropWhile
  have h2 : l.length = (l.takeWhile p).length + (l.dropWhile p).length := by rw [← List.length_append, h]
  have h3 := List.take_left (l₁ := l.takeWhile p) (l₂ := l.dropWhile p)
  rw [h] at h3
  rw [show l.length - (l.dropWhile p).length = (l.takeWhile p).length by omega]
  exact h3
theorem empty_of (x : ByteArray) : x.toList.isEmpty = decide (x.size = 0) := by
  rw [← decide_eq_emptyBytes]
  rw [Bool.eq_iff_iff, decide_eq_true_iff, decide_eq_true_iff]
  constructor
  · intro h
    rw [h]
    rfl
  · intro h
    exact bytes_ext (by rw [bytes_nil x h]; rfl)

set_option maxRecDepth 100000 in
set_option maxHeartbeats 2000000 in
theorem bsize_any (w W : World) (A : Option Addr) (n c k all now left : Nat) (l body : List UInt8) (ans : ChunkA) (z : Int) (d : Bool) (vb : Value) (h : RI w W A n c l ans .size k body all now z d left vb) (hl : Lies W w.heap.size A n (Lib.byteCells l)) (hc : n ≤ c) (hn : n ≤ 2000000) (hm : MaxOk w) (hmg : maxG < w.heap.size) :
    Calls Tryz.prog 111 #[.pointer (some ⟨w.heap.size, 0, none⟩)] W (StepPost w A n c l ans (St.rank n .size k)) := by
  obtain ⟨rfl, rfl, _⟩ := id h.tells
  have hll : l.length = n := by simpa [Lib.byteCells] using hl.1
  have HLN := Lib.hid (bline_any A n c k vb left now w.heap.size l W h.blk hl hc hn h.kle (hm.below h.bel hmg) (Nat.lt_of_lt_of_le hmg h.bel.size))
  have HR := Lib.hid h
  have HLL := Lib.hid hll
  have hsum := h.sum (.inl rfl)
  have hlen := h.len
  clear h hl hm hll
  go_enter Tryz.func111, Tryz.ntmps111
  go_wp2_with fail
  refine (HLN.out).mono ?_
  rintro e1 w1 ⟨W1, hB1, hm1⟩
  have R1 := Lib.hid (HR.out.step hB1)
  clear hB1 HLN
  cases hla : lineA (l.drop k) with
  | limit =>
    rw [hla] at hm1
    obtain ⟨rfl, rfl⟩ := hm1
    have HP : Hid (StepPost w A n c l ans (St.rank n .size k) (.returned .nilFunc) (W1.setCell ⟨w.heap.size, 5, none⟩ (.int .i64 3))) :=
      ⟨.stop, k, body, all, now, 3, false, left, vb, rfl, R1.out.set 5 (.int .i64 3) rfl (size_limit R1.out.tells hla k) R1.out.kle stop_sum R1.out.len, by simp [St.rank]⟩
    clear R1 HR hla
    go_wp2_with fail
    go_ret
    exact HP.out
  | short =>
    rw [hla] at hm1
    obtain ⟨rfl, rfl⟩ := hm1
    have HP : Hid (StepPost w A n c l ans (St.rank n .size k) (.returned .nilFunc) w1) :=
      ⟨.stop, k, body, all, now, 0, false, left, vb, rfl, R1.out.as (size_short R1.out.tells hla) stop_sum, by simp [St.rank]⟩
    clear R1 HR hla
    go_wp2_with fail
    go_ret
    exact HP.out
  | line m =>
    rw [hla] at hm1
    obtain ⟨rfl, rfl⟩ := hm1
    have hle := (line_spec hla).1
    have hdl : (l.drop k).length = n - k := by rw [List.length_drop, HLL.out]
    rw [hdl] at hle
    have HRk := R1.out.kle
    obtain ⟨L, hL⟩ : ∃ L, (l.drop k).take m = L := ⟨_, rfl⟩
    have hLm : L.length = m := by rw [← hL, List.length_take, hdl, Nat.min_eq_left (by omega)]
    rw [hL]
    have HLA := Lib.hid hla
    have HL := Lib.hid hL
    -- the reader, one line further
    have KB : Hid (Blk (W1.setCell ⟨w.heap.size, 1, none⟩ (.int .i64 ((k + m + 2 : Nat) : Int))) w.heap.size 133 (rdC A n c (k + m + 2) vb left now 0 false)) := R1.out.blk.set_ 1 _
    have OB : Hid ((W1.setCell ⟨w.heap.size, 1, none⟩ (.int .i64 ((k + m + 2 : Nat) : Int))).ownsRow w.heap.size 5 1 vb body.length (Lib.byteCells body)) := own_tys R1.out.own ((Tys.refl [133] W1).setCell (p := ⟨w.heap.size, 1, none⟩) R1.out.blk (by simp) _) (by decide)
    have BB : Hid (Below w.heap.size w (W1.setCell ⟨w.heap.size, 1, none⟩ (.int .i64 ((k + m + 2 : Nat) : Int)))) := R1.out.bel.setCell (p := ⟨w.heap.size, 1, none⟩) (Nat.le_refl _) _
    have HT := Lib.hid HR.out.tells
    generalize W1.setCell ⟨w.heap.size, 1, none⟩ (.int .i64 ((k + m + 2 : Nat) : Int)) = W2 at *
    clear R1 HR hla hL hdl
    obtain ⟨s, hs⟩ : ∃ s : ByteArray, (⟨L.toArray⟩ : ByteArray) = s := ⟨_, rfl⟩
    have hsL : s.data.toList = L := by rw [← hs]
    have hsz : s.size = m := by rw [← hLm, ← hsL]; rfl
    rw [hs]
    have HSL := Lib.hid hsL
    clear hs hsL
    have HTL := Lib.hid (fun W => Tryz.strings_TrimLeft s ⟨#[48, 49, 50, 51, 52, 53, 54, 55, 56, 57, 97, 98, 99, 100, 101, 102, 65, 66, 67, 68, 69, 70]⟩ W (by decide) (ascii_of_all (by decide)))
    have hm6 := (line_spec HLA.out).2.1
    go_wp2_with fail
    refine (HTL.out _).mono ?_
    rintro e w3 ⟨rfl, hb3⟩
    obtain ⟨Wd, hWd⟩ : ∃ Wd : ByteArray, (⟨(Lib.trimLeftS s.data.toList (⟨#[48, 49, 50, 51, 52, 53, 54, 55, 56, 57, 97, 98, 99, 100, 101, 102, 65, 66, 67, 68, 69, 70]⟩ : ByteArray).data.toList).toArray⟩ : ByteArray) = Wd := ⟨_, rfl⟩
    rw [hWd]
    have hWdL : Wd.data.toList = L.dropWhile hexOK := by
      rw [← hWd, ← hexSet_eq, HSL.out]
      rfl
    have hWz : Wd.size ≤ s.size := by
      have h1 : Wd.data.toList.length = Wd.size := rfl
      have h2 : s.data.toList.length = s.size := rfl
      rw [← h1, ← h2, hWdL, HSL.out]
      exact (List.dropWhile_sublist _).length_le
    have HWL := Lib.hid hWdL
    have B3 := Lib.hid (BB.out.trans (hb3.mono BB.out.size))
    have K3 := Lib.hid (KB.out.below hb3 KB.out.lt)
    have O3 := Lib.hid (own_below OB.out hb3)
    clear hWd hWdL hb3 HTL KB OB BB
    have HTL2 := Lib.hid (fun W => Tryz.strings_TrimLeft Wd ⟨#[32, 9]⟩ W (by decide) (ascii_of_all (by decide)))
    go_wp2_with fail
    obtain ⟨D, hD⟩ : ∃ D, s.extract 0 (m - Wd.size) = D := ⟨_, rfl⟩
    rw [hD]
    have hDL : D.data.toList = sizeD L := by
      have h1 : Wd.size = (L.dropWhile hexOK).length := by rw [← HWL.out]; rfl
      rw [← hD, Lib.extract_data, Nat.sub_zero, List.drop_zero, HSL.out, h1, ← hLm]
      exact take_while hexOK L
    have HDL := Lib.hid hDL
    clear hD hDL
    refine (HTL2.out _).mono ?_
    rintro e w4 ⟨rfl, hb4⟩
    obtain ⟨V, hV⟩ : ∃ V : ByteArray, (⟨(Lib.trimLeftS Wd.data.toList (⟨#[32, 9]⟩ : ByteArray).data.toList).toArray⟩ : ByteArray) = V := ⟨_, rfl⟩
    rw [hV]
    have hVL : V.data.toList = sizeW L := by
      rw [← hV, HWL.out]
      show (List.dropWhile (fun x => [32, 9].contains x) (L.dropWhile hexOK)) = _
      rw [blank_eq]
      rfl
    have HVL := Lib.hid hVL
    have B4 := Lib.hid (B3.out.trans (hb4.mono B3.out.size))
    have K4 := Lib.hid (K3.out.below hb4 K3.out.lt)
    have O4 := Lib.hid (own_below O3.out hb4)
    clear hV hVL hb4 HTL2 K3 O3 B3 HWL
    have hDz : D.size = (sizeD L).length := by rw [← HDL.out]; rfl
    have hVz : V.size = (sizeW L).length := by rw [← HVL.out]; rfl
    have HC := Lib.hid (fun W => bcontrol_any s W (by omega))
    have HBADX : Hid (∀ (X : World), Below w4.heap.size w4 X → sizeOK L = false → StepPost w A n c l ans (St.rank n .size k) (.returned .nilFunc) (X.setCell ⟨w.heap.size, 5, none⟩ (.int .i64 9))) := fun X hX hno => by
      have hr : RI w X A n c l ans .stop (k + m + 2) body all now 0 false left vb → True := fun _ => trivial
      refine ⟨.stop, k + m + 2, body, all, now, 9, false, left, vb, rfl, ⟨?_, ?_, size_bad HT.out HLA.out (by rw [HL.out]; exact hno) _, by omega, stop_sum, ?_, by omega⟩, by simp [St.rank]; omega⟩
      · exact (K4.out.below hX K4.out.lt).set_ 5 _
      · exact own_tys (own_below O4.out hX) ((Tys.refl [133] X).setCell (p := ⟨w.heap.size, 5, none⟩) (K4.out.below hX K4.out.lt) (by simp) _) (by decide)
      · exact (B4.out.trans (hX.mono B4.out.size)).setCell (p := ⟨w.heap.size, 5, none⟩) (Nat.le_refl _) _
    have HF := Lib.hid (fun (X : World) (hX : Below w4.heap.size w4 X) => fails_any w.heap.size 9 _ X (K4.out.below hX K4.out.lt) rfl)
    by_cases hd0 : D.size = 0
    · have e1 : D.toList.isEmpty = true := by rw [empty_of]; exact decide_eq_true hd0
      have hno : sizeOK L = false := by unfold sizeOK; rw [← hDz, hd0]; rfl
      have HP := Lib.hid (HBADX.out w4 (Below.refl _ _) hno)
      clear hno hDz hVz
      go_wp2_with fail
      refine (HF.out w4 (Below.refl _ _)).mono ?_
      rintro e w5 ⟨rfl, rfl⟩
      go_wp2_with fail
      go_ret
      exact HP.out
    have e1 : D.toList.isEmpty = false := by rw [empty_of]; exact decide_eq_false hd0
    by_cases hd16 : 16 < D.size
    · have e2 : decide ((16 : Int) < (D.size : Int)) = true := decide_eq_true (by omega)
      have hno : sizeOK L = false := by unfold sizeOK; rw [← hDz, decide_eq_false (show ¬ D.size ≤ 16 by omega)]; simp
      have HP := Lib.hid (HBADX.out w4 (Below.refl _ _) hno)
      clear hno hDz hVz
      go_wp2_with fail
      refine (HF.out w4 (Below.refl _ _)).mono ?_
      rintro e w5 ⟨rfl, rfl⟩
      go_wp2_with fail
      go_ret
      exact HP.out
    have e2 : decide ((16 : Int) < (D.size : Int)) = false := decide_eq_false (by omega)
    have hW : (V.toList.isEmpty = true ∧ ((sizeW L).isEmpty || (sizeW L).headD 0 == 59) = true) ∨
        (V.toList.isEmpty = false ∧ ∃ _ : 0 < V.size, ((V[0].toNat : Int) != 59) = false ∧ ((sizeW L).isEmpty || (sizeW L).headD 0 == 59) = true) ∨
        (V.toList.isEmpty = false ∧ ∃ _ : 0 < V.size, ((V[0].toNat : Int) != 59) = true ∧ sizeOK L = false) := by
      rcases Nat.eq_zero_or_pos V.size with hv0 | hv0
      · refine .inl ⟨by rw [empty_of]; exact decide_eq_true hv0, ?_⟩
        rw [hv0] at hVz
        rw [List.eq_nil_of_length_eq_zero hVz.symm]
        rfl
      · have hcons : sizeW L = V[0] :: (V.extract 1 V.size).data.toList := by rw [← HVL.out]; exact bytes_cons V hv0
        have hem : V.toList.isEmpty = false := by rw [empty_of]; exact decide_eq_false (by omega)
        by_cases h59 : V[0] = 59
        · refine .inr (.inl ⟨hem, hv0, by rw [h59]; rfl, ?_⟩)
          rw [hcons, h59]
          rfl
        · refine .inr (.inr ⟨hem, hv0, ?_, ?_⟩)
          · rw [bne_iff_ne]
            intro h
            exact h59 (UInt8.toNat_inj.1 (by show V[0].toNat = 59; omega))
          · unfold sizeOK
            have : (V[0] == 59) = false := beq_eq_false_iff_ne.2 h59
            rw [hcons]
            simp [this]
    clear hVz
    rcases hW with ⟨e3, hok⟩ | ⟨e3, hv, e4, hok⟩ | ⟨e3, hv, e4, hno⟩
    rotate_left 2
    · have HP := Lib.hid (HBADX.out w4 (Below.refl _ _) hno)
      clear hno hDz
      go_wp2_with fail
      refine (HF.out w4 (Below.refl _ _)).mono ?_
      rintro e w5 ⟨rfl, rfl⟩
      go_wp2_with fail
      go_ret
      exact HP.out
    all_goals
      have hsok : sizeOK L = plainB L := by
        unfold sizeOK
        rw [← hDz, decide_eq_true (show 1 ≤ D.size by omega), decide_eq_true (show D.size ≤ 16 by omega), hok]
        simp
      have HSOK := Lib.hid hsok
      clear hok hsok
      go_wp2_with fail
      refine (HC.out w4).mono ?_
      rintro e w5 ⟨rfl, q, rfl⟩
      rw [HSL.out]
      have hb5 : Below w4.heap.size w4 (w4.drewN q) := below_drewN (Below.refl _ _) q
      generalize w4.drewN q = w5 at *
      have Hb5 := Lib.hid hb5
      clear hb5
      cases hpl : plainB L with
      | false =>
        have HP := Lib.hid (HBADX.out w5 Hb5.out (HSOK.out.trans hpl))
        clear hpl hDz
        go_wp2_with fail
        refine (HF.out w5 Hb5.out).mono ?_
        rintro e w6 ⟨rfl, rfl⟩
        go_wp2_with fail
        go_ret
        exact HP.out
      | true =>
        have hgood : sizeOK ((l.drop k).take m) = true := by rw [HL.out, HSOK.out, hpl]
        have HGOOD := Lib.hid hgood
        have HPH := Lib.hid (phex_any D (by omega) (by omega) (by rw [HDL.out]; exact List.all_takeWhile) w5)
        clear hpl hgood HBADX HF HC
        obtain ⟨N, hN⟩ : ∃ N, sizeN ((l.drop k).take m) = N := ⟨_, rfl⟩
        have hDN : hexN D.data.toList = N := by rw [HDL.out, ← hN, HL.out]; rfl
        rw [hDN] at HPH
        have HN := Lib.hid hN
        clear hDN hN HDL
        go_wp2_with fail
        refine (HPH.out).mono ?_
        rintro e w6 ⟨rfl, hb6⟩
        have hb46 := Hb5.out.trans (hb6.mono Hb5.out.size)
        have B6 := Lib.hid (B4.out.trans (hb46.mono B4.out.size))
        have K6 := Lib.hid (K4.out.below hb46 K4.out.lt)
        have O6 := Lib.hid (own_below O4.out hb46)
        clear hb6 hb46 HPH
        have c3 := K6.out.cell 3
        have c4 := K6.out.cell 4
        simp [rdC] at c3 c4
        have f4 := K6.out.frozen 4
        by_cases hbig : left < N
        · have d1 : decide ((left : Int) < (N : Int)) = true := decide_eq_true (by omega)
          have HF2 := Lib.hid (fails_any w.heap.size 3 _ w6 K6.out rfl)
          have HP : Hid (StepPost w A n c l ans (St.rank n .size k) (.returned .nilFunc) (w6.setCell ⟨w.heap.size, 5, none⟩ (.int .i64 3))) := by
            refine ⟨.stop, k + m + 2, body, all, now, 3, false, left, vb, rfl, ⟨K6.out.set_ 5 _, own_tys O6.out ((Tys.refl [133] w6).setCell (p := ⟨w.heap.size, 5, none⟩) K6.out (by simp) _) (by decide), size_great HT.out HLA.out HGOOD.out (by rw [HN.out]; omega) (by omega) _, by omega, stop_sum, B6.out.setCell (p := ⟨w.heap.size, 5, none⟩) (Nat.le_refl _) _, by omega⟩, by simp [St.rank]; omega⟩
          go_wp2_with fail
          refine (HF2.out).mono ?_
          rintro e w7 ⟨rfl, rfl⟩
          go_wp2_with fail
          go_ret
          exact HP.out
        have d1 : decide ((left : Int) < (N : Int)) = false := decide_eq_false (by omega)
        by_cases hz : N = 0
        · subst hz
          have HP : Hid (StepPost w A n c l ans (St.rank n .size k) (.returned (stV w.heap.size .fields)) w6) := by
            refine ⟨.fields, k + m + 2, body, all, now, 0, false, left, vb, rfl, ⟨K6.out, O6.out, size_zero HT.out HLA.out HGOOD.out HN.out all, by omega, fields_sum, B6.out, by omega⟩, by simp [St.rank]; omega⟩
          go_wp2_with fail
          go_ret
          exact HP.out
        · have d2 : ((N : Int) == 0) = false := beq_eq_false_iff_ne.2 (by omega)
          have HP : Hid (StepPost w A n c l ans (St.rank n .size k) (.returned (stV w.heap.size .chunk)) (w6.setCell ⟨w.heap.size, 4, none⟩ (.int .i64 (N : Int)))) := by
            have ht := size_next HT.out HLA.out HGOOD.out (by rw [HN.out]; exact hz) (by rw [HN.out]; omega)
            rw [HN.out] at ht
            refine ⟨.chunk, k + m + 2, body, all, N, 0, false, left, vb, rfl, ⟨K6.out.set_ 4 _, own_tys O6.out ((Tys.refl [133] w6).setCell (p := ⟨w.heap.size, 4, none⟩) K6.out (by simp) _) (by decide), ht, by omega, fun _ => hsum, B6.out.setCell (p := ⟨w.heap.size, 4, none⟩) (Nat.le_refl _) _, by omega⟩, by simp [St.rank]; omega⟩
          go_wp2_with fail
          go_ret
          exact HP.out
end Go.Proofs.YtonlfplloenfcaaGreatDoor
