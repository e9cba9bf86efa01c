/-
  Book: keepByte. (Written by book.py out of XBook.)
  Book: keepField. (Written by book.py out of XBook.)
  Rows of bytes of the call's own: small facts, over any program.
  footmanref12.whole: where a head ends.
-/
import Derived.Test.YtonlfplloenfcaaGreatDoorSameEtc
import Derived.Test.YtonlfplloenfcaaGreatDoorTysEtc
import Derived.Deep.RegionLaw
import Derived.Lib.AppendStr
import Derived.Test.YtonlfplloenfcaaGreatDoorPutSpecEtc
import Derived.Lib.QuietBelow
namespace Go.Proofs.YtonlfplloenfcaaGreatDoor
open Go.RowKit

theorem infoHB : (Tryz.prog.info? 174).map (fun i => (i.zero, i.size, i.bytes)) = some (some (.agg #[.slice none 0 0, .slice none 0 0, .int .i64 0]), 3, 56) := by kernel_rfl

set_option maxRecDepth 100000 in
theorem keepbyte_any (Bs g : Nat) (nb : Nat) (vb vi vt vf vc vs vg vm : Value) (A : Option Addr) (n c m : Nat) (xs : List Value) (w : World) (hnb : nb ≤ 1000000) (hm : m ≤ 1000000) (hBs : Bs ≤ g)
     (hB : Blk w g 42 #[.int .i64 nb, vb, vi, vt, vf, vc, vs, vg, vm]) (hown : w.ownsRow Bs 174 3 vb m xs) :
   Calls Tryz.prog 81 #[.pointer (some ⟨g, 0, none⟩), .slice A n c] w fun e w' => e = .returned (.tuple #[]) ∧
     ∃ vb', Blk w' g 42 #[.int .i64 (nb + 1 : Nat), vb', vi, vt, vf, vc, vs, vg, vm] ∧ w'.ownsRow Bs 174 3 vb' (m + 1) (xs ++ [.slice A n c, .slice none 0 0, .int .i64 (nb + 1 : Nat)]) ∧
       Below Bs w w' ∧ Tys [42, 174] w w' := by
  obtain ⟨i0, hi, hz0, hz1, hz2⟩ := info_parts infoHB
  have c0 := hB.cell 0
  have f0 := hB.frozen 0
  simp at c0
  have hlt := hB.lt
  obtain ⟨W1, hW1, hB1, hO1, hb1, ht1⟩ : ∃ W1, w.setCell ⟨g, 0, none⟩ (.int .i64 (nb + 1 : Nat)) = W1 ∧ Blk W1 g 42 #[.int .i64 (nb + 1 : Nat), vb, vi, vt, vf, vc, vs, vg, vm] ∧ W1.ownsRow Bs 174 3 vb m xs ∧
      Below Bs w W1 ∧ Tys [42, 174] w W1 := by
    have ht : Tys [42] w (w.setCell ⟨g, 0, none⟩ (.int .i64 (nb + 1 : Nat))) := (Tys.refl _ _).setCell (p := ⟨g, 0, none⟩) hB.heap (by simp) _
    refine ⟨_, rfl, by simpa using hB.set_ 0 (.int .i64 (nb + 1 : Nat)), own_tys hown ht (by decide), (Below.refl _ _).setCell hBs _, ht.mono (by simp)⟩
  have HB := Lib.hid hB
  have HO := Lib.hid hown
  clear hB hown
  go_enter Tryz.func81, Tryz.ntmps81
  go_wp2_with fail
  have e1 : ((nb : Int) + 1) = ((nb + 1 : Nat) : Int) := by omega
  rw [e1, hW1]
  clear hW1 c0 f0 e1
  have c0 := hB1.cell 0
  have c3 := hB1.cell 1
  simp at c0 c3
  have hne : ∀ k, vb.ownBlock = some k → k ≠ g := fun k hk => by
    obtain ⟨cs, hh⟩ := own_heap hO1 hk
    rintro rfl
    rw [hB1.heap] at hh
    injection hh with hh
    injection hh with _ h2
    cases h2
  have hfin : ∀ (v2 : Value) (w2 : World), w2.ownsRow Bs 174 3 v2 (m + 1) (xs ++ [.slice A n c, .slice none 0 0, .int .i64 (nb + 1 : Nat)]) →
      ((W1.alloc (.cells #[.slice A n c, .slice none 0 0, .int .i64 (nb + 1 : Nat)] 174)).drew).grownBy w2 vb.ownBlock →
      (Blk w2 g 42 #[.int .i64 (nb + 1 : Nat), vb, vi, vt, vf, vc, vs, vg, vm] ∧ Below Bs w w2 ∧ Tys [42, 174] w w2) := by
    intro v2 w2 h2 hg2
    have hlt1 := hB1.lt
    refine ⟨((hB1.alloc _).drew).grown hg2 (fun e => hne g e.symm rfl), ((hb1.alloc (by omega) _).drew).grown hg2 (by have := hb1.size; simp; omega) (fun k hk => (hO1.lt k hk).1), ((ht1.alloc _).drew).grown hg2 (fun k hk => ?_)⟩
    obtain ⟨cs, hh⟩ := own_heap hO1 hk
    exact ⟨cs, _, _, (Below.heap_alloc _ _ _ (hO1.lt k hk).2).trans hh, by simp⟩
  have HB1 := Lib.hid hB1
  have HO1 := Lib.hid hO1
  have HF := Lib.hid hfin
  have HL1 := Lib.hid hb1
  have ca : ∀ o, (W1.alloc o).cell? ⟨g, 1, none⟩ = some vb := fun o => (World.cell?_alloc_lt W1 o ⟨g, 1, none⟩ hB1.lt).trans c3
  clear hB1 hO1 ht1 hb1 hfin hne
  go_region_law ((refine step_append_any _ rfl _ _ 33 rfl Bs 174 i0 _ 3 56 Tryz.underlying33 hi hz0 hz1 hz2 rfl (by decide) vb m xs rfl (HO1.out.alloc _) (W1.heap.size + 1) _ 1 1 [.slice A n c, .slice none 0 0, .int .i64 (nb + 1 : Nat)] rfl (reads_three W1 _ _ _ _ _ (by omega)) (by simp [Value.oneCell']) (by unfold maxLen; omega) (by omega) (by have := HL1.out.size; simp; omega) ?_; intro v2 w2 hown2 hg2 _; have hK := HF.out v2 w2 hown2 hg2; have HK := Lib.hid hK; have cc := hK.1.cell 1; have ff := hK.1.frozen 1; simp at cc; clear hK; have HW := Lib.hid hown2; obtain ⟨A2, c2, rfl⟩ := own_form hown2; clear hown2 hg2))
  all_goals
    go_end0
    have hs : ∀ u, Tys [42] w2 (w2.setCell ⟨g, 1, none⟩ u) := fun u => (Tys.refl _ _).setCell (p := ⟨g, 1, none⟩) HK.out.1.heap (by simp) _
    exact ⟨rfl, _, by simpa using HK.out.1.set_ 1 _, own_tys HW.out (hs _) (by decide), HK.out.2.1.setCell hBs _, HK.out.2.2.trans ((hs _).mono (by simp))⟩
end Go.Proofs.YtonlfplloenfcaaGreatDoor
namespace Go.Proofs.YtonlfplloenfcaaGreatDoor
open Go.RowKit

theorem infoHF : (Tryz.prog.info? 181).map (fun i => (i.zero, i.size, i.bytes)) = some (some (.agg #[.slice none 0 0, .slice none 0 0, .int .i64 0]), 3, 56) := by kernel_rfl

set_option maxRecDepth 100000 in
theorem keepfield_any (Bs g : Nat) (nb : Nat) (vb vi vt vf vc vs vg vm : Value) (A : Option Addr) (n c m : Nat) (xs : List Value) (w : World) (hnb : nb ≤ 1000000) (hm : m ≤ 1000000) (hBs : Bs ≤ g)
     (hB : Blk w g 42 #[.int .i64 nb, vb, vi, vt, vf, vc, vs, vg, vm]) (hown : w.ownsRow Bs 181 3 vf m xs) :
   Calls Tryz.prog 152 #[.pointer (some ⟨g, 0, none⟩), .slice A n c] w fun e w' => e = .returned (.tuple #[]) ∧
     ∃ vf', Blk w' g 42 #[.int .i64 (nb + 1 : Nat), vb, vi, vt, vf', vc, vs, vg, vm] ∧ w'.ownsRow Bs 181 3 vf' (m + 1) (xs ++ [.slice A n c, .slice none 0 0, .int .i64 (nb + 1 : Nat)]) ∧
       Below Bs w w' ∧ Tys [42, 181] w w' := by
  obtain ⟨i0, hi, hz0, hz1, hz2⟩ := info_parts infoHF
  have c0 := hB.cell 0
  have f0 := hB.frozen 0
  simp at c0
  have hlt := hB.lt
  obtain ⟨W1, hW1, hB1, hO1, hb1, ht1⟩ : ∃ W1, w.setCell ⟨g, 0, none⟩ (.int .i64 (nb + 1 : Nat)) = W1 ∧ Blk W1 g 42 #[.int .i64 (nb + 1 : Nat), vb, vi, vt, vf, vc, vs, vg, vm] ∧ W1.ownsRow Bs 181 3 vf m xs ∧
      Below Bs w W1 ∧ Tys [42, 181] w W1 := by
    have ht : Tys [42] w (w.setCell ⟨g, 0, none⟩ (.int .i64 (nb + 1 : Nat))) := (Tys.refl _ _).setCell (p := ⟨g, 0, none⟩) hB.heap (by simp) _
    refine ⟨_, rfl, by simpa using hB.set_ 0 (.int .i64 (nb + 1 : Nat)), own_tys hown ht (by decide), (Below.refl _ _).setCell hBs _, ht.mono (by simp)⟩
  have HB := Lib.hid hB
  have HO := Lib.hid hown
  clear hB hown
  go_enter Tryz.func152, Tryz.ntmps152
  go_wp2_with fail
  have e1 : ((nb : Int) + 1) = ((nb + 1 : Nat) : Int) := by omega
  rw [e1, hW1]
  clear hW1 c0 f0 e1
  have c0 := hB1.cell 0
  have c3 := hB1.cell 4
  simp at c0 c3
  have hne : ∀ k, vf.ownBlock = some k → k ≠ g := fun k hk => by
    obtain ⟨cs, hh⟩ := own_heap hO1 hk
    rintro rfl
    rw [hB1.heap] at hh
    injection hh with hh
    injection hh with _ h2
    cases h2
  have hfin : ∀ (v2 : Value) (w2 : World), w2.ownsRow Bs 181 3 v2 (m + 1) (xs ++ [.slice A n c, .slice none 0 0, .int .i64 (nb + 1 : Nat)]) →
      ((W1.alloc (.cells #[.slice A n c, .slice none 0 0, .int .i64 (nb + 1 : Nat)] 181)).drew).grownBy w2 vf.ownBlock →
      (Blk w2 g 42 #[.int .i64 (nb + 1 : Nat), vb, vi, vt, vf, vc, vs, vg, vm] ∧ Below Bs w w2 ∧ Tys [42, 181] w w2) := by
    intro v2 w2 h2 hg2
    have hlt1 := hB1.lt
    refine ⟨((hB1.alloc _).drew).grown hg2 (fun e => hne g e.symm rfl), ((hb1.alloc (by omega) _).drew).grown hg2 (by have := hb1.size; simp; omega) (fun k hk => (hO1.lt k hk).1), ((ht1.alloc _).drew).grown hg2 (fun k hk => ?_)⟩
    obtain ⟨cs, hh⟩ := own_heap hO1 hk
    exact ⟨cs, _, _, (Below.heap_alloc _ _ _ (hO1.lt k hk).2).trans hh, by simp⟩
  have HB1 := Lib.hid hB1
  have HO1 := Lib.hid hO1
  have HF := Lib.hid hfin
  have HL1 := Lib.hid hb1
  have ca : ∀ o, (W1.alloc o).cell? ⟨g, 4, none⟩ = some vf := fun o => (World.cell?_alloc_lt W1 o ⟨g, 4, none⟩ hB1.lt).trans c3
  clear hB1 hO1 ht1 hb1 hfin hne
  go_region_law ((refine step_append_any _ rfl _ _ 36 rfl Bs 181 i0 _ 3 56 Tryz.underlying36 hi hz0 hz1 hz2 rfl (by decide) vf m xs rfl (HO1.out.alloc _) (W1.heap.size + 1) _ 1 1 [.slice A n c, .slice none 0 0, .int .i64 (nb + 1 : Nat)] rfl (reads_three W1 _ _ _ _ _ (by omega)) (by simp [Value.oneCell']) (by unfold maxLen; omega) (by omega) (by have := HL1.out.size; simp; omega) ?_; intro v2 w2 hown2 hg2 _; have hK := HF.out v2 w2 hown2 hg2; have HK := Lib.hid hK; have cc := hK.1.cell 4; have ff := hK.1.frozen 4; simp at cc; clear hK; have HW := Lib.hid hown2; obtain ⟨A2, c2, rfl⟩ := own_form hown2; clear hown2 hg2))
  all_goals
    go_end0
    have hs : ∀ u, Tys [42] w2 (w2.setCell ⟨g, 4, none⟩ u) := fun u => (Tys.refl _ _).setCell (p := ⟨g, 4, none⟩) HK.out.1.heap (by simp) _
    exact ⟨rfl, _, by simpa using HK.out.1.set_ 4 _, own_tys HW.out (hs _) (by decide), HK.out.2.1.setCell hBs _, HK.out.2.2.trans ((hs _).mono (by simp))⟩
end Go.Proofs.YtonlfplloenfcaaGreatDoor
namespace Go.Proofs.YtonlfplloenfcaaGreatDoor
open Go.RowKit

theorem below_own {B base n size : Nat} {e : TypeId} {w0 W W' : World} {v : Value} {xs : List Value} (hb : Below B w0 W) (hown : W.ownsRow base e size v n xs) (hg : W.grownBy W' v.ownBlock) (hB : B ≤ base) (h0 : B ≤ w0.heap.size) : Below B w0 W' := by
  refine hb.grown hg (by have := hb.size; omega) (fun k hk => ?_)
  rcases hown.2 with ⟨rfl, _⟩ | ⟨g, cap, cur, rfl, hbg, _⟩
  · simp [Value.ownBlock] at hk
  · simp [Value.ownBlock] at hk; subst hk; omega
theorem cells_at {w : World} {b off a m n : Nat} {l : List UInt8} (hl : l.length = n) (h : a + m ≤ n) (hsrc : ∀ (j : Nat) (u : Value), (Lib.byteCells l)[j]? = some u → w.cell? ⟨b, off + j, none⟩ = some u) :
    Lies w (b + 1) (some ⟨b, off + a, none⟩) m (Lib.byteCells ((l.drop a).take m)) := by
  refine ⟨by rw [Lib.byteCells_length, List.length_take, List.length_drop]; omega, fun _ => ⟨b, off + a, rfl, by omega, fun j v hv => ?_⟩⟩
  rw [Nat.add_assoc]
  refine hsrc (a + j) v ?_
  unfold Lib.byteCells at hv ⊢
  rw [List.map_take, List.map_drop, List.getElem?_take] at hv
  split at hv
  · rw [List.getElem?_drop] at hv; exact hv
  · cases hv
theorem two_new (w : World) (t : TypeId) (x y : Value) : ∀ (j : Nat) (u : Value), [x, y][j]? = some u → (w.alloc (.cells #[x, y] t)).cell? ((⟨w.heap.size, 0, none⟩ : Addr).add j) = some u := by
  intro j u hu
  rw [Addr.add_lit, Nat.zero_add, cell_alloc_at]
  simpa using hu

theorem Lies.reads {w : World} {B n : Nat} {A : Option Addr} {xs : List Value} (h : Lies w B A n xs) : Reads w B 1 A n xs :=
  ⟨by rw [Nat.mul_one]; exact h.1, fun hn => by
    obtain ⟨b, off, e, hb, hc⟩ := h.2 hn
    exact ⟨_, e, hb, fun j u hu => by rw [Addr.add_lit]; exact hc j u hu⟩⟩
theorem reads_new (w : World) (t : TypeId) (x y : Value) : Reads (w.alloc (.cells #[x, y] t)) (w.heap.size + 1) 1 (some ⟨w.heap.size, 0, none⟩) 2 [x, y] :=
  ⟨rfl, fun _ => ⟨_, rfl, by simp, two_new w t x y⟩⟩
theorem own_bytes {w : World} {base n : Nat} {e : TypeId} {v : Value} {xs : List Value} (L : List UInt8) (h : w.ownsRow base e 1 v n xs) (hx : xs = Lib.byteCells L) : w.ownsRow base e 1 v L.length (Lib.byteCells L) := by
  have h1 := h.1
  rw [hx, Lib.byteCells_length, Nat.mul_one] at h1
  rw [h1, ← hx]
  exact h

/-- A string put behind a row, at a step of a region that draws its order. -/
theorem step_append_str {P : Program} {w : World} {ops : Array Oper} {o : Oper} {a : Act} {K : Act → World → Prop} {Q : Exit → Act → World → Prop} {E : Prop} (hgd : o.guard = none) (sl x : Operand) (t u : TypeId)
    (ho : o.op = .call { callee := .builtin .append, args := #[sl, x], argTypes := #[t, u] })
    (base : Nat) (e : TypeId) (i : TypeInfo) (ht : P.underlying t = some (.slice e)) (hu : P.underlying u = some .string) (hi : P.info? e = some i) (hz : i.zero = some (.int .u8 0))
    (hsize : i.size = 1) (hby : i.bytes = 1)
    (v : Value) (n : Nat) (xs : List Value) (hs : a.eval sl = v) (hown : w.ownsRow base e 1 v n xs) (s : ByteArray) (hx : a.eval x = .string s)
    (h63 : n + s.size ≤ maxLen) (hbytes : n + s.size ≤ 140737488355328) (hbase : base ≤ w.heap.size)
    (h : ∀ v' w', w'.ownsRow base e 1 v' (n + s.size) (xs ++ Lib.strCells s) → w.grownBy w' v.ownBlock → K (a.put o.dst v') w') :
    if Region.wanted o (yielded ops a.tmps) = true then Oper.wp P o a w K Q else E := by
  have hw : Region.wanted o (yielded ops a.tmps) = true := by simp [Region.wanted, hgd]
  rw [if_pos hw]
  obtain ⟨v', w', hr, h2, h3, h4⟩ := Lib.run_append_own_string (P := P) w base t u o.type e i ht hu hi hz hsize hby v n xs hown s h63 hbytes hbase
  unfold Oper.wp execOp
  simp only [ho, resolve, invoke, builtin, Sem.run_bind, Sem.run_pure, Result.andThen_ok, List.map_toArray, List.map_cons, List.map_nil, hs, hx, hr]
  exact h v' w' h2 h3
end Go.Proofs.YtonlfplloenfcaaGreatDoor
namespace Go.Proofs.YtonlfplloenfcaaGreatDoor
open Go.RowKit
attribute [local go_sem] Oper.semAt_some

theorem four_dec (l : List UInt8) (k : Nat) (h : k + 3 < l.length) : fourAt l k ↔ (l[k].toNat = 13 ∧ l[k + 1].toNat = 10 ∧ l[k + 2].toNat = 13 ∧ l[k + 3].toNat = 10) := by
  unfold fourAt
  rw [List.getElem?_eq_getElem (by omega), List.getElem?_eq_getElem (by omega), List.getElem?_eq_getElem (by omega), List.getElem?_eq_getElem (by omega)]
  simp only [Option.some.injEq, ← UInt8.toNat_inj]
  exact Iff.rfl

set_option maxRecDepth 100000 in
theorem rwhole_any (A : Option Addr) (n c B : Nat) (l : List UInt8) (w : World) (h : Lies w B A n (Lib.byteCells l)) (hn : n ≤ 140737488355328) :
    Calls Tryz.prog 173 #[.slice A n c] w fun e w' => e = .returned (.int .i64 (if 0 ≤ Lib.index l headEnd then Lib.index l headEnd + 4 else -1)) ∧ w' = w := by
  have hl : l.length = n := by simpa [Lib.byteCells] using h.1
  obtain ⟨z, hz⟩ : ∃ z : Int, z = (if 0 ≤ Lib.index l headEnd then Lib.index l headEnd + 4 else -1) := ⟨_, rfl⟩
  rw [← hz]
  have HZ := Lib.hid hz
  clear hz
  go_enter Tryz.func173, Tryz.ntmps173
  go_wp2_with fail
  go_loopw [3] (fun i wr => ∃ k : Nat, k ≤ n ∧ i = .int .i64 k ∧ Hid (∀ j, j < k → ¬ fourAt l j) ∧ wr = w)
    (fun i _ => n - (intOf i).toNat)
  case atStart => exact ⟨0, Nat.zero_le _, rfl, fun j hj => by omega, rfl⟩
  case round =>
    obtain ⟨k, hk, rfl, hp, hw⟩ := hrel
    subst hw
    by_cases hlt : k + 3 < n
    · have hat : ∀ j, k + j < n → (Lib.byteCells l)[k + j]? = some (.int .u8 ((l[k + j]?.getD 0).toNat : Int)) := fun j hj => by
        unfold Lib.byteCells
        rw [List.getElem?_map, List.getElem?_eq_getElem (by omega)]
        rfl
      obtain ⟨b, off, u0, rfl, hbb, hu0, hc0⟩ := h.at_ (k := k) (by omega)
      have hcc := (h.2 (by omega))
      obtain ⟨b', off', e', hbb', hc⟩ := hcc
      obtain ⟨rfl, rfl⟩ : b = b' ∧ off = off' := by injection e' with e'; injection e' with e1 e2; exact ⟨e1, e2⟩
      have c0 := hc (k + 0) _ (hat 0 (by omega))
      have c1 := hc (k + 1) _ (hat 1 (by omega))
      have c2 := hc (k + 2) _ (hat 2 (by omega))
      have c3 := hc (k + 3) _ (hat 3 (by omega))
      have hfour := four_dec l k (by omega)
      simp only [Nat.add_zero] at c0
      obtain ⟨x0, hx0⟩ : ∃ x, x = (l[k + 0]?.getD 0) := ⟨_, rfl⟩
      obtain ⟨x1, hx1⟩ : ∃ x, x = (l[k + 1]?.getD 0) := ⟨_, rfl⟩
      obtain ⟨x2, hx2⟩ : ∃ x, x = (l[k + 2]?.getD 0) := ⟨_, rfl⟩
      obtain ⟨x3, hx3⟩ : ∃ x, x = (l[k + 3]?.getD 0) := ⟨_, rfl⟩
      rw [List.getElem?_eq_getElem (by omega)] at hx0 hx1 hx2 hx3
      simp only [Nat.add_zero, Option.getD_some] at hx0 hx1 hx2 hx3 
      rw [List.getElem?_eq_getElem (by omega), Option.getD_some] at c0 c1 c2 c3
      rw [← hx0, ← hx1, ← hx2, ← hx3] at hfour
      rw [← hx0] at c0
      rw [← hx1] at c1
      rw [← hx2] at c2
      rw [← hx3] at c3
      clear hx0 hx1 hx2 hx3 hat hu0 hc0 hc
      have HFOUR := Lib.hid hfour
      have HST := Lib.hid hp
      clear hfour h
      have miss : (x0.toNat : Int) ≠ 13 ∨ (x1.toNat : Int) ≠ 10 ∨ (x2.toNat : Int) ≠ 13 ∨ (x3.toNat : Int) ≠ 10 → ∀ j, j < k + 1 → ¬ fourAt l j := by
        intro hm j hj
        by_cases hjk : j < k
        · exact HST.out.out j hjk
        · obtain rfl : j = k := by omega
          intro hf
          have := HFOUR.out.1 hf
          omega
      have hit : (x0.toNat : Int) = 13 → (x1.toNat : Int) = 10 → (x2.toNat : Int) = 13 → (x3.toNat : Int) = 10 → Lib.index l headEnd = (k : Int) := fun h0 h1 h2 h3 => four_first (HFOUR.out.2 ⟨by omega, by omega, by omega, by omega⟩) HST.out.out
      have MISS := Lib.hid miss
      have HIT := Lib.hid hit
      clear miss hit HFOUR HST hp
      cases e0 : ((x0.toNat : Int) == 13)
      · go_wp2_with fail
        go_roundw
        case rel => exact ⟨k + 1, by omega, by go_num, MISS.out (.inl (by simpa using e0)), by first | rfl | trivial⟩
        case measure => simp [intOf]; omega
      · cases e1 : ((x1.toNat : Int) == 10)
        · go_wp2_with fail
          go_roundw
          case rel => exact ⟨k + 1, by omega, by go_num, MISS.out (.inr (.inl (by simpa using e1))), by first | rfl | trivial⟩
          case measure => simp [intOf]; omega
        · cases e2 : ((x2.toNat : Int) == 13)
          · go_wp2_with fail
            go_roundw
            case rel => exact ⟨k + 1, by omega, by go_num, MISS.out (.inr (.inr (.inl (by simpa using e2)))), by first | rfl | trivial⟩
            case measure => simp [intOf]; omega
          · cases e3 : ((x3.toNat : Int) == 10)
            · go_wp2_with fail
              go_roundw
              case rel => exact ⟨k + 1, by omega, by go_num, MISS.out (.inr (.inr (.inr (by simpa using e3)))), by first | rfl | trivial⟩
              case measure => simp [intOf]; omega
            · have hidx := HIT.out (by simpa using e0) (by simpa using e1) (by simpa using e2) (by simpa using e3)
              have HIDX := Lib.hid hidx
              clear hidx
              go_wp2_with fail
              go_ret
              refine ⟨ret_int ?_, rfl⟩
              rw [HZ.out, HIDX.out, if_pos (by omega)]
    · have hnone : Lib.index l headEnd = -1 := four_none fun j hj => hp.out j (by omega)
      have HN := Lib.hid hnone
      clear hnone hp h
      go_wp2_with fail
      go_ret
      refine ⟨ret_int ?_, rfl⟩
      rw [HZ.out, HN.out, if_neg (by omega)]
end Go.Proofs.YtonlfplloenfcaaGreatDoor
