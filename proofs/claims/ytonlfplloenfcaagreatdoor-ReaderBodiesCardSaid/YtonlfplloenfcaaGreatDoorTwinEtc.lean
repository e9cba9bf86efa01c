/-
  Copies with a mark behind them: how they read. Fields, bytes.
  Rows of bytes of the call's own: small facts, over any program.
  footmanref12.whole: where a head ends.
  slices.Chunk at bytes: what its iterator hands out, part by part.
-/
import Derived.Test.YtonlfplloenfcaaGreatDoorReflEtc
import Derived.Test.YtonlfplloenfcaaGreatDoorFindEtc
import Derived.Lib.AppendStr
import Derived.Test.YtonlfplloenfcaaGreatDoorPutSpecEtc
import Derived.Lib.QuietBelow
import Derived.RangeFuncBox
import Derived.RangeFuncNested
import Derived.RangeFuncBound
import Derived.RangeFuncCalls
import Derived.RangeFuncLeaves
import Derived.Shelf.Abstract
import Derived.Shelf.RegionOpen
import Derived.WalkKit
import Derived.OwnWalkIn
import Derived.TacticsInMore
import Derived.LoopNIn
import Derived.LoopIn
import Derived.Sort.QuietIn
namespace Go.Proofs.YtonlfplloenfcaaGreatDoor
open Go.RowKit

theorem big_parts {m : Nat} {fs : List Fd} (h : bigB m fs = false) : fs.length ≤ 100000 ∧ ∀ f ∈ fs, f.1.size ≤ 200000 ∧ f.2.size ≤ 200000 := by
  have h2 : m + fsum fs ≤ 200000 := by
    unfold bigB at h
    have := of_decide_eq_false h
    omega
  have key : ∀ l : List Fd, 2 * l.length ≤ fsum l ∧ ∀ f ∈ l, f.1.size + f.2.size ≤ fsum l := by
    intro l
    induction l with
    | nil => exact ⟨by simp, by simp⟩
    | cons x r ih =>
      have e : fsum (x :: r) = (2 + x.1.size + x.2.size) + fsum r := by simp [fsum]
      refine ⟨by rw [e, List.length_cons]; omega, fun f hf => ?_⟩
      rw [e]
      rcases List.mem_cons.1 hf with rfl | hf
      · omega
      · have := ih.2 f hf; omega
  have k1 := key fs
  exact ⟨by omega, fun f hf => by have := k1.2 f hf; omega⟩

theorem FRead.below {w w' : World} {B : Nat} {A : Option Addr} {n : Nat} {fs : List Fd} (h : FRead w B A n fs) (hb : Below B w w') : FRead w' B A n fs :=
  ⟨h.1, fun hn => by
    obtain ⟨b, off, e, hlt, hc⟩ := h.2 hn
    exact ⟨b, off, e, hlt, fun i f hf => ⟨(hb.cell (p := ⟨b, _, none⟩) hlt).trans (hc i f hf).1, (hb.cell (p := ⟨b, _, none⟩) hlt).trans (hc i f hf).2⟩⟩⟩
theorem FRead.more {w : World} {B B' : Nat} {A : Option Addr} {n : Nat} {fs : List Fd} (h : FRead w B A n fs) (hB : B ≤ B') : FRead w B' A n fs :=
  ⟨h.1, fun hn => by
    obtain ⟨b, off, e, hlt, hc⟩ := h.2 hn
    exact ⟨b, off, e, by omega, hc⟩⟩
theorem fcells_at : ∀ (fs : List Fd) (xs : List Value) (i : Nat) (f : Fd), fs[i]? = some f → (fcells fs ++ xs)[i * 2]? = some (.string f.1) ∧ (fcells fs ++ xs)[i * 2 + 1]? = some (.string f.2)
  | [], _, i, f, h => by simp at h
  | g :: r, xs, 0, f, h => by
    simp at h
    subst h
    simp [fcells]
  | g :: r, xs, i + 1, f, h => by
    have ih := fcells_at r xs i f (by simpa using h)
    refine ⟨?_, ?_⟩
    · rw [show (i + 1) * 2 = i * 2 + 2 by omega]; simpa [fcells] using ih.1
    · rw [show (i + 1) * 2 + 1 = i * 2 + 1 + 2 by omega]; simpa [fcells] using ih.2
theorem fcells_len (fs : List Fd) : (fcells fs).length = fs.length * 2 := by
  unfold fcells
  induction fs with
  | nil => rfl
  | cons x r ih => rw [List.flatMap_cons, List.length_append, ih, List.length_cons]; simp; omega
/-- A copy that was made with a mark behind it: it reads as the list, and the mark is there. -/
theorem twin_read {w : World} {base g n : Nat} {E : TypeId} {fs : List Fd} {a b : Value} (hl : fs.length = n) (h : w.ownsRow base E 2 (.slice (some ⟨g, 0, none⟩) (n + 1) (n + 1)) (n + 1) (fcells fs ++ [a, b])) :
    FRead w w.heap.size (some ⟨g, 0, none⟩) n fs ∧ w.cell? ⟨g, n * 2, none⟩ = some a ∧ w.cell? ⟨g, n * 2 + 1, none⟩ = some b := by
  have hlen := fcells_len fs
  refine ⟨⟨hl, fun hn => ⟨g, 0, rfl, (h.lt g rfl).2, fun i f hf => ?_⟩⟩, ?_, ?_⟩
  · have hi : i < n := by rw [← hl]; exact (List.getElem?_eq_some_iff.1 hf).1
    obtain ⟨h1, h2⟩ := fcells_at fs [a, b] i f hf
    rw [Nat.zero_add]
    exact ⟨(h.cellAt _ (by omega)).trans h1, (h.cellAt _ (by omega)).trans h2⟩
  · rw [h.cellAt _ (by omega), List.getElem?_append_right (by omega)]
    simp [hlen, hl]
  · rw [h.cellAt _ (by omega), List.getElem?_append_right (by omega)]
    simp [hlen, hl]
/-- A row without its last elements. -/
theorem own_cut {w : World} {base g n k cap sz : Nat} {E : TypeId} {xs ys : List Value} (hx : xs.length = n * sz) (h : w.ownsRow base E sz (.slice (some ⟨g, 0, none⟩) (n + k) cap) (n + k) (xs ++ ys)) : w.ownsRow base E sz (.slice (some ⟨g, 0, none⟩) n cap) n xs := by
  refine ⟨hx, ?_⟩
  rcases h.2 with ⟨h2, _⟩ | ⟨g', cap', cur, hv, hg, hh, hnc, hcm, hcs, htake⟩
  · simp at h2
  · simp only [Value.slice.injEq, Option.some.injEq, Addr.mk.injEq, and_true, true_and] at hv
    obtain ⟨rfl, rfl⟩ := hv
    refine .inr ⟨g, cap, cur, rfl, hg, hh, by omega, hcm, hcs, ?_⟩
    have h3 := congrArg (List.take (n * sz)) htake
    rw [List.take_take, Nat.min_eq_left (Nat.mul_le_mul_right _ (by omega))] at h3
    rw [h3, ← hx]
    exact List.take_left

/-- A copy that was made with a mark behind it. -/
theorem twinb_read {w : World} {base g n : Nat} {E : TypeId} {l : List UInt8} {a : Value} (hl : l.length = n) (h : w.ownsRow base E 1 (.slice (some ⟨g, 0, none⟩) (n + 1) (n + 1)) (n + 1) (Lib.byteCells l ++ [a])) :
    Lies w w.heap.size (some ⟨g, 0, none⟩) n (Lib.byteCells l) ∧ w.cell? ⟨g, n, none⟩ = some a := by
  have hlen := Lib.byteCells_length l
  refine ⟨⟨by omega, fun hn => ⟨g, 0, rfl, (h.lt g rfl).2, fun j u hu => ?_⟩⟩, ?_⟩
  · have hj : j < n := by have := (List.getElem?_eq_some_iff.1 hu).1; omega
    rw [Nat.zero_add, h.cellAt _ (by omega), List.getElem?_append_left (by omega)]
    exact hu
  · rw [h.cellAt _ (by omega), List.getElem?_append_right (by omega)]
    simp [hlen, hl]
theorem own_cutb {w : World} {base g n k cap : Nat} {E : TypeId} {xs ys : List Value} (hx : xs.length = n) (h : w.ownsRow base E 1 (.slice (some ⟨g, 0, none⟩) (n + k) cap) (n + k) (xs ++ ys)) : w.ownsRow base E 1 (.slice (some ⟨g, 0, none⟩) n cap) n xs := by
  refine ⟨by omega, ?_⟩
  rcases h.2 with ⟨h2, _⟩ | ⟨g', cap', cur, hv, hg, hh, hnc, hcm, hcs, htake⟩
  · simp at h2
  · simp only [Value.slice.injEq, Option.some.injEq, Addr.mk.injEq, and_true, true_and] at hv
    obtain ⟨rfl, rfl⟩ := hv
    refine .inr ⟨g, cap, cur, rfl, hg, hh, by omega, hcm, hcs, ?_⟩
    have h3 := congrArg (List.take (n * 1)) htake
    rw [List.take_take, Nat.min_eq_left (by omega), List.take_append_of_le_length (by omega)] at h3
    rw [h3]
    exact List.take_of_length_le (by omega)

end Go.Proofs.YtonlfplloenfcaaGreatDoor
namespace Go.Proofs.YtonlfplloenfcaaGreatDoor
open Go.RowKit

theorem below_own {B base n size : Nat} {e : TypeId} {w0 W W' : World} {v : Value} {xs : List Value} (hb : Below B w0 W) (hown : W.ownsRow base e size v n xs) (hg : W.grownBy W' v.ownBlock) (hB : B ≤ base) (h0 : B ≤ w0.heap.size) : Below B w0 W' := by
  refine hb.grown hg (by have := hb.size; omega) (fun k hk => ?_)
  rcases hown.2 with ⟨rfl, _⟩ | ⟨g, cap, cur, rfl, hbg, _⟩
  · simp [Value.ownBlock] at hk
  · simp [Value.ownBlock] at hk; subst hk; omega
theorem cells_at {w : World} {b off a m n : Nat} {l : List UInt8} (hl : l.length = n) (h : a + m ≤ n) (hsrc : ∀ (j : Nat) (u : Value), (Lib.byteCells l)[j]? = some u → w.cell? ⟨b, off + j, none⟩ = some u) :
    Lies w (b + 1) (some ⟨b, off + a, none⟩) m (Lib.byteCells ((l.drop a).take m)) := by
  refine ⟨by rw [Lib.byteCells_length, List.length_take, List.length_drop]; omega, fun _ => ⟨b, off + a, rfl, by omega, fun j v hv => ?_⟩⟩
  rw [Nat.add_assoc]
  refine hsrc (a + j) v ?_
  unfold Lib.byteCells at hv ⊢
  rw [List.map_take, List.map_drop, List.getElem?_take] at hv
  split at hv
  · rw [List.getElem?_drop] at hv; exact hv
  · cases hv
theorem two_new (w : World) (t : TypeId) (x y : Value) : ∀ (j : Nat) (u : Value), [x, y][j]? = some u → (w.alloc (.cells #[x, y] t)).cell? ((⟨w.heap.size, 0, none⟩ : Addr).add j) = some u := by
  intro j u hu
  rw [Addr.add_lit, Nat.zero_add, cell_alloc_at]
  simpa using hu

theorem Lies.reads {w : World} {B n : Nat} {A : Option Addr} {xs : List Value} (h : Lies w B A n xs) : Reads w B 1 A n xs :=
  ⟨by rw [Nat.mul_one]; exact h.1, fun hn => by
    obtain ⟨b, off, e, hb, hc⟩ := h.2 hn
    exact ⟨_, e, hb, fun j u hu => by rw [Addr.add_lit]; exact hc j u hu⟩⟩
theorem reads_new (w : World) (t : TypeId) (x y : Value) : Reads (w.alloc (.cells #[x, y] t)) (w.heap.size + 1) 1 (some ⟨w.heap.size, 0, none⟩) 2 [x, y] :=
  ⟨rfl, fun _ => ⟨_, rfl, by simp, two_new w t x y⟩⟩
theorem own_bytes {w : World} {base n : Nat} {e : TypeId} {v : Value} {xs : List Value} (L : List UInt8) (h : w.ownsRow base e 1 v n xs) (hx : xs = Lib.byteCells L) : w.ownsRow base e 1 v L.length (Lib.byteCells L) := by
  have h1 := h.1
  rw [hx, Lib.byteCells_length, Nat.mul_one] at h1
  rw [h1, ← hx]
  exact h

/-- A string put behind a row, at a step of a region that draws its order. -/
theorem step_append_str {P : Program} {w : World} {ops : Array Oper} {o : Oper} {a : Act} {K : Act → World → Prop} {Q : Exit → Act → World → Prop} {E : Prop} (hgd : o.guard = none) (sl x : Operand) (t u : TypeId)
    (ho : o.op = .call { callee := .builtin .append, args := #[sl, x], argTypes := #[t, u] })
    (base : Nat) (e : TypeId) (i : TypeInfo) (ht : P.underlying t = some (.slice e)) (hu : P.underlying u = some .string) (hi : P.info? e = some i) (hz : i.zero = some (.int .u8 0))
    (hsize : i.size = 1) (hby : i.bytes = 1)
    (v : Value) (n : Nat) (xs : List Value) (hs : a.eval sl = v) (hown : w.ownsRow base e 1 v n xs) (s : ByteArray) (hx : a.eval x = .string s)
    (h63 : n + s.size ≤ maxLen) (hbytes : n + s.size ≤ 140737488355328) (hbase : base ≤ w.heap.size)
    (h : ∀ v' w', w'.ownsRow base e 1 v' (n + s.size) (xs ++ Lib.strCells s) → w.grownBy w' v.ownBlock → K (a.put o.dst v') w') :
    if Region.wanted o (yielded ops a.tmps) = true then Oper.wp P o a w K Q else E := by
  have hw : Region.wanted o (yielded ops a.tmps) = true := by simp [Region.wanted, hgd]
  rw [if_pos hw]
  obtain ⟨v', w', hr, h2, h3, h4⟩ := Lib.run_append_own_string (P := P) w base t u o.type e i ht hu hi hz hsize hby v n xs hown s h63 hbytes hbase
  unfold Oper.wp execOp
  simp only [ho, resolve, invoke, builtin, Sem.run_bind, Sem.run_pure, Result.andThen_ok, List.map_toArray, List.map_cons, List.map_nil, hs, hx, hr]
  exact h v' w' h2 h3
end Go.Proofs.YtonlfplloenfcaaGreatDoor
namespace Go.Proofs.YtonlfplloenfcaaGreatDoor
open Go.RowKit
attribute [local go_sem] Oper.semAt_some

theorem four_dec (l : List UInt8) (k : Nat) (h : k + 3 < l.length) : fourAt l k ↔ (l[k].toNat = 13 ∧ l[k + 1].toNat = 10 ∧ l[k + 2].toNat = 13 ∧ l[k + 3].toNat = 10) := by
  unfold fourAt
  rw [List.getElem?_eq_getElem (by omega), List.getElem?_eq_getElem (by omega), List.getElem?_eq_getElem (by omega), List.getElem?_eq_getElem (by omega)]
  simp only [Option.some.injEq, ← UInt8.toNat_inj]
  exact Iff.rfl

set_option maxRecDepth 100000 in
theorem rwhole_any (A : Option Addr) (n c B : Nat) (l : List UInt8) (w : World) (h : Lies w B A n (Lib.byteCells l)) (hn : n ≤ 140737488355328) :
    Calls Tryz.prog 173 #[.slice A n c] w fun e w' => e = .returned (.int .i64 (if 0 ≤ Lib.index l headEnd then Lib.index l headEnd + 4 else -1)) ∧ w' = w := by
  have hl : l.length = n := by simpa [Lib.byteCells] using h.1
  obtain ⟨z, hz⟩ : ∃ z : Int, z = (if 0 ≤ Lib.index l headEnd then Lib.index l headEnd + 4 else -1) := ⟨_, rfl⟩
  rw [← hz]
  have HZ := Lib.hid hz
  clear hz
  go_enter Tryz.func173, Tryz.ntmps173
  go_wp2_with fail
  go_loopw [3] (fun i wr => ∃ k : Nat, k ≤ n ∧ i = .int .i64 k ∧ Hid (∀ j, j < k → ¬ fourAt l j) ∧ wr = w)
    (fun i _ => n - (intOf i).toNat)
  case atStart => exact ⟨0, Nat.zero_le _, rfl, fun j hj => by omega, rfl⟩
  case round =>
    obtain ⟨k, hk, rfl, hp, hw⟩ := hrel
    subst hw
    by_cases hlt : k + 3 < n
    · have hat : ∀ j, k + j < n → (Lib.byteCells l)[k + j]? = some (.int .u8 ((l[k + j]?.getD 0).toNat : Int)) := fun j hj => by
        unfold Lib.byteCells
        rw [List.getElem?_map, List.getElem?_eq_getElem (by omega)]
        rfl
      obtain ⟨b, off, u0, rfl, hbb, hu0, hc0⟩ := h.at_ (k := k) (by omega)
      have hcc := (h.2 (by omega))
      obtain ⟨b', off', e', hbb', hc⟩ := hcc
      obtain ⟨rfl, rfl⟩ : b = b' ∧ off = off' := by injection e' with e'; injection e' with e1 e2; exact ⟨e1, e2⟩
      have c0 := hc (k + 0) _ (hat 0 (by omega))
      have c1 := hc (k + 1) _ (hat 1 (by omega))
      have c2 := hc (k + 2) _ (hat 2 (by omega))
      have c3 := hc (k + 3) _ (hat 3 (by omega))
      have hfour := four_dec l k (by omega)
      simp only [Nat.add_zero] at c0
      obtain ⟨x0, hx0⟩ : ∃ x, x = (l[k + 0]?.getD 0) := ⟨_, rfl⟩
      obtain ⟨x1, hx1⟩ : ∃ x, x = (l[k + 1]?.getD 0) := ⟨_, rfl⟩
      obtain ⟨x2, hx2⟩ : ∃ x, x = (l[k + 2]?.getD 0) := ⟨_, rfl⟩
      obtain ⟨x3, hx3⟩ : ∃ x, x = (l[k + 3]?.getD 0) := ⟨_, rfl⟩
      rw [List.getElem?_eq_getElem (by omega)] at hx0 hx1 hx2 hx3
      simp only [Nat.add_zero, Option.getD_some] at hx0 hx1 hx2 hx3 
      rw [List.getElem?_eq_getElem (by omega), Option.getD_some] at c0 c1 c2 c3
      rw [← hx0, ← hx1, ← hx2, ← hx3] at hfour
      rw [← hx0] at c0
      rw [← hx1] at c1
      rw [← hx2] at c2
      rw [← hx3] at c3
      clear hx0 hx1 hx2 hx3 hat hu0 hc0 hc
      have HFOUR := Lib.hid hfour
      have HST := Lib.hid hp
      clear hfour h
      have miss : (x0.toNat : Int) ≠ 13 ∨ (x1.toNat : Int) ≠ 10 ∨ (x2.toNat : Int) ≠ 13 ∨ (x3.toNat : Int) ≠ 10 → ∀ j, j < k + 1 → ¬ fourAt l j := by
        intro hm j hj
        by_cases hjk : j < k
        · exact HST.out.out j hjk
        · obtain rfl : j = k := by omega
          intro hf
          have := HFOUR.out.1 hf
          omega
      have hit : (x0.toNat : Int) = 13 → (x1.toNat : Int) = 10 → (x2.toNat : Int) = 13 → (x3.toNat : Int) = 10 → Lib.index l headEnd = (k : Int) := fun h0 h1 h2 h3 => four_first (HFOUR.out.2 ⟨by omega, by omega, by omega, by omega⟩) HST.out.out
      have MISS := Lib.hid miss
      have HIT := Lib.hid hit
      clear miss hit HFOUR HST hp
      cases e0 : ((x0.toNat : Int) == 13)
      · go_wp2_with fail
        go_roundw
        case rel => exact ⟨k + 1, by omega, by go_num, MISS.out (.inl (by simpa using e0)), by first | rfl | trivial⟩
        case measure => simp [intOf]; omega
      · cases e1 : ((x1.toNat : Int) == 10)
        · go_wp2_with fail
          go_roundw
          case rel => exact ⟨k + 1, by omega, by go_num, MISS.out (.inr (.inl (by simpa using e1))), by first | rfl | trivial⟩
          case measure => simp [intOf]; omega
        · cases e2 : ((x2.toNat : Int) == 13)
          · go_wp2_with fail
            go_roundw
            case rel => exact ⟨k + 1, by omega, by go_num, MISS.out (.inr (.inr (.inl (by simpa using e2)))), by first | rfl | trivial⟩
            case measure => simp [intOf]; omega
          · cases e3 : ((x3.toNat : Int) == 10)
            · go_wp2_with fail
              go_roundw
              case rel => exact ⟨k + 1, by omega, by go_num, MISS.out (.inr (.inr (.inr (by simpa using e3)))), by first | rfl | trivial⟩
              case measure => simp [intOf]; omega
            · have hidx := HIT.out (by simpa using e0) (by simpa using e1) (by simpa using e2) (by simpa using e3)
              have HIDX := Lib.hid hidx
              clear hidx
              go_wp2_with fail
              go_ret
              refine ⟨ret_int ?_, rfl⟩
              rw [HZ.out, HIDX.out, if_pos (by omega)]
    · have hnone : Lib.index l headEnd = -1 := four_none fun j hj => hp.out j (by omega)
      have HN := Lib.hid hnone
      clear hnone hp h
      go_wp2_with fail
      go_ret
      refine ⟨ret_int ?_, rfl⟩
      rw [HZ.out, HN.out, if_neg (by omega)]
end Go.Proofs.YtonlfplloenfcaaGreatDoor
namespace Go.Proofs.YtonlfplloenfcaaGreatDoor
open Go.RowKit Go.Shelf
attribute [local go_sem] Oper.semAt_some

/-- The part that begins at a number of whole parts. -/
def partOf (b off n size k : Nat) : Value := .slice (some ⟨b, off + k * size, none⟩) (min size (n - k * size)) (min size (n - k * size))
def upto {α : Type} (f : Nat → α) (k : Nat) : List α := (List.range k).map f

/-- The two boxes' cells. -/
def Two (Bs Bn : Nat) (W W' : World) : Prop := W'.cell? ⟨Bs, 0, none⟩ = W.cell? ⟨Bs, 0, none⟩ ∧ W'.cell? ⟨Bn, 0, none⟩ = W.cell? ⟨Bn, 0, none⟩
theorem Two.refl (Bs Bn : Nat) (W : World) : Two Bs Bn W W := ⟨rfl, rfl⟩
theorem Two.trans {Bs Bn : Nat} {A B C : World} (h : Two Bs Bn A B) (k : Two Bs Bn B C) : Two Bs Bn A C := ⟨k.1.trans h.1, k.2.trans h.2⟩
theorem two_b {Bs Bn : Nat} {w : World} (h1 : Bs < w.heap.size) (h2 : Bn < w.heap.size) (W : World) (l : Nat) (o o' : Obj) (hl : w.heap.size ≤ l) (_ : W.heap[l]? = some o) (_ : o.isCells = false) (_ : o.isWalk = false) : Two Bs Bn W (W.putObj l o') :=
  ⟨World.cell?_of_block (World.putObj_heap_other (show Bs ≠ l by omega)), World.cell?_of_block (World.putObj_heap_other (show Bn ≠ l by omega))⟩

set_option maxRecDepth 100000 in
theorem chunk1_in (N : Nat) (hN : 1 ≤ N) (l Bs Bn b off n cap size : Nat) (A : Option Addr) (hA : 0 < n → A = some ⟨b, off, none⟩) (hcap : n ≤ cap) (hn : n ≤ 1000000) (hs1 : 1 ≤ size) (hs2 : size ≤ 1000000) (J Jx : List {k : Nat // k * size < n} → World → Prop)
    (hJd : ∀ s V q, J s V → J s (V.drewN q))
    (hY : ∀ pre x W, J pre W → pre.length < n → YieldAt Fence.wide (N - 1) Tryz.prog l #[partOf b off n size x.1] W fun e W' =>
      (e = .returned (.bool true) ∧ J (pre ++ [x]) W' ∧ Two Bs Bn W W') ∨ (e = .returned (.bool false) ∧ Jx (pre ++ [x]) W'))
    (W : World) (hBs : W.cell? ⟨Bs, 0, none⟩ = some (.slice A n cap)) (hBn : W.cell? ⟨Bn, 0, none⟩ = some (.int .i64 (size : Int))) (h0 : J [] W) :
    CallsIn Fence.wide N Tryz.prog 200 #[.func (.yield l) #[] #[], .pointer (some ⟨Bs, 0, none⟩), .pointer (some ⟨Bn, 0, none⟩)] W fun e W' => (∃ v, e = .returned v) ∧
      ((∃ ys, (∃ m, ys.map (·.1) = List.range m ∧ n ≤ m * size) ∧ J ys W') ∨ (∃ pre, True ∧ Jx pre W')) := by
  refine callsIn_of_wp Tryz.func200 rfl trivial ?_ rfl
  simp only [Tryz.ntmps200, List.size_toArray, List.length_cons, List.length_nil, Nat.reduceAdd, Nat.reduceSub, Array.replicate_succ, Array.replicate_zero, List.push_toArray, List.append_toArray, List.nil_append, List.cons_append]
  gi_wp2
  gi_loopw [4] (fun i wr => ∃ (k a : Nat) (pre : List {k : Nat // k * size < n}), i = .int .i64 (a : Int) ∧ Hid (a = k * size) ∧ pre.map (·.1) = List.range k ∧ a < n + size ∧ J pre wr ∧ Two Bs Bn W wr)
    (fun i _ => n + size - (intOf i).toNat)
  case atStart => exact ⟨0, 0, [], rfl, by simp [Hid], rfl, by omega, h0, Two.refl _ _ _⟩
  case round =>
    obtain ⟨k, a, pre, rfl, ha, hpre, hk, hJs, hnx⟩ := hrel
    have c1 := hnx.1.trans hBs
    have c2 := hnx.2.trans hBn
    by_cases hlt : a < n
    · rw [hA (by omega)] at c1
      have hlen : pre.length < n := by
        have e := congrArg List.length hpre
        simp at e
        have : k ≤ k * size := Nat.le_mul_of_pos_right k hs1
        unfold Hid at ha
        omega
      have HP := Lib.hid hpre
      have HA := ha
      have HY := Lib.hid hY
      clear hpre ha hY
      have hk2 : k * size < n := by unfold Hid at HA; omega
      obtain ⟨x, hx⟩ : ∃ x : {k : Nat // k * size < n}, x = ⟨k, hk2⟩ := ⟨_, rfl⟩
      have hpart : partOf b off n size x.1 = .slice (some ⟨b, off + a, none⟩) (min size (n - a)) (min size (n - a)) := by
        rw [hx]; unfold Hid at HA; unfold partOf; rw [HA]
      have HX := Lib.hid (show x.1 = k by rw [hx])
      clear hx hk2
      obtain ⟨r, hr⟩ : ∃ r, n = a + r := ⟨n - a, by omega⟩
      by_cases hmin : size ≤ r
      · rw [show min size (n - a) = size by omega] at hpart
        gi_wp2
        gi_quiet (fail)
        obtain ⟨fn, tmps, assign, body, hy, hR⟩ := HY.out pre x (wr.drewN nq) (hJd _ _ _ hJs) hlen
        rw [hpart] at hy
        gi_wp2
        refine hR.mono ?_
        rintro e W3 (⟨rfl, hJ3, hk3⟩ | ⟨rfl, hJx3⟩)
        · have c3 : W3.cell? ⟨Bn, 0, none⟩ = some (.int .i64 (size : Int)) := hk3.2.trans c2
          gi_wp2
          go_roundw
          case rel =>
            refine ⟨k + 1, a + size, pre ++ [x], by go_num, ?_, ?_, by omega, hJ3, hnx.trans ⟨hk3.1, hk3.2⟩⟩
            · have e := HA.out
              show a + size = (k + 1) * size
              rw [Nat.succ_mul, e]
            · rw [List.map_append, HP.out, List.range_succ, List.map_cons, HX.out]; rfl
          case measure => simp [intOf]; omega
        · gi_wp2
          refine bodyPost_ret (results_none rfl _ _ _) rfl ?_
          exact ⟨⟨_, rfl⟩, .inr ⟨_, trivial, hJx3⟩⟩
      · rw [show min size (n - a) = r by omega] at hpart
        gi_wp2
        gi_quiet (fail)
        obtain ⟨fn, tmps, assign, body, hy, hR⟩ := HY.out pre x (wr.drewN nq) (hJd _ _ _ hJs) hlen
        rw [hpart] at hy
        gi_wp2
        refine hR.mono ?_
        rintro e W3 (⟨rfl, hJ3, hk3⟩ | ⟨rfl, hJx3⟩)
        · have c3 : W3.cell? ⟨Bn, 0, none⟩ = some (.int .i64 (size : Int)) := hk3.2.trans c2
          gi_wp2
          go_roundw
          case rel =>
            refine ⟨k + 1, a + size, pre ++ [x], by go_num, ?_, ?_, by omega, hJ3, hnx.trans ⟨hk3.1, hk3.2⟩⟩
            · have e := HA.out
              show a + size = (k + 1) * size
              rw [Nat.succ_mul, e]
            · rw [List.map_append, HP.out, List.range_succ, List.map_cons, HX.out]; rfl
          case measure => simp [intOf]; omega
        · gi_wp2
          refine bodyPost_ret (results_none rfl _ _ _) rfl ?_
          exact ⟨⟨_, rfl⟩, .inr ⟨_, trivial, hJx3⟩⟩
    · gi_wp2
      go_end0
      exact ⟨⟨_, rfl⟩, .inl ⟨pre, ⟨k, hpre, by unfold Hid at ha; omega⟩, hJs⟩⟩
theorem chunk_in (N : Nat) (A : Option Addr) (n cap size : Nat) (hs : 1 ≤ size) (w : World) :
    CallsIn Fence.wide N Tryz.prog 130 #[.slice A n cap, .int .i64 (size : Int)] w fun e w' =>
      e = .returned (.func (.func 200) #[] #[.pointer (some ⟨w.heap.size, 0, none⟩), .pointer (some ⟨w.heap.size + 1, 0, none⟩)]) ∧
        w' = (w.alloc (.cells #[.slice A n cap] 23)).alloc (.cells #[.int .i64 (size : Int)] 3) := by
  refine callsIn_of_wp Tryz.func130 rfl trivial ?_ rfl
  simp only [Tryz.ntmps130, List.size_toArray, List.length_cons, List.length_nil, Nat.reduceAdd, Nat.reduceSub, Array.replicate_succ, Array.replicate_zero, List.push_toArray, List.append_toArray, List.nil_append, List.cons_append]
  gi_wp2
  go_ret
  exact ⟨rfl, rfl⟩
theorem chunk_stops (N : Nat) (hN : 1 ≤ N) (Bs Bn b off n cap size : Nat) (A : Option Addr) (hA : 0 < n → A = some ⟨b, off, none⟩) (hcap : n ≤ cap) (hn : n ≤ 1000000) (hs1 : 1 ≤ size) (hs2 : size ≤ 1000000) (w : World)
    (h1 : Bs < w.heap.size) (h2 : Bn < w.heap.size) (hBs : w.cell? ⟨Bs, 0, none⟩ = some (.slice A n cap)) (hBn : w.cell? ⟨Bn, 0, none⟩ = some (.int .i64 (size : Int))) :
    SeqStopsK Fence.wide N Tryz.prog 200 #[.pointer (some ⟨Bs, 0, none⟩), .pointer (some ⟨Bn, 0, none⟩)] (fun x : {k : Nat // k * size < n} => #[partOf b off n size x.1]) (Two Bs Bn)
      (fun ys => ∃ m, ys.map (·.1) = List.range m ∧ n ≤ m * size) (fun _ => True) n w := fun l J Jx W hW hJ _ hY h0 =>
  chunk1_in N hN l Bs Bn b off n cap size A hA hcap hn hs1 hs2 J Jx (fun s V q h => hJ s V _ none h ⟨rfl, rfl, rfl, Nat.le_refl _, fun _ _ _ => rfl⟩ (fun r e => by cases e)) hY W
    ((hW.cell (p := ⟨Bs, 0, none⟩) h1).trans hBs) ((hW.cell (p := ⟨Bn, 0, none⟩) h2).trans hBn) h0
end Go.Proofs.YtonlfplloenfcaaGreatDoor
