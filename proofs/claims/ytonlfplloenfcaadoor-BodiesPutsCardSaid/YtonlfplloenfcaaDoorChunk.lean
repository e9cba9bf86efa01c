/-
  slices.Chunk at bytes: what its iterator hands out, part by part.
-/
import Derived.Test.YtonlfplloenfcaaDoorBytes
import Derived.RangeFuncBox
import Derived.RangeFuncNested
import Derived.RangeFuncBound
import Derived.RangeFuncCalls
import Derived.RangeFuncLeaves
import Derived.Shelf.Abstract
import Derived.Shelf.RegionOpen
import Derived.WalkKit
import Derived.OwnWalkIn
import Derived.TacticsInMore
import Derived.LoopNIn
import Derived.LoopIn
import Derived.Sort.QuietIn
namespace Go.Proofs.YtonlfplloenfcaaDoor
open Go.RowKit Go.Shelf
attribute [local go_sem] Oper.semAt_some

/-- The part that begins at a number of whole parts. -/
def partOf (b off n size k : Nat) : Value := .slice (some ⟨b, off + k * size, none⟩) (min size (n - k * size)) (min size (n - k * size))
def upto {α : Type} (f : Nat → α) (k : Nat) : List α := (List.range k).map f

/-- The two boxes' cells. -/
def Two (Bs Bn : Nat) (W W' : World) : Prop := W'.cell? ⟨Bs, 0, none⟩ = W.cell? ⟨Bs, 0, none⟩ ∧ W'.cell? ⟨Bn, 0, none⟩ = W.cell? ⟨Bn, 0, none⟩
theorem Two.refl (Bs Bn : Nat) (W : World) : Two Bs Bn W W := ⟨rfl, rfl⟩
theorem Two.trans {Bs Bn : Nat} {A B C : World} (h : Two Bs Bn A B) (k : Two Bs Bn B C) : Two Bs Bn A C := ⟨k.1.trans h.1, k.2.trans h.2⟩
theorem two_b {Bs Bn : Nat} {w : World} (h1 : Bs < w.heap.size) (h2 : Bn < w.heap.size) (W : World) (l : Nat) (o o' : Obj) (hl : w.heap.size ≤ l) (_ : W.heap[l]? = some o) (_ : o.isCells = false) (_ : o.isWalk = false) : Two Bs Bn W (W.putObj l o') :=
  ⟨World.cell?_of_block (World.putObj_heap_other (show Bs ≠ l by omega)), World.cell?_of_block (World.putObj_heap_other (show Bn ≠ l by omega))⟩

set_option maxRecDepth 100000 in
theorem chunk1_in (N : Nat) (hN : 1 ≤ N) (l Bs Bn b off n cap size : Nat) (A : Option Addr) (hA : 0 < n → A = some ⟨b, off, none⟩) (hcap : n ≤ cap) (hn : n ≤ 1000000) (hs1 : 1 ≤ size) (hs2 : size ≤ 1000000) (J Jx : List {k : Nat // k * size < n} → World → Prop)
    (hJd : ∀ s V q, J s V → J s (V.drewN q))
    (hY : ∀ pre x W, J pre W → pre.length < n → YieldAt Fence.wide (N - 1) Tryd.prog l #[partOf b off n size x.1] W fun e W' =>
      (e = .returned (.bool true) ∧ J (pre ++ [x]) W' ∧ Two Bs Bn W W') ∨ (e = .returned (.bool false) ∧ Jx (pre ++ [x]) W'))
    (W : World) (hBs : W.cell? ⟨Bs, 0, none⟩ = some (.slice A n cap)) (hBn : W.cell? ⟨Bn, 0, none⟩ = some (.int .i64 (size : Int))) (h0 : J [] W) :
    CallsIn Fence.wide N Tryd.prog 79 #[.func (.yield l) #[] #[], .pointer (some ⟨Bs, 0, none⟩), .pointer (some ⟨Bn, 0, none⟩)] W fun e W' => (∃ v, e = .returned v) ∧
      ((∃ ys, (∃ m, ys.map (·.1) = List.range m ∧ n ≤ m * size) ∧ J ys W') ∨ (∃ pre, True ∧ Jx pre W')) := by
  refine callsIn_of_wp Tryd.func79 rfl trivial ?_ rfl
  simp only [Tryd.ntmps79, List.size_toArray, List.length_cons, List.length_nil, Nat.reduceAdd, Nat.reduceSub, Array.replicate_succ, Array.replicate_zero, List.push_toArray, List.append_toArray, List.nil_append, List.cons_append]
  gi_wp2
  gi_loopw [4] (fun i wr => ∃ (k a : Nat) (pre : List {k : Nat // k * size < n}), i = .int .i64 (a : Int) ∧ Hid (a = k * size) ∧ pre.map (·.1) = List.range k ∧ a < n + size ∧ J pre wr ∧ Two Bs Bn W wr)
    (fun i _ => n + size - (intOf i).toNat)
  case atStart => exact ⟨0, 0, [], rfl, by simp [Hid], rfl, by omega, h0, Two.refl _ _ _⟩
  case round =>
    obtain ⟨k, a, pre, rfl, ha, hpre, hk, hJs, hnx⟩ := hrel
    have c1 := hnx.1.trans hBs
    have c2 := hnx.2.trans hBn
    by_cases hlt : a < n
    · rw [hA (by omega)] at c1
      have hlen : pre.length < n := by
        have e := congrArg List.length hpre
        simp at e
        have : k ≤ k * size := Nat.le_mul_of_pos_right k hs1
        unfold Hid at ha
        omega
      have HP := Lib.hid hpre
      have HA := ha
      have HY := Lib.hid hY
      clear hpre ha hY
      have hk2 : k * size < n := by unfold Hid at HA; omega
      obtain ⟨x, hx⟩ : ∃ x : {k : Nat // k * size < n}, x = ⟨k, hk2⟩ := ⟨_, rfl⟩
      have hpart : partOf b off n size x.1 = .slice (some ⟨b, off + a, none⟩) (min size (n - a)) (min size (n - a)) := by
        rw [hx]; unfold Hid at HA; unfold partOf; rw [HA]
      have HX := Lib.hid (show x.1 = k by rw [hx])
      clear hx hk2
      obtain ⟨r, hr⟩ : ∃ r, n = a + r := ⟨n - a, by omega⟩
      by_cases hmin : size ≤ r
      · rw [show min size (n - a) = size by omega] at hpart
        gi_wp2
        gi_quiet (fail)
        obtain ⟨fn, tmps, assign, body, hy, hR⟩ := HY.out pre x (wr.drewN nq) (hJd _ _ _ hJs) hlen
        rw [hpart] at hy
        gi_wp2
        refine hR.mono ?_
        rintro e W3 (⟨rfl, hJ3, hk3⟩ | ⟨rfl, hJx3⟩)
        · have c3 : W3.cell? ⟨Bn, 0, none⟩ = some (.int .i64 (size : Int)) := hk3.2.trans c2
          gi_wp2
          go_roundw
          case rel =>
            refine ⟨k + 1, a + size, pre ++ [x], by go_num, ?_, ?_, by omega, hJ3, hnx.trans ⟨hk3.1, hk3.2⟩⟩
            · have e := HA.out
              show a + size = (k + 1) * size
              rw [Nat.succ_mul, e]
            · rw [List.map_append, HP.out, List.range_succ, List.map_cons, HX.out]; rfl
          case measure => simp [intOf]; omega
        · gi_wp2
          refine bodyPost_ret (results_none rfl _ _ _) rfl ?_
          exact ⟨⟨_, rfl⟩, .inr ⟨_, trivial, hJx3⟩⟩
      · rw [show min size (n - a) = r by omega] at hpart
        gi_wp2
        gi_quiet (fail)
        obtain ⟨fn, tmps, assign, body, hy, hR⟩ := HY.out pre x (wr.drewN nq) (hJd _ _ _ hJs) hlen
        rw [hpart] at hy
        gi_wp2
        refine hR.mono ?_
        rintro e W3 (⟨rfl, hJ3, hk3⟩ | ⟨rfl, hJx3⟩)
        · have c3 : W3.cell? ⟨Bn, 0, none⟩ = some (.int .i64 (size : Int)) := hk3.2.trans c2
          gi_wp2
          go_roundw
          case rel =>
            refine ⟨k + 1, a + size, pre ++ [x], by go_num, ?_, ?_, by omega, hJ3, hnx.trans ⟨hk3.1, hk3.2⟩⟩
            · have e := HA.out
              show a + size = (k + 1) * size
              rw [Nat.succ_mul, e]
            · rw [List.map_append, HP.out, List.range_succ, List.map_cons, HX.out]; rfl
          case measure => simp [intOf]; omega
        · gi_wp2
          refine bodyPost_ret (results_none rfl _ _ _) rfl ?_
          exact ⟨⟨_, rfl⟩, .inr ⟨_, trivial, hJx3⟩⟩
    · gi_wp2
      go_end0
      exact ⟨⟨_, rfl⟩, .inl ⟨pre, ⟨k, hpre, by unfold Hid at ha; omega⟩, hJs⟩⟩
theorem chunk_in (N : Nat) (A : Option Addr) (n cap size : Nat) (hs : 1 ≤ size) (w : World) :
    CallsIn Fence.wide N Tryd.prog 52 #[.slice A n cap, .int .i64 (size : Int)] w fun e w' =>
      e = .returned (.func (.func 79) #[] #[.pointer (some ⟨w.heap.size, 0, none⟩), .pointer (some ⟨w.heap.size + 1, 0, none⟩)]) ∧
        w' = (w.alloc (.cells #[.slice A n cap] 24)).alloc (.cells #[.int .i64 (size : Int)] 3) := by
  refine callsIn_of_wp Tryd.func52 rfl trivial ?_ rfl
  simp only [Tryd.ntmps52, List.size_toArray, List.length_cons, List.length_nil, Nat.reduceAdd, Nat.reduceSub, Array.replicate_succ, Array.replicate_zero, List.push_toArray, List.append_toArray, List.nil_append, List.cons_append]
  gi_wp2
  go_ret
  exact ⟨rfl, rfl⟩
theorem chunk_stops (N : Nat) (hN : 1 ≤ N) (Bs Bn b off n cap size : Nat) (A : Option Addr) (hA : 0 < n → A = some ⟨b, off, none⟩) (hcap : n ≤ cap) (hn : n ≤ 1000000) (hs1 : 1 ≤ size) (hs2 : size ≤ 1000000) (w : World)
    (h1 : Bs < w.heap.size) (h2 : Bn < w.heap.size) (hBs : w.cell? ⟨Bs, 0, none⟩ = some (.slice A n cap)) (hBn : w.cell? ⟨Bn, 0, none⟩ = some (.int .i64 (size : Int))) :
    SeqStopsK Fence.wide N Tryd.prog 79 #[.pointer (some ⟨Bs, 0, none⟩), .pointer (some ⟨Bn, 0, none⟩)] (fun x : {k : Nat // k * size < n} => #[partOf b off n size x.1]) (Two Bs Bn)
      (fun ys => ∃ m, ys.map (·.1) = List.range m ∧ n ≤ m * size) (fun _ => True) n w := fun l J Jx W hW hJ _ hY h0 =>
  chunk1_in N hN l Bs Bn b off n cap size A hA hcap hn hs1 hs2 J Jx (fun s V q h => hJ s V _ none h ⟨rfl, rfl, rfl, Nat.le_refl _, fun _ _ _ => rfl⟩ (fun r e => by cases e)) hY W
    ((hW.cell (p := ⟨Bs, 0, none⟩) h1).trans hBs) ((hW.cell (p := ⟨Bn, 0, none⟩) h2).trans hBn) h0
end Go.Proofs.YtonlfplloenfcaaDoor
