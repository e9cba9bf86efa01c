/-
  Copies with a mark behind them: how they read. Fields, bytes.
  Rows of bytes of the call's own: small facts, over any program.
  footmanref12.whole: where a head ends.
-/
import Derived.Test.YtonlfplloenfcaaGreatDoorReflEtc
import Derived.Test.YtonlfplloenfcaaGreatDoorFindEtc
import Derived.Lib.AppendStr
import Derived.Test.YtonlfplloenfcaaGreatDoorHeadSpec
import Derived.Lib.QuietBelow
namespace Go.Proofs.YtonlfplloenfcaaGreatDoor
open Go.RowKit

theorem FRead.below {w w' : World} {B : Nat} {A : Option Addr} {n : Nat} {fs : List Fd} (h : FRead w B A n fs) (hb : Below B w w') : FRead w' B A n fs :=
  ⟨h.1, fun hn => by
    obtain ⟨b, off, e, hlt, hc⟩ := h.2 hn
    exact ⟨b, off, e, hlt, fun i f hf => ⟨(hb.cell (p := ⟨b, _, none⟩) hlt).trans (hc i f hf).1, (hb.cell (p := ⟨b, _, none⟩) hlt).trans (hc i f hf).2⟩⟩⟩
theorem FRead.more {w : World} {B B' : Nat} {A : Option Addr} {n : Nat} {fs : List Fd} (h : FRead w B A n fs) (hB : B ≤ B') : FRead w B' A n fs :=
  ⟨h.1, fun hn => by
    obtain ⟨b, off, e, hlt, hc⟩ := h.2 hn
    exact ⟨b, off, e, by omega, hc⟩⟩
theorem fcells_at : ∀ (fs : List Fd) (xs : List Value) (i : Nat) (f : Fd), fs[i]? = some f → (fcells fs ++ xs)[i * 2]? = some (.string f.1) ∧ (fcells fs ++ xs)[i * 2 + 1]? = some (.string f.2)
  | [], _, i, f, h => by simp at h
  | g :: r, xs, 0, f, h => by
    simp at h
    subst h
    simp [fcells]
  | g :: r, xs, i + 1, f, h => by
    have ih := fcells_at r xs i f (by simpa using h)
    refine ⟨?_, ?_⟩
    · rw [show (i + 1) * 2 = i * 2 + 2 by omega]; simpa [fcells] using ih.1
    · rw [show (i + 1) * 2 + 1 = i * 2 + 1 + 2 by omega]; simpa [fcells] using ih.2
theorem fcells_len (fs : List Fd) : (fcells fs).length = fs.length * 2 := by
  unfold fcells
  induction fs with
  | nil => rfl
  | cons x r ih => rw [List.flatMap_cons, List.length_append, ih, List.length_cons]; simp; omega
/-- A copy that was made with a mark behind it. -/
theorem twinb_read {w : World} {base g n : Nat} {E : TypeId} {l : List UInt8} {a : Value} (hl : l.length = n) (h : w.ownsRow base E 1 (.slice (some ⟨g, 0, none⟩) (n + 1) (n + 1)) (n + 1) (Lib.byteCells l ++ [a])) :
    Lies w w.heap.size (some ⟨g, 0, none⟩) n (Lib.byteCells l) ∧ w.cell? ⟨g, n, none⟩ = some a := by
  have hlen := Lib.byteCells_length l
  refine ⟨⟨by omega, fun hn => ⟨g, 0, rfl, (h.lt g rfl).2, fun j u hu => ?_⟩⟩, ?_⟩
  · have hj : j < n := by have := (List.getElem?_eq_some_iff.1 hu).1; omega
    rw [Nat.zero_add, h.cellAt _ (by omega), List.getElem?_append_left (by omega)]
    exact hu
  · rw [h.cellAt _ (by omega), List.getElem?_append_right (by omega)]
    simp [hlen, hl]
theorem own_cutb {w : World} {base g n k cap : Nat} {E : TypeId} {xs ys : List Value} (hx : xs.length = n) (h : w.ownsRow base E 1 (.slice (some ⟨g, 0, none⟩) (n + k) cap) (n + k) (xs ++ ys)) : w.ownsRow base E 1 (.slice (some ⟨g, 0, none⟩) n cap) n xs := by
  refine ⟨by omega, ?_⟩
  rcases h.2 with ⟨h2, _⟩ | ⟨g', cap', cur, hv, hg, hh, hnc, hcm, hcs, htake⟩
  · simp at h2
  · simp only [Value.slice.injEq, Option.some.injEq, Addr.mk.injEq, and_true, true_and] at hv
    obtain ⟨rfl, rfl⟩ := hv
    refine .inr ⟨g, cap, cur, rfl, hg, hh, by omega, hcm, hcs, ?_⟩
    have h3 := congrArg (List.take (n * 1)) htake
    rw [List.take_take, Nat.min_eq_left (by omega), List.take_append_of_le_length (by omega)] at h3
    rw [h3]
    exact List.take_of_length_le (by omega)

end Go.Proofs.YtonlfplloenfcaaGreatDoor
namespace Go.Proofs.YtonlfplloenfcaaGreatDoor
open Go.RowKit

theorem two_new (w : World) (t : TypeId) (x y : Value) : ∀ (j : Nat) (u : Value), [x, y][j]? = some u → (w.alloc (.cells #[x, y] t)).cell? ((⟨w.heap.size, 0, none⟩ : Addr).add j) = some u := by
  intro j u hu
  rw [Addr.add_lit, Nat.zero_add, cell_alloc_at]
  simpa using hu

theorem Lies.reads {w : World} {B n : Nat} {A : Option Addr} {xs : List Value} (h : Lies w B A n xs) : Reads w B 1 A n xs :=
  ⟨by rw [Nat.mul_one]; exact h.1, fun hn => by
    obtain ⟨b, off, e, hb, hc⟩ := h.2 hn
    exact ⟨_, e, hb, fun j u hu => by rw [Addr.add_lit]; exact hc j u hu⟩⟩
end Go.Proofs.YtonlfplloenfcaaGreatDoor
namespace Go.Proofs.YtonlfplloenfcaaGreatDoor
open Go.RowKit
attribute [local go_sem] Oper.semAt_some

theorem four_dec (l : List UInt8) (k : Nat) (h : k + 3 < l.length) : fourAt l k ↔ (l[k].toNat = 13 ∧ l[k + 1].toNat = 10 ∧ l[k + 2].toNat = 13 ∧ l[k + 3].toNat = 10) := by
  unfold fourAt
  rw [List.getElem?_eq_getElem (by omega), List.getElem?_eq_getElem (by omega), List.getElem?_eq_getElem (by omega), List.getElem?_eq_getElem (by omega)]
  simp only [Option.some.injEq, ← UInt8.toNat_inj]
  exact Iff.rfl

set_option maxRecDepth 100000 in
theorem rwhole_any (A : Option Addr) (n c B : Nat) (l : List UInt8) (w : World) (h : Lies w B A n (Lib.byteCells l)) (hn : n ≤ 140737488355328) :
    Calls Tryz.prog 173 #[.slice A n c] w fun e w' => e = .returned (.int .i64 (if 0 ≤ Lib.index l headEnd then Lib.index l headEnd + 4 else -1)) ∧ w' = w := by
  have hl : l.length = n := by simpa [Lib.byteCells] using h.1
  obtain ⟨z, hz⟩ : ∃ z : Int, z = (if 0 ≤ Lib.index l headEnd then Lib.index l headEnd + 4 else -1) := ⟨_, rfl⟩
  rw [← hz]
  have HZ := Lib.hid hz
  clear hz
  go_enter Tryz.func173, Tryz.ntmps173
  go_wp2_with fail
  go_loopw [3] (fun i wr => ∃ k : Nat, k ≤ n ∧ i = .int .i64 k ∧ Hid (∀ j, j < k → ¬ fourAt l j) ∧ wr = w)
    (fun i _ => n - (intOf i).toNat)
  case atStart => exact ⟨0, Nat.zero_le _, rfl, fun j hj => by omega, rfl⟩
  case round =>
    obtain ⟨k, hk, rfl, hp, hw⟩ := hrel
    subst hw
    by_cases hlt : k + 3 < n
    · have hat : ∀ j, k + j < n → (Lib.byteCells l)[k + j]? = some (.int .u8 ((l[k + j]?.getD 0).toNat : Int)) := fun j hj => by
        unfold Lib.byteCells
        rw [List.getElem?_map, List.getElem?_eq_getElem (by omega)]
        rfl
      obtain ⟨b, off, u0, rfl, hbb, hu0, hc0⟩ := h.at_ (k := k) (by omega)
      have hcc := (h.2 (by omega))
      obtain ⟨b', off', e', hbb', hc⟩ := hcc
      obtain ⟨rfl, rfl⟩ : b = b' ∧ off = off' := by injection e' with e'; injection e' with e1 e2; exact ⟨e1, e2⟩
      have c0 := hc (k + 0) _ (hat 0 (by omega))
      have c1 := hc (k + 1) _ (hat 1 (by omega))
      have c2 := hc (k + 2) _ (hat 2 (by omega))
      have c3 := hc (k + 3) _ (hat 3 (by omega))
      have hfour := four_dec l k (by omega)
      simp only [Nat.add_zero] at c0
      obtain ⟨x0, hx0⟩ : ∃ x, x = (l[k + 0]?.getD 0) := ⟨_, rfl⟩
      obtain ⟨x1, hx1⟩ : ∃ x, x = (l[k + 1]?.getD 0) := ⟨_, rfl⟩
      obtain ⟨x2, hx2⟩ : ∃ x, x = (l[k + 2]?.getD 0) := ⟨_, rfl⟩
      obtain ⟨x3, hx3⟩ : ∃ x, x = (l[k + 3]?.getD 0) := ⟨_, rfl⟩
      rw [List.getElem?_eq_getElem (by omega)] at hx0 hx1 hx2 hx3
      simp only [Nat.add_zero, Option.getD_some] at hx0 hx1 hx2 hx3 
      rw [List.getElem?_eq_getElem (by omega), Option.getD_some] at c0 c1 c2 c3
      rw [← hx0, ← hx1, ← hx2, ← hx3] at hfour
      rw [← hx0] at c0
      rw [← hx1] at c1
      rw [← hx2] at c2
      rw [← hx3] at c3
      clear hx0 hx1 hx2 hx3 hat hu0 hc0 hc
      have HFOUR := Lib.hid hfour
      have HST := Lib.hid hp
      clear hfour h
      have miss : (x0.toNat : Int) ≠ 13 ∨ (x1.toNat : Int) ≠ 10 ∨ (x2.toNat : Int) ≠ 13 ∨ (x3.toNat : Int) ≠ 10 → ∀ j, j < k + 1 → ¬ fourAt l j := by
        intro hm j hj
        by_cases hjk : j < k
        · exact HST.out.out j hjk
        · obtain rfl : j = k := by omega
          intro hf
          have := HFOUR.out.1 hf
          omega
      have hit : (x0.toNat : Int) = 13 → (x1.toNat : Int) = 10 → (x2.toNat : Int) = 13 → (x3.toNat : Int) = 10 → Lib.index l headEnd = (k : Int) := fun h0 h1 h2 h3 => four_first (HFOUR.out.2 ⟨by omega, by omega, by omega, by omega⟩) HST.out.out
      have MISS := Lib.hid miss
      have HIT := Lib.hid hit
      clear miss hit HFOUR HST hp
      cases e0 : ((x0.toNat : Int) == 13)
      · go_wp2_with fail
        go_roundw
        case rel => exact ⟨k + 1, by omega, by go_num, MISS.out (.inl (by simpa using e0)), by first | rfl | trivial⟩
        case measure => simp [intOf]; omega
      · cases e1 : ((x1.toNat : Int) == 10)
        · go_wp2_with fail
          go_roundw
          case rel => exact ⟨k + 1, by omega, by go_num, MISS.out (.inr (.inl (by simpa using e1))), by first | rfl | trivial⟩
          case measure => simp [intOf]; omega
        · cases e2 : ((x2.toNat : Int) == 13)
          · go_wp2_with fail
            go_roundw
            case rel => exact ⟨k + 1, by omega, by go_num, MISS.out (.inr (.inr (.inl (by simpa using e2)))), by first | rfl | trivial⟩
            case measure => simp [intOf]; omega
          · cases e3 : ((x3.toNat : Int) == 10)
            · go_wp2_with fail
              go_roundw
              case rel => exact ⟨k + 1, by omega, by go_num, MISS.out (.inr (.inr (.inr (by simpa using e3)))), by first | rfl | trivial⟩
              case measure => simp [intOf]; omega
            · have hidx := HIT.out (by simpa using e0) (by simpa using e1) (by simpa using e2) (by simpa using e3)
              have HIDX := Lib.hid hidx
              clear hidx
              go_wp2_with fail
              go_ret
              refine ⟨ret_int ?_, rfl⟩
              rw [HZ.out, HIDX.out, if_pos (by omega)]
    · have hnone : Lib.index l headEnd = -1 := four_none fun j hj => hp.out j (by omega)
      have HN := Lib.hid hnone
      clear hnone hp h
      go_wp2_with fail
      go_ret
      refine ⟨ret_int ?_, rfl⟩
      rw [HZ.out, HN.out, if_neg (by omega)]
end Go.Proofs.YtonlfplloenfcaaGreatDoor
