/-
  SameBytes, LeftBytes, TwinBytes, at what makes them true.
-/
import Derived.Test.YtonlfplloenfcaaGreatDoorFields
import Derived.Lib.UnsafeStr
import Derived.BigQuiet
namespace Go.Proofs.YtonlfplloenfcaaGreatDoor
open Go.RowKit

theorem bytes_at {l : List UInt8} {k : Nat} {u : Value} (h : (Lib.byteCells l)[k]? = some u) : ∃ b : UInt8, l[k]? = some b ∧ u = .int .u8 (b.toNat : Int) := by
  unfold Lib.byteCells at h
  rw [List.getElem?_map] at h
  cases h2 : l[k]? with
  | none => simp [h2] at h
  | some b => exact ⟨b, rfl, by simpa [h2] using h.symm⟩
theorem infoB : (Tryz.prog.info? 5).map (fun i => (i.zero, i.size, i.bytes)) = some (some (.int .u8 0), 1, 1) := by kernel_rfl

set_option maxRecDepth 100000 in
theorem samebytes_any (A A2 : Option Addr) (n c c2 B : Nat) (l : List UInt8) (w : World) (h1 : Lies w B A n (Lib.byteCells l)) (h2 : Lies w B A2 n (Lib.byteCells l)) (hn : n ≤ 140737488355328) :
   Calls Tryz.prog 26 #[.slice A n c, .slice A2 n c2] w fun e w' => e = .returned (.bool true) ∧ ∃ q, w' = w.drewN q := by
  have H1 := Lib.hid h1
  have H2 := Lib.hid h2
  clear h1 h2
  go_enter Tryz.func26, Tryz.ntmps26
  go_wp2_with fail
  go_loopw [5] (fun i wr => ∃ k : Nat, k ≤ n ∧ i = .int .i64 k ∧ ∃ q, wr = w.drewN q) (fun i _ => n - (intOf i).toNat)
  case atStart => exact ⟨0, Nat.zero_le _, rfl, 0, rfl⟩
  case round =>
    obtain ⟨k, hk, rfl, q, rfl⟩ := hrel
    by_cases hlt : k < n
    · obtain ⟨b1, o1, u1, rfl, _, e1, c1⟩ := H1.out.at_ hlt
      obtain ⟨b2, o2, u2, rfl, _, e2, c2'⟩ := H2.out.at_ hlt
      rw [e1] at e2
      obtain rfl : u1 = u2 := by simpa using e2
      obtain ⟨x, hx, rfl⟩ := bytes_at e1
      clear e1 e2 hx
      generalize (x.toNat : Int) = z at *
      go_wp2_with fail
      go_quiet (fail)
      go_wp2_with fail
      go_roundw
      case rel => exact ⟨k + 1, by omega, by go_num, _, rfl⟩
      case measure => simp [intOf]; omega
    · go_wp2_with fail
      go_ret
      exact ⟨rfl, _, rfl⟩
set_option maxRecDepth 100000 in
theorem leftbytes_any (g : Nat) (A2 : Option Addr) (n c2 : Nat) (l : List UInt8) (w : World) (h1 : Lies w w.heap.size (some ⟨g, 0, none⟩) n (Lib.byteCells l)) (h2 : Lies w w.heap.size A2 n (Lib.byteCells l)) (hn : n ≤ 140737488355328)
     (hs1 : w.cell? ⟨g, n, none⟩ = some (.int .u8 77)) :
   Calls Tryz.prog 35 #[.slice (some ⟨g, 0, none⟩) n (n + 1), .slice A2 n c2] w fun e w' => e = .returned (.bool true) ∧ Below w.heap.size w w' := by
  have hd : decide ((n : Int) + 1 ≤ (n : Int)) = false := decide_eq_false (by omega)
  have H1 := Lib.hid h1
  have H2 := Lib.hid h2
  clear h1 h2
  go_enter Tryz.func35, Tryz.ntmps35
  go_wp2_with fail
  go_loopw [5] (fun i wr => ∃ k : Nat, k ≤ n ∧ i = .int .i64 k ∧ ∃ q, wr = w.drewN q) (fun i _ => n - (intOf i).toNat)
  case atStart => exact ⟨0, Nat.zero_le _, rfl, 0, rfl⟩
  case round =>
    obtain ⟨k, hk, rfl, q, rfl⟩ := hrel
    by_cases hlt : k < n
    · obtain ⟨b1, o1, u1, ea, _, e1, c1⟩ := H1.out.at_ hlt
      obtain ⟨b2, o2, u2, rfl, _, e2, c2'⟩ := H2.out.at_ hlt
      rw [e1] at e2
      obtain rfl : u1 = u2 := by simpa using e2
      obtain ⟨x, hx, rfl⟩ := bytes_at e1
      simp only [Option.some.injEq, Addr.mk.injEq, and_true] at ea
      obtain ⟨rfl, rfl⟩ := ea
      rw [Nat.zero_add] at c1
      clear e1 e2 hx
      generalize (x.toNat : Int) = z at *
      go_wp2_with fail
      go_quiet (fail)
      go_wp2_with fail
      go_roundw
      case rel => exact ⟨k + 1, by omega, by go_num, _, rfl⟩
      case measure => simp [intOf]; omega
    · obtain rfl : k = n := by omega
      obtain ⟨W, hs3, hbW, hW⟩ : ∃ W : World, W.cell? ⟨g, k, none⟩ = some (.int .u8 77) ∧ Below w.heap.size w W ∧ w.drewN q = W :=
        ⟨w.drewN q, hs1, below_drewN (Below.refl _ _) _, rfl⟩
      rw [hW]
      clear hW hs1
      go_wp2_with fail
      go_ret
      exact ⟨rfl, hbW⟩
theorem bytes_succ (l : List UInt8) (k : Nat) (b : UInt8) (h : l[k]? = some b) : Lib.byteCells (l.take (k + 1)) = Lib.byteCells (l.take k) ++ [.int .u8 (b.toNat : Int)] := by
  rw [List.take_add_one, h]
  simp [Lib.byteCells]
set_option maxRecDepth 100000 in
theorem twinb_any (A : Option Addr) (n c : Nat) (l : List UInt8) (w : World) (h : Lies w w.heap.size A n (Lib.byteCells l)) (hn : n ≤ 140737488350000) :
   Calls Tryz.prog 31 #[.slice A n c] w fun e w' => e = .returned (.slice (some ⟨w.heap.size, 0, none⟩) n (n + 1)) ∧
     w'.ownsRow w.heap.size 5 1 (.slice (some ⟨w.heap.size, 0, none⟩) (n + 1) (n + 1)) (n + 1) (Lib.byteCells l ++ [.int .u8 77]) ∧ Below w.heap.size w w' := by
  obtain ⟨i0, hi, hz0, hz1, hz2⟩ := info_parts infoB
  have HL := Lib.hid (show l.length = n by simpa [Lib.byteCells] using h.1)
  have H := Lib.hid h
  clear h
  go_enter Tryz.func31, Tryz.ntmps31
  go_wp2_with (at_make; refine wpList_make_own _ rfl _ _ 23 rfl w.heap.size 5 i0 _ 1 Tryz.underlying23 hi hz0 hz1 _ _ _ (n + 1) rfl rfl (by omega) (by rw [hz2]; omega) (by unfold maxLen; omega) (Nat.le_refl _) ?_; intro w1 hown1 hg1)
  have hb1 : Below w.heap.size w w1 := (Below.refl _ _).grown hg1 (Nat.le_refl _) (by intro k hk; cases hk)
  clear hg1
  go_loopw [3, 4] (fun t i wr => ∃ k : Nat, k ≤ n ∧ i = .int .i64 k ∧ t = .slice (some ⟨w.heap.size, 0, none⟩) k (n + 1) ∧ wr.ownsRow w.heap.size 5 1 (.slice (some ⟨w.heap.size, 0, none⟩) k (n + 1)) k (Lib.byteCells (l.take k)) ∧ Below w.heap.size w wr)
    (fun _ i _ => n - (intOf i).toNat)
  case atStart => exact ⟨0, Nat.zero_le _, rfl, rfl, by simpa [Lib.byteCells] using hown1, hb1⟩
  case round =>
    obtain ⟨k, hk, rfl, rfl, hown, hb⟩ := hrel
    clear hown1 hb1
    by_cases hlt : k < n
    · obtain ⟨b, off, u, rfl, hbb, e1, hc⟩ := H.out.at_ hlt
      obtain ⟨x, hx, rfl⟩ := bytes_at e1
      have hc1 := (hb.cell (p := ⟨b, off + k, none⟩) hbb).trans hc
      have HX := Lib.hid hx
      clear e1 hx hc
      go_wp2_with (at_builtin; refine wpList_append_fits _ rfl _ _ 23 rfl w.heap.size 5 i0 1 Tryz.underlying23 hi hz1 w.heap.size k (n + 1) _ rfl (hown.alloc _) ⟨wr.heap.size, 0, none⟩ 1 1 [.int .u8 (x.toNat : Int)] rfl rfl (cell_one_new _ _ _) (by simp [Value.oneCell']) (by omega) ?_; intro w2 hown2 hg2)
      have hb2 : Below w.heap.size w w2 := (hb.alloc hb.size _).grown hg2 (by have := hb.size; simp; omega) (by intro j hj; cases hj; exact Nat.le_refl _)
      rw [← bytes_succ l k _ HX.out] at hown2
      go_roundw
      case rel => exact ⟨k + 1, by omega, by go_num, rfl, hown2, hb2⟩
      case measure => simp [intOf]; omega
    · obtain rfl : k = n := by omega
      rw [List.take_of_length_le (by rw [HL.out]; exact Nat.le_refl _)] at hown
      go_wp2_with (at_builtin; refine wpList_append_fits _ rfl _ _ 23 rfl w.heap.size 5 i0 1 Tryz.underlying23 hi hz1 w.heap.size k (k + 1) _ rfl (hown.alloc _) ⟨wr.heap.size, 0, none⟩ 1 1 [.int .u8 77] rfl rfl (cell_one_new _ _ _) (by simp [Value.oneCell']) (by omega) ?_; intro w2 hown2 hg2)
      go_ret
      exact ⟨rfl, hown2, (hb.alloc hb.size _).grown hg2 (by have := hb.size; simp; omega) (by intro j hj; cases hj; exact Nat.le_refl _)⟩
end Go.Proofs.YtonlfplloenfcaaGreatDoor
