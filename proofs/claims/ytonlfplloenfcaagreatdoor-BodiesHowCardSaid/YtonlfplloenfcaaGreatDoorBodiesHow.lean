/-
  BodiesHow: the walk.
-/
import Derived.Test.YtonlfplloenfcaaGreatDoorRSplitEtc
import Derived.Test.YtonlfplloenfcaaGreatDoorHeadsMoreEtc
import Derived.Test.YtonlfplloenfcaaGreatDoorMsg2
namespace Go.Proofs.YtonlfplloenfcaaGreatDoor
open Go.RowKit

set_option maxRecDepth 100000 in
set_option maxHeartbeats 4000000 in
theorem bodieshow_any (m s1 s2 : ByteArray) (st : Int) (A A2 : Option Addr) (n c n2 c2 : Nat) (fs : List Fd) (l : List UInt8) (w : World) (h : FRead w w.heap.size A n fs) (hs : FSmall fs) (hn : n ≤ 140737488355328)
    (h2 : Lies w w.heap.size A2 n2 (Lib.byteCells l)) (hn2 : n2 ≤ 140737488355328) (hz1 : s1.size ≤ 140737488355328) (hz2 : s2.size ≤ 140737488355328) (hst : -9223372036854775808 ≤ st ∧ st ≤ 9223372036854775807) (hm : MaxOk w) (hmg : maxG < w.heap.size) :
    Calls Tryz.prog 7 #[.string m, .agg #[.string s1, .string s2, .int .i64 st, .slice A n c, .slice A2 n2 c2]] w fun e w' => e = .returned (.bool true) ∧ Below w.heap.size w w' := by
  have H := Lib.hid h
  have H2 := Lib.hid h2
  have HS := Lib.hid hs
  have HM := Lib.hid hm
  have HG := Lib.hid (fun (W : World) (hb : Below w.heap.size w W) => greatl_any A n c fs W ((h.below hb).more hb.size) hs hn)
  clear h h2 hs hm
  have hk0 := Blk.new w 25 #[.string s1, .string s2, .int .i64 st, .slice A n c, .slice A2 n2 c2]
  have hB0 : Below w.heap.size w (w.alloc (.cells #[.string s1, .string s2, .int .i64 st, .slice A n c, .slice A2 n2 c2] 25)) := (Below.refl _ _).alloc (Nat.le_refl _) _
  have hl0 : w.heap.size < (w.alloc (.cells #[.string s1, .string s2, .int .i64 st, .slice A n c, .slice A2 n2 c2] 25)).heap.size := by simp
  have K0 := Lib.hid hk0
  have B0 := Lib.hid hB0
  have b3 := hk0.cell 3
  simp at b3
  clear hk0 hB0
  go_enter Tryz.func7, Tryz.ntmps7
  go_wp2_with fail
  generalize w.alloc (.cells #[.string s1, .string s2, .int .i64 st, .slice A n c, .slice A2 n2 c2] 25) = W0 at *
  refine (HG.out W0 B0.out).mono ?_
  rintro e w1 ⟨rfl, hb1⟩
  have B1 := Lib.hid (B0.out.trans (hb1.mono B0.out.size))
  have K1 := Lib.hid (K0.out.below hb1 hl0)
  have a0 := K1.out.cell 0
  have a1 := K1.out.cell 1
  have a2 := K1.out.cell 2
  have a3 := K1.out.cell 3
  have a4 := K1.out.cell 4
  simp at a0 a1 a2 a3 a4
  clear hb1 b3
  cases hbig : bigB 0 fs with
  | true =>
    go_wp2_with fail
    go_ret
    exact ⟨rfl, B1.out⟩
  | false =>
  have hsum := sum_of_big hbig
  obtain ⟨hn9, hf2⟩ := big_parts hbig
  have hnl : n ≤ 100000 := by rw [← H.out.1]; exact hn9
  have HF := Lib.hid hf2
  clear hbig hn9 hf2
  have HBY := Lib.hid (beyond_three n2 s1.size s2.size w1 hn2 hz1 hz2)
  have hal1 : Below w1.heap.size w1 (w1.alloc (.cells #[.int .i64 (n2 : Int), .int .i64 (s1.size : Int), .int .i64 (s2.size : Int)] 3)) := (Below.refl _ _).alloc (Nat.le_refl _) _
  have Bx := Lib.hid (B1.out.trans (hal1.mono B1.out.size))
  have Kx := Lib.hid (K1.out.below hal1 K1.out.lt)
  clear hal1
  go_wp2_with fail
  refine (HBY.out).mono ?_
  rintro e w2 ⟨rfl, hw2⟩
  have B2 : Hid (Below w.heap.size w w2) := by rw [← hw2]; exact Bx
  have K2 : Hid (Blk w2 w.heap.size 25 #[.string s1, .string s2, .int .i64 st, .slice A n c, .slice A2 n2 c2]) := by rw [← hw2]; exact Kx
  clear hw2 Bx Kx HBY a0 a1 a2 a3 a4 K1 B1
  by_cases hbey : 1048576 < n2 + s1.size + s2.size
  · have hd2 : decide (1048576 < n2 + s1.size + s2.size) = true := decide_eq_true hbey
    go_wp2_with fail
    go_ret
    exact ⟨rfl, B2.out⟩
  have hd2 : decide (1048576 < n2 + s1.size + s2.size) = false := decide_eq_false hbey
  have a0 := K2.out.cell 0
  have a1 := K2.out.cell 1
  have a2 := K2.out.cell 2
  have a3 := K2.out.cell 3
  have a4 := K2.out.cell 4
  simp at a0 a1 a2 a3 a4
  go_wp2_with fail
  refine (twinm_any s1 s2 st A A2 n c n2 c2 fs l w2 ((H.out.below B2.out).more B2.out.size) hnl ((H2.out.below B2.out).more B2.out.size) (by omega)).mono ?_
  rintro e w3 ⟨g1, g2, rfl, ot, ob, hb3⟩
  obtain ⟨rt, m1, m2⟩ := twin_read H.out.1 ot
  obtain ⟨rb, m3⟩ := twinb_read (by have := H2.out.1; rw [Lib.byteCells_length] at this; exact this) ob
  have hg1 : g1 < w3.heap.size := (ot.lt _ rfl).2
  have hg2 : g2 < w3.heap.size := (ob.lt _ rfl).2
  have B3 := Lib.hid (B2.out.trans (hb3.mono B2.out.size))
  have K3 := Lib.hid (K2.out.below hb3 K2.out.lt)
  have RT := Lib.hid rt
  have RB := Lib.hid rb
  have M1 := Lib.hid m1
  have M2 := Lib.hid m2
  have M3 := Lib.hid m3
  clear a0 a1 a2 a3 a4 hb3 ot ob rt rb m1 m2 m3
  go_wp2_with fail
  have hal : Below w3.heap.size w3 (w3.alloc (.cells #[.string s1, .string s2, .int .i64 st, .slice (some ⟨g1, 0, none⟩) n (n + 1), .slice (some ⟨g2, 0, none⟩) n2 (n2 + 1)] 25)) := (Below.refl _ _).alloc (Nat.le_refl _) _
  have ht3 := Blk.new w3 25 #[.string s1, .string s2, .int .i64 st, .slice (some ⟨g1, 0, none⟩) n (n + 1), .slice (some ⟨g2, 0, none⟩) n2 (n2 + 1)]
  have hz3 : w3.heap.size < (w3.alloc (.cells #[.string s1, .string s2, .int .i64 st, .slice (some ⟨g1, 0, none⟩) n (n + 1), .slice (some ⟨g2, 0, none⟩) n2 (n2 + 1)] 25)).heap.size := by simp
  generalize w3.alloc (.cells #[.string s1, .string s2, .int .i64 st, .slice (some ⟨g1, 0, none⟩) n (n + 1), .slice (some ⟨g2, 0, none⟩) n2 (n2 + 1)] 25) = W4 at *
  have T4 := Lib.hid ht3
  have X4 := Lib.hid hal
  have B4 := Lib.hid (B3.out.trans (hal.mono B3.out.size))
  have K4 := Lib.hid (K3.out.below hal K3.out.lt)
  clear hal ht3
  refine (how_any m s1 s2 st _ _ n (n + 1) n2 (n2 + 1) fs W4 ((RT.out.below X4.out).more (Nat.le_of_lt hz3)) hnl (by omega) hst (HM.out.below B4.out hmg) (Nat.lt_of_lt_of_le hmg B4.out.size)).mono ?_
  rintro e w5 ⟨rfl, hb5⟩
  have hz5 : W4.heap.size ≤ w5.heap.size := hb5.size
  have X5 := Lib.hid (X4.out.trans (hb5.mono (Nat.le_of_lt hz3)))
  have B5 := Lib.hid (B4.out.trans (hb5.mono B4.out.size))
  have K5 := Lib.hid (K4.out.below hb5 K4.out.lt)
  have T5 := Lib.hid (T4.out.below hb5 hz3)
  obtain ⟨⟨z1, z2, z3⟩, hz⟩ : ∃ z, howM m st fs = z := ⟨_, rfl⟩
  have HZ := Lib.hid hz
  rw [hz, show lenV .u8 (z1, z2, z3) = .tuple #[.int .u8 z1, .int .i64 z2, .int .i64 z3] from rfl]
  have a0 := K5.out.cell 0
  have a1 := K5.out.cell 1
  have a2 := K5.out.cell 2
  have a3 := K5.out.cell 3
  have a4 := K5.out.cell 4
  simp at a0 a1 a2 a3 a4
  clear hb5 hz
  go_wp2_with fail
  refine (rhow_any m s1 s2 st A A2 n c n2 c2 fs w5 ((H.out.below B5.out).more B5.out.size) hnl (fun f hf => by have := HF.out f hf; omega)).mono ?_
  rintro e w6 ⟨rfl, hb6⟩
  rw [HZ.out, show lenV .i64 (z1, z2, z3) = .tuple #[.int .i64 z1, .int .i64 z2, .int .i64 z3] from rfl]
  have hz6 : w5.heap.size ≤ w6.heap.size := hb6.size
  have X6 := Lib.hid (X5.out.trans (hb6.mono (by omega)))
  have B6 := Lib.hid (B5.out.trans (hb6.mono B5.out.size))
  have K6 := Lib.hid (K5.out.below hb6 K5.out.lt)
  have T6 := Lib.hid (T5.out.below hb6 T5.out.lt)
  have hzr : 0 ≤ z1 ∧ z1 ≤ 3 := by
    have := howM_kind m st fs
    rw [HZ.out] at this
    exact this
  clear hb6 a0 a1 a2 a3 a4
  have d1 : (z1 == z1) = true := beq_iff_eq.2 rfl
  have d2 : (z2 == z2) = true := beq_iff_eq.2 rfl
  have d3 : (z3 == z3) = true := beq_iff_eq.2 rfl
  have a0 := K6.out.cell 0
  have a1 := K6.out.cell 1
  have a2 := K6.out.cell 2
  have a3 := K6.out.cell 3
  have a4 := K6.out.cell 4
  have t0 := T6.out.cell 0
  have t1 := T6.out.cell 1
  have t2 := T6.out.cell 2
  have t3 := T6.out.cell 3
  have t4 := T6.out.cell 4
  simp at a0 a1 a2 a3 a4 t0 t1 t2 t3 t4
  go_wp2_with fail
  refine (leftm_any s1 s2 st g1 g2 A A2 n c n2 c2 fs l w6 ((RT.out.below X6.out).more (by omega)) ((H.out.below B6.out).more B6.out.size) hn ((X6.out.cell (p := ⟨g1, n * 2, none⟩) hg1).trans M1.out) ((X6.out.cell (p := ⟨g1, n * 2 + 1, none⟩) hg1).trans M2.out) (by omega)
    ((RB.out.below X6.out).more (by omega)) ((H2.out.below B6.out).more B6.out.size) hn2 ((X6.out.cell (p := ⟨g2, n2, none⟩) hg2).trans M3.out) (by omega)).mono ?_
  rintro e w8 ⟨rfl, hb8⟩
  have B8 := Lib.hid (B6.out.trans (hb8.mono B6.out.size))
  clear hb8 a0 a1 a2 a3 a4 t0 t1 t2 t3 t4
  go_wp2_with fail
  go_ret
  exact ⟨rfl, B8.out⟩
end Go.Proofs.YtonlfplloenfcaaGreatDoor
