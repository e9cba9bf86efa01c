/-
  HeadsPuts: the walk.
-/
import Derived.Test.YtonlfplloenfcaaGreatDoorApart
import Derived.Test.YtonlfplloenfcaaGreatDoorMsg2
import Derived.Test.YtonlfplloenfcaaGreatDoorRPut
namespace Go.Proofs.YtonlfplloenfcaaGreatDoor
open Go.RowKit

theorem big_sum {m : Nat} {fs : List Fd} (h : bigB m fs = false) : m + fsum fs ≤ 200000 := by
  unfold bigB at h
  have := of_decide_eq_false h
  omega
theorem big_less {m : Nat} {fs : List Fd} (h : bigB m fs = false) : bigB 0 fs = false := by
  have := big_sum h
  unfold bigB
  exact decide_eq_false (by omega)

theorem headO_len (m t : ByteArray) (fs : List Fd) {x : Nat} (h : m.size + t.size + x + fsum fs ≤ 200000) : (headO m t fs).length ≤ 900000 := by
  have h1 : (headO m t fs).length ≤ (headT m t fs).length := by
    unfold headO
    split
    · exact Nat.le_refl _
    · exact Nat.zero_le _
  have h2 := fieldsT_sum fs
  rw [headT_len, askT_len] at h1
  omega
set_option maxRecDepth 100000 in
set_option maxHeartbeats 4000000 in
theorem headsputs_any (s1 s2 : ByteArray) (st : Int) (A A2 : Option Addr) (n c n2 c2 : Nat) (fs : List Fd) (l : List UInt8) (w : World) (h : FRead w w.heap.size A n fs) (hs : FSmall fs) (hn : n ≤ 140737488355328)
    (h2 : Lies w w.heap.size A2 n2 (Lib.byteCells l)) (hn2 : n2 ≤ 140737488355328) (hz1 : s1.size ≤ 140737488355328) (hz2 : s2.size ≤ 140737488355328) (hp : PowTab w) (hg : powG < w.heap.size) :
    Calls Tryz.prog 3 #[.agg #[.string s1, .string s2, .int .i64 st, .slice A n c, .slice A2 n2 c2]] w fun e w' => e = .returned (.bool true) ∧ Below w.heap.size w w' := by
  have H := Lib.hid h
  have H2 := Lib.hid h2
  have HS := Lib.hid hs
  have HP := Lib.hid hp
  clear h h2 hs hp
  have hk0 := Blk.new w 25 #[.string s1, .string s2, .int .i64 st, .slice A n c, .slice A2 n2 c2]
  have hB0 : Below w.heap.size w (w.alloc (.cells #[.string s1, .string s2, .int .i64 st, .slice A n c, .slice A2 n2 c2] 25)) := (Below.refl _ _).alloc (Nat.le_refl _) _
  have hl0 : w.heap.size < (w.alloc (.cells #[.string s1, .string s2, .int .i64 st, .slice A n c, .slice A2 n2 c2] 25)).heap.size := by simp
  have K0 := Lib.hid hk0
  have B0 := Lib.hid hB0
  clear hk0 hB0
  cases hbig : bigB (s1.size + s2.size + n2) fs
  · have hsum := big_sum hbig
    obtain ⟨hn9, hf2⟩ := big_parts (big_less hbig)
    have hnl : n ≤ 100000 := by rw [← H.out.1]; exact hn9
    have HB := Lib.hid hbig
    have HF := Lib.hid hf2
    clear hbig hn9 hf2
    go_enter Tryz.func3, Tryz.ntmps3
    go_wp2_with fail
    generalize w.alloc (.cells #[.string s1, .string s2, .int .i64 st, .slice A n c, .slice A2 n2 c2] 25) = W0 at *
    refine (great_any s1 s2 st A A2 n c n2 c2 fs W0 ((H.out.below B0.out).more B0.out.size) HS.out hz1 hz2 hn2 hn).mono ?_
    rintro e w1 ⟨rfl, hb1⟩
    rw [HB.out]
    have hz01 : W0.heap.size ≤ w1.heap.size := hb1.size
    have B1 := Lib.hid (B0.out.trans (hb1.mono B0.out.size))
    have K1 := Lib.hid (K0.out.below hb1 hl0)
    have a0 := K1.out.cell 0
    have a1 := K1.out.cell 1
    have a2 := K1.out.cell 2
    have a3 := K1.out.cell 3
    have a4 := K1.out.cell 4
    simp at a0 a1 a2 a3 a4
    clear hb1
    go_wp2_with fail
    refine (twinm_any s1 s2 st A A2 n c n2 c2 fs l w1 ((H.out.below B1.out).more B1.out.size) hnl ((H2.out.below B1.out).more B1.out.size) (by omega)).mono ?_
    rintro e w2 ⟨g1, g2, rfl, ot, ob, hb2⟩
    obtain ⟨rt, m1, m2⟩ := twin_read H.out.1 ot
    obtain ⟨rb, m3⟩ := twinb_read (by have := H2.out.1; rw [Lib.byteCells_length] at this; exact this) ob
    have hg1 : g1 < w2.heap.size := (ot.lt _ rfl).2
    have hg2 : g2 < w2.heap.size := (ob.lt _ rfl).2
    have hg1w : w1.heap.size ≤ g1 := (ot.lt _ rfl).1
    have hg2w : w1.heap.size ≤ g2 := (ob.lt _ rfl).1
    have hz12 : w1.heap.size ≤ w2.heap.size := hb2.size
    have B2 := Lib.hid (B1.out.trans (hb2.mono B1.out.size))
    have K2 := Lib.hid (K1.out.below hb2 K1.out.lt)
    have OT := Lib.hid ot
    have OB := Lib.hid ob
    have RT := Lib.hid rt
    have RB := Lib.hid rb
    have M1 := Lib.hid m1
    have M2 := Lib.hid m2
    have M3 := Lib.hid m3
    clear a0 a1 a2 a3 a4 hb2 ot ob rt rb m1 m2 m3
    go_wp2_with fail
    have hal : Below w2.heap.size w2 (w2.alloc (.cells #[.string s1, .string s2, .int .i64 st, .slice (some ⟨g1, 0, none⟩) n (n + 1), .slice (some ⟨g2, 0, none⟩) n2 (n2 + 1)] 25)) := (Below.refl _ _).alloc (Nat.le_refl _) _
    have ht3 := Blk.new w2 25 #[.string s1, .string s2, .int .i64 st, .slice (some ⟨g1, 0, none⟩) n (n + 1), .slice (some ⟨g2, 0, none⟩) n2 (n2 + 1)]
    have hz3 : w2.heap.size < (w2.alloc (.cells #[.string s1, .string s2, .int .i64 st, .slice (some ⟨g1, 0, none⟩) n (n + 1), .slice (some ⟨g2, 0, none⟩) n2 (n2 + 1)] 25)).heap.size := by simp
    generalize w2.alloc (.cells #[.string s1, .string s2, .int .i64 st, .slice (some ⟨g1, 0, none⟩) n (n + 1), .slice (some ⟨g2, 0, none⟩) n2 (n2 + 1)] 25) = W3 at *
    have T3 := Lib.hid ht3
    have X3 := Lib.hid hal
    have B3 := Lib.hid (B2.out.trans (hal.mono B2.out.size))
    have K3 := Lib.hid (K2.out.below hal K2.out.lt)
    clear hal ht3
    refine (hput_any s1 s2 st _ _ n (n + 1) n2 (n2 + 1) fs W3 ((RT.out.below X3.out).more (Nat.le_of_lt hz3)) HS.out (by omega)).mono ?_
    rintro e w4 ⟨va, rfl, oa, hb4⟩
    obtain ⟨Aa, ca, rfl⟩ := own_form oa
    have hz4 : W3.heap.size ≤ w4.heap.size := hb4.size
    have OA := Lib.hid oa
    have X4 := Lib.hid (X3.out.trans (hb4.mono (Nat.le_of_lt hz3)))
    have Y4 := Lib.hid hb4
    have B4 := Lib.hid (B3.out.trans (hb4.mono B3.out.size))
    have K4 := Lib.hid (K3.out.below hb4 K3.out.lt)
    have T4 := Lib.hid (T3.out.below hb4 hz3)
    have t0 := T4.out.cell 0
    have t1 := T4.out.cell 1
    have t2 := T4.out.cell 2
    have t3 := T4.out.cell 3
    have t4 := T4.out.cell 4
    simp at t0 t1 t2 t3 t4
    clear oa hb4
    go_wp2_with fail
    refine (hput_any s1 s2 st _ _ n (n + 1) n2 (n2 + 1) fs w4 ((RT.out.below X4.out).more (by omega)) HS.out (by omega)).mono ?_
    rintro e w5 ⟨vb, rfl, ob5, hb5⟩
    obtain ⟨Ab, cb, rfl⟩ := own_form ob5
    have hz5 : w4.heap.size ≤ w5.heap.size := hb5.size
    have OBB := Lib.hid ob5
    have X5 := Lib.hid (X4.out.trans (hb5.mono (by omega)))
    have Y5 := Lib.hid hb5
    have B5 := Lib.hid (B4.out.trans (hb5.mono B4.out.size))
    have K5 := Lib.hid (K4.out.below hb5 K4.out.lt)
    have T5 := Lib.hid (T4.out.below hb5 T4.out.lt)
    have a0 := K5.out.cell 0
    have a1 := K5.out.cell 1
    have a2 := K5.out.cell 2
    have a3 := K5.out.cell 3
    have a4 := K5.out.cell 4
    simp at a0 a1 a2 a3 a4
    clear ob5 hb5 t0 t1 t2 t3 t4
    go_wp2_with fail
    refine (rput_any s1 s2 st A A2 n c n2 c2 fs w5 ((H.out.below B5.out).more B5.out.size) (by omega)).mono ?_
    rintro e w6 ⟨vr, rfl, or6, hb6⟩
    obtain ⟨Ar, cr, rfl⟩ := own_form or6
    have hz6 : w5.heap.size ≤ w6.heap.size := hb6.size
    have ORR := Lib.hid or6
    have X6 := Lib.hid (X5.out.trans (hb6.mono (by omega)))
    have Y6 := Lib.hid hb6
    have B6 := Lib.hid (B5.out.trans (hb6.mono B5.out.size))
    have K6 := Lib.hid (K5.out.below hb6 K5.out.lt)
    have T6 := Lib.hid (T5.out.below hb6 T5.out.lt)
    clear or6 hb6 a0 a1 a2 a3 a4
    have hOb := headO_len s1 s2 fs hsum
    go_wp2_with fail
    have hlr : Lies w6 w6.heap.size Ar (headO s1 s2 fs).length (Lib.byteCells (headO s1 s2 fs)) := Lies.of_own ORR.out
    have hla : Lies w6 w6.heap.size Aa (headO s1 s2 fs).length (Lib.byteCells (headO s1 s2 fs)) := (((Lies.of_own OA.out).below Y5.out).more hz5 |>.below Y6.out).more hz6
    have hlb : Lies w6 w6.heap.size Ab (headO s1 s2 fs).length (Lib.byteCells (headO s1 s2 fs)) := ((Lies.of_own OBB.out).below Y6.out).more hz6
    have HLR := Lib.hid hlr
    have HLA := Lib.hid hla
    have HLB := Lib.hid hlb
    clear hlr hla hlb
    generalize hN : (headO s1 s2 fs).length = N at *
    generalize headE s1 s2 fs = z at *
    clear hN
    refine (samebytes_any Aa Ar N ca cr w6.heap.size (headO s1 s2 fs) w6 HLA.out HLR.out (by omega)).mono ?_
    rintro e w7 ⟨rfl, q7, rfl⟩
    go_wp2_with fail
    refine (samebytes_any Ab Ar N cb cr w6.heap.size (headO s1 s2 fs) (w6.drewN q7) HLB.out HLR.out (by omega)).mono ?_
    rintro e w7 ⟨rfl, q8, rfl⟩
    have hd : Below w6.heap.size w6 ((w6.drewN q7).drewN q8) := below_drewN (below_drewN (Below.refl _ _) q7) q8
    have hz7 : w6.heap.size ≤ ((w6.drewN q7).drewN q8).heap.size := Nat.le_refl _
    have X7 := Lib.hid (X6.out.trans (hd.mono (by omega)))
    have Y7 := Lib.hid hd
    have B7 := Lib.hid (B6.out.trans (hd.mono B6.out.size))
    have K7 := Lib.hid (K6.out.below hd K6.out.lt)
    have T7 := Lib.hid (T6.out.below hd T6.out.lt)
    generalize (w6.drewN q7).drewN q8 = w7 at *
    have a0 := K7.out.cell 0
    have a1 := K7.out.cell 1
    have a2 := K7.out.cell 2
    have a3 := K7.out.cell 3
    have a4 := K7.out.cell 4
    have t0 := T7.out.cell 0
    have t1 := T7.out.cell 1
    have t2 := T7.out.cell 2
    have t3 := T7.out.cell 3
    have t4 := T7.out.cell 4
    simp at a0 a1 a2 a3 a4 t0 t1 t2 t3 t4
    clear hd
    go_wp2_with fail
    refine (leftm_any s1 s2 st g1 g2 A A2 n c n2 c2 fs l w7 ((RT.out.below X7.out).more (by omega)) ((H.out.below B7.out).more B7.out.size) hn ((X7.out.cell (p := ⟨g1, n * 2, none⟩) hg1).trans M1.out) ((X7.out.cell (p := ⟨g1, n * 2 + 1, none⟩) hg1).trans M2.out) (by omega)
      ((RB.out.below X7.out).more (by omega)) ((H2.out.below B7.out).more B7.out.size) hn2 ((X7.out.cell (p := ⟨g2, n2, none⟩) hg2).trans M3.out) (by omega)).mono ?_
    rintro e w8 ⟨rfl, hb8⟩
    have hz8 : w7.heap.size ≤ w8.heap.size := hb8.size
    have X8 := Lib.hid (X7.out.trans (hb8.mono (by omega)))
    have Y8 := Lib.hid (Y7.out.trans (hb8.mono (by omega)))
    have B8 := Lib.hid (B7.out.trans (hb8.mono B7.out.size))
    have T8 := Lib.hid (T7.out.below hb8 T7.out.lt)
    clear hb8 a0 a1 a2 a3 a4 t0 t1 t2 t3 t4
    have T9 := Lib.hid (T8.out.alloc (.cells #[.int .i64 0, .slice none 0 0, .slice none 0 0, .slice none 0 0, .slice none 0 0, .slice none 0 0, .slice none 0 0, .slice none 0 0, .slice none 0 0] 42))
    have t0 := T9.out.cell 0
    have t1 := T9.out.cell 1
    have t2 := T9.out.cell 2
    have t3 := T9.out.cell 3
    have t4 := T9.out.cell 4
    simp at t0 t1 t2 t3 t4
    go_wp2_with fail
    have hzw : w.heap.size ≤ w8.heap.size := B8.out.size
    have hot : w8.ownsRow w.heap.size 63 2 (.slice (some ⟨g1, 0, none⟩) n (n + 1)) n (fcells fs) := own_below (ownsRow_base (own_cut (k := 1) (by rw [fcells_len, H.out.1]) OT.out) B1.out.size) X8.out
    have hob : w8.ownsRow w.heap.size 5 1 (.slice (some ⟨g2, 0, none⟩) n2 (n2 + 1)) n2 (Lib.byteCells l) := own_below (ownsRow_base (own_cutb (k := 1) H2.out.1 OB.out) B1.out.size) X8.out
    have hoa : w8.ownsRow w.heap.size 5 1 (.slice Aa N ca) N (Lib.byteCells (headO s1 s2 fs)) := own_below (own_below (own_below (ownsRow_base OA.out B3.out.size) Y5.out) Y6.out) Y8.out
    have hoc : w8.ownsRow w.heap.size 5 1 (.slice Ab N cb) N (Lib.byteCells (headO s1 s2 fs)) := own_below (own_below (ownsRow_base OBB.out B4.out.size) Y6.out) Y8.out
    have hbk := Blk.new w8 42 #[.int .i64 0, .slice none 0 0, .slice none 0 0, .slice none 0 0, .slice none 0 0, .slice none 0 0, .slice none 0 0, .slice none 0 0, .slice none 0 0]
    have hal : Below w8.heap.size w8 (w8.alloc (.cells #[.int .i64 0, .slice none 0 0, .slice none 0 0, .slice none 0 0, .slice none 0 0, .slice none 0 0, .slice none 0 0, .slice none 0 0, .slice none 0 0] 42)) := (Below.refl _ _).alloc (Nat.le_refl _) _
    have D9 := Lib.hid (own_below hot hal)
    have E9 := Lib.hid (own_below hob hal)
    have A9 := Lib.hid (own_below hoa hal)
    have C9 := Lib.hid (own_below hoc hal)
    have L9 := Lib.hid (B8.out.trans (hal.mono hzw))
    have G9 := Lib.hid hbk
    clear hot hob hoa hoc hal hbk t0 t1 t2 t3 t4
    have hf1 : ∀ b, (Value.slice (some ⟨g2, 0, none⟩) n2 (n2 + 1)).ownBlock = some b → (Value.slice Aa N ca).ownBlock ≠ some b := fun b h1 h2 => by
      have h3 := (OA.out.lt b h2).1
      simp [Value.ownBlock] at h1
      omega
    have hf2 : ∀ b, (Value.slice (some ⟨g2, 0, none⟩) n2 (n2 + 1)).ownBlock = some b → (Value.slice Ab N cb).ownBlock ≠ some b := fun b h1 h2 => by
      have h3 := (OBB.out.lt b h2).1
      simp [Value.ownBlock] at h1
      omega
    have hf3 : ∀ b, (Value.slice Aa N ca).ownBlock = some b → (Value.slice Ab N cb).ownBlock ≠ some b := fun b h1 h2 => by
      have h3 := (OA.out.lt b h1).2
      have h4 := (OBB.out.lt b h2).1
      omega
    have FR := Lib.hid (And.intro hf1 (And.intro hf2 hf3))
    clear hf1 hf2 hf3
    generalize w8.alloc (.cells #[.int .i64 0, .slice none 0 0, .slice none 0 0, .slice none 0 0, .slice none 0 0, .slice none 0 0, .slice none 0 0, .slice none 0 0, .slice none 0 0] 42) = W9 at *
    generalize w8.heap.size = g at *
    refine (bookm_ok w.heap.size g 0 (.slice none 0 0) (.slice none 0 0) (.slice none 0 0) [] [] s1 s2 st _ _ n (n + 1) n2 (n2 + 1) _ _ W9 (by omega) (by simp) (by simp) hzw G9.out (Kind.nil rfl) (Kind.nil rfl) D9.out E9.out).mono ?_
    rintro e w10 ⟨rfl, vf, vb, g10, kf10, kb10, l10, y10⟩
    have G10 := Lib.hid g10
    have KF10 := Lib.hid kf10
    have KB10 := Lib.hid kb10
    have L10 := Lib.hid (L9.out.trans l10)
    have A10 := Lib.hid (own_tys A9.out y10 (by decide))
    have C10 := Lib.hid (own_tys C9.out y10 (by decide))
    clear g10 kf10 kb10 l10 y10
    go_wp2_with fail
    refine (addbyte_ok w.heap.size g (0 + 1 + 1) vb (.slice none 0 0) vf _ _ N ca _ w10 (by omega) (by simp) hzw G10.out KB10.out A10.out).mono ?_
    rintro e w11 ⟨rfl, v1, g11, k11, l11, y11⟩
    have G11 := Lib.hid g11
    have KB11 := Lib.hid k11
    have KF11 := Lib.hid (KF10.out.tys y11 (by decide) (by decide))
    have L11 := Lib.hid (L10.out.trans l11)
    have C11 := Lib.hid (own_tys C10.out y11 (by decide))
    clear g11 k11 l11 y11
    go_wp2_with fail
    refine (addbyte_ok w.heap.size g (0 + 1 + 1 + 1) v1 (.slice none 0 0) vf _ _ N cb _ w11 (by omega) (by simp) hzw G11.out KB11.out C11.out).mono ?_
    rintro e w12 ⟨rfl, v2, g12, k12, l12, y12⟩
    have G12 := Lib.hid g12
    have KB12 := Lib.hid k12
    have KF12 := Lib.hid (KF11.out.tys y12 (by decide) (by decide))
    have L12 := Lib.hid (L11.out.trans l12)
    clear g12 k12 l12 y12
    go_wp2_with fail
    refine (apart_any w.heap.size g _ v2 (.slice none 0 0) vf _ [] _ w12 hg L12.out.size (HP.out.below L12.out hg) (by simp) (by simp) (by simp) G12.out KB12.out (Kind.nil rfl) KF12.out ?_ Far.nil ?_ ?_ Nums.nil ?_).mono ?_
    · refine Far.push (Far.push (Far.push Far.nil (fun j hj => by simp at hj)) (fun j hj b hb => ?_)) (fun j hj b hb => ?_)
      · obtain rfl : j = 0 := by simp at hj; omega
        exact FR.out.1 b hb
      · obtain rfl | rfl : j = 0 ∨ j = 1 := by simp at hj; omega
        · exact FR.out.2.1 b hb
        · exact FR.out.2.2 b hb
    · exact Far.push Far.nil (fun j hj => by simp at hj)
    · exact ((Nums.nil.push (by simp only [lenOf]; omega) (by omega)).push (by simp only [lenOf]; omega) (by omega)).push (by simp only [lenOf]; omega) (by omega)
    · exact Nums.nil.push (by simp only [lenOf]; omega) (by omega)
    rintro e w13 ⟨rfl, l13⟩
    have L13 := Lib.hid (L12.out.trans l13)
    clear l13
    go_wp2_with fail
    go_ret
    exact ⟨rfl, L13.out⟩
  · have HB := Lib.hid hbig
    clear hbig
    go_enter Tryz.func3, Tryz.ntmps3
    go_wp2_with fail
    generalize w.alloc (.cells #[.string s1, .string s2, .int .i64 st, .slice A n c, .slice A2 n2 c2] 25) = W0 at *
    refine (great_any s1 s2 st A A2 n c n2 c2 fs W0 ((H.out.below B0.out).more B0.out.size) HS.out hz1 hz2 hn2 hn).mono ?_
    rintro e w1 ⟨rfl, hb1⟩
    rw [HB.out]
    go_wp2_with fail
    go_ret
    exact ⟨rfl, B0.out.trans (hb1.mono B0.out.size)⟩
end Go.Proofs.YtonlfplloenfcaaGreatDoor
