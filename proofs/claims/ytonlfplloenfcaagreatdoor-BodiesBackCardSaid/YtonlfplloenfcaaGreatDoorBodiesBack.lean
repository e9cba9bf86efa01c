/-
  BodiesBack: the walk.
-/
import Derived.Test.YtonlfplloenfcaaGreatDoorAHowEtc
import Derived.Test.YtonlfplloenfcaaGreatDoorBFieldsEtc
import Derived.Test.YtonlfplloenfcaaGreatDoorBackChunk
import Derived.Test.YtonlfplloenfcaaGreatDoorHeadsNamesEtc
import Derived.Test.YtonlfplloenfcaaGreatDoorChunkErr
namespace Go.Proofs.YtonlfplloenfcaaGreatDoor
open Go.RowKit

theorem putOut_len7 (size : Int) (l : List UInt8) : (putOut size l).length ≤ 700000 := by
  unfold putOut
  split
  · rename_i h
    have h1 : ¬ (size < 1 ∨ 65536 < size) := by intro h1; unfold putErr at h; rw [if_pos h1] at h; cases h
    have h2 : ¬ 65536 < l.length := by intro h2; unfold putErr at h; rw [if_neg h1, if_pos h2] at h; cases h
    have h3 := flat_len2 size.toNat l (by omega) ((l.length + size.toNat - 1) / size.toNat)
    have h4 : (l.length + size.toNat - 1) / size.toNat ≤ 65537 := by
      refine Nat.div_le_of_le_mul ?_
      have : size.toNat * 65537 = size.toNat * 65536 + size.toNat := by rw [Nat.mul_succ]
      have : 65536 ≤ size.toNat * 65536 := Nat.le_mul_of_pos_left _ (by omega)
      omega
    rw [List.length_append]
    simp only [List.length_cons, List.length_nil]
    generalize (l.length + size.toNat - 1) / size.toNat = k at *
    generalize k * size.toNat = y at *
    omega
  · simp
/-- What bodies.Put writes is read back as the body. -/
theorem put_done (s n : Nat) (l : List UInt8) (hl : l.length = n) (hn : n ≤ 65536) (h1 : 1 ≤ s) (h2 : s ≤ 65536) : putErr (s : Int) n = 0 ∧ chunkA (putOut (s : Int) l) = .done l [] ∧ 5 ≤ (putOut (s : Int) l).length := by
  have he : putErr (s : Int) n = 0 := by
    unfold putErr
    rw [if_neg (by omega), if_neg (by omega)]
  have hs : ((s : Int).toNat) = s := Int.toNat_natCast s
  have ho : putOut (s : Int) l = (List.range ((n + s - 1) / s)).flatMap (chunkT s l) ++ lastB := by
    unfold putOut
    rw [hl, if_pos he, hs]
    rfl
  have hd := Nat.div_add_mod (n + s - 1) s
  have hm := Nat.mod_lt (n + s - 1) (show 0 < s by omega)
  obtain ⟨m, hm0⟩ : ∃ m, (n + s - 1) / s = m := ⟨_, rfl⟩
  rw [hm0] at hd ho
  have hms : s * m = m * s := Nat.mul_comm _ _
  refine ⟨he, ?_, ?_⟩
  · rw [ho]
    refine put_read s l m h1 (by omega) (by omega) ?_
    rcases Nat.eq_zero_or_pos m with h0 | h0
    · exact .inl h0
    · refine .inr ?_
      have e : (m - 1) * s + s = m * s := by
        have := Nat.succ_mul (m - 1) s
        rw [show (m - 1).succ = m by omega] at this
        exact this.symm
      omega
  · rw [ho, List.length_append]
    simp [lastB]

set_option maxRecDepth 100000 in
set_option maxHeartbeats 4000000 in
theorem bodiesback_any (A A3 : Option Addr) (n c n3 c3 s0 cut : Nat) (l l3 : List UInt8) (w : World) (hc : n ≤ c) (h : Lies w w.heap.size A n (Lib.byteCells l)) (hn : n ≤ 140737488355328) (h3 : Lies w w.heap.size A3 n3 (Lib.byteCells l3)) (hn3 : n3 ≤ 140737488355328) (hs0 : s0 < 65536) (hcut : cut < 65536)
    (hm : MaxOk w) (hmg : maxG < w.heap.size) (ht : tab64 w) (htg : 8 < w.heap.size) :
    Calls Tryz.prog 13 #[.slice A n c, .agg #[.int .u16 (s0 : Int), .int .u16 (cut : Int)], .slice A3 n3 c3] w fun e w' => e = .returned (.bool true) ∧ Below w.heap.size w w' := by
  have H := Lib.hid h
  have H3 := Lib.hid h3
  have HM := Lib.hid hm
  have hll : l.length = n := by simpa [Lib.byteCells] using h.1
  have hll3 : l3.length = n3 := by simpa [Lib.byteCells] using h3.1
  have HLL := Lib.hid hll
  have HLL3 := Lib.hid hll3
  have HA := Lib.hid (fun (W : World) (hb : Below w.heap.size w W) => alive13_any W (hm.below hb hmg) (Nat.lt_of_lt_of_le hmg hb.size) (tab64_below ht hb htg) (Nat.lt_of_lt_of_le htg hb.size))
  have HP := Lib.hid (fun (W : World) (hb : Below w.heap.size w W) => put_any A n c ((s0 + 1 : Nat) : Int) l W hc ((h.below hb).more hb.size) (tab64_below ht hb htg) (Nat.lt_of_lt_of_le htg hb.size))
  clear h h3 hm ht hll hll3
  have hk0 := Blk.new w 74 #[.int .u16 (s0 : Int), .int .u16 (cut : Int)]
  have hB0 : Below w.heap.size w (w.alloc (.cells #[.int .u16 (s0 : Int), .int .u16 (cut : Int)] 74)) := (Below.refl _ _).alloc (Nat.le_refl _) _
  have hl0 : w.heap.size < (w.alloc (.cells #[.int .u16 (s0 : Int), .int .u16 (cut : Int)] 74)).heap.size := by simp
  have K0 := Lib.hid hk0
  have B0 := Lib.hid hB0
  clear hk0 hB0
  go_enter Tryz.func13, Tryz.ntmps13
  go_wp2_with fail
  generalize w.alloc (.cells #[.int .u16 (s0 : Int), .int .u16 (cut : Int)] 74) = W0 at *
  refine (HA.out W0 B0.out).mono ?_
  rintro e w1 ⟨rfl, hb1⟩
  have B1 := Lib.hid (B0.out.trans (hb1.mono B0.out.size))
  have K1 := Lib.hid (K0.out.below hb1 hl0)
  clear hb1 K0 B0 hl0
  by_cases hbig : 65536 < n
  · have hd : decide ((65536 : Int) < (n : Int)) = true := decide_eq_true (by omega)
    go_wp2_with fail
    refine (HA.out w1 B1.out).mono ?_
    rintro e w2 ⟨rfl, hb2⟩
    have B2 := Lib.hid (B1.out.trans (hb2.mono B1.out.size))
    clear hb2
    go_wp2_with fail
    go_ret
    exact ⟨rfl, B2.out⟩
  have hd : decide ((65536 : Int) < (n : Int)) = false := decide_eq_false (by omega)
  have HBY := Lib.hid (beyond_len n3 w1 hn3)
  have hal1 : Below w1.heap.size w1 (w1.alloc (.cells #[.int .i64 (n3 : Int)] 3)) := (Below.refl _ _).alloc (Nat.le_refl _) _
  have Bx := Lib.hid (B1.out.trans (hal1.mono B1.out.size))
  have Kx := Lib.hid (K1.out.below hal1 K1.out.lt)
  clear hal1
  go_wp2_with fail
  refine (HBY.out).mono ?_
  rintro e w3 ⟨rfl, hw3⟩
  have B3 : Hid (Below w.heap.size w w3) := by rw [← hw3]; exact Bx
  have K3 : Hid (Blk w3 w.heap.size 74 #[.int .u16 (s0 : Int), .int .u16 (cut : Int)]) := by rw [← hw3]; exact Kx
  clear hw3 Bx HBY hd Kx K1
  by_cases hbey : 1048576 < n3
  · have hd2 : decide (1048576 < n3) = true := decide_eq_true hbey
    go_wp2_with fail
    refine (HA.out w3 B3.out).mono ?_
    rintro e w4 ⟨rfl, hb4⟩
    have B4 := Lib.hid (B3.out.trans (hb4.mono B3.out.size))
    clear hb4
    go_wp2_with fail
    go_ret
    exact ⟨rfl, B4.out⟩
  have hd2 : decide (1048576 < n3) = false := decide_eq_false hbey
  obtain ⟨p1, p2, p3⟩ := put_done (s0 + 1) n l HLL.out (by omega) (by omega) (by omega)
  have hmax := putOut_len7 ((s0 + 1 : Nat) : Int) l
  have hs1 : ((s0 + 1 : Nat) : Int) = (s0 : Int) + 1 := by omega
  have HPU := Lib.hid (HP.out w3 B3.out)
  rw [p1] at HPU
  obtain ⟨L, hL⟩ : ∃ L, putOut ((s0 + 1 : Nat) : Int) l = L := ⟨_, rfl⟩
  rw [hL] at HPU p2 p3 hmax
  obtain ⟨N, hN⟩ : ∃ N, L.length = N := ⟨_, rfl⟩
  rw [hN] at HPU p3 hmax
  rw [hs1] at HPU
  have HN := Lib.hid hN
  have HD := Lib.hid p2
  have a0 := K3.out.cell 0
  simp at a0
  clear p1 p2 hL hN hs1
  go_wp2_with fail
  refine (HPU.out).mono ?_
  rintro e w4 ⟨v4, rfl, ho4, hb4⟩
  obtain ⟨A4, c4, rfl⟩ := own_form ho4
  have B4 := Lib.hid (B3.out.trans (hb4.mono B3.out.size))
  have hz34 := hb4.size
  have O4 := Lib.hid ho4
  have hcap := own_cap ho4
  have HX0 := Lib.hid (fun b (hb : (Value.slice A4 N c4).ownBlock = some b) => (ho4.lt b hb).2)
  obtain ⟨k, hk⟩ : ∃ k, cut % N = k := ⟨_, rfl⟩
  have hkN : k < N := by rw [← hk]; exact Nat.mod_lt _ (by omega)
  have hmod : (cut : Int) % (N : Int) = (k : Int) := by rw [← hk]; rfl
  have hne : ((N : Int) == 0) = false := beq_eq_false_iff_ne.2 (by omega)
  have K4 := Lib.hid (K3.out.below hb4 K3.out.lt)
  have a1 := K4.out.cell 1
  simp at a1
  clear hb4 ho4 HPU hk K3 a0
  have hd5 : decide ((N : Int) < 5) = false := decide_eq_false (by omega)
  go_wp2_with fail
  have hltk : (L.take k).length = k := by rw [List.length_take, HN.out]; omega
  have HR1 := Lib.hid (bchunked_any A4 k c4 (L.take k) w4 (lies_cut (Lies.of_own O4.out) (by omega)) (by omega) (by omega) (HM.out.below B4.out hmg) (Nat.lt_of_lt_of_le hmg B4.out.size))
  obtain ⟨x, z, hx, hxz⟩ := part_of HD.out k (by rw [HN.out]; exact hkN)
  refine (HR1.out).mono ?_
  rintro e w5 ⟨v5, rfl, ho5, hb5⟩
  rw [hltk, hx]
  rw [hx] at ho5
  rw [show ((ansN k (.more x) : Nat) : Int) = (k : Int) from rfl, show ansD (.more x) = false from rfl, show ansE (.more x) = 0 from rfl]
  rw [show ansB (.more x) = x from rfl] at ho5
  obtain ⟨p, hp⟩ : ∃ p, x.length = p := ⟨_, rfl⟩
  rw [hp] at ho5
  obtain ⟨A5, c5, rfl⟩ := own_form ho5
  have hpn : p ≤ n := by
    have := congrArg List.length hxz
    rw [List.length_append, HLL.out, hp] at this
    omega
  have htake : l.take p = x := by rw [hxz, ← hp, List.take_left]
  have B5 := Lib.hid (B4.out.trans (hb5.mono B4.out.size))
  have O5 := Lib.hid (own_below O4.out hb5)
  have P5 := Lib.hid ho5
  have hz35 := Nat.le_trans hz34 hb5.size
  have HT := Lib.hid htake
  clear hb5 ho5 HR1 hx hxz hp hltk O4 htake K4 a1
  have HRR := Lib.hid ((H3.out.below B5.out).more B5.out.size).reads
  obtain ⟨i0, hi, hz0, hz1', hz2'⟩ := info_parts infoU
  go_wp2_with (at_builtin; refine wpList_append_any _ rfl _ _ 23 rfl w3.heap.size 5 i0 _ 1 1 Tryz.underlying23 hi hz0 hz1' hz2' rfl (by decide) (Value.slice A4 N c4) N (Lib.byteCells L) rfl O5.out w5.heap.size A3 n3 c3 (Lib.byteCells l3) rfl HRR.out (cells_one l3) (by unfold maxLen; omega) (by omega) hz35 ?_; intro v7 w7 hown7 hg7 hor7)
  have hown6 : ∀ b, (Value.slice A4 N c4).ownBlock = some b → w.heap.size ≤ b := fun b hb => Nat.le_trans B3.out.size (O5.out.lt b hb).1
  have B7 := Lib.hid (B5.out.grown hg7 B5.out.size hown6)
  have P7 := Lib.hid (own_kept P5.out hg7 (fun b hb e => by
    have h1 := (P5.out.lt b hb).1
    have h2 := HX0.out b e
    omega))
  have O7 : w7.ownsRow w3.heap.size 5 1 v7 (N + n3) (Lib.byteCells (L ++ l3)) := by
    have e1 : Lib.byteCells (L ++ l3) = Lib.byteCells L ++ Lib.byteCells l3 := by unfold Lib.byteCells; rw [List.map_append]
    rw [e1]
    exact hown7
  obtain ⟨A7, c7, rfl⟩ := own_form O7
  have HR2 := Lib.hid (bchunked_any A7 (N + n3) c7 (L ++ l3) w7 (Lies.of_own O7) (own_cap O7) (by omega) (HM.out.below B7.out hmg) (Nat.lt_of_lt_of_le hmg B7.out.size))
  have hLl : (L ++ l3).length = N + n3 := by rw [List.length_append, HN.out, HLL3.out]
  clear hown7 hg7 hor7 O7 hown6 HRR O5 P5
  refine (HR2.out).mono ?_
  rintro e w8 ⟨v8, rfl, ho8, hb8⟩
  rw [hLl, whole_of HD.out l3]
  rw [whole_of HD.out l3] at ho8
  have e1 : ((ansN (N + n3) (.done l l3) : Nat) : Int) = (N : Int) := by
    show ((N + n3 - l3.length : Nat) : Int) = _
    rw [HLL3.out]
    congr 1
    omega
  rw [e1, show ansD (.done l l3) = true from rfl, show ansE (.done l l3) = 0 from rfl]
  rw [show ansB (.done l l3) = l from rfl, HLL.out] at ho8
  obtain ⟨A8, c8, rfl⟩ := own_form ho8
  have B8 := Lib.hid (B7.out.trans (hb8.mono B7.out.size))
  have LP := Lib.hid (Lies.of_own (own_below P7.out hb8))
  have LW := Lib.hid (Lies.of_own ho8)
  have LH := Lib.hid ((H.out.below B8.out).more B8.out.size)
  clear hb8 ho8 HR2 P7 e1 hLl
  have d1 : ((k : Int) == (k : Int)) = true := beq_iff_eq.2 rfl
  have d1' : ((k : Int) == (cut : Int) % (N : Int)) = true := beq_iff_eq.2 hmod.symm
  have d2 : ((N : Int) == (N : Int)) = true := beq_iff_eq.2 rfl
  have d3 : decide ((p : Int) ≤ (n : Int)) = true := decide_eq_true (by omega)
  have LH2 := lies_cut LH.out hpn
  rw [HT.out] at LH2
  have HS1 := Lib.hid (samebytes_any A5 A p c5 c w8.heap.size x w8 LP.out LH2 (by omega))
  clear LH2
  go_wp2_with fail
  refine (HS1.out).mono ?_
  rintro e w9 ⟨rfl, q9, rfl⟩
  have B9 := Lib.hid (below_drewN B8.out q9)
  have X9 := Lib.hid (below_drewN (Below.refl w8.heap.size w8) q9)
  have HS2 := Lib.hid (samebytes_any A8 A n c8 c w8.heap.size l (w8.drewN q9) (LW.out.below X9.out) (LH.out.below X9.out) hn)
  go_wp2_with fail
  refine (HS2.out).mono ?_
  rintro e w10 ⟨rfl, q10, rfl⟩
  go_wp2_with fail
  go_ret
  exact ⟨rfl, below_drewN B8.out (q9 + q10)⟩
end Go.Proofs.YtonlfplloenfcaaGreatDoor
