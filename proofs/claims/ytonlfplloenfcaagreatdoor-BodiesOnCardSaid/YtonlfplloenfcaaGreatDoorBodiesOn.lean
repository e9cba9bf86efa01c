/-
  BodiesOn: the walk.
-/
import Derived.Test.YtonlfplloenfcaaGreatDoorAHowEtc
import Derived.Test.YtonlfplloenfcaaGreatDoorBFieldsEtc
import Derived.Test.YtonlfplloenfcaaGreatDoorBackChunk
import Derived.Test.YtonlfplloenfcaaGreatDoorHeadsNamesEtc
import Derived.Test.YtonlfplloenfcaaGreatDoorChunkErr
namespace Go.Proofs.YtonlfplloenfcaaGreatDoor
open Go.RowKit

set_option maxRecDepth 100000 in
set_option maxHeartbeats 4000000 in
theorem bodieson_any (A A2 : Option Addr) (n c n2 c2 : Nat) (l l2 : List UInt8) (w : World) (hc : n ≤ c) (h : Lies w w.heap.size A n (Lib.byteCells l)) (hn : n ≤ 140737488355328) (h2 : Lies w w.heap.size A2 n2 (Lib.byteCells l2)) (hn2 : n2 ≤ 140737488355328)
    (hm : MaxOk w) (hmg : maxG < w.heap.size) (ht : tab64 w) (htg : 8 < w.heap.size) :
    Calls Tryz.prog 14 #[.slice A n c, .slice A2 n2 c2] w fun e w' => e = .returned (.bool true) ∧ Below w.heap.size w w' := by
  have H := Lib.hid h
  have H2 := Lib.hid h2
  have HM := Lib.hid hm
  have hll : l.length = n := by simpa [Lib.byteCells] using h.1
  have hll2 : l2.length = n2 := by simpa [Lib.byteCells] using h2.1
  have HA := Lib.hid (fun (W : World) (hb : Below w.heap.size w W) => alive13_any W (hm.below hb hmg) (Nat.lt_of_lt_of_le hmg hb.size) (tab64_below ht hb htg) (Nat.lt_of_lt_of_le htg hb.size))
  clear h h2 hm ht
  have HLL := Lib.hid hll
  have HLL2 := Lib.hid hll2
  clear hll hll2
  go_enter Tryz.func14, Tryz.ntmps14
  go_wp2_with fail
  refine (HA.out w (Below.refl _ _)).mono ?_
  rintro e w1 ⟨rfl, hb1⟩
  have B1 := Lib.hid hb1
  clear hb1
  by_cases hbig : 100000 < n
  · have hd : decide ((100000 : Int) < (n : Int)) = true := decide_eq_true (by omega)
    go_wp2_with fail
    refine (HA.out w1 B1.out).mono ?_
    rintro e w2 ⟨rfl, hb2⟩
    have B2 := Lib.hid (B1.out.trans (hb2.mono B1.out.size))
    clear hb2
    go_wp2_with fail
    go_ret
    exact ⟨rfl, B2.out⟩
  have hd : decide ((100000 : Int) < (n : Int)) = false := decide_eq_false (by omega)
  by_cases hbig2 : 100000 < n2
  · have hd2 : decide ((100000 : Int) < (n2 : Int)) = true := decide_eq_true (by omega)
    go_wp2_with fail
    refine (HA.out w1 B1.out).mono ?_
    rintro e w2 ⟨rfl, hb2⟩
    have B2 := Lib.hid (B1.out.trans (hb2.mono B1.out.size))
    clear hb2
    go_wp2_with fail
    go_ret
    exact ⟨rfl, B2.out⟩
  have hd2 : decide ((100000 : Int) < (n2 : Int)) = false := decide_eq_false (by omega)
  have HG1 := Lib.hid (bchunked_any A n c l w1 ((H.out.below B1.out).more B1.out.size) hc (by omega) (HM.out.below B1.out hmg) (Nat.lt_of_lt_of_le hmg B1.out.size))
  go_wp2_with fail
  refine (HG1.out).mono ?_
  rintro e w3 ⟨va, rfl, hoa, hb3⟩
  obtain ⟨Aa, ca, rfl⟩ := own_form hoa
  have B3 := Lib.hid (B1.out.trans (hb3.mono B1.out.size))
  have OA := Lib.hid hoa
  have hz13 : w1.heap.size ≤ w3.heap.size := hb3.size
  clear hoa hb3 HG1 hd hd2
  obtain ⟨a, ha⟩ : ∃ a, chunkA l = a := ⟨_, rfl⟩
  have HAA := Lib.hid ha
  have hlen := chunkA_len l
  rw [ha] at OA hlen ⊢
  rw [HLL.out] at hlen ⊢
  obtain ⟨N, hN⟩ : ∃ N, (ansB a).length = N := ⟨_, rfl⟩
  have HN := Lib.hid hN
  rw [hN] at OA hlen ⊢
  clear ha hN
  have HR1 : Hid (Reads w3 w3.heap.size 1 A n (Lib.byteCells l)) := Lib.hid ((H.out.below B3.out).more B3.out.size).reads
  obtain ⟨i0, hi, hz0, hz1, hz2⟩ := info_parts infoU
  have HR2 := Lib.hid (fun (W : World) (hb : Below w.heap.size w W) => ((H2.out.below hb).more hb.size).reads)
  have hl4 : ∀ (v : Value) (s : World), (v.ownBlock = (Value.slice none 0 0).ownBlock ∨ v.ownBlock = some s.heap.size) → ∀ b, v.ownBlock = some b → b = s.heap.size := fun v s h b hb => by
    rcases h with h | h
    · rw [hb] at h; simp [Value.ownBlock] at h
    · rw [hb] at h; injection h
  have HL4 := Lib.hid hl4
  clear hl4
  go_wp2_with (first
    | (at_builtin; refine wpList_append_any _ rfl _ _ 23 rfl w.heap.size 5 i0 _ 1 1 Tryz.underlying23 hi hz0 hz1 hz2 rfl (by decide) (Value.slice none 0 0) 0 [] rfl (World.ownsRow_nil _ _ _ _) w3.heap.size A n c (Lib.byteCells l) rfl HR1.out (cells_one l) (by unfold maxLen; omega) (by omega) B3.out.size ?_; intro v4 w4 hown4 hg4 hor4; have B5 := Lib.hid (B3.out.grown hg4 B3.out.size (fun j hj => by cases hj)); have OA5 := Lib.hid (own_kept OA.out hg4 (fun b _ e => by cases e)); have OW := Lib.hid (And.intro hown4 (HL4.out _ _ hor4)); clear hg4 hown4 hor4)
    | (at_builtin; refine wpList_append_any _ rfl _ _ 23 rfl w.heap.size 5 i0 _ 1 1 Tryz.underlying23 hi hz0 hz1 hz2 rfl (by decide) v4 (0 + n) ([] ++ Lib.byteCells l) rfl OW.out.1 w4.heap.size A2 n2 c2 (Lib.byteCells l2) rfl (HR2.out w4 B5.out) (cells_one l2) (by unfold maxLen; omega) (by omega) B5.out.size ?_; intro v6 w6 hown6 hg6 hor6))
  have hj6 : ∀ k, v4.ownBlock = some k → w.heap.size ≤ k := fun k hk => by
    have := OW.out.2 k hk
    have := B3.out.size
    omega
  have B6 := Lib.hid (B5.out.grown hg6 B5.out.size hj6)
  have OA6 := Lib.hid (own_kept OA5.out hg6 (fun b hb e => by
    have h1 := OW.out.2 b e
    have h2 := (OA.out.lt b hb).2
    omega))
  have O6 : w6.ownsRow w.heap.size 5 1 v6 (n + n2) (Lib.byteCells (l ++ l2)) := by
    have e1 : Lib.byteCells (l ++ l2) = [] ++ Lib.byteCells l ++ Lib.byteCells l2 := by unfold Lib.byteCells; rw [List.map_append]; rfl
    have e2 : n + n2 = 0 + n + n2 := by omega
    rw [e1, e2]
    exact hown6
  obtain ⟨A6, c6, rfl⟩ := own_form O6
  have HG2 := Lib.hid (bchunked_any A6 (n + n2) c6 (l ++ l2) w6 (Lies.of_own O6) (own_cap O6) (by omega) (HM.out.below B6.out hmg) (Nat.lt_of_lt_of_le hmg B6.out.size))
  clear hg6 hown6 hor6 O6 hj6 OW OA5 HR1 HR2 HL4
  refine (HG2.out).mono ?_
  rintro e w7 ⟨vb, rfl, hob, hb7⟩
  obtain ⟨Ab, cb, rfl⟩ := own_form hob
  have B7 := Lib.hid (B6.out.trans (hb7.mono B6.out.size))
  have OA7 := Lib.hid (own_below OA6.out hb7)
  have OB := Lib.hid hob
  clear hb7 hob HG2 OA6
  have hon := chunkA_on l l2
  rw [HAA.out] at hon
  have hlb : (l ++ l2).length = n + n2 := by rw [List.length_append, HLL.out, HLL2.out]
  have hlenb := chunkA_len (l ++ l2)
  rw [hlb] at hlenb ⊢
  obtain ⟨b, hb⟩ : ∃ b, chunkA (l ++ l2) = b := ⟨_, rfl⟩
  have HBB := Lib.hid hb
  rw [hb] at hon hlenb OB ⊢
  have LB := Lib.hid (Lies.of_own OB.out)
  have LA := Lib.hid (Lies.of_own OA7.out)
  have zA := (Nat.le_of_eq rfl : w7.heap.size ≤ w7.heap.size)
  clear hb hlb
  cases a with
  | err z =>
    have hz := chunkA_err HAA.out
    have hbe : b = .err z := hon
    subst hbe
    have hN0 : N = 0 := HN.out.symm
    subst hN0
    clear hon HBB HAA
    rw [show ansE (.err z) = z from rfl]
    rcases hz with rfl | rfl
    all_goals
      go_wp2_with fail
      go_ret
      exact ⟨rfl, B7.out⟩
  | done x q =>
    have hbe : b = .done x (q ++ l2) := hon
    subst hbe
    have hxl : x.length = N := HN.out
    have hq : q.length ≤ n := by
      have := chunk_len _ _ _ _ _ (show chunkG (l.length + 1) 0 l = .done x q from HAA.out)
      rw [HLL.out] at this
      exact this
    have e1 : ((ansN (n + n2) (.done x (q ++ l2)) : Nat) : Int) = ((n - q.length : Nat) : Int) := by
      show ((n + n2 - (q ++ l2).length : Nat) : Int) = _
      rw [List.length_append, HLL2.out]
      congr 1
      omega
    have e2 : ((ansN n (.done x q) : Nat) : Int) = ((n - q.length : Nat) : Int) := rfl
    rw [e1, e2]
    obtain ⟨j, hj⟩ : ∃ j, n - q.length = j := ⟨_, rfl⟩
    rw [hj]
    have hjn : j ≤ n := by omega
    have hE0 : ansE (.done x q) = 0 := rfl
    have hD0 : ansD (.done x q) = true := rfl
    have hE1 : ansE (.done x (q ++ l2)) = 0 := rfl
    have hD1 : ansD (.done x (q ++ l2)) = true := rfl
    have hB1 : ansB (.done x (q ++ l2)) = x := rfl
    have hB0 : ansB (.done x q) = x := rfl
    rw [hB1, hxl] at LB ⊢
    rw [hB0] at LA
    rw [hE0, hD0, hE1, hD1]
    have d1 : ((j : Int) == (j : Int)) = true := beq_iff_eq.2 rfl
    have d2 : decide ((j : Int) ≤ (n : Int)) = true := decide_eq_true (by omega)
    have HSB := Lib.hid (samebytes_any Aa Ab N ca cb w7.heap.size x w7 LA.out LB.out (by omega))
    clear hon HBB HAA hE0 hD0 hE1 hD1 hB1 hB0 e1 e2 hj hq
    go_wp2_with fail
    refine (HSB.out).mono ?_
    rintro e w8 ⟨rfl, q8, rfl⟩
    go_wp2_with fail
    go_ret
    exact ⟨rfl, below_drewN B7.out q8⟩
  | more x =>
    have hxl : x.length = N := HN.out
    have hE0 : ansE (.more x) = 0 := rfl
    have hD0 : ansD (.more x) = false := rfl
    have hN0 : ((ansN n (.more x) : Nat) : Int) = (n : Int) := rfl
    rw [hE0, hD0, hN0]
    have d0 : ((n : Int) == (n : Int)) = true := beq_iff_eq.2 rfl
    clear hE0 hD0 hN0
    have key : (∃ z, b = .err z ∧ (z = 3 ∨ z = 9)) ∨ ∃ k z d, n ≤ k ∧ ansE b = 0 ∧ ansN (n + n2) b = k ∧ ansB b = x ++ z ∧ ansD b = d := by
      cases b with
      | err z => exact .inl ⟨z, rfl, chunkA_err HBB.out⟩
      | more y =>
        obtain ⟨z, hz⟩ := (show ∃ z, y = x ++ z from hon)
        exact .inr ⟨n + n2, z, false, by omega, rfl, rfl, hz, rfl⟩
      | done y q =>
        obtain ⟨⟨z, hz⟩, hq⟩ := (show (∃ z, y = x ++ z) ∧ q.length ≤ l2.length from hon)
        rw [HLL2.out] at hq
        exact .inr ⟨n + n2 - q.length, z, true, by omega, rfl, rfl, hz, rfl⟩
    rcases key with ⟨z, rfl, hz⟩ | ⟨k, z, d, h1, h2, h3, h4, h6⟩
    · clear hon HBB HAA LA LB
      rw [show ansE (.err z) = z from rfl]
      rcases hz with rfl | rfl
      all_goals
        go_wp2_with fail
        go_ret
        exact ⟨rfl, B7.out⟩
    · obtain ⟨M, hM⟩ : ∃ M, (ansB b).length = M := ⟨_, rfl⟩
      have hNM : N ≤ M := by
        rw [← hM, h4, List.length_append, hxl]
        omega
      have hcb : M ≤ cb := by rw [← hM]; exact own_cap OB.out
      have LB2 := lies_cut LB.out (k := N) (by rw [hM]; exact hNM)
      have ht : (ansB b).take N = x := by rw [h4, ← hxl, List.take_left]
      rw [ht] at LB2
      have HSB := Lib.hid (samebytes_any Ab Aa N cb ca w7.heap.size x w7 LB2 LA.out (by omega))
      rw [h2, h3, h6, hM]
      rw [hM] at hlenb
      have d1 : decide ((n : Int) ≤ (k : Int)) = true := decide_eq_true (by omega)
      have d2 : decide ((N : Int) ≤ (M : Int)) = true := decide_eq_true (by omega)
      clear hon HBB HAA LA LB LB2 h2 h3 h4 h6 ht hM OB
      go_wp2_with fail
      refine (HSB.out).mono ?_
      rintro e w8 ⟨rfl, q8, rfl⟩
      go_wp2_with fail
      go_ret
      exact ⟨rfl, below_drewN B7.out q8⟩
end Go.Proofs.YtonlfplloenfcaaGreatDoor
