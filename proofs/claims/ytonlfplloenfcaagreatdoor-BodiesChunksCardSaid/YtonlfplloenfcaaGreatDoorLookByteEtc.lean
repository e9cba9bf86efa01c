/-
  Book: look.
  Book: look.
-/
import Derived.Test.YtonlfplloenfcaaGreatDoorGrowByteEtc
import Derived.Lib.QuietBelow
namespace Go.Proofs.YtonlfplloenfcaaGreatDoor
open Go.RowKit

set_option maxRecDepth 100000 in
set_option maxHeartbeats 2000000 in
theorem lookbyte_any (Bs g ga N cap : Nat) (l L : Nat → Value) (n m : Nat → Nat) (cs : Array Value) (w : World) (hN : N ≤ 100000) (hBs : powG < Bs) (hBw : Bs ≤ w.heap.size) (ht : PowTab w)
    (hB : Blk w g 42 cs) (hv : cs[1]? = some (.slice (some ⟨ga, 0, none⟩) N cap)) (hA : ArrIs w 174 ga N l L m)
    (hR : ∀ j, j < N → Row w Bs 5 1 (L j) (n j + 40) (n j + 40) (mkByte (m j)) ∧ Marked w 5 1 (l j) (n j) (mkByte (m j))) (hn : ∀ j, j < N → n j ≤ 1000000000 ∧ m j ≤ 1000000)
    (hl : ∀ j, j < N → ∃ A c, l j = .slice A (n j) c) :
    Calls Tryz.prog 98 #[.pointer (some ⟨g, 0, none⟩)] w fun e w' => e = .returned (.bool true) ∧ Below w.heap.size w w' := by
  have c0 := (hB.cell 1).trans hv
  have HB := Lib.hid hB
  have HA := Lib.hid hA
  have HR := Lib.hid hR
  have HN := Lib.hid hn
  have HT := Lib.hid ht
  have HL := Lib.hid hl
  clear hB hA hR hn hv ht hl
  go_enter Tryz.func98, Tryz.ntmps98
  go_wp2_with fail
  go_loopw [3] (fun i wr => ∃ k : Nat, k ≤ N ∧ i = .int .i64 k ∧ Below w.heap.size w wr) (fun i _ => N - (intOf i).toNat)
  case atStart => exact ⟨0, Nat.zero_le _, rfl, Below.refl _ _⟩
  case round =>
    obtain ⟨wo, rfl⟩ : ∃ wo : World, wo = wr := ⟨_, rfl⟩
    obtain ⟨k, hk, rfl, hb⟩ := hrel
    have c1 : wo.cell? ⟨g, 1, none⟩ = some (.slice (some ⟨ga, 0, none⟩) N cap) := (hb.cell (p := ⟨g, 1, none⟩) HB.out.lt).trans c0
    by_cases hlt : k < N
    · have hA2 : ArrIs wo 174 ga N l L m := HA.out.same (hb.block ga HA.out.lt)
      obtain ⟨a0, a1, a2⟩ := hA2.at_ hlt
      have hnk := (HN.out k hlt).1
      have hmk := (HN.out k hlt).2
      obtain ⟨A, cp, hlk⟩ := HL.out k hlt
      obtain ⟨bL, cL, hLk, _, hbLlt, _, _⟩ := (HR.out k hlt).1.form (by omega)
      rw [hlk] at a0
      rw [hLk] at a1
      have HLK := Lib.hid hlk
      have HLL := Lib.hid hLk
      have HBL := Lib.hid hb
      have hbk := Blk.new wo 174 #[.slice A (n k) cp, .slice (some ⟨bL, 0, none⟩) (n k + 40) cL, .int .i64 (m k : Int)]
      have HBK := Lib.hid hbk
      clear hA2 hlk hLk hb hbk
      have hne : (((n k + 40 : Nat) : Int) != (n k : Int) + 40) = false := by rw [bne_eq_false_iff_eq]; omega
      go_wp2_with fail
      clear a0 a1 a2 c1 hne
      go_loopw [5] (fun i wi => ∃ q : Nat, q ≤ n k + 40 ∧ i = .int .i64 q ∧ Below (wo.alloc (.cells #[.slice A (n k) cp, .slice (some ⟨bL, 0, none⟩) (n k + 40) cL, .int .i64 (m k : Int)] 174)).heap.size (wo.alloc (.cells #[.slice A (n k) cp, .slice (some ⟨bL, 0, none⟩) (n k + 40) cL, .int .i64 (m k : Int)] 174)) wi)
        (fun i _ => n k + 40 - (intOf i).toNat)
      case atStart => exact ⟨0, by omega, rfl, Below.refl _ _⟩
      case round =>
        obtain ⟨q, hq, rfl, hbi⟩ := hrel
        have hww : Below w.heap.size w wr := (HBL.out.alloc HBL.out.size _).trans (hbi.mono (by have := HBL.out.size; simp; omega))
        have hkq := HBK.out.below hbi (by simp)
        have d0 := hkq.cell 0
        have d1 := hkq.cell 1
        have d2 := hkq.cell 2
        simp at d0 d1 d2
        by_cases hlq : q < n k + 40
        · have hLq : wr.cell? ⟨bL, q, none⟩ = some (.int .u8 (markB (m k))) := by
            have h1 := (HR.out k hlt).1
            rw [HLL.out] at h1
            exact (hww.cell (p := ⟨bL, q, none⟩) hbLlt).trans (h1.cell (j := q) (by omega) (Nat.le_refl _))
          have hpow : PowTab wr := HT.out.below hww (by omega)
          by_cases hqn : q < n k
          · obtain ⟨b, hAb, hlq2⟩ : ∃ b, A = some ⟨b, 0, none⟩ ∧ wr.cell? ⟨b, q, none⟩ = some (.int .u8 (markB (m k))) ∧ b < wr.heap.size := by
              rcases (HR.out k hlt).2 with h0 | ⟨b, cap', e, ⟨cur, hcur⟩, hcell⟩
              · omega
              · rw [HLK.out] at e
                injection e with e _ _
                have hbw : b < w.heap.size := (Array.getElem?_eq_some_iff.1 hcur).1
                exact ⟨b, e, (hww.cell (p := ⟨b, q, none⟩) hbw).trans (hcell q (by omega)), by have := hww.size; omega⟩
            subst hAb
            have hqd : decide ((q : Int) < (n k : Int)) = true := decide_eq_true (by omega)
            have hqd2 : (q : Int) < (n k : Int) := by omega
            have e0 := fun d os => cell_regrown (w := wr) d0 d os
            have e1 := fun d os => cell_regrown (w := wr) d1 d os
            have e2 := fun d os => cell_regrown (w := wr) d2 d os
            have e3 := fun d os => cell_regrown (w := wr) hLq d os
            have e4 := fun d os => cell_regrown (w := wr) hlq2.1 d os
            clear hlq2
            have hp : ∀ d os, PowTab (Sort.grow (redrawn wr d) os) := fun d os => hpow.below (below_regrown wr d os) (by have := hww.size; omega)
            have HBI := Lib.hid hbi
            have HP := Lib.hid hp
            clear hbi hkq hp
            go_wp2_with fail
            clear d0 d1 d2 hLq
            refine wp_region_quiet_below (by kernel_rfl) (by kernel_rfl) ?_
            repeat (any_goals (first | go_big_quiet_step ((go_at_call 161; exact Calls.regrown_of (is_byte_any (m k) hmk _ (HP.out _ _)))) | quiet_step ((go_at_call 161; exact Calls.regrown_of (is_byte_any (m k) hmk _ (HP.out _ _))))))
            refine wpQuiet_nil ?_
            intro _ hw'
            obtain ⟨⟨dq, osq⟩, hw''⟩ := hw'
            subst hw''
            have hbz := (below_regrown wr dq osq)
            have HZ := Lib.hid hbz
            clear hbz
            go_wp2_with fail
            go_roundw
            case rel => exact ⟨q + 1, by omega, by go_num, HBI.out.trans (HZ.out.mono HBI.out.size)⟩
            case measure => simp [intOf]; omega
          · have hqd : decide ((q : Int) < (n k : Int)) = false := decide_eq_false (by omega)
            have hqd2 : ¬ (q : Int) < (n k : Int) := by omega
            have e0 := fun d os => cell_regrown (w := wr) d0 d os
            have e1 := fun d os => cell_regrown (w := wr) d1 d os
            have e2 := fun d os => cell_regrown (w := wr) d2 d os
            have e3 := fun d os => cell_regrown (w := wr) hLq d os
            have hp : ∀ d os, PowTab (Sort.grow (redrawn wr d) os) := fun d os => hpow.below (below_regrown wr d os) (by have := hww.size; omega)
            have HBI := Lib.hid hbi
            have HP := Lib.hid hp
            clear hbi hkq hp
            go_wp2_with fail
            clear d0 d1 d2 hLq
            refine wp_region_quiet_below (by kernel_rfl) (by kernel_rfl) ?_
            repeat (any_goals (first | go_big_quiet_step ((go_at_call 161; exact Calls.regrown_of (is_byte_any (m k) hmk _ (HP.out _ _)))) | quiet_step ((go_at_call 161; exact Calls.regrown_of (is_byte_any (m k) hmk _ (HP.out _ _))))))
            refine wpQuiet_nil ?_
            intro _ hw'
            obtain ⟨⟨dq, osq⟩, hw''⟩ := hw'
            subst hw''
            have hbz := (below_regrown wr dq osq)
            have HZ := Lib.hid hbz
            clear hbz
            go_wp2_with fail
            go_roundw
            case rel => exact ⟨q + 1, by omega, by go_num, HBI.out.trans (HZ.out.mono HBI.out.size)⟩
            case measure => simp [intOf]; omega
        · obtain rfl : q = n k + 40 := by omega
          go_wp2_with fail
          go_roundw
          case rel => exact ⟨k + 1, by omega, by go_num, hww⟩
          case measure => simp [intOf]; omega
    · go_wp2_with fail
      go_ret
      exact ⟨rfl, hb⟩
end Go.Proofs.YtonlfplloenfcaaGreatDoor
namespace Go.Proofs.YtonlfplloenfcaaGreatDoor
open Go.RowKit

set_option maxRecDepth 100000 in
set_option maxHeartbeats 2000000 in
theorem lookfield_any (Bs g ga N cap : Nat) (l L : Nat → Value) (n m : Nat → Nat) (cs : Array Value) (w : World) (hN : N ≤ 100000) (hBs : powG < Bs) (hBw : Bs ≤ w.heap.size) (ht : PowTab w)
    (hB : Blk w g 42 cs) (hv : cs[4]? = some (.slice (some ⟨ga, 0, none⟩) N cap)) (hA : ArrIs w 181 ga N l L m)
    (hR : ∀ j, j < N → Row w Bs 63 2 (L j) (n j + 40) (n j + 40) (mkField (m j)) ∧ Marked w 63 2 (l j) (n j) (mkField (m j))) (hn : ∀ j, j < N → n j ≤ 1000000000 ∧ m j ≤ 1000000)
    (hl : ∀ j, j < N → ∃ A c, l j = .slice A (n j) c) :
    Calls Tryz.prog 101 #[.pointer (some ⟨g, 0, none⟩)] w fun e w' => e = .returned (.bool true) ∧ Below w.heap.size w w' := by
  have c0 := (hB.cell 4).trans hv
  have HB := Lib.hid hB
  have HA := Lib.hid hA
  have HR := Lib.hid hR
  have HN := Lib.hid hn
  have HT := Lib.hid ht
  have HL := Lib.hid hl
  clear hB hA hR hn hv ht hl
  go_enter Tryz.func101, Tryz.ntmps101
  go_wp2_with fail
  go_loopw [3] (fun i wr => ∃ k : Nat, k ≤ N ∧ i = .int .i64 k ∧ Below w.heap.size w wr) (fun i _ => N - (intOf i).toNat)
  case atStart => exact ⟨0, Nat.zero_le _, rfl, Below.refl _ _⟩
  case round =>
    obtain ⟨wo, rfl⟩ : ∃ wo : World, wo = wr := ⟨_, rfl⟩
    obtain ⟨k, hk, rfl, hb⟩ := hrel
    have c1 : wo.cell? ⟨g, 4, none⟩ = some (.slice (some ⟨ga, 0, none⟩) N cap) := (hb.cell (p := ⟨g, 4, none⟩) HB.out.lt).trans c0
    by_cases hlt : k < N
    · have hA2 : ArrIs wo 181 ga N l L m := HA.out.same (hb.block ga HA.out.lt)
      obtain ⟨a0, a1, a2⟩ := hA2.at_ hlt
      have hnk := (HN.out k hlt).1
      have hmk := (HN.out k hlt).2
      obtain ⟨A, cp, hlk⟩ := HL.out k hlt
      obtain ⟨bL, cL, hLk, _, hbLlt, _, _⟩ := (HR.out k hlt).1.form (by omega)
      rw [hlk] at a0
      rw [hLk] at a1
      have HLK := Lib.hid hlk
      have HLL := Lib.hid hLk
      have HBL := Lib.hid hb
      have hbk := Blk.new wo 181 #[.slice A (n k) cp, .slice (some ⟨bL, 0, none⟩) (n k + 40) cL, .int .i64 (m k : Int)]
      have HBK := Lib.hid hbk
      clear hA2 hlk hLk hb hbk
      have hne : (((n k + 40 : Nat) : Int) != (n k : Int) + 40) = false := by rw [bne_eq_false_iff_eq]; omega
      go_wp2_with fail
      clear a0 a1 a2 c1 hne
      go_loopw [5] (fun i wi => ∃ q : Nat, q ≤ n k + 40 ∧ i = .int .i64 q ∧ Below (wo.alloc (.cells #[.slice A (n k) cp, .slice (some ⟨bL, 0, none⟩) (n k + 40) cL, .int .i64 (m k : Int)] 181)).heap.size (wo.alloc (.cells #[.slice A (n k) cp, .slice (some ⟨bL, 0, none⟩) (n k + 40) cL, .int .i64 (m k : Int)] 181)) wi)
        (fun i _ => n k + 40 - (intOf i).toNat)
      case atStart => exact ⟨0, by omega, rfl, Below.refl _ _⟩
      case round =>
        obtain ⟨q, hq, rfl, hbi⟩ := hrel
        have hww : Below w.heap.size w wr := (HBL.out.alloc HBL.out.size _).trans (hbi.mono (by have := HBL.out.size; simp; omega))
        have hkq := HBK.out.below hbi (by simp)
        have d0 := hkq.cell 0
        have d1 := hkq.cell 1
        have d2 := hkq.cell 2
        simp at d0 d1 d2
        by_cases hlq : q < n k + 40
        · have hLq : wr.cell? ⟨bL, q * 2, none⟩ = some (.string (wordB (m k))) ∧ wr.cell? ⟨bL, q * 2 + 1, none⟩ = some (.string ⟨#[]⟩) := by
            have h1 := (HR.out k hlt).1
            rw [HLL.out] at h1
            have h2 := h1.cell (j := q * 2) (by omega) (Nat.le_refl _)
            have h3 := h1.cell (j := q * 2 + 1) (by omega) (Nat.le_refl _)
            rw [mkField_0] at h2
            rw [mkField_1] at h3
            exact ⟨(hww.cell (p := ⟨bL, q * 2, none⟩) hbLlt).trans h2, (hww.cell (p := ⟨bL, q * 2 + 1, none⟩) hbLlt).trans h3⟩
          have hpow : PowTab wr := HT.out.below hww (by omega)
          by_cases hqn : q < n k
          · obtain ⟨b, hAb, hlq2⟩ : ∃ b, A = some ⟨b, 0, none⟩ ∧ (wr.cell? ⟨b, q * 2, none⟩ = some (.string (wordB (m k))) ∧ wr.cell? ⟨b, q * 2 + 1, none⟩ = some (.string ⟨#[]⟩)) ∧ b < wr.heap.size := by
              rcases (HR.out k hlt).2 with h0 | ⟨b, cap', e, ⟨cur, hcur⟩, hcell⟩
              · omega
              · rw [HLK.out] at e
                injection e with e _ _
                have hbw : b < w.heap.size := (Array.getElem?_eq_some_iff.1 hcur).1
                have h2 := hcell (q * 2) (by omega)
                have h3 := hcell (q * 2 + 1) (by omega)
                rw [mkField_0] at h2
                rw [mkField_1] at h3
                exact ⟨b, e, ⟨(hww.cell (p := ⟨b, q * 2, none⟩) hbw).trans h2, (hww.cell (p := ⟨b, q * 2 + 1, none⟩) hbw).trans h3⟩, by have := hww.size; omega⟩
            subst hAb
            have hqd : decide ((q : Int) < (n k : Int)) = true := decide_eq_true (by omega)
            have hqd2 : (q : Int) < (n k : Int) := by omega
            have e0 := fun d os => cell_regrown (w := wr) d0 d os
            have e1 := fun d os => cell_regrown (w := wr) d1 d os
            have e2 := fun d os => cell_regrown (w := wr) d2 d os
            have e3 := fun d os => cell_regrown (w := wr) hLq.1 d os
            have e3b := fun d os => cell_regrown (w := wr) hLq.2 d os
            have e4 := fun d os => cell_regrown (w := wr) hlq2.1.1 d os
            have e4b := fun d os => cell_regrown (w := wr) hlq2.1.2 d os
            clear hlq2
            have hp : ∀ d os, PowTab (Sort.grow (redrawn wr d) os) := fun d os => hpow.below (below_regrown wr d os) (by have := hww.size; omega)
            have HBI := Lib.hid hbi
            have HP := Lib.hid hp
            clear hbi hkq hp
            go_wp2_with fail
            clear d0 d1 d2 hLq
            refine wp_region_quiet_below (by kernel_rfl) (by kernel_rfl) ?_
            repeat (any_goals (first | go_big_quiet_step ((go_at_call 164; exact Calls.regrown_of (is_field_any (m k) _ hmk _ (HP.out _ _)))) | quiet_step ((go_at_call 164; exact Calls.regrown_of (is_field_any (m k) _ hmk _ (HP.out _ _))))))
            refine wpQuiet_nil ?_
            intro _ hw'
            obtain ⟨⟨dq, osq⟩, hw''⟩ := hw'
            subst hw''
            have hbz := (below_regrown wr dq osq)
            have HZ := Lib.hid hbz
            clear hbz
            go_wp2_with fail
            go_roundw
            case rel => exact ⟨q + 1, by omega, by go_num, HBI.out.trans (HZ.out.mono HBI.out.size)⟩
            case measure => simp [intOf]; omega
          · have hqd : decide ((q : Int) < (n k : Int)) = false := decide_eq_false (by omega)
            have hqd2 : ¬ (q : Int) < (n k : Int) := by omega
            have e0 := fun d os => cell_regrown (w := wr) d0 d os
            have e1 := fun d os => cell_regrown (w := wr) d1 d os
            have e2 := fun d os => cell_regrown (w := wr) d2 d os
            have e3 := fun d os => cell_regrown (w := wr) hLq.1 d os
            have e3b := fun d os => cell_regrown (w := wr) hLq.2 d os
            have hp : ∀ d os, PowTab (Sort.grow (redrawn wr d) os) := fun d os => hpow.below (below_regrown wr d os) (by have := hww.size; omega)
            have HBI := Lib.hid hbi
            have HP := Lib.hid hp
            clear hbi hkq hp
            go_wp2_with fail
            clear d0 d1 d2 hLq
            refine wp_region_quiet_below (by kernel_rfl) (by kernel_rfl) ?_
            repeat (any_goals (first | go_big_quiet_step ((go_at_call 164; exact Calls.regrown_of (is_field_any (m k) _ hmk _ (HP.out _ _)))) | quiet_step ((go_at_call 164; exact Calls.regrown_of (is_field_any (m k) _ hmk _ (HP.out _ _))))))
            refine wpQuiet_nil ?_
            intro _ hw'
            obtain ⟨⟨dq, osq⟩, hw''⟩ := hw'
            subst hw''
            have hbz := (below_regrown wr dq osq)
            have HZ := Lib.hid hbz
            clear hbz
            go_wp2_with fail
            go_roundw
            case rel => exact ⟨q + 1, by omega, by go_num, HBI.out.trans (HZ.out.mono HBI.out.size)⟩
            case measure => simp [intOf]; omega
        · obtain rfl : q = n k + 40 := by omega
          go_wp2_with fail
          go_roundw
          case rel => exact ⟨k + 1, by omega, by go_num, hww⟩
          case measure => simp [intOf]; omega
    · go_wp2_with fail
      go_ret
      exact ⟨rfl, hb⟩
end Go.Proofs.YtonlfplloenfcaaGreatDoor
