/-
  (Second form, of bookc.py: rows may be full fronts of longer blocks.)
  Book: look.
  (Second form, of bookc.py: rows may be full fronts of longer blocks.)
  Book: look.
  (Second form, of bookc.py: rows may be full fronts of longer blocks.)
  Book: look.
  (Second form, of bookc.py: rows may be full fronts of longer blocks.)
  Book.Apart: lists that share no memory are told to be apart. (Written by apart.py.)
  A book of bytes and fields: what it holds, and which blocks it stands in: its own ones and those of its rows.
-/
import Derived.Test.YtonlfplloenfcaaGreatDoorGrowCEtc
import Derived.Lib.QuietBelow
import Derived.Test.YtonlfplloenfcaaGreatDoorHeldCEtc
import Derived.Test.YtonlfplloenfcaaGreatDoorBookEtc
import Derived.Test.YtonlfplloenfcaaGreatDoorNamesEtc
namespace Go.Proofs.YtonlfplloenfcaaGreatDoor.C
open Go.RowKit

set_option maxRecDepth 100000 in
set_option maxHeartbeats 2000000 in
theorem looktext_any (Bs g ga N cap : Nat) (l L : Nat → Value) (n m : Nat → Nat) (cs : Array Value) (w : World) (hN : N ≤ 100000) (hBs : powG < Bs) (hBw : Bs ≤ w.heap.size) (ht : PowTab w)
    (hB : Blk w g 42 cs) (hv : cs[3]? = some (.slice (some ⟨ga, 0, none⟩) N cap)) (hA : ArrIs w 179 ga N l L m)
    (hR : ∀ j, j < N → Row w Bs 9 1 (L j) (n j + 40) (n j + 40) (mkText (m j)) ∧ Marked w 9 1 (l j) (n j) (mkText (m j))) (hn : ∀ j, j < N → n j ≤ 1000000000 ∧ m j ≤ 1000000)
    (hl : ∀ j, j < N → ∃ A c, l j = .slice A (n j) c) :
    Calls Tryz.prog 100 #[.pointer (some ⟨g, 0, none⟩)] w fun e w' => e = .returned (.bool true) ∧ Below w.heap.size w w' := by
  have c0 := (hB.cell 3).trans hv
  have HB := Lib.hid hB
  have HA := Lib.hid hA
  have HR := Lib.hid hR
  have HN := Lib.hid hn
  have HT := Lib.hid ht
  have HL := Lib.hid hl
  clear hB hA hR hn hv ht hl
  go_enter Tryz.func100, Tryz.ntmps100
  go_wp2_with fail
  go_loopw [3] (fun i wr => ∃ k : Nat, k ≤ N ∧ i = .int .i64 k ∧ Below w.heap.size w wr) (fun i _ => N - (intOf i).toNat)
  case atStart => exact ⟨0, Nat.zero_le _, rfl, Below.refl _ _⟩
  case round =>
    obtain ⟨wo, rfl⟩ : ∃ wo : World, wo = wr := ⟨_, rfl⟩
    obtain ⟨k, hk, rfl, hb⟩ := hrel
    have c1 : wo.cell? ⟨g, 3, none⟩ = some (.slice (some ⟨ga, 0, none⟩) N cap) := (hb.cell (p := ⟨g, 3, none⟩) HB.out.lt).trans c0
    by_cases hlt : k < N
    · have hA2 : ArrIs wo 179 ga N l L m := HA.out.same (hb.block ga HA.out.lt)
      obtain ⟨a0, a1, a2⟩ := hA2.at_ hlt
      have hnk := (HN.out k hlt).1
      have hmk := (HN.out k hlt).2
      obtain ⟨A, cp, hlk⟩ := HL.out k hlt
      obtain ⟨bL, cL, hLk, _, hbLlt, _, _⟩ := (HR.out k hlt).1.form (by omega)
      rw [hlk] at a0
      rw [hLk] at a1
      have HLK := Lib.hid hlk
      have HLL := Lib.hid hLk
      have HBL := Lib.hid hb
      have hbk := Blk.new wo 179 #[.slice A (n k) cp, .slice (some ⟨bL, 0, none⟩) (n k + 40) cL, .int .i64 (m k : Int)]
      have HBK := Lib.hid hbk
      clear hA2 hlk hLk hb hbk
      have hne : (((n k + 40 : Nat) : Int) != (n k : Int) + 40) = false := by rw [bne_eq_false_iff_eq]; omega
      go_wp2_with fail
      clear a0 a1 a2 c1 hne
      go_loopw [5] (fun i wi => ∃ q : Nat, q ≤ n k + 40 ∧ i = .int .i64 q ∧ Below (wo.alloc (.cells #[.slice A (n k) cp, .slice (some ⟨bL, 0, none⟩) (n k + 40) cL, .int .i64 (m k : Int)] 179)).heap.size (wo.alloc (.cells #[.slice A (n k) cp, .slice (some ⟨bL, 0, none⟩) (n k + 40) cL, .int .i64 (m k : Int)] 179)) wi)
        (fun i _ => n k + 40 - (intOf i).toNat)
      case atStart => exact ⟨0, by omega, rfl, Below.refl _ _⟩
      case round =>
        obtain ⟨q, hq, rfl, hbi⟩ := hrel
        have hww : Below w.heap.size w wr := (HBL.out.alloc HBL.out.size _).trans (hbi.mono (by have := HBL.out.size; simp; omega))
        have hkq := HBK.out.below hbi (by simp)
        have d0 := hkq.cell 0
        have d1 := hkq.cell 1
        have d2 := hkq.cell 2
        simp at d0 d1 d2
        by_cases hlq : q < n k + 40
        · have hLq : wr.cell? ⟨bL, q, none⟩ = some (.string (wordB (m k))) := by
            have h1 := (HR.out k hlt).1
            rw [HLL.out] at h1
            exact (hww.cell (p := ⟨bL, q, none⟩) hbLlt).trans (h1.cell (j := q) (by omega) (Nat.le_refl _))
          have hpow : PowTab wr := HT.out.below hww (by omega)
          by_cases hqn : q < n k
          · obtain ⟨b, hAb, hlq2⟩ : ∃ b, A = some ⟨b, 0, none⟩ ∧ wr.cell? ⟨b, q, none⟩ = some (.string (wordB (m k))) ∧ b < wr.heap.size := by
              rcases (HR.out k hlt).2 with h0 | ⟨b, cap', e, ⟨cur, hcur⟩, hcell⟩
              · omega
              · rw [HLK.out] at e
                injection e with e _ _
                have hbw : b < w.heap.size := (Array.getElem?_eq_some_iff.1 hcur).1
                exact ⟨b, e, (hww.cell (p := ⟨b, q, none⟩) hbw).trans (hcell q (by omega)), by have := hww.size; omega⟩
            subst hAb
            have hqd : decide ((q : Int) < (n k : Int)) = true := decide_eq_true (by omega)
            have hqd2 : (q : Int) < (n k : Int) := by omega
            have e0 := fun d os => cell_regrown (w := wr) d0 d os
            have e1 := fun d os => cell_regrown (w := wr) d1 d os
            have e2 := fun d os => cell_regrown (w := wr) d2 d os
            have e3 := fun d os => cell_regrown (w := wr) hLq d os
            have e4 := fun d os => cell_regrown (w := wr) hlq2.1 d os
            clear hlq2
            have hp : ∀ d os, PowTab (Sort.grow (redrawn wr d) os) := fun d os => hpow.below (below_regrown wr d os) (by have := hww.size; omega)
            have HBI := Lib.hid hbi
            have HP := Lib.hid hp
            clear hbi hkq hp
            go_wp2_with fail
            clear d0 d1 d2 hLq
            refine wp_region_quiet_below (by kernel_rfl) (by kernel_rfl) ?_
            repeat (any_goals (first | go_big_quiet_step ((go_at_call 163; exact Calls.regrown_of (is_text_any (m k) hmk _ (HP.out _ _)))) | quiet_step ((go_at_call 163; exact Calls.regrown_of (is_text_any (m k) hmk _ (HP.out _ _))))))
            refine wpQuiet_nil ?_
            intro _ hw'
            obtain ⟨⟨dq, osq⟩, hw''⟩ := hw'
            subst hw''
            have hbz := (below_regrown wr dq osq)
            have HZ := Lib.hid hbz
            clear hbz
            go_wp2_with fail
            go_roundw
            case rel => exact ⟨q + 1, by omega, by go_num, HBI.out.trans (HZ.out.mono HBI.out.size)⟩
            case measure => simp [intOf]; omega
          · have hqd : decide ((q : Int) < (n k : Int)) = false := decide_eq_false (by omega)
            have hqd2 : ¬ (q : Int) < (n k : Int) := by omega
            have e0 := fun d os => cell_regrown (w := wr) d0 d os
            have e1 := fun d os => cell_regrown (w := wr) d1 d os
            have e2 := fun d os => cell_regrown (w := wr) d2 d os
            have e3 := fun d os => cell_regrown (w := wr) hLq d os
            have hp : ∀ d os, PowTab (Sort.grow (redrawn wr d) os) := fun d os => hpow.below (below_regrown wr d os) (by have := hww.size; omega)
            have HBI := Lib.hid hbi
            have HP := Lib.hid hp
            clear hbi hkq hp
            go_wp2_with fail
            clear d0 d1 d2 hLq
            refine wp_region_quiet_below (by kernel_rfl) (by kernel_rfl) ?_
            repeat (any_goals (first | go_big_quiet_step ((go_at_call 163; exact Calls.regrown_of (is_text_any (m k) hmk _ (HP.out _ _)))) | quiet_step ((go_at_call 163; exact Calls.regrown_of (is_text_any (m k) hmk _ (HP.out _ _))))))
            refine wpQuiet_nil ?_
            intro _ hw'
            obtain ⟨⟨dq, osq⟩, hw''⟩ := hw'
            subst hw''
            have hbz := (below_regrown wr dq osq)
            have HZ := Lib.hid hbz
            clear hbz
            go_wp2_with fail
            go_roundw
            case rel => exact ⟨q + 1, by omega, by go_num, HBI.out.trans (HZ.out.mono HBI.out.size)⟩
            case measure => simp [intOf]; omega
        · obtain rfl : q = n k + 40 := by omega
          go_wp2_with fail
          go_roundw
          case rel => exact ⟨k + 1, by omega, by go_num, hww⟩
          case measure => simp [intOf]; omega
    · go_wp2_with fail
      go_ret
      exact ⟨rfl, hb⟩
end Go.Proofs.YtonlfplloenfcaaGreatDoor.C
namespace Go.Proofs.YtonlfplloenfcaaGreatDoor.C
open Go.RowKit

set_option maxRecDepth 100000 in
set_option maxHeartbeats 2000000 in
theorem lookbyte_any (Bs g ga N cap : Nat) (l L : Nat → Value) (n m : Nat → Nat) (cs : Array Value) (w : World) (hN : N ≤ 100000) (hBs : powG < Bs) (hBw : Bs ≤ w.heap.size) (ht : PowTab w)
    (hB : Blk w g 42 cs) (hv : cs[1]? = some (.slice (some ⟨ga, 0, none⟩) N cap)) (hA : ArrIs w 174 ga N l L m)
    (hR : ∀ j, j < N → Row w Bs 5 1 (L j) (n j + 40) (n j + 40) (mkByte (m j)) ∧ Marked w 5 1 (l j) (n j) (mkByte (m j))) (hn : ∀ j, j < N → n j ≤ 1000000000 ∧ m j ≤ 1000000)
    (hl : ∀ j, j < N → ∃ A c, l j = .slice A (n j) c) :
    Calls Tryz.prog 98 #[.pointer (some ⟨g, 0, none⟩)] w fun e w' => e = .returned (.bool true) ∧ Below w.heap.size w w' := by
  have c0 := (hB.cell 1).trans hv
  have HB := Lib.hid hB
  have HA := Lib.hid hA
  have HR := Lib.hid hR
  have HN := Lib.hid hn
  have HT := Lib.hid ht
  have HL := Lib.hid hl
  clear hB hA hR hn hv ht hl
  go_enter Tryz.func98, Tryz.ntmps98
  go_wp2_with fail
  go_loopw [3] (fun i wr => ∃ k : Nat, k ≤ N ∧ i = .int .i64 k ∧ Below w.heap.size w wr) (fun i _ => N - (intOf i).toNat)
  case atStart => exact ⟨0, Nat.zero_le _, rfl, Below.refl _ _⟩
  case round =>
    obtain ⟨wo, rfl⟩ : ∃ wo : World, wo = wr := ⟨_, rfl⟩
    obtain ⟨k, hk, rfl, hb⟩ := hrel
    have c1 : wo.cell? ⟨g, 1, none⟩ = some (.slice (some ⟨ga, 0, none⟩) N cap) := (hb.cell (p := ⟨g, 1, none⟩) HB.out.lt).trans c0
    by_cases hlt : k < N
    · have hA2 : ArrIs wo 174 ga N l L m := HA.out.same (hb.block ga HA.out.lt)
      obtain ⟨a0, a1, a2⟩ := hA2.at_ hlt
      have hnk := (HN.out k hlt).1
      have hmk := (HN.out k hlt).2
      obtain ⟨A, cp, hlk⟩ := HL.out k hlt
      obtain ⟨bL, cL, hLk, _, hbLlt, _, _⟩ := (HR.out k hlt).1.form (by omega)
      rw [hlk] at a0
      rw [hLk] at a1
      have HLK := Lib.hid hlk
      have HLL := Lib.hid hLk
      have HBL := Lib.hid hb
      have hbk := Blk.new wo 174 #[.slice A (n k) cp, .slice (some ⟨bL, 0, none⟩) (n k + 40) cL, .int .i64 (m k : Int)]
      have HBK := Lib.hid hbk
      clear hA2 hlk hLk hb hbk
      have hne : (((n k + 40 : Nat) : Int) != (n k : Int) + 40) = false := by rw [bne_eq_false_iff_eq]; omega
      go_wp2_with fail
      clear a0 a1 a2 c1 hne
      go_loopw [5] (fun i wi => ∃ q : Nat, q ≤ n k + 40 ∧ i = .int .i64 q ∧ Below (wo.alloc (.cells #[.slice A (n k) cp, .slice (some ⟨bL, 0, none⟩) (n k + 40) cL, .int .i64 (m k : Int)] 174)).heap.size (wo.alloc (.cells #[.slice A (n k) cp, .slice (some ⟨bL, 0, none⟩) (n k + 40) cL, .int .i64 (m k : Int)] 174)) wi)
        (fun i _ => n k + 40 - (intOf i).toNat)
      case atStart => exact ⟨0, by omega, rfl, Below.refl _ _⟩
      case round =>
        obtain ⟨q, hq, rfl, hbi⟩ := hrel
        have hww : Below w.heap.size w wr := (HBL.out.alloc HBL.out.size _).trans (hbi.mono (by have := HBL.out.size; simp; omega))
        have hkq := HBK.out.below hbi (by simp)
        have d0 := hkq.cell 0
        have d1 := hkq.cell 1
        have d2 := hkq.cell 2
        simp at d0 d1 d2
        by_cases hlq : q < n k + 40
        · have hLq : wr.cell? ⟨bL, q, none⟩ = some (.int .u8 (markB (m k))) := by
            have h1 := (HR.out k hlt).1
            rw [HLL.out] at h1
            exact (hww.cell (p := ⟨bL, q, none⟩) hbLlt).trans (h1.cell (j := q) (by omega) (Nat.le_refl _))
          have hpow : PowTab wr := HT.out.below hww (by omega)
          by_cases hqn : q < n k
          · obtain ⟨b, hAb, hlq2⟩ : ∃ b, A = some ⟨b, 0, none⟩ ∧ wr.cell? ⟨b, q, none⟩ = some (.int .u8 (markB (m k))) ∧ b < wr.heap.size := by
              rcases (HR.out k hlt).2 with h0 | ⟨b, cap', e, ⟨cur, hcur⟩, hcell⟩
              · omega
              · rw [HLK.out] at e
                injection e with e _ _
                have hbw : b < w.heap.size := (Array.getElem?_eq_some_iff.1 hcur).1
                exact ⟨b, e, (hww.cell (p := ⟨b, q, none⟩) hbw).trans (hcell q (by omega)), by have := hww.size; omega⟩
            subst hAb
            have hqd : decide ((q : Int) < (n k : Int)) = true := decide_eq_true (by omega)
            have hqd2 : (q : Int) < (n k : Int) := by omega
            have e0 := fun d os => cell_regrown (w := wr) d0 d os
            have e1 := fun d os => cell_regrown (w := wr) d1 d os
            have e2 := fun d os => cell_regrown (w := wr) d2 d os
            have e3 := fun d os => cell_regrown (w := wr) hLq d os
            have e4 := fun d os => cell_regrown (w := wr) hlq2.1 d os
            clear hlq2
            have hp : ∀ d os, PowTab (Sort.grow (redrawn wr d) os) := fun d os => hpow.below (below_regrown wr d os) (by have := hww.size; omega)
            have HBI := Lib.hid hbi
            have HP := Lib.hid hp
            clear hbi hkq hp
            go_wp2_with fail
            clear d0 d1 d2 hLq
            refine wp_region_quiet_below (by kernel_rfl) (by kernel_rfl) ?_
            repeat (any_goals (first | go_big_quiet_step ((go_at_call 161; exact Calls.regrown_of (is_byte_any (m k) hmk _ (HP.out _ _)))) | quiet_step ((go_at_call 161; exact Calls.regrown_of (is_byte_any (m k) hmk _ (HP.out _ _))))))
            refine wpQuiet_nil ?_
            intro _ hw'
            obtain ⟨⟨dq, osq⟩, hw''⟩ := hw'
            subst hw''
            have hbz := (below_regrown wr dq osq)
            have HZ := Lib.hid hbz
            clear hbz
            go_wp2_with fail
            go_roundw
            case rel => exact ⟨q + 1, by omega, by go_num, HBI.out.trans (HZ.out.mono HBI.out.size)⟩
            case measure => simp [intOf]; omega
          · have hqd : decide ((q : Int) < (n k : Int)) = false := decide_eq_false (by omega)
            have hqd2 : ¬ (q : Int) < (n k : Int) := by omega
            have e0 := fun d os => cell_regrown (w := wr) d0 d os
            have e1 := fun d os => cell_regrown (w := wr) d1 d os
            have e2 := fun d os => cell_regrown (w := wr) d2 d os
            have e3 := fun d os => cell_regrown (w := wr) hLq d os
            have hp : ∀ d os, PowTab (Sort.grow (redrawn wr d) os) := fun d os => hpow.below (below_regrown wr d os) (by have := hww.size; omega)
            have HBI := Lib.hid hbi
            have HP := Lib.hid hp
            clear hbi hkq hp
            go_wp2_with fail
            clear d0 d1 d2 hLq
            refine wp_region_quiet_below (by kernel_rfl) (by kernel_rfl) ?_
            repeat (any_goals (first | go_big_quiet_step ((go_at_call 161; exact Calls.regrown_of (is_byte_any (m k) hmk _ (HP.out _ _)))) | quiet_step ((go_at_call 161; exact Calls.regrown_of (is_byte_any (m k) hmk _ (HP.out _ _))))))
            refine wpQuiet_nil ?_
            intro _ hw'
            obtain ⟨⟨dq, osq⟩, hw''⟩ := hw'
            subst hw''
            have hbz := (below_regrown wr dq osq)
            have HZ := Lib.hid hbz
            clear hbz
            go_wp2_with fail
            go_roundw
            case rel => exact ⟨q + 1, by omega, by go_num, HBI.out.trans (HZ.out.mono HBI.out.size)⟩
            case measure => simp [intOf]; omega
        · obtain rfl : q = n k + 40 := by omega
          go_wp2_with fail
          go_roundw
          case rel => exact ⟨k + 1, by omega, by go_num, hww⟩
          case measure => simp [intOf]; omega
    · go_wp2_with fail
      go_ret
      exact ⟨rfl, hb⟩
end Go.Proofs.YtonlfplloenfcaaGreatDoor.C
namespace Go.Proofs.YtonlfplloenfcaaGreatDoor.C
open Go.RowKit

set_option maxRecDepth 100000 in
set_option maxHeartbeats 2000000 in
theorem lookfield_any (Bs g ga N cap : Nat) (l L : Nat → Value) (n m : Nat → Nat) (cs : Array Value) (w : World) (hN : N ≤ 100000) (hBs : powG < Bs) (hBw : Bs ≤ w.heap.size) (ht : PowTab w)
    (hB : Blk w g 42 cs) (hv : cs[4]? = some (.slice (some ⟨ga, 0, none⟩) N cap)) (hA : ArrIs w 181 ga N l L m)
    (hR : ∀ j, j < N → Row w Bs 63 2 (L j) (n j + 40) (n j + 40) (mkField (m j)) ∧ Marked w 63 2 (l j) (n j) (mkField (m j))) (hn : ∀ j, j < N → n j ≤ 1000000000 ∧ m j ≤ 1000000)
    (hl : ∀ j, j < N → ∃ A c, l j = .slice A (n j) c) :
    Calls Tryz.prog 101 #[.pointer (some ⟨g, 0, none⟩)] w fun e w' => e = .returned (.bool true) ∧ Below w.heap.size w w' := by
  have c0 := (hB.cell 4).trans hv
  have HB := Lib.hid hB
  have HA := Lib.hid hA
  have HR := Lib.hid hR
  have HN := Lib.hid hn
  have HT := Lib.hid ht
  have HL := Lib.hid hl
  clear hB hA hR hn hv ht hl
  go_enter Tryz.func101, Tryz.ntmps101
  go_wp2_with fail
  go_loopw [3] (fun i wr => ∃ k : Nat, k ≤ N ∧ i = .int .i64 k ∧ Below w.heap.size w wr) (fun i _ => N - (intOf i).toNat)
  case atStart => exact ⟨0, Nat.zero_le _, rfl, Below.refl _ _⟩
  case round =>
    obtain ⟨wo, rfl⟩ : ∃ wo : World, wo = wr := ⟨_, rfl⟩
    obtain ⟨k, hk, rfl, hb⟩ := hrel
    have c1 : wo.cell? ⟨g, 4, none⟩ = some (.slice (some ⟨ga, 0, none⟩) N cap) := (hb.cell (p := ⟨g, 4, none⟩) HB.out.lt).trans c0
    by_cases hlt : k < N
    · have hA2 : ArrIs wo 181 ga N l L m := HA.out.same (hb.block ga HA.out.lt)
      obtain ⟨a0, a1, a2⟩ := hA2.at_ hlt
      have hnk := (HN.out k hlt).1
      have hmk := (HN.out k hlt).2
      obtain ⟨A, cp, hlk⟩ := HL.out k hlt
      obtain ⟨bL, cL, hLk, _, hbLlt, _, _⟩ := (HR.out k hlt).1.form (by omega)
      rw [hlk] at a0
      rw [hLk] at a1
      have HLK := Lib.hid hlk
      have HLL := Lib.hid hLk
      have HBL := Lib.hid hb
      have hbk := Blk.new wo 181 #[.slice A (n k) cp, .slice (some ⟨bL, 0, none⟩) (n k + 40) cL, .int .i64 (m k : Int)]
      have HBK := Lib.hid hbk
      clear hA2 hlk hLk hb hbk
      have hne : (((n k + 40 : Nat) : Int) != (n k : Int) + 40) = false := by rw [bne_eq_false_iff_eq]; omega
      go_wp2_with fail
      clear a0 a1 a2 c1 hne
      go_loopw [5] (fun i wi => ∃ q : Nat, q ≤ n k + 40 ∧ i = .int .i64 q ∧ Below (wo.alloc (.cells #[.slice A (n k) cp, .slice (some ⟨bL, 0, none⟩) (n k + 40) cL, .int .i64 (m k : Int)] 181)).heap.size (wo.alloc (.cells #[.slice A (n k) cp, .slice (some ⟨bL, 0, none⟩) (n k + 40) cL, .int .i64 (m k : Int)] 181)) wi)
        (fun i _ => n k + 40 - (intOf i).toNat)
      case atStart => exact ⟨0, by omega, rfl, Below.refl _ _⟩
      case round =>
        obtain ⟨q, hq, rfl, hbi⟩ := hrel
        have hww : Below w.heap.size w wr := (HBL.out.alloc HBL.out.size _).trans (hbi.mono (by have := HBL.out.size; simp; omega))
        have hkq := HBK.out.below hbi (by simp)
        have d0 := hkq.cell 0
        have d1 := hkq.cell 1
        have d2 := hkq.cell 2
        simp at d0 d1 d2
        by_cases hlq : q < n k + 40
        · have hLq : wr.cell? ⟨bL, q * 2, none⟩ = some (.string (wordB (m k))) ∧ wr.cell? ⟨bL, q * 2 + 1, none⟩ = some (.string ⟨#[]⟩) := by
            have h1 := (HR.out k hlt).1
            rw [HLL.out] at h1
            have h2 := h1.cell (j := q * 2) (by omega) (Nat.le_refl _)
            have h3 := h1.cell (j := q * 2 + 1) (by omega) (Nat.le_refl _)
            rw [mkField_0] at h2
            rw [mkField_1] at h3
            exact ⟨(hww.cell (p := ⟨bL, q * 2, none⟩) hbLlt).trans h2, (hww.cell (p := ⟨bL, q * 2 + 1, none⟩) hbLlt).trans h3⟩
          have hpow : PowTab wr := HT.out.below hww (by omega)
          by_cases hqn : q < n k
          · obtain ⟨b, hAb, hlq2⟩ : ∃ b, A = some ⟨b, 0, none⟩ ∧ (wr.cell? ⟨b, q * 2, none⟩ = some (.string (wordB (m k))) ∧ wr.cell? ⟨b, q * 2 + 1, none⟩ = some (.string ⟨#[]⟩)) ∧ b < wr.heap.size := by
              rcases (HR.out k hlt).2 with h0 | ⟨b, cap', e, ⟨cur, hcur⟩, hcell⟩
              · omega
              · rw [HLK.out] at e
                injection e with e _ _
                have hbw : b < w.heap.size := (Array.getElem?_eq_some_iff.1 hcur).1
                have h2 := hcell (q * 2) (by omega)
                have h3 := hcell (q * 2 + 1) (by omega)
                rw [mkField_0] at h2
                rw [mkField_1] at h3
                exact ⟨b, e, ⟨(hww.cell (p := ⟨b, q * 2, none⟩) hbw).trans h2, (hww.cell (p := ⟨b, q * 2 + 1, none⟩) hbw).trans h3⟩, by have := hww.size; omega⟩
            subst hAb
            have hqd : decide ((q : Int) < (n k : Int)) = true := decide_eq_true (by omega)
            have hqd2 : (q : Int) < (n k : Int) := by omega
            have e0 := fun d os => cell_regrown (w := wr) d0 d os
            have e1 := fun d os => cell_regrown (w := wr) d1 d os
            have e2 := fun d os => cell_regrown (w := wr) d2 d os
            have e3 := fun d os => cell_regrown (w := wr) hLq.1 d os
            have e3b := fun d os => cell_regrown (w := wr) hLq.2 d os
            have e4 := fun d os => cell_regrown (w := wr) hlq2.1.1 d os
            have e4b := fun d os => cell_regrown (w := wr) hlq2.1.2 d os
            clear hlq2
            have hp : ∀ d os, PowTab (Sort.grow (redrawn wr d) os) := fun d os => hpow.below (below_regrown wr d os) (by have := hww.size; omega)
            have HBI := Lib.hid hbi
            have HP := Lib.hid hp
            clear hbi hkq hp
            go_wp2_with fail
            clear d0 d1 d2 hLq
            refine wp_region_quiet_below (by kernel_rfl) (by kernel_rfl) ?_
            repeat (any_goals (first | go_big_quiet_step ((go_at_call 164; exact Calls.regrown_of (is_field_any (m k) _ hmk _ (HP.out _ _)))) | quiet_step ((go_at_call 164; exact Calls.regrown_of (is_field_any (m k) _ hmk _ (HP.out _ _))))))
            refine wpQuiet_nil ?_
            intro _ hw'
            obtain ⟨⟨dq, osq⟩, hw''⟩ := hw'
            subst hw''
            have hbz := (below_regrown wr dq osq)
            have HZ := Lib.hid hbz
            clear hbz
            go_wp2_with fail
            go_roundw
            case rel => exact ⟨q + 1, by omega, by go_num, HBI.out.trans (HZ.out.mono HBI.out.size)⟩
            case measure => simp [intOf]; omega
          · have hqd : decide ((q : Int) < (n k : Int)) = false := decide_eq_false (by omega)
            have hqd2 : ¬ (q : Int) < (n k : Int) := by omega
            have e0 := fun d os => cell_regrown (w := wr) d0 d os
            have e1 := fun d os => cell_regrown (w := wr) d1 d os
            have e2 := fun d os => cell_regrown (w := wr) d2 d os
            have e3 := fun d os => cell_regrown (w := wr) hLq.1 d os
            have e3b := fun d os => cell_regrown (w := wr) hLq.2 d os
            have hp : ∀ d os, PowTab (Sort.grow (redrawn wr d) os) := fun d os => hpow.below (below_regrown wr d os) (by have := hww.size; omega)
            have HBI := Lib.hid hbi
            have HP := Lib.hid hp
            clear hbi hkq hp
            go_wp2_with fail
            clear d0 d1 d2 hLq
            refine wp_region_quiet_below (by kernel_rfl) (by kernel_rfl) ?_
            repeat (any_goals (first | go_big_quiet_step ((go_at_call 164; exact Calls.regrown_of (is_field_any (m k) _ hmk _ (HP.out _ _)))) | quiet_step ((go_at_call 164; exact Calls.regrown_of (is_field_any (m k) _ hmk _ (HP.out _ _))))))
            refine wpQuiet_nil ?_
            intro _ hw'
            obtain ⟨⟨dq, osq⟩, hw''⟩ := hw'
            subst hw''
            have hbz := (below_regrown wr dq osq)
            have HZ := Lib.hid hbz
            clear hbz
            go_wp2_with fail
            go_roundw
            case rel => exact ⟨q + 1, by omega, by go_num, HBI.out.trans (HZ.out.mono HBI.out.size)⟩
            case measure => simp [intOf]; omega
        · obtain rfl : q = n k + 40 := by omega
          go_wp2_with fail
          go_roundw
          case rel => exact ⟨k + 1, by omega, by go_num, hww⟩
          case measure => simp [intOf]; omega
    · go_wp2_with fail
      go_ret
      exact ⟨rfl, hb⟩
end Go.Proofs.YtonlfplloenfcaaGreatDoor.C
namespace Go.Proofs.YtonlfplloenfcaaGreatDoor.C
open Go.RowKit

theorem fillbyte_ok (Bs g : Nat) (cs : Array Value) (v : Value) (hs : List (Value × Nat)) (w : World) (hBs : powG < Bs) (hBw : Bs ≤ w.heap.size) (ht : PowTab w) (hN : hs.length ≤ 100000)
    (hB : Blk w g 42 cs) (hv : cs[1]? = some v) (h : Kind w Bs 5 174 1 v hs false mkByte) (hf : Far hs) (hnm : Nums hs) :
    Calls Tryz.prog 82 #[.pointer (some ⟨g, 0, none⟩)] w fun e w' => e = .returned (.tuple #[]) ∧ Kind w' Bs 5 174 1 v hs true mkByte ∧ Below Bs w w' ∧ Tys [5] w w' := by
  by_cases hne : hs = []
  · subst hne
    obtain ⟨A, c, rfl⟩ := h.form
    refine (fillbyte_none g c A cs w hB hv).mono ?_
    rintro e w' ⟨rfl, rfl⟩
    exact ⟨rfl, ⟨h.1, fun j hj => by simp at hj⟩, Below.refl _ _, Tys.refl _ _⟩
  · obtain ⟨ga, cap, rfl, hga, hA⟩ := h.arr hne
    refine (fillbyte_any Bs g ga hs.length cap (hl hs) (hn hs) (hm hs) cs w hN hBs hBw ht hB hv hA (fun j hj => h.2 j hj) hnm hf).mono ?_
    rintro e w' ⟨rfl, h1, h2, h3⟩
    exact ⟨rfl, ⟨own_tys h.1 h3 (by decide), h1⟩, h2, h3⟩
theorem growbyte_ok (Bs g : Nat) (cs : Array Value) (v : Value) (hs : List (Value × Nat)) (w : World) (hBs : powG < Bs) (hBw : Bs ≤ w.heap.size) (ht : PowTab w) (hN : hs.length ≤ 100000)
    (hB : Blk w g 42 cs) (hv : cs[1]? = some v) (h : Kind w Bs 5 174 1 v hs true mkByte) (hf : Far hs) (hnm : Nums hs) :
    Calls Tryz.prog 90 #[.pointer (some ⟨g, 0, none⟩)] w fun e w' => e = .returned (.tuple #[]) ∧ KindLong w' Bs 5 174 1 v hs mkByte ∧ Below Bs w w' ∧ Tys [5, 174] w w' := by
  by_cases hne : hs = []
  · subst hne
    obtain ⟨A, c, rfl⟩ := h.form
    refine (growbyte_none g c A cs w hB hv).mono ?_
    rintro e w' ⟨rfl, rfl⟩
    exact ⟨rfl, ⟨⟨_, _, rfl⟩, .inl rfl⟩, Below.refl _ _, Tys.refl _ _⟩
  · obtain ⟨ga, cap, rfl, hga, hA⟩ := h.arr hne
    refine (growbyte_any Bs g ga hs.length cap (hl hs) (hn hs) (hm hs) cs w hN hBs hBw hga ht hB hv hA (fun j hj => h.2 j hj) hnm hf).mono ?_
    rintro e w' ⟨rfl, ⟨L, h1, h4⟩, h2, h3⟩
    exact ⟨rfl, ⟨⟨_, _, rfl⟩, .inr ⟨ga, cap, L, rfl, h1, h4⟩⟩, h2, h3⟩
theorem lookbyte_ok (Bs g : Nat) (cs : Array Value) (v : Value) (hs : List (Value × Nat)) (w : World) (hBs : powG < Bs) (hBw : Bs ≤ w.heap.size) (ht : PowTab w) (hN : hs.length ≤ 100000)
    (hB : Blk w g 42 cs) (hv : cs[1]? = some v) (h : KindLong w Bs 5 174 1 v hs mkByte) (hsl : ∀ j, j < hs.length → ∃ A c, hl hs j = .slice A (hn hs j) c) (hnm : Nums hs) :
    Calls Tryz.prog 98 #[.pointer (some ⟨g, 0, none⟩)] w fun e w' => e = .returned (.bool true) ∧ Below w.heap.size w w' := by
  rcases h.2 with rfl | ⟨ga, cap, L, rfl, hA, hR⟩
  · obtain ⟨⟨A, c, rfl⟩, _⟩ := h
    refine (lookbyte_none g c A cs w hB hv).mono ?_
    rintro e w' ⟨rfl, rfl⟩
    exact ⟨rfl, Below.refl _ _⟩
  · exact lookbyte_any Bs g ga hs.length cap (hl hs) L (hn hs) (hm hs) cs w hN hBs hBw ht hB hv hA hR hnm hsl

theorem filltext_ok (Bs g : Nat) (cs : Array Value) (v : Value) (hs : List (Value × Nat)) (w : World) (hBs : powG < Bs) (hBw : Bs ≤ w.heap.size) (ht : PowTab w) (hN : hs.length ≤ 100000)
    (hB : Blk w g 42 cs) (hv : cs[3]? = some v) (h : Kind w Bs 9 179 1 v hs false mkText) (hf : Far hs) (hnm : Nums hs) :
    Calls Tryz.prog 84 #[.pointer (some ⟨g, 0, none⟩)] w fun e w' => e = .returned (.tuple #[]) ∧ Kind w' Bs 9 179 1 v hs true mkText ∧ Below Bs w w' ∧ Tys [9] w w' := by
  by_cases hne : hs = []
  · subst hne
    obtain ⟨A, c, rfl⟩ := h.form
    refine (filltext_none g c A cs w hB hv).mono ?_
    rintro e w' ⟨rfl, rfl⟩
    exact ⟨rfl, ⟨h.1, fun j hj => by simp at hj⟩, Below.refl _ _, Tys.refl _ _⟩
  · obtain ⟨ga, cap, rfl, hga, hA⟩ := h.arr hne
    refine (filltext_any Bs g ga hs.length cap (hl hs) (hn hs) (hm hs) cs w hN hBs hBw ht hB hv hA (fun j hj => h.2 j hj) hnm hf).mono ?_
    rintro e w' ⟨rfl, h1, h2, h3⟩
    exact ⟨rfl, ⟨own_tys h.1 h3 (by decide), h1⟩, h2, h3⟩
theorem growtext_ok (Bs g : Nat) (cs : Array Value) (v : Value) (hs : List (Value × Nat)) (w : World) (hBs : powG < Bs) (hBw : Bs ≤ w.heap.size) (ht : PowTab w) (hN : hs.length ≤ 100000)
    (hB : Blk w g 42 cs) (hv : cs[3]? = some v) (h : Kind w Bs 9 179 1 v hs true mkText) (hf : Far hs) (hnm : Nums hs) :
    Calls Tryz.prog 92 #[.pointer (some ⟨g, 0, none⟩)] w fun e w' => e = .returned (.tuple #[]) ∧ KindLong w' Bs 9 179 1 v hs mkText ∧ Below Bs w w' ∧ Tys [9, 179] w w' := by
  by_cases hne : hs = []
  · subst hne
    obtain ⟨A, c, rfl⟩ := h.form
    refine (growtext_none g c A cs w hB hv).mono ?_
    rintro e w' ⟨rfl, rfl⟩
    exact ⟨rfl, ⟨⟨_, _, rfl⟩, .inl rfl⟩, Below.refl _ _, Tys.refl _ _⟩
  · obtain ⟨ga, cap, rfl, hga, hA⟩ := h.arr hne
    refine (growtext_any Bs g ga hs.length cap (hl hs) (hn hs) (hm hs) cs w hN hBs hBw hga ht hB hv hA (fun j hj => h.2 j hj) hnm hf).mono ?_
    rintro e w' ⟨rfl, ⟨L, h1, h4⟩, h2, h3⟩
    exact ⟨rfl, ⟨⟨_, _, rfl⟩, .inr ⟨ga, cap, L, rfl, h1, h4⟩⟩, h2, h3⟩
theorem looktext_ok (Bs g : Nat) (cs : Array Value) (v : Value) (hs : List (Value × Nat)) (w : World) (hBs : powG < Bs) (hBw : Bs ≤ w.heap.size) (ht : PowTab w) (hN : hs.length ≤ 100000)
    (hB : Blk w g 42 cs) (hv : cs[3]? = some v) (h : KindLong w Bs 9 179 1 v hs mkText) (hsl : ∀ j, j < hs.length → ∃ A c, hl hs j = .slice A (hn hs j) c) (hnm : Nums hs) :
    Calls Tryz.prog 100 #[.pointer (some ⟨g, 0, none⟩)] w fun e w' => e = .returned (.bool true) ∧ Below w.heap.size w w' := by
  rcases h.2 with rfl | ⟨ga, cap, L, rfl, hA, hR⟩
  · obtain ⟨⟨A, c, rfl⟩, _⟩ := h
    refine (looktext_none g c A cs w hB hv).mono ?_
    rintro e w' ⟨rfl, rfl⟩
    exact ⟨rfl, Below.refl _ _⟩
  · exact looktext_any Bs g ga hs.length cap (hl hs) L (hn hs) (hm hs) cs w hN hBs hBw ht hB hv hA hR hnm hsl

theorem fillfield_ok (Bs g : Nat) (cs : Array Value) (v : Value) (hs : List (Value × Nat)) (w : World) (hBs : powG < Bs) (hBw : Bs ≤ w.heap.size) (ht : PowTab w) (hN : hs.length ≤ 100000)
    (hB : Blk w g 42 cs) (hv : cs[4]? = some v) (h : Kind w Bs 63 181 2 v hs false mkField) (hf : Far hs) (hnm : Nums hs) :
    Calls Tryz.prog 85 #[.pointer (some ⟨g, 0, none⟩)] w fun e w' => e = .returned (.tuple #[]) ∧ Kind w' Bs 63 181 2 v hs true mkField ∧ Below Bs w w' ∧ Tys [63] w w' := by
  by_cases hne : hs = []
  · subst hne
    obtain ⟨A, c, rfl⟩ := h.form
    refine (fillfield_none g c A cs w hB hv).mono ?_
    rintro e w' ⟨rfl, rfl⟩
    exact ⟨rfl, ⟨h.1, fun j hj => by simp at hj⟩, Below.refl _ _, Tys.refl _ _⟩
  · obtain ⟨ga, cap, rfl, hga, hA⟩ := h.arr hne
    refine (fillfield_any Bs g ga hs.length cap (hl hs) (hn hs) (hm hs) cs w hN hBs hBw ht hB hv hA (fun j hj => h.2 j hj) hnm hf).mono ?_
    rintro e w' ⟨rfl, h1, h2, h3⟩
    exact ⟨rfl, ⟨own_tys h.1 h3 (by decide), h1⟩, h2, h3⟩
theorem growfield_ok (Bs g : Nat) (cs : Array Value) (v : Value) (hs : List (Value × Nat)) (w : World) (hBs : powG < Bs) (hBw : Bs ≤ w.heap.size) (ht : PowTab w) (hN : hs.length ≤ 100000)
    (hB : Blk w g 42 cs) (hv : cs[4]? = some v) (h : Kind w Bs 63 181 2 v hs true mkField) (hf : Far hs) (hnm : Nums hs) :
    Calls Tryz.prog 93 #[.pointer (some ⟨g, 0, none⟩)] w fun e w' => e = .returned (.tuple #[]) ∧ KindLong w' Bs 63 181 2 v hs mkField ∧ Below Bs w w' ∧ Tys [63, 181] w w' := by
  by_cases hne : hs = []
  · subst hne
    obtain ⟨A, c, rfl⟩ := h.form
    refine (growfield_none g c A cs w hB hv).mono ?_
    rintro e w' ⟨rfl, rfl⟩
    exact ⟨rfl, ⟨⟨_, _, rfl⟩, .inl rfl⟩, Below.refl _ _, Tys.refl _ _⟩
  · obtain ⟨ga, cap, rfl, hga, hA⟩ := h.arr hne
    refine (growfield_any Bs g ga hs.length cap (hl hs) (hn hs) (hm hs) cs w hN hBs hBw hga ht hB hv hA (fun j hj => h.2 j hj) hnm hf).mono ?_
    rintro e w' ⟨rfl, ⟨L, h1, h4⟩, h2, h3⟩
    exact ⟨rfl, ⟨⟨_, _, rfl⟩, .inr ⟨ga, cap, L, rfl, h1, h4⟩⟩, h2, h3⟩
theorem lookfield_ok (Bs g : Nat) (cs : Array Value) (v : Value) (hs : List (Value × Nat)) (w : World) (hBs : powG < Bs) (hBw : Bs ≤ w.heap.size) (ht : PowTab w) (hN : hs.length ≤ 100000)
    (hB : Blk w g 42 cs) (hv : cs[4]? = some v) (h : KindLong w Bs 63 181 2 v hs mkField) (hsl : ∀ j, j < hs.length → ∃ A c, hl hs j = .slice A (hn hs j) c) (hnm : Nums hs) :
    Calls Tryz.prog 101 #[.pointer (some ⟨g, 0, none⟩)] w fun e w' => e = .returned (.bool true) ∧ Below w.heap.size w w' := by
  rcases h.2 with rfl | ⟨ga, cap, L, rfl, hA, hR⟩
  · obtain ⟨⟨A, c, rfl⟩, _⟩ := h
    refine (lookfield_none g c A cs w hB hv).mono ?_
    rintro e w' ⟨rfl, rfl⟩
    exact ⟨rfl, Below.refl _ _⟩
  · exact lookfield_any Bs g ga hs.length cap (hl hs) L (hn hs) (hm hs) cs w hN hBs hBw ht hB hv hA hR hnm hsl

set_option maxHeartbeats 1000000 in
theorem apart_any (Bs g : Nat) (nb vb vt vf : Value) (hb ht hf : List (Value × Nat)) (w : World) (hBs : powG < Bs) (hBw : Bs ≤ w.heap.size) (hpow : PowTab w) (lb : hb.length ≤ 100000) (lt : ht.length ≤ 100000) (lf : hf.length ≤ 100000)
    (hB : Blk w g 42 #[nb, vb, .slice none 0 0, vt, vf, .slice none 0 0, .slice none 0 0, .slice none 0 0, .slice none 0 0])
    (kb : Kind w Bs 5 174 1 vb hb false mkByte) (kt : Kind w Bs 9 179 1 vt ht false mkText) (kf : Kind w Bs 63 181 2 vf hf false mkField) (fb : Far hb) (ft : Far ht) (ff : Far hf) (mb : Nums hb) (mt : Nums ht) (mf : Nums hf) :
    Calls Tryz.prog 30 #[.pointer (some ⟨g, 0, none⟩)] w fun e w' => e = .returned (.bool true) ∧ Below Bs w w' := by
  have sb := kb.slices
  have st := kt.slices
  have sf := kf.slices
  have HB := Lib.hid hB
  have KB0 := Lib.hid kb
  have KT0 := Lib.hid kt
  have KF0 := Lib.hid kf
  have L0 := Lib.hid (Below.refl Bs w)
  have P0 := Lib.hid hpow
  have FB := Lib.hid fb
  have FT := Lib.hid ft
  have FF := Lib.hid ff
  have MB := Lib.hid mb
  have MT := Lib.hid mt
  have MF := Lib.hid mf
  have SB := Lib.hid sb
  have ST := Lib.hid st
  have SF := Lib.hid sf
  clear hB kb kt kf hpow fb ft ff mb mt mf sb st sf
  go_enter Tryz.func30, Tryz.ntmps30
  go_wp2_with fail
  refine (fillbyte_ok Bs g _ _ hb _ hBs (Nat.le_trans hBw L0.out.size) P0.out lb HB.out (by rfl) KB0.out FB.out MB.out).mono ?_
  rintro e w1 ⟨rfl, q0, q1, q2⟩
  have L1 := Lib.hid (L0.out.trans q1)
  have P1 := Lib.hid (P0.out.below q1 hBs)
  have B1 := Lib.hid (blk_tys HB.out q2 (by decide))
  have KB1 := Lib.hid q0
  have KT1 := Lib.hid (KT0.out.tys q2 (by decide) (by decide))
  have KF1 := Lib.hid (KF0.out.tys q2 (by decide) (by decide))
  clear q0 q1 q2 P0 HB KB0 KT0 KF0 L0
  go_wp2_with fail
  refine (fillint_none g 0 none _ _ B1.out (by rfl)).mono ?_
  rintro e w2 ⟨rfl, rfl⟩
  go_wp2_with fail
  refine (filltext_ok Bs g _ _ ht _ hBs (Nat.le_trans hBw L1.out.size) P1.out lt B1.out (by rfl) KT1.out FT.out MT.out).mono ?_
  rintro e w3 ⟨rfl, q0, q1, q2⟩
  have L3 := Lib.hid (L1.out.trans q1)
  have P3 := Lib.hid (P1.out.below q1 hBs)
  have B3 := Lib.hid (blk_tys B1.out q2 (by decide))
  have KB3 := Lib.hid (KB1.out.tys q2 (by decide) (by decide))
  have KT3 := Lib.hid q0
  have KF3 := Lib.hid (KF1.out.tys q2 (by decide) (by decide))
  clear q0 q1 q2 P1 B1 KB1 KT1 KF1 L1
  go_wp2_with fail
  refine (fillfield_ok Bs g _ _ hf _ hBs (Nat.le_trans hBw L3.out.size) P3.out lf B3.out (by rfl) KF3.out FF.out MF.out).mono ?_
  rintro e w4 ⟨rfl, q0, q1, q2⟩
  have L4 := Lib.hid (L3.out.trans q1)
  have P4 := Lib.hid (P3.out.below q1 hBs)
  have B4 := Lib.hid (blk_tys B3.out q2 (by decide))
  have KB4 := Lib.hid (KB3.out.tys q2 (by decide) (by decide))
  have KT4 := Lib.hid (KT3.out.tys q2 (by decide) (by decide))
  have KF4 := Lib.hid q0
  clear q0 q1 q2 P3 B3 KB3 KT3 KF3 L3
  go_wp2_with fail
  refine (fillcookie_none g 0 none _ _ B4.out (by rfl)).mono ?_
  rintro e w5 ⟨rfl, rfl⟩
  go_wp2_with fail
  refine (fillsealed_none g 0 none _ _ B4.out (by rfl)).mono ?_
  rintro e w6 ⟨rfl, rfl⟩
  go_wp2_with fail
  refine (fillchange_none g 0 none _ _ B4.out (by rfl)).mono ?_
  rintro e w7 ⟨rfl, rfl⟩
  go_wp2_with fail
  refine (fillmessage_none g 0 none _ _ B4.out (by rfl)).mono ?_
  rintro e w8 ⟨rfl, rfl⟩
  go_wp2_with fail
  refine (growbyte_ok Bs g _ _ hb _ hBs (Nat.le_trans hBw L4.out.size) P4.out lb B4.out (by rfl) KB4.out FB.out MB.out).mono ?_
  rintro e w9 ⟨rfl, q0, q1, q2⟩
  have L9 := Lib.hid (L4.out.trans q1)
  have P9 := Lib.hid (P4.out.below q1 hBs)
  have B9 := Lib.hid (blk_tys B4.out q2 (by decide))
  have KB9 := Lib.hid q0
  have KT9 := Lib.hid (KT4.out.tys q2 (by decide) (by decide))
  have KF9 := Lib.hid (KF4.out.tys q2 (by decide) (by decide))
  clear q0 q1 q2 P4 B4 KB4 KT4 KF4 L4
  go_wp2_with fail
  refine (growint_none g 0 none _ _ B9.out (by rfl)).mono ?_
  rintro e w10 ⟨rfl, rfl⟩
  go_wp2_with fail
  refine (growtext_ok Bs g _ _ ht _ hBs (Nat.le_trans hBw L9.out.size) P9.out lt B9.out (by rfl) KT9.out FT.out MT.out).mono ?_
  rintro e w11 ⟨rfl, q0, q1, q2⟩
  have L11 := Lib.hid (L9.out.trans q1)
  have P11 := Lib.hid (P9.out.below q1 hBs)
  have B11 := Lib.hid (blk_tys B9.out q2 (by decide))
  have KB11 := Lib.hid (KB9.out.tys q2 (by decide) (by decide))
  have KT11 := Lib.hid q0
  have KF11 := Lib.hid (KF9.out.tys q2 (by decide) (by decide))
  clear q0 q1 q2 P9 B9 KB9 KT9 KF9 L9
  go_wp2_with fail
  refine (growfield_ok Bs g _ _ hf _ hBs (Nat.le_trans hBw L11.out.size) P11.out lf B11.out (by rfl) KF11.out FF.out MF.out).mono ?_
  rintro e w12 ⟨rfl, q0, q1, q2⟩
  have L12 := Lib.hid (L11.out.trans q1)
  have P12 := Lib.hid (P11.out.below q1 hBs)
  have B12 := Lib.hid (blk_tys B11.out q2 (by decide))
  have KB12 := Lib.hid (KB11.out.tys q2 (by decide) (by decide))
  have KT12 := Lib.hid (KT11.out.tys q2 (by decide) (by decide))
  have KF12 := Lib.hid q0
  clear q0 q1 q2 P11 B11 KB11 KT11 KF11 L11
  go_wp2_with fail
  refine (growcookie_none g 0 none _ _ B12.out (by rfl)).mono ?_
  rintro e w13 ⟨rfl, rfl⟩
  go_wp2_with fail
  refine (growsealed_none g 0 none _ _ B12.out (by rfl)).mono ?_
  rintro e w14 ⟨rfl, rfl⟩
  go_wp2_with fail
  refine (growchange_none g 0 none _ _ B12.out (by rfl)).mono ?_
  rintro e w15 ⟨rfl, rfl⟩
  go_wp2_with fail
  refine (growmessage_none g 0 none _ _ B12.out (by rfl)).mono ?_
  rintro e w16 ⟨rfl, rfl⟩
  go_wp2_with fail
  refine (lookbyte_ok Bs g _ _ hb _ hBs (Nat.le_trans hBw L12.out.size) P12.out lb B12.out (by rfl) KB12.out SB.out MB.out).mono ?_
  rintro e w17 ⟨rfl, q1⟩
  have L17 := Lib.hid (L12.out.trans (q1.mono (Nat.le_trans hBw L12.out.size)))
  have P17 := Lib.hid (P12.out.below q1 (Nat.lt_of_lt_of_le hBs (Nat.le_trans hBw L12.out.size)))
  have B17 := Lib.hid (B12.out.below q1 B12.out.lt)
  have KB17 := Lib.hid (KB12.out.below q1)
  have KT17 := Lib.hid (KT12.out.below q1)
  have KF17 := Lib.hid (KF12.out.below q1)
  clear q1 P12 B12 KB12 KT12 KF12 L12
  go_wp2_with fail
  refine (lookint_none g 0 none _ _ B17.out (by rfl)).mono ?_
  rintro e w18 ⟨rfl, rfl⟩
  go_wp2_with fail
  refine (looktext_ok Bs g _ _ ht _ hBs (Nat.le_trans hBw L17.out.size) P17.out lt B17.out (by rfl) KT17.out ST.out MT.out).mono ?_
  rintro e w19 ⟨rfl, q1⟩
  have L19 := Lib.hid (L17.out.trans (q1.mono (Nat.le_trans hBw L17.out.size)))
  have P19 := Lib.hid (P17.out.below q1 (Nat.lt_of_lt_of_le hBs (Nat.le_trans hBw L17.out.size)))
  have B19 := Lib.hid (B17.out.below q1 B17.out.lt)
  have KB19 := Lib.hid (KB17.out.below q1)
  have KT19 := Lib.hid (KT17.out.below q1)
  have KF19 := Lib.hid (KF17.out.below q1)
  clear q1 P17 B17 KB17 KT17 KF17 L17
  go_wp2_with fail
  refine (lookfield_ok Bs g _ _ hf _ hBs (Nat.le_trans hBw L19.out.size) P19.out lf B19.out (by rfl) KF19.out SF.out MF.out).mono ?_
  rintro e w20 ⟨rfl, q1⟩
  have L20 := Lib.hid (L19.out.trans (q1.mono (Nat.le_trans hBw L19.out.size)))
  have P20 := Lib.hid (P19.out.below q1 (Nat.lt_of_lt_of_le hBs (Nat.le_trans hBw L19.out.size)))
  have B20 := Lib.hid (B19.out.below q1 B19.out.lt)
  have KB20 := Lib.hid (KB19.out.below q1)
  have KT20 := Lib.hid (KT19.out.below q1)
  have KF20 := Lib.hid (KF19.out.below q1)
  clear q1 P19 B19 KB19 KT19 KF19 L19
  go_wp2_with fail
  refine (lookcookie_none g 0 none _ _ B20.out (by rfl)).mono ?_
  rintro e w21 ⟨rfl, rfl⟩
  go_wp2_with fail
  refine (looksealed_none g 0 none _ _ B20.out (by rfl)).mono ?_
  rintro e w22 ⟨rfl, rfl⟩
  go_wp2_with fail
  refine (lookchange_none g 0 none _ _ B20.out (by rfl)).mono ?_
  rintro e w23 ⟨rfl, rfl⟩
  go_wp2_with fail
  refine (lookmessage_none g 0 none _ _ B20.out (by rfl)).mono ?_
  rintro e w24 ⟨rfl, rfl⟩
  go_wp2_with fail
  go_ret
  exact ⟨rfl, L20.out⟩
end Go.Proofs.YtonlfplloenfcaaGreatDoor.C
namespace Go.Proofs.YtonlfplloenfcaaGreatDoor
open Go.RowKit

theorem Keep.new {X : Nat → Prop} {a b : World} {N : Nat} (h : Keep (fun q => X q ∨ N ≤ q) a b) (hN : a.heap.size ≤ N) : Keep X a b :=
  ⟨h.os, h.tape, h.output, h.size, fun k hk hx => h.block k hk fun e => e.elim hx (fun e => by omega)⟩
theorem blk_ne {w : World} {g b : Nat} {t t' : TypeId} {cs cs' : Array Value} {f : Nat × Nat} (h : Blk w g t cs) (h' : w.heap[b]? = some (.cells cs' t' f)) (hne : t ≠ t') : b ≠ g := by
  rintro rfl
  rw [h.heap] at h'
  injection h' with h'
  injection h' with _ h2
  exact hne h2
theorem heap_ne {w : World} {g b : Nat} {t t' : TypeId} {cs cs' : Array Value} {f f' : Nat × Nat} (h : w.heap[g]? = some (.cells cs t f)) (h' : w.heap[b]? = some (.cells cs' t' f')) (hne : t ≠ t') : b ≠ g := by
  rintro rfl
  rw [h] at h'
  injection h' with h'
  injection h' with _ h2
  exact hne h2
namespace C

theorem own2.keepX {X : Nat → Prop} {a b : World} {Bs sz n : Nat} {E : TypeId} {v : Value} {xs : List Value} (h : own2 a Bs E sz v n xs) (hk : Keep X a b) (hx : ∀ g, v.ownBlock = some g → ¬ X g) : own2 b Bs E sz v n xs := h.same (fun g hg => hk.block g (h.lt g hg).2 (hx g hg))
theorem Row.keepX {X : Nat → Prop} {a b : World} {Bs sz n k : Nat} {E : TypeId} {v : Value} {mk : Nat → Value} (h : Row a Bs E sz v n k mk) (hk : Keep X a b) (hx : ∀ g, v.ownBlock = some g → ¬ X g) : Row b Bs E sz v n k mk := by
  obtain ⟨xs, h1, h2⟩ := h
  exact ⟨xs, h1.keepX hk hx, h2⟩
theorem Kind.keepX {X : Nat → Prop} {a b : World} {Bs sz : Nat} {E H : TypeId} {v : Value} {hs : List (Value × Nat)} {all : Bool} {mk : Nat → Nat → Value} (h : Kind a Bs E H sz v hs all mk) (hk : Keep X a b) (hv : ∀ g, v.ownBlock = some g → ¬ X g) (hr : ∀ j, j < hs.length → ∀ g, (hl hs j).ownBlock = some g → ¬ X g) : Kind b Bs E H sz v hs all mk :=
  ⟨own_keepX h.1 hk hv, fun j hj => (h.2 j hj).keepX hk (hr j hj)⟩

def bookC (nb : Nat) (vb vf : Value) : Array Value := #[.int .i64 (nb : Nat), vb, .slice none 0 0, .slice none 0 0, vf, .slice none 0 0, .slice none 0 0, .slice none 0 0, .slice none 0 0]
/-- A book; D: its own blocks; R: its rows' blocks. -/
def BkOk (w : World) (Bs g nb : Nat) (D R : Nat → Prop) : Prop := ∃ vb vf hb hf, Blk w g 42 (bookC nb vb vf) ∧ Kind w Bs 5 174 1 vb hb false mkByte ∧ Kind w Bs 63 181 2 vf hf false mkField ∧
  Far hb ∧ Far hf ∧ Nums hb ∧ Nums hf ∧ hb.length ≤ nb ∧ hf.length ≤ nb ∧ D g ∧ (∀ q, vb.ownBlock = some q → D q) ∧ (∀ q, vf.ownBlock = some q → D q) ∧ (∀ j, j < hb.length → ∀ q, (hl hb j).ownBlock = some q → R q) ∧ (∀ j, j < hf.length → ∀ q, (hl hf j).ownBlock = some q → R q)
theorem BkOk.start {w : World} {Bs g : Nat} {D R : Nat → Prop} (h : Blk w g 42 (bookC 0 (.slice none 0 0) (.slice none 0 0))) (hD : D g) : BkOk w Bs g 0 D R :=
  ⟨_, _, [], [], h, Kind.nil rfl, Kind.nil rfl, Far.nil, Far.nil, Nums.nil, Nums.nil, Nat.le_refl _, Nat.le_refl _, hD, fun q hq => (by cases hq), fun q hq => (by cases hq), fun j hj => (by simp at hj), fun j hj => (by simp at hj)⟩
theorem BkOk.keepX {X : Nat → Prop} {w w' : World} {Bs g nb : Nat} {D R : Nat → Prop} (h : BkOk w Bs g nb D R) (hk : Keep X w w') (hd : ∀ q, X q → ¬ D q) (hr : ∀ q, X q → ¬ R q) : BkOk w' Bs g nb D R := by
  obtain ⟨vb, vf, hb, hf, h1, h2, h3, f1, f2, n1, n2, l1, l2, d0, d1, d2, r1, r2⟩ := h
  exact ⟨vb, vf, hb, hf, h1.keep hk (fun e => hd g e d0), h2.keepX hk (fun q e hx => hd q hx (d1 q e)) (fun j hj q e hx => hr q hx (r1 j hj q e)), h3.keepX hk (fun q e hx => hd q hx (d2 q e)) (fun j hj q e hx => hr q hx (r2 j hj q e)), f1, f2, n1, n2, l1, l2, d0, d1, d2, r1, r2⟩
theorem BkOk.mono {w : World} {Bs g nb : Nat} {D R D' R' : Nat → Prop} (h : BkOk w Bs g nb D R) (hd : ∀ q, q < w.heap.size → D q → D' q) (hr : ∀ q, q < w.heap.size → R q → R' q) : BkOk w Bs g nb D' R' := by
  obtain ⟨vb, vf, hb, hf, h1, h2, h3, f1, f2, n1, n2, l1, l2, d0, d1, d2, r1, r2⟩ := h
  refine ⟨vb, vf, hb, hf, h1, h2, h3, f1, f2, n1, n2, l1, l2, hd g h1.lt d0, fun q e => hd q (h2.1.lt q e).2 (d1 q e), fun q e => hd q (h3.1.lt q e).2 (d2 q e), fun j hj q e => hr q ?_ (r1 j hj q e), fun j hj q e => hr q ?_ (r2 j hj q e)⟩
  · obtain ⟨xs, hx⟩ := (h2.2 j hj).own
    exact (hx.lt q e).2
  · obtain ⟨xs, hx⟩ := (h3.2 j hj).own
    exact (hx.lt q e).2

theorem kind_far {w w' : World} {Bs sz g : Nat} {E H T : TypeId} {v : Value} {hs : List (Value × Nat)} {mk : Nat → Nat → Value} {cs : Array Value} {u : Value} {Hu : TypeId} {cu : List Value} {m su : Nat} (h : Kind w Bs E H sz v hs false mk) (hg : Blk w g T cs) (hu : w.ownsRow Bs Hu su u m cu) (hk : Keep (fun q => q = g ∨ u.ownBlock = some q) w w') (h1 : T ≠ E) (h2 : T ≠ H) (h3 : Hu ≠ E) (h4 : Hu ≠ H) : Kind w' Bs E H sz v hs false mk := by
  refine h.keepX hk (fun q e hx => ?_) (fun j hj q e hx => ?_)
  · obtain ⟨c1, e1⟩ := own_heap h.1 e
    rcases hx with hx | hx
    · exact blk_ne hg e1 h2 hx
    · obtain ⟨c2, e2⟩ := own_heap hu hx
      exact heap_ne e2 e1 h4 rfl
  · obtain ⟨xs, hr⟩ := (h.2 j hj).own
    obtain ⟨c1, e1⟩ := hr.heap e
    rcases hx with hx | hx
    · exact blk_ne hg e1 h1 hx
    · obtain ⟨c2, e2⟩ := own_heap hu hx
      exact heap_ne e2 e1 h3 rfl
theorem rows_far {w w' : World} {Bs sz g : Nat} {E H T : TypeId} {v : Value} {hs : List (Value × Nat)} {mk : Nat → Nat → Value} {cs : Array Value} (h : Kind w Bs E H sz v hs false mk) (hg : Blk w g T cs) (hk : Keep (fun q => q = g ∨ v.ownBlock = some q) w w') (h1 : T ≠ E) (h2 : H ≠ E) : ∀ j, j < hs.length → Row w' Bs E sz (hl hs j) (hn hs j) 0 (mk (hm hs j)) := by
  intro j hj
  refine (h.2 j hj).keepX hk (fun q e hx => ?_)
  obtain ⟨xs, hr⟩ := (h.2 j hj).own
  obtain ⟨c1, e1⟩ := hr.heap e
  rcases hx with hx | hx
  · exact blk_ne hg e1 h1 hx
  · obtain ⟨c2, e2⟩ := own_heap h.1 hx
    exact heap_ne e2 e1 h2 rfl
theorem own2_far {w w' : World} {Bs Bs' sz n g : Nat} {E H T : TypeId} {v u : Value} {m su : Nat} {xs cu : List Value} {cs : Array Value} (h : own2 w Bs E sz v n xs) (hg : Blk w g T cs) (hu : w.ownsRow Bs' H su u m cu) (hk : Keep (fun q => q = g ∨ u.ownBlock = some q) w w') (h1 : T ≠ E) (h2 : H ≠ E) : own2 w' Bs E sz v n xs := by
  refine h.keepX hk (fun q e hx => ?_)
  obtain ⟨c1, e1⟩ := h.heap e
  rcases hx with hx | hx
  · exact blk_ne hg e1 h1 hx
  · obtain ⟨c2, e2⟩ := own_heap hu hx
    exact heap_ne e2 e1 h2 rfl
theorem hl_push {hs : List (Value × Nat)} {l : Value} {m j : Nat} {R : Nat → Prop} (h : ∀ j, j < hs.length → ∀ q, (hl hs j).ownBlock = some q → R q) (hj : j < (hs ++ [(l, m)]).length) : ∀ q, (hl (hs ++ [(l, m)]) j).ownBlock = some q → R q ∨ l.ownBlock = some q := by
  intro q hq
  rw [List.length_append] at hj
  simp only [List.length_singleton] at hj
  by_cases e : j < hs.length
  · have e1 : hl (hs ++ [(l, m)]) j = hl hs j := by simp [hl, List.getD, List.getElem?_append_left e]
    rw [e1] at hq
    exact .inl (h j e q hq)
  · obtain rfl : j = hs.length := by omega
    have e2 : hl (hs ++ [(l, m)]) hs.length = l := by simp [hl, List.getD]
    rw [e2] at hq
    exact .inr hq

set_option maxRecDepth 100000 in
theorem bkbytes_ok (Bs g nb : Nat) (D R : Nat → Prop) (A : Option Addr) (n c : Nat) (xs : List Value) (w : World) (hnb : nb ≤ 10000) (hBs : Bs ≤ g) (h : BkOk w Bs g nb D R) (hl0 : own2 w Bs 5 1 (.slice A n c) n xs) (hn : n ≤ 1000000) (hd : ∀ q, (Value.slice A n c).ownBlock = some q → ¬ R q) :
    Calls Tryz.prog 29 #[.pointer (some ⟨g, 0, none⟩), .slice A n c] w fun e w' => e = .returned (.tuple #[]) ∧ BkOk w' Bs g (nb + 1) (fun q => D q ∨ w.heap.size ≤ q) (fun q => R q ∨ (Value.slice A n c).ownBlock = some q) ∧ Keep D w w' ∧ own2 w' Bs 5 1 (.slice A n c) n xs := by
  obtain ⟨vb, vf, hb, hf, h1, h2, h3, f1, f2, n1, n2, l1, l2, d0, d1, d2, r1, r2⟩ := h
  have H0 := Lib.hid (keepbyte_keep Bs g nb vb (.slice none 0 0) (.slice none 0 0) vf (.slice none 0 0) (.slice none 0 0) (.slice none 0 0) (.slice none 0 0) A n c hb.length (hcells hb) w (by omega) (by omega) hBs h1 h2.1)
  have HH := Lib.hid (And.intro h1 (And.intro h2 (And.intro h3 hl0)))
  have HD := Lib.hid (And.intro d1 (And.intro d2 (And.intro r1 r2)))
  clear h1 h2 h3 d1 d2 r1 r2 hl0
  go_enter Tryz.func29, Tryz.ntmps29
  go_wp2_with fail
  refine H0.out.mono ?_
  rintro e w1 ⟨rfl, v', q1, q2, q3, q4⟩
  have HQ := Lib.hid (And.intro q1 (And.intro q2 (And.intro q3 q4)))
  clear q1 q2 q3 q4
  go_wp2_with fail
  go_end0
  obtain ⟨q1, q2, q3, q4⟩ := HQ.out
  obtain ⟨h1, h2, h3, hl0⟩ := HH.out
  obtain ⟨d1, d2, r1, r2⟩ := HD.out
  refine ⟨rfl, ⟨v', vf, hb ++ [(.slice A n c, nb + 1)], hf, q1, Kind.push h2 (rows_far h2 h1 q3 (by decide) (by decide)) q2 (own2_far hl0 h1 h2.1 q3 (by decide) (by decide)) rfl, kind_far h3 h1 h2.1 q3 (by decide) (by decide) (by decide) (by decide), Far.push f1 (fun j hj b hb' hb2 => hd b hb2 (r1 j hj b hb')), f2,
    Nums.push n1 (by show n ≤ 1000000000; omega) (by omega), n2, by rw [List.length_append]; simp; omega, by omega, .inl d0, fun q e => (q4 q e).elim (fun e => .inl (d1 q e)) .inr, fun q e => .inl (d2 q e), fun j hj => hl_push r1 hj, fun j hj q e => .inl (r2 j hj q e)⟩, q3.mono (fun q e => e.elim (fun e => e ▸ d0) (d1 q)), own2_far hl0 h1 h2.1 q3 (by decide) (by decide)⟩
set_option maxRecDepth 100000 in
theorem bkfields_ok (Bs g nb : Nat) (D R : Nat → Prop) (A : Option Addr) (n c : Nat) (xs : List Value) (w : World) (hnb : nb ≤ 10000) (hBs : Bs ≤ g) (h : BkOk w Bs g nb D R) (hl0 : own2 w Bs 63 2 (.slice A n c) n xs) (hn : n ≤ 1000000) (hd : ∀ q, (Value.slice A n c).ownBlock = some q → ¬ R q) :
    Calls Tryz.prog 80 #[.pointer (some ⟨g, 0, none⟩), .slice A n c] w fun e w' => e = .returned (.tuple #[]) ∧ BkOk w' Bs g (nb + 1) (fun q => D q ∨ w.heap.size ≤ q) (fun q => R q ∨ (Value.slice A n c).ownBlock = some q) ∧ Keep D w w' := by
  obtain ⟨vb, vf, hb, hf, h1, h2, h3, f1, f2, n1, n2, l1, l2, d0, d1, d2, r1, r2⟩ := h
  have H0 := Lib.hid (keepfield_keep Bs g nb vb (.slice none 0 0) (.slice none 0 0) vf (.slice none 0 0) (.slice none 0 0) (.slice none 0 0) (.slice none 0 0) A n c hf.length (hcells hf) w (by omega) (by omega) hBs h1 h3.1)
  have HH := Lib.hid (And.intro h1 (And.intro h2 (And.intro h3 hl0)))
  have HD := Lib.hid (And.intro d1 (And.intro d2 (And.intro r1 r2)))
  clear h1 h2 h3 d1 d2 r1 r2 hl0
  go_enter Tryz.func80, Tryz.ntmps80
  go_wp2_with fail
  refine H0.out.mono ?_
  rintro e w1 ⟨rfl, v', q1, q2, q3, q4⟩
  have HQ := Lib.hid (And.intro q1 (And.intro q2 (And.intro q3 q4)))
  clear q1 q2 q3 q4
  go_wp2_with fail
  go_end0
  obtain ⟨q1, q2, q3, q4⟩ := HQ.out
  obtain ⟨h1, h2, h3, hl0⟩ := HH.out
  obtain ⟨d1, d2, r1, r2⟩ := HD.out
  refine ⟨rfl, ⟨vb, v', hb, hf ++ [(.slice A n c, nb + 1)], q1, kind_far h2 h1 h3.1 q3 (by decide) (by decide) (by decide) (by decide), Kind.push h3 (rows_far h3 h1 q3 (by decide) (by decide)) q2 (own2_far hl0 h1 h3.1 q3 (by decide) (by decide)) rfl, f1, Far.push f2 (fun j hj b hb' hb2 => hd b hb2 (r2 j hj b hb')),
    n1, Nums.push n2 (by show n ≤ 1000000000; omega) (by omega), by omega, by rw [List.length_append]; simp; omega, .inl d0, fun q e => .inl (d1 q e), fun q e => (q4 q e).elim (fun e => .inl (d2 q e)) .inr, fun j hj q e => .inl (r1 j hj q e), fun j hj => hl_push r2 hj⟩, q3.mono (fun q e => e.elim (fun e => e ▸ d0) (d2 q))⟩
set_option maxRecDepth 100000 in
theorem bkmessage_ok (Bs g nb : Nat) (D R : Nat → Prop) (s1 s2 : ByteArray) (st : Int) (A A2 : Option Addr) (n c n2 c2 : Nat) (xs ys : List Value) (w : World) (hnb : nb ≤ 9000) (hBs : Bs ≤ g) (h : BkOk w Bs g nb D R) (hl0 : own2 w Bs 63 2 (.slice A n c) n xs) (hl2 : own2 w Bs 5 1 (.slice A2 n2 c2) n2 ys) (hn : n ≤ 1000000) (hn2 : n2 ≤ 1000000)
    (hd : ∀ q, (Value.slice A n c).ownBlock = some q → ¬ R q) (hd2 : ∀ q, (Value.slice A2 n2 c2).ownBlock = some q → ¬ R q ∧ ¬ D q) :
    Calls Tryz.prog 28 #[.pointer (some ⟨g, 0, none⟩), .agg #[.string s1, .string s2, .int .i64 st, .slice A n c, .slice A2 n2 c2]] w fun e w' => e = .returned (.tuple #[]) ∧ BkOk w' Bs g (nb + 2) (fun q => D q ∨ w.heap.size ≤ q) (fun q => R q ∨ (Value.slice A n c).ownBlock = some q ∨ (Value.slice A2 n2 c2).ownBlock = some q) ∧ Keep D w w' := by
  have hal : Below w.heap.size w (w.alloc (.cells #[.string s1, .string s2, .int .i64 st, .slice A n c, .slice A2 n2 c2] 25)) := (Below.refl _ _).alloc (Nat.le_refl _) _
  have hK0 := Blk.new w 25 #[.string s1, .string s2, .int .i64 st, .slice A n c, .slice A2 n2 c2]
  have hkp : Keep (fun _ => False) w (w.alloc (.cells #[.string s1, .string s2, .int .i64 st, .slice A n c, .slice A2 n2 c2] 25)) := Keep.of_below hal
  have hD : D w.heap.size → False ∨ True := fun _ => .inr trivial
  have HB := Lib.hid ((h.mono (D' := fun q => D q ∧ q < w.heap.size) (R' := R) (fun q h1 h2 => ⟨h2, h1⟩) (fun q _ h2 => h2)).keepX hkp (fun q e => e.elim) (fun q e => e.elim))
  have HL := Lib.hid (hl0.keepX hkp (fun q _ e => e.elim))
  have HL2 := Lib.hid (hl2.keepX hkp (fun q _ e => e.elim))
  have hlt1 := fun q e => (hl0.lt q e).2
  have hlt2 := fun q e => (hl2.lt q e).2
  have hf1 : ∀ q, (Value.slice A2 n2 c2).ownBlock = some q → (Value.slice A n c).ownBlock ≠ some q := fun q e e' => by
    obtain ⟨c1, e1⟩ := hl0.heap e'
    obtain ⟨c2, e2⟩ := hl2.heap e
    exact heap_ne e1 e2 (by decide) rfl
  have K0 := Lib.hid hK0
  have HP := Lib.hid hkp
  have HLT := Lib.hid (And.intro hlt1 (And.intro hlt2 (And.intro hd (And.intro hd2 hf1))))
  have hz0 : w.heap.size < (w.alloc (.cells #[.string s1, .string s2, .int .i64 st, .slice A n c, .slice A2 n2 c2] 25)).heap.size := by simp
  clear h hl0 hl2 hal hK0 hkp hlt1 hlt2 hd hd2 hf1 hD
  go_enter Tryz.func28, Tryz.ntmps28
  go_wp2_with fail
  generalize w.alloc (.cells #[.string s1, .string s2, .int .i64 st, .slice A n c, .slice A2 n2 c2] 25) = W0 at *
  refine (bkfields_ok Bs g nb _ _ A n c xs W0 (by omega) hBs HB.out HL.out hn HLT.out.2.2.1).mono ?_
  rintro e w1 ⟨rfl, q1, q2⟩
  have c4 := (K0.out.keep q2 (fun e => absurd e.2 (Nat.lt_irrefl _))).cell 4
  simp at c4
  have HB1 := Lib.hid q1
  have HP1 := Lib.hid q2
  have HL21 := Lib.hid (HL2.out.keepX q2 (fun q e hx => (HLT.out.2.2.2.1 q e).2 hx.1))
  have hz1 := q2.size
  clear q1 q2
  go_wp2_with fail
  refine (bkbytes_ok Bs g (nb + 1) _ _ A2 n2 c2 ys w1 (by omega) hBs HB1.out HL21.out hn2 (fun q e hx => hx.elim (HLT.out.2.2.2.1 q e).1 (HLT.out.2.2.2.2 q e))).mono ?_
  rintro e w2 ⟨rfl, q1, q2, _⟩
  have HB2 := Lib.hid q1
  have HP2 := Lib.hid q2
  clear q1 q2 c4
  go_wp2_with fail
  go_end0
  have k02 : Keep (fun q => (D q ∧ q < w.heap.size) ∨ w.heap.size ≤ q) w w2 := ((HP.out.mono (fun q e => e.elim)).trans (HP1.out.mono (fun q e => .inl e))).trans (HP2.out.mono (fun q e => e.elim .inl (fun e => .inr (by omega))))
  refine ⟨rfl, HB2.out.mono (fun q _ e => ?_) (fun q _ e => ?_), ((k02.mono (fun q e => e.elim (fun e => Or.inl e.1) Or.inr)).new (Nat.le_refl _))⟩
  · rcases e with (e | e) | e
    · exact .inl e.1
    · exact .inr (by omega)
    · exact .inr (by omega)
  · rcases e with (e | e) | e
    · exact .inl e
    · exact .inr (.inl e)
    · exact .inr (.inr e)
end C
end Go.Proofs.YtonlfplloenfcaaGreatDoor
