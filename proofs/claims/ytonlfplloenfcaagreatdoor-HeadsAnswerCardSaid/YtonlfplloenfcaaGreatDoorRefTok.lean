/-
  footmanref01.Digit, Blank, sign, Token.
-/
import Derived.Test.YtonlfplloenfcaaGreatDoorChars
namespace Go.Proofs.YtonlfplloenfcaaGreatDoor
open Go.RowKit

def digI (c : UInt8) : Bool := decide (48 ≤ (c.toNat : Int) ∧ (c.toNat : Int) ≤ 57)
def blankI (c : UInt8) : Bool := decide ((c.toNat : Int) = 32 ∨ (c.toNat : Int) = 9)
def tokI (c : UInt8) : Bool := decide ((48 ≤ (c.toNat : Int) ∧ (c.toNat : Int) ≤ 57) ∨ (97 ≤ (c.toNat : Int) ∧ (c.toNat : Int) ≤ 122) ∨ (65 ≤ (c.toNat : Int) ∧ (c.toNat : Int) ≤ 90) ∨
  (c.toNat : Int) = 33 ∨ (c.toNat : Int) = 35 ∨ (c.toNat : Int) = 36 ∨ (c.toNat : Int) = 37 ∨ (c.toNat : Int) = 38 ∨ (c.toNat : Int) = 39 ∨ (c.toNat : Int) = 42 ∨ (c.toNat : Int) = 43 ∨ (c.toNat : Int) = 45 ∨ (c.toNat : Int) = 46 ∨
  (c.toNat : Int) = 94 ∨ (c.toNat : Int) = 95 ∨ (c.toNat : Int) = 96 ∨ (c.toNat : Int) = 124 ∨ (c.toNat : Int) = 126)
theorem digI_eq (x : UInt8) : digI x = digB x := by
  have h := all_bytes (p := fun x => digI x == digB x) (by decide +kernel) x
  simpa using h
theorem blankI_eq (x : UInt8) : blankI x = blankB x := by
  have h := all_bytes (p := fun x => blankI x == blankB x) (by decide +kernel) x
  simpa using h
theorem tokI_eq (x : UInt8) : tokI x = signOK x := by
  have h := all_bytes (p := fun x => tokI x == signOK x) (by decide +kernel) x
  simpa using h
theorem dig_int (c : UInt8) (w : World) : Calls Tryz.prog 184 #[.int .u8 (c.toNat : Int)] w fun e w' => e = .returned (.bool (digI c)) ∧ w = w' := by
  go_enter Tryz.func184, Tryz.ntmps184
  go_wp2
  all_goals go_ret
  all_goals refine ⟨ret_bool ?_, rfl⟩
  all_goals unfold digI
  · simp [*]
  · exact (decide_eq_false (by omega)).symm
theorem dig_any (c : UInt8) (w : World) : Calls Tryz.prog 184 #[.int .u8 (c.toNat : Int)] w fun e w' => e = .returned (.bool (digB c)) ∧ w = w' := by
  rw [← digI_eq]; exact dig_int c w
theorem blank_any (c : UInt8) (w : World) : Calls Tryz.prog 151 #[.int .u8 (c.toNat : Int)] w fun e w' => e = .returned (.bool (blankB c)) ∧ w = w' := by
  rw [← blankI_eq]
  go_enter Tryz.func151, Tryz.ntmps151
  go_wp2
  all_goals go_ret
  all_goals refine ⟨ret_bool ?_, rfl⟩
  all_goals unfold blankI
  · simp [*]
  · rw [Bool.eq_iff_iff]; simp
theorem sign_any (c : UInt8) (w : World) : Calls Tryz.prog 150 #[.int .u8 (c.toNat : Int)] w fun e w' => e = .returned (.bool (signOK c)) ∧ w = w' := by
  rw [← tokI_eq]
  go_enter Tryz.func150, Tryz.ntmps150
  go_wp2_with (go_at_call 184; refine (dig_int _ _).mono ?_; rintro e w' ⟨rfl, rfl⟩)
  all_goals go_ret
  all_goals refine ⟨ret_bool ?_, rfl⟩
  all_goals simp only [digI, beq_iff_eq, beq_eq_false_iff_ne, ne_eq, decide_eq_true_eq] at *
  all_goals unfold tokI
  all_goals first | exact (decide_eq_true (by omega)).symm | exact (decide_eq_false (by omega)).symm
set_option maxRecDepth 100000 in
theorem rtoken_any (s : ByteArray) (w : World) (hs : s.size ≤ 140737488355328) :
   Calls Tryz.prog 75 #[.string s] w fun e w' => e = .returned (.bool (tokenB s.data.toList)) ∧ w = w' := by
  go_enter Tryz.func75, Tryz.ntmps75
  go_wp2_with fail
  go_loop [3] (fun i => ∃ k : Nat, k ≤ s.size ∧ i = .int .i64 k ∧ Hid ((s.data.toList.take k).all signOK = true)) (fun i => s.size - (intOf i).toNat)
  case atStart => exact ⟨0, Nat.zero_le _, rfl, by simp [Hid]⟩
  case round =>
    obtain ⟨k, hk, rfl, hp⟩ := hrel
    by_cases hlt : k < s.size
    · have good : signOK s[k] = true → Hid ((s.data.toList.take (k + 1)).all signOK = true) := fun h => all_step hlt hp.out h
      have badc : signOK s[k] = false → tokenB s.data.toList = false := fun h => by unfold tokenB; rw [all_fail hlt h]; rfl
      have HG := Lib.hid good
      have HB := Lib.hid badc
      clear good badc
      cases hsg : signOK s[k]
      · have hv := HB.out hsg
        have HV := Lib.hid hv
        have HS := Lib.hid hsg
        clear hv hsg
        go_wp2_with fail
        refine (sign_any _ _).mono ?_
        rintro e w' ⟨rfl, rfl⟩
        rw [HS.out]
        go_wp2_with fail
        go_ret
        exact ⟨ret_bool (by rw [HV.out]), rfl⟩
      · have hv := HG.out hsg
        have HV := Lib.hid hv
        have HS := Lib.hid hsg
        clear hv hsg
        go_wp2_with fail
        refine (sign_any _ _).mono ?_
        rintro e w' ⟨rfl, rfl⟩
        rw [HS.out]
        go_wp2_with fail
        go_round
        case rel => exact ⟨k + 1, by omega, by go_num, HV.out⟩
        case measure => simp [intOf]; omega
    · obtain rfl : k = s.size := by omega
      have h : s.data.toList.all signOK = true := by
        have h := hp.out
        rwa [List.take_of_length_le (by simp)] at h
      have hf : tokenB s.data.toList = (!s.data.toList.isEmpty) := by unfold tokenB; rw [h]; rfl
      have he : s.data.toList.isEmpty = decide (s.size = 0) := by
        rw [Bool.eq_iff_iff, List.isEmpty_iff, decide_eq_true_iff, ← List.length_eq_zero_iff]
        exact Iff.rfl
      have HF := Lib.hid hf
      have HE := Lib.hid he
      clear hf h he
      go_wp2_with fail
      go_ret
      refine ⟨ret_bool ?_, rfl⟩
      rw [HF.out, HE.out, Bool.eq_iff_iff, Bool.not_eq_true', decide_eq_true_iff, decide_eq_false_iff_not]
      omega
end Go.Proofs.YtonlfplloenfcaaGreatDoor
