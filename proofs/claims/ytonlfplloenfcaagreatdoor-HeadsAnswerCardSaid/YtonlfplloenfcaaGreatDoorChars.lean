/-
  heads.control, heads.target, footmanref12.Control, footmanref12.target: each byte is asked.
-/
import Derived.Test.YtonlfplloenfcaaGreatDoorMem
import Derived.Test.YtonlfplloenfcaaGreatDoorSpec
import Derived.Test.YtonlfplloenfcaaGreatDoorProg
import Derived.Lib.Hide
import Derived.WalkSmall
import Derived.BigQuiet
import Derived.Deep.QuietTactic
import Derived.Laws.Strings
namespace Go.Proofs.YtonlfplloenfcaaGreatDoor
open Go.RowKit

theorem take_byte (s : ByteArray) (k : Nat) (h : k < s.size) : s.data.toList.take (k + 1) = s.data.toList.take k ++ [s[k]] := by
  rw [List.take_succ_eq_append_getElem (by simpa using h)]; rfl
theorem all_step {p : UInt8 → Bool} {s : ByteArray} {k : Nat} (h : k < s.size) (hp : (s.data.toList.take k).all p = true) (hx : p s[k] = true) : (s.data.toList.take (k + 1)).all p = true := by
  rw [take_byte s k h, List.all_append, hp, List.all_cons, hx]; rfl
theorem byte_at (s : ByteArray) (k : Nat) (h : k < s.size) : s.data.toList[k]? = some s[k] := List.getElem?_eq_getElem (by simpa using h)
theorem all_fail {p : UInt8 → Bool} {s : ByteArray} {k : Nat} (h : k < s.size) (hx : p s[k] = false) : s.data.toList.all p = false :=
  List.all_eq_false.2 ⟨s[k], List.mem_of_getElem? (byte_at s k h), by simp [hx]⟩
theorem ctrl_iff (x : UInt8) : ctrlOK x = !(decide ((x.toNat : Int) < 32) && ((x.toNat : Int) != 9) || ((x.toNat : Int) == 127)) := by
  have h := all_bytes (p := fun x => ctrlOK x == !(decide ((x.toNat : Int) < 32) && ((x.toNat : Int) != 9) || ((x.toNat : Int) == 127))) (by decide +kernel) x
  simpa using h
theorem targ_iff (x : UInt8) : targOK x = (decide ((33 : Int) ≤ (x.toNat : Int)) && decide ((x.toNat : Int) ≤ 126)) := by
  have h := all_bytes (p := fun x => targOK x == (decide ((33 : Int) ≤ (x.toNat : Int)) && decide ((x.toNat : Int) ≤ 126))) (by decide +kernel) x
  simpa using h
set_option maxRecDepth 100000 in
theorem control_any (s : ByteArray) (w : World) (hs : s.size ≤ 140737488355328) :
   Calls Tryz.prog 146 #[.string s] w fun e w' => e = .returned (.bool (!plainB s.data.toList)) ∧ ∃ q, w' = w.drewN q := by
  go_enter Tryz.func146, Tryz.ntmps146
  go_wp2_with fail
  go_loopw [6] (fun i wr => ∃ k : Nat, k ≤ s.size ∧ i = .int .i64 k ∧ Hid (plainB (s.data.toList.take k) = true) ∧ ∃ q, wr = w.drewN q) (fun i _ => s.size - (intOf i).toNat)
  case atStart => exact ⟨0, Nat.zero_le _, rfl, by simp [Hid, plainB], 0, rfl⟩
  case round =>
    obtain ⟨k, hk, rfl, hp, q, rfl⟩ := hrel
    by_cases hlt : k < s.size
    · have hx := ctrl_iff s[k]
      have good : ctrlOK s[k] = true → Hid (plainB (s.data.toList.take (k + 1)) = true) := fun h => all_step hlt hp.out h
      have badc : ctrlOK s[k] = false → plainB s.data.toList = false := fun h => all_fail hlt h
      have HX := Lib.hid hx
      have HG := Lib.hid good
      have HB := Lib.hid badc
      clear hx good badc
      by_cases h3 : (s[k].toNat : Int) = 127
      · have b0 : ¬ (s[k].toNat : Int) < 32 := by omega
        have b1 : decide ((s[k].toNat : Int) < 32) = false := decide_eq_false b0
        have b2 : ((s[k].toNat : Int) == 127) = true := by simp [h3]
        have hv := HB.out (by rw [HX.out, b2]; simp)
        have HV := Lib.hid hv
        clear hv h3
        go_wp2
        go_ret
        exact ⟨by rw [HV.out]; rfl, _, rfl⟩
      · have b2 : ((s[k].toNat : Int) == 127) = false := by simp [h3]
        by_cases h1 : (s[k].toNat : Int) < 32
        · have b4 : decide ((s[k].toNat : Int) < 32) = true := decide_eq_true h1
          by_cases h2 : (s[k].toNat : Int) = 9
          · have b1 : ((s[k].toNat : Int) != 9) = false := by simp [h2]
            have hv := HG.out (by rw [HX.out, b1, b2]; simp)
            have HV := Lib.hid hv
            clear hv h2 h3
            go_wp2
            go_roundw
            case rel => exact ⟨k + 1, by omega, by go_num, HV.out, _, rfl⟩
            case measure => simp [intOf]; omega
          · have b1 : ((s[k].toNat : Int) != 9) = true := by simp [h2]
            have hv := HB.out (by rw [HX.out, b1, b2, b4]; simp)
            have HV := Lib.hid hv
            clear hv h2 h3
            go_wp2
            go_ret
            exact ⟨by rw [HV.out]; rfl, _, rfl⟩
        · have b1 : decide ((s[k].toNat : Int) < 32) = false := decide_eq_false h1
          have hv := HG.out (by rw [HX.out, b1, b2]; simp)
          have HV := Lib.hid hv
          clear hv h3
          go_wp2
          go_roundw
          case rel => exact ⟨k + 1, by omega, by go_num, HV.out, _, rfl⟩
          case measure => simp [intOf]; omega
    · obtain rfl : k = s.size := by omega
      have hf : plainB s.data.toList = true := by
        have h := hp.out
        rwa [List.take_of_length_le (by simp)] at h
      have HF := Lib.hid hf
      clear hf
      go_wp2
      go_ret
      exact ⟨by rw [HF.out]; rfl, _, rfl⟩
set_option maxRecDepth 100000 in
theorem rcontrol_any (s : ByteArray) (w : World) (hs : s.size ≤ 140737488355328) :
   Calls Tryz.prog 77 #[.string s] w fun e w' => e = .returned (.bool (!plainB s.data.toList)) ∧ ∃ q, w' = w.drewN q := by
  go_enter Tryz.func77, Tryz.ntmps77
  go_wp2_with fail
  go_loopw [3] (fun i wr => ∃ k : Nat, k ≤ s.size ∧ i = .int .i64 k ∧ Hid (plainB (s.data.toList.take k) = true) ∧ ∃ q, wr = w.drewN q) (fun i _ => s.size - (intOf i).toNat)
  case atStart => exact ⟨0, Nat.zero_le _, rfl, by simp [Hid, plainB], 0, rfl⟩
  case round =>
    obtain ⟨k, hk, rfl, hp, q, rfl⟩ := hrel
    by_cases hlt : k < s.size
    · have hx := ctrl_iff s[k]
      have good : ctrlOK s[k] = true → Hid (plainB (s.data.toList.take (k + 1)) = true) := fun h => all_step hlt hp.out h
      have badc : ctrlOK s[k] = false → plainB s.data.toList = false := fun h => all_fail hlt h
      have HX := Lib.hid hx
      have HG := Lib.hid good
      have HB := Lib.hid badc
      clear hx good badc
      by_cases h3 : (s[k].toNat : Int) = 127
      · have b0 : ¬ (s[k].toNat : Int) < 32 := by omega
        have b1 : decide ((s[k].toNat : Int) < 32) = false := decide_eq_false b0
        have b2 : ((s[k].toNat : Int) == 127) = true := by simp [h3]
        have hv := HB.out (by rw [HX.out, b2]; simp)
        have HV := Lib.hid hv
        clear hv h3
        go_wp2
        go_ret
        exact ⟨by rw [HV.out]; rfl, _, rfl⟩
      · have b2 : ((s[k].toNat : Int) == 127) = false := by simp [h3]
        by_cases h1 : (s[k].toNat : Int) < 32
        · have b4 : decide ((s[k].toNat : Int) < 32) = true := decide_eq_true h1
          by_cases h2 : (s[k].toNat : Int) = 9
          · have b1 : ((s[k].toNat : Int) != 9) = false := by simp [h2]
            have hv := HG.out (by rw [HX.out, b1, b2]; simp)
            have HV := Lib.hid hv
            clear hv h2 h3
            go_wp2
            go_roundw
            case rel => exact ⟨k + 1, by omega, by go_num, HV.out, _, rfl⟩
            case measure => simp [intOf]; omega
          · have b1 : ((s[k].toNat : Int) != 9) = true := by simp [h2]
            have hv := HB.out (by rw [HX.out, b1, b2, b4]; simp)
            have HV := Lib.hid hv
            clear hv h2 h3
            go_wp2
            go_ret
            exact ⟨by rw [HV.out]; rfl, _, rfl⟩
        · have b1 : decide ((s[k].toNat : Int) < 32) = false := decide_eq_false h1
          have hv := HG.out (by rw [HX.out, b1, b2]; simp)
          have HV := Lib.hid hv
          clear hv h3
          go_wp2
          go_roundw
          case rel => exact ⟨k + 1, by omega, by go_num, HV.out, _, rfl⟩
          case measure => simp [intOf]; omega
    · obtain rfl : k = s.size := by omega
      have hf : plainB s.data.toList = true := by
        have h := hp.out
        rwa [List.take_of_length_le (by simp)] at h
      have HF := Lib.hid hf
      clear hf
      go_wp2
      go_ret
      exact ⟨by rw [HF.out]; rfl, _, rfl⟩
set_option maxRecDepth 100000 in
theorem target_any (s : ByteArray) (w : World) (hs : s.size ≤ 140737488355328) :
   Calls Tryz.prog 69 #[.string s] w fun e w' => e = .returned (.bool (targB s.data.toList)) ∧ ∃ q, w' = w.drewN q := by
  go_enter Tryz.func69, Tryz.ntmps69
  go_wp2_with fail
  go_loopw [6] (fun i wr => ∃ k : Nat, k ≤ s.size ∧ i = .int .i64 k ∧ Hid ((s.data.toList.take k).all targOK = true) ∧ ∃ q, wr = w.drewN q) (fun i _ => s.size - (intOf i).toNat)
  case atStart => exact ⟨0, Nat.zero_le _, rfl, by simp [Hid], 0, rfl⟩
  case round =>
    obtain ⟨k, hk, rfl, hp, q, rfl⟩ := hrel
    by_cases hlt : k < s.size
    · have hx := targ_iff s[k]
      have good : targOK s[k] = true → Hid ((s.data.toList.take (k + 1)).all targOK = true) := fun h => all_step hlt hp.out h
      have badc : targOK s[k] = false → targB s.data.toList = false := fun h => by unfold targB; rw [all_fail hlt h]; rfl
      have HX := Lib.hid hx
      have HG := Lib.hid good
      have HB := Lib.hid badc
      clear hx good badc
      by_cases h1 : (33 : Int) ≤ (s[k].toNat : Int)
      · have b1 : decide ((33 : Int) ≤ (s[k].toNat : Int)) = true := decide_eq_true h1
        have b3 : decide ((s[k].toNat : Int) ≤ 32) = false := decide_eq_false (by omega)
        have b4 : decide ((s[k].toNat : Int) < 33) = false := decide_eq_false (by omega)
        by_cases h2 : (s[k].toNat : Int) ≤ 126
        · have b2 : decide ((s[k].toNat : Int) ≤ 126) = true := decide_eq_true h2
          have hv := HG.out (by rw [HX.out, b1, b2]; rfl)
          have HV := Lib.hid hv
          clear hv
          go_wp2
          go_roundw
          case rel => exact ⟨k + 1, by omega, by go_num, HV.out, _, rfl⟩
          case measure => simp [intOf]; omega
        · have b2 : decide ((s[k].toNat : Int) ≤ 126) = false := decide_eq_false h2
          have hv := HB.out (by rw [HX.out, b1, b2]; rfl)
          have HV := Lib.hid hv
          clear hv
          go_wp2
          go_ret
          exact ⟨ret_bool (by rw [HV.out]), _, rfl⟩
      · have b1 : decide ((33 : Int) ≤ (s[k].toNat : Int)) = false := decide_eq_false h1
        have hv := HB.out (by rw [HX.out, b1]; rfl)
        have HV := Lib.hid hv
        clear hv
        go_wp2
        go_ret
        exact ⟨ret_bool (by rw [HV.out]), _, rfl⟩
    · obtain rfl : k = s.size := by omega
      have h : s.data.toList.all targOK = true := by
        have h := hp.out
        rwa [List.take_of_length_le (by simp)] at h
      have hf : targB s.data.toList = (!s.data.toList.isEmpty) := by unfold targB; rw [h]; rfl
      have he : s.data.toList.isEmpty = decide (s.size = 0) := by
        rw [Bool.eq_iff_iff, List.isEmpty_iff, decide_eq_true_iff, ← List.length_eq_zero_iff]
        exact Iff.rfl
      have HF := Lib.hid hf
      have HE := Lib.hid he
      clear hf h he
      go_wp2
      go_ret
      refine ⟨ret_bool ?_, _, rfl⟩
      rw [HF.out]
      rw [Go.ByteArray.toList_eq]
set_option maxRecDepth 100000 in
theorem rtarget_any (s : ByteArray) (w : World) (hs : s.size ≤ 140737488355328) :
   Calls Tryz.prog 76 #[.string s] w fun e w' => e = .returned (.bool (targB s.data.toList)) ∧ ∃ q, w' = w.drewN q := by
  go_enter Tryz.func76, Tryz.ntmps76
  go_wp2_with fail
  go_loopw [3] (fun i wr => ∃ k : Nat, k ≤ s.size ∧ i = .int .i64 k ∧ Hid ((s.data.toList.take k).all targOK = true) ∧ ∃ q, wr = w.drewN q) (fun i _ => s.size - (intOf i).toNat)
  case atStart => exact ⟨0, Nat.zero_le _, rfl, by simp [Hid], 0, rfl⟩
  case round =>
    obtain ⟨k, hk, rfl, hp, q, rfl⟩ := hrel
    by_cases hlt : k < s.size
    · have hx := targ_iff s[k]
      have good : targOK s[k] = true → Hid ((s.data.toList.take (k + 1)).all targOK = true) := fun h => all_step hlt hp.out h
      have badc : targOK s[k] = false → targB s.data.toList = false := fun h => by unfold targB; rw [all_fail hlt h]; rfl
      have HX := Lib.hid hx
      have HG := Lib.hid good
      have HB := Lib.hid badc
      clear hx good badc
      by_cases h1 : (33 : Int) ≤ (s[k].toNat : Int)
      · have b1 : decide ((33 : Int) ≤ (s[k].toNat : Int)) = true := decide_eq_true h1
        have b3 : decide ((s[k].toNat : Int) ≤ 32) = false := decide_eq_false (by omega)
        have b4 : decide ((s[k].toNat : Int) < 33) = false := decide_eq_false (by omega)
        by_cases h2 : (s[k].toNat : Int) ≤ 126
        · have b2 : decide ((s[k].toNat : Int) ≤ 126) = true := decide_eq_true h2
          have hv := HG.out (by rw [HX.out, b1, b2]; rfl)
          have HV := Lib.hid hv
          clear hv
          go_wp2
          go_roundw
          case rel => exact ⟨k + 1, by omega, by go_num, HV.out, _, rfl⟩
          case measure => simp [intOf]; omega
        · have b2 : decide ((s[k].toNat : Int) ≤ 126) = false := decide_eq_false h2
          have hv := HB.out (by rw [HX.out, b1, b2]; rfl)
          have HV := Lib.hid hv
          clear hv
          go_wp2
          go_ret
          exact ⟨ret_bool (by rw [HV.out]), _, rfl⟩
      · have b1 : decide ((33 : Int) ≤ (s[k].toNat : Int)) = false := decide_eq_false h1
        have hv := HB.out (by rw [HX.out, b1]; rfl)
        have HV := Lib.hid hv
        clear hv
        go_wp2
        go_ret
        exact ⟨ret_bool (by rw [HV.out]), _, rfl⟩
    · obtain rfl : k = s.size := by omega
      have h : s.data.toList.all targOK = true := by
        have h := hp.out
        rwa [List.take_of_length_le (by simp)] at h
      have hf : targB s.data.toList = (!s.data.toList.isEmpty) := by unfold targB; rw [h]; rfl
      have he : s.data.toList.isEmpty = decide (s.size = 0) := by
        rw [Bool.eq_iff_iff, List.isEmpty_iff, decide_eq_true_iff, ← List.length_eq_zero_iff]
        exact Iff.rfl
      have HF := Lib.hid hf
      have HE := Lib.hid he
      clear hf h he
      go_wp2
      go_ret
      refine ⟨ret_bool ?_, _, rfl⟩
      rw [HF.out]
      rw [HE.out, Bool.eq_iff_iff, Bool.not_eq_true', decide_eq_true_iff, decide_eq_false_iff_not]
      omega
end Go.Proofs.YtonlfplloenfcaaGreatDoor
