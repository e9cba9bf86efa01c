/-
  A response's first line, test by test, in plain words: no program stands here.
  footmanref01.Digit, Blank, sign, Token.
  bodies.control: has a text a control byte?
-/
import Derived.Test.YtonlfplloenfcaaGreatDoorHeadSpec
import Derived.Lib.Bytes2
import Derived.Test.YtonlfplloenfcaaGreatDoorResultsEtc
namespace Go.Proofs.YtonlfplloenfcaaGreatDoor

theorem byte_eq (x : UInt8) (k : Fin 256) : (((x.toNat : Int)) == ((k.val : Nat) : Int)) = (x == UInt8.ofNat k.val) := by
  rw [Bool.eq_iff_iff, beq_iff_eq, beq_iff_eq]
  constructor
  · intro h
    have h2 : x.toNat = k.val := by omega
    rw [← h2]; simp
  · intro h
    rw [h, UInt8.toNat_ofNat']
    have := k.isLt
    omega
theorem byte_48 (x : UInt8) : (x == 48) = ((x.toNat : Int) == 48) := (byte_eq x ⟨48, by decide⟩).symm
theorem byte_49 (x : UInt8) : (x == 49) = ((x.toNat : Int) == 49) := (byte_eq x ⟨49, by decide⟩).symm
theorem byte_32 (x : UInt8) : (x == 32) = ((x.toNat : Int) == 32) := (byte_eq x ⟨32, by decide⟩).symm
theorem getD_byte (s : ByteArray) (k : Nat) (h : k < s.size) : s.data.toList.getD k 0 = s[k] := by
  unfold List.getD
  rw [List.getElem?_eq_getElem (by simpa using h)]
  rfl
theorem prefix_take (l p : List UInt8) : Lib.hasPrefix l p = (l.take p.length == p) := by
  unfold Lib.hasPrefix
  rw [Bool.eq_iff_iff, List.isPrefixOf_iff_prefix, beq_iff_eq]
  exact ⟨fun h => (List.prefix_iff_eq_take.1 h).symm, fun h => List.prefix_iff_eq_take.2 h.symm⟩
theorem status_short {l : List UInt8} (h : l.length < 12) : statusOK l = false := by
  unfold statusOK
  rw [decide_eq_false (show ¬ 12 ≤ l.length by omega)]
  simp
theorem status_long {l : List UInt8} (h : 12 ≤ l.length) : statusOK l = ((l.take 7 == httpB) && ((l.getD 7 0 == 48 || l.getD 7 0 == 49) && (l.getD 8 0 == 32 && (l.getD 9 0 != 48 &&
    ((digB (l.getD 9 0) && (digB (l.getD 10 0) && digB (l.getD 11 0))) && ((decide (l.length = 12) || l.getD 12 0 == 32) && plainB l)))))) := by
  unfold statusOK
  rw [prefix_take, decide_eq_true h]
  have e : httpB.length = 7 := rfl
  rw [e]
  generalize (l.take 7 == httpB) = a
  generalize (l.getD 7 0 == 48 || l.getD 7 0 == 49) = b
  generalize (l.getD 8 0 == 32) = c
  generalize digB (l.getD 9 0) = d1
  generalize digB (l.getD 10 0) = d2
  generalize digB (l.getD 11 0) = d3
  generalize (l.getD 9 0 != 48) = f
  generalize ((decide (l.length = 12) || l.getD 12 0 == 32) && plainB l) = g
  cases a <;> cases b <;> cases c <;> cases d1 <;> cases d2 <;> cases d3 <;> cases f <;> cases g <;> rfl
theorem statusV_no {l : List UInt8} (h : statusOK l = false) : statusV l = 0 := by
  unfold statusV
  rw [if_neg (by rw [h]; decide)]
/-- The number of the digits from a place on. -/
def numF (l : List UInt8) (j : Nat) : Nat := ((l.drop 9).take j).foldl (fun n x => 10 * n + (x.toNat - 48)) 0
theorem numF_succ {l : List UInt8} {j : Nat} {x : UInt8} (h : l[9 + j]? = some x) : numF l (j + 1) = 10 * numF l j + (x.toNat - 48) := by
  unfold numF
  rw [List.take_add_one, List.getElem?_drop, h, List.foldl_append]
  rfl
theorem numF_le {l : List UInt8} : ∀ (j : Nat), (∀ k, k < j → ∃ x, l[9 + k]? = some x ∧ digB x = true) → numF l j < 10 ^ j
  | 0, _ => by simp [numF]
  | j + 1, h => by
    obtain ⟨x, hx, hd⟩ := h j (by omega)
    have ih := numF_le j (fun k hk => h k (by omega))
    rw [numF_succ hx, Nat.pow_succ]
    unfold digB at hd
    simp only [Bool.and_eq_true, decide_eq_true_eq, UInt8.le_iff_toNat_le] at hd
    have h57 : (57 : UInt8).toNat = 57 := rfl
    omega
theorem statusV_yes {l : List UInt8} (h : statusOK l = true) (hl : 12 ≤ l.length) : statusV l = numF l 3 := by
  unfold statusV
  rw [if_pos h]
  have g : ∀ k, k < l.length → l[k]? = some (l.getD k 0) := fun k hk => by
    unfold List.getD
    rw [List.getElem?_eq_getElem hk]
    rfl
  have e0 : numF l 0 = 0 := by simp [numF]
  have e1 := numF_succ (l := l) (j := 0) (g 9 (by omega))
  have e2 := numF_succ (l := l) (j := 1) (g 10 (by omega))
  have e3 := numF_succ (l := l) (j := 2) (g 11 (by omega))
  rw [e0] at e1
  rw [e3, e2, e1]
  omega
end Go.Proofs.YtonlfplloenfcaaGreatDoor
namespace Go.Proofs.YtonlfplloenfcaaGreatDoor
open Go.RowKit

def digI (c : UInt8) : Bool := decide (48 ≤ (c.toNat : Int) ∧ (c.toNat : Int) ≤ 57)
def blankI (c : UInt8) : Bool := decide ((c.toNat : Int) = 32 ∨ (c.toNat : Int) = 9)
def tokI (c : UInt8) : Bool := decide ((48 ≤ (c.toNat : Int) ∧ (c.toNat : Int) ≤ 57) ∨ (97 ≤ (c.toNat : Int) ∧ (c.toNat : Int) ≤ 122) ∨ (65 ≤ (c.toNat : Int) ∧ (c.toNat : Int) ≤ 90) ∨
  (c.toNat : Int) = 33 ∨ (c.toNat : Int) = 35 ∨ (c.toNat : Int) = 36 ∨ (c.toNat : Int) = 37 ∨ (c.toNat : Int) = 38 ∨ (c.toNat : Int) = 39 ∨ (c.toNat : Int) = 42 ∨ (c.toNat : Int) = 43 ∨ (c.toNat : Int) = 45 ∨ (c.toNat : Int) = 46 ∨
  (c.toNat : Int) = 94 ∨ (c.toNat : Int) = 95 ∨ (c.toNat : Int) = 96 ∨ (c.toNat : Int) = 124 ∨ (c.toNat : Int) = 126)
theorem digI_eq (x : UInt8) : digI x = digB x := by
  have h := all_bytes (p := fun x => digI x == digB x) (by decide +kernel) x
  simpa using h
theorem blankI_eq (x : UInt8) : blankI x = blankB x := by
  have h := all_bytes (p := fun x => blankI x == blankB x) (by decide +kernel) x
  simpa using h
theorem tokI_eq (x : UInt8) : tokI x = signOK x := by
  have h := all_bytes (p := fun x => tokI x == signOK x) (by decide +kernel) x
  simpa using h
theorem dig_int (c : UInt8) (w : World) : Calls Tryz.prog 184 #[.int .u8 (c.toNat : Int)] w fun e w' => e = .returned (.bool (digI c)) ∧ w = w' := by
  go_enter Tryz.func184, Tryz.ntmps184
  go_wp2
  all_goals go_ret
  all_goals refine ⟨ret_bool ?_, rfl⟩
  all_goals unfold digI
  · simp [*]
  · exact (decide_eq_false (by omega)).symm
theorem dig_any (c : UInt8) (w : World) : Calls Tryz.prog 184 #[.int .u8 (c.toNat : Int)] w fun e w' => e = .returned (.bool (digB c)) ∧ w = w' := by
  rw [← digI_eq]; exact dig_int c w
theorem blank_any (c : UInt8) (w : World) : Calls Tryz.prog 151 #[.int .u8 (c.toNat : Int)] w fun e w' => e = .returned (.bool (blankB c)) ∧ w = w' := by
  rw [← blankI_eq]
  go_enter Tryz.func151, Tryz.ntmps151
  go_wp2
  all_goals go_ret
  all_goals refine ⟨ret_bool ?_, rfl⟩
  all_goals unfold blankI
  · simp [*]
  · rw [Bool.eq_iff_iff]; simp
theorem sign_any (c : UInt8) (w : World) : Calls Tryz.prog 150 #[.int .u8 (c.toNat : Int)] w fun e w' => e = .returned (.bool (signOK c)) ∧ w = w' := by
  rw [← tokI_eq]
  go_enter Tryz.func150, Tryz.ntmps150
  go_wp2_with (go_at_call 184; refine (dig_int _ _).mono ?_; rintro e w' ⟨rfl, rfl⟩)
  all_goals go_ret
  all_goals refine ⟨ret_bool ?_, rfl⟩
  all_goals simp only [digI, beq_iff_eq, beq_eq_false_iff_ne, ne_eq, decide_eq_true_eq] at *
  all_goals unfold tokI
  all_goals first | exact (decide_eq_true (by omega)).symm | exact (decide_eq_false (by omega)).symm
set_option maxRecDepth 100000 in
theorem rtoken_any (s : ByteArray) (w : World) (hs : s.size ≤ 140737488355328) :
   Calls Tryz.prog 75 #[.string s] w fun e w' => e = .returned (.bool (tokenB s.data.toList)) ∧ w = w' := by
  go_enter Tryz.func75, Tryz.ntmps75
  go_wp2_with fail
  go_loop [3] (fun i => ∃ k : Nat, k ≤ s.size ∧ i = .int .i64 k ∧ Hid ((s.data.toList.take k).all signOK = true)) (fun i => s.size - (intOf i).toNat)
  case atStart => exact ⟨0, Nat.zero_le _, rfl, by simp [Hid]⟩
  case round =>
    obtain ⟨k, hk, rfl, hp⟩ := hrel
    by_cases hlt : k < s.size
    · have good : signOK s[k] = true → Hid ((s.data.toList.take (k + 1)).all signOK = true) := fun h => all_step hlt hp.out h
      have badc : signOK s[k] = false → tokenB s.data.toList = false := fun h => by unfold tokenB; rw [all_fail hlt h]; rfl
      have HG := Lib.hid good
      have HB := Lib.hid badc
      clear good badc
      cases hsg : signOK s[k]
      · have hv := HB.out hsg
        have HV := Lib.hid hv
        have HS := Lib.hid hsg
        clear hv hsg
        go_wp2_with fail
        refine (sign_any _ _).mono ?_
        rintro e w' ⟨rfl, rfl⟩
        rw [HS.out]
        go_wp2_with fail
        go_ret
        exact ⟨ret_bool (by rw [HV.out]), rfl⟩
      · have hv := HG.out hsg
        have HV := Lib.hid hv
        have HS := Lib.hid hsg
        clear hv hsg
        go_wp2_with fail
        refine (sign_any _ _).mono ?_
        rintro e w' ⟨rfl, rfl⟩
        rw [HS.out]
        go_wp2_with fail
        go_round
        case rel => exact ⟨k + 1, by omega, by go_num, HV.out⟩
        case measure => simp [intOf]; omega
    · obtain rfl : k = s.size := by omega
      have h : s.data.toList.all signOK = true := by
        have h := hp.out
        rwa [List.take_of_length_le (by simp)] at h
      have hf : tokenB s.data.toList = (!s.data.toList.isEmpty) := by unfold tokenB; rw [h]; rfl
      have he : s.data.toList.isEmpty = decide (s.size = 0) := by
        rw [Bool.eq_iff_iff, List.isEmpty_iff, decide_eq_true_iff, ← List.length_eq_zero_iff]
        exact Iff.rfl
      have HF := Lib.hid hf
      have HE := Lib.hid he
      clear hf h he
      go_wp2_with fail
      go_ret
      refine ⟨ret_bool ?_, rfl⟩
      rw [HF.out, HE.out, Bool.eq_iff_iff, Bool.not_eq_true', decide_eq_true_iff, decide_eq_false_iff_not]
      omega
end Go.Proofs.YtonlfplloenfcaaGreatDoor
namespace Go.Proofs.YtonlfplloenfcaaGreatDoor
open Go.RowKit

set_option maxRecDepth 100000 in
theorem bcontrol_any (s : ByteArray) (w : World) (hs : s.size ≤ 140737488355328) :
   Calls Tryz.prog 176 #[.string s] w fun e w' => e = .returned (.bool (!plainB s.data.toList)) ∧ ∃ q, w' = w.drewN q := by
  go_enter Tryz.func176, Tryz.ntmps176
  go_wp2_with fail
  go_loopw [6] (fun i wr => ∃ k : Nat, k ≤ s.size ∧ i = .int .i64 k ∧ Hid (plainB (s.data.toList.take k) = true) ∧ ∃ q, wr = w.drewN q) (fun i _ => s.size - (intOf i).toNat)
  case atStart => exact ⟨0, Nat.zero_le _, rfl, by simp [Hid, plainB], 0, rfl⟩
  case round =>
    obtain ⟨k, hk, rfl, hp, q, rfl⟩ := hrel
    by_cases hlt : k < s.size
    · have hx := ctrl_iff s[k]
      have good : ctrlOK s[k] = true → Hid (plainB (s.data.toList.take (k + 1)) = true) := fun h => all_step hlt hp.out h
      have badc : ctrlOK s[k] = false → plainB s.data.toList = false := fun h => all_fail hlt h
      have HX := Lib.hid hx
      have HG := Lib.hid good
      have HB := Lib.hid badc
      clear hx good badc
      by_cases h3 : (s[k].toNat : Int) = 127
      · have b0 : ¬ (s[k].toNat : Int) < 32 := by omega
        have b1 : decide ((s[k].toNat : Int) < 32) = false := decide_eq_false b0
        have b2 : ((s[k].toNat : Int) == 127) = true := by simp [h3]
        have hv := HB.out (by rw [HX.out, b2]; simp)
        have HV := Lib.hid hv
        clear hv h3
        go_wp2
        go_ret
        exact ⟨by rw [HV.out]; rfl, _, rfl⟩
      · have b2 : ((s[k].toNat : Int) == 127) = false := by simp [h3]
        by_cases h1 : (s[k].toNat : Int) < 32
        · have b4 : decide ((s[k].toNat : Int) < 32) = true := decide_eq_true h1
          by_cases h2 : (s[k].toNat : Int) = 9
          · have b1 : ((s[k].toNat : Int) != 9) = false := by simp [h2]
            have hv := HG.out (by rw [HX.out, b1, b2]; simp)
            have HV := Lib.hid hv
            clear hv h2 h3
            go_wp2
            go_roundw
            case rel => exact ⟨k + 1, by omega, by go_num, HV.out, _, rfl⟩
            case measure => simp [intOf]; omega
          · have b1 : ((s[k].toNat : Int) != 9) = true := by simp [h2]
            have hv := HB.out (by rw [HX.out, b1, b2, b4]; simp)
            have HV := Lib.hid hv
            clear hv h2 h3
            go_wp2
            go_ret
            exact ⟨by rw [HV.out]; rfl, _, rfl⟩
        · have b1 : decide ((s[k].toNat : Int) < 32) = false := decide_eq_false h1
          have hv := HG.out (by rw [HX.out, b1, b2]; simp)
          have HV := Lib.hid hv
          clear hv h3
          go_wp2
          go_roundw
          case rel => exact ⟨k + 1, by omega, by go_num, HV.out, _, rfl⟩
          case measure => simp [intOf]; omega
    · obtain rfl : k = s.size := by omega
      have hf : plainB s.data.toList = true := by
        have h := hp.out
        rwa [List.take_of_length_le (by simp)] at h
      have HF := Lib.hid hf
      clear hf
      go_wp2
      go_ret
      exact ⟨by rw [HF.out]; rfl, _, rfl⟩
end Go.Proofs.YtonlfplloenfcaaGreatDoor
