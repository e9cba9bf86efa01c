/-
  footmanlaw13.digits.
-/
import Derived.Test.YtonlfplloenfcaaGreatDoorDecSpec
import Derived.Test.YtonlfplloenfcaaGreatDoorResultsEtc
namespace Go.Proofs.YtonlfplloenfcaaGreatDoor
open Go.RowKit

theorem dig_ext (d : Nat) (h : d < 10) : (⟨#[48, 49, 50, 51, 52, 53, 54, 55, 56, 57]⟩ : ByteArray).extract d (d + 1) = ⟨#[dec1 d]⟩ := by
  match d, h with
  | 0, _ => rfl
  | 1, _ => rfl
  | 2, _ => rfl
  | 3, _ => rfl
  | 4, _ => rfl
  | 5, _ => rfl
  | 6, _ => rfl
  | 7, _ => rfl
  | 8, _ => rfl
  | 9, _ => rfl

set_option maxRecDepth 100000 in
theorem digits13_any (n : Nat) (w : World) (hn : n < 4294967296) :
    Calls Tryz.prog 53 #[.int .u32 (n : Int)] w fun e w' => e = .returned (.string ⟨(decT n).toArray⟩) ∧ w = w' := by
  have hx : ∀ k : Nat, (⟨#[48, 49, 50, 51, 52, 53, 54, 55, 56, 57]⟩ : ByteArray).extract (k % 10) (k % 10 + 1) = ⟨#[dec1 (k % 10)]⟩ := fun k => dig_ext _ (Nat.mod_lt _ (by omega))
  have HX := Lib.hid hx
  clear hx
  have hm : (n : Int) % 10 = ((n % 10 : Nat) : Int) := by omega
  obtain ⟨d, hd⟩ : ∃ d, n % 10 = d := ⟨_, rfl⟩
  have hd10 : d < 10 := by omega
  have hx := HX.out n
  rw [hd] at hm hx
  have HD := Lib.hid hd
  clear hd
  go_enter Tryz.func53, Tryz.ntmps53
  go_wp2_with fail
  clear hm hx
  go_loopw [0, 3] (fun v s wr => ∃ (k : Nat) (l : List UInt8), k < 4294967296 ∧ v = .int .u32 (k : Int) ∧ s = .string ⟨l.toArray⟩ ∧ Hid (decT n = digL 10 dec1 (k / 10) ++ l) ∧ wr = w) (fun v _ _ => (intOf v).toNat)
  case atStart => exact ⟨n, [dec1 d], hn, rfl, rfl, Lib.hid (by unfold decT; rw [HD.out]), rfl⟩
  case round =>
    obtain ⟨k, l, hk, rfl, rfl, HL, rfl⟩ := hrel
    by_cases hlt : 10 ≤ k
    · have hd1 : (k : Int) / 10 = ((k / 10 : Nat) : Int) := by omega
      have hd2 : ((k / 10 : Nat) : Int) % 10 = ((k / 10 % 10 : Nat) : Int) := by omega
      have hx := HX.out (k / 10)
      have hcat : (⟨#[dec1 (k / 10 % 10)]⟩ ++ ⟨l.toArray⟩ : ByteArray) = ⟨(dec1 (k / 10 % 10) :: l).toArray⟩ := by
        apply ByteArray.ext
        rw [ByteArray.data_append]
        simp
      have HL2 := Lib.hid (show decT n = digL 10 dec1 (k / 10 / 10) ++ (dec1 (k / 10 % 10) :: l) by rw [HL.out, digL_step 10 (by omega) dec1 (k / 10) (by omega)]; simp)
      have HC := Lib.hid hcat
      obtain ⟨q, hq⟩ : ∃ q, k / 10 = q := ⟨_, rfl⟩
      rw [hq] at hd1 hd2 hx HL2 HC
      obtain ⟨d, hd⟩ : ∃ d, q % 10 = d := ⟨_, rfl⟩
      have hd10 : d < 10 := by omega
      rw [hd] at hd2 hx HL2 HC
      have hqk : q < k := by omega
      have hls : l.length ≤ 10 := by
        have h1 := decT_len n (by omega)
        rw [HL.out, List.length_append] at h1
        omega
      have hs1 : (⟨l.toArray⟩ : ByteArray).size ≤ 10 := by show l.toArray.size ≤ 10; simpa using hls
      have hs2 : (⟨#[dec1 d]⟩ : ByteArray).size = 1 := rfl
      clear hq hd hcat
      go_wp2_with fail
      rw [HC.out]
      go_roundw
      case rel => exact ⟨q, dec1 d :: l, by omega, rfl, rfl, HL2, trivial⟩
      case measure => simp [intOf]; omega
    · have hend : decT n = l := by
        rw [HL.out, show k / 10 = 0 by omega, digL_zero]
        rfl
      have HE := Lib.hid hend
      clear hend
      go_wp2_with fail
      go_ret
      exact ⟨congrArg (fun x : List UInt8 => Ending.returned (Value.string ⟨x.toArray⟩)) HE.out.symm, rfl⟩
end Go.Proofs.YtonlfplloenfcaaGreatDoor
