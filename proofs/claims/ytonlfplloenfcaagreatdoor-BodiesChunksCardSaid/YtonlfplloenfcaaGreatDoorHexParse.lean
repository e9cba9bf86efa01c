/-
  strconv.ParseUint, of digits to the base 16, at most 16.
-/
import Derived.Test.YtonlfplloenfcaaGreatDoorR13Size
import Derived.Test.YtonlfplloenfcaaGreatDoorAscii
import Derived.WalkKit
namespace Go.Proofs.YtonlfplloenfcaaGreatDoor
open Go.RowKit

theorem hexN_from (l : List UInt8) : ∀ a : Nat, l.foldl (fun n x => 16 * n + hexD x) a = a * 16 ^ l.length + hexN l := by
  induction l with
  | nil => intro a; simp [hexN]
  | cons x l ih =>
    intro a
    have e : hexN (x :: l) = (16 * 0 + hexD x) * 16 ^ l.length + hexN l := by
      rw [← ih]
      rfl
    rw [List.foldl_cons, ih, e]
    simp only [List.length_cons, Nat.mul_zero, Nat.zero_add]
    rw [Nat.pow_succ, Nat.add_mul]
    have : 16 * a * 16 ^ l.length = a * (16 ^ l.length * 16) := by rw [Nat.mul_comm 16 a, Nat.mul_assoc, Nat.mul_comm 16]
    omega
theorem hexN_cons (x : UInt8) (l : List UInt8) : hexN (x :: l) = hexD x * 16 ^ l.length + hexN l := by
  rw [hexN, List.foldl_cons, hexN_from]
  simp
theorem hexN_lt : ∀ {l : List UInt8}, l.all hexOK = true → hexN l < 16 ^ l.length
  | [], _ => by simp [hexN]
  | x :: l, h => by
    rw [List.all_cons, Bool.and_eq_true] at h
    have h1 := hexN_lt h.2
    have h2 := hexD_le x h.1
    rw [hexN_cons, List.length_cons, Nat.pow_succ]
    have : hexD x * 16 ^ l.length ≤ 15 * 16 ^ l.length := Nat.mul_le_mul_right _ h2
    omega
theorem hex_cases (c : UInt8) (h : hexOK c = true) : (48 ≤ (c.toNat : Int) ∧ (c.toNat : Int) ≤ 57 ∧ (hexD c : Int) = (c.toNat : Int) - 48) ∨
    (57 < (c.toNat : Int) ∧ 97 ≤ bits .or .u8 (c.toNat : Int) 32 ∧ bits .or .u8 (c.toNat : Int) 32 ≤ 102 ∧ (hexD c : Int) = bits .or .u8 (c.toNat : Int) 32 - 97 + 10 ∧ (c.toNat : Int) ≠ 95) := by
  have h1 := all_bytes (p := fun c => !hexOK c || (decide (48 ≤ (c.toNat : Int) ∧ (c.toNat : Int) ≤ 57 ∧ (hexD c : Int) = (c.toNat : Int) - 48) ||
    decide (57 < (c.toNat : Int) ∧ 97 ≤ bits .or .u8 (c.toNat : Int) 32 ∧ bits .or .u8 (c.toNat : Int) 32 ≤ 102 ∧ (hexD c : Int) = bits .or .u8 (c.toNat : Int) 32 - 97 + 10 ∧ (c.toNat : Int) ≠ 95))) (by decide +kernel) c
  rw [h] at h1
  simpa using h1
theorem slower_any (c : Int) (w : World) : Calls Tryz.prog 240 #[.int .u8 c] w fun e w' => e = .returned (.int .u8 (bits .or .u8 c 32)) ∧ w = w' := by
  go_enter Tryz.func240, Tryz.ntmps240
  go_wp2
  go_ret
  exact ⟨rfl, rfl⟩

set_option maxHeartbeats 4000000 in
set_option maxRecDepth 100000 in
theorem iparse_hex (t : ByteArray) (hne : 1 ≤ t.size) (hmax : t.size ≤ 16) (hx : t.data.toList.all hexOK = true) (w : World) :
    Calls Tryz.prog 219 #[.string t, .int .i64 16, .int .i64 64] w fun e w' => e = .returned (.tuple #[.int .u64 (hexN t.data.toList : Int), .nilIface]) ∧ w' = Lib.bytesWorld w 5 t := by
  have hemp : t.toList.isEmpty = false := by
    rw [← decide_eq_emptyBytes]
    exact decide_eq_false (fun h => by rw [h] at hne; exact absurd hne (by decide))
  have hcv := Lib.run_convert_string_bytes (P := Tryz.prog) w 9 23 5 t Tryz.underlying9 Tryz.underlying23 Tryz.underlying5
  have hB : ∀ j, j < t.size → (Lib.bytesWorld w 5 t).cell? ⟨w.heap.size, j, none⟩ = some (.int .u8 (t.data.toList.getD j 0).toNat) := fun j hj => Lib.bytesWorld_cell w 5 t j hj
  obtain ⟨W1, hW1⟩ : ∃ W1, W1 = Lib.bytesWorld w 5 t := ⟨_, rfl⟩
  rw [← hW1] at hcv hB ⊢
  clear hW1
  obtain ⟨bs, hL⟩ : ∃ bs, bs = t.data.toList := ⟨_, rfl⟩
  have hLn : bs.length = t.size := by rw [hL]; rfl
  rw [← hL] at hB hx ⊢
  clear hL
  have hmv : IntKind.u64.wrap (IntKind.u64.wrap 18446744073709551616 - 1) = 18446744073709551615 := by
    rw [IntKind.wrap_u64, IntKind.wrap_u64]
    decide
  have HX := Lib.hid hx
  have HB := Lib.hid hB
  clear hx hB
  go_enter Tryz.func219, Tryz.ntmps219
  go_wp2
  go_loop [12, 13, 101] (fun vu vn vi => ∃ (k : Nat) (a : Int), vu = .bool false ∧ vn = .int .u64 a ∧ vi = .int .i64 k ∧ k ≤ t.size ∧ Hid (a = (hexN (bs.take k) : Int)))
    (fun _ _ vi => t.size - (intOf vi).toNat)
  case atStart => exact ⟨0, 0, rfl, rfl, rfl, by omega, rfl⟩
  case round =>
    obtain ⟨k, a, rfl, rfl, rfl, hk, ha⟩ := hrel
    have hlt : hexN (bs.take k) < 16 ^ k := by
      have := hexN_lt (l := bs.take k) (by rw [List.all_eq_true]; exact fun x hx => List.all_eq_true.1 HX.out x (List.mem_of_mem_take hx))
      rwa [List.length_take, Nat.min_eq_left (by omega)] at this
    have hA := ha.out
    by_cases hkn : k < t.size
    · have hc := HB.out k hkn
      have hget : bs.getD k 0 = bs[k]'(by omega) := by simp [List.getD, List.getElem?_eq_getElem (show k < bs.length by omega)]
      have htk : bs.take (k + 1) = bs.take k ++ [bs[k]'(by omega)] := List.take_succ_eq_append_getElem (by omega)
      have hxc : hexOK (bs[k]'(by omega)) = true := List.all_eq_true.1 HX.out _ (List.getElem_mem _)
      rw [hget] at hc
      generalize bs[k]'(by omega) = c at hc htk hxc
      have hc256 : c.toNat < 256 := c.toNat_lt
      have hn1 : hexN (bs.take (k + 1)) = 16 * hexN (bs.take k) + hexD c := by rw [htk, hexN_snoc2]
      have hd15 := hexD_le c hxc
      have hp15 : 16 ^ k ≤ 16 ^ 15 := Nat.pow_le_pow_right (by decide) (by omega)
      have e15 : (16 : Nat) ^ 15 = 1152921504606846976 := by decide
      have hN : Hid (a * 16 + (hexD c : Int) = (hexN (bs.take (k + 1)) : Int)) := by
        show _ = _
        rw [hn1, hA]
        omega
      have icut : a < 1152921504606846976 := by rw [hA]; omega
      have a0 : 0 ≤ a := by rw [hA]; omega
      have iov : a * 16 + (hexD c : Int) < 18446744073709551616 := by omega
      have hd0 : 0 ≤ (hexD c : Int) := by omega
      have hcase := hex_cases c hxc
      have HN := hN
      clear hn1 htk hlt hA ha hp15 e15 hxc hget hN
      rcases hcase with ⟨h1, h2, h3⟩ | ⟨h1, h2, h3, h4, h5⟩
      · have iov2 : a * 16 + ((c.toNat : Int) - 48) < 18446744073709551616 := by omega
        have H3 := Lib.hid h3
        clear h3 iov hd15 hd0
        go_wp2
        refine ⟨⟨k + 1, a * 16 + ((c.toNat : Int) - 48), rfl, (by first | rfl | (congr 1; omega)), (by first | rfl | (congr 1; omega)), by omega, by rw [← H3.out]; exact HN⟩, by simp [intOf]; omega⟩
      · obtain ⟨b, hb⟩ : ∃ b : Int, bits .or .u8 (c.toNat : Int) 32 = b := ⟨_, rfl⟩
        rw [hb] at h2 h3 h4
        have HLOW := Lib.hid (fun W => slower_any (c.toNat : Int) W)
        rw [hb] at HLOW
        have iov2 : a * 16 + (b - 97 + 10) < 18446744073709551616 := by omega
        have H4 := Lib.hid h4
        have b1 : ((c.toNat : Int) == 95) = false := beq_eq_false_iff_ne.2 h5
        clear h4 iov hd15 hd0 hb h5
        go_wp2_with (go_at_call 240; refine (HLOW.out _).mono ?_; rintro e w' ⟨rfl, rfl⟩)
        refine ⟨⟨k + 1, a * 16 + (b - 97 + 10), rfl, (by first | rfl | (congr 1; omega)), (by first | rfl | (congr 1; omega)), by omega, by rw [← H4.out]; exact HN⟩, by simp [intOf]; omega⟩
    · have hkk : k = t.size := by omega
      subst hkk
      have hF : bs.take t.size = bs := List.take_of_length_le (by omega)
      rw [hF] at hA
      subst hA
      clear hlt ha
      go_wp2
      go_ret2
      exact ⟨rfl, rfl⟩
set_option maxRecDepth 100000 in
theorem phex_any (t : ByteArray) (hne : 1 ≤ t.size) (hmax : t.size ≤ 16) (hx : t.data.toList.all hexOK = true) (w : World) :
    Calls Tryz.prog 178 #[.string t, .int .i64 16, .int .i64 64] w fun e w' => e = .returned (.tuple #[.int .u64 (hexN t.data.toList : Int), .nilIface]) ∧ Below w.heap.size w w' := by
  have HP := Lib.hid (iparse_hex t hne hmax hx w)
  have hb := bytesWorld_below w 5 t
  generalize Lib.bytesWorld w 5 t = W1 at *
  go_enter Tryz.func178, Tryz.ntmps178
  go_wp2_with fail
  refine (HP.out).mono ?_
  rintro e w' ⟨rfl, rfl⟩
  go_wp2_with fail
  go_ret2
  exact ⟨rfl, hb⟩
end Go.Proofs.YtonlfplloenfcaaGreatDoor
