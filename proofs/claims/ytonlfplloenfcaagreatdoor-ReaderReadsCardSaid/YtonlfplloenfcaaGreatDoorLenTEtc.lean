/-
  What the fields of a length tell: the two ways to it, in plain words.
  strconv.ParseUint, of digits to the base 16, at most 16.
  How a body ends: in plain words.
  How a body ends: more in plain words.
  How a body ends, case by case, in plain words: no program stands here.
-/
import Derived.Test.YtonlfplloenfcaaGreatDoorCutTEtc
import Derived.Test.YtonlfplloenfcaaGreatDoorEndSpecEtc
import Derived.Test.YtonlfplloenfcaaGreatDoorResultsEtc
import Derived.WalkKit
import Derived.Test.YtonlfplloenfcaaGreatDoorFindEtc
import Derived.Lib.LazyBuf
import Derived.Lib.RowBridge
namespace Go.Proofs.YtonlfplloenfcaaGreatDoor
open Go.RowKit

theorem digitsOK_cons {l : List UInt8} : digitsOK l = true ↔ l ≠ [] ∧ l.all digB = true := by
  unfold digitsOK
  cases l with
  | nil => simp
  | cons x r => simp
theorem num_big {x : List UInt8} (h : x.all digB = true) (hl : 17 < (bareS x).length) : 65536 < decN x := decN_great h (by omega)
theorem num_bareR {x : List UInt8} (h : digitsOK x = true) : numB (bareR x) 65536 = if decN x ≤ 65536 then some (decN x) else none := by
  obtain ⟨h1, h2⟩ := digitsOK_cons.1 h
  have ha : (bareR x).all digB = true := by
    unfold bareR
    split
    · decide
    · exact bareS_all h2
  have hd : digitsOK (bareR x) = true := digitsOK_cons.2 ⟨bareR_ne h, ha⟩
  unfold numB
  rw [hd, decN_bareR]
  by_cases hl : (bareR x).length ≤ 18
  · rw [decide_eq_true hl]
    simp
  · rw [decide_eq_false hl]
    have hb : 17 < (bareS x).length := by
      unfold bareR at hl
      split at hl
      · exact absurd (by decide) hl
      · omega
    rw [if_neg (Nat.not_le.2 (num_big h2 hb))]
    simp
theorem num_bareS {x : List UInt8} (h : digitsOK x = true) : numB (48 :: bareS x) 65536 = if decN x ≤ 65536 then some (decN x) else none := by
  obtain ⟨h1, h2⟩ := digitsOK_cons.1 h
  have ha : (48 :: bareS x).all digB = true := by
    rw [List.all_cons, bareS_all h2]
    decide
  have hd : digitsOK (48 :: bareS x) = true := digitsOK_cons.2 ⟨by simp, ha⟩
  have hn : decN (48 :: bareS x) = decN x := by rw [decN_cons, decN_bare]; simp
  unfold numB
  rw [hd, hn, List.length_cons]
  by_cases hl : (bareS x).length + 1 ≤ 18
  · rw [decide_eq_true hl]
    simp
  · rw [decide_eq_false hl]
    rw [if_neg (Nat.not_le.2 (num_big h2 (show 17 < (bareS x).length by omega)))]
    simp
def lenO : Option Nat → Int × Int × Int
  | some n => (1, (n : Int), 0)
  | none => (0, 0, 3)
theorem len_none {P : List (List UInt8)} (h0 : P ≠ []) (h : refL [] P = none) : lenA P = (0, 0, 9) := by
  cases P with
  | nil => exact absurd rfl h0
  | cons x r =>
    rw [refL_all] at h
    unfold lenA
    split at h
    · cases h
    · rename_i hc
      rw [if_neg hc]
theorem len_some {P : List (List UInt8)} {a : List UInt8} (h0 : P ≠ []) (h : refL [] P = some a) : lenA P = lenO (numB a 65536) := by
  cases P with
  | nil => exact absurd rfl h0
  | cons x r =>
    rw [refL_all] at h
    unfold lenA
    split at h
    · rename_i hc
      rw [if_pos hc, List.headD_cons]
      have hx : digitsOK x = true := by
        rw [Bool.and_eq_true, List.all_cons, Bool.and_eq_true] at hc
        exact hc.1.1
      injection h with h
      rw [← h, num_bareR hx]
      split <;> rfl
    · cases h
theorem len_bad {P : List (List UInt8)} {x : List UInt8} (hx : x ∈ P) (h : digitsOK x = false) : lenA P = (0, 0, 9) := by
  have : P.all digitsOK = false := by
    rw [Bool.eq_false_iff]
    intro hc
    rw [List.all_eq_true.1 hc x hx] at h
    cases h
  unfold lenA
  rw [this]
  rfl
theorem len_unlike {P : List (List UInt8)} (h0 : 0 < P.length) (h : 1 < (Lib.compact (P.map bareS)).length) : lenA P = (0, 0, 9) := by
  have h1 := like_compact P h0
  rw [decide_eq_false (by omega)] at h1
  unfold lenA
  rw [h1]
  simp
theorem len_like {P : List (List UInt8)} {x : List UInt8} {r : List (List UInt8)} (hP : P = x :: r) (ha : P.all digitsOK = true) (h : ¬ 1 < (Lib.compact (P.map bareS)).length) : lenA P = lenO (numB (48 :: bareS x) 65536) := by
  have h1 := like_compact P (by rw [hP]; simp)
  rw [decide_eq_true (by omega)] at h1
  have hx : digitsOK x = true := List.all_eq_true.1 ha x (by rw [hP]; exact List.mem_cons_self)
  unfold lenA
  rw [ha, h1, if_pos (show (true && true) = true from rfl), num_bareS hx, hP, List.headD_cons]
  split <;> rfl
theorem compactUp_head (zs : List (List UInt8)) : ∀ m : Nat, (Lib.compactUpTo zs.toArray (m + 1)).head? = some zs.toArray[0]!
  | 0 => by
    rw [Lib.compactUpTo_succ, Lib.keeps_lt_one _ 0 (by omega)]
    have : Lib.compactUpTo zs.toArray 0 = [] := rfl
    rw [this]
    rfl
  | m + 1 => by
    have ih := compactUp_head zs m
    rw [Lib.compactUpTo_succ]
    cases hc : Lib.compactUpTo zs.toArray (m + 1) with
    | nil => rw [hc] at ih; cases ih
    | cons y t => rw [hc] at ih; exact ih
theorem compact_head (z : List UInt8) (r : List (List UInt8)) : ∃ t, Lib.compact (z :: r) = z :: t := by
  have h := compactUp_head (z :: r) r.length
  have e : Lib.compact (z :: r) = Lib.compactUpTo (z :: r).toArray (r.length + 1) := rfl
  rw [← e] at h
  cases hc : Lib.compact (z :: r) with
  | nil => rw [hc] at h; cases h
  | cons y t =>
    rw [hc] at h
    refine ⟨t, ?_⟩
    have : y = z := by simpa using h
    rw [this]
/-- Of what is left. -/
def restP (l : List ByteArray) (i : Nat) : List (List UInt8) := partsA ((l.drop i).map (·.data.toList))
theorem restP_step {l : List ByteArray} {i : Nat} {x : ByteArray} (h : l[i]? = some x) : restP l i = (splitT 44 x).map (·.data.toList) ++ restP l (i + 1) := by
  have hi := (List.getElem?_eq_some_iff.1 h)
  obtain ⟨hi, hx⟩ := hi
  unfold restP partsA
  rw [List.drop_eq_getElem_cons hi, hx, List.map_cons, List.flatMap_cons, List.map_append, splitT_data]
theorem restP_end {l : List ByteArray} {i : Nat} (h : l.length ≤ i) : restP l i = [] := by
  unfold restP partsA
  rw [List.drop_of_length_le h]
  rfl
theorem parts_ne {l : List (List UInt8)} (h : l ≠ []) : partsA l ≠ [] := by
  cases l with
  | nil => exact absurd rfl h
  | cons x r =>
    unfold partsA
    obtain ⟨a, t, e⟩ := cutC_ne 44 x
    rw [List.flatMap_cons, e]
    simp
end Go.Proofs.YtonlfplloenfcaaGreatDoor
namespace Go.Proofs.YtonlfplloenfcaaGreatDoor
open Go.RowKit

theorem hexN_from (l : List UInt8) : ∀ a : Nat, l.foldl (fun n x => 16 * n + hexD x) a = a * 16 ^ l.length + hexN l := by
  induction l with
  | nil => intro a; simp [hexN]
  | cons x l ih =>
    intro a
    have e : hexN (x :: l) = (16 * 0 + hexD x) * 16 ^ l.length + hexN l := by
      rw [← ih]
      rfl
    rw [List.foldl_cons, ih, e]
    simp only [List.length_cons, Nat.mul_zero, Nat.zero_add]
    rw [Nat.pow_succ, Nat.add_mul]
    have : 16 * a * 16 ^ l.length = a * (16 ^ l.length * 16) := by rw [Nat.mul_comm 16 a, Nat.mul_assoc, Nat.mul_comm 16]
    omega
theorem hexN_cons (x : UInt8) (l : List UInt8) : hexN (x :: l) = hexD x * 16 ^ l.length + hexN l := by
  rw [hexN, List.foldl_cons, hexN_from]
  simp
theorem hexN_lt : ∀ {l : List UInt8}, l.all hexOK = true → hexN l < 16 ^ l.length
  | [], _ => by simp [hexN]
  | x :: l, h => by
    rw [List.all_cons, Bool.and_eq_true] at h
    have h1 := hexN_lt h.2
    have h2 := hexD_le x h.1
    rw [hexN_cons, List.length_cons, Nat.pow_succ]
    have : hexD x * 16 ^ l.length ≤ 15 * 16 ^ l.length := Nat.mul_le_mul_right _ h2
    omega
theorem hex_cases (c : UInt8) (h : hexOK c = true) : (48 ≤ (c.toNat : Int) ∧ (c.toNat : Int) ≤ 57 ∧ (hexD c : Int) = (c.toNat : Int) - 48) ∨
    (57 < (c.toNat : Int) ∧ 97 ≤ bits .or .u8 (c.toNat : Int) 32 ∧ bits .or .u8 (c.toNat : Int) 32 ≤ 102 ∧ (hexD c : Int) = bits .or .u8 (c.toNat : Int) 32 - 97 + 10 ∧ (c.toNat : Int) ≠ 95) := by
  have h1 := all_bytes (p := fun c => !hexOK c || (decide (48 ≤ (c.toNat : Int) ∧ (c.toNat : Int) ≤ 57 ∧ (hexD c : Int) = (c.toNat : Int) - 48) ||
    decide (57 < (c.toNat : Int) ∧ 97 ≤ bits .or .u8 (c.toNat : Int) 32 ∧ bits .or .u8 (c.toNat : Int) 32 ≤ 102 ∧ (hexD c : Int) = bits .or .u8 (c.toNat : Int) 32 - 97 + 10 ∧ (c.toNat : Int) ≠ 95))) (by decide +kernel) c
  rw [h] at h1
  simpa using h1
theorem slower_any (c : Int) (w : World) : Calls Tryz.prog 240 #[.int .u8 c] w fun e w' => e = .returned (.int .u8 (bits .or .u8 c 32)) ∧ w = w' := by
  go_enter Tryz.func240, Tryz.ntmps240
  go_wp2
  go_ret
  exact ⟨rfl, rfl⟩

set_option maxHeartbeats 4000000 in
set_option maxRecDepth 100000 in
theorem iparse_hex (t : ByteArray) (hne : 1 ≤ t.size) (hmax : t.size ≤ 16) (hx : t.data.toList.all hexOK = true) (w : World) :
    Calls Tryz.prog 219 #[.string t, .int .i64 16, .int .i64 64] w fun e w' => e = .returned (.tuple #[.int .u64 (hexN t.data.toList : Int), .nilIface]) ∧ w' = Lib.bytesWorld w 5 t := by
  have hemp : t.toList.isEmpty = false := by
    rw [← decide_eq_emptyBytes]
    exact decide_eq_false (fun h => by rw [h] at hne; exact absurd hne (by decide))
  have hcv := Lib.run_convert_string_bytes (P := Tryz.prog) w 9 23 5 t Tryz.underlying9 Tryz.underlying23 Tryz.underlying5
  have hB : ∀ j, j < t.size → (Lib.bytesWorld w 5 t).cell? ⟨w.heap.size, j, none⟩ = some (.int .u8 (t.data.toList.getD j 0).toNat) := fun j hj => Lib.bytesWorld_cell w 5 t j hj
  obtain ⟨W1, hW1⟩ : ∃ W1, W1 = Lib.bytesWorld w 5 t := ⟨_, rfl⟩
  rw [← hW1] at hcv hB ⊢
  clear hW1
  obtain ⟨bs, hL⟩ : ∃ bs, bs = t.data.toList := ⟨_, rfl⟩
  have hLn : bs.length = t.size := by rw [hL]; rfl
  rw [← hL] at hB hx ⊢
  clear hL
  have hmv : IntKind.u64.wrap (IntKind.u64.wrap 18446744073709551616 - 1) = 18446744073709551615 := by
    rw [IntKind.wrap_u64, IntKind.wrap_u64]
    decide
  have HX := Lib.hid hx
  have HB := Lib.hid hB
  clear hx hB
  go_enter Tryz.func219, Tryz.ntmps219
  go_wp2
  go_loop [12, 13, 101] (fun vu vn vi => ∃ (k : Nat) (a : Int), vu = .bool false ∧ vn = .int .u64 a ∧ vi = .int .i64 k ∧ k ≤ t.size ∧ Hid (a = (hexN (bs.take k) : Int)))
    (fun _ _ vi => t.size - (intOf vi).toNat)
  case atStart => exact ⟨0, 0, rfl, rfl, rfl, by omega, rfl⟩
  case round =>
    obtain ⟨k, a, rfl, rfl, rfl, hk, ha⟩ := hrel
    have hlt : hexN (bs.take k) < 16 ^ k := by
      have := hexN_lt (l := bs.take k) (by rw [List.all_eq_true]; exact fun x hx => List.all_eq_true.1 HX.out x (List.mem_of_mem_take hx))
      rwa [List.length_take, Nat.min_eq_left (by omega)] at this
    have hA := ha.out
    by_cases hkn : k < t.size
    · have hc := HB.out k hkn
      have hget : bs.getD k 0 = bs[k]'(by omega) := by simp [List.getD, List.getElem?_eq_getElem (show k < bs.length by omega)]
      have htk : bs.take (k + 1) = bs.take k ++ [bs[k]'(by omega)] := List.take_succ_eq_append_getElem (by omega)
      have hxc : hexOK (bs[k]'(by omega)) = true := List.all_eq_true.1 HX.out _ (List.getElem_mem _)
      rw [hget] at hc
      generalize bs[k]'(by omega) = c at hc htk hxc
      have hc256 : c.toNat < 256 := c.toNat_lt
      have hn1 : hexN (bs.take (k + 1)) = 16 * hexN (bs.take k) + hexD c := by rw [htk, hexN_snoc2]
      have hd15 := hexD_le c hxc
      have hp15 : 16 ^ k ≤ 16 ^ 15 := Nat.pow_le_pow_right (by decide) (by omega)
      have e15 : (16 : Nat) ^ 15 = 1152921504606846976 := by decide
      have hN : Hid (a * 16 + (hexD c : Int) = (hexN (bs.take (k + 1)) : Int)) := by
        show _ = _
        rw [hn1, hA]
        omega
      have icut : a < 1152921504606846976 := by rw [hA]; omega
      have a0 : 0 ≤ a := by rw [hA]; omega
      have iov : a * 16 + (hexD c : Int) < 18446744073709551616 := by omega
      have hd0 : 0 ≤ (hexD c : Int) := by omega
      have hcase := hex_cases c hxc
      have HN := hN
      clear hn1 htk hlt hA ha hp15 e15 hxc hget hN
      rcases hcase with ⟨h1, h2, h3⟩ | ⟨h1, h2, h3, h4, h5⟩
      · have iov2 : a * 16 + ((c.toNat : Int) - 48) < 18446744073709551616 := by omega
        have H3 := Lib.hid h3
        clear h3 iov hd15 hd0
        go_wp2
        refine ⟨⟨k + 1, a * 16 + ((c.toNat : Int) - 48), rfl, (by first | rfl | (congr 1; omega)), (by first | rfl | (congr 1; omega)), by omega, by rw [← H3.out]; exact HN⟩, by simp [intOf]; omega⟩
      · obtain ⟨b, hb⟩ : ∃ b : Int, bits .or .u8 (c.toNat : Int) 32 = b := ⟨_, rfl⟩
        rw [hb] at h2 h3 h4
        have HLOW := Lib.hid (fun W => slower_any (c.toNat : Int) W)
        rw [hb] at HLOW
        have iov2 : a * 16 + (b - 97 + 10) < 18446744073709551616 := by omega
        have H4 := Lib.hid h4
        have b1 : ((c.toNat : Int) == 95) = false := beq_eq_false_iff_ne.2 h5
        clear h4 iov hd15 hd0 hb h5
        go_wp2_with (go_at_call 240; refine (HLOW.out _).mono ?_; rintro e w' ⟨rfl, rfl⟩)
        refine ⟨⟨k + 1, a * 16 + (b - 97 + 10), rfl, (by first | rfl | (congr 1; omega)), (by first | rfl | (congr 1; omega)), by omega, by rw [← H4.out]; exact HN⟩, by simp [intOf]; omega⟩
    · have hkk : k = t.size := by omega
      subst hkk
      have hF : bs.take t.size = bs := List.take_of_length_le (by omega)
      rw [hF] at hA
      subst hA
      clear hlt ha
      go_wp2
      go_ret2
      exact ⟨rfl, rfl⟩
set_option maxRecDepth 100000 in
theorem phex_any (t : ByteArray) (hne : 1 ≤ t.size) (hmax : t.size ≤ 16) (hx : t.data.toList.all hexOK = true) (w : World) :
    Calls Tryz.prog 178 #[.string t, .int .i64 16, .int .i64 64] w fun e w' => e = .returned (.tuple #[.int .u64 (hexN t.data.toList : Int), .nilIface]) ∧ Below w.heap.size w w' := by
  have HP := Lib.hid (iparse_hex t hne hmax hx w)
  have hb := bytesWorld_below w 5 t
  generalize Lib.bytesWorld w 5 t = W1 at *
  go_enter Tryz.func178, Tryz.ntmps178
  go_wp2_with fail
  refine (HP.out).mono ?_
  rintro e w' ⟨rfl, rfl⟩
  go_wp2_with fail
  go_ret2
  exact ⟨rfl, hb⟩
end Go.Proofs.YtonlfplloenfcaaGreatDoor
namespace Go.Proofs.YtonlfplloenfcaaGreatDoor
open Go.RowKit

def teB : ByteArray := ⟨#[84, 114, 97, 110, 115, 102, 101, 114, 45, 69, 110, 99, 111, 100, 105, 110, 103]⟩
def clB : ByteArray := ⟨#[67, 111, 110, 116, 101, 110, 116, 45, 76, 101, 110, 103, 116, 104]⟩
def chB : ByteArray := ⟨#[99, 104, 117, 110, 107, 101, 100]⟩
def howNone (m : ByteArray) (st : Int) : Bool := (m.data.toList == [72, 69, 65, 68]) || (decide (100 ≤ st) && decide (st ≤ 199)) || st == 204 || st == 304
def chFirst (codes : List ByteArray) : Bool := sameB (codes.headD ⟨#[]⟩).data.toList chB.data.toList
def howM (m : ByteArray) (st : Int) (fs : List Fd) : Int × Int × Int := if howNone m st then (0, 0, 0) else howA (findB fs teB) (findB fs clB) (chFirst (findB fs teB))
def lenV (k : IntKind) (r : Int × Int × Int) : Value := .tuple #[.int k r.1, .int .i64 r.2.1, .int .i64 r.2.2]
theorem howA_close {codes sizes : List ByteArray} {ch : Bool} (h1 : codes.length = 0) (h2 : sizes.length = 0) : howA codes sizes ch = (3, 0, 0) := by
  unfold howA
  rw [if_pos (by omega)]
theorem howA_chunks {codes sizes : List ByteArray} {ch : Bool} (h1 : codes.length = 1) (h2 : sizes.length = 0) (h3 : ch = true) : howA codes sizes ch = (2, 0, 0) := by
  unfold howA
  rw [if_neg (by omega), if_pos ⟨h2, h1, h3⟩]
theorem howA_bad {codes sizes : List ByteArray} {ch : Bool} (h1 : 0 < codes.length) (h2 : ¬ (sizes.length = 0 ∧ codes.length = 1 ∧ ch = true)) : howA codes sizes ch = (0, 0, 9) := by
  unfold howA
  rw [if_neg (by omega), if_neg h2, if_pos h1]
theorem howA_len {codes sizes : List ByteArray} {ch : Bool} (h1 : codes.length = 0) (h2 : 0 < sizes.length) : howA codes sizes ch = lenA (partsA (sizes.map (·.data.toList))) := by
  unfold howA
  rw [if_neg (by omega), if_neg (by omega), if_neg (by omega)]
theorem findB_size {fs : List Fd} {s : ByteArray} {B : Nat} (h : ∀ f ∈ fs, f.2.size ≤ B) : ∀ x ∈ findB fs s, x.size ≤ B := by
  intro x hx
  unfold findB at hx
  obtain ⟨f, hf, rfl⟩ := List.mem_map.1 hx
  exact h f (List.mem_filter.1 hf).1
end Go.Proofs.YtonlfplloenfcaaGreatDoor
namespace Go.Proofs.YtonlfplloenfcaaGreatDoor
open Go.RowKit

theorem joinTail_sum (c : UInt8) : ∀ l : List (List UInt8), (Lib.joinTail [c] l).length ≤ (l.map fun x => x.length + 1).sum
  | [] => by simp [Lib.joinTail]
  | x :: r => by
    have ih := joinTail_sum c r
    unfold Lib.joinTail at ih ⊢
    simp only [List.map_cons, List.flatten_cons, List.length_append, List.length_cons, List.length_nil, List.sum_cons] at ih ⊢
    omega
theorem join_sum (c : UInt8) (l : List (List UInt8)) : (Lib.join l [c]).length ≤ (l.map fun x => x.length + 1).sum := by
  cases l with
  | nil => simp [Lib.join]
  | cons x r =>
    have h := joinTail_sum c r
    rw [Lib.join_cons, List.length_append, List.map_cons, List.sum_cons]
    omega
theorem findB_sum (s : ByteArray) : ∀ fs : List Fd, ((findB fs s).map fun x => x.data.toList.length + 1).sum ≤ fsum fs
  | [] => by simp [findB, fsum]
  | f :: r => by
    have ih := findB_sum s r
    have e : fsum (f :: r) = (2 + f.1.size + f.2.size) + fsum r := by simp [fsum]
    have e2 : f.2.data.toList.length = f.2.size := rfl
    unfold findB at ih ⊢
    rw [List.filter_cons]
    split
    · rw [List.map_cons, List.map_cons, List.sum_cons, e]
      omega
    · rw [e]; omega
theorem tdiv_hundred (st : Int) : (st.tdiv 100 == 1) = (decide (100 ≤ st) && decide (st ≤ 199)) := by
  rw [Bool.eq_iff_iff, beq_iff_eq, Bool.and_eq_true, decide_eq_true_iff, decide_eq_true_iff]
  rcases Int.lt_or_le st 0 with h | h
  · obtain ⟨k, rfl⟩ : ∃ k : Nat, st = -(k : Int) := ⟨st.natAbs, by omega⟩
    rw [Int.neg_tdiv, Int.tdiv_eq_ediv_of_nonneg (by omega)]
    omega
  · rw [Int.tdiv_eq_ediv_of_nonneg h]
    omega
def bareB (x : ByteArray) : ByteArray := ⟨(bareS x.data.toList).toArray⟩
theorem trimLeft_zero (l : List UInt8) : Lib.trimLeftS l [48] = bareS l := by
  unfold Lib.trimLeftS bareS
  congr 1
  funext x
  rw [Bool.eq_iff_iff]
  simp
theorem strs_bare (L : List ByteArray) (n : Nat) (h : L.length = n) : Lib.strsOf (fun i => ((L.map bareB)[i]?).getD ⟨#[]⟩) n = (L.map (·.data.toList)).map bareS := by
  subst h
  unfold Lib.strsOf
  apply List.ext_getElem?
  intro j
  rw [List.getElem?_map, List.getElem?_map, List.getElem?_map]
  by_cases hj : j < L.length
  · rw [List.getElem?_range hj, List.getElem?_eq_getElem hj]
    simp [bareB, hj]
  · rw [List.getElem?_eq_none (by simpa using hj), List.getElem?_eq_none (by simpa using hj)]
    rfl
theorem set_first {w : World} {b : Nat} {v : Value} {vs : List Value} (h : (w.cell? ⟨b, 0, none⟩).isSome = true) : (w.setCells b 0 (v :: vs)).cell? ⟨b, 0, none⟩ = some v := by
  rw [World.setCells, World.cell?_setCells_out b vs _ _ _ (fun _ _ => .inl (by show 0 < 0 + 1; omega))]
  have h1 := World.cell?_setCells_in b [v] 0 w (fun j hj => by
    have : j = 0 := by simpa using hj
    subst this
    exact h) 0 (by simp)
  exact h1
end Go.Proofs.YtonlfplloenfcaaGreatDoor
namespace Go.Proofs.YtonlfplloenfcaaGreatDoor

theorem three_eq {a b c x y z : Int} (h : (a, b, c) = (x, y, z)) : a = x ∧ b = y ∧ c = z := by
  injection h with h1 h2
  injection h2 with h2 h3
  exact ⟨h1, h2, h3⟩
end Go.Proofs.YtonlfplloenfcaaGreatDoor
