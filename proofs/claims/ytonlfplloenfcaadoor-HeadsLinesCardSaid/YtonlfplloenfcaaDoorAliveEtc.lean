/-
  footmanlaw12.alive: the answers that the document fixes.
  HeadsLines: the walk.
-/
import Derived.Test.YtonlfplloenfcaaDoorHGetEtc
import Derived.Test.YtonlfplloenfcaaDoorHPut
import Derived.Test.YtonlfplloenfcaaDoorSameEtc
import Derived.Test.YtonlfplloenfcaaDoorMoreSpec
import Derived.Test.YtonlfplloenfcaaDoorChars
namespace Go.Proofs.YtonlfplloenfcaaDoor
open Go.RowKit

def bHost : ByteArray := ⟨#[72, 111, 115, 116]⟩
def bh : ByteArray := ⟨#[104]⟩
theorem fread_one {w : World} (a b : ByteArray) : FRead (w.alloc (.cells #[.string a, .string b] 57)) (w.alloc (.cells #[.string a, .string b] 57)).heap.size (some ⟨w.heap.size, 0, none⟩) 1 [(a, b)] := by
  have hk := Blk.new w 57 #[.string a, .string b]
  refine ⟨rfl, fun _ => ⟨_, _, rfl, hk.lt, fun i f hf => ?_⟩⟩
  match i, hf with
  | 0, hf =>
    simp at hf
    subst hf
    exact ⟨hk.cell 0, hk.cell 1⟩
  | i + 1, hf => simp at hf

def alPut : List UInt8 := [71, 69, 84, 32, 47, 97, 63, 98, 32, 72, 84, 84, 80, 47, 49, 46, 49, 13, 10, 72, 111, 115, 116, 58, 32, 104, 13, 10, 13, 10]
def alGet : List UInt8 := [72, 84, 84, 80, 47, 49, 46, 49, 32, 50, 48, 48, 32, 79, 75, 13, 10, 65, 58, 32, 98, 13, 10, 97, 58, 13, 10, 13, 10, 120]
theorem alPut_is : headE ⟨#[71, 69, 84]⟩ ⟨#[47, 97, 63, 98]⟩ [(⟨#[72, 111, 115, 116]⟩, ⟨#[104]⟩)] = 0 ∧ headO ⟨#[71, 69, 84]⟩ ⟨#[47, 97, 63, 98]⟩ [(⟨#[72, 111, 115, 116]⟩, ⟨#[104]⟩)] = alPut := by decide +kernel
theorem alGet_is : gE statusK alGet = 0 ∧ gN statusK alGet = 29 ∧ gS statusK alGet = 200 ∧ gM statusK alGet = ⟨#[]⟩ ∧ gT statusK alGet = ⟨#[]⟩ ∧ gF statusK alGet = [(⟨#[65]⟩, ⟨#[98]⟩), (⟨#[97]⟩, ⟨#[]⟩)] := by decide +kernel
theorem alNo_is : headE ⟨#[71, 32, 84]⟩ ⟨#[47]⟩ [] = 1 ∧ headO ⟨#[71, 32, 84]⟩ ⟨#[47]⟩ [] = [] := by decide +kernel
theorem alFind_is : findB [(⟨#[65]⟩, ⟨#[49]⟩), (⟨#[98]⟩, ⟨#[50]⟩), (⟨#[97]⟩, ⟨#[51]⟩)] ⟨#[65]⟩ = [⟨#[49]⟩, ⟨#[51]⟩] := by decide +kernel
theorem alBad1_is : gE statusK (⟨#[72, 84, 84, 80, 47, 49, 46, 49, 32, 50, 48, 48, 13, 10]⟩ : ByteArray).data.toList = 7 := by decide +kernel
theorem alBad2_is : gE statusK (⟨#[72, 84, 84, 80, 47, 50, 32, 50, 48, 48, 13, 10, 13, 10]⟩ : ByteArray).data.toList = 8 := by decide +kernel
theorem alBad3_is : gE statusK (⟨#[72, 84, 84, 80, 47, 49, 46, 49, 32, 50, 48, 48, 13, 10, 32, 97, 58, 32, 98, 13, 10, 13, 10]⟩ : ByteArray).data.toList = 8 := by decide +kernel
theorem const_bytes (L : List UInt8) (n : Nat) (hn : L.length = n) (w : World) :
    Lies (frozenW (w.alloc (.cells (Lib.byteCells L).toArray 5)) w.heap.size n) (frozenW (w.alloc (.cells (Lib.byteCells L).toArray 5)) w.heap.size n).heap.size (some ⟨w.heap.size, 0, none⟩) n (Lib.byteCells L) ∧
      Below w.heap.size w (frozenW (w.alloc (.cells (Lib.byteCells L).toArray 5)) w.heap.size n) ∧ w.heap.size < (frozenW (w.alloc (.cells (Lib.byteCells L).toArray 5)) w.heap.size n).heap.size := by
  have hz : w.heap.size < (frozenW (w.alloc (.cells (Lib.byteCells L).toArray 5)) w.heap.size n).heap.size := by simp [frozenW, World.freeze]
  refine ⟨⟨by simp [Lib.byteCells, hn], fun h0 => ⟨_, _, rfl, hz, fun j u hu => ?_⟩⟩, frozenW_below ((Below.refl _ _).alloc (Nat.le_refl _) _) (Nat.le_refl _) _, hz⟩
  rw [Nat.zero_add, cell_of_row _ _ _ _ _ _ (frozenW_heap (Blk.new w 5 (Lib.byteCells L).toArray))]
  simpa using hu
theorem fread_three {w : World} (a b c d e f : ByteArray) : FRead (w.alloc (.cells #[.string a, .string b, .string c, .string d, .string e, .string f] 57)) (w.alloc (.cells #[.string a, .string b, .string c, .string d, .string e, .string f] 57)).heap.size (some ⟨w.heap.size, 0, none⟩) 3 [(a, b), (c, d), (e, f)] := by
  have hk := Blk.new w 57 #[.string a, .string b, .string c, .string d, .string e, .string f]
  refine ⟨rfl, fun _ => ⟨_, _, rfl, hk.lt, fun i x hf => ?_⟩⟩
  match i, hf with
  | 0, hf => simp at hf; subst hf; exact ⟨hk.cell 0, hk.cell 1⟩
  | 1, hf => simp at hf; subst hf; exact ⟨hk.cell 2, hk.cell 3⟩
  | 2, hf => simp at hf; subst hf; exact ⟨hk.cell 4, hk.cell 5⟩
  | i + 3, hf => simp at hf
set_option maxRecDepth 100000 in
set_option maxHeartbeats 4000000 in
theorem alive_any (w : World) (hm : MaxOk w) (hmg : maxG < w.heap.size) (he : ErrOk w) (heg : errG < w.heap.size) :
    Calls Tryd.prog 22 #[] w fun e w' => e = .returned (.bool true) ∧ Below w.heap.size w w' := by
  have HM := Lib.hid hm
  have HE := Lib.hid he
  clear hm he
  go_enter Tryd.func22, Tryd.ntmps22
  -- heads.Put
  have hf1 := fread_one (w := w) ⟨#[72, 111, 115, 116]⟩ ⟨#[104]⟩
  have hal : Below w.heap.size w (w.alloc (.cells #[.string ⟨#[72, 111, 115, 116]⟩, .string ⟨#[104]⟩] 57)) := (Below.refl _ _).alloc (Nat.le_refl _) _
  have hz0 : w.heap.size < (w.alloc (.cells #[.string ⟨#[72, 111, 115, 116]⟩, .string ⟨#[104]⟩] 57)).heap.size := by simp
  have HP1 := Lib.hid (hput_any ⟨#[71, 69, 84]⟩ ⟨#[47, 97, 63, 98]⟩ 0 _ none 1 1 0 0 _ _ hf1 (by intro f hf; rw [List.mem_singleton.1 hf]; decide) (by decide))
  have B1 := Lib.hid hal
  clear hf1 hal
  go_wp2_with fail
  refine (HP1.out).mono ?_
  rintro e w1 ⟨v1, rfl, ho1, hb1⟩
  rw [alPut_is.1, alPut_is.2] at *
  obtain ⟨A1, c1, rfl⟩ := own_form ho1
  have O1 := Lib.hid ho1
  have B2 := Lib.hid (B1.out.trans (hb1.mono (Nat.le_of_lt hz0)))
  have hzw1 : w.heap.size < w1.heap.size := Nat.lt_of_lt_of_le hz0 hb1.size
  clear ho1 hb1 HP1
  -- heads.Get
  obtain ⟨hL2, hB2, hz2⟩ := const_bytes alGet 30 rfl w1
  have kB := Blk.new w1 5 (Lib.byteCells alGet).toArray
  have hcv := run_same_conv Tryd.underlying24 Tryd.underlying5 kB 30 30
  have hsz : ((Lib.byteCells alGet).toArray).size = 30 := rfl
  rw [hsz] at hcv
  have B3 := Lib.hid (B2.out.trans (hB2.mono (Nat.le_of_lt hzw1)))
  have O3 := Lib.hid (own_below O1.out hB2)
  have HG := Lib.hid (hget_any w1.heap.size 0 30 30 alGet _ hL2 (by omega) (by omega) (HM.out.below B3.out hmg) (Nat.lt_of_lt_of_le hmg B3.out.size) (HE.out.below B3.out heg) (Nat.lt_of_lt_of_le heg B3.out.size))
  have hlit : (Lib.byteCells alGet).toArray = #[.int .u8 72, .int .u8 84, .int .u8 84, .int .u8 80, .int .u8 47, .int .u8 49, .int .u8 46, .int .u8 49, .int .u8 32, .int .u8 50, .int .u8 48, .int .u8 48, .int .u8 32, .int .u8 79, .int .u8 75, .int .u8 13, .int .u8 10, .int .u8 65, .int .u8 58, .int .u8 32, .int .u8 98, .int .u8 13, .int .u8 10, .int .u8 97, .int .u8 58, .int .u8 13, .int .u8 10, .int .u8 13, .int .u8 10, .int .u8 120] := rfl
  rw [hlit] at hcv HG B3 O3 hz2
  clear hL2 hB2 kB hsz hlit
  go_wp2_with fail
  refine (HG.out).mono ?_
  rintro e w3 ⟨⟨v3, rfl, ho3⟩, hb3⟩
  rw [alGet_is.1, alGet_is.2.1, alGet_is.2.2.1, alGet_is.2.2.2.1, alGet_is.2.2.2.2.1]
  rw [alGet_is.2.2.2.2.2] at ho3
  obtain ⟨bF, cF, rfl, _, hbF⟩ := ho3.form (by decide)
  have hfr := fread_own (fs := [(⟨#[65]⟩, ⟨#[98]⟩), (⟨#[97]⟩, ⟨#[]⟩)]) rfl ho3
  have O4 := Lib.hid (own_below O3.out hb3)
  have B4 := Lib.hid (B3.out.trans (hb3.mono (by omega)))
  have FR3 := Lib.hid hfr
  have hzw3 : w.heap.size < w3.heap.size := by have := hb3.size; omega
  clear hfr ho3 hb3 HG hcv hz2 B3 O3
  have hal : Below w3.heap.size w3 (w3.alloc (.cells #[.string ⟨#[]⟩, .string ⟨#[]⟩, .int .i64 200, .slice (some ⟨bF, 0, none⟩) 2 cF, .slice none 0 0] 26)) := (Below.refl _ _).alloc (Nat.le_refl _) _
  have hk3 := Blk.new w3 26 #[.string ⟨#[]⟩, .string ⟨#[]⟩, .int .i64 200, .slice (some ⟨bF, 0, none⟩) 2 cF, .slice none 0 0]
  have hz5 : w3.heap.size < (w3.alloc (.cells #[.string ⟨#[]⟩, .string ⟨#[]⟩, .int .i64 200, .slice (some ⟨bF, 0, none⟩) 2 cF, .slice none 0 0] 26)).heap.size := by simp
  have B5 := Lib.hid (B4.out.trans (hal.mono B4.out.size))
  have O5 := Lib.hid (own_below O4.out hal)
  have FR5 := Lib.hid ((FR3.out.below hal).more hal.size)
  have K5 := Lib.hid hk3
  have HP2 := Lib.hid (hput_any ⟨#[71, 32, 84]⟩ ⟨#[47]⟩ 0 none none 0 0 0 0 [] (w3.alloc (.cells #[.string ⟨#[]⟩, .string ⟨#[]⟩, .int .i64 200, .slice (some ⟨bF, 0, none⟩) 2 cF, .slice none 0 0] 26)) ⟨rfl, fun h => absurd h (by omega)⟩ (by intro f hf; cases hf) (by decide))
  clear hal hk3
  go_wp2_with fail
  refine (HP2.out).mono ?_
  rintro e w6 ⟨v6, rfl, _, hb6⟩
  rw [alNo_is.1]
  have hz6 : w3.heap.size < w6.heap.size := Nat.lt_of_lt_of_le hz5 hb6.size
  have B6 := Lib.hid (B5.out.trans (hb6.mono B5.out.size))
  have O6 := Lib.hid (own_below O5.out hb6)
  have FR6 := Lib.hid ((FR5.out.below hb6).more hb6.size)
  have K6 := Lib.hid (K5.out.below hb6 hz5)
  clear hb6 HP2
  -- heads.Find
  have hf3 := fread_three (w := w6) ⟨#[65]⟩ ⟨#[49]⟩ ⟨#[98]⟩ ⟨#[50]⟩ ⟨#[97]⟩ ⟨#[51]⟩
  have hal : Below w6.heap.size w6 (w6.alloc (.cells #[.string ⟨#[65]⟩, .string ⟨#[49]⟩, .string ⟨#[98]⟩, .string ⟨#[50]⟩, .string ⟨#[97]⟩, .string ⟨#[51]⟩] 57)) := (Below.refl _ _).alloc (Nat.le_refl _) _
  have hz7 : w6.heap.size < (w6.alloc (.cells #[.string ⟨#[65]⟩, .string ⟨#[49]⟩, .string ⟨#[98]⟩, .string ⟨#[50]⟩, .string ⟨#[97]⟩, .string ⟨#[51]⟩] 57)).heap.size := by simp
  have B7 := Lib.hid (B6.out.trans (hal.mono B6.out.size))
  have O7 := Lib.hid (own_below O6.out hal)
  have FR7 := Lib.hid ((FR6.out.below hal).more hal.size)
  have K7 := Lib.hid (K6.out.below hal hz6)
  have HF := Lib.hid (find_any _ 3 3 _ ⟨#[65]⟩ _ hf3 (by omega) (by decide) (by intro f hf; simp at hf; rcases hf with rfl | rfl | rfl <;> decide))
  clear hf3 hal
  go_wp2_with fail
  refine (HF.out).mono ?_
  rintro e w8 ⟨⟨v8, rfl, ho8⟩, hb8⟩
  rw [alFind_is] at ho8
  obtain ⟨A8, c8, rfl⟩ := own_form ho8
  have hz8 : w3.heap.size < w8.heap.size := Nat.lt_of_lt_of_le (Nat.lt_trans hz6 hz7) hb8.size
  have B8 := Lib.hid (B7.out.trans (hb8.mono B7.out.size))
  have hL8 := Lies.of_own (own_below O7.out hb8)
  have hfr8 := (FR7.out.below hb8).more hb8.size
  have hk8 := K7.out.below hb8 (Nat.lt_trans hz6 hz7)
  have hL9 := Lies.of_own ho8
  clear ho8 hb8 HF
  have m2 := hk8.cell 2
  have m3 := hk8.cell 3
  simp at m2 m3
  have q0 := (hfr8.2 (by decide))
  obtain ⟨b', o', e', _, hcc⟩ := q0
  injection e' with e'
  injection e' with e1 e2
  subst e1
  subst e2
  have r0 := (hcc 0 _ rfl).1
  have r1 := (hcc 0 _ rfl).2
  have r2 := (hcc 1 _ rfl).1
  have r3 := (hcc 1 _ rfl).2
  simp only [Nat.zero_mul, Nat.add_zero, Nat.zero_add, Nat.one_mul] at r0 r1 r2 r3
  have hcv : (convert 24 9 (.slice A1 alPut.length c1)).run Tryd.prog w8 = .ok (.string ⟨alPut.toArray⟩) w8 := by
    obtain ⟨b1, o1, rfl, _, hc1⟩ := hL8.2 (by decide)
    exact run_convert_bytes_back (P := Tryd.prog) w8 24 9 5 ⟨b1, o1, none⟩ c1 alPut Tryd.underlying24 Tryd.underlying5 Tryd.underlying9 (fun j hj => by
      rw [Addr.add_lit]
      refine hc1 j _ ?_
      unfold Lib.byteCells
      rw [List.getElem?_map, List.getElem?_eq_getElem hj]
      rfl)
  have hpl : (⟨alPut.toArray⟩ : ByteArray) = ⟨#[71, 69, 84, 32, 47, 97, 63, 98, 32, 72, 84, 84, 80, 47, 49, 46, 49, 13, 10, 72, 111, 115, 116, 58, 32, 104, 13, 10, 13, 10]⟩ := rfl
  rw [hpl] at hcv
  have HL9 := Lib.hid hL9
  clear hL8 hfr8 hk8 hL9 hcc hpl
  go_wp2_with fail
  -- law01.SameTexts
  have hal : Below w8.heap.size w8 (w8.alloc (.cells #[.string ⟨#[49]⟩, .string ⟨#[51]⟩] 9)) := (Below.refl _ _).alloc (Nat.le_refl _) _
  have hz9 : w8.heap.size < (w8.alloc (.cells #[.string ⟨#[49]⟩, .string ⟨#[51]⟩] 9)).heap.size := by simp
  have hnew : Lies (w8.alloc (.cells #[.string ⟨#[49]⟩, .string ⟨#[51]⟩] 9)) (w8.alloc (.cells #[.string ⟨#[49]⟩, .string ⟨#[51]⟩] 9)).heap.size (some ⟨w8.heap.size, 0, none⟩) 2 [.string ⟨#[49]⟩, .string ⟨#[51]⟩] := by
    have hb := Blk.new w8 9 #[.string ⟨#[49]⟩, .string ⟨#[51]⟩]
    refine ⟨rfl, fun _ => ⟨_, _, rfl, hz9, fun j u hu => ?_⟩⟩
    rw [Nat.zero_add, hb.cell j]
    simpa using hu
  have HS := Lib.hid (sametexts_any A8 (some ⟨w8.heap.size, 0, none⟩) 2 c8 2 _ [⟨#[49]⟩, ⟨#[51]⟩] _ ((HL9.out.below hal).more (Nat.le_of_lt hz9)) hnew (by decide))
  have B9 := Lib.hid (B8.out.trans (hal.mono B8.out.size))
  clear hal hnew
  go_wp2_with fail
  refine (HS.out).mono ?_
  rintro e w9 ⟨rfl, q9, rfl⟩
  have hb9 := below_drewN B9.out q9
  generalize (w8.alloc (.cells #[.string ⟨#[49]⟩, .string ⟨#[51]⟩] 9)).drewN q9 = w10 at hb9 ⊢
  have B10 := Lib.hid hb9
  clear hb9 HS
  -- bad
  have HB1 := Lib.hid (bad_any _ 7 w10 (by decide) alBad1_is (by decide) (HM.out.below B10.out hmg) (Nat.lt_of_lt_of_le hmg B10.out.size) (HE.out.below B10.out heg) (Nat.lt_of_lt_of_le heg B10.out.size))
  go_wp2_with fail
  refine (HB1.out).mono ?_
  rintro e w11 ⟨rfl, hbw11⟩
  have B11 := Lib.hid (B10.out.trans (hbw11.mono B10.out.size))
  clear hbw11 HB1
  have HB2 := Lib.hid (bad_any _ 8 w11 (by decide) alBad2_is (by decide) (HM.out.below B11.out hmg) (Nat.lt_of_lt_of_le hmg B11.out.size) (HE.out.below B11.out heg) (Nat.lt_of_lt_of_le heg B11.out.size))
  go_wp2_with fail
  refine (HB2.out).mono ?_
  rintro e w12 ⟨rfl, hbw12⟩
  have B12 := Lib.hid (B11.out.trans (hbw12.mono B11.out.size))
  clear hbw12 HB2
  have HB3 := Lib.hid (bad_any _ 8 w12 (by decide) alBad3_is (by decide) (HM.out.below B12.out hmg) (Nat.lt_of_lt_of_le hmg B12.out.size) (HE.out.below B12.out heg) (Nat.lt_of_lt_of_le heg B12.out.size))
  go_wp2_with fail
  refine (HB3.out).mono ?_
  rintro e w13 ⟨rfl, hbw13⟩
  have B13 := Lib.hid (B12.out.trans (hbw13.mono B12.out.size))
  clear hbw13 HB3
  go_wp2_with fail
  go_ret
  exact ⟨rfl, B13.out⟩
end Go.Proofs.YtonlfplloenfcaaDoor
namespace Go.Proofs.YtonlfplloenfcaaDoor
open Go.RowKit

theorem add_data (a b : ByteArray) : (a ++ b).data.toList = a.data.toList ++ b.data.toList := by simp
theorem lines_first (s t : ByteArray) (c : UInt8) (hs : ∀ x ∈ s.data.toList, 32 ≤ x.toNat) (ht : ∀ x ∈ t.data.toList, 32 ≤ x.toNat) (hc : c.toNat < 32 ∧ c ≠ 9 ∨ c = 127) (hl : s.size + t.size ≤ 60000) :
    gE statusK ((⟨#[72, 84, 84, 80, 47, 49, 46, 49, 32, 50, 48, 48, 32]⟩ : ByteArray) ++ s ++ ⟨#[c]⟩ ++ t ++ ⟨#[13, 10, 13, 10]⟩).data.toList = 8 := by
  rw [add_data, add_data, add_data, add_data]
  exact bad_first _ _ c hs ht hc hl
theorem lines_value (s t : ByteArray) (c : UInt8) (hs : ∀ x ∈ s.data.toList, 32 ≤ x.toNat) (ht : ∀ x ∈ t.data.toList, 32 ≤ x.toNat) (hc : c.toNat < 32 ∧ c ≠ 9 ∨ c = 127) (hl : s.size + t.size ≤ 60000) :
    gE statusK ((⟨#[72, 84, 84, 80, 47, 49, 46, 49, 32, 50, 48, 48, 13, 10, 65, 58, 32]⟩ : ByteArray) ++ s ++ ⟨#[c]⟩ ++ t ++ ⟨#[33, 13, 10, 13, 10]⟩).data.toList = 8 := by
  rw [add_data, add_data, add_data, add_data]
  exact bad_value _ _ c hs ht hc hl
theorem lines_name (c : UInt8) (hc : c.toNat < 32 ∧ c ≠ 9 ∨ c = 127) :
    gE statusK ((⟨#[72, 84, 84, 80, 47, 49, 46, 49, 32, 50, 48, 48, 13, 10]⟩ : ByteArray) ++ ⟨#[c]⟩ ++ ⟨#[65, 58, 13, 10, 13, 10]⟩).data.toList = 8 := by
  rw [add_data, add_data]
  exact bad_name c hc
theorem size_add (a b : ByteArray) : (a ++ b).size = a.size + b.size := ByteArray.size_append

set_option maxRecDepth 100000 in
set_option maxHeartbeats 4000000 in
theorem headslines_any (c : UInt8) (s t : ByteArray) (w : World) (hs : s.size ≤ 140737488355328) (ht : t.size ≤ 140737488355328) (hm : MaxOk w) (hmg : maxG < w.heap.size) (he : ErrOk w) (heg : errG < w.heap.size) :
    Calls Tryd.prog 5 #[.int .u8 (c.toNat : Int), .string s, .string t] w fun e w' => e = .returned (.bool true) ∧ Below w.heap.size w w' := by
  have HA := Lib.hid (fun (W : World) (hb : Below w.heap.size w W) => alive_any W (hm.below hb hmg) (Nat.lt_of_lt_of_le hmg hb.size) (he.below hb heg) (Nat.lt_of_lt_of_le heg hb.size))
  have HBAD := Lib.hid (fun (x : ByteArray) (W : World) (hb : Below w.heap.size w W) (hx : gE statusK x.data.toList = 8) (hz : x.size ≤ 200000) => bad_any x 8 W hz hx (by decide) (hm.below hb hmg) (Nat.lt_of_lt_of_le hmg hb.size) (he.below hb heg) (Nat.lt_of_lt_of_le heg hb.size))
  clear hm he
  have hsum : ¬ 9223372036854775807 < s.size + t.size := by omega
  go_enter Tryd.func5, Tryd.ntmps5
  go_wp2_with fail
  obtain ⟨all, hall⟩ : ∃ all, s ++ t = all := ⟨_, rfl⟩
  rw [hall]
  have hsz : all.size = s.size + t.size := by rw [← hall]; exact size_add s t
  have hin : ∀ x, x ∈ s.data.toList ∨ x ∈ t.data.toList → x ∈ all.data.toList := fun x hx => by
    rw [← hall, add_data]
    exact List.mem_append.2 hx
  have HSZ := Lib.hid hsz
  have HIN := Lib.hid hin
  have halln : all.size ≤ 281474976710656 := by omega
  clear hsz hin hall
  go_loopw [8] (fun i wr => ∃ k : Nat, k ≤ all.size ∧ i = .int .i64 k ∧ Hid (∀ x ∈ all.data.toList.take k, 32 ≤ x.toNat) ∧ wr = w) (fun i _ => all.size - (intOf i).toNat)
  case atStart => exact ⟨0, Nat.zero_le _, rfl, by simp [Hid], rfl⟩
  case round =>
    obtain ⟨k, hk, rfl, hp, hw⟩ := hrel
    subst hw
    by_cases hlt : k < all.size
    · have hx : all.data.toList.take (k + 1) = all.data.toList.take k ++ [all[k]] := take_byte all k hlt
      have HX := Lib.hid hx
      clear hx
      by_cases h1 : (all[k].toNat : Int) < 32
      · have d1 : decide ((all[k].toNat : Int) < 32) = true := decide_eq_true h1
        go_wp2_with fail
        refine (HA.out _ (Below.refl _ _)).mono ?_
        rintro e w1 ⟨rfl, hb1⟩
        go_wp2_with fail
        go_ret
        exact ⟨rfl, hb1⟩
      · have d1 : decide ((all[k].toNat : Int) < 32) = false := decide_eq_false h1
        cases d2 : ((all[k].toNat : Int) == 127) with
        | true =>
          go_wp2_with fail
          refine (HA.out _ (Below.refl _ _)).mono ?_
          rintro e w1 ⟨rfl, hb1⟩
          go_wp2_with fail
          go_ret
          exact ⟨rfl, hb1⟩
        | false =>
          go_wp2_with fail
          go_roundw
          case rel =>
            refine ⟨k + 1, by omega, by go_num, fun x hx => ?_, by first | rfl | trivial⟩
            rw [HX.out] at hx
            rcases List.mem_append.1 hx with h | h
            · exact hp.out x h
            · rw [List.mem_singleton.1 h]; omega
          case measure => simp [intOf]; omega
    · obtain rfl : k = all.size := by omega
      have hall32 : ∀ x ∈ all.data.toList, 32 ≤ x.toNat := fun x hx => hp.out x (by rw [List.take_of_length_le (by simp)]; exact hx)
      have H32 := Lib.hid hall32
      clear hall32 hp
      by_cases hA : (32 : Int) ≤ (c.toNat : Int) ∧ (c.toNat : Int) ≠ 127
      · have d1 : decide ((32 : Int) ≤ (c.toNat : Int)) = true := decide_eq_true hA.1
        have d2 : ((c.toNat : Int) != 127) = true := by simp [hA.2]
        clear hA
        go_wp2_with fail
        refine (HA.out _ (Below.refl _ _)).mono ?_
        rintro e w1 ⟨rfl, hb1⟩
        go_wp2_with fail
        go_ret
        exact ⟨rfl, hb1⟩
      have hodd : (c.toNat : Int) < 32 ∨ (c.toNat : Int) = 127 := by omega
      have dA : decide ((32 : Int) ≤ (c.toNat : Int)) = false ∨ (decide ((32 : Int) ≤ (c.toNat : Int)) = true ∧ ((c.toNat : Int) != 127) = false) := by
        rcases hodd with h | h
        · exact .inl (decide_eq_false (by omega))
        · exact .inr ⟨decide_eq_true (by omega), by simp [h]⟩
      cases h9 : ((c.toNat : Int) == 9) with
      | true =>
        have h9' : (c.toNat : Int) = 9 := by simpa using h9
        have d1 : decide ((32 : Int) ≤ (c.toNat : Int)) = false := decide_eq_false (by omega)
        clear hA hodd dA h9'
        go_wp2_with fail
        refine (HA.out _ (Below.refl _ _)).mono ?_
        rintro e w1 ⟨rfl, hb1⟩
        go_wp2_with fail
        go_ret
        exact ⟨rfl, hb1⟩
      | false =>
      have hc9 : (c.toNat : Int) ≠ 9 := by simpa using h9
      have hc : c.toNat < 32 ∧ c ≠ 9 ∨ c = 127 := by
        rcases hodd with h | h
        · refine .inl ⟨by omega, fun e => ?_⟩
          subst e
          exact hc9 rfl
        · exact .inr (UInt8.toNat_inj.1 (by show c.toNat = 127; omega))
      have HC := Lib.hid hc
      clear hA hodd hc9 hc
      by_cases hbig : 60000 < all.size
      · have d3 : decide ((60000 : Int) < (all.size : Int)) = true := decide_eq_true (by omega)
        rcases dA with d1 | ⟨d1, d2⟩
        · go_wp2_with fail
          refine (HA.out _ (Below.refl _ _)).mono ?_
          rintro e w1 ⟨rfl, hb1⟩
          go_wp2_with fail
          go_ret
          exact ⟨rfl, hb1⟩
        · go_wp2_with fail
          refine (HA.out _ (Below.refl _ _)).mono ?_
          rintro e w1 ⟨rfl, hb1⟩
          go_wp2_with fail
          go_ret
          exact ⟨rfl, hb1⟩
      · have d3 : decide ((60000 : Int) < (all.size : Int)) = false := decide_eq_false (by omega)
        have hsz : s.size + t.size ≤ 60000 := by rw [← HSZ.out]; omega
        have hs32 : ∀ x ∈ s.data.toList, 32 ≤ x.toNat := fun x hx => H32.out x (HIN.out x (.inl hx))
        have ht32 : ∀ x ∈ t.data.toList, 32 ≤ x.toNat := fun x hx => H32.out x (HIN.out x (.inr hx))
        have L1 := Lib.hid (lines_first s t c hs32 ht32 HC.out hsz)
        have L2 := Lib.hid (lines_value s t c hs32 ht32 HC.out hsz)
        have L3 := Lib.hid (lines_name c HC.out)
        have Z1 : Hid (((⟨#[72, 84, 84, 80, 47, 49, 46, 49, 32, 50, 48, 48, 32]⟩ : ByteArray) ++ s ++ ⟨#[c]⟩ ++ t ++ ⟨#[13, 10, 13, 10]⟩).size ≤ 200000) := by
          show _ ≤ _
          rw [size_add, size_add, size_add, size_add]
          show 13 + s.size + 1 + t.size + 4 ≤ 200000
          omega
        have Z2 : Hid (((⟨#[72, 84, 84, 80, 47, 49, 46, 49, 32, 50, 48, 48, 13, 10, 65, 58, 32]⟩ : ByteArray) ++ s ++ ⟨#[c]⟩ ++ t ++ ⟨#[33, 13, 10, 13, 10]⟩).size ≤ 200000) := by
          show _ ≤ _
          rw [size_add, size_add, size_add, size_add]
          show 17 + s.size + 1 + t.size + 5 ≤ 200000
          omega
        have Z3 : Hid (((⟨#[72, 84, 84, 80, 47, 49, 46, 49, 32, 50, 48, 48, 13, 10]⟩ : ByteArray) ++ ⟨#[c]⟩ ++ ⟨#[65, 58, 13, 10, 13, 10]⟩).size ≤ 200000) := by
          show _ ≤ _
          rw [size_add, size_add]
          show 14 + 1 + 6 ≤ 200000
          omega
        clear hs32 ht32 HIN H32
        have hB : Below wr.heap.size wr (wr.alloc (.cells #[.int .u8 (c.toNat : Int)] 5)) := (Below.refl _ _).alloc (Nat.le_refl _) _
        have hkb := Blk.new wr 5 #[.int .u8 (c.toNat : Int)]
        have hcv : (convert 24 9 (.slice (some ⟨wr.heap.size, 0, none⟩) 1 1)).run Tryd.prog (wr.alloc (.cells #[.int .u8 (c.toNat : Int)] 5)) = .ok (.string ⟨#[c]⟩) (wr.alloc (.cells #[.int .u8 (c.toNat : Int)] 5)) := by
          exact run_convert_bytes_back (P := Tryd.prog) _ 24 9 5 ⟨wr.heap.size, 0, none⟩ 1 [c] Tryd.underlying24 Tryd.underlying5 Tryd.underlying9 (fun j hj => by
            have : j = 0 := by simpa using hj
            subst this
            rw [Addr.add_lit, hkb.cell]
            rfl)
        have HB := Lib.hid hB
        have hz1 : ¬ 9223372036854775807 < 13 + s.size := by omega
        have hz2 : ¬ 9223372036854775807 < 17 + s.size := by omega
        clear hkb hB
        have hz3 : ¬ 9223372036854775807 < 13 + s.size + 1 := by omega
        have hz4 : ¬ 9223372036854775807 < 13 + s.size + 1 + t.size := by omega
        have hz5 : ¬ 9223372036854775807 < 13 + s.size + 1 + t.size + 4 := by omega
        have hz6 : ¬ 9223372036854775807 < 17 + s.size + 1 := by omega
        have hz7 : ¬ 9223372036854775807 < 17 + s.size + 1 + t.size := by omega
        have hz8 : ¬ 9223372036854775807 < 17 + s.size + 1 + t.size + 5 := by omega
        rcases dA with d1 | ⟨d1, d2⟩
        all_goals
          go_wp2_with fail
          refine (HA.out _ HB.out).mono ?_
          rintro e w1 ⟨rfl, hb1⟩
          have B1 := Lib.hid (HB.out.trans (hb1.mono HB.out.size))
          clear hb1 hcv
          go_wp2_with fail
          trace_state
          refine (HBAD.out _ w1 B1.out L1.out Z1.out).mono ?_
          rintro e w2 ⟨rfl, hb2⟩
          have B2 := Lib.hid (B1.out.trans (hb2.mono B1.out.size))
          clear hb2
          go_wp2_with fail
          refine (HBAD.out _ w2 B2.out L2.out Z2.out).mono ?_
          rintro e w3 ⟨rfl, hb3⟩
          have B3 := Lib.hid (B2.out.trans (hb3.mono B2.out.size))
          clear hb3
          go_wp2_with fail
          refine (HBAD.out _ w3 B3.out L3.out Z3.out).mono ?_
          rintro e w4 ⟨rfl, hb4⟩
          have B4 := Lib.hid (B3.out.trans (hb4.mono B3.out.size))
          clear hb4
          go_wp2_with fail
          go_ret
          exact ⟨rfl, B4.out⟩
end Go.Proofs.YtonlfplloenfcaaDoor
