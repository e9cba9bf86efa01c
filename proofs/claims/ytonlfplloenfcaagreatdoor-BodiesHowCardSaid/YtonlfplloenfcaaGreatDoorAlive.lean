/-
  footmanlaw12.alive: the answers that the document fixes.
-/
import Derived.Test.YtonlfplloenfcaaGreatDoorHRequestEtc
import Derived.Test.YtonlfplloenfcaaGreatDoorHPutEtc
import Derived.Test.YtonlfplloenfcaaGreatDoorFindEtc
namespace Go.Proofs.YtonlfplloenfcaaGreatDoor
open Go.RowKit

def bHost : ByteArray := ⟨#[72, 111, 115, 116]⟩
def bh : ByteArray := ⟨#[104]⟩
theorem fread_one {w : World} (a b : ByteArray) : FRead (w.alloc (.cells #[.string a, .string b] 63)) (w.alloc (.cells #[.string a, .string b] 63)).heap.size (some ⟨w.heap.size, 0, none⟩) 1 [(a, b)] := by
  have hk := Blk.new w 63 #[.string a, .string b]
  refine ⟨rfl, fun _ => ⟨_, _, rfl, hk.lt, fun i f hf => ?_⟩⟩
  match i, hf with
  | 0, hf =>
    simp at hf
    subst hf
    exact ⟨hk.cell 0, hk.cell 1⟩
  | i + 1, hf => simp at hf

def alPut : List UInt8 := [71, 69, 84, 32, 47, 97, 63, 98, 32, 72, 84, 84, 80, 47, 49, 46, 49, 13, 10, 72, 111, 115, 116, 58, 32, 104, 13, 10, 13, 10]
def alGet : List UInt8 := [72, 84, 84, 80, 47, 49, 46, 49, 32, 50, 48, 48, 32, 79, 75, 13, 10, 65, 58, 32, 98, 13, 10, 97, 58, 13, 10, 13, 10, 120]
theorem alPut_is : headE ⟨#[71, 69, 84]⟩ ⟨#[47, 97, 63, 98]⟩ [(⟨#[72, 111, 115, 116]⟩, ⟨#[104]⟩)] = 0 ∧ headO ⟨#[71, 69, 84]⟩ ⟨#[47, 97, 63, 98]⟩ [(⟨#[72, 111, 115, 116]⟩, ⟨#[104]⟩)] = alPut := by decide +kernel
theorem alGet_is : gE statusK alGet = 0 ∧ gN statusK alGet = 29 ∧ gS statusK alGet = 200 ∧ gM statusK alGet = ⟨#[]⟩ ∧ gT statusK alGet = ⟨#[]⟩ ∧ gF statusK alGet = [(⟨#[65]⟩, ⟨#[98]⟩), (⟨#[97]⟩, ⟨#[]⟩)] := by decide +kernel
theorem alNo_is : headE ⟨#[71, 32, 84]⟩ ⟨#[47]⟩ [] = 1 ∧ headO ⟨#[71, 32, 84]⟩ ⟨#[47]⟩ [] = [] := by decide +kernel
theorem alFind_is : findB [(⟨#[65]⟩, ⟨#[49]⟩), (⟨#[98]⟩, ⟨#[50]⟩), (⟨#[97]⟩, ⟨#[51]⟩)] ⟨#[65]⟩ = [⟨#[49]⟩, ⟨#[51]⟩] := by decide +kernel
theorem alBad1_is : gE statusK (⟨#[72, 84, 84, 80, 47, 49, 46, 49, 32, 50, 48, 48, 13, 10]⟩ : ByteArray).data.toList = 7 := by decide +kernel
theorem alBad2_is : gE statusK (⟨#[72, 84, 84, 80, 47, 50, 32, 50, 48, 48, 13, 10, 13, 10]⟩ : ByteArray).data.toList = 8 := by decide +kernel
theorem alBad3_is : gE statusK (⟨#[72, 84, 84, 80, 47, 49, 46, 49, 32, 50, 48, 48, 13, 10, 32, 97, 58, 32, 98, 13, 10, 13, 10]⟩ : ByteArray).data.toList = 8 := by decide +kernel
theorem const_bytes (L : List UInt8) (n : Nat) (hn : L.length = n) (w : World) :
    Lies (frozenW (w.alloc (.cells (Lib.byteCells L).toArray 5)) w.heap.size n) (frozenW (w.alloc (.cells (Lib.byteCells L).toArray 5)) w.heap.size n).heap.size (some ⟨w.heap.size, 0, none⟩) n (Lib.byteCells L) ∧
      Below w.heap.size w (frozenW (w.alloc (.cells (Lib.byteCells L).toArray 5)) w.heap.size n) ∧ w.heap.size < (frozenW (w.alloc (.cells (Lib.byteCells L).toArray 5)) w.heap.size n).heap.size := by
  have hz : w.heap.size < (frozenW (w.alloc (.cells (Lib.byteCells L).toArray 5)) w.heap.size n).heap.size := by simp [frozenW, World.freeze]
  refine ⟨⟨by simp [Lib.byteCells, hn], fun h0 => ⟨_, _, rfl, hz, fun j u hu => ?_⟩⟩, frozenW_below ((Below.refl _ _).alloc (Nat.le_refl _) _) (Nat.le_refl _) _, hz⟩
  rw [Nat.zero_add, cell_of_row _ _ _ _ _ _ (frozenW_heap (Blk.new w 5 (Lib.byteCells L).toArray))]
  simpa using hu
theorem fread_three {w : World} (a b c d e f : ByteArray) : FRead (w.alloc (.cells #[.string a, .string b, .string c, .string d, .string e, .string f] 63)) (w.alloc (.cells #[.string a, .string b, .string c, .string d, .string e, .string f] 63)).heap.size (some ⟨w.heap.size, 0, none⟩) 3 [(a, b), (c, d), (e, f)] := by
  have hk := Blk.new w 63 #[.string a, .string b, .string c, .string d, .string e, .string f]
  refine ⟨rfl, fun _ => ⟨_, _, rfl, hk.lt, fun i x hf => ?_⟩⟩
  match i, hf with
  | 0, hf => simp at hf; subst hf; exact ⟨hk.cell 0, hk.cell 1⟩
  | 1, hf => simp at hf; subst hf; exact ⟨hk.cell 2, hk.cell 3⟩
  | 2, hf => simp at hf; subst hf; exact ⟨hk.cell 4, hk.cell 5⟩
  | i + 3, hf => simp at hf
set_option maxRecDepth 100000 in
set_option maxHeartbeats 4000000 in
theorem alive_any (w : World) (hm : MaxOk w) (hmg : maxG < w.heap.size) (he : ErrOk w) (heg : errG < w.heap.size) :
    Calls Tryz.prog 44 #[] w fun e w' => e = .returned (.bool true) ∧ Below w.heap.size w w' := by
  have HM := Lib.hid hm
  have HE := Lib.hid he
  clear hm he
  go_enter Tryz.func44, Tryz.ntmps44
  -- heads.Put
  have hf1 := fread_one (w := w) ⟨#[72, 111, 115, 116]⟩ ⟨#[104]⟩
  have hal : Below w.heap.size w (w.alloc (.cells #[.string ⟨#[72, 111, 115, 116]⟩, .string ⟨#[104]⟩] 63)) := (Below.refl _ _).alloc (Nat.le_refl _) _
  have hz0 : w.heap.size < (w.alloc (.cells #[.string ⟨#[72, 111, 115, 116]⟩, .string ⟨#[104]⟩] 63)).heap.size := by simp
  have HP1 := Lib.hid (hput_any ⟨#[71, 69, 84]⟩ ⟨#[47, 97, 63, 98]⟩ 0 _ none 1 1 0 0 _ _ hf1 (by intro f hf; rw [List.mem_singleton.1 hf]; decide) (by decide))
  have B1 := Lib.hid hal
  clear hf1 hal
  go_wp2_with fail
  refine (HP1.out).mono ?_
  rintro e w1 ⟨v1, rfl, ho1, hb1⟩
  rw [alPut_is.1, alPut_is.2] at *
  obtain ⟨A1, c1, rfl⟩ := own_form ho1
  have O1 := Lib.hid ho1
  have B2 := Lib.hid (B1.out.trans (hb1.mono (Nat.le_of_lt hz0)))
  have hzw1 : w.heap.size < w1.heap.size := Nat.lt_of_lt_of_le hz0 hb1.size
  clear ho1 hb1 HP1
  -- heads.Get
  obtain ⟨hL2, hB2, hz2⟩ := const_bytes alGet 30 rfl w1
  have kB := Blk.new w1 5 (Lib.byteCells alGet).toArray
  have hcv := run_same_conv Tryz.underlying23 Tryz.underlying5 kB 30 30
  have hsz : ((Lib.byteCells alGet).toArray).size = 30 := rfl
  rw [hsz] at hcv
  have B3 := Lib.hid (B2.out.trans (hB2.mono (Nat.le_of_lt hzw1)))
  have O3 := Lib.hid (own_below O1.out hB2)
  have HG := Lib.hid (hget_any w1.heap.size 0 30 30 alGet _ hL2 (by omega) (by omega) (HM.out.below B3.out hmg) (Nat.lt_of_lt_of_le hmg B3.out.size) (HE.out.below B3.out heg) (Nat.lt_of_lt_of_le heg B3.out.size))
  have hlit : (Lib.byteCells alGet).toArray = #[.int .u8 72, .int .u8 84, .int .u8 84, .int .u8 80, .int .u8 47, .int .u8 49, .int .u8 46, .int .u8 49, .int .u8 32, .int .u8 50, .int .u8 48, .int .u8 48, .int .u8 32, .int .u8 79, .int .u8 75, .int .u8 13, .int .u8 10, .int .u8 65, .int .u8 58, .int .u8 32, .int .u8 98, .int .u8 13, .int .u8 10, .int .u8 97, .int .u8 58, .int .u8 13, .int .u8 10, .int .u8 13, .int .u8 10, .int .u8 120] := rfl
  rw [hlit] at hcv HG B3 O3 hz2
  clear hL2 hB2 kB hsz hlit
  go_wp2_with fail
  refine (HG.out).mono ?_
  rintro e w3 ⟨⟨v3, rfl, ho3⟩, hb3⟩
  rw [alGet_is.1, alGet_is.2.1, alGet_is.2.2.1, alGet_is.2.2.2.1, alGet_is.2.2.2.2.1]
  rw [alGet_is.2.2.2.2.2] at ho3
  obtain ⟨bF, cF, rfl, _, hbF⟩ := ho3.form (by decide)
  have hfr := fread_own (fs := [(⟨#[65]⟩, ⟨#[98]⟩), (⟨#[97]⟩, ⟨#[]⟩)]) rfl ho3
  have O4 := Lib.hid (own_below O3.out hb3)
  have B4 := Lib.hid (B3.out.trans (hb3.mono (by omega)))
  have FR3 := Lib.hid hfr
  have hzw3 : w.heap.size < w3.heap.size := by have := hb3.size; omega
  clear hfr ho3 hb3 HG hcv hz2 B3 O3
  have hal : Below w3.heap.size w3 (w3.alloc (.cells #[.string ⟨#[]⟩, .string ⟨#[]⟩, .int .i64 200, .slice (some ⟨bF, 0, none⟩) 2 cF, .slice none 0 0] 25)) := (Below.refl _ _).alloc (Nat.le_refl _) _
  have hk3 := Blk.new w3 25 #[.string ⟨#[]⟩, .string ⟨#[]⟩, .int .i64 200, .slice (some ⟨bF, 0, none⟩) 2 cF, .slice none 0 0]
  have hz5 : w3.heap.size < (w3.alloc (.cells #[.string ⟨#[]⟩, .string ⟨#[]⟩, .int .i64 200, .slice (some ⟨bF, 0, none⟩) 2 cF, .slice none 0 0] 25)).heap.size := by simp
  have B5 := Lib.hid (B4.out.trans (hal.mono B4.out.size))
  have O5 := Lib.hid (own_below O4.out hal)
  have FR5 := Lib.hid ((FR3.out.below hal).more hal.size)
  have K5 := Lib.hid hk3
  have HP2 := Lib.hid (hput_any ⟨#[71, 32, 84]⟩ ⟨#[47]⟩ 0 none none 0 0 0 0 [] (w3.alloc (.cells #[.string ⟨#[]⟩, .string ⟨#[]⟩, .int .i64 200, .slice (some ⟨bF, 0, none⟩) 2 cF, .slice none 0 0] 25)) ⟨rfl, fun h => absurd h (by omega)⟩ (by intro f hf; cases hf) (by decide))
  clear hal hk3
  go_wp2_with fail
  refine (HP2.out).mono ?_
  rintro e w6 ⟨v6, rfl, _, hb6⟩
  rw [alNo_is.1]
  have hz6 : w3.heap.size < w6.heap.size := Nat.lt_of_lt_of_le hz5 hb6.size
  have B6 := Lib.hid (B5.out.trans (hb6.mono B5.out.size))
  have O6 := Lib.hid (own_below O5.out hb6)
  have FR6 := Lib.hid ((FR5.out.below hb6).more hb6.size)
  have K6 := Lib.hid (K5.out.below hb6 hz5)
  clear hb6 HP2
  -- heads.Find
  have hf3 := fread_three (w := w6) ⟨#[65]⟩ ⟨#[49]⟩ ⟨#[98]⟩ ⟨#[50]⟩ ⟨#[97]⟩ ⟨#[51]⟩
  have hal : Below w6.heap.size w6 (w6.alloc (.cells #[.string ⟨#[65]⟩, .string ⟨#[49]⟩, .string ⟨#[98]⟩, .string ⟨#[50]⟩, .string ⟨#[97]⟩, .string ⟨#[51]⟩] 63)) := (Below.refl _ _).alloc (Nat.le_refl _) _
  have hz7 : w6.heap.size < (w6.alloc (.cells #[.string ⟨#[65]⟩, .string ⟨#[49]⟩, .string ⟨#[98]⟩, .string ⟨#[50]⟩, .string ⟨#[97]⟩, .string ⟨#[51]⟩] 63)).heap.size := by simp
  have B7 := Lib.hid (B6.out.trans (hal.mono B6.out.size))
  have O7 := Lib.hid (own_below O6.out hal)
  have FR7 := Lib.hid ((FR6.out.below hal).more hal.size)
  have K7 := Lib.hid (K6.out.below hal hz6)
  have HF := Lib.hid (find_any _ 3 3 _ ⟨#[65]⟩ _ hf3 (by omega) (by decide) (by intro f hf; simp at hf; rcases hf with rfl | rfl | rfl <;> decide))
  clear hf3 hal
  go_wp2_with fail
  refine (HF.out).mono ?_
  rintro e w8 ⟨⟨v8, rfl, ho8⟩, hb8⟩
  rw [alFind_is] at ho8
  obtain ⟨A8, c8, rfl⟩ := own_form ho8
  have hz8 : w3.heap.size < w8.heap.size := Nat.lt_of_lt_of_le (Nat.lt_trans hz6 hz7) hb8.size
  have B8 := Lib.hid (B7.out.trans (hb8.mono B7.out.size))
  have hL8 := Lies.of_own (own_below O7.out hb8)
  have hfr8 := (FR7.out.below hb8).more hb8.size
  have hk8 := K7.out.below hb8 (Nat.lt_trans hz6 hz7)
  have hL9 := Lies.of_own ho8
  clear ho8 hb8 HF
  have m2 := hk8.cell 2
  have m3 := hk8.cell 3
  simp at m2 m3
  have q0 := (hfr8.2 (by decide))
  obtain ⟨b', o', e', _, hcc⟩ := q0
  injection e' with e'
  injection e' with e1 e2
  subst e1
  subst e2
  have r0 := (hcc 0 _ rfl).1
  have r1 := (hcc 0 _ rfl).2
  have r2 := (hcc 1 _ rfl).1
  have r3 := (hcc 1 _ rfl).2
  simp only [Nat.zero_mul, Nat.add_zero, Nat.zero_add, Nat.one_mul] at r0 r1 r2 r3
  have hcv : (convert 23 9 (.slice A1 alPut.length c1)).run Tryz.prog w8 = .ok (.string ⟨alPut.toArray⟩) w8 := by
    obtain ⟨b1, o1, rfl, _, hc1⟩ := hL8.2 (by decide)
    exact run_convert_bytes_back (P := Tryz.prog) w8 23 9 5 ⟨b1, o1, none⟩ c1 alPut Tryz.underlying23 Tryz.underlying5 Tryz.underlying9 (fun j hj => by
      rw [Addr.add_lit]
      refine hc1 j _ ?_
      unfold Lib.byteCells
      rw [List.getElem?_map, List.getElem?_eq_getElem hj]
      rfl)
  have hpl : (⟨alPut.toArray⟩ : ByteArray) = ⟨#[71, 69, 84, 32, 47, 97, 63, 98, 32, 72, 84, 84, 80, 47, 49, 46, 49, 13, 10, 72, 111, 115, 116, 58, 32, 104, 13, 10, 13, 10]⟩ := rfl
  rw [hpl] at hcv
  have HL9 := Lib.hid hL9
  clear hL8 hfr8 hk8 hL9 hcc hpl
  go_wp2_with fail
  -- law01.SameTexts
  have hal : Below w8.heap.size w8 (w8.alloc (.cells #[.string ⟨#[49]⟩, .string ⟨#[51]⟩] 9)) := (Below.refl _ _).alloc (Nat.le_refl _) _
  have hz9 : w8.heap.size < (w8.alloc (.cells #[.string ⟨#[49]⟩, .string ⟨#[51]⟩] 9)).heap.size := by simp
  have hnew : Lies (w8.alloc (.cells #[.string ⟨#[49]⟩, .string ⟨#[51]⟩] 9)) (w8.alloc (.cells #[.string ⟨#[49]⟩, .string ⟨#[51]⟩] 9)).heap.size (some ⟨w8.heap.size, 0, none⟩) 2 [.string ⟨#[49]⟩, .string ⟨#[51]⟩] := by
    have hb := Blk.new w8 9 #[.string ⟨#[49]⟩, .string ⟨#[51]⟩]
    refine ⟨rfl, fun _ => ⟨_, _, rfl, hz9, fun j u hu => ?_⟩⟩
    rw [Nat.zero_add, hb.cell j]
    simpa using hu
  have HS := Lib.hid (sametexts_any A8 (some ⟨w8.heap.size, 0, none⟩) 2 c8 2 _ [⟨#[49]⟩, ⟨#[51]⟩] _ ((HL9.out.below hal).more (Nat.le_of_lt hz9)) hnew (by decide))
  have B9 := Lib.hid (B8.out.trans (hal.mono B8.out.size))
  clear hal hnew
  go_wp2_with fail
  refine (HS.out).mono ?_
  rintro e w9 ⟨rfl, q9, rfl⟩
  have hb9 := below_drewN B9.out q9
  generalize (w8.alloc (.cells #[.string ⟨#[49]⟩, .string ⟨#[51]⟩] 9)).drewN q9 = w10 at hb9 ⊢
  have B10 := Lib.hid hb9
  clear hb9 HS
  -- bad
  have HB1 := Lib.hid (bad_any _ 7 w10 (by decide) alBad1_is (by decide) (HM.out.below B10.out hmg) (Nat.lt_of_lt_of_le hmg B10.out.size) (HE.out.below B10.out heg) (Nat.lt_of_lt_of_le heg B10.out.size))
  go_wp2_with fail
  refine (HB1.out).mono ?_
  rintro e w11 ⟨rfl, hbw11⟩
  have B11 := Lib.hid (B10.out.trans (hbw11.mono B10.out.size))
  clear hbw11 HB1
  have HB2 := Lib.hid (bad_any _ 8 w11 (by decide) alBad2_is (by decide) (HM.out.below B11.out hmg) (Nat.lt_of_lt_of_le hmg B11.out.size) (HE.out.below B11.out heg) (Nat.lt_of_lt_of_le heg B11.out.size))
  go_wp2_with fail
  refine (HB2.out).mono ?_
  rintro e w12 ⟨rfl, hbw12⟩
  have B12 := Lib.hid (B11.out.trans (hbw12.mono B11.out.size))
  clear hbw12 HB2
  have HB3 := Lib.hid (bad_any _ 8 w12 (by decide) alBad3_is (by decide) (HM.out.below B12.out hmg) (Nat.lt_of_lt_of_le hmg B12.out.size) (HE.out.below B12.out heg) (Nat.lt_of_lt_of_le heg B12.out.size))
  go_wp2_with fail
  refine (HB3.out).mono ?_
  rintro e w13 ⟨rfl, hbw13⟩
  have B13 := Lib.hid (B12.out.trans (hbw13.mono B12.out.size))
  clear hbw13 HB3
  go_wp2_with fail
  go_ret
  exact ⟨rfl, B13.out⟩
end Go.Proofs.YtonlfplloenfcaaGreatDoor
