/-
  HeadsRequests: the walk.
-/
import Derived.Test.YtonlfplloenfcaaGreatDoorApart
import Derived.Test.YtonlfplloenfcaaGreatDoorMsg2
import Derived.Test.YtonlfplloenfcaaGreatDoorSameMsg
import Derived.Test.YtonlfplloenfcaaGreatDoorKGetEtc
import Derived.Test.YtonlfplloenfcaaGreatDoorReadFactsEtc
namespace Go.Proofs.YtonlfplloenfcaaGreatDoor
open Go.RowKit

set_option maxRecDepth 100000 in
set_option maxHeartbeats 4000000 in
theorem headsrequests_any (A : Option Addr) (n c : Nat) (l : List UInt8) (w : World) (hc : n ≤ c) (h : Lies w w.heap.size A n (Lib.byteCells l)) (hn : n ≤ 140737488355328) (hp : PowTab w) (hg : powG < w.heap.size) (hm : MaxOk w) (hmg : maxG < w.heap.size) :
    Calls Tryz.prog 4 #[.slice A n c] w fun e w' => e = .returned (.bool true) ∧ Below w.heap.size w w' := by
  have H := Lib.hid h
  have HP := Lib.hid hp
  have HM := Lib.hid hm
  have hll : l.length = n := by simpa [Lib.byteCells] using h.1
  clear h hp hm
  by_cases hbig : 200000 < n
  · have hd : decide ((200000 : Int) < (n : Int)) = true := decide_eq_true (by omega)
    go_enter Tryz.func4, Tryz.ntmps4
    go_wp2_with fail
    go_ret
    exact ⟨rfl, Below.refl _ _⟩
  · have hd : decide ((200000 : Int) < (n : Int)) = false := decide_eq_false (by omega)
    have hn2 : n ≤ 200000 := by omega
    have HLL := Lib.hid hll
    clear hbig hll hn
    go_enter Tryz.func4, Tryz.ntmps4
    go_wp2_with fail
    refine (twinb_any A n c l w H.out (by omega)).mono ?_
    rintro e w2 ⟨rfl, ht, hb2⟩
    obtain ⟨hrt, hm1⟩ := twinb_read HLL.out ht
    have hlt2 : w.heap.size < w2.heap.size := (ht.lt _ rfl).2
    have HTW := Lib.hid ht
    have RT := Lib.hid hrt
    have M1 := Lib.hid hm1
    have B2 := Lib.hid hb2
    clear ht hrt hm1
    have HR2 := Lib.hid (hrequest_any w.heap.size 0 n (n + 1) l w2 RT.out (by omega) hn2 (HM.out.below hb2 hmg) (by omega))
    clear hb2
    have hFz := gF_len askK l
    go_wp2_with fail
    refine (HR2.out).mono ?_
    rintro e w3 ⟨⟨va, rfl, hoa⟩, hb3⟩
    obtain ⟨Aa, ca, rfl⟩ := own_form hoa
    clear HR2
    have hz3 : w2.heap.size ≤ w3.heap.size := hb3.size
    have X3 := Lib.hid hb3
    have B3 := Lib.hid (B2.out.trans (hb3.mono B2.out.size))
    have OA := Lib.hid hoa
    clear hoa hb3
    -- the first answer, in its box
    have hal : Below w3.heap.size w3 (w3.alloc (.cells #[.string (gM askK l), .string (gT askK l), .int .i64 (gS askK l), .slice Aa (gF askK l).length ca, .slice none 0 0] 25)) := (Below.refl _ _).alloc (Nat.le_refl _) _
    have hka := Blk.new w3 25 #[.string (gM askK l), .string (gT askK l), .int .i64 (gS askK l), .slice Aa (gF askK l).length ca, .slice none 0 0]
    have hza : w3.heap.size < (w3.alloc (.cells #[.string (gM askK l), .string (gT askK l), .int .i64 (gS askK l), .slice Aa (gF askK l).length ca, .slice none 0 0] 25)).heap.size := by simp
    have hlt3 : w.heap.size < w3.heap.size := Nat.lt_of_lt_of_le hlt2 hz3
    obtain ⟨W3, hW3⟩ : ∃ W3, w3.alloc (.cells #[.string (gM askK l), .string (gT askK l), .int .i64 (gS askK l), .slice Aa (gF askK l).length ca, .slice none 0 0] 25) = W3 := ⟨_, rfl⟩
    rw [hW3] at hal hka hza
    have X4 := Lib.hid (X3.out.trans (hal.mono hz3))
    have B4 := Lib.hid (B3.out.trans (hal.mono B3.out.size))
    have OA4 := Lib.hid (own_below OA.out hal)
    have KA := Lib.hid hka
    have HR3 := Lib.hid (hrequest_any w.heap.size 0 n (n + 1) l W3 ((RT.out.below X4.out).more (by omega)) (by omega) hn2 (HM.out.below B4.out hmg) (by omega))
    have HW3 := Lib.hid hW3
    clear hal hka hW3
    go_wp2_with fail
    rw [HW3.out]
    refine (HR3.out).mono ?_
    rintro e w5 ⟨⟨vb, rfl, hob⟩, hb5⟩
    obtain ⟨Ab, cb, rfl⟩ := own_form hob
    clear HR3
    have hz5 : W3.heap.size ≤ w5.heap.size := hb5.size
    have X5 := Lib.hid (X4.out.trans (hb5.mono (by omega)))
    have B5 := Lib.hid (B4.out.trans (hb5.mono B4.out.size))
    have OA5 := Lib.hid (own_below OA4.out hb5)
    have KA5 := Lib.hid (KA.out.below hb5 hza)
    have OB := Lib.hid hob
    have hlb5 : W3.heap.size ≤ w5.heap.size := hb5.size
    clear hob hb5
    -- the second
    have hal : Below w5.heap.size w5 (w5.alloc (.cells #[.string (gM askK l), .string (gT askK l), .int .i64 (gS askK l), .slice Ab (gF askK l).length cb, .slice none 0 0] 25)) := (Below.refl _ _).alloc (Nat.le_refl _) _
    have hkb := Blk.new w5 25 #[.string (gM askK l), .string (gT askK l), .int .i64 (gS askK l), .slice Ab (gF askK l).length cb, .slice none 0 0]
    have hzb : w5.heap.size < (w5.alloc (.cells #[.string (gM askK l), .string (gT askK l), .int .i64 (gS askK l), .slice Ab (gF askK l).length cb, .slice none 0 0] 25)).heap.size := by simp
    obtain ⟨W5, hW5⟩ : ∃ W5, w5.alloc (.cells #[.string (gM askK l), .string (gT askK l), .int .i64 (gS askK l), .slice Ab (gF askK l).length cb, .slice none 0 0] 25) = W5 := ⟨_, rfl⟩
    rw [hW5] at hal hkb hzb
    have X6 := Lib.hid (X5.out.trans (hal.mono (by omega)))
    have B6 := Lib.hid (B5.out.trans (hal.mono B5.out.size))
    have OA6 := Lib.hid (own_below OA5.out hal)
    have KA6 := Lib.hid (KA5.out.below hal KA5.out.lt)
    have OB6 := Lib.hid (own_below OB.out hal)
    have KB := Lib.hid hkb
    have HR5 := Lib.hid (rrequest_any A n c l W5 ((H.out.below B6.out).more B6.out.size) hc hn2)
    have HW5 := Lib.hid hW5
    clear hal hkb hW5
    go_wp2_with fail
    rw [HW5.out]
    refine (HR5.out).mono ?_
    rintro e w7 ⟨⟨vr, rfl, hor⟩, hb7⟩
    obtain ⟨Ar, cr, rfl⟩ := own_form hor
    clear HR5
    have hz7 : W5.heap.size ≤ w7.heap.size := hb7.size
    have X7 := Lib.hid (X6.out.trans (hb7.mono (by omega)))
    have B7 := Lib.hid (B6.out.trans (hb7.mono B6.out.size))
    have OA7 := Lib.hid (own_below OA6.out hb7)
    have KA7 := Lib.hid (KA6.out.below hb7 KA6.out.lt)
    have OB7 := Lib.hid (own_below OB6.out hb7)
    have KB7 := Lib.hid (KB.out.below hb7 hzb)
    have OR := Lib.hid hor
    clear hor hb7
    -- the document's
    have hal : Below w7.heap.size w7 (w7.alloc (.cells #[.string (gM askK l), .string (gT askK l), .int .i64 (gS askK l), .slice Ar (gF askK l).length cr, .slice none 0 0] 25)) := (Below.refl _ _).alloc (Nat.le_refl _) _
    have hkr := Blk.new w7 25 #[.string (gM askK l), .string (gT askK l), .int .i64 (gS askK l), .slice Ar (gF askK l).length cr, .slice none 0 0]
    have hzr : w7.heap.size < (w7.alloc (.cells #[.string (gM askK l), .string (gT askK l), .int .i64 (gS askK l), .slice Ar (gF askK l).length cr, .slice none 0 0] 25)).heap.size := by simp
    obtain ⟨W7, hW7⟩ : ∃ W7, w7.alloc (.cells #[.string (gM askK l), .string (gT askK l), .int .i64 (gS askK l), .slice Ar (gF askK l).length cr, .slice none 0 0] 25) = W7 := ⟨_, rfl⟩
    rw [hW7] at hal hkr hzr
    have X8 := Lib.hid (X7.out.trans (hal.mono (by omega)))
    have B8 := Lib.hid (B7.out.trans (hal.mono B7.out.size))
    have OA8 := Lib.hid (own_below OA7.out hal)
    have KA8 := Lib.hid (KA7.out.below hal KA7.out.lt)
    have OB8 := Lib.hid (own_below OB7.out hal)
    have KB8 := Lib.hid (KB7.out.below hal KB7.out.lt)
    have OR8 := Lib.hid (own_below OR.out hal)
    have qa := KA7.out.alloc (.cells #[.string (gM askK l), .string (gT askK l), .int .i64 (gS askK l), .slice Ar (gF askK l).length cr, .slice none 0 0] 25)
    have qr := Blk.new w7 25 #[.string (gM askK l), .string (gT askK l), .int .i64 (gS askK l), .slice Ar (gF askK l).length cr, .slice none 0 0]
    have a0 := qa.cell 0
    have a1 := qa.cell 1
    have a2 := qa.cell 2
    have a3 := qa.cell 3
    have a4 := qa.cell 4
    have r0 := qr.cell 0
    have r1 := qr.cell 1
    have r2 := qr.cell 2
    have r3 := qr.cell 3
    have r4 := qr.cell 4
    simp at a0 a1 a2 a3 a4 r0 r1 r2 r3 r4
    clear qa qr
    have HS := Lib.hid (samem_any (gM askK l) (gT askK l) (gS askK l) Aa Ar none none (gF askK l).length ca cr 0 0 0 W7.heap.size (gF askK l) [] W7 (Nat.le_refl _) (fread_own rfl OA8.out) (fread_own rfl OR8.out) (by omega) ⟨rfl, fun h => absurd h (by omega)⟩ ⟨rfl, fun h => absurd h (by omega)⟩ (by omega))
    have HW7 := Lib.hid hW7
    clear hal hkr hW7
    go_wp2_with fail
    rw [HW7.out]
    clear a0 a1 a2 a3 a4 r0 r1 r2 r3 r4
    refine (HS.out).mono ?_
    rintro e w9 ⟨rfl, hb9⟩
    clear HS
    have hz9 : W7.heap.size ≤ w9.heap.size := hb9.size
    have X9 := Lib.hid (X8.out.trans (hb9.mono (by omega)))
    have B9 := Lib.hid (B8.out.trans (hb9.mono B8.out.size))
    have OA9 := Lib.hid (own_below OA8.out hb9)
    have KA9 := Lib.hid (KA8.out.below hb9 KA8.out.lt)
    have OB9 := Lib.hid (own_below OB8.out hb9)
    have KB9 := Lib.hid (KB8.out.below hb9 KB8.out.lt)
    clear hb9
    have hltw : w.heap.size < w2.heap.size := hlt2
    have HLB := Lib.hid (leftbytes_any w.heap.size A n c l w9 ((RT.out.below X9.out).more (by omega)) ((H.out.below B9.out).more B9.out.size) (by omega) ((X9.out.cell (p := ⟨w.heap.size, n, none⟩) hltw).trans M1.out))
    go_wp2_with fail
    refine (HLB.out).mono ?_
    rintro e w10 ⟨rfl, hb10⟩
    clear HLB
    have hz10 : w9.heap.size ≤ w10.heap.size := hb10.size
    have X10 := Lib.hid (X9.out.trans (hb10.mono (by omega)))
    have B10 := Lib.hid (B9.out.trans (hb10.mono B9.out.size))
    have OA10 := Lib.hid (own_below OA9.out hb10)
    have KA10 := Lib.hid (KA9.out.below hb10 KA9.out.lt)
    have OB10 := Lib.hid (own_below OB9.out hb10)
    have KB10 := Lib.hid (KB9.out.below hb10 KB9.out.lt)
    clear hb10
    go_wp2_with fail
    -- the book
    have hzw : w.heap.size ≤ w10.heap.size := B10.out.size
    have hbk := Blk.new w10 42 #[.int .i64 0, .slice none 0 0, .slice none 0 0, .slice none 0 0, .slice none 0 0, .slice none 0 0, .slice none 0 0, .slice none 0 0, .slice none 0 0]
    have hal : Below w10.heap.size w10 (w10.alloc (.cells #[.int .i64 0, .slice none 0 0, .slice none 0 0, .slice none 0 0, .slice none 0 0, .slice none 0 0, .slice none 0 0, .slice none 0 0, .slice none 0 0] 42)) := (Below.refl _ _).alloc (Nat.le_refl _) _
    have hot : w10.ownsRow w.heap.size 5 1 (.slice (some ⟨w.heap.size, 0, none⟩) n (n + 1)) n (Lib.byteCells l) := own_below (own_cutb (k := 1) (by rw [Lib.byteCells_length]; exact HLL.out) HTW.out) X10.out
    have OT11 := Lib.hid (own_below hot hal)
    have OA11 := Lib.hid (own_below (ownsRow_base OA10.out B2.out.size) hal)
    have OB11 := Lib.hid (own_below (ownsRow_base OB10.out B4.out.size) hal)
    have KA11 := Lib.hid (KA10.out.below hal KA10.out.lt)
    have KB11 := Lib.hid (KB10.out.below hal KB10.out.lt)
    have L11 := Lib.hid (B10.out.trans (hal.mono hzw))
    have G11 := Lib.hid hbk
    clear hot hal hbk
    generalize w10.alloc (.cells #[.int .i64 0, .slice none 0 0, .slice none 0 0, .slice none 0 0, .slice none 0 0, .slice none 0 0, .slice none 0 0, .slice none 0 0, .slice none 0 0] 42) = W11 at *
    generalize w10.heap.size = g at *
    have hff : ∀ b, (Value.slice Aa (gF askK l).length ca).ownBlock = some b → (Value.slice Ab (gF askK l).length cb).ownBlock ≠ some b := fun b h1 h2 => by
      have h3 := (OA.out.lt b h1).2
      have h4 := (OB.out.lt b h2).1
      omega
    have FR := Lib.hid hff
    clear hff
    refine (addbyte_ok w.heap.size g 0 (.slice none 0 0) (.slice none 0 0) (.slice none 0 0) [] _ n (n + 1) _ W11 (by omega) (by simp) hzw G11.out (Kind.nil rfl) OT11.out).mono ?_
    rintro e w12 ⟨rfl, vb12, g12, k12, l12, y12⟩
    have G12 := Lib.hid g12
    have KB12 := Lib.hid k12
    have L12 := Lib.hid (L11.out.trans l12)
    have OA12 := Lib.hid (own_tys OA11.out y12 (by decide))
    have OB12 := Lib.hid (own_tys OB11.out y12 (by decide))
    have KA12 := Lib.hid (blk_tys KA11.out y12 (by decide))
    have KM12 := Lib.hid (blk_tys KB11.out y12 (by decide))
    clear g12 k12 l12 y12
    have a0 := KA12.out.cell 0
    have a1 := KA12.out.cell 1
    have a2 := KA12.out.cell 2
    have a3 := KA12.out.cell 3
    have a4 := KA12.out.cell 4
    simp at a0 a1 a2 a3 a4
    go_wp2_with fail
    refine (bookm_ok w.heap.size g (0 + 1) vb12 (.slice none 0 0) (.slice none 0 0) [] _ _ _ _ _ none _ ca 0 0 _ [] w12 (by omega) (by simp) (by simp) hzw G12.out (Kind.nil rfl) KB12.out OA12.out (World.ownsRow_nil _ _ _ _)).mono ?_
    rintro e w13 ⟨rfl, vf13, vb13, g13, kf13, kb13, l13, y13⟩
    have G13 := Lib.hid g13
    have KF13 := Lib.hid kf13
    have KB13 := Lib.hid kb13
    have L13 := Lib.hid (L12.out.trans l13)
    have OB13 := Lib.hid (own_tys OB12.out y13 (by decide))
    have KM13 := Lib.hid (blk_tys KM12.out y13 (by decide))
    clear g13 kf13 kb13 l13 y13 a0 a1 a2 a3 a4
    have a0 := KM13.out.cell 0
    have a1 := KM13.out.cell 1
    have a2 := KM13.out.cell 2
    have a3 := KM13.out.cell 3
    have a4 := KM13.out.cell 4
    simp at a0 a1 a2 a3 a4
    go_wp2_with fail
    refine (bookm_ok w.heap.size g (0 + 1 + 1 + 1) vb13 (.slice none 0 0) vf13 _ _ _ _ _ _ none _ cb 0 0 _ [] w13 (by omega) (by simp) (by simp) hzw G13.out KF13.out KB13.out OB13.out (World.ownsRow_nil _ _ _ _)).mono ?_
    rintro e w14 ⟨rfl, vf14, vb14, g14, kf14, kb14, l14, y14⟩
    have G14 := Lib.hid g14
    have KF14 := Lib.hid kf14
    have KB14 := Lib.hid kb14
    have L14 := Lib.hid (L13.out.trans l14)
    clear g14 kf14 kb14 l14 y14 a0 a1 a2 a3 a4
    go_wp2_with fail
    refine (apart_any w.heap.size g _ vb14 (.slice none 0 0) vf14 _ [] _ w14 hg L14.out.size (HP.out.below L14.out hg) (by simp) (by simp) (by simp) G14.out KB14.out (Kind.nil rfl) KF14.out ?_ Far.nil ?_ ?_ Nums.nil ?_).mono ?_
    · exact Far.push (Far.push (Far.push Far.nil (fun j hj => by simp at hj)) (fun j hj b _ h2 => by simp [Value.ownBlock] at h2)) (fun j hj b _ h2 => by simp [Value.ownBlock] at h2)
    · refine Far.push (Far.push Far.nil (fun j hj => by simp at hj)) (fun j hj b hb => ?_)
      obtain rfl : j = 0 := by simp at hj; omega
      exact FR.out b hb
    · exact ((Nums.nil.push (by simp only [lenOf]; omega) (by omega)).push (by simp only [lenOf]; omega) (by omega)).push (by simp only [lenOf]; omega) (by omega)
    · exact (Nums.nil.push (by simp only [lenOf]; omega) (by omega)).push (by simp only [lenOf]; omega) (by omega)
    rintro e w15 ⟨rfl, l15⟩
    have L15 := Lib.hid (L14.out.trans l15)
    clear l15
    go_wp2_with fail
    go_ret
    exact ⟨rfl, L15.out⟩
end Go.Proofs.YtonlfplloenfcaaGreatDoor
