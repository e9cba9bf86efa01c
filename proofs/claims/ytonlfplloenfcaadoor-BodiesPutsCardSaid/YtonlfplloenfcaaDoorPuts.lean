/-
  BodiesPuts: the walk.
-/
import Derived.Test.YtonlfplloenfcaaDoorApart
import Derived.Test.YtonlfplloenfcaaDoorAddByte
import Derived.Test.YtonlfplloenfcaaDoorPutAny
namespace Go.Proofs.YtonlfplloenfcaaDoor
open Go.RowKit

/-- A copy that was made with a mark behind it. -/
theorem twinb_read {w : World} {base g n : Nat} {E : TypeId} {l : List UInt8} {a : Value} (hl : l.length = n) (h : w.ownsRow base E 1 (.slice (some ⟨g, 0, none⟩) (n + 1) (n + 1)) (n + 1) (Lib.byteCells l ++ [a])) :
    Lies w w.heap.size (some ⟨g, 0, none⟩) n (Lib.byteCells l) ∧ w.cell? ⟨g, n, none⟩ = some a := by
  have hlen := Lib.byteCells_length l
  refine ⟨⟨by omega, fun hn => ⟨g, 0, rfl, (h.lt g rfl).2, fun j u hu => ?_⟩⟩, ?_⟩
  · have hj : j < n := by have := (List.getElem?_eq_some_iff.1 hu).1; omega
    rw [Nat.zero_add, h.cellAt _ (by omega), List.getElem?_append_left (by omega)]
    exact hu
  · rw [h.cellAt _ (by omega), List.getElem?_append_right (by omega)]
    simp [hlen, hl]
theorem own_cutb {w : World} {base g n k cap : Nat} {E : TypeId} {xs ys : List Value} (hx : xs.length = n) (h : w.ownsRow base E 1 (.slice (some ⟨g, 0, none⟩) (n + k) cap) (n + k) (xs ++ ys)) : w.ownsRow base E 1 (.slice (some ⟨g, 0, none⟩) n cap) n xs := by
  refine ⟨by omega, ?_⟩
  rcases h.2 with ⟨h2, _⟩ | ⟨g', cap', cur, hv, hg, hh, hnc, hcm, hcs, htake⟩
  · simp at h2
  · simp only [Value.slice.injEq, Option.some.injEq, Addr.mk.injEq, and_true, true_and] at hv
    obtain ⟨rfl, rfl⟩ := hv
    refine .inr ⟨g, cap, cur, rfl, hg, hh, by omega, hcm, hcs, ?_⟩
    have h3 := congrArg (List.take (n * 1)) htake
    rw [List.take_take, Nat.min_eq_left (by omega), List.take_append_of_le_length (by omega)] at h3
    rw [h3]
    exact List.take_of_length_le (by omega)

set_option maxRecDepth 100000 in
theorem bodiesputs_any (A : Option Addr) (n c : Nat) (size : Int) (l : List UInt8) (w : World) (hc : n ≤ c) (h : Lies w w.heap.size A n (Lib.byteCells l)) (hn : n ≤ 140737488355328) (hp : PowTab w) (hg : powG < w.heap.size) (ht : tab64 w) (hg2 : 4 < w.heap.size) :
    Calls Tryd.prog 4 #[.slice A n c, .int .i64 size] w fun e w' => e = .returned (.bool true) ∧ Below w.heap.size w w' := by
  have H := Lib.hid h
  have HP := Lib.hid hp
  have HT := Lib.hid ht
  have hll : l.length = n := by simpa [Lib.byteCells] using h.1
  clear h hp ht
  by_cases hbig : 200000 < n
  · go_enter Tryd.func4, Tryd.ntmps4
    go_wp2_with fail
    go_ret
    exact ⟨rfl, Below.refl _ _⟩
  · go_enter Tryd.func4, Tryd.ntmps4
    go_wp2_with fail
    refine (twinb_any A n c l w H.out (by omega)).mono ?_
    rintro e w2 ⟨rfl, ht, hb2⟩
    obtain ⟨hrt, hm1⟩ := twinb_read hll ht
    have HTW := Lib.hid ht
    have RT := Lib.hid hrt
    have M1 := Lib.hid hm1
    have B2 := Lib.hid hb2
    have hz2 : w.heap.size ≤ w2.heap.size := hb2.size
    clear ht hrt hm1 hb2
    go_wp2_with fail
    have hO := putOut_len size l
    refine (put_any _ n (n + 1) size l w2 (by omega) RT.out (show tab64 w2 from (B2.out.cell (p := ⟨_, 15, none⟩) hg2).trans HT.out) (by omega)).mono ?_
    rintro e w3 ⟨va, rfl, hoa, hb3⟩
    obtain ⟨Aa, ca, rfl⟩ := own_form hoa
    have OA := Lib.hid hoa
    have X3 := Lib.hid hb3
    have hz3 : w2.heap.size ≤ w3.heap.size := hb3.size
    have B3 := Lib.hid (B2.out.trans (hb3.mono hz2))
    have RT3 := Lib.hid ((RT.out.below hb3).more hz3)
    clear hoa hb3
    go_wp2_with fail
    refine (put_any _ n (n + 1) size l w3 (by omega) RT3.out (show tab64 w3 from (B3.out.cell (p := ⟨_, 15, none⟩) hg2).trans HT.out) (by omega)).mono ?_
    rintro e w4 ⟨vb, rfl, hob, hb4⟩
    obtain ⟨Ab, cb, rfl⟩ := own_form hob
    have OB := Lib.hid hob
    have X4 := Lib.hid hb4
    have hz4 : w3.heap.size ≤ w4.heap.size := hb4.size
    have B4 := Lib.hid (B3.out.trans (hb4.mono (by omega)))
    clear hob hb4
    go_wp2_with fail
    refine (refput_any A n c size l w4 hc ((H.out.below B4.out).more (by omega))).mono ?_
    rintro e w5 ⟨vr, rfl, hor, hb5⟩
    obtain ⟨Ar, cr, rfl⟩ := own_form hor
    have OR := Lib.hid hor
    have X5 := Lib.hid hb5
    have hz5 : w4.heap.size ≤ w5.heap.size := hb5.size
    have B5 := Lib.hid (B4.out.trans (hb5.mono (by omega)))
    clear hor hb5
    go_wp2_with fail
    have hlr : Lies w5 w5.heap.size Ar (putOut size l).length (Lib.byteCells (putOut size l)) := Lies.of_own OR.out
    have hla : Lies w5 w5.heap.size Aa (putOut size l).length (Lib.byteCells (putOut size l)) := (((Lies.of_own OA.out).below X4.out).more hz4 |>.below X5.out).more hz5
    have hlb : Lies w5 w5.heap.size Ab (putOut size l).length (Lib.byteCells (putOut size l)) := ((Lies.of_own OB.out).below X5.out).more hz5
    have HLR := Lib.hid hlr
    have HLA := Lib.hid hla
    have HLB := Lib.hid hlb
    clear hlr hla hlb
    generalize hN : (putOut size l).length = N at *
    refine (samebytes_any Aa Ar N ca cr w5.heap.size (putOut size l) w5 HLA.out HLR.out (by omega)).mono ?_
    rintro e w6 ⟨rfl, q6, rfl⟩
    go_wp2_with fail
    refine (samebytes_any Ab Ar N cb cr w5.heap.size (putOut size l) (w5.drewN q6) HLB.out HLR.out (by omega)).mono ?_
    rintro e w6 ⟨rfl, q7, rfl⟩
    have X35 : Below w2.heap.size w2 ((w5.drewN q6).drewN q7) := below_drewN (below_drewN (X3.out.trans ((X4.out.mono hz3).trans (X5.out.mono (by omega)))) q6) q7
    have B6 : Below w.heap.size w ((w5.drewN q6).drewN q7) := below_drewN (below_drewN B5.out q6) q7
    have rt6 : Lies ((w5.drewN q6).drewN q7) w5.heap.size (some ⟨w.heap.size, 0, none⟩) n (Lib.byteCells l) := (RT.out.below X35).more (by omega)
    have rl6 : Lies ((w5.drewN q6).drewN q7) w5.heap.size A n (Lib.byteCells l) := (H.out.below B6).more (by omega)
    have hgt : w.heap.size < w2.heap.size := (HTW.out.lt _ rfl).2
    have m6 : ((w5.drewN q6).drewN q7).cell? ⟨w.heap.size, n, none⟩ = some (.int .u8 77) := (X35.cell (p := ⟨w.heap.size, n, none⟩) hgt).trans M1.out
    have X56 : Below w5.heap.size w5 ((w5.drewN q6).drewN q7) := below_drewN (below_drewN (Below.refl _ _) q6) q7
    have LB := Lib.hid (leftbytes_any w.heap.size A n c l ((w5.drewN q6).drewN q7) rt6 rl6 hn m6)
    have XX := Lib.hid X35
    have BB := Lib.hid B6
    have X57 := Lib.hid X56
    clear X35 B6 rt6 rl6 m6 X56
    generalize (w5.drewN q6).drewN q7 = w6 at *
    go_wp2_with fail
    refine LB.out.mono ?_
    rintro e w7 ⟨rfl, hb7⟩
    have hz6 : w5.heap.size ≤ w6.heap.size := X57.out.size
    have hz7 : w6.heap.size ≤ w7.heap.size := hb7.size
    have B7 := Lib.hid (BB.out.trans (hb7.mono (by omega)))
    have X7 := Lib.hid (XX.out.trans (hb7.mono (by omega)))
    have Y7 := Lib.hid (X57.out.trans (hb7.mono hz6))
    clear hb7
    go_wp2_with fail
    have hot : w7.ownsRow w.heap.size 5 1 (.slice (some ⟨w.heap.size, 0, none⟩) n (n + 1)) n (Lib.byteCells l) := own_below (own_cutb (k := 1) (by rw [Lib.byteCells_length, hll]) HTW.out) X7.out
    have hoa7 : w7.ownsRow w.heap.size 5 1 (.slice Aa N ca) N (Lib.byteCells (putOut size l)) := own_below (own_below (own_below (ownsRow_base OA.out hz2) X4.out) X5.out) Y7.out
    have hob7 : w7.ownsRow w.heap.size 5 1 (.slice Ab N cb) N (Lib.byteCells (putOut size l)) := own_below (own_below (ownsRow_base OB.out (by omega)) X5.out) Y7.out
    have hbk := Blk.new w7 42 #[.int .i64 0, .slice none 0 0, .slice none 0 0, .slice none 0 0, .slice none 0 0, .slice none 0 0, .slice none 0 0, .slice none 0 0, .slice none 0 0]
    have hal : Below w7.heap.size w7 (w7.alloc (.cells #[.int .i64 0, .slice none 0 0, .slice none 0 0, .slice none 0 0, .slice none 0 0, .slice none 0 0, .slice none 0 0, .slice none 0 0, .slice none 0 0] 42)) := (Below.refl _ _).alloc (Nat.le_refl _) _
    have T8 := Lib.hid (own_below hot hal)
    have A8 := Lib.hid (own_below hoa7 hal)
    have C8 := Lib.hid (own_below hob7 hal)
    have h7n : w.heap.size ≤ w7.heap.size := by omega
    have L8 := Lib.hid (B7.out.trans (hal.mono h7n))
    clear hot hoa7 hob7 hal
    have hf1 : ∀ b, (Value.slice (some ⟨w.heap.size, 0, none⟩) n (n + 1)).ownBlock = some b → (Value.slice Aa N ca).ownBlock ≠ some b := fun b h1 h2 => by
      have h3 := (OA.out.lt b h2).1
      simp [Value.ownBlock] at h1
      omega
    have hf2 : ∀ b, (Value.slice (some ⟨w.heap.size, 0, none⟩) n (n + 1)).ownBlock = some b → (Value.slice Ab N cb).ownBlock ≠ some b := fun b h1 h2 => by
      have h3 := (OB.out.lt b h2).1
      simp [Value.ownBlock] at h1
      omega
    have hf3 : ∀ b, (Value.slice Aa N ca).ownBlock = some b → (Value.slice Ab N cb).ownBlock ≠ some b := fun b h1 h2 => by
      have h3 := (OA.out.lt b h1).2
      have h4 := (OB.out.lt b h2).1
      omega
    have FR := Lib.hid (And.intro hf1 (And.intro hf2 hf3))
    clear hf1 hf2 hf3
    generalize w7.alloc (.cells #[.int .i64 0, .slice none 0 0, .slice none 0 0, .slice none 0 0, .slice none 0 0, .slice none 0 0, .slice none 0 0, .slice none 0 0, .slice none 0 0] 42) = W8 at *
    generalize w7.heap.size = g at *
    refine (addbyte_ok w.heap.size g 0 (.slice none 0 0) (.slice none 0 0) (.slice none 0 0) [] _ n (n + 1) _ W8 (by omega) (by simp) h7n hbk (Kind.nil rfl) T8.out).mono ?_
    rintro e w9 ⟨rfl, v1, g9, k9, l9, y9⟩
    have G9 := Lib.hid g9
    have K9 := Lib.hid k9
    have L9 := Lib.hid (L8.out.trans l9)
    have A9 := Lib.hid (own_tys A8.out y9 (by decide))
    have C9 := Lib.hid (own_tys C8.out y9 (by decide))
    clear g9 k9 l9 y9 hbk
    go_wp2_with fail
    refine (addbyte_ok w.heap.size g (0 + 1) v1 (.slice none 0 0) (.slice none 0 0) _ _ N ca _ w9 (by omega) (by simp) h7n G9.out K9.out A9.out).mono ?_
    rintro e w10 ⟨rfl, v2, g10, k10, l10, y10⟩
    have G10 := Lib.hid g10
    have K10 := Lib.hid k10
    have L10 := Lib.hid (L9.out.trans l10)
    have C10 := Lib.hid (own_tys C9.out y10 (by decide))
    clear g10 k10 l10 y10
    go_wp2_with fail
    refine (addbyte_ok w.heap.size g (0 + 1 + 1) v2 (.slice none 0 0) (.slice none 0 0) _ _ N cb _ w10 (by omega) (by simp) h7n G10.out K10.out C10.out).mono ?_
    rintro e w11 ⟨rfl, v3, g11, k11, l11, y11⟩
    have G11 := Lib.hid g11
    have K11 := Lib.hid k11
    have L11 := Lib.hid (L10.out.trans l11)
    clear g11 k11 l11 y11
    go_wp2_with fail
    refine (apart_any w.heap.size g _ v3 (.slice none 0 0) (.slice none 0 0) _ [] [] w11 hg L11.out.size (HP.out.below L11.out hg) (by simp) (by simp) (by simp) G11.out K11.out (Kind.nil rfl) (Kind.nil rfl) ?_ Far.nil Far.nil ?_ Nums.nil Nums.nil).mono ?_
    · refine Far.push (Far.push (Far.push Far.nil (fun j hj => by simp at hj)) (fun j hj b hb => ?_)) (fun j hj b hb => ?_)
      · obtain rfl : j = 0 := by simp at hj; omega
        exact FR.out.1 b hb
      · obtain rfl | rfl : j = 0 ∨ j = 1 := by simp at hj; omega
        · exact FR.out.2.1 b hb
        · exact FR.out.2.2 b hb
    · exact ((Nums.nil.push (by simp only [lenOf]; omega) (by omega)).push (by simp only [lenOf]; omega) (by omega)).push (by simp only [lenOf]; omega) (by omega)
    rintro e w12 ⟨rfl, l12⟩
    have L12 := Lib.hid (L11.out.trans l12)
    clear l12
    go_wp2_with fail
    go_ret
    exact ⟨rfl, L12.out⟩
end Go.Proofs.YtonlfplloenfcaaDoor
