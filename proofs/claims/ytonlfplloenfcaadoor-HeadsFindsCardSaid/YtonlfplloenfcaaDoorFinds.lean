/-
  HeadsFinds: the walk.
-/
import Derived.Test.YtonlfplloenfcaaDoorApart
import Derived.Test.YtonlfplloenfcaaDoorFind
import Derived.Test.YtonlfplloenfcaaDoorSame
import Derived.Test.YtonlfplloenfcaaDoorAddText
import Derived.Test.YtonlfplloenfcaaDoorAddField
namespace Go.Proofs.YtonlfplloenfcaaDoor
open Go.RowKit

theorem big_parts {m : Nat} {fs : List Fd} (h : bigB m fs = false) : fs.length ≤ 100000 ∧ ∀ f ∈ fs, f.1.size ≤ 200000 ∧ f.2.size ≤ 200000 := by
  have h2 : m + fsum fs ≤ 200000 := by
    unfold bigB at h
    have := of_decide_eq_false h
    omega
  have key : ∀ l : List Fd, 2 * l.length ≤ fsum l ∧ ∀ f ∈ l, f.1.size + f.2.size ≤ fsum l := by
    intro l
    induction l with
    | nil => exact ⟨by simp, by simp⟩
    | cons x r ih =>
      have e : fsum (x :: r) = (2 + x.1.size + x.2.size) + fsum r := by simp [fsum]
      refine ⟨by rw [e, List.length_cons]; omega, fun f hf => ?_⟩
      rw [e]
      rcases List.mem_cons.1 hf with rfl | hf
      · omega
      · have := ih.2 f hf; omega
  have k1 := key fs
  exact ⟨by omega, fun f hf => by have := k1.2 f hf; omega⟩

theorem great_fields (A : Option Addr) (n c : Nat) (fs : List Fd) (w : World) (h : FRead w w.heap.size A n fs) (hs : FSmall fs) (hn : n ≤ 140737488355328) :
    Calls Tryd.prog 6 #[.agg #[.string ⟨#[]⟩, .string ⟨#[]⟩, .int .i64 0, .slice A n c, .slice none 0 0]] w fun e w' => e = .returned (.bool (bigB 0 fs)) ∧ Below w.heap.size w w' :=
  great_any ⟨#[]⟩ ⟨#[]⟩ 0 A none n c 0 0 fs w h hs (by decide) (by decide) (by omega) hn

theorem FRead.below {w w' : World} {B : Nat} {A : Option Addr} {n : Nat} {fs : List Fd} (h : FRead w B A n fs) (hb : Below B w w') : FRead w' B A n fs :=
  ⟨h.1, fun hn => by
    obtain ⟨b, off, e, hlt, hc⟩ := h.2 hn
    exact ⟨b, off, e, hlt, fun i f hf => ⟨(hb.cell (p := ⟨b, _, none⟩) hlt).trans (hc i f hf).1, (hb.cell (p := ⟨b, _, none⟩) hlt).trans (hc i f hf).2⟩⟩⟩
theorem FRead.more {w : World} {B B' : Nat} {A : Option Addr} {n : Nat} {fs : List Fd} (h : FRead w B A n fs) (hB : B ≤ B') : FRead w B' A n fs :=
  ⟨h.1, fun hn => by
    obtain ⟨b, off, e, hlt, hc⟩ := h.2 hn
    exact ⟨b, off, e, by omega, hc⟩⟩
theorem fcells_at : ∀ (fs : List Fd) (xs : List Value) (i : Nat) (f : Fd), fs[i]? = some f → (fcells fs ++ xs)[i * 2]? = some (.string f.1) ∧ (fcells fs ++ xs)[i * 2 + 1]? = some (.string f.2)
  | [], _, i, f, h => by simp at h
  | g :: r, xs, 0, f, h => by
    simp at h
    subst h
    simp [fcells]
  | g :: r, xs, i + 1, f, h => by
    have ih := fcells_at r xs i f (by simpa using h)
    refine ⟨?_, ?_⟩
    · rw [show (i + 1) * 2 = i * 2 + 2 by omega]; simpa [fcells] using ih.1
    · rw [show (i + 1) * 2 + 1 = i * 2 + 1 + 2 by omega]; simpa [fcells] using ih.2
theorem fcells_len (fs : List Fd) : (fcells fs).length = fs.length * 2 := by
  unfold fcells
  induction fs with
  | nil => rfl
  | cons x r ih => rw [List.flatMap_cons, List.length_append, ih, List.length_cons]; simp; omega
/-- A copy that was made with a mark behind it: it reads as the list, and the mark is there. -/
theorem twin_read {w : World} {base g n : Nat} {E : TypeId} {fs : List Fd} {a b : Value} (hl : fs.length = n) (h : w.ownsRow base E 2 (.slice (some ⟨g, 0, none⟩) (n + 1) (n + 1)) (n + 1) (fcells fs ++ [a, b])) :
    FRead w w.heap.size (some ⟨g, 0, none⟩) n fs ∧ w.cell? ⟨g, n * 2, none⟩ = some a ∧ w.cell? ⟨g, n * 2 + 1, none⟩ = some b := by
  have hlen := fcells_len fs
  refine ⟨⟨hl, fun hn => ⟨g, 0, rfl, (h.lt g rfl).2, fun i f hf => ?_⟩⟩, ?_, ?_⟩
  · have hi : i < n := by rw [← hl]; exact (List.getElem?_eq_some_iff.1 hf).1
    obtain ⟨h1, h2⟩ := fcells_at fs [a, b] i f hf
    rw [Nat.zero_add]
    exact ⟨(h.cellAt _ (by omega)).trans h1, (h.cellAt _ (by omega)).trans h2⟩
  · rw [h.cellAt _ (by omega), List.getElem?_append_right (by omega)]
    simp [hlen, hl]
  · rw [h.cellAt _ (by omega), List.getElem?_append_right (by omega)]
    simp [hlen, hl]
/-- A row without its last elements. -/
theorem own_cut {w : World} {base g n k cap sz : Nat} {E : TypeId} {xs ys : List Value} (hx : xs.length = n * sz) (h : w.ownsRow base E sz (.slice (some ⟨g, 0, none⟩) (n + k) cap) (n + k) (xs ++ ys)) : w.ownsRow base E sz (.slice (some ⟨g, 0, none⟩) n cap) n xs := by
  refine ⟨hx, ?_⟩
  rcases h.2 with ⟨h2, _⟩ | ⟨g', cap', cur, hv, hg, hh, hnc, hcm, hcs, htake⟩
  · simp at h2
  · simp only [Value.slice.injEq, Option.some.injEq, Addr.mk.injEq, and_true, true_and] at hv
    obtain ⟨rfl, rfl⟩ := hv
    refine .inr ⟨g, cap, cur, rfl, hg, hh, by omega, hcm, hcs, ?_⟩
    have h3 := congrArg (List.take (n * sz)) htake
    rw [List.take_take, Nat.min_eq_left (Nat.mul_le_mul_right _ (by omega))] at h3
    rw [h3, ← hx]
    exact List.take_left

theorem beyond_one (x : Nat) (w : World) (hx : x ≤ 140737488355328) :
    Calls Tryd.prog 7 #[.slice (some ⟨w.heap.size, 0, none⟩) 1 1] (w.alloc (.cells #[.int .i64 (x : Int)] 3)) fun e w' => e = .returned (.bool (decide (1048576 < x))) ∧ w.alloc (.cells #[.int .i64 (x : Int)] 3) = w' := by
  refine (beyond_any (some ⟨w.heap.size, 0, none⟩) 1 1 [x] _ ⟨rfl, fun _ => ⟨_, _, rfl, by simp, fun j u hu => ?_⟩⟩ (by simpa using hx) (by omega)).mono ?_
  · rw [Nat.zero_add, cell_alloc_at]
    simpa using hu
  · rintro e w' ⟨rfl, rfl⟩
    exact ⟨ret_bool (by rw [Bool.eq_iff_iff, decide_eq_true_iff, decide_eq_true_iff]; simp), rfl⟩
set_option maxRecDepth 100000 in
set_option maxHeartbeats 1000000 in
theorem headsfinds_any (A : Option Addr) (n c : Nat) (fs : List Fd) (s : ByteArray) (w : World) (h : FRead w w.heap.size A n fs) (hs : FSmall fs) (hn : n ≤ 140737488355328) (hsz : s.size ≤ 140737488355328) (hp : PowTab w) (hg : powG < w.heap.size) :
    Calls Tryd.prog 3 #[.slice A n c, .string s] w fun e w' => e = .returned (.bool true) ∧ Below w.heap.size w w' := by
  have H := Lib.hid h
  have HS := Lib.hid hs
  have HP := Lib.hid hp
  clear h hs hp
  cases hbig : bigB 0 fs
  · obtain ⟨hn2, hf2⟩ := big_parts hbig
    have hnl : n ≤ 100000 := by rw [← H.out.1]; exact hn2
    have HB := Lib.hid hbig
    have HF := Lib.hid hf2
    clear hbig hn2 hf2
    by_cases hsb : 1048576 < s.size
    · go_enter Tryd.func3, Tryd.ntmps3
      go_wp2_with fail
      refine (great_fields A n c fs _ (H.out) HS.out hn).mono ?_
      rintro e w1 ⟨rfl, hb1⟩
      rw [HB.out]
      go_wp2_with fail
      refine (beyond_one s.size w1 hsz).mono ?_
      rintro e w2 ⟨rfl, rfl⟩
      rw [decide_eq_true hsb]
      go_wp2_with fail
      go_ret
      exact ⟨rfl, hb1.alloc hb1.size _⟩
    · go_enter Tryd.func3, Tryd.ntmps3
      go_wp2_with fail
      refine (great_fields A n c fs _ (H.out) HS.out hn).mono ?_
      rintro e w1 ⟨rfl, hb1⟩
      rw [HB.out]
      go_wp2_with fail
      refine (beyond_one s.size w1 hsz).mono ?_
      rintro e w2 ⟨rfl, rfl⟩
      rw [decide_eq_false hsb]
      have hbx : Below w.heap.size w (w1.alloc (.cells #[.int .i64 (s.size : Int)] 3)) := hb1.alloc hb1.size _
      have hr1 := (H.out.below hbx).more hbx.size
      have HX := Lib.hid hbx
      have R1 := Lib.hid hr1
      clear hbx hr1 hb1
      go_wp2_with fail
      generalize w1.alloc (.cells #[.int .i64 (s.size : Int)] 3) = W1 at *
      refine (twinf_any A n c fs W1 R1.out hnl).mono ?_
      rintro e w2 ⟨rfl, ht, hb2⟩
      obtain ⟨hrt, hm1, hm2⟩ := twin_read H.out.1 ht
      have hB2 := HX.out.trans (hb2.mono HX.out.size)
      have HT := Lib.hid ht
      have RT := Lib.hid hrt
      have M1 := Lib.hid hm1
      have M2 := Lib.hid hm2
      have B2 := Lib.hid hB2
      have X2 := Lib.hid hb2
      clear ht hrt hm1 hm2 hB2 hb2
      go_wp2_with fail
      refine (find_any _ n _ fs s w2 RT.out hnl (by omega) (fun f hf => by have := HF.out f hf; omega)).mono ?_
      rintro e w3 ⟨⟨va, rfl, hoa⟩, hb3⟩
      obtain ⟨Aa, ca, rfl⟩ := own_form hoa
      have OA := Lib.hid hoa
      have X3 := Lib.hid hb3
      have B3 := Lib.hid (B2.out.trans (hb3.mono B2.out.size))
      have RT3 := Lib.hid ((RT.out.below hb3).more hb3.size)
      clear hoa hb3
      go_wp2_with fail
      refine (find_any _ n _ fs s w3 RT3.out hnl (by omega) (fun f hf => by have := HF.out f hf; omega)).mono ?_
      rintro e w4 ⟨⟨vb, rfl, hob⟩, hb4⟩
      obtain ⟨Ab, cb, rfl⟩ := own_form hob
      have OB := Lib.hid hob
      have X4 := Lib.hid hb4
      have B4 := Lib.hid (B3.out.trans (hb4.mono B3.out.size))
      clear hob hb4
      go_wp2_with fail
      refine (rfind_any A n c fs s w4 ((H.out.below B4.out).more B4.out.size) hnl (by omega) (fun f hf => by have := HF.out f hf; omega)).mono ?_
      rintro e w5 ⟨⟨vr, rfl, hor⟩, hb5⟩
      obtain ⟨Ar, cr, rfl⟩ := own_form hor
      have OR := Lib.hid hor
      have X5 := Lib.hid hb5
      have B5 := Lib.hid (B4.out.trans (hb5.mono B4.out.size))
      clear hor hb5
      go_wp2_with fail
      have hla : Lies w5 w5.heap.size Aa (findB fs s).length ((findB fs s).map Value.string) := (((Lies.of_own OA.out).below X4.out).more X4.out.size |>.below X5.out).more X5.out.size
      have hlr : Lies w5 w5.heap.size Ar (findB fs s).length ((findB fs s).map Value.string) := Lies.of_own OR.out
      have hfl : (findB fs s).length ≤ n := by
        have h1 := findB_len fs s n
        rw [List.take_of_length_le (by rw [H.out.1]; exact Nat.le_refl _)] at h1
        exact h1
      have FL := Lib.hid hfl
      clear hfl
      refine (sametexts_any Aa Ar (findB fs s).length ca cr w5.heap.size (findB fs s) w5 hla hlr (by have := FL.out; omega)).mono ?_
      rintro e w6 ⟨rfl, q6, rfl⟩
      clear hla hlr
      go_wp2_with fail
      have X345 : Below w2.heap.size w2 (w5.drewN q6) := below_drewN (X3.out.trans ((X4.out.mono X3.out.size).trans (X5.out.mono (Nat.le_trans X3.out.size X4.out.size)))) q6
      have XX := Lib.hid X345
      clear X345
      have hz5 : w2.heap.size ≤ w5.heap.size := XX.out.size
      have rt6 : FRead (w5.drewN q6) (w5.drewN q6).heap.size (some ⟨W1.heap.size, 0, none⟩) n fs := (RT.out.below XX.out).more XX.out.size
      have rl6 : FRead (w5.drewN q6) (w5.drewN q6).heap.size A n fs := (H.out.below (below_drewN B5.out q6)).more B5.out.size
      have hgt : W1.heap.size < w2.heap.size := (HT.out.lt _ rfl).2
      refine (leftfields_any W1.heap.size A n c fs (w5.drewN q6) rt6 rl6 (by omega) ((XX.out.cell (p := ⟨W1.heap.size, n * 2, none⟩) hgt).trans M1.out) ((XX.out.cell (p := ⟨W1.heap.size, n * 2 + 1, none⟩) hgt).trans M2.out)).mono ?_
      rintro e w7 ⟨rfl, hb7⟩
      have B7 := Lib.hid ((below_drewN B5.out q6).trans (hb7.mono B5.out.size))
      have X7 := Lib.hid (XX.out.trans (hb7.mono XX.out.size))
      have X57 := Lib.hid (show Below w5.heap.size w5 w7 from (below_drewN (Below.refl _ _) q6).trans hb7)
      clear rt6 rl6 hb7
      go_wp2_with fail
      have hz7 : w.heap.size ≤ w7.heap.size := B7.out.size
      have hzW : w.heap.size ≤ W1.heap.size := HX.out.size
      have hot : w7.ownsRow w.heap.size 57 2 (.slice (some ⟨W1.heap.size, 0, none⟩) n (n + 1)) n (fcells fs) := own_below (ownsRow_base (own_cut (k := 1) (by rw [fcells_len, H.out.1]) HT.out) hzW) X7.out
      have hoa7 : w7.ownsRow w.heap.size 9 1 (.slice Aa (findB fs s).length ca) (findB fs s).length ((findB fs s).map Value.string) :=
        own_below (own_below (own_below (ownsRow_base OA.out (Nat.le_trans hzW (Nat.le_of_lt hgt))) X4.out) X5.out) X57.out
      have hob7 : w7.ownsRow w.heap.size 9 1 (.slice Ab (findB fs s).length cb) (findB fs s).length ((findB fs s).map Value.string) :=
        own_below (own_below (ownsRow_base OB.out (Nat.le_trans hzW (Nat.le_trans (Nat.le_of_lt hgt) X3.out.size))) X5.out) X57.out
      have hbk := Blk.new w7 42 #[.int .i64 0, .slice none 0 0, .slice none 0 0, .slice none 0 0, .slice none 0 0, .slice none 0 0, .slice none 0 0, .slice none 0 0, .slice none 0 0]
      have hal : Below w7.heap.size w7 (w7.alloc (.cells #[.int .i64 0, .slice none 0 0, .slice none 0 0, .slice none 0 0, .slice none 0 0, .slice none 0 0, .slice none 0 0, .slice none 0 0, .slice none 0 0] 42)) := (Below.refl _ _).alloc (Nat.le_refl _) _
      have T8 := Lib.hid (own_below hot hal)
      have A8 := Lib.hid (own_below hoa7 hal)
      have C8 := Lib.hid (own_below hob7 hal)
      have L8 := Lib.hid (B7.out.trans (hal.mono hz7))
      clear hot hoa7 hob7 hal
      have hfar : ∀ b, (Value.slice Aa (findB fs s).length ca).ownBlock = some b → (Value.slice Ab (findB fs s).length cb).ownBlock ≠ some b := fun b h1 h2 => by
        have h3 := (OA.out.lt b h1).2
        have h4 := (OB.out.lt b h2).1
        omega
      have FR := Lib.hid hfar
      clear hfar
      have h7n := hz7
      generalize w7.alloc (.cells #[.int .i64 0, .slice none 0 0, .slice none 0 0, .slice none 0 0, .slice none 0 0, .slice none 0 0, .slice none 0 0, .slice none 0 0, .slice none 0 0] 42) = W8 at *
      generalize w7.heap.size = g at *
      refine (addfield_ok w.heap.size g 0 (.slice none 0 0) (.slice none 0 0) (.slice none 0 0) [] _ n (n + 1) (fcells fs) W8 (by omega) (by simp) h7n hbk (Kind.nil rfl) T8.out).mono ?_
      rintro e w9 ⟨rfl, vf, g9, kf9, l9, y9⟩
      have G9 := Lib.hid g9
      have KF9 := Lib.hid kf9
      have L9 := Lib.hid (L8.out.trans l9)
      have A9 := Lib.hid (own_tys A8.out y9 (by decide))
      have C9 := Lib.hid (own_tys C8.out y9 (by decide))
      clear g9 kf9 l9 y9 hbk
      go_wp2_with fail
      refine (addtext_ok w.heap.size g (0 + 1) (.slice none 0 0) (.slice none 0 0) vf [] _ _ _ _ w9 (by omega) (by simp) h7n G9.out (Kind.nil rfl) A9.out).mono ?_
      rintro e w10 ⟨rfl, vt, g10, kt10, l10, y10⟩
      have G10 := Lib.hid g10
      have KT10 := Lib.hid kt10
      have KF10 := Lib.hid (KF9.out.tys y10 (by decide) (by decide))
      have L10 := Lib.hid (L9.out.trans l10)
      have C10 := Lib.hid (own_tys C9.out y10 (by decide))
      clear g10 kt10 l10 y10
      go_wp2_with fail
      refine (addtext_ok w.heap.size g (0 + 1 + 1) (.slice none 0 0) vt vf _ _ _ _ _ w10 (by omega) (by simp) h7n G10.out KT10.out C10.out).mono ?_
      rintro e w11 ⟨rfl, vt2, g11, kt11, l11, y11⟩
      have G11 := Lib.hid g11
      have KT11 := Lib.hid kt11
      have KF11 := Lib.hid (KF10.out.tys y11 (by decide) (by decide))
      have L11 := Lib.hid (L10.out.trans l11)
      clear g11 kt11 l11 y11
      go_wp2_with fail
      refine (apart_any w.heap.size g _ (.slice none 0 0) vt2 vf [] _ _ w11 hg L11.out.size (HP.out.below L11.out hg) (by simp) (by simp) (by simp) G11.out (Kind.nil rfl) KT11.out KF11.out Far.nil ?_ ?_ Nums.nil ?_ ?_).mono ?_
      · refine Far.push (Far.push Far.nil (fun j hj => by simp at hj)) (fun j hj b hb => ?_)
        obtain rfl : j = 0 := by simp at hj; omega
        exact FR.out b hb
      · exact Far.push Far.nil (fun j hj => by simp at hj)
      · exact (Nums.nil.push (by simp only [lenOf]; have := FL.out; omega) (by omega)).push (by simp only [lenOf]; have := FL.out; omega) (by omega)
      · exact Nums.nil.push (by simp only [lenOf]; omega) (by omega)
      rintro e w12 ⟨rfl, l12⟩
      have L12 := Lib.hid (L11.out.trans l12)
      clear l12
      go_wp2_with fail
      go_ret
      exact ⟨rfl, L12.out⟩
  · have HB := Lib.hid hbig
    clear hbig
    go_enter Tryd.func3, Tryd.ntmps3
    go_wp2_with fail
    refine (great_fields A n c fs _ (H.out) HS.out hn).mono ?_
    rintro e w1 ⟨rfl, hb1⟩
    rw [HB.out]
    go_wp2_with fail
    go_ret
    exact ⟨rfl, hb1⟩
end Go.Proofs.YtonlfplloenfcaaDoor
