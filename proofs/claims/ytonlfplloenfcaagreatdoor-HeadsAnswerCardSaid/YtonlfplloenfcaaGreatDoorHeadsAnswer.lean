/-
  HeadsAnswer: the walk.
-/
import Derived.Deep.CutRange
import Derived.Deep.CutBlock
import Derived.BigRegion
import Derived.Test.YtonlfplloenfcaaGreatDoorHeadsMoreEtc
import Derived.Test.YtonlfplloenfcaaGreatDoorRefWholeEtc
namespace Go.Proofs.YtonlfplloenfcaaGreatDoor
open Go.RowKit

theorem conv_three {P : Program} {src dst e : TypeId} {x1 x2 x3 : Nat} (hs : P.underlying src = some (.slice e)) (he : P.underlying e = some (.int .u8)) (hd : P.underlying dst = some .string) (h1 : x1 < 10) (h2 : x2 < 10) (h3 : x3 < 10)
    (W : World) (b : Nat) (c0 : W.cell? ⟨b, 0, none⟩ = some (.int .u8 (48 + (x1 : Int)))) (c1 : W.cell? ⟨b, 1, none⟩ = some (.int .u8 (48 + (x2 : Int)))) (c2 : W.cell? ⟨b, 2, none⟩ = some (.int .u8 (48 + (x3 : Int)))) :
    (convert src dst (.slice (some ⟨b, 0, none⟩) 3 3)).run P W = .ok (.string ⟨#[UInt8.ofNat (48 + x1), UInt8.ofNat (48 + x2), UInt8.ofNat (48 + x3)]⟩) W := by
  refine run_convert_bytes_back (P := P) W src dst e ⟨b, 0, none⟩ 3 [UInt8.ofNat (48 + x1), UInt8.ofNat (48 + x2), UInt8.ofNat (48 + x3)] hs he hd fun j hj => ?_
  have hj' : j < 3 := hj
  rw [Addr.add_lit, Nat.zero_add]
  rcases j with _ | _ | _ | j
  · rw [c0]; simp; omega
  · rw [c1]; simp; omega
  · rw [c2]; simp; omega
  · omega

theorem conv_blk {P : Program} {src dst e t : TypeId} {x1 x2 x3 : Nat} (hs : P.underlying src = some (.slice e)) (he : P.underlying e = some (.int .u8)) (hd : P.underlying dst = some .string) (h1 : x1 < 10) (h2 : x2 < 10) (h3 : x3 < 10)
    {W : World} {b : Nat} (h : Blk W b t #[.int .u8 (48 + (x1 : Int)), .int .u8 (48 + (x2 : Int)), .int .u8 (48 + (x3 : Int))]) :
    (convert src dst (.slice (some ⟨b, 0, none⟩) 3 3)).run P W.drew = .ok (.string ⟨#[UInt8.ofNat (48 + x1), UInt8.ofNat (48 + x2), UInt8.ofNat (48 + x3)]⟩) W.drew :=
  conv_three hs he hd h1 h2 h3 _ _ (by have := h.cell 0; simpa using this) (by have := h.cell 1; simpa using this) (by have := h.cell 2; simpa using this)

theorem below_alloc1 {a w : World} (h : Below a.heap.size a w) (x : Obj) : Below a.heap.size a (w.alloc x) := h.alloc h.size x
theorem below_alloc3 {a w : World} (h : Below a.heap.size a w) (x y z : Obj) : Below a.heap.size a (((w.alloc x).alloc y).alloc z) := below_alloc1 (below_alloc1 (below_alloc1 h x) y) z

set_option maxRecDepth 100000 in
set_option maxHeartbeats 4000000 in
theorem headsanswer_any (zn hw : Nat) (A : Option Addr) (n c : Nat) (fs : List Fd) (w : World) (hzn : zn < 65536) (hhw : hw < 256) (h : FRead w w.heap.size A n fs) (hs : FSmall fs) (hn : n ≤ 140737488355328)
    (hm : MaxOk w) (hmg : maxG < w.heap.size) (he : ErrOk w) (heg : errG < w.heap.size) :
    Calls Tryz.prog 9 #[.int .u16 (zn : Int), .slice A n c, .int .u8 (hw : Int)] w fun e w' => e = .returned (.bool true) ∧ Below w.heap.size w w' := by
  have H := Lib.hid h
  have HS := Lib.hid hs
  have HM := Lib.hid hm
  have HE := Lib.hid he
  have HA := Lib.hid (fun (W : World) (hb : Below w.heap.size w W) => alive_any W (hm.below hb hmg) (Nat.lt_of_lt_of_le hmg hb.size) (he.below hb heg) (Nat.lt_of_lt_of_le heg hb.size))
  have HG := Lib.hid (fun (W : World) (hb : Below w.heap.size w W) => great_any ⟨#[]⟩ ⟨#[]⟩ 0 A none n c 0 0 fs W ((h.below hb).more hb.size) hs (by decide) (by decide) (by omega) hn)
  clear h hs hm he
  go_enter Tryz.func9, Tryz.ntmps9
  go_wp2_with fail
  refine (HA.out w (Below.refl _ _)).mono ?_
  rintro e w1 ⟨rfl, hb1⟩
  have B1 := Lib.hid hb1
  clear hb1
  by_cases hbig : 50 < n
  · have hd : decide ((50 : Int) < (n : Int)) = true := decide_eq_true (by omega)
    go_wp2_with fail
    refine (HA.out w1 B1.out).mono ?_
    rintro e w2 ⟨rfl, hb2⟩
    have B2 := Lib.hid (B1.out.trans (hb2.mono B1.out.size))
    clear hb2
    go_wp2_with fail
    go_ret
    exact ⟨rfl, B2.out⟩
  have hd : decide ((50 : Int) < (n : Int)) = false := decide_eq_false (by omega)
  go_wp2_with fail
  refine (HG.out w1 B1.out).mono ?_
  rintro e w2 ⟨rfl, hb2⟩
  have B2 := Lib.hid (B1.out.trans (hb2.mono B1.out.size))
  clear hb2 HG
  obtain ⟨q, hq⟩ : ∃ q, bigB (ByteArray.size ⟨#[]⟩ + ByteArray.size ⟨#[]⟩ + 0) fs = q := ⟨_, rfl⟩
  rw [hq]
  have HQ1 := Lib.hid hq
  clear hq
  cases q with
  | true =>
    go_wp2_with fail
    refine (HA.out w2 B2.out).mono ?_
    rintro e wz ⟨rfl, hbz⟩
    have BZ := Lib.hid (B2.out.trans (hbz.mono B2.out.size))
    clear hbz
    go_wp2_with fail
    go_ret
    exact ⟨rfl, BZ.out⟩
  | false =>
  have hsum := sum_of_big HQ1.out
  have hz0 : ByteArray.size ⟨#[]⟩ = 0 := rfl
  rw [hz0] at hsum
  have HPU := Lib.hid (hput_any ⟨#[77]⟩ ⟨#[116]⟩ 0 A none n c 0 0 fs w2 ((H.out.below B2.out).more B2.out.size) HS.out (by show 1 + 1 + fsum fs ≤ 200010; omega))
  go_wp2_with fail
  refine (HPU.out).mono ?_
  rintro e w4 ⟨v4, rfl, ho4, hb4⟩
  obtain ⟨A4, c4, rfl⟩ := own_form ho4
  have B4 := Lib.hid (B2.out.trans (hb4.mono B2.out.size))
  clear ho4 hb4
  by_cases h0 : ¬ headE ⟨#[77]⟩ ⟨#[116]⟩ fs = 0
  · have hd3 : (headE ⟨#[77]⟩ ⟨#[116]⟩ fs != 0) = true := bne_iff_ne.2 h0
    go_wp2_with fail
    go_ret
    exact ⟨rfl, B4.out⟩
  have h0 := Decidable.not_not.1 h0
  have hd3 : (headE ⟨#[77]⟩ ⟨#[116]⟩ fs != 0) = false := by rw [h0]; rfl
  have HH0 := Lib.hid h0
  clear h0
  go_wp2_with fail
  obtain ⟨k, hk, hk1, hk2⟩ : ∃ k : Nat, (zn : Int) % 900 + 100 = (k : Int) ∧ 100 ≤ k ∧ k < 1000 := ⟨zn % 900 + 100, by omega, by omega, by omega⟩
  rw [hk]
  obtain ⟨x1, hx1, hx1b⟩ : ∃ x1 : Nat, k / 100 = x1 ∧ x1 < 10 := ⟨_, rfl, by omega⟩
  obtain ⟨x2, hx2, hx2b⟩ : ∃ x2 : Nat, k / 10 % 10 = x2 ∧ x2 < 10 := ⟨_, rfl, by omega⟩
  obtain ⟨x3, hx3, hx3b⟩ : ∃ x3 : Nat, k % 10 = x3 ∧ x3 < 10 := ⟨_, rfl, by omega⟩
  have y1 : (k : Int) / 100 = (x1 : Int) := by omega
  have y2 : (k : Int) / 10 % 10 = (x2 : Int) := by omega
  have y3 : (k : Int) % 10 = (x3 : Int) := by omega
  clear hk
  obtain ⟨r2, m1, hr2⟩ : ∃ r2 : Nat, (hw : Int) % 2 = (r2 : Int) ∧ (r2 : Int) < 2 := ⟨hw % 2, by omega, by omega⟩
  obtain ⟨r3, m2, hr3⟩ : ∃ r3 : Nat, (hw : Int) / 2 % 3 = (r3 : Int) ∧ (r3 : Int) < 3 := ⟨hw / 2 % 3, by omega, by omega⟩
  obtain ⟨r4, m3, hr4⟩ : ∃ r4 : Nat, (hw : Int) / 8 % 3 = (r4 : Int) ∧ (r4 : Int) < 3 := ⟨hw / 8 % 3, by omega, by omega⟩
  obtain ⟨r5, m4, hr5⟩ : ∃ r5 : Nat, (hw : Int) / 32 % 2 = (r5 : Int) ∧ (r5 : Int) < 2 := ⟨hw / 32 % 2, by omega, by omega⟩
  obtain ⟨v, c1, hv⟩ : ∃ v : UInt8, (#[.string ⟨#[48]⟩, .string ⟨#[49]⟩] : Array Value)[r2]? = some (.string ⟨#[v]⟩) ∧ (v = 48 ∨ v = 49) := by
    have : r2 = 0 ∨ r2 = 1 := by omega
    rcases this with rfl | rfl
    · exact ⟨48, rfl, .inl rfl⟩
    · exact ⟨49, rfl, .inr rfl⟩
  obtain ⟨wd, c2, hw1, hw2, hwz⟩ : ∃ wd : ByteArray, (#[.string ⟨#[]⟩, .string ⟨#[32]⟩, .string ⟨#[32, 110, 111, 116, 32, 115, 111, 58, 32, 128]⟩] : Array Value)[r3]? = some (.string wd) ∧ plainB wd.data.toList = true ∧ (wd.data.toList = [] ∨ ∃ r, wd.data.toList = 32 :: r) ∧ wd.size ≤ 10 := by
    have : r3 = 0 ∨ r3 = 1 ∨ r3 = 2 := by omega
    rcases this with rfl | rfl | rfl
    · exact ⟨_, rfl, by decide, .inl rfl, by decide⟩
    · exact ⟨_, rfl, by decide, .inr ⟨_, rfl⟩, by decide⟩
    · exact ⟨_, rfl, by decide, .inr ⟨_, rfl⟩, by decide⟩
  obtain ⟨pb, c3, hp1, hpz⟩ : ∃ pb : ByteArray, (#[.string ⟨#[]⟩, .string ⟨#[32]⟩, .string ⟨#[9, 32, 9]⟩] : Array Value)[r4]? = some (.string pb) ∧ (∀ x ∈ pb.data.toList, blankB x = true) ∧ pb.size ≤ 3 := by
    have : r4 = 0 ∨ r4 = 1 ∨ r4 = 2 := by omega
    rcases this with rfl | rfl | rfl
    · exact ⟨_, rfl, by decide, by decide⟩
    · exact ⟨_, rfl, by decide, by decide⟩
    · exact ⟨_, rfl, by decide, by decide⟩
  obtain ⟨qb, c4', hq1, hqz⟩ : ∃ qb : ByteArray, (#[.string ⟨#[]⟩, .string ⟨#[32, 9]⟩] : Array Value)[r5]? = some (.string qb) ∧ (∀ x ∈ qb.data.toList, blankB x = true) ∧ qb.size ≤ 2 := by
    have : r5 = 0 ∨ r5 = 1 := by omega
    rcases this with rfl | rfl
    · exact ⟨_, rfl, by decide, by decide⟩
    · exact ⟨_, rfl, by decide, by decide⟩
  have HFIRST := Lib.hid (ansX_first v k wd pb qb x1 x2 x3 hx1 hx2 hx3)
  have HSUCC := Lib.hid (ansX_succ v k wd pb qb fs)
  have HLEN := Lib.hid (fun j => ansT_len v k wd pb qb hpz hqz (fs.take j))
  have HANS := Lib.hid (fun hl => ans_g v k wd pb qb fs hv hk1 hk2 hw1 hw2 hp1 hq1 (headE_parts HH0.out).2.2.1 (by rw [H.out.1]; omega) hl)
  have HROW := Lib.hid (And.intro c3 c4')
  have HB3 := Lib.hid (fun (a b c : Obj) => below_alloc3 B4.out a b c)
  clear hv hw1 hw2 hp1 hq1 c3 c4' hx1 hx2 hx3
  go_cut [10] from 15 (fun s10 wx => s10 = .string (ansX v k wd pb qb []) ∧ Below w.heap.size w wx)
  case first =>
    have hcv := fun W (b : Nat) => conv_blk (P := Tryz.prog) (x1 := x1) (x2 := x2) (x3 := x3) (t := 5) Tryz.underlying23 Tryz.underlying5 Tryz.underlying9 hx1b hx2b hx3b (W := W) (b := b)
    have q00 := hcv _ _ (Blk.new w4 5 _)
    have q01 := fun o => hcv _ _ ((Blk.new w4 5 _).alloc o)
    have q02 := fun o o2 => hcv _ _ (((Blk.new w4 5 _).alloc o).alloc o2)
    have q10 := fun o => hcv _ _ (Blk.new (w4.alloc o) 5 _)
    have q11 := fun o o2 => hcv _ _ ((Blk.new (w4.alloc o) 5 _).alloc o2)
    have q20 := fun o o2 => hcv _ _ (Blk.new ((w4.alloc o).alloc o2) 5 _)
    clear hcv
    have hsz : ∀ (W : World) o, (W.alloc o).heap.size = W.heap.size + 1 := fun W o => by simp
    simp only [hsz] at q10 q11 q20
    clear hsz
    go_region
    all_goals
      go_wp2_with fail
      go_meet
      exact ⟨by rw [HFIRST.out], below_drewN (HB3.out _ _ _) 1⟩
  case rest =>
  obtain ⟨hs10, hbc⟩ := hcut
  subst hs10
  have B5 := Lib.hid hbc
  clear hbc c1 c2 HFIRST HB3 B4 y1 y2 y3 hx1b hx2b hx3b B2 HQ1 B1
  have e0 : ansX v k wd pb qb [] = ansX v k wd pb qb (fs.take 0) := rfl
  rw [e0]
  clear e0
  go_wp2_with fail
  go_loopw [10, 11] (fun s i wr => ∃ j : Nat, j ≤ n ∧ i = .int .i64 j ∧ s = .string (ansX v k wd pb qb (fs.take j)) ∧ Below w.heap.size w wr) (fun _ i _ => n - (intOf i).toNat)
  case atStart => exact ⟨0, Nat.zero_le _, rfl, rfl, B5.out⟩
  case round =>
    obtain ⟨j, hj, rfl, rfl, hb⟩ := hrel
    have hlj := HLEN.out j
    have hfl := fsum_le fs j
    obtain ⟨S, hS⟩ : ∃ S, ansX v k wd pb qb (fs.take j) = S := ⟨_, rfl⟩
    have hSz : S.size ≤ 1000000 := by
      rw [← hS, ansX_size]
      omega
    clear hlj hfl
    rw [hS]
    have HS9 := Lib.hid hS
    clear hS
    by_cases hlt : j < n
    · obtain ⟨b, off, rfl, hbb, hc⟩ := H.out.2 (by omega)
      obtain ⟨f, hf⟩ : ∃ f, fs[j]? = some f := ⟨fs[j]'(by rw [H.out.1]; exact hlt), List.getElem?_eq_getElem (by rw [H.out.1]; exact hlt)⟩
      have hc1 := (hb.cell (p := ⟨b, off + j * 2, none⟩) hbb).trans (hc j f hf).1
      have hc2 := (hb.cell (p := ⟨b, off + j * 2 + 1, none⟩) hbb).trans (hc j f hf).2
      have hbr : b < wr.heap.size := Nat.lt_of_lt_of_le hbb hb.size
      have hsu := HSUCC.out j f hf
      have hfz : f.1.size + f.2.size ≤ 200000 := by
        have e1 := fsum_succ fs j f hf
        have e2 := fsum_le fs (j + 1)
        omega
      rw [HS9.out] at hsu
      have HSU := Lib.hid hsu
      clear hc hf hsu
      obtain ⟨f1, f2⟩ := f
      simp only at hc1 hc2 hfz
      have HB := Lib.hid hb
      have c3 := HROW.out.1
      have c4' := HROW.out.2
      go_upto_block 1 with fail
      go_cut [10] from 71 to 105 (fun s wx => s = .string (ansX v k wd pb qb (fs.take (j + 1))) ∧ Below w.heap.size w wx)
      case first =>
        go_wp2_with fail
        go_region
        all_goals
          go_wp2_with fail
          go_meet
          exact ⟨congrArg Value.string HSU.out, below_drewN (below_alloc1 (below_alloc1 HB.out _) _) 1⟩
      case rest =>
      obtain ⟨hs10, hbc⟩ := hcut
      subst hs10
      go_wp2_with fail
      go_roundw
      case rel => exact ⟨j + 1, by omega, by go_num, rfl, hbc⟩
      case measure => simp [intOf]; omega
    · obtain rfl : j = n := by omega
      have HB := Lib.hid hb
      clear HSUCC HROW HLEN hb m1 m2 m3 m4 hr2 hr3 hr4 hr5 hsum hz0 hd hd3 h0
      obtain ⟨TX, hTX⟩ : ∃ TX, S ++ ⟨#[13, 10]⟩ = TX := ⟨_, rfl⟩
      have hsz2 : TX.size = S.size + 2 := by rw [← hTX]; exact ByteArray.size_append
      have hdata : TX.data.toList = ansT v k wd pb qb fs ++ [13, 10] := by
        rw [← hTX, ← HS9.out, Go.Joins.data_append, List.take_of_length_le (by rw [H.out.1]; exact Nat.le_refl _)]
        rfl
      have hsz3 : S.size = (ansT v k wd pb qb fs).length := by
        rw [← HS9.out, ansX_size, List.take_of_length_le (by rw [H.out.1]; exact Nat.le_refl _)]
      go_upto_region 13 with fail
      have HSZ := Lib.hid (And.intro hsz2 (And.intro hdata hsz3))
      clear hTX hsz2 hdata hsz3
      by_cases hbg : 65536 < TX.size
      · have hd4 : decide ((65536 : Int) < (TX.size : Int)) = true := decide_eq_true (by omega)
        go_wp2_with fail
        go_ret
        exact ⟨rfl, HB.out⟩
      have hd4 : decide ((65536 : Int) < (TX.size : Int)) = false := decide_eq_false (by omega)
      obtain ⟨g1, g2, g3, g4⟩ := HANS.out (by have h1 := HSZ.out.1; have h2 := HSZ.out.2.2; omega)
      rw [← HSZ.out.2.1] at g1 g2 g3 g4
      have g2 : gN statusK TX.data.toList = (TX.size : Int) := by rw [g2, HSZ.out.1, HSZ.out.2.2]; omega
      have HG4 := Lib.hid (And.intro g1 (And.intro g2 (And.intro g3 g4)))
      have hcv := fun W => Lib.run_convert_string_bytes (P := Tryz.prog) W 9 23 5 TX Tryz.underlying9 Tryz.underlying23 Tryz.underlying5
      obtain ⟨hL, hBb, hlt2⟩ := str_bytes TX wr
      have hcap : TX.size ≤ grownCap wr TX.size 0 5 := grownCap_ge _ _ _ _
      have B6 := Lib.hid (HB.out.trans (hBb.mono HB.out.size))
      have HGE := Lib.hid (hget_opt (some ⟨wr.heap.size, 0, none⟩) TX.size (grownCap wr TX.size 0 5) TX.data.toList (Lib.bytesWorld wr 5 TX) hL hcap (by omega) (HM.out.below B6.out hmg) (Nat.lt_of_lt_of_le hmg B6.out.size) (HE.out.below B6.out heg) (Nat.lt_of_lt_of_le heg B6.out.size))
      clear hL hBb hcap g1 g2 g3 g4 HS9 HSZ hSz HANS hlt2
      go_wp2_with fail
      refine (HGE.out).mono ?_
      rintro e w8 ⟨⟨v8, he8, ho8⟩, hb8⟩
      rw [HG4.out.1, HG4.out.2.1, HG4.out.2.2.1] at he8
      rw [HG4.out.2.2.2] at ho8
      subst he8
      obtain ⟨A8, c8, rfl⟩ := own_form ho8
      have B8 := Lib.hid (B6.out.trans (hb8.mono B6.out.size))
      have hfl : fs.length = j := H.out.1
      rw [hfl] at ho8 ⊢
      have O8 := Lib.hid ho8
      obtain ⟨M1, hM1⟩ : ∃ M1, gM statusK TX.data.toList = M1 := ⟨_, rfl⟩
      obtain ⟨T1, hT1⟩ : ∃ T1, gT statusK TX.data.toList = T1 := ⟨_, rfl⟩
      rw [hM1, hT1]
      clear hb8 ho8 hcv HGE hM1 hT1 HG4
      have hal : Below w8.heap.size w8 (w8.alloc (.cells #[.string M1, .string T1, .int .i64 (k : Int), .slice A8 j c8, .slice none 0 0] 25)) := (Below.refl _ _).alloc (Nat.le_refl _) _
      have qb' := Blk.new w8 25 #[.string M1, .string T1, .int .i64 (k : Int), .slice A8 j c8, .slice none 0 0]
      have r2' := qb'.cell 2
      have r3' := qb'.cell 3
      simp at r2' r3'
      obtain ⟨W9, hW9⟩ : ∃ W9, w8.alloc (.cells #[.string M1, .string T1, .int .i64 (k : Int), .slice A8 j c8, .slice none 0 0] 25) = W9 := ⟨_, rfl⟩
      have B9 : Hid (Below w.heap.size w W9) := by rw [← hW9]; exact Lib.hid (B8.out.trans (hal.mono B8.out.size))
      rw [hW9] at hal
      have HSF := Lib.hid (samefields_any A8 A j c8 c W9.heap.size fs W9 (fread_own hfl (own_below O8.out hal)) ((H.out.below B9.out).more B9.out.size) (by omega))
      have HW9 := Lib.hid hW9
      have d1 : ((TX.size : Int) == (TX.size : Int)) = true := beq_iff_eq.2 rfl
      have d2 : ((k : Int) == (k : Int)) = true := beq_iff_eq.2 rfl
      clear hal hW9 qb' O8
      go_wp2_with fail
      rw [HW9.out]
      refine (HSF.out).mono ?_
      rintro e w10 ⟨rfl, q, rfl⟩
      have B10 := Lib.hid (below_drewN B9.out q)
      clear HSF
      go_wp2_with fail
      go_ret
      exact ⟨rfl, B10.out⟩
end Go.Proofs.YtonlfplloenfcaaGreatDoor
