/-
  ascii.Number.
  footmanref12.Request.
-/
import Derived.Test.YtonlfplloenfcaaGreatDoorSameMsgEtc
import Derived.Test.YtonlfplloenfcaaGreatDoorShelf
import Derived.Test.YtonlfplloenfcaaGreatDoorResultsEtc
import Derived.Test.YtonlfplloenfcaaGreatDoorRefLineEtc
import Derived.Test.YtonlfplloenfcaaGreatDoorHPutEtc
import Derived.Test.YtonlfplloenfcaaGreatDoorNamesEtc
namespace Go.Proofs.YtonlfplloenfcaaGreatDoor
open Go.RowKit

theorem emptyT (x : ByteArray) : x.toList.isEmpty = decide (x.size = 0) := by
  rw [← decide_eq_emptyBytes]
  rw [Bool.eq_iff_iff, decide_eq_true_iff, decide_eq_true_iff]
  constructor
  · intro h
    rw [h]
    rfl
  · intro h
    exact bytes_ext (List.eq_nil_of_length_eq_zero (by exact h))
theorem emptyT2 (x : List UInt8) : (⟨x.toArray⟩ : ByteArray).toList.isEmpty = x.isEmpty := by
  rw [emptyT, Bool.eq_iff_iff, decide_eq_true_iff, List.isEmpty_iff]
  show x.toArray.size = 0 ↔ _
  rw [List.size_toArray]
  exact List.length_eq_zero_iff
set_option maxRecDepth 100000 in
theorem anumber_any (s : ByteArray) (most : Nat) (w : World) (hs : s.size ≤ 140737488355328) :
    Calls Tryz.prog 122 #[.string s, .int .i64 (most : Int)] w fun e w' => e = .returned (numV s.data.toList most) ∧ Below w.heap.size w w' := by
  have HT := Lib.hid (Tryz.strings_Trim s ⟨#[48, 49, 50, 51, 52, 53, 54, 55, 56, 57]⟩ w (by omega) (by decide) (ascii_of_all (by decide)))
  have hll : s.data.toList.length = s.size := rfl
  by_cases h0 : s.size = 0
  · have hE : s.toList.isEmpty = true := by rw [emptyT]; exact decide_eq_true h0
    have hn : numB s.data.toList most = none := by
      rw [List.eq_nil_of_length_eq_zero h0]
      rfl
    have HN := Lib.hid (numV_none hn)
    clear hn hll
    go_enter Tryz.func122, Tryz.ntmps122
    go_wp2_with fail
    go_ret2
    exact ⟨congrArg Ending.returned HN.out.symm, Below.refl _ _⟩
  have hE : s.toList.isEmpty = false := by rw [emptyT]; exact decide_eq_false h0
  by_cases h18 : 18 < s.size
  · have hd : decide ((18 : Int) < (s.size : Int)) = true := decide_eq_true (by omega)
    have hn : numB s.data.toList most = none := by
      unfold numB
      rw [hll, decide_eq_false (show ¬ s.size ≤ 18 by omega)]
      simp
    have HN := Lib.hid (numV_none hn)
    clear hn hll
    go_enter Tryz.func122, Tryz.ntmps122
    go_wp2_with fail
    go_ret2
    exact ⟨congrArg Ending.returned HN.out.symm, Below.refl _ _⟩
  have hd : decide ((18 : Int) < (s.size : Int)) = false := decide_eq_false (by omega)
  have hti := trim_ten s.data.toList
  obtain ⟨t, ht⟩ : ∃ t, Lib.trimS s.data.toList tenB = t := ⟨_, rfl⟩
  rw [ht] at hti
  have hcs : Lib.trimS s.data.toList (⟨#[48, 49, 50, 51, 52, 53, 54, 55, 56, 57]⟩ : ByteArray).data.toList = t := ht
  rw [hcs] at HT
  have hT2 := hti
  cases hall : s.data.toList.all digB with
  | false =>
    rw [hall] at hT2
    have hn : numB s.data.toList most = none := by
      unfold numB digitsOK
      rw [hall]
      simp
    have HN := Lib.hid (numV_none hn)
    clear hn hll hall hti ht hcs
    go_enter Tryz.func122, Tryz.ntmps122
    go_wp2_with fail
    refine (HT.out).mono ?_
    rintro e w1 ⟨rfl, hb1⟩
    have B1 := Lib.hid hb1
    clear hb1
    go_wp2_with fail
    go_ret2
    exact ⟨congrArg Ending.returned HN.out.symm, B1.out⟩
  | true =>
    rw [hall] at hT2
    have hne : s.data.toList ≠ [] := fun e => h0 (by rw [← hll, e]; rfl)
    have hat := atoi_dig hne hall (by omega)
    obtain ⟨v, hv⟩ : ∃ v, decN s.data.toList = v := ⟨_, rfl⟩
    rw [hv] at hat
    have hv18 : v < 1000000000000000000 := by rw [← hv]; exact decN_eighteen hall (by omega)
    have HAT := Lib.hid (fun W => Tryz.strconv_Atoi_ok s (by omega) (v : Int) hat W)
    have hdo : digitsOK s.data.toList = true := by
      unfold digitsOK
      rw [hall]
      cases h9 : s.data.toList with
      | nil => exact absurd h9 hne
      | cons x r => rfl
    have hnb : numB s.data.toList most = if v ≤ most then some v else none := by
      unfold numB
      rw [hdo, hv, decide_eq_true (show s.data.toList.length ≤ 18 by omega)]
      simp
    have HNB := Lib.hid hnb
    clear hat hall hti ht hcs hne hdo hv hnb hll
    go_enter Tryz.func122, Tryz.ntmps122
    go_wp2_with fail
    refine (HT.out).mono ?_
    rintro e w1 ⟨rfl, hb1⟩
    have B1 := Lib.hid hb1
    clear hb1
    go_wp2_with fail
    refine (HAT.out w1).mono ?_
    rintro e w2 ⟨rfl, hw2⟩
    have B2 : Hid (Below w.heap.size w w2) := by
      rcases hw2 with rfl | ⟨t2, rfl⟩
      · exact B1
      · exact Lib.hid (B1.out.trans ((bytesWorld_below w1 5 t2).mono B1.out.size))
    clear hw2
    by_cases hvm : v ≤ most
    · have hd3 : decide ((most : Int) < (v : Int)) = false := decide_eq_false (by omega)
      have HN := Lib.hid (numV_some (s := s.data.toList) (most := most) (n := v) (by rw [HNB.out, if_pos hvm]))
      go_wp2_with fail
      go_ret2
      exact ⟨congrArg Ending.returned HN.out.symm, B2.out⟩
    · have hd3 : decide ((most : Int) < (v : Int)) = true := decide_eq_true (by omega)
      have HN := Lib.hid (numV_none (s := s.data.toList) (most := most) (by rw [HNB.out, if_neg hvm]))
      go_wp2_with fail
      go_ret2
      exact ⟨congrArg Ending.returned HN.out.symm, B2.out⟩
end Go.Proofs.YtonlfplloenfcaaGreatDoor
namespace Go.Proofs.YtonlfplloenfcaaGreatDoor
open Go.RowKit
attribute [local go_sem] Oper.semAt_some

theorem splitB_mem : ∀ (n : Nat) (s : List UInt8), s.length ≤ n → ∀ x ∈ splitB s, x.length ≤ s.length := by
  intro n
  induction n with
  | zero =>
    intro s hs x hx
    rw [split_cut] at hx
    have h1 := cut_le1 s [13, 10]
    rcases List.mem_cons.1 hx with rfl | hx
    · exact h1.1
    · split at hx
      · rename_i hf
        have := cut_le s [13, 10] hf
        simp only [List.length_cons, List.length_nil] at this
        omega
      · cases hx
  | succ n ih =>
    intro s hs x hx
    rw [split_cut] at hx
    have h1 := cut_le1 s [13, 10]
    rcases List.mem_cons.1 hx with rfl | hx
    · exact h1.1
    · split at hx
      · rename_i hf
        have := cut_le s [13, 10] hf
        simp only [List.length_cons, List.length_nil] at this
        have := ih _ (by omega) x hx
        omega
      · cases hx
theorem mk_list (x : List UInt8) : (⟨x.toArray⟩ : ByteArray).data.toList = x := by simp
theorem lines_size (l : List UInt8) (h : 0 ≤ endAt l) : ∀ x ∈ headLines l, x.length ≤ 65536 := by
  obtain ⟨k, hk, hk1, hk2, _, _⟩ := endAt_spec l h
  intro x hx
  unfold headLines at hx
  have := splitB_mem _ _ (Nat.le_refl _) x hx
  rw [hk, Int.toNat_natCast, List.length_take] at this
  omega
theorem lines_count (l : List UInt8) (h : 0 ≤ endAt l) : (headLines l).length ≤ 65537 := by
  obtain ⟨k, hk, hk1, hk2, _, _⟩ := endAt_spec l h
  have := splitB_len (l.take (endAt l).toNat)
  unfold headLines
  rw [hk, Int.toNat_natCast, List.length_take] at this
  rw [hk, Int.toNat_natCast]
  omega

set_option maxRecDepth 100000 in
theorem rrequest_any (A : Option Addr) (n c : Nat) (l : List UInt8) (w : World) (h : Lies w w.heap.size A n (Lib.byteCells l)) (hc : n ≤ c) (hn : n ≤ 200000) :
    Calls Tryz.prog 33 #[.slice A n c] w (ReadPost askK l w) := by
  have hl : l.length = n := by simpa [Lib.byteCells] using h.1
  have hk0 := Blk.new w 25 #[.string ⟨#[]⟩, .string ⟨#[]⟩, .int .i64 0, .slice none 0 0, .slice none 0 0]
  have hB0 : Below w.heap.size w (w.alloc (.cells #[.string ⟨#[]⟩, .string ⟨#[]⟩, .int .i64 0, .slice none 0 0, .slice none 0 0] 25)) := (Below.refl _ _).alloc (Nat.le_refl _) _
  have hz0 : w.heap.size < (w.alloc (.cells #[.string ⟨#[]⟩, .string ⟨#[]⟩, .int .i64 0, .slice none 0 0, .slice none 0 0] 25)).heap.size := by simp
  have hG := rget_any A n c l _ ((h.below hB0).more hB0.size) hc hn
  have HG := Lib.hid hG
  have K0 := Lib.hid hk0
  have B0 := Lib.hid hB0
  clear hG hk0 hB0 h
  go_enter Tryz.func33, Tryz.ntmps33
  go_wp2_with fail
  refine (HG.out).mono ?_
  generalize w.alloc (.cells #[.string ⟨#[]⟩, .string ⟨#[]⟩, .int .i64 0, .slice none 0 0, .slice none 0 0] 25) = W1 at *
  rintro e w1 (⟨hneg, rfl, rfl⟩ | ⟨hpos, ⟨v, rfl, hown⟩, hb1⟩)
  · have hE := g_short (K := askK) hneg
    obtain ⟨E, hE2⟩ : ∃ E : Int, E = (if 65536 ≤ l.length then 3 else 7) := ⟨_, rfl⟩
    rw [← hE2] at hE ⊢
    have hE0 : E ≠ 0 := by rw [hE2]; split <;> decide
    have hE1 : (E == 0) = false := by simpa using hE0
    have HE := Lib.hid hE
    clear hE hE2
    have c0 := K0.out.cell 0
    have c1 := K0.out.cell 1
    have c2 := K0.out.cell 2
    have c3 := K0.out.cell 3
    have c4 := K0.out.cell 4
    simp at c0 c1 c2 c3 c4
    have f0 := K0.out.frozen 0
    have f1 := K0.out.frozen 1
    have f2 := K0.out.frozen 2
    have f3 := K0.out.frozen 3
    have f4 := K0.out.frozen 4
    go_wp2_with fail
    obtain ⟨W5, hW5, hk5, _, hb5, _⟩ := set_five K0.out (.string ⟨#[]⟩) (.string ⟨#[]⟩) (.int .i64 0) (.slice none 0 0) (.slice none 0 0)
    rw [hW5]
    refine bodyPost_ret (results_row_tmp2 rfl _ _ w.heap.size 25 _ (0, 0) _ rfl hk5 Tryz.underlying25 rfl infoM) rfl ?_
    exact read_none HE.out hE0 (B0.out.trans (hb5 w.heap.size (Nat.le_refl _)))
  · obtain ⟨x, r, hxr, hfx, htl⟩ := lines_ne l
    have hcnt := lines_count l hpos
    have hsize := lines_size l hpos
    obtain ⟨A2, c2, rfl⟩ := own_form hown
    have hL := Lies.of_own hown
    obtain ⟨b2, o2, rfl, hb2, hcc⟩ := hL.2 (by rw [hxr]; simp)
    have hc0 := hcc 0 (.string ⟨x.toArray⟩) (by rw [hxr]; rfl)
    simp only [Nat.add_zero] at hc0
    have hxz : x.length ≤ 65536 := hsize x (by rw [hxr]; simp)
    have hA := fun W => rasked_any ⟨x.toArray⟩ W (by simp only [ByteArray.size, List.size_toArray]; omega)
    have HA := Lib.hid hA
    obtain ⟨N2, hN2⟩ : ∃ N2, (headLines l).length = N2 := ⟨_, rfl⟩
    have hN1 : 1 ≤ N2 := by rw [← hN2, hxr]; simp
    rw [hN2] at hown hL hcnt ⊢
    obtain ⟨n4, hn4⟩ : ∃ n4 : Int, n4 = endAt l + 4 := ⟨_, rfl⟩
    rw [← hn4]
    have HN4 := Lib.hid hn4
    have HL := Lib.hid hL
    have HX := Lib.hid (And.intro hxr (And.intro hfx htl))
    have HP := Lib.hid hpos
    have HS := Lib.hid hsize
    have B1 := Lib.hid (B0.out.trans (hb1.mono B0.out.size))
    have K1 := Lib.hid (K0.out.below hb1 hz0)
    have hz1 : w.heap.size < w1.heap.size := Nat.lt_of_lt_of_le hz0 hb1.size
    clear hA hn4 hL hxr hfx htl hpos hsize hcc hown hb1 K0 B0 HG hN2
    go_wp2_with fail
    refine (HA.out _).mono ?_
    rintro e w2 ⟨a, bb, rfl, hab, hb3⟩
    have hz2 : w.heap.size < w2.heap.size := Nat.lt_of_lt_of_le hz1 hb3.size
    have K2 := Lib.hid (K1.out.below hb3 hz1)
    have B2 := Lib.hid (B1.out.trans (hb3.mono B1.out.size))
    have HL2 := Lib.hid ((HL.out.below hb3).more hb3.size)
    rw [mk_list] at hab

    cases hok : askOK x
    · have hE : gE askK l = 8 := g_first HP.out (by rw [HX.out.2.1]; exact hok)
      have HE := Lib.hid hE
      have hE0 : (8 : Int) ≠ 0 := by decide
      clear hE hok hab hb3
      have c0 := K2.out.cell 0
      have c1 := K2.out.cell 1
      have c2 := K2.out.cell 2
      have c3 := K2.out.cell 3
      have c4 := K2.out.cell 4
      simp at c0 c1 c2 c3 c4
      have f0 := K2.out.frozen 0
      have f1 := K2.out.frozen 1
      have f2 := K2.out.frozen 2
      have f3 := K2.out.frozen 3
      have f4 := K2.out.frozen 4
      go_wp2_with fail
      obtain ⟨W5, hW5, hk5, _, hb5, _⟩ := set_five K2.out (.string ⟨#[]⟩) (.string ⟨#[]⟩) (.int .i64 0) (.slice none 0 0) (.slice none 0 0)
      rw [hW5]
      refine bodyPost_ret (results_row_tmp2 rfl _ _ w.heap.size 25 _ (0, 0) _ rfl hk5 Tryz.underlying25 rfl infoM) rfl ?_
      exact read_none HE.out hE0 (B2.out.trans (hb5 w.heap.size (Nat.le_refl _)))
    · have hg := g_fields (K := askK) HP.out (by rw [HX.out.2.1]; exact hok)
      have hgF := g_fieldsF (K := askK) HP.out (by rw [HX.out.2.1]; exact hok)
      rw [HX.out.2.2] at hg hgF
      obtain ⟨ha, hbb⟩ := hab hok
      have hBox : Below w2.heap.size w2 (w2.alloc (.cells #[.string a, .string bb, .int .i64 0, .slice none 0 0, .slice none 0 0] 25)) := (Below.refl _ _).alloc (Nat.le_refl _) _
      have hBk := Blk.new w2 25 #[.string a, .string bb, .int .i64 0, .slice none 0 0, .slice none 0 0]
      have hzm : w2.heap.size < (w2.alloc (.cells #[.string a, .string bb, .int .i64 0, .slice none 0 0, .slice none 0 0] 25)).heap.size := by simp
      have hLf := (HL2.out.below hBox).more hBox.size
      rw [HX.out.1] at hLf
      have hR := rfields_any _ N2 c2 x r _ hLf hcnt (fun y hy => HS.out y (by rw [HX.out.1]; exact List.mem_cons_of_mem _ hy))
      have K3 := Lib.hid (K2.out.below hBox hz2)
      have B3 := Lib.hid (B2.out.trans (hBox.mono B2.out.size))
      have HR := Lib.hid hR
      have KM0 := Lib.hid hBk
      have HG := Lib.hid (And.intro hg hgF)
      have HAB := Lib.hid (And.intro ha hbb)
      have hz3 : w.heap.size < (w2.alloc (.cells #[.string a, .string bb, .int .i64 0, .slice none 0 0, .slice none 0 0] 25)).heap.size := Nat.lt_of_lt_of_le hz2 hBox.size
      have hne : w.heap.size ≠ w2.heap.size := by omega
      clear hok hab hb3 hBox hBk hLf hR ha hbb hg hgF
      go_wp2_with fail
      refine (HR.out).mono ?_
      rintro e w4 ⟨⟨v, rfl, hown⟩, hb4⟩
      have K4 := Lib.hid (K3.out.below hb4 hz3)
      have KM := Lib.hid (KM0.out.below hb4 hzm)
      have B4 := Lib.hid (B3.out.trans (hb4.mono B3.out.size))
      have hz4 : w2.heap.size < w4.heap.size := Nat.lt_of_lt_of_le hzm hb4.size
      rw [← HG.out.2] at hown
      obtain ⟨A5, c5, rfl⟩ := own_form hown
      have HO := Lib.hid (ownsRow_base hown B3.out.size)
      have hFz : (gF askK l).length ≤ 65537 := by
        rw [HG.out.2]
        unfold fieldsF
        split
        · rw [List.length_map]
          have := congrArg List.length HX.out.1
          rw [List.length_cons] at this
          have := lines_count l HP.out
          omega
        · simp
      clear hown hb4
      obtain ⟨M5, hM5⟩ : ∃ M5, M5 = (gF askK l).length := ⟨_, rfl⟩
      rw [← hM5] at HO hFz ⊢
      have HM5 := Lib.hid hM5
      clear hM5
      obtain ⟨E, hE⟩ : ∃ E, E = fieldsE r := ⟨_, rfl⟩
      rw [← hE]
      have HE := Lib.hid (HG.out.1.trans hE.symm)
      clear hE
      have c0 := K4.out.cell 0
      have c1 := K4.out.cell 1
      have c2' := K4.out.cell 2
      have c3 := K4.out.cell 3
      have c4 := K4.out.cell 4
      simp at c0 c1 c2' c3 c4
      have f0 := K4.out.frozen 0
      have f1 := K4.out.frozen 1
      have f2 := K4.out.frozen 2
      have f3 := K4.out.frozen 3
      have f4 := K4.out.frozen 4
      have d0 := KM.out.cell 0
      have d1 := KM.out.cell 1
      have d2' := KM.out.cell 2
      have d3 := KM.out.cell 3
      have d4 := KM.out.cell 4
      simp at d0 d1 d2' d3 d4
      have g0 := KM.out.frozen 0
      have g1 := KM.out.frozen 1
      have g2 := KM.out.frozen 2
      have g3 := KM.out.frozen 3
      have g4 := KM.out.frozen 4
      by_cases h0 : E = 0
      · subst h0
        go_wp2_with fail
        have hK5 := K4.out.far (p := ⟨w2.heap.size, 3, none⟩) hne (.slice A5 M5 c5)
        have hB5 := B4.out.setCell (p := ⟨w2.heap.size, 3, none⟩) (Nat.le_trans (Nat.le_of_lt hz2) (Nat.le_refl _)) (.slice A5 M5 c5)
        have hT5 := (Tys.refl [25] w4).setCell (p := ⟨w2.heap.size, 3, none⟩) KM.out.heap (by simp) (.slice A5 M5 c5)
        obtain ⟨W5, hW5, hk5, ht5, hb5, _⟩ := set_five hK5 (.string a) (.string bb) (.int .i64 0) (.slice A5 M5 c5) (.slice none 0 0)
        rw [hW5]
        have ho5 := own_tys (own_tys HO.out hT5 (by decide)) ht5 (by decide)
        rw [HM5.out] at ho5
        refine bodyPost_ret (results_row_tmp2 rfl _ _ w.heap.size 25 _ (0, 0) _ rfl hk5 Tryz.underlying25 rfl infoM) rfl ?_
        rw [HM5.out]
        exact read_some HE.out (by rw [HX.out.2.1]; exact bytes_mk _ _ HAB.out.1) (by rw [HX.out.2.1]; exact bytes_mk _ _ HAB.out.2) rfl HN4.out ho5 (hB5.trans (hb5 w.heap.size (Nat.le_refl _)))
      · have h1 : (E == 0) = false := by simpa using h0
        go_wp2_with fail
        have hK5 := K4.out.far (p := ⟨w2.heap.size, 3, none⟩) hne (.slice A5 M5 c5)
        have hB5 := B4.out.setCell (p := ⟨w2.heap.size, 3, none⟩) (Nat.le_trans (Nat.le_of_lt hz2) (Nat.le_refl _)) (.slice A5 M5 c5)
        obtain ⟨W5, hW5, hk5, _, hb5, _⟩ := set_five hK5 (.string ⟨#[]⟩) (.string ⟨#[]⟩) (.int .i64 0) (.slice none 0 0) (.slice none 0 0)
        rw [hW5]
        refine bodyPost_ret (results_row_tmp2 rfl _ _ w.heap.size 25 _ (0, 0) _ rfl hk5 Tryz.underlying25 rfl infoM) rfl ?_
        exact read_none HE.out h0 (hB5.trans (hb5 w.heap.size (Nat.le_refl _)))
end Go.Proofs.YtonlfplloenfcaaGreatDoor
