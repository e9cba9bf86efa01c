/-
  footmanref12.status: the status of a response's first line.
  footmanref12.Get.
-/
import Derived.Test.YtonlfplloenfcaaGreatDoorResultsEtc
import Derived.Test.YtonlfplloenfcaaGreatDoorStatSpecEtc
import Derived.Test.YtonlfplloenfcaaGreatDoorMoreSpecEtc
import Derived.Lib.QuietBelow
import Derived.Deep.RegionHeld3
import Derived.Test.YtonlfplloenfcaaGreatDoorANumberEtc
namespace Go.Proofs.YtonlfplloenfcaaGreatDoor
open Go.RowKit
attribute [local go_sem] Oper.semAt_some

set_option maxRecDepth 100000 in
theorem rstatus_any (s : ByteArray) (w : World) (hs : s.size ≤ 1000000) :
    Calls Tryz.prog 116 #[.string s] w fun e w' => e = .returned (.int .i64 (statusV s.data.toList : Int)) ∧ Below w.heap.size w w' := by
  obtain ⟨V, hV⟩ : ∃ V, V = statusV s.data.toList := ⟨_, rfl⟩
  rw [← hV]
  have HV := Lib.hid hV
  clear hV
  by_cases h12 : s.size < 12
  · have hv : V = 0 := HV.out.trans (statusV_no (status_short (show s.data.toList.length < 12 from h12)))
    subst hv
    have hd : decide ((s.size : Int) < 12) = true := decide_eq_true (by omega)
    go_enter Tryz.func116, Tryz.ntmps116
    go_wp2_with fail
    go_ret
    exact ⟨rfl, Below.refl _ _⟩
  · have hd : decide ((s.size : Int) < 12) = false := decide_eq_false (by omega)
    have g7 : 7 ≤ s.size := by omega
    have g8 : 8 ≤ s.size := by omega
    have g9 : 9 ≤ s.size := by omega
    have h12' : 12 ≤ s.size := by omega
    have hst := status_long (l := s.data.toList) (show 12 ≤ s.data.toList.length from h12')
    have hno : statusOK s.data.toList = false → V = 0 := fun h => HV.out.trans (statusV_no h)
    rw [getD_byte s 7 (by omega), getD_byte s 8 (by omega), getD_byte s 9 (by omega)] at hst
    have ex1 : (s.extract 0 7).data.toList = s.data.toList.take 7 := by rw [Lib.extract_data]; simp
    rw [← ex1] at hst
    generalize hta : s.extract 0 7 = ta at *
    have g10 : 10 ≤ s.size := by omega
    have g11 : 11 ≤ s.size := by omega
    have g12 : 12 ≤ s.size := by omega
    cases hcmp : (ta.data.toList == httpB)
    · have hv : V = 0 := hno (by rw [hst, hcmp]; rfl)
      subst hv
      have g3 : (ta.toList == [72, 84, 84, 80, 47, 49, 46]) = false := by rw [Go.ByteArray.toList_eq]; exact hcmp
      clear hst hno ex1
      go_enter Tryz.func116, Tryz.ntmps116
      go_wp2_with fail
      go_ret
      exact ⟨rfl, Below.refl _ _⟩
    · have g3 : (ta.toList == [72, 84, 84, 80, 47, 49, 46]) = true := by rw [Go.ByteArray.toList_eq]; exact hcmp
      cases e7_48 : ((s[7].toNat : Int) == 48)
      · have n7_48 : ((s[7].toNat : Int) != 48) = true := by rw [bne, e7_48]; rfl
        cases e7_49 : ((s[7].toNat : Int) == 49)
        · have n7_49 : ((s[7].toNat : Int) != 49) = true := by rw [bne, e7_49]; rfl
          have hv : V = 0 := hno (by rw [hst, hcmp, byte_48, byte_49, e7_48, e7_49]; simp)
          subst hv
          clear hst hno ex1
          go_enter Tryz.func116, Tryz.ntmps116
          go_wp2_with fail
          go_ret
          exact ⟨rfl, Below.refl _ _⟩
        · have n7_49 : ((s[7].toNat : Int) != 49) = false := by rw [bne, e7_49]; rfl
          cases e8_32 : ((s[8].toNat : Int) == 32)
          · have n8_32 : ((s[8].toNat : Int) != 32) = true := by rw [bne, e8_32]; rfl
            have hv : V = 0 := hno (by rw [hst, hcmp, byte_48, byte_49, e7_48, e7_49, byte_32, e8_32]; simp)
            subst hv
            clear hst hno ex1
            go_enter Tryz.func116, Tryz.ntmps116
            go_wp2_with fail
            go_ret
            exact ⟨rfl, Below.refl _ _⟩
          · have n8_32 : ((s[8].toNat : Int) != 32) = false := by rw [bne, e8_32]; rfl
            cases e9_48 : ((s[9].toNat : Int) == 48)
            · have hrest : statusOK s.data.toList = ((digB s[9] && (digB (s.data.toList.getD 10 0) && digB (s.data.toList.getD 11 0))) && ((decide (s.data.toList.length = 12) || s.data.toList.getD 12 0 == 32) && plainB s.data.toList)) := by rw [hst, hcmp, byte_48, byte_49, e7_48, e7_49, byte_32, e8_32, bne, byte_48, e9_48]; simp
              rw [getD_byte s 10 g11, getD_byte s 11 g12] at hrest
              have hdig : ∀ q x, 9 ≤ q → q < 12 → s.data.toList[q]? = some x → digB x = false → V = 0 := fun q x h1 h2 hx hd => by
                refine hno ?_
                rw [hrest]
                obtain rfl | rfl | rfl : q = 9 ∨ q = 10 ∨ q = 11 := by omega
                · rw [byte_at s 9 g10] at hx; injection hx with hx; rw [hx, hd]; simp
                · rw [byte_at s 10 g11] at hx; injection hx with hx; rw [hx, hd]; simp
                · rw [byte_at s 11 g12] at hx; injection hx with hx; rw [hx, hd]; simp
              have HNO := Lib.hid hno
              have HREST := Lib.hid hrest
              have HDIG := Lib.hid hdig
              have hCt := fun W => rcontrol_any s W (by omega)
              have HCT := Lib.hid hCt
              clear hst hno hrest ex1 hCt hdig
              go_enter Tryz.func116, Tryz.ntmps116
              go_wp2_with fail
              clear e7_48 e7_49 e8_32 e9_48 n7_48 n7_49 n8_32 g3 hcmp
              go_loop [3, 4] (fun n i => ∃ q m : Nat, 9 ≤ q ∧ q ≤ 12 ∧ i = .int .i64 (q : Int) ∧ n = .int .i64 (m : Int) ∧ m < 1000 ∧ Hid (m = numF s.data.toList (q - 9)) ∧ Hid (∀ k, k < q - 9 → ∃ x, s.data.toList[9 + k]? = some x ∧ digB x = true)) (fun _ i => 12 - (intOf i).toNat)
              case atStart => exact ⟨9, 0, by omega, by omega, rfl, rfl, by omega, by simp [Hid, numF], fun k hk => by omega⟩
              case round =>
                obtain ⟨q, m, hq1, hq2, rfl, rfl, hm, hmf, hdg⟩ := hrel
                by_cases hlt : q < 12
                · have hqs : q < s.size := by omega
                  have hb := byte_at s q hqs
                  have hDg := dig_any s[q] w
                  cases hd9 : digB s[q]
                  · have hv := HDIG.out q s[q] hq1 hlt hb hd9
                    rw [hd9] at hDg
                    subst hv
                    have HDG := Lib.hid hDg
                    clear hDg hb hd9
                    go_wp2_with fail
                    refine (HDG.out).mono ?_
                    rintro e w' ⟨rfl, rfl⟩
                    go_wp2_with fail
                    go_ret
                    exact ⟨rfl, Below.refl _ _⟩
                  · rw [hd9] at hDg
                    have HDG := Lib.hid hDg
                    have hx := hd9
                    unfold digB at hx
                    simp only [Bool.and_eq_true, decide_eq_true_eq, UInt8.le_iff_toNat_le] at hx
                    have x48 : (48 : UInt8).toNat = 48 := rfl
                    have x57 : (57 : UInt8).toNat = 57 := rfl
                    obtain ⟨z, hz⟩ : ∃ z : Nat, s[q].toNat = 48 + z := ⟨s[q].toNat - 48, by omega⟩
                    have hz9 : z ≤ 9 := by omega
                    have hall : ∀ k, k < q + 1 - 9 → ∃ x, s.data.toList[9 + k]? = some x ∧ digB x = true := fun k hk => by
                      by_cases hk2 : k < q - 9
                      · exact hdg.out k hk2
                      · exact ⟨s[q], by rw [show 9 + k = q by omega]; exact hb, hd9⟩
                    have hnum : 10 * m + z = numF s.data.toList (q + 1 - 9) := by
                      rw [show q + 1 - 9 = (q - 9) + 1 by omega, numF_succ (x := s[q]) (by rw [show 9 + (q - 9) = q by omega]; exact hb), ← hmf.out, hz]
                      omega
                    have hlt9 := numF_le (l := s.data.toList) (q + 1 - 9) hall
                    have hpw : 10 ^ (q + 1 - 9) ≤ 1000 := by
                      obtain rfl | rfl | rfl : q = 9 ∨ q = 10 ∨ q = 11 := by omega
                      all_goals decide
                    have hm2 : 10 * m + z < 1000 := by omega
                    have hzi : (s[q].toNat : Int) = 48 + (z : Int) := by omega
                    have HZ := Lib.hid hzi
                    have HNUM := Lib.hid hnum
                    have HALL := Lib.hid hall
                    clear hDg hb hd9 hx hz hnum hall hlt9 hpw hzi x48 x57
                    go_wp2_with fail
                    refine (HDG.out).mono ?_
                    rintro e w' ⟨rfl, rfl⟩
                    have hzi := HZ.out
                    go_wp2_with fail
                    go_round
                    case rel => exact ⟨q + 1, 10 * m + z, by omega, by omega, by go_num, by go_num, hm2, HNUM.out, HALL.out⟩
                    case measure => simp [intOf]; omega
                · obtain rfl : q = 12 := by omega
                  have hd3 : (digB s[9] && (digB s[10] && digB s[11])) = true := by
                    have k9 := hdg.out 0 (by omega)
                    have k10 := hdg.out 1 (by omega)
                    have k11 := hdg.out 2 (by omega)
                    rw [show 9 + 0 = 9 from rfl, byte_at s 9 g10] at k9
                    rw [show 9 + 1 = 10 from rfl, byte_at s 10 g11] at k10
                    rw [show 9 + 2 = 11 from rfl, byte_at s 11 g12] at k11
                    obtain ⟨x9, h9, d9⟩ := k9
                    obtain ⟨x10, h10, d10⟩ := k10
                    obtain ⟨x11, h11, d11⟩ := k11
                    injection h9 with h9
                    injection h10 with h10
                    injection h11 with h11
                    rw [h9, h10, h11, d9, d10, d11]
                    rfl
                  have HD3 := Lib.hid hd3
                  have HMF := Lib.hid (show m = numF s.data.toList 3 from hmf.out)
                  clear hd3 hdg hmf
                  by_cases hsz : s.size = 12
                  · have ht : (decide (s.data.toList.length = 12) || s.data.toList.getD 12 0 == 32) = true := by
                      rw [decide_eq_true (show s.data.toList.length = 12 from hsz)]; rfl
                    have hdz : decide ((12 : Int) < (s.size : Int)) = false := decide_eq_false (by omega)
                    have HT := Lib.hid ht
                    have HSZ := Lib.hid hsz
                    clear ht hsz
                    have hcv := HCT.out w
                    cases hpb : plainB s.data.toList
                    · have hv : V = 0 := HNO.out (by rw [HREST.out, hpb]; simp)
                      subst hv
                      rw [hpb] at hcv
                      have HCV := Lib.hid hcv
                      clear hcv hpb
                      go_wp2_with fail
                      refine (HCV.out).mono ?_
                      rintro e w' ⟨rfl, q, rfl⟩
                      go_wp2_with fail
                      go_ret
                      exact ⟨rfl, below_drewN (Below.refl _ _) q⟩
                    · have hv : V = m := by
                        rw [HV.out, statusV_yes (by rw [HREST.out, hpb, HD3.out, HT.out]; rfl) g12, ← HMF.out]
                      rw [hpb] at hcv
                      subst hv
                      have HCV := Lib.hid hcv
                      clear hcv hpb
                      go_wp2_with fail
                      refine (HCV.out).mono ?_
                      rintro e w' ⟨rfl, q, rfl⟩
                      go_wp2_with fail
                      go_ret
                      exact ⟨rfl, below_drewN (Below.refl _ _) q⟩
                  · have g13 : 13 ≤ s.size := by omega
                    have hdz : decide ((12 : Int) < (s.size : Int)) = true := decide_eq_true (by omega)
                    have hne : decide (s.data.toList.length = 12) = false := decide_eq_false hsz
                    cases e12 : ((s[12].toNat : Int) == 32)
                    · have n12 : ((s[12].toNat : Int) != 32) = true := by rw [bne, e12]; rfl
                      have hv : V = 0 := HNO.out (by rw [HREST.out, hne, getD_byte s 12 g13, byte_32, e12]; simp)
                      subst hv
                      clear hsz hne
                      go_wp2_with fail
                      go_ret
                      exact ⟨rfl, Below.refl _ _⟩
                    · have n12 : ((s[12].toNat : Int) != 32) = false := by rw [bne, e12]; rfl
                      have ht : (decide (s.data.toList.length = 12) || s.data.toList.getD 12 0 == 32) = true := by rw [hne, getD_byte s 12 g13, byte_32, e12]; rfl
                      have HT := Lib.hid ht
                      clear ht hsz hne
                      have hcv := HCT.out w
                      cases hpb : plainB s.data.toList
                      · have hv : V = 0 := HNO.out (by rw [HREST.out, hpb]; simp)
                        subst hv
                        rw [hpb] at hcv
                        have HCV := Lib.hid hcv
                        clear hcv hpb
                        go_wp2_with fail
                        refine (HCV.out).mono ?_
                        rintro e w' ⟨rfl, q, rfl⟩
                        go_wp2_with fail
                        go_ret
                        exact ⟨rfl, below_drewN (Below.refl _ _) q⟩
                      · have hv : V = m := by
                          rw [HV.out, statusV_yes (by rw [HREST.out, hpb, HD3.out, HT.out]; rfl) g12, ← HMF.out]
                        rw [hpb] at hcv
                        subst hv
                        have HCV := Lib.hid hcv
                        clear hcv hpb
                        go_wp2_with fail
                        refine (HCV.out).mono ?_
                        rintro e w' ⟨rfl, q, rfl⟩
                        go_wp2_with fail
                        go_ret
                        exact ⟨rfl, below_drewN (Below.refl _ _) q⟩
            · have hv : V = 0 := hno (by rw [hst, hcmp, byte_48, byte_49, e7_48, e7_49, byte_32, e8_32, bne, byte_48, e9_48]; simp)
              subst hv
              clear hst hno ex1
              go_enter Tryz.func116, Tryz.ntmps116
              go_wp2_with fail
              go_ret
              exact ⟨rfl, Below.refl _ _⟩
      · have n7_48 : ((s[7].toNat : Int) != 48) = false := by rw [bne, e7_48]; rfl
        cases e8_32 : ((s[8].toNat : Int) == 32)
        · have n8_32 : ((s[8].toNat : Int) != 32) = true := by rw [bne, e8_32]; rfl
          have hv : V = 0 := hno (by rw [hst, hcmp, byte_48, byte_49, e7_48, byte_32, e8_32]; simp)
          subst hv
          clear hst hno ex1
          go_enter Tryz.func116, Tryz.ntmps116
          go_wp2_with fail
          go_ret
          exact ⟨rfl, Below.refl _ _⟩
        · have n8_32 : ((s[8].toNat : Int) != 32) = false := by rw [bne, e8_32]; rfl
          cases e9_48 : ((s[9].toNat : Int) == 48)
          · have hrest : statusOK s.data.toList = ((digB s[9] && (digB (s.data.toList.getD 10 0) && digB (s.data.toList.getD 11 0))) && ((decide (s.data.toList.length = 12) || s.data.toList.getD 12 0 == 32) && plainB s.data.toList)) := by rw [hst, hcmp, byte_48, byte_49, e7_48, byte_32, e8_32, bne, byte_48, e9_48]; simp
            rw [getD_byte s 10 g11, getD_byte s 11 g12] at hrest
            have hdig : ∀ q x, 9 ≤ q → q < 12 → s.data.toList[q]? = some x → digB x = false → V = 0 := fun q x h1 h2 hx hd => by
              refine hno ?_
              rw [hrest]
              obtain rfl | rfl | rfl : q = 9 ∨ q = 10 ∨ q = 11 := by omega
              · rw [byte_at s 9 g10] at hx; injection hx with hx; rw [hx, hd]; simp
              · rw [byte_at s 10 g11] at hx; injection hx with hx; rw [hx, hd]; simp
              · rw [byte_at s 11 g12] at hx; injection hx with hx; rw [hx, hd]; simp
            have HNO := Lib.hid hno
            have HREST := Lib.hid hrest
            have HDIG := Lib.hid hdig
            have hCt := fun W => rcontrol_any s W (by omega)
            have HCT := Lib.hid hCt
            clear hst hno hrest ex1 hCt hdig
            go_enter Tryz.func116, Tryz.ntmps116
            go_wp2_with fail
            clear e7_48 e8_32 e9_48 n7_48 n8_32 g3 hcmp
            go_loop [3, 4] (fun n i => ∃ q m : Nat, 9 ≤ q ∧ q ≤ 12 ∧ i = .int .i64 (q : Int) ∧ n = .int .i64 (m : Int) ∧ m < 1000 ∧ Hid (m = numF s.data.toList (q - 9)) ∧ Hid (∀ k, k < q - 9 → ∃ x, s.data.toList[9 + k]? = some x ∧ digB x = true)) (fun _ i => 12 - (intOf i).toNat)
            case atStart => exact ⟨9, 0, by omega, by omega, rfl, rfl, by omega, by simp [Hid, numF], fun k hk => by omega⟩
            case round =>
              obtain ⟨q, m, hq1, hq2, rfl, rfl, hm, hmf, hdg⟩ := hrel
              by_cases hlt : q < 12
              · have hqs : q < s.size := by omega
                have hb := byte_at s q hqs
                have hDg := dig_any s[q] w
                cases hd9 : digB s[q]
                · have hv := HDIG.out q s[q] hq1 hlt hb hd9
                  rw [hd9] at hDg
                  subst hv
                  have HDG := Lib.hid hDg
                  clear hDg hb hd9
                  go_wp2_with fail
                  refine (HDG.out).mono ?_
                  rintro e w' ⟨rfl, rfl⟩
                  go_wp2_with fail
                  go_ret
                  exact ⟨rfl, Below.refl _ _⟩
                · rw [hd9] at hDg
                  have HDG := Lib.hid hDg
                  have hx := hd9
                  unfold digB at hx
                  simp only [Bool.and_eq_true, decide_eq_true_eq, UInt8.le_iff_toNat_le] at hx
                  have x48 : (48 : UInt8).toNat = 48 := rfl
                  have x57 : (57 : UInt8).toNat = 57 := rfl
                  obtain ⟨z, hz⟩ : ∃ z : Nat, s[q].toNat = 48 + z := ⟨s[q].toNat - 48, by omega⟩
                  have hz9 : z ≤ 9 := by omega
                  have hall : ∀ k, k < q + 1 - 9 → ∃ x, s.data.toList[9 + k]? = some x ∧ digB x = true := fun k hk => by
                    by_cases hk2 : k < q - 9
                    · exact hdg.out k hk2
                    · exact ⟨s[q], by rw [show 9 + k = q by omega]; exact hb, hd9⟩
                  have hnum : 10 * m + z = numF s.data.toList (q + 1 - 9) := by
                    rw [show q + 1 - 9 = (q - 9) + 1 by omega, numF_succ (x := s[q]) (by rw [show 9 + (q - 9) = q by omega]; exact hb), ← hmf.out, hz]
                    omega
                  have hlt9 := numF_le (l := s.data.toList) (q + 1 - 9) hall
                  have hpw : 10 ^ (q + 1 - 9) ≤ 1000 := by
                    obtain rfl | rfl | rfl : q = 9 ∨ q = 10 ∨ q = 11 := by omega
                    all_goals decide
                  have hm2 : 10 * m + z < 1000 := by omega
                  have hzi : (s[q].toNat : Int) = 48 + (z : Int) := by omega
                  have HZ := Lib.hid hzi
                  have HNUM := Lib.hid hnum
                  have HALL := Lib.hid hall
                  clear hDg hb hd9 hx hz hnum hall hlt9 hpw hzi x48 x57
                  go_wp2_with fail
                  refine (HDG.out).mono ?_
                  rintro e w' ⟨rfl, rfl⟩
                  have hzi := HZ.out
                  go_wp2_with fail
                  go_round
                  case rel => exact ⟨q + 1, 10 * m + z, by omega, by omega, by go_num, by go_num, hm2, HNUM.out, HALL.out⟩
                  case measure => simp [intOf]; omega
              · obtain rfl : q = 12 := by omega
                have hd3 : (digB s[9] && (digB s[10] && digB s[11])) = true := by
                  have k9 := hdg.out 0 (by omega)
                  have k10 := hdg.out 1 (by omega)
                  have k11 := hdg.out 2 (by omega)
                  rw [show 9 + 0 = 9 from rfl, byte_at s 9 g10] at k9
                  rw [show 9 + 1 = 10 from rfl, byte_at s 10 g11] at k10
                  rw [show 9 + 2 = 11 from rfl, byte_at s 11 g12] at k11
                  obtain ⟨x9, h9, d9⟩ := k9
                  obtain ⟨x10, h10, d10⟩ := k10
                  obtain ⟨x11, h11, d11⟩ := k11
                  injection h9 with h9
                  injection h10 with h10
                  injection h11 with h11
                  rw [h9, h10, h11, d9, d10, d11]
                  rfl
                have HD3 := Lib.hid hd3
                have HMF := Lib.hid (show m = numF s.data.toList 3 from hmf.out)
                clear hd3 hdg hmf
                by_cases hsz : s.size = 12
                · have ht : (decide (s.data.toList.length = 12) || s.data.toList.getD 12 0 == 32) = true := by
                    rw [decide_eq_true (show s.data.toList.length = 12 from hsz)]; rfl
                  have hdz : decide ((12 : Int) < (s.size : Int)) = false := decide_eq_false (by omega)
                  have HT := Lib.hid ht
                  have HSZ := Lib.hid hsz
                  clear ht hsz
                  have hcv := HCT.out w
                  cases hpb : plainB s.data.toList
                  · have hv : V = 0 := HNO.out (by rw [HREST.out, hpb]; simp)
                    subst hv
                    rw [hpb] at hcv
                    have HCV := Lib.hid hcv
                    clear hcv hpb
                    go_wp2_with fail
                    refine (HCV.out).mono ?_
                    rintro e w' ⟨rfl, q, rfl⟩
                    go_wp2_with fail
                    go_ret
                    exact ⟨rfl, below_drewN (Below.refl _ _) q⟩
                  · have hv : V = m := by
                      rw [HV.out, statusV_yes (by rw [HREST.out, hpb, HD3.out, HT.out]; rfl) g12, ← HMF.out]
                    rw [hpb] at hcv
                    subst hv
                    have HCV := Lib.hid hcv
                    clear hcv hpb
                    go_wp2_with fail
                    refine (HCV.out).mono ?_
                    rintro e w' ⟨rfl, q, rfl⟩
                    go_wp2_with fail
                    go_ret
                    exact ⟨rfl, below_drewN (Below.refl _ _) q⟩
                · have g13 : 13 ≤ s.size := by omega
                  have hdz : decide ((12 : Int) < (s.size : Int)) = true := decide_eq_true (by omega)
                  have hne : decide (s.data.toList.length = 12) = false := decide_eq_false hsz
                  cases e12 : ((s[12].toNat : Int) == 32)
                  · have n12 : ((s[12].toNat : Int) != 32) = true := by rw [bne, e12]; rfl
                    have hv : V = 0 := HNO.out (by rw [HREST.out, hne, getD_byte s 12 g13, byte_32, e12]; simp)
                    subst hv
                    clear hsz hne
                    go_wp2_with fail
                    go_ret
                    exact ⟨rfl, Below.refl _ _⟩
                  · have n12 : ((s[12].toNat : Int) != 32) = false := by rw [bne, e12]; rfl
                    have ht : (decide (s.data.toList.length = 12) || s.data.toList.getD 12 0 == 32) = true := by rw [hne, getD_byte s 12 g13, byte_32, e12]; rfl
                    have HT := Lib.hid ht
                    clear ht hsz hne
                    have hcv := HCT.out w
                    cases hpb : plainB s.data.toList
                    · have hv : V = 0 := HNO.out (by rw [HREST.out, hpb]; simp)
                      subst hv
                      rw [hpb] at hcv
                      have HCV := Lib.hid hcv
                      clear hcv hpb
                      go_wp2_with fail
                      refine (HCV.out).mono ?_
                      rintro e w' ⟨rfl, q, rfl⟩
                      go_wp2_with fail
                      go_ret
                      exact ⟨rfl, below_drewN (Below.refl _ _) q⟩
                    · have hv : V = m := by
                        rw [HV.out, statusV_yes (by rw [HREST.out, hpb, HD3.out, HT.out]; rfl) g12, ← HMF.out]
                      rw [hpb] at hcv
                      subst hv
                      have HCV := Lib.hid hcv
                      clear hcv hpb
                      go_wp2_with fail
                      refine (HCV.out).mono ?_
                      rintro e w' ⟨rfl, q, rfl⟩
                      go_wp2_with fail
                      go_ret
                      exact ⟨rfl, below_drewN (Below.refl _ _) q⟩
          · have hv : V = 0 := hno (by rw [hst, hcmp, byte_48, byte_49, e7_48, byte_32, e8_32, bne, byte_48, e9_48]; simp)
            subst hv
            clear hst hno ex1
            go_enter Tryz.func116, Tryz.ntmps116
            go_wp2_with fail
            go_ret
            exact ⟨rfl, Below.refl _ _⟩
end Go.Proofs.YtonlfplloenfcaaGreatDoor
namespace Go.Proofs.YtonlfplloenfcaaGreatDoor
open Go.RowKit
attribute [local go_sem] Oper.semAt_some

theorem status_pos {l : List UInt8} (h : statusOK l = true) : statusV l ≠ 0 := by
  have hl : 12 ≤ l.length := by
    rcases Nat.lt_or_ge l.length 12 with h1 | h1
    · rw [status_short h1] at h; cases h
    · exact h1
  have h2 := h
  rw [status_asks hl] at h2
  simp only [Bool.and_eq_true, bne_iff_ne] at h2
  obtain ⟨_, _, _, _, ⟨d1, d2, d3⟩, n48, _⟩ := h2
  have hf := first_digit d1 d2 d3
  have h100 : 100 ≤ 100 * ((l.getD 9 0).toNat - 48) + 10 * ((l.getD 10 0).toNat - 48) + ((l.getD 11 0).toNat - 48) := by
    have : (l.getD 9 0 != 48) = true := bne_iff_ne.2 n48
    rw [hf] at this
    exact of_decide_eq_true this
  unfold statusV
  rw [if_pos h]
  omega
set_option maxRecDepth 100000 in
theorem rgetm_any (A : Option Addr) (n c : Nat) (l : List UInt8) (w : World) (h : Lies w w.heap.size A n (Lib.byteCells l)) (hc : n ≤ c) (hn : n ≤ 200000) :
    Calls Tryz.prog 39 #[.slice A n c] w (ReadPost statusK l w) := by
  have hl : l.length = n := by simpa [Lib.byteCells] using h.1
  have hk0 := Blk.new w 25 #[.string ⟨#[]⟩, .string ⟨#[]⟩, .int .i64 0, .slice none 0 0, .slice none 0 0]
  have hB0 : Below w.heap.size w (w.alloc (.cells #[.string ⟨#[]⟩, .string ⟨#[]⟩, .int .i64 0, .slice none 0 0, .slice none 0 0] 25)) := (Below.refl _ _).alloc (Nat.le_refl _) _
  have hz0 : w.heap.size < (w.alloc (.cells #[.string ⟨#[]⟩, .string ⟨#[]⟩, .int .i64 0, .slice none 0 0, .slice none 0 0] 25)).heap.size := by simp
  have hG := rget_any A n c l _ ((h.below hB0).more hB0.size) hc hn
  have HG := Lib.hid hG
  have K0 := Lib.hid hk0
  have B0 := Lib.hid hB0
  clear hG hk0 hB0 h
  go_enter Tryz.func39, Tryz.ntmps39
  go_wp2_with fail
  refine (HG.out).mono ?_
  generalize w.alloc (.cells #[.string ⟨#[]⟩, .string ⟨#[]⟩, .int .i64 0, .slice none 0 0, .slice none 0 0] 25) = W1 at *
  rintro e w1 (⟨hneg, rfl, rfl⟩ | ⟨hpos, ⟨v, rfl, hown⟩, hb1⟩)
  · have hE := g_short (K := statusK) hneg
    obtain ⟨E, hE2⟩ : ∃ E : Int, E = (if 65536 ≤ l.length then 3 else 7) := ⟨_, rfl⟩
    rw [← hE2] at hE ⊢
    have hE0 : E ≠ 0 := by rw [hE2]; split <;> decide
    have hE1 : (E == 0) = false := by simpa using hE0
    have HE := Lib.hid hE
    clear hE hE2
    have c0 := K0.out.cell 0
    have c1 := K0.out.cell 1
    have c2 := K0.out.cell 2
    have c3 := K0.out.cell 3
    have c4 := K0.out.cell 4
    simp at c0 c1 c2 c3 c4
    have f0 := K0.out.frozen 0
    have f1 := K0.out.frozen 1
    have f2 := K0.out.frozen 2
    have f3 := K0.out.frozen 3
    have f4 := K0.out.frozen 4
    go_wp2_with fail
    obtain ⟨W5, hW5, hk5, _, hb5, _⟩ := set_five K0.out (.string ⟨#[]⟩) (.string ⟨#[]⟩) (.int .i64 0) (.slice none 0 0) (.slice none 0 0)
    rw [hW5]
    refine bodyPost_ret (results_row_tmp2 rfl _ _ w.heap.size 25 _ (0, 0) _ rfl hk5 Tryz.underlying25 rfl infoM) rfl ?_
    exact read_none HE.out hE0 (B0.out.trans (hb5 w.heap.size (Nat.le_refl _)))
  · obtain ⟨x, r, hxr, hfx, htl⟩ := lines_ne l
    have hcnt := lines_count l hpos
    have hsize := lines_size l hpos
    obtain ⟨A2, c2, rfl⟩ := own_form hown
    have hL := Lies.of_own hown
    obtain ⟨b2, o2, rfl, hb2, hcc⟩ := hL.2 (by rw [hxr]; simp)
    have hc0 := hcc 0 (.string ⟨x.toArray⟩) (by rw [hxr]; rfl)
    simp only [Nat.add_zero] at hc0
    have hxz : x.length ≤ 65536 := hsize x (by rw [hxr]; simp)
    have hA := fun W => rstatus_any ⟨x.toArray⟩ W (by simp only [ByteArray.size, List.size_toArray]; omega)
    rw [mk_list] at hA
    have HA := Lib.hid hA
    obtain ⟨N2, hN2⟩ : ∃ N2, (headLines l).length = N2 := ⟨_, rfl⟩
    have hN1 : 1 ≤ N2 := by rw [← hN2, hxr]; simp
    rw [hN2] at hown hL hcnt ⊢
    obtain ⟨n4, hn4⟩ : ∃ n4 : Int, n4 = endAt l + 4 := ⟨_, rfl⟩
    rw [← hn4]
    have HN4 := Lib.hid hn4
    have HL := Lib.hid hL
    have HX := Lib.hid (And.intro hxr (And.intro hfx htl))
    have HP := Lib.hid hpos
    have HS := Lib.hid hsize
    have B1 := Lib.hid (B0.out.trans (hb1.mono B0.out.size))
    have K1 := Lib.hid (K0.out.below hb1 hz0)
    have hz1 : w.heap.size < w1.heap.size := Nat.lt_of_lt_of_le hz0 hb1.size
    clear hA hn4 hL hxr hfx htl hpos hsize hcc hown hb1 K0 B0 HG hN2
    go_wp2_with fail
    refine (HA.out _).mono ?_
    rintro e w2 ⟨rfl, hb3⟩
    have hz2 : w.heap.size < w2.heap.size := Nat.lt_of_lt_of_le hz1 hb3.size
    have K2 := Lib.hid (K1.out.below hb3 hz1)
    have B2 := Lib.hid (B1.out.trans (hb3.mono B1.out.size))
    have HL2 := Lib.hid ((HL.out.below hb3).more hb3.size)
    cases hok : statusOK x
    · have hE : gE statusK l = 8 := g_first HP.out (by rw [HX.out.2.1]; exact hok)
      have HE := Lib.hid hE
      have hE0 : (8 : Int) ≠ 0 := by decide
      have hs0 : statusV x = 0 := statusV_no hok
      rw [hs0]
      have hBox : Below w2.heap.size w2 (w2.alloc (.cells #[.string ⟨#[]⟩, .string ⟨#[]⟩, .int .i64 0, .slice none 0 0, .slice none 0 0] 25)) := (Below.refl _ _).alloc (Nat.le_refl _) _
      have K3 := Lib.hid (K2.out.below hBox hz2)
      have B3 := Lib.hid (B2.out.trans (hBox.mono B2.out.size))
      have hne : w.heap.size ≠ w2.heap.size := by omega
      clear hE hok hb3 hBox hs0
      have c0 := K2.out.cell 0
      have c1 := K2.out.cell 1
      have c2 := K2.out.cell 2
      have c3 := K2.out.cell 3
      have c4 := K2.out.cell 4
      simp at c0 c1 c2 c3 c4
      have f0 := K2.out.frozen 0
      have f1 := K2.out.frozen 1
      have f2 := K2.out.frozen 2
      have f3 := K2.out.frozen 3
      have f4 := K2.out.frozen 4
      go_wp2_with fail
      obtain ⟨W5, hW5, hk5, _, hb5, _⟩ := set_five K2.out (.string ⟨#[]⟩) (.string ⟨#[]⟩) (.int .i64 0) (.slice none 0 0) (.slice none 0 0)
      rw [hW5]
      refine bodyPost_ret (results_row_tmp2 rfl _ _ w.heap.size 25 _ (0, 0) _ rfl (hk5.alloc _) Tryz.underlying25 rfl infoM) rfl ?_
      exact read_none HE.out hE0 ((B2.out.trans (hb5 w.heap.size (Nat.le_refl _))).alloc (B2.out.trans (hb5 w.heap.size (Nat.le_refl _))).size _)
    · have hg := g_fields (K := statusK) HP.out (by rw [HX.out.2.1]; exact hok)
      have hgF := g_fieldsF (K := statusK) HP.out (by rw [HX.out.2.1]; exact hok)
      rw [HX.out.2.2] at hg hgF
      have hst : statusV x ≠ 0 := status_pos hok
      obtain ⟨st, hsv⟩ : ∃ st, statusV x = st := ⟨_, rfl⟩
      rw [hsv] at hst ⊢
      have hs0 : ((st : Int) == 0) = false := by simp; omega
      have hBox : Below w2.heap.size w2 (w2.alloc (.cells #[.string ⟨#[]⟩, .string ⟨#[]⟩, .int .i64 (st : Int), .slice none 0 0, .slice none 0 0] 25)) := (Below.refl _ _).alloc (Nat.le_refl _) _
      have hBk := Blk.new w2 25 #[.string ⟨#[]⟩, .string ⟨#[]⟩, .int .i64 (st : Int), .slice none 0 0, .slice none 0 0]
      have hzm : w2.heap.size < (w2.alloc (.cells #[.string ⟨#[]⟩, .string ⟨#[]⟩, .int .i64 (st : Int), .slice none 0 0, .slice none 0 0] 25)).heap.size := by simp
      have hLf := (HL2.out.below hBox).more hBox.size
      rw [HX.out.1] at hLf
      have hR := rfields_any _ N2 c2 x r _ hLf hcnt (fun y hy => HS.out y (by rw [HX.out.1]; exact List.mem_cons_of_mem _ hy))
      have K3 := Lib.hid (K2.out.below hBox hz2)
      have B3 := Lib.hid (B2.out.trans (hBox.mono B2.out.size))
      have HR := Lib.hid hR
      have KM0 := Lib.hid hBk
      have HG := Lib.hid (And.intro hg hgF)
      have HAB := Lib.hid hsv
      have hz3 : w.heap.size < (w2.alloc (.cells #[.string ⟨#[]⟩, .string ⟨#[]⟩, .int .i64 (st : Int), .slice none 0 0, .slice none 0 0] 25)).heap.size := Nat.lt_of_lt_of_le hz2 hBox.size
      have hne : w.heap.size ≠ w2.heap.size := by omega
      clear hok hb3 hBox hBk hLf hR hsv hst hg hgF
      go_wp2_with fail
      refine (HR.out).mono ?_
      rintro e w4 ⟨⟨v, rfl, hown⟩, hb4⟩
      have K4 := Lib.hid (K3.out.below hb4 hz3)
      have KM := Lib.hid (KM0.out.below hb4 hzm)
      have B4 := Lib.hid (B3.out.trans (hb4.mono B3.out.size))
      have hz4 : w2.heap.size < w4.heap.size := Nat.lt_of_lt_of_le hzm hb4.size
      rw [← HG.out.2] at hown
      obtain ⟨A5, c5, rfl⟩ := own_form hown
      have HO := Lib.hid (ownsRow_base hown B3.out.size)
      have hFz : (gF statusK l).length ≤ 65537 := by
        rw [HG.out.2]
        unfold fieldsF
        split
        · rw [List.length_map]
          have := congrArg List.length HX.out.1
          rw [List.length_cons] at this
          have := lines_count l HP.out
          omega
        · simp
      clear hown hb4
      obtain ⟨M5, hM5⟩ : ∃ M5, M5 = (gF statusK l).length := ⟨_, rfl⟩
      rw [← hM5] at HO hFz ⊢
      have HM5 := Lib.hid hM5
      clear hM5
      obtain ⟨E, hE⟩ : ∃ E, E = fieldsE r := ⟨_, rfl⟩
      rw [← hE]
      have HE := Lib.hid (HG.out.1.trans hE.symm)
      clear hE
      have c0 := K4.out.cell 0
      have c1 := K4.out.cell 1
      have c2' := K4.out.cell 2
      have c3 := K4.out.cell 3
      have c4 := K4.out.cell 4
      simp at c0 c1 c2' c3 c4
      have f0 := K4.out.frozen 0
      have f1 := K4.out.frozen 1
      have f2 := K4.out.frozen 2
      have f3 := K4.out.frozen 3
      have f4 := K4.out.frozen 4
      have d0 := KM.out.cell 0
      have d1 := KM.out.cell 1
      have d2' := KM.out.cell 2
      have d3 := KM.out.cell 3
      have d4 := KM.out.cell 4
      simp at d0 d1 d2' d3 d4
      have g0 := KM.out.frozen 0
      have g1 := KM.out.frozen 1
      have g2 := KM.out.frozen 2
      have g3 := KM.out.frozen 3
      have g4 := KM.out.frozen 4
      by_cases h0 : E = 0
      · subst h0
        go_wp2_with fail
        have hK5 := K4.out.far (p := ⟨w2.heap.size, 3, none⟩) hne (.slice A5 M5 c5)
        have hB5 := B4.out.setCell (p := ⟨w2.heap.size, 3, none⟩) (Nat.le_trans (Nat.le_of_lt hz2) (Nat.le_refl _)) (.slice A5 M5 c5)
        have hT5 := (Tys.refl [25] w4).setCell (p := ⟨w2.heap.size, 3, none⟩) KM.out.heap (by simp) (.slice A5 M5 c5)
        obtain ⟨W5, hW5, hk5, ht5, hb5, _⟩ := set_five hK5 (.string ⟨#[]⟩) (.string ⟨#[]⟩) (.int .i64 (st : Int)) (.slice A5 M5 c5) (.slice none 0 0)
        rw [hW5]
        have ho5 := own_tys (own_tys HO.out hT5 (by decide)) ht5 (by decide)
        rw [HM5.out] at ho5
        refine bodyPost_ret (results_row_tmp2 rfl _ _ w.heap.size 25 _ (0, 0) _ rfl hk5 Tryz.underlying25 rfl infoM) rfl ?_
        rw [HM5.out]
        exact read_some HE.out rfl rfl (by rw [HX.out.2.1, ← HAB.out]; rfl) HN4.out ho5 (hB5.trans (hb5 w.heap.size (Nat.le_refl _)))
      · have h1 : (E == 0) = false := by simpa using h0
        go_wp2_with fail
        have hK5 := K4.out.far (p := ⟨w2.heap.size, 3, none⟩) hne (.slice A5 M5 c5)
        have hB5 := B4.out.setCell (p := ⟨w2.heap.size, 3, none⟩) (Nat.le_trans (Nat.le_of_lt hz2) (Nat.le_refl _)) (.slice A5 M5 c5)
        obtain ⟨W5, hW5, hk5, _, hb5, _⟩ := set_five hK5 (.string ⟨#[]⟩) (.string ⟨#[]⟩) (.int .i64 0) (.slice none 0 0) (.slice none 0 0)
        rw [hW5]
        refine bodyPost_ret (results_row_tmp2 rfl _ _ w.heap.size 25 _ (0, 0) _ rfl hk5 Tryz.underlying25 rfl infoM) rfl ?_
        exact read_none HE.out h0 (hB5.trans (hb5 w.heap.size (Nat.le_refl _)))
end Go.Proofs.YtonlfplloenfcaaGreatDoor
