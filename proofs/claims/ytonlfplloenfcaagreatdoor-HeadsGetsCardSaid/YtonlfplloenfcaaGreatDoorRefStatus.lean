/-
  footmanref12.status: the status of a response's first line.
-/
import Derived.Test.YtonlfplloenfcaaGreatDoorChars
import Derived.Test.YtonlfplloenfcaaGreatDoorRefTok
import Derived.Test.YtonlfplloenfcaaGreatDoorRefTrim
import Derived.Test.YtonlfplloenfcaaGreatDoorStatSpec
import Derived.Lib.QuietBelow
import Derived.Deep.RegionHeld3
namespace Go.Proofs.YtonlfplloenfcaaGreatDoor
open Go.RowKit
attribute [local go_sem] Oper.semAt_some

set_option maxRecDepth 100000 in
theorem rstatus_any (s : ByteArray) (w : World) (hs : s.size ≤ 1000000) :
    Calls Tryz.prog 116 #[.string s] w fun e w' => e = .returned (.int .i64 (statusV s.data.toList : Int)) ∧ Below w.heap.size w w' := by
  obtain ⟨V, hV⟩ : ∃ V, V = statusV s.data.toList := ⟨_, rfl⟩
  rw [← hV]
  have HV := Lib.hid hV
  clear hV
  by_cases h12 : s.size < 12
  · have hv : V = 0 := HV.out.trans (statusV_no (status_short (show s.data.toList.length < 12 from h12)))
    subst hv
    have hd : decide ((s.size : Int) < 12) = true := decide_eq_true (by omega)
    go_enter Tryz.func116, Tryz.ntmps116
    go_wp2_with fail
    go_ret
    exact ⟨rfl, Below.refl _ _⟩
  · have hd : decide ((s.size : Int) < 12) = false := decide_eq_false (by omega)
    have g7 : 7 ≤ s.size := by omega
    have g8 : 8 ≤ s.size := by omega
    have g9 : 9 ≤ s.size := by omega
    have h12' : 12 ≤ s.size := by omega
    have hst := status_long (l := s.data.toList) (show 12 ≤ s.data.toList.length from h12')
    have hno : statusOK s.data.toList = false → V = 0 := fun h => HV.out.trans (statusV_no h)
    rw [getD_byte s 7 (by omega), getD_byte s 8 (by omega), getD_byte s 9 (by omega)] at hst
    have ex1 : (s.extract 0 7).data.toList = s.data.toList.take 7 := by rw [Lib.extract_data]; simp
    rw [← ex1] at hst
    generalize hta : s.extract 0 7 = ta at *
    have g10 : 10 ≤ s.size := by omega
    have g11 : 11 ≤ s.size := by omega
    have g12 : 12 ≤ s.size := by omega
    cases hcmp : (ta.data.toList == httpB)
    · have hv : V = 0 := hno (by rw [hst, hcmp]; rfl)
      subst hv
      have g3 : (ta.toList == [72, 84, 84, 80, 47, 49, 46]) = false := by rw [Go.ByteArray.toList_eq]; exact hcmp
      clear hst hno ex1
      go_enter Tryz.func116, Tryz.ntmps116
      go_wp2_with fail
      go_ret
      exact ⟨rfl, Below.refl _ _⟩
    · have g3 : (ta.toList == [72, 84, 84, 80, 47, 49, 46]) = true := by rw [Go.ByteArray.toList_eq]; exact hcmp
      cases e7_48 : ((s[7].toNat : Int) == 48)
      · have n7_48 : ((s[7].toNat : Int) != 48) = true := by rw [bne, e7_48]; rfl
        cases e7_49 : ((s[7].toNat : Int) == 49)
        · have n7_49 : ((s[7].toNat : Int) != 49) = true := by rw [bne, e7_49]; rfl
          have hv : V = 0 := hno (by rw [hst, hcmp, byte_48, byte_49, e7_48, e7_49]; simp)
          subst hv
          clear hst hno ex1
          go_enter Tryz.func116, Tryz.ntmps116
          go_wp2_with fail
          go_ret
          exact ⟨rfl, Below.refl _ _⟩
        · have n7_49 : ((s[7].toNat : Int) != 49) = false := by rw [bne, e7_49]; rfl
          cases e8_32 : ((s[8].toNat : Int) == 32)
          · have n8_32 : ((s[8].toNat : Int) != 32) = true := by rw [bne, e8_32]; rfl
            have hv : V = 0 := hno (by rw [hst, hcmp, byte_48, byte_49, e7_48, e7_49, byte_32, e8_32]; simp)
            subst hv
            clear hst hno ex1
            go_enter Tryz.func116, Tryz.ntmps116
            go_wp2_with fail
            go_ret
            exact ⟨rfl, Below.refl _ _⟩
          · have n8_32 : ((s[8].toNat : Int) != 32) = false := by rw [bne, e8_32]; rfl
            cases e9_48 : ((s[9].toNat : Int) == 48)
            · have hrest : statusOK s.data.toList = ((digB s[9] && (digB (s.data.toList.getD 10 0) && digB (s.data.toList.getD 11 0))) && ((decide (s.data.toList.length = 12) || s.data.toList.getD 12 0 == 32) && plainB s.data.toList)) := by rw [hst, hcmp, byte_48, byte_49, e7_48, e7_49, byte_32, e8_32, bne, byte_48, e9_48]; simp
              rw [getD_byte s 10 g11, getD_byte s 11 g12] at hrest
              have hdig : ∀ q x, 9 ≤ q → q < 12 → s.data.toList[q]? = some x → digB x = false → V = 0 := fun q x h1 h2 hx hd => by
                refine hno ?_
                rw [hrest]
                obtain rfl | rfl | rfl : q = 9 ∨ q = 10 ∨ q = 11 := by omega
                · rw [byte_at s 9 g10] at hx; injection hx with hx; rw [hx, hd]; simp
                · rw [byte_at s 10 g11] at hx; injection hx with hx; rw [hx, hd]; simp
                · rw [byte_at s 11 g12] at hx; injection hx with hx; rw [hx, hd]; simp
              have HNO := Lib.hid hno
              have HREST := Lib.hid hrest
              have HDIG := Lib.hid hdig
              have hCt := fun W => rcontrol_any s W (by omega)
              have HCT := Lib.hid hCt
              clear hst hno hrest ex1 hCt hdig
              go_enter Tryz.func116, Tryz.ntmps116
              go_wp2_with fail
              clear e7_48 e7_49 e8_32 e9_48 n7_48 n7_49 n8_32 g3 hcmp
              go_loop [3, 4] (fun n i => ∃ q m : Nat, 9 ≤ q ∧ q ≤ 12 ∧ i = .int .i64 (q : Int) ∧ n = .int .i64 (m : Int) ∧ m < 1000 ∧ Hid (m = numF s.data.toList (q - 9)) ∧ Hid (∀ k, k < q - 9 → ∃ x, s.data.toList[9 + k]? = some x ∧ digB x = true)) (fun _ i => 12 - (intOf i).toNat)
              case atStart => exact ⟨9, 0, by omega, by omega, rfl, rfl, by omega, by simp [Hid, numF], fun k hk => by omega⟩
              case round =>
                obtain ⟨q, m, hq1, hq2, rfl, rfl, hm, hmf, hdg⟩ := hrel
                by_cases hlt : q < 12
                · have hqs : q < s.size := by omega
                  have hb := byte_at s q hqs
                  have hDg := dig_any s[q] w
                  cases hd9 : digB s[q]
                  · have hv := HDIG.out q s[q] hq1 hlt hb hd9
                    rw [hd9] at hDg
                    subst hv
                    have HDG := Lib.hid hDg
                    clear hDg hb hd9
                    go_wp2_with fail
                    refine (HDG.out).mono ?_
                    rintro e w' ⟨rfl, rfl⟩
                    go_wp2_with fail
                    go_ret
                    exact ⟨rfl, Below.refl _ _⟩
                  · rw [hd9] at hDg
                    have HDG := Lib.hid hDg
                    have hx := hd9
                    unfold digB at hx
                    simp only [Bool.and_eq_true, decide_eq_true_eq, UInt8.le_iff_toNat_le] at hx
                    have x48 : (48 : UInt8).toNat = 48 := rfl
                    have x57 : (57 : UInt8).toNat = 57 := rfl
                    obtain ⟨z, hz⟩ : ∃ z : Nat, s[q].toNat = 48 + z := ⟨s[q].toNat - 48, by omega⟩
                    have hz9 : z ≤ 9 := by omega
                    have hall : ∀ k, k < q + 1 - 9 → ∃ x, s.data.toList[9 + k]? = some x ∧ digB x = true := fun k hk => by
                      by_cases hk2 : k < q - 9
                      · exact hdg.out k hk2
                      · exact ⟨s[q], by rw [show 9 + k = q by omega]; exact hb, hd9⟩
                    have hnum : 10 * m + z = numF s.data.toList (q + 1 - 9) := by
                      rw [show q + 1 - 9 = (q - 9) + 1 by omega, numF_succ (x := s[q]) (by rw [show 9 + (q - 9) = q by omega]; exact hb), ← hmf.out, hz]
                      omega
                    have hlt9 := numF_le (l := s.data.toList) (q + 1 - 9) hall
                    have hpw : 10 ^ (q + 1 - 9) ≤ 1000 := by
                      obtain rfl | rfl | rfl : q = 9 ∨ q = 10 ∨ q = 11 := by omega
                      all_goals decide
                    have hm2 : 10 * m + z < 1000 := by omega
                    have hzi : (s[q].toNat : Int) = 48 + (z : Int) := by omega
                    have HZ := Lib.hid hzi
                    have HNUM := Lib.hid hnum
                    have HALL := Lib.hid hall
                    clear hDg hb hd9 hx hz hnum hall hlt9 hpw hzi x48 x57
                    go_wp2_with fail
                    refine (HDG.out).mono ?_
                    rintro e w' ⟨rfl, rfl⟩
                    have hzi := HZ.out
                    go_wp2_with fail
                    go_round
                    case rel => exact ⟨q + 1, 10 * m + z, by omega, by omega, by go_num, by go_num, hm2, HNUM.out, HALL.out⟩
                    case measure => simp [intOf]; omega
                · obtain rfl : q = 12 := by omega
                  have hd3 : (digB s[9] && (digB s[10] && digB s[11])) = true := by
                    have k9 := hdg.out 0 (by omega)
                    have k10 := hdg.out 1 (by omega)
                    have k11 := hdg.out 2 (by omega)
                    rw [show 9 + 0 = 9 from rfl, byte_at s 9 g10] at k9
                    rw [show 9 + 1 = 10 from rfl, byte_at s 10 g11] at k10
                    rw [show 9 + 2 = 11 from rfl, byte_at s 11 g12] at k11
                    obtain ⟨x9, h9, d9⟩ := k9
                    obtain ⟨x10, h10, d10⟩ := k10
                    obtain ⟨x11, h11, d11⟩ := k11
                    injection h9 with h9
                    injection h10 with h10
                    injection h11 with h11
                    rw [h9, h10, h11, d9, d10, d11]
                    rfl
                  have HD3 := Lib.hid hd3
                  have HMF := Lib.hid (show m = numF s.data.toList 3 from hmf.out)
                  clear hd3 hdg hmf
                  by_cases hsz : s.size = 12
                  · have ht : (decide (s.data.toList.length = 12) || s.data.toList.getD 12 0 == 32) = true := by
                      rw [decide_eq_true (show s.data.toList.length = 12 from hsz)]; rfl
                    have hdz : decide ((12 : Int) < (s.size : Int)) = false := decide_eq_false (by omega)
                    have HT := Lib.hid ht
                    have HSZ := Lib.hid hsz
                    clear ht hsz
                    have hcv := HCT.out w
                    cases hpb : plainB s.data.toList
                    · have hv : V = 0 := HNO.out (by rw [HREST.out, hpb]; simp)
                      subst hv
                      rw [hpb] at hcv
                      have HCV := Lib.hid hcv
                      clear hcv hpb
                      go_wp2_with fail
                      refine (HCV.out).mono ?_
                      rintro e w' ⟨rfl, q, rfl⟩
                      go_wp2_with fail
                      go_ret
                      exact ⟨rfl, below_drewN (Below.refl _ _) q⟩
                    · have hv : V = m := by
                        rw [HV.out, statusV_yes (by rw [HREST.out, hpb, HD3.out, HT.out]; rfl) g12, ← HMF.out]
                      rw [hpb] at hcv
                      subst hv
                      have HCV := Lib.hid hcv
                      clear hcv hpb
                      go_wp2_with fail
                      refine (HCV.out).mono ?_
                      rintro e w' ⟨rfl, q, rfl⟩
                      go_wp2_with fail
                      go_ret
                      exact ⟨rfl, below_drewN (Below.refl _ _) q⟩
                  · have g13 : 13 ≤ s.size := by omega
                    have hdz : decide ((12 : Int) < (s.size : Int)) = true := decide_eq_true (by omega)
                    have hne : decide (s.data.toList.length = 12) = false := decide_eq_false hsz
                    cases e12 : ((s[12].toNat : Int) == 32)
                    · have n12 : ((s[12].toNat : Int) != 32) = true := by rw [bne, e12]; rfl
                      have hv : V = 0 := HNO.out (by rw [HREST.out, hne, getD_byte s 12 g13, byte_32, e12]; simp)
                      subst hv
                      clear hsz hne
                      go_wp2_with fail
                      go_ret
                      exact ⟨rfl, Below.refl _ _⟩
                    · have n12 : ((s[12].toNat : Int) != 32) = false := by rw [bne, e12]; rfl
                      have ht : (decide (s.data.toList.length = 12) || s.data.toList.getD 12 0 == 32) = true := by rw [hne, getD_byte s 12 g13, byte_32, e12]; rfl
                      have HT := Lib.hid ht
                      clear ht hsz hne
                      have hcv := HCT.out w
                      cases hpb : plainB s.data.toList
                      · have hv : V = 0 := HNO.out (by rw [HREST.out, hpb]; simp)
                        subst hv
                        rw [hpb] at hcv
                        have HCV := Lib.hid hcv
                        clear hcv hpb
                        go_wp2_with fail
                        refine (HCV.out).mono ?_
                        rintro e w' ⟨rfl, q, rfl⟩
                        go_wp2_with fail
                        go_ret
                        exact ⟨rfl, below_drewN (Below.refl _ _) q⟩
                      · have hv : V = m := by
                          rw [HV.out, statusV_yes (by rw [HREST.out, hpb, HD3.out, HT.out]; rfl) g12, ← HMF.out]
                        rw [hpb] at hcv
                        subst hv
                        have HCV := Lib.hid hcv
                        clear hcv hpb
                        go_wp2_with fail
                        refine (HCV.out).mono ?_
                        rintro e w' ⟨rfl, q, rfl⟩
                        go_wp2_with fail
                        go_ret
                        exact ⟨rfl, below_drewN (Below.refl _ _) q⟩
            · have hv : V = 0 := hno (by rw [hst, hcmp, byte_48, byte_49, e7_48, e7_49, byte_32, e8_32, bne, byte_48, e9_48]; simp)
              subst hv
              clear hst hno ex1
              go_enter Tryz.func116, Tryz.ntmps116
              go_wp2_with fail
              go_ret
              exact ⟨rfl, Below.refl _ _⟩
      · have n7_48 : ((s[7].toNat : Int) != 48) = false := by rw [bne, e7_48]; rfl
        cases e8_32 : ((s[8].toNat : Int) == 32)
        · have n8_32 : ((s[8].toNat : Int) != 32) = true := by rw [bne, e8_32]; rfl
          have hv : V = 0 := hno (by rw [hst, hcmp, byte_48, byte_49, e7_48, byte_32, e8_32]; simp)
          subst hv
          clear hst hno ex1
          go_enter Tryz.func116, Tryz.ntmps116
          go_wp2_with fail
          go_ret
          exact ⟨rfl, Below.refl _ _⟩
        · have n8_32 : ((s[8].toNat : Int) != 32) = false := by rw [bne, e8_32]; rfl
          cases e9_48 : ((s[9].toNat : Int) == 48)
          · have hrest : statusOK s.data.toList = ((digB s[9] && (digB (s.data.toList.getD 10 0) && digB (s.data.toList.getD 11 0))) && ((decide (s.data.toList.length = 12) || s.data.toList.getD 12 0 == 32) && plainB s.data.toList)) := by rw [hst, hcmp, byte_48, byte_49, e7_48, byte_32, e8_32, bne, byte_48, e9_48]; simp
            rw [getD_byte s 10 g11, getD_byte s 11 g12] at hrest
            have hdig : ∀ q x, 9 ≤ q → q < 12 → s.data.toList[q]? = some x → digB x = false → V = 0 := fun q x h1 h2 hx hd => by
              refine hno ?_
              rw [hrest]
              obtain rfl | rfl | rfl : q = 9 ∨ q = 10 ∨ q = 11 := by omega
              · rw [byte_at s 9 g10] at hx; injection hx with hx; rw [hx, hd]; simp
              · rw [byte_at s 10 g11] at hx; injection hx with hx; rw [hx, hd]; simp
              · rw [byte_at s 11 g12] at hx; injection hx with hx; rw [hx, hd]; simp
            have HNO := Lib.hid hno
            have HREST := Lib.hid hrest
            have HDIG := Lib.hid hdig
            have hCt := fun W => rcontrol_any s W (by omega)
            have HCT := Lib.hid hCt
            clear hst hno hrest ex1 hCt hdig
            go_enter Tryz.func116, Tryz.ntmps116
            go_wp2_with fail
            clear e7_48 e8_32 e9_48 n7_48 n8_32 g3 hcmp
            go_loop [3, 4] (fun n i => ∃ q m : Nat, 9 ≤ q ∧ q ≤ 12 ∧ i = .int .i64 (q : Int) ∧ n = .int .i64 (m : Int) ∧ m < 1000 ∧ Hid (m = numF s.data.toList (q - 9)) ∧ Hid (∀ k, k < q - 9 → ∃ x, s.data.toList[9 + k]? = some x ∧ digB x = true)) (fun _ i => 12 - (intOf i).toNat)
            case atStart => exact ⟨9, 0, by omega, by omega, rfl, rfl, by omega, by simp [Hid, numF], fun k hk => by omega⟩
            case round =>
              obtain ⟨q, m, hq1, hq2, rfl, rfl, hm, hmf, hdg⟩ := hrel
              by_cases hlt : q < 12
              · have hqs : q < s.size := by omega
                have hb := byte_at s q hqs
                have hDg := dig_any s[q] w
                cases hd9 : digB s[q]
                · have hv := HDIG.out q s[q] hq1 hlt hb hd9
                  rw [hd9] at hDg
                  subst hv
                  have HDG := Lib.hid hDg
                  clear hDg hb hd9
                  go_wp2_with fail
                  refine (HDG.out).mono ?_
                  rintro e w' ⟨rfl, rfl⟩
                  go_wp2_with fail
                  go_ret
                  exact ⟨rfl, Below.refl _ _⟩
                · rw [hd9] at hDg
                  have HDG := Lib.hid hDg
                  have hx := hd9
                  unfold digB at hx
                  simp only [Bool.and_eq_true, decide_eq_true_eq, UInt8.le_iff_toNat_le] at hx
                  have x48 : (48 : UInt8).toNat = 48 := rfl
                  have x57 : (57 : UInt8).toNat = 57 := rfl
                  obtain ⟨z, hz⟩ : ∃ z : Nat, s[q].toNat = 48 + z := ⟨s[q].toNat - 48, by omega⟩
                  have hz9 : z ≤ 9 := by omega
                  have hall : ∀ k, k < q + 1 - 9 → ∃ x, s.data.toList[9 + k]? = some x ∧ digB x = true := fun k hk => by
                    by_cases hk2 : k < q - 9
                    · exact hdg.out k hk2
                    · exact ⟨s[q], by rw [show 9 + k = q by omega]; exact hb, hd9⟩
                  have hnum : 10 * m + z = numF s.data.toList (q + 1 - 9) := by
                    rw [show q + 1 - 9 = (q - 9) + 1 by omega, numF_succ (x := s[q]) (by rw [show 9 + (q - 9) = q by omega]; exact hb), ← hmf.out, hz]
                    omega
                  have hlt9 := numF_le (l := s.data.toList) (q + 1 - 9) hall
                  have hpw : 10 ^ (q + 1 - 9) ≤ 1000 := by
                    obtain rfl | rfl | rfl : q = 9 ∨ q = 10 ∨ q = 11 := by omega
                    all_goals decide
                  have hm2 : 10 * m + z < 1000 := by omega
                  have hzi : (s[q].toNat : Int) = 48 + (z : Int) := by omega
                  have HZ := Lib.hid hzi
                  have HNUM := Lib.hid hnum
                  have HALL := Lib.hid hall
                  clear hDg hb hd9 hx hz hnum hall hlt9 hpw hzi x48 x57
                  go_wp2_with fail
                  refine (HDG.out).mono ?_
                  rintro e w' ⟨rfl, rfl⟩
                  have hzi := HZ.out
                  go_wp2_with fail
                  go_round
                  case rel => exact ⟨q + 1, 10 * m + z, by omega, by omega, by go_num, by go_num, hm2, HNUM.out, HALL.out⟩
                  case measure => simp [intOf]; omega
              · obtain rfl : q = 12 := by omega
                have hd3 : (digB s[9] && (digB s[10] && digB s[11])) = true := by
                  have k9 := hdg.out 0 (by omega)
                  have k10 := hdg.out 1 (by omega)
                  have k11 := hdg.out 2 (by omega)
                  rw [show 9 + 0 = 9 from rfl, byte_at s 9 g10] at k9
                  rw [show 9 + 1 = 10 from rfl, byte_at s 10 g11] at k10
                  rw [show 9 + 2 = 11 from rfl, byte_at s 11 g12] at k11
                  obtain ⟨x9, h9, d9⟩ := k9
                  obtain ⟨x10, h10, d10⟩ := k10
                  obtain ⟨x11, h11, d11⟩ := k11
                  injection h9 with h9
                  injection h10 with h10
                  injection h11 with h11
                  rw [h9, h10, h11, d9, d10, d11]
                  rfl
                have HD3 := Lib.hid hd3
                have HMF := Lib.hid (show m = numF s.data.toList 3 from hmf.out)
                clear hd3 hdg hmf
                by_cases hsz : s.size = 12
                · have ht : (decide (s.data.toList.length = 12) || s.data.toList.getD 12 0 == 32) = true := by
                    rw [decide_eq_true (show s.data.toList.length = 12 from hsz)]; rfl
                  have hdz : decide ((12 : Int) < (s.size : Int)) = false := decide_eq_false (by omega)
                  have HT := Lib.hid ht
                  have HSZ := Lib.hid hsz
                  clear ht hsz
                  have hcv := HCT.out w
                  cases hpb : plainB s.data.toList
                  · have hv : V = 0 := HNO.out (by rw [HREST.out, hpb]; simp)
                    subst hv
                    rw [hpb] at hcv
                    have HCV := Lib.hid hcv
                    clear hcv hpb
                    go_wp2_with fail
                    refine (HCV.out).mono ?_
                    rintro e w' ⟨rfl, q, rfl⟩
                    go_wp2_with fail
                    go_ret
                    exact ⟨rfl, below_drewN (Below.refl _ _) q⟩
                  · have hv : V = m := by
                      rw [HV.out, statusV_yes (by rw [HREST.out, hpb, HD3.out, HT.out]; rfl) g12, ← HMF.out]
                    rw [hpb] at hcv
                    subst hv
                    have HCV := Lib.hid hcv
                    clear hcv hpb
                    go_wp2_with fail
                    refine (HCV.out).mono ?_
                    rintro e w' ⟨rfl, q, rfl⟩
                    go_wp2_with fail
                    go_ret
                    exact ⟨rfl, below_drewN (Below.refl _ _) q⟩
                · have g13 : 13 ≤ s.size := by omega
                  have hdz : decide ((12 : Int) < (s.size : Int)) = true := decide_eq_true (by omega)
                  have hne : decide (s.data.toList.length = 12) = false := decide_eq_false hsz
                  cases e12 : ((s[12].toNat : Int) == 32)
                  · have n12 : ((s[12].toNat : Int) != 32) = true := by rw [bne, e12]; rfl
                    have hv : V = 0 := HNO.out (by rw [HREST.out, hne, getD_byte s 12 g13, byte_32, e12]; simp)
                    subst hv
                    clear hsz hne
                    go_wp2_with fail
                    go_ret
                    exact ⟨rfl, Below.refl _ _⟩
                  · have n12 : ((s[12].toNat : Int) != 32) = false := by rw [bne, e12]; rfl
                    have ht : (decide (s.data.toList.length = 12) || s.data.toList.getD 12 0 == 32) = true := by rw [hne, getD_byte s 12 g13, byte_32, e12]; rfl
                    have HT := Lib.hid ht
                    clear ht hsz hne
                    have hcv := HCT.out w
                    cases hpb : plainB s.data.toList
                    · have hv : V = 0 := HNO.out (by rw [HREST.out, hpb]; simp)
                      subst hv
                      rw [hpb] at hcv
                      have HCV := Lib.hid hcv
                      clear hcv hpb
                      go_wp2_with fail
                      refine (HCV.out).mono ?_
                      rintro e w' ⟨rfl, q, rfl⟩
                      go_wp2_with fail
                      go_ret
                      exact ⟨rfl, below_drewN (Below.refl _ _) q⟩
                    · have hv : V = m := by
                        rw [HV.out, statusV_yes (by rw [HREST.out, hpb, HD3.out, HT.out]; rfl) g12, ← HMF.out]
                      rw [hpb] at hcv
                      subst hv
                      have HCV := Lib.hid hcv
                      clear hcv hpb
                      go_wp2_with fail
                      refine (HCV.out).mono ?_
                      rintro e w' ⟨rfl, q, rfl⟩
                      go_wp2_with fail
                      go_ret
                      exact ⟨rfl, below_drewN (Below.refl _ _) q⟩
          · have hv : V = 0 := hno (by rw [hst, hcmp, byte_48, byte_49, e7_48, byte_32, e8_32, bne, byte_48, e9_48]; simp)
            subst hv
            clear hst hno ex1
            go_enter Tryz.func116, Tryz.ntmps116
            go_wp2_with fail
            go_ret
            exact ⟨rfl, Below.refl _ _⟩
end Go.Proofs.YtonlfplloenfcaaGreatDoor
