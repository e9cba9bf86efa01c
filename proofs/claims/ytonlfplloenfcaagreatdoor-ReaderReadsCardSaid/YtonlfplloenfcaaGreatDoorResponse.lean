/-
  heads.response: a response's first line.
-/
import Derived.Test.YtonlfplloenfcaaGreatDoorToken
import Derived.Test.YtonlfplloenfcaaGreatDoorOddEtc
import Derived.Test.YtonlfplloenfcaaGreatDoorFindEtc
import Derived.Test.YtonlfplloenfcaaGreatDoorWordEtc
import Derived.Test.YtonlfplloenfcaaGreatDoorResultsEtc
import Derived.Test.YtonlfplloenfcaaGreatDoorBufEtc
import Derived.Test.YtonlfplloenfcaaGreatDoorMoreSpecEtc
import Derived.Lib.QuietBelow
import Derived.Deep.RegionHeld3
import Derived.Deep.DrawnRows
namespace Go.Proofs.YtonlfplloenfcaaGreatDoor
open Go.RowKit
attribute [local go_sem] Oper.semAt_some

/-- The library's error of a number that is none, which strconv.Atoi answers. -/
def errG : Nat := 3
theorem errG_is : Tryz.prog.globalNamed "strconv.ErrSyntax" = some errG := by kernel_rfl
def ErrOk (w : World) : Prop := ∃ (tp : TypeId) (p : Value) (t : TypeId) (f : Nat × Nat), w.heap[errG]? = some (.cells #[.iface tp p] t f)
theorem ErrOk.below {B : Nat} {w w' : World} (h : ErrOk w) (hb : Below B w w') (hB : errG < B) : ErrOk w' := by
  obtain ⟨tp, p, t, f, h⟩ := h
  exact ⟨tp, p, t, f, (hb.block errG hB).trans h⟩
theorem ErrOk.var {w : World} (h : ErrOk w) : ∃ tp p, w.var? Tryz.prog "strconv.ErrSyntax" = some #[.iface tp p] := by
  obtain ⟨tp, p, t, f, h⟩ := h
  refine ⟨tp, p, ?_⟩
  unfold World.var?
  rw [errG_is]
  show (match w.heap[errG]? with | some (.cells cs _ _) => some cs | _ => none) = _
  rw [h]
theorem first_no {K : Asks} {x : List UInt8} {g : Nat} {w w' : World} (hok : K.ok x = false) (hk : Blk w g 25 #[.string ⟨#[]⟩, .string ⟨#[]⟩, .int .i64 0, .slice none 0 0, .slice none 0 0]) (hb : Below w.heap.size w w') : FirstPost K x g w (.returned (.bool false)) w' :=
  first_done hok (World.grownBy.refl w _) hk hb (fun h => by cases h)

theorem atoi_below {w w' : World} (h : w' = w ∨ ∃ t, w' = Lib.bytesWorld w 5 t) : Below w.heap.size w w' := by
  rcases h with rfl | ⟨t, rfl⟩
  · exact Below.refl _ _
  · exact bytesWorld_below _ _ _
theorem three_list (l : List UInt8) (h : 5 ≤ l.length) : (l.drop 2).take (5 - 2) = [l[2]'(by omega), l[3]'(by omega), l[4]'(by omega)] := by
  match l, h with
  | a :: b :: c :: d :: f :: r, _ => rfl
theorem three_at (R : ByteArray) (h : 5 ≤ R.size) : (R.data.toList.drop 2).take (5 - 2) = [R[2], R[3], R[4]] := three_list R.data.toList h
set_option maxRecDepth 100000 in
theorem response_any (s : ByteArray) (g : Nat) (w : World) (hs : s.size ≤ 1000000) (he : ErrOk w) (heg : errG < w.heap.size)
    (hb : Blk w g 25 #[.string ⟨#[]⟩, .string ⟨#[]⟩, .int .i64 0, .slice none 0 0, .slice none 0 0]) :
    Calls Tryz.prog 115 #[.pointer (some ⟨g, 0, none⟩), .string s] w (FirstPost statusK s.data.toList g w) := by
  have HB := Lib.hid hb
  have HE := Lib.hid he
  clear hb he
  obtain ⟨ok, hok⟩ : ∃ ok, ok = statusOK s.data.toList := ⟨_, rfl⟩
  have hno : ok = false → statusK.ok s.data.toList = false := fun h => by rw [← h, hok]; rfl
  have HNO := Lib.hid hno
  have HOK := Lib.hid hok
  clear hno hok
  have hC := Tryz.strings_CutPrefix s ⟨#[72, 84, 84, 80, 47, 49, 46]⟩ w
  have e2 : (⟨#[72, 84, 84, 80, 47, 49, 46]⟩ : ByteArray).data.toList = httpB := rfl
  rw [e2] at hC
  cases hp : Lib.hasPrefix s.data.toList httpB
  · rw [hp] at hC
    have hv : ok = false := HOK.out.trans (by unfold statusOK; rw [hp]; rfl)
    have HV := Lib.hid hv
    have HC := Lib.hid hC
    clear hC e2 hp hv
    go_enter Tryz.func115, Tryz.ntmps115
    go_wp2_with fail
    refine (HC.out).mono ?_
    rintro e w1 ⟨rfl, rfl⟩
    go_wp2_with fail
    go_ret
    exact first_no (HNO.out HV.out) HB.out (Below.refl _ _)
  · have htp : Lib.trimPrefix s.data.toList httpB = s.data.toList.drop 7 := by
      unfold Lib.trimPrefix
      rw [if_pos hp]
      rfl
    rw [hp, htp] at hC
    obtain ⟨R, hR⟩ : ∃ R : ByteArray, R = ⟨(s.data.toList.drop 7).toArray⟩ := ⟨_, rfl⟩
    rw [← hR] at hC
    have hRl : R.data.toList = s.data.toList.drop 7 := by rw [hR]
    have hls : s.data.toList.length = s.size := rfl
    have hRz : R.size = s.size - 7 := by
      have : R.size = R.data.toList.length := rfl
      rw [this, hRl, List.length_drop, hls]
    have HC := Lib.hid hC
    clear hC hR htp
    by_cases h5 : R.size < 5
    · have hd : decide ((R.size : Int) < 5) = true := decide_eq_true (by omega)
      have hv : ok = false := HOK.out.trans (by exact status_short (by omega))
      have HV := Lib.hid hv
      clear hv hls hRl hRz e2 hp
      go_enter Tryz.func115, Tryz.ntmps115
      go_wp2_with fail
      refine (HC.out).mono ?_
      rintro e w1 ⟨rfl, rfl⟩
      go_wp2_with fail
      go_ret
      exact first_no (HNO.out HV.out) HB.out (Below.refl _ _)

    · have hd : decide ((R.size : Int) < 5) = false := decide_eq_false (by omega)
      have g1 : 1 ≤ R.size := by omega
      have g2 : 2 ≤ R.size := by omega
      have g3 : 3 ≤ R.size := by omega
      have g4 : 4 ≤ R.size := by omega
      have g5 : 5 ≤ R.size := by omega
      have hst := status_asks (l := s.data.toList) (by omega)
      rw [hp] at hst
      have hgd : ∀ k (h : k < R.size), s.data.toList.getD (7 + k) 0 = R[k] := fun k h => by
        rw [← getD_byte R k h, hRl]
        unfold List.getD
        rw [List.getElem?_drop]
      have hgd0 := hgd 0 g1
      have hgd1 := hgd 1 g2
      have hgd2 := hgd 2 g3
      have hgd3 := hgd 3 g4
      have hgd4 := hgd 4 g5
      rw [show 7 + 0 = 7 from rfl] at hgd0
      rw [show 7 + 1 = 8 from rfl] at hgd1
      rw [show 7 + 2 = 9 from rfl] at hgd2
      rw [show 7 + 3 = 10 from rfl] at hgd3
      rw [show 7 + 4 = 11 from rfl] at hgd4
      rw [hgd0, hgd1, hgd2, hgd3, hgd4] at hst
      have hct := fun W => control_any s W (by omega)
      have HCT := Lib.hid hct
      have hr1 : (R.extract 0 1).data.toList = [R[0]] := by
        rw [Lib.extract_data]
        have := take_byte R 0 g1
        simpa using this
      have hT1 := fun W => Tryz.strings_Trim (R.extract 0 1) ⟨#[48, 49]⟩ W (by have := extract_size_le R 0 1; omega) (by decide) (ascii_of_all (by decide))
      rw [hr1] at hT1
      have e49 : (⟨#[48, 49]⟩ : ByteArray).data.toList = [48, 49] := rfl
      rw [e49] at hT1
      have ht1 := trim_one R[0]
      have HGD4 := Lib.hid (And.intro hgd2 (And.intro hgd3 hgd4))
      have HRL := Lib.hid (And.intro hRl (And.intro hls hRz))
      clear hgd hgd0 hgd1 hgd2 hgd3 hgd4 hct hr1 e49 hRl hls hRz e2 hp
      generalize hr1e : R.extract 0 1 = r1 at *
      generalize Lib.trimS [R[0]] [48, 49] = tl1 at *
      obtain ⟨t1, ht1e⟩ : ∃ t1 : ByteArray, t1 = ⟨tl1.toArray⟩ := ⟨_, rfl⟩
      rw [← ht1e] at hT1
      cases e01 : (R[0] == 48 || R[0] == 49)
      · rw [e01] at ht1 hst
        have q1 : t1.toList.isEmpty = false := by rw [Go.ByteArray.toList_eq, ht1e]; simpa using ht1
        have q2 : ¬ t1.toList = [] := by intro h; rw [h] at q1; cases q1
        have HT1 := Lib.hid hT1
        have hv : ok = false := HOK.out.trans (by rw [hst]; simp)
        have HV := Lib.hid hv
        clear hv hst ht1 ht1e hT1 e01
        go_enter Tryz.func115, Tryz.ntmps115
        go_wp2_with fail
        refine (HC.out).mono ?_
        rintro e w1 ⟨rfl, rfl⟩
        go_wp2_with fail
        refine (HT1.out _).mono ?_
        rintro e w2 ⟨rfl, hb2⟩
        have B2 := Lib.hid hb2
        clear hb2
        go_wp2_with fail
        go_ret
        exact first_no (HNO.out HV.out) HB.out B2.out

      · rw [e01] at ht1 hst
        have ht0 : t1 = ⟨#[]⟩ := by
          rw [ht1e]
          have : tl1 = [] := by simpa using ht1
          rw [this]
        rw [ht0] at hT1
        have HT1 := Lib.hid hT1
        clear ht1 ht0 ht1e hT1 e01
        cases e8 : ((R[1].toNat : Int) == 32)
        · have n8 : ((R[1].toNat : Int) != 32) = true := by rw [bne, e8]; rfl
          have hv : ok = false := HOK.out.trans (by rw [hst, byte_32, e8]; simp)
          have HV := Lib.hid hv
          clear hv hst
          go_enter Tryz.func115, Tryz.ntmps115
          go_wp2_with fail
          refine (HC.out).mono ?_
          rintro e w1 ⟨rfl, rfl⟩
          go_wp2_with fail
          refine (HT1.out _).mono ?_
          rintro e w2 ⟨rfl, hb2⟩
          have B2 := Lib.hid hb2
          clear hb2
          go_wp2_with fail
          go_ret
          exact first_no (HNO.out HV.out) HB.out B2.out

        · have n8 : ((R[1].toNat : Int) != 32) = false := by rw [bne, e8]; rfl
          rw [byte_32, e8] at hst
          cases hpl : plainB s.data.toList
          · rw [hpl] at hst HCT
            have hv : ok = false := HOK.out.trans (by rw [hst]; simp)
            have HV := Lib.hid hv
            clear hv hst hpl
            go_enter Tryz.func115, Tryz.ntmps115
            go_wp2_with fail
            refine (HC.out).mono ?_
            rintro e w1 ⟨rfl, rfl⟩
            go_wp2_with fail
            refine (HT1.out _).mono ?_
            rintro e w2 ⟨rfl, hb2⟩
            have B2 := Lib.hid hb2
            clear hb2
            go_wp2_with fail
            refine (HCT.out _).mono ?_
            rintro e w3 ⟨rfl, q3, rfl⟩
            have B3 := Lib.hid (below_drewN B2.out q3)
            generalize w2.drewN q3 = w3 at *
            go_wp2_with fail
            go_ret
            exact first_no (HNO.out HV.out) HB.out B3.out

          · rw [hpl] at hst HCT
            have hcd : (R.extract 2 5).data.toList = [R[2], R[3], R[4]] := by
              rw [Lib.extract_data]
              exact three_at R g5
            have hwd : (R.extract 5 R.size).data.toList = s.data.toList.drop 12 := by
              rw [Lib.extract_data, HRL.out.1, List.drop_drop]
              exact List.take_of_length_le (by rw [List.length_drop]; have := HRL.out.2; omega)
            have hcz : (R.extract 2 5).size = 3 := by
              have : (R.extract 2 5).size = (R.extract 2 5).data.toList.length := rfl
              rw [this, hcd]
              rfl
            have hT2 := fun W => Tryz.strings_Trim (R.extract 2 5) ⟨#[48, 49, 50, 51, 52, 53, 54, 55, 56, 57]⟩ W (by omega) (by decide) (ascii_of_all (by decide))
            have e57 : (⟨#[48, 49, 50, 51, 52, 53, 54, 55, 56, 57]⟩ : ByteArray).data.toList = digsB := rfl
            rw [hcd, e57] at hT2
            have ht2 := trim_digs [R[2], R[3], R[4]]
            have hall : [R[2], R[3], R[4]].all digB = (digB R[2] && (digB R[3] && digB R[4])) := by simp
            rw [hall] at ht2
            have hAo := fun (W : World) (v : Int) (h : Lib.atoi [R[2], R[3], R[4]] = some v) => Tryz.strconv_Atoi_ok (R.extract 2 5) (by omega) v (by rw [hcd]; exact atoi_all (by simp) h) W
            have hAe := fun (W : World) (hb : Below w.heap.size w W) (h : Lib.atoi [R[2], R[3], R[4]] = none) => (let hv := (HE.out.below hb heg).var; Tryz.strconv_Atoi_err_var (R.extract 2 5) (by omega) (by rw [hcd]; exact h) hv.choose hv.choose_spec.choose W hv.choose_spec.choose_spec)
            generalize hce : R.extract 2 5 = cd at *
            generalize hwe : R.extract 5 R.size = wd at *
            generalize Lib.trimS [R[2], R[3], R[4]] digsB = tl2 at *
            obtain ⟨t2, ht2e⟩ : ∃ t2 : ByteArray, t2 = ⟨tl2.toArray⟩ := ⟨_, rfl⟩
            rw [← ht2e] at hT2
            cases eD : (digB R[2] && (digB R[3] && digB R[4]))
            · rw [eD] at ht2 hst
              have q1 : t2.toList.isEmpty = false := by rw [Go.ByteArray.toList_eq, ht2e]; simpa using ht2
              have q2 : ¬ t2.toList = [] := by intro h; rw [h] at q1; cases q1
              have HT2 := Lib.hid hT2
              cases hat : Lib.atoi [R[2], R[3], R[4]] with
              | none =>
                have hA := fun W hb => hAe W hb hat
                have HA := Lib.hid hA
                have hv : ok = false := HOK.out.trans (by rw [hst]; simp)
                have HV := Lib.hid hv
                clear hv hst ht2 ht2e hT2 hA hAo hAe hat hcd hwd e57 hall eD hcz
                go_enter Tryz.func115, Tryz.ntmps115
                go_wp2_with fail
                refine (HC.out).mono ?_
                rintro e w1 ⟨rfl, rfl⟩
                go_wp2_with fail
                refine (HT1.out _).mono ?_
                rintro e w2 ⟨rfl, hb2⟩
                have B2 := Lib.hid hb2
                clear hb2
                go_wp2_with fail
                refine (HCT.out _).mono ?_
                rintro e w3 ⟨rfl, q3, rfl⟩
                have B3 := Lib.hid (below_drewN B2.out q3)
                generalize w2.drewN q3 = w3 at *
                go_wp2_with fail
                go_quiet (fail)
                have B4 := Lib.hid (below_drewN B3.out nq)
                generalize w3.drewN nq = w4 at *
                go_wp2_with fail
                refine (HA.out _ B4.out).mono ?_
                rintro e w5 ⟨N, rfl, _, _, hb5⟩
                have B5 := Lib.hid (below_step B4.out hb5)
                clear hb5
                go_wp2_with fail
                go_ret
                exact first_no (HNO.out HV.out) HB.out B5.out

              | some v =>
                have hA := fun W => hAo W v hat
                have HA := Lib.hid hA
                have hv : ok = false := HOK.out.trans (by rw [hst]; simp)
                have HV := Lib.hid hv
                clear hv hst ht2 ht2e hT2 hA hAo hAe hat hcd hwd e57 hall eD hcz
                go_enter Tryz.func115, Tryz.ntmps115
                go_wp2_with fail
                refine (HC.out).mono ?_
                rintro e w1 ⟨rfl, rfl⟩
                go_wp2_with fail
                refine (HT1.out _).mono ?_
                rintro e w2 ⟨rfl, hb2⟩
                have B2 := Lib.hid hb2
                clear hb2
                go_wp2_with fail
                refine (HCT.out _).mono ?_
                rintro e w3 ⟨rfl, q3, rfl⟩
                have B3 := Lib.hid (below_drewN B2.out q3)
                generalize w2.drewN q3 = w3 at *
                go_wp2_with fail
                go_quiet (fail)
                have B4 := Lib.hid (below_drewN B3.out nq)
                generalize w3.drewN nq = w4 at *
                go_wp2_with fail
                refine (HA.out _).mono ?_
                rintro e w5 ⟨rfl, hb5⟩
                have B5 := Lib.hid (below_step B4.out (atoi_below hb5))
                clear hb5
                go_wp2_with fail
                refine (HT2.out _).mono ?_
                rintro e w6 ⟨rfl, hb6⟩
                have B6 := Lib.hid (below_step B5.out hb6)
                clear hb6
                go_wp2_with fail
                go_ret
                exact first_no (HNO.out HV.out) HB.out B6.out

            · rw [eD] at ht2 hst
              have ht0 : t2 = ⟨#[]⟩ := by
                rw [ht2e]
                have : tl2 = [] := by simpa using ht2
                rw [this]
              rw [ht0] at hT2
              have HT2 := Lib.hid hT2
              have eD2 := eD
              simp only [Bool.and_eq_true] at eD2
              have hat := atoi_three eD2.1 eD2.2.1 eD2.2.2
              have hfd := first_digit eD2.1 eD2.2.1 eD2.2.2
              have hsv : statusOK s.data.toList = true → statusV s.data.toList = 100 * (R[2].toNat - 48) + 10 * (R[3].toNat - 48) + (R[4].toNat - 48) := fun h => by
                unfold statusV
                rw [if_pos h, HGD4.out.1, HGD4.out.2.1, HGD4.out.2.2]
              have hnb : 100 * (R[2].toNat - 48) + 10 * (R[3].toNat - 48) + (R[4].toNat - 48) ≤ 100000 := by
                have h1 := R[2].toNat_lt
                have h2 := R[3].toNat_lt
                have h3 := R[4].toNat_lt
                omega
              have hA := fun W => hAo W _ hat
              generalize 100 * (R[2].toNat - 48) + 10 * (R[3].toNat - 48) + (R[4].toNat - 48) = nn at *
              have HA := Lib.hid hA
              have HSV := Lib.hid hsv
              clear ht2 ht2e ht0 hT2 hA hAo hAe hat hcd e57 hall eD eD2 hcz hsv
              rw [hfd] at hst
              by_cases h100 : 100 ≤ nn
              · have hd1 : decide ((nn : Int) < 100) = false := decide_eq_false (by omega)
                rw [decide_eq_true h100] at hst
                by_cases hsz : s.size = 12
                · have hwn : wd = ⟨#[]⟩ := bytes_ext (by
                    rw [hwd]
                    exact List.drop_eq_nil_of_le (by rw [HRL.out.2.1]; omega))
                  subst hwn
                  have hv : ok = true := HOK.out.trans (by rw [hst, decide_eq_true (show s.data.toList.length = 12 from hsz)]; rfl)
                  have HV := Lib.hid hv
                  clear hv hst hsz hwd h100 hfd
                  go_enter Tryz.func115, Tryz.ntmps115
                  go_wp2_with fail
                  refine (HC.out).mono ?_
                  rintro e w1 ⟨rfl, rfl⟩
                  go_wp2_with fail
                  refine (HT1.out _).mono ?_
                  rintro e w2 ⟨rfl, hb2⟩
                  have B2 := Lib.hid hb2
                  clear hb2
                  go_wp2_with fail
                  refine (HCT.out _).mono ?_
                  rintro e w3 ⟨rfl, q3, rfl⟩
                  have B3 := Lib.hid (below_drewN B2.out q3)
                  generalize w2.drewN q3 = w3 at *
                  go_wp2_with fail
                  go_quiet (fail)
                  have B4 := Lib.hid (below_drewN B3.out nq)
                  generalize w3.drewN nq = w4 at *
                  go_wp2_with fail
                  refine (HA.out _).mono ?_
                  rintro e w5 ⟨rfl, hb5⟩
                  have B5 := Lib.hid (below_step B4.out (atoi_below hb5))
                  clear hb5
                  go_wp2_with fail
                  refine (HT2.out _).mono ?_
                  rintro e w6 ⟨rfl, hb6⟩
                  have hb06 := below_step B5.out hb6
                  have hk6 := HB.out.below hb06 HB.out.lt
                  have c2' := hk6.cell 2
                  simp at c2'
                  have f2' := hk6.frozen 2
                  have K6 := Lib.hid hk6
                  have B6 := Lib.hid hb06
                  clear hb6 hb06 hk6
                  go_wp2_with fail
                  go_ret
                  have hk7 : Blk (w6.setCell ⟨g, 2, none⟩ (.int .i64 (nn : Int))) g 25 #[.string ⟨#[]⟩, .string ⟨#[]⟩, .int .i64 (nn : Int), .slice none 0 0, .slice none 0 0] := by simpa using K6.out.set_ 2 (.int .i64 (nn : Int))
                  have hok1 : statusOK s.data.toList = true := by rw [← HOK.out, HV.out]
                  refine first_done (W2 := w6.setCell ⟨g, 2, none⟩ (.int .i64 (nn : Int))) (K := statusK) hok1 ?_ hk7 (Below.refl _ _) (fun _ => ⟨rfl, rfl, ?_⟩)
                  · exact ⟨B6.out.os, B6.out.tape, B6.out.output, by simpa [World.setCell] using B6.out.size, fun k hk hne => (Below.heap_setCell _ _ _ _ (fun e => hne (by rw [e]))).trans (B6.out.block k hk)⟩
                  · show Value.int .i64 (nn : Int) = Value.int .i64 (statusV s.data.toList : Int)
                    rw [HSV.out hok1]
                · have g13 : 13 ≤ s.size := by have := HRL.out.2.2; omega
                  have hwz : 1 ≤ wd.size := by
                    have : wd.size = wd.data.toList.length := rfl
                    rw [this, hwd, List.length_drop, HRL.out.2.1]
                    omega
                  have hw0 : s.data.toList.getD 12 0 = wd[0] := by
                    rw [← getD_byte wd 0 hwz, hwd]
                    unfold List.getD
                    rw [List.getElem?_drop]
                  have hwe0 : wd.toList.isEmpty = false := by
                    rw [Go.ByteArray.toList_eq]
                    have : 1 ≤ wd.data.toList.length := hwz
                    cases hh : wd.data.toList with
                    | nil => rw [hh] at this; simp at this
                    | cons a r => rfl
                  have hwe1 : ¬ wd.toList = [] := by intro h; rw [h] at hwe0; cases hwe0
                  rw [decide_eq_false (show ¬ s.data.toList.length = 12 from hsz), hw0] at hst
                  clear hw0
                  cases e12 : ((wd[0].toNat : Int) == 32)
                  · have n12 : ((wd[0].toNat : Int) != 32) = true := by rw [bne, e12]; rfl
                    have hv : ok = false := HOK.out.trans (by rw [hst, byte_32, e12]; rfl)
                    have HV := Lib.hid hv
                    clear hv hst hsz hwd h100 hfd
                    go_enter Tryz.func115, Tryz.ntmps115
                    go_wp2_with fail
                    refine (HC.out).mono ?_
                    rintro e w1 ⟨rfl, rfl⟩
                    go_wp2_with fail
                    refine (HT1.out _).mono ?_
                    rintro e w2 ⟨rfl, hb2⟩
                    have B2 := Lib.hid hb2
                    clear hb2
                    go_wp2_with fail
                    refine (HCT.out _).mono ?_
                    rintro e w3 ⟨rfl, q3, rfl⟩
                    have B3 := Lib.hid (below_drewN B2.out q3)
                    generalize w2.drewN q3 = w3 at *
                    go_wp2_with fail
                    go_quiet (fail)
                    have B4 := Lib.hid (below_drewN B3.out nq)
                    generalize w3.drewN nq = w4 at *
                    go_wp2_with fail
                    refine (HA.out _).mono ?_
                    rintro e w5 ⟨rfl, hb5⟩
                    have B5 := Lib.hid (below_step B4.out (atoi_below hb5))
                    clear hb5
                    go_wp2_with fail
                    refine (HT2.out _).mono ?_
                    rintro e w6 ⟨rfl, hb6⟩
                    have hb06 := below_step B5.out hb6
                    have hk6 := HB.out.below hb06 HB.out.lt
                    have c2' := hk6.cell 2
                    simp at c2'
                    have f2' := hk6.frozen 2
                    have K6 := Lib.hid hk6
                    have B6 := Lib.hid hb06
                    clear hb6 hb06 hk6
                    go_wp2_with fail
                    go_ret
                    exact first_no (HNO.out HV.out) HB.out B6.out
                  · have n12 : ((wd[0].toNat : Int) != 32) = false := by rw [bne, e12]; rfl
                    have hv : ok = true := HOK.out.trans (by rw [hst, byte_32, e12]; rfl)
                    have HV := Lib.hid hv
                    clear hv hst hsz hwd h100 hfd
                    go_enter Tryz.func115, Tryz.ntmps115
                    go_wp2_with fail
                    refine (HC.out).mono ?_
                    rintro e w1 ⟨rfl, rfl⟩
                    go_wp2_with fail
                    refine (HT1.out _).mono ?_
                    rintro e w2 ⟨rfl, hb2⟩
                    have B2 := Lib.hid hb2
                    clear hb2
                    go_wp2_with fail
                    refine (HCT.out _).mono ?_
                    rintro e w3 ⟨rfl, q3, rfl⟩
                    have B3 := Lib.hid (below_drewN B2.out q3)
                    generalize w2.drewN q3 = w3 at *
                    go_wp2_with fail
                    go_quiet (fail)
                    have B4 := Lib.hid (below_drewN B3.out nq)
                    generalize w3.drewN nq = w4 at *
                    go_wp2_with fail
                    refine (HA.out _).mono ?_
                    rintro e w5 ⟨rfl, hb5⟩
                    have B5 := Lib.hid (below_step B4.out (atoi_below hb5))
                    clear hb5
                    go_wp2_with fail
                    refine (HT2.out _).mono ?_
                    rintro e w6 ⟨rfl, hb6⟩
                    have hb06 := below_step B5.out hb6
                    have hk6 := HB.out.below hb06 HB.out.lt
                    have c2' := hk6.cell 2
                    simp at c2'
                    have f2' := hk6.frozen 2
                    have K6 := Lib.hid hk6
                    have B6 := Lib.hid hb06
                    clear hb6 hb06 hk6
                    go_wp2_with fail
                    go_ret
                    have hk7 : Blk (w6.setCell ⟨g, 2, none⟩ (.int .i64 (nn : Int))) g 25 #[.string ⟨#[]⟩, .string ⟨#[]⟩, .int .i64 (nn : Int), .slice none 0 0, .slice none 0 0] := by simpa using K6.out.set_ 2 (.int .i64 (nn : Int))
                    have hok1 : statusOK s.data.toList = true := by rw [← HOK.out, HV.out]
                    refine first_done (W2 := w6.setCell ⟨g, 2, none⟩ (.int .i64 (nn : Int))) (K := statusK) hok1 ?_ hk7 (Below.refl _ _) (fun _ => ⟨rfl, rfl, ?_⟩)
                    · exact ⟨B6.out.os, B6.out.tape, B6.out.output, by simpa [World.setCell] using B6.out.size, fun k hk hne => (Below.heap_setCell _ _ _ _ (fun e => hne (by rw [e]))).trans (B6.out.block k hk)⟩
                    · show Value.int .i64 (nn : Int) = Value.int .i64 (statusV s.data.toList : Int)
                      rw [HSV.out hok1]
              · have hd1 : decide ((nn : Int) < 100) = true := decide_eq_true (by omega)
                rw [decide_eq_false h100] at hst
                have hv : ok = false := HOK.out.trans (by rw [hst]; simp)
                have HV := Lib.hid hv
                clear hv hst hwd h100 hfd
                go_enter Tryz.func115, Tryz.ntmps115
                go_wp2_with fail
                refine (HC.out).mono ?_
                rintro e w1 ⟨rfl, rfl⟩
                go_wp2_with fail
                refine (HT1.out _).mono ?_
                rintro e w2 ⟨rfl, hb2⟩
                have B2 := Lib.hid hb2
                clear hb2
                go_wp2_with fail
                refine (HCT.out _).mono ?_
                rintro e w3 ⟨rfl, q3, rfl⟩
                have B3 := Lib.hid (below_drewN B2.out q3)
                generalize w2.drewN q3 = w3 at *
                go_wp2_with fail
                go_quiet (fail)
                have B4 := Lib.hid (below_drewN B3.out nq)
                generalize w3.drewN nq = w4 at *
                go_wp2_with fail
                refine (HA.out _).mono ?_
                rintro e w5 ⟨rfl, hb5⟩
                have B5 := Lib.hid (below_step B4.out (atoi_below hb5))
                clear hb5
                go_wp2_with fail
                refine (HT2.out _).mono ?_
                rintro e w6 ⟨rfl, hb6⟩
                have hb06 := below_step B5.out hb6
                have hk6 := HB.out.below hb06 HB.out.lt
                have c2' := hk6.cell 2
                simp at c2'
                have f2' := hk6.frozen 2
                have K6 := Lib.hid hk6
                have B6 := Lib.hid hb06
                clear hb6 hb06 hk6
                go_wp2_with fail
                go_ret
                exact first_no (HNO.out HV.out) HB.out B6.out
end Go.Proofs.YtonlfplloenfcaaGreatDoor
