/-
  footmanref12.Put.
-/
import Derived.Test.YtonlfplloenfcaaGreatDoorHPut
import Derived.Test.YtonlfplloenfcaaGreatDoorRefTrim
import Derived.Test.YtonlfplloenfcaaGreatDoorOwnb
import Derived.Deep.RegionHeld3
import Derived.Deep.DrawnRows
namespace Go.Proofs.YtonlfplloenfcaaGreatDoor
open Go.RowKit
attribute [local go_sem ↓] Go.wp_at_zero Go.wp_at_succ

def askB2 (s1 s2 : ByteArray) : ByteArray := s1 ++ ⟨#[32]⟩ ++ s2 ++ ⟨#[32, 72, 84, 84, 80, 47, 49, 46, 49, 13, 10]⟩
theorem askB2_data (s1 s2 : ByteArray) : (askB2 s1 s2).data.toList = askT s1 s2 := by
  unfold askB2 askT
  simp only [Go.Joins.data_append, List.append_assoc]
theorem askB2_size (s1 s2 : ByteArray) : (askB2 s1 s2).size = (askT s1 s2).length := by rw [← askB2_data]; rfl
set_option maxRecDepth 100000 in
set_option maxHeartbeats 2000000 in
theorem rput_any (s1 s2 : ByteArray) (st : Int) (A A2 : Option Addr) (n c n2 c2 : Nat) (fs : List Fd) (w : World) (h : FRead w w.heap.size A n fs) (hsum : s1.size + s2.size + fsum fs ≤ 200000) :
   Calls Tryz.prog 25 #[.agg #[.string s1, .string s2, .int .i64 st, .slice A n c, .slice A2 n2 c2]] w (HPutPost s1 s2 fs w) := by
  have hnl : n ≤ 100000 := by rw [← h.1]; exact (big_parts (m := 0) (fs := fs) (by unfold bigB; exact decide_eq_false (by omega))).1
  have hT := fun W => rtoken_any s1 W (by omega)
  have hG := fun W => rtarget_any s2 W (by omega)
  have HT := Lib.hid hT
  have HG := Lib.hid hG
  have H := Lib.hid h
  clear hT hG h
  have hk0 := Blk.new w 25 #[.string s1, .string s2, .int .i64 st, .slice A n c, .slice A2 n2 c2]
  have hB0 : Below w.heap.size w (w.alloc (.cells #[.string s1, .string s2, .int .i64 st, .slice A n c, .slice A2 n2 c2] 25)) := (Below.refl _ _).alloc (Nat.le_refl _) _
  have K0 := Lib.hid hk0
  have B0 := Lib.hid hB0
  clear hk0 hB0
  cases htk : tokenB s1.data.toList
  · have HE := Lib.hid (headE_arg (m := s1) (t := s2) (fs := fs) (by rw [htk]; rfl))
    rw [htk] at HT
    clear htk
    go_enter Tryz.func25, Tryz.ntmps25
    go_wp2_with fail
    refine (HT.out _).mono ?_
    rintro e w1 ⟨rfl, rfl⟩
    go_wp2_with fail
    go_ret2
    exact put_none HE.out B0.out
  · rw [htk] at HT
    have HTK := Lib.hid htk
    clear htk
    have g1 := K0.out.cell 1
    simp at g1
    cases htg : targB s2.data.toList
    · have HE := Lib.hid (headE_arg (m := s1) (t := s2) (fs := fs) (by rw [htg, HTK.out]; rfl))
      rw [htg] at HG
      clear htg
      go_enter Tryz.func25, Tryz.ntmps25
      go_wp2_with fail
      refine (HT.out _).mono ?_
      rintro e w1 ⟨rfl, rfl⟩
      go_wp2_with fail
      refine (HG.out _).mono ?_
      rintro e w1 ⟨rfl, q, rfl⟩
      go_wp2_with fail
      go_ret2
      exact put_none HE.out (below_drewN B0.out _)
    · rw [htg] at HG
      have HTG := Lib.hid htg
      clear htg
      go_enter Tryz.func25, Tryz.ntmps25
      go_wp2_with fail
      refine (HT.out _).mono ?_
      rintro e w1 ⟨rfl, rfl⟩
      go_wp2_with fail
      refine (HG.out _).mono ?_
      rintro e w1 ⟨rfl, q, rfl⟩
      have K1 := Lib.hid (K0.out.drewN q)
      have hB1 : Below w.heap.size w ((w.alloc (.cells #[.string s1, .string s2, .int .i64 st, .slice A n c, .slice A2 n2 c2] 25)).drewN q) := below_drewN B0.out q
      have hz1 : w.heap.size < ((w.alloc (.cells #[.string s1, .string s2, .int .i64 st, .slice A n c, .slice A2 n2 c2] 25)).drewN q).heap.size := by simp [World.drewN]
      go_wp2_with fail
      generalize (w.alloc (.cells #[.string s1, .string s2, .int .i64 st, .slice A n c, .slice A2 n2 c2] 25)).drewN q = W1 at *
      have B1 := Lib.hid hB1
      clear g1 hB1 K0 B0
      have hcells := H.out.2
      have HLN := Lib.hid H.out.1
      go_loopw [4] (fun i wr => ∃ k : Nat, k ≤ n ∧ i = .int .i64 k ∧ Hid ((fs.take k).any oddF = false) ∧ Hid (Below W1.heap.size W1 wr)) (fun i _ => n - (intOf i).toNat)
      case atStart => exact ⟨0, Nat.zero_le _, rfl, by simp [Hid], Below.refl _ _⟩
      case round =>
        obtain ⟨k, hk, rfl, hp, hb⟩ := hrel
        have c3 := (K1.out.below hb.out hz1).cell 3
        simp at c3
        by_cases hlt : k < n
        · obtain ⟨b, off, rfl, hbb, hc⟩ := hcells (by omega)
          obtain ⟨f, hf⟩ : ∃ f, fs[k]? = some f := ⟨fs[k]'(by rw [HLN.out]; exact hlt), List.getElem?_eq_getElem (by rw [HLN.out]; exact hlt)⟩
          have hBw := B1.out.trans (hb.out.mono B1.out.size)
          have hc1 := (hBw.cell (p := ⟨b, off + k * 2, none⟩) hbb).trans (hc k f hf).1
          have hc2 := (hBw.cell (p := ⟨b, off + k * 2 + 1, none⟩) hbb).trans (hc k f hf).2
          have hfb := (big_parts (m := 0) (fs := fs) (by unfold bigB; exact decide_eq_false (by omega))).2 f (List.mem_of_getElem? hf)
          have hzr : W1.heap.size ≤ wr.heap.size := hb.out.size
          have hst : oddF f = false → Hid ((fs.take (k + 1)).any oddF = false) := fun h => any_step hf hp.out h
          have hit : oddF f = true → headE s1 s2 fs = 1 ∧ headO s1 s2 fs = [] := fun h => headE_arg (by rw [any_hit hf h]; simp)
          have hodd : oddF f = (!tokenB f.1.data.toList || (!plainB f.2.data.toList || trimmed f.2.data.toList != f.2.data.toList)) := rfl
          have hT := fun W => (rtoken_any f.1 W (by omega)).mono fun e w' h => (⟨h.1, by rw [← h.2]; exact Below.refl _ _⟩ : e = .returned (.bool (tokenB f.1.data.toList)) ∧ Below W.heap.size W w')
          have hP := fun W => (rcontrol_any f.2 W (by omega)).mono fun e w' h => (⟨h.1, below_of_drewN h.2⟩ : e = .returned (.bool (!plainB f.2.data.toList)) ∧ Below W.heap.size W w')
          have hR := fun W => (rtrim_any f.2 W (by omega)).mono fun e w' h => (⟨h.1, below_of_drewN h.2⟩ : e = .returned (.string ⟨(trimmed f.2.data.toList).toArray⟩) ∧ Below W.heap.size W w')
          have hal : Below W1.heap.size W1 (wr.alloc (.cells #[.string f.1, .string f.2] 63)) := hb.out.alloc hzr _
          have d0 : (wr.alloc (.cells #[.string f.1, .string f.2] 63)).cell? ⟨wr.heap.size, 0, none⟩ = some (.string f.1) := by rw [cell_alloc_at]; rfl
          have d1 : (wr.alloc (.cells #[.string f.1, .string f.2] 63)).cell? ⟨wr.heap.size, 1, none⟩ = some (.string f.2) := by rw [cell_alloc_at]; rfl
          have e0 := fun d os => cell_regrown d0 d os
          have e1 := fun d os => cell_regrown d1 d os
          have HAL := Lib.hid hal
          have HO := Lib.hid hodd
          have HST := Lib.hid hst
          have HIT := Lib.hid hit
          have HTF := Lib.hid hT
          have HPF := Lib.hid hP
          have HRF := Lib.hid hR
          clear hc hf hcells hst hit hodd hT hP hR hfb hal d0 d1
          obtain ⟨f1, f2⟩ := f
          simp only at hc1 hc2 e0 e1 HAL
          generalize tokenB f1.data.toList = tk at *
          generalize plainB f2.data.toList = pl at *
          cases tk
          · have hv := HIT.out (by rw [HO.out]; rfl)
            have HV := Lib.hid hv
            clear hv HO HIT HST
            go_wp2_with fail
            refine wp_region_quiet_below (by kernel_rfl) (by kernel_rfl) ?_
            repeat (any_goals (first | go_big_quiet_step ((first | (go_at_call 75; exact Calls.regrown_of (HTF.out _)) | (go_at_call 77; exact Calls.regrown_of (HPF.out _)) | (go_at_call 78; exact Calls.regrown_of (HRF.out _)))) | quiet_step ((first | (go_at_call 75; exact Calls.regrown_of (HTF.out _)) | (go_at_call 77; exact Calls.regrown_of (HPF.out _)) | (go_at_call 78; exact Calls.regrown_of (HRF.out _))))))
            refine wpQuiet_nil ?_
            intro _ hw'
            obtain ⟨⟨dq, osq⟩, hw''⟩ := hw'
            subst hw''
            have hbz := HAL.out.trans ((below_regrown (wr.alloc (.cells #[.string f1, .string f2] 63)) dq osq).mono HAL.out.size)
            clear e0 e1 hc1 hc2
            generalize Sort.grow (redrawn (wr.alloc (.cells #[.string f1, .string f2] 63)) dq) osq = W9 at *
            have HZ := Lib.hid hbz
            clear hbz
            go_wp2_with fail
            go_ret2
            exact put_none HV.out (B1.out.trans (HZ.out.mono B1.out.size))
          · cases pl
            · have hv := HIT.out (by rw [HO.out]; rfl)
              have HV := Lib.hid hv
              clear hv HO HIT HST
              go_wp2_with fail
              refine wp_region_quiet_below (by kernel_rfl) (by kernel_rfl) ?_
              repeat (any_goals (first | go_big_quiet_step ((first | (go_at_call 75; exact Calls.regrown_of (HTF.out _)) | (go_at_call 77; exact Calls.regrown_of (HPF.out _)) | (go_at_call 78; exact Calls.regrown_of (HRF.out _)))) | quiet_step ((first | (go_at_call 75; exact Calls.regrown_of (HTF.out _)) | (go_at_call 77; exact Calls.regrown_of (HPF.out _)) | (go_at_call 78; exact Calls.regrown_of (HRF.out _))))))
              refine wpQuiet_nil ?_
              intro _ hw'
              obtain ⟨⟨dq, osq⟩, hw''⟩ := hw'
              subst hw''
              have hbz := HAL.out.trans ((below_regrown (wr.alloc (.cells #[.string f1, .string f2] 63)) dq osq).mono HAL.out.size)
              clear e0 e1 hc1 hc2
              generalize Sort.grow (redrawn (wr.alloc (.cells #[.string f1, .string f2] 63)) dq) osq = W9 at *
              have HZ := Lib.hid hbz
              clear hbz
              go_wp2_with fail
              go_ret2
              exact put_none HV.out (B1.out.trans (HZ.out.mono B1.out.size))
            · by_cases htr : trimmed f2.data.toList = f2.data.toList
              · have hv := HST.out (by rw [HO.out, htr]; simp)
                have HV := Lib.hid hv
                rw [htr] at HRF
                clear hv HO htr HIT HST
                go_wp2_with fail
                refine wp_region_quiet_below (by kernel_rfl) (by kernel_rfl) ?_
                repeat (any_goals (first | go_big_quiet_step ((first | (go_at_call 75; exact Calls.regrown_of (HTF.out _)) | (go_at_call 77; exact Calls.regrown_of (HPF.out _)) | (go_at_call 78; exact Calls.regrown_of (HRF.out _)))) | quiet_step ((first | (go_at_call 75; exact Calls.regrown_of (HTF.out _)) | (go_at_call 77; exact Calls.regrown_of (HPF.out _)) | (go_at_call 78; exact Calls.regrown_of (HRF.out _))))))
                refine wpQuiet_nil ?_
                intro _ hw'
                obtain ⟨⟨dq, osq⟩, hw''⟩ := hw'
                subst hw''
                have hbz := HAL.out.trans ((below_regrown (wr.alloc (.cells #[.string f1, .string f2] 63)) dq osq).mono HAL.out.size)
                clear e0 e1 hc1 hc2
                generalize Sort.grow (redrawn (wr.alloc (.cells #[.string f1, .string f2] 63)) dq) osq = W9 at *
                have HZ := Lib.hid hbz
                clear hbz
                go_wp2_with fail
                go_roundw
                case rel => exact ⟨k + 1, by omega, by go_num, HV.out, HZ.out⟩
                case measure => simp [intOf]; omega
              · have hv := HIT.out (by rw [HO.out]; simp [htr])
                have hne : ((⟨(trimmed f2.data.toList).toArray⟩ : ByteArray).toList == f2.toList) = false := by
                  rw [Go.ByteArray.toList_eq, Go.ByteArray.toList_eq]
                  simpa using htr
                have HV := Lib.hid hv
                clear hv HO htr HIT HST
                generalize (⟨(trimmed f2.data.toList).toArray⟩ : ByteArray) = tb at *
                go_wp2_with fail
                refine wp_region_quiet_below (by kernel_rfl) (by kernel_rfl) ?_
                repeat (any_goals (first | go_big_quiet_step ((first | (go_at_call 75; exact Calls.regrown_of (HTF.out _)) | (go_at_call 77; exact Calls.regrown_of (HPF.out _)) | (go_at_call 78; exact Calls.regrown_of (HRF.out _)))) | quiet_step ((first | (go_at_call 75; exact Calls.regrown_of (HTF.out _)) | (go_at_call 77; exact Calls.regrown_of (HPF.out _)) | (go_at_call 78; exact Calls.regrown_of (HRF.out _))))))
                refine wpQuiet_nil ?_
                intro _ hw'
                obtain ⟨⟨dq, osq⟩, hw''⟩ := hw'
                subst hw''
                have hbz := HAL.out.trans ((below_regrown (wr.alloc (.cells #[.string f1, .string f2] 63)) dq osq).mono HAL.out.size)
                clear e0 e1 hc1 hc2
                generalize Sort.grow (redrawn (wr.alloc (.cells #[.string f1, .string f2] 63)) dq) osq = W9 at *
                have HZ := Lib.hid hbz
                clear hbz
                go_wp2_with fail
                go_ret2
                exact put_none HV.out (B1.out.trans (HZ.out.mono B1.out.size))
        · obtain rfl : k = n := by omega
          have han : fs.any oddF = false := by
            have h := hp.out
            rwa [List.take_of_length_le (by rw [HLN.out]; exact Nat.le_refl _)] at h
          have hbad : (!tokenB s1.data.toList || !targB s2.data.toList || fs.any oddF) = false := by rw [han, HTG.out, HTK.out]; rfl
          have HBAD := Lib.hid hbad
          clear han hbad hcells hp
          by_cases hmany : 256 < k
          · have HE := Lib.hid (headE_many HBAD.out (by rw [HLN.out]; exact hmany))
            have hm2 : (256 : Int) < (k : Int) := by omega
            clear hmany
            go_wp2_with fail
            go_ret2
            exact put_none HE.out (B1.out.trans (hb.out.mono B1.out.size))
          · have HN := Lib.hid hmany
            have hm2 : ¬ (256 : Int) < (k : Int) := by omega
            have d0 := (K1.out.below hb.out hz1).cell 0
            have d1 := (K1.out.below hb.out hz1).cell 1
            simp at d0 d1
            clear hmany
            obtain ⟨i0, hi, hz0, hzz1, hz2⟩ := info_parts infoB
            have hA := askB2_data s1 s2
            have hAz := askB2_size s1 s2
            have hAl := askT_len s1 s2
            have HA := Lib.hid hA
            have HAB := Lib.hid (show askB2 s1 s2 = s1 ++ ⟨#[32]⟩ ++ s2 ++ ⟨#[32, 72, 84, 84, 80, 47, 49, 46, 49, 13, 10]⟩ from rfl)
            have hml : (7000000000 : Nat) ≤ maxLen := by unfold maxLen; omega
            have hBr := B1.out.trans (hb.out.mono B1.out.size)
            have hown0 : wr.ownsRow W1.heap.size 5 1 (.slice none 0 0) 0 [] := World.ownsRow_nil _ _ _ _
            have HO0 := Lib.hid hown0
            have hAzz : (s1 ++ ⟨#[32]⟩ ++ s2 ++ ⟨#[32, 72, 84, 84, 80, 47, 49, 46, 49, 13, 10]⟩ : ByteArray).size ≤ 300000 := by
              have : (askB2 s1 s2).size ≤ 300000 := by omega
              exact this
            have HAZZ := Lib.hid hAzz
            have HAL := Lib.hid hAl
            clear hA hAzz hown0 hAz hAl
            go_wp2_with (at_builtin; refine Lib.wpList_append_own_string _ rfl _ _ 23 9 rfl W1.heap.size 5 i0 Tryz.underlying23 Tryz.underlying9 hi hz0 hzz1 hz2 _ 0 _ rfl HO0.out (s1 ++ ⟨#[32]⟩ ++ s2 ++ ⟨#[32, 72, 84, 84, 80, 47, 49, 46, 49, 13, 10]⟩) rfl (by have := HAZZ.out; omega) (by have := HAZZ.out; omega) hb.out.size ?_; intro v1 w2 ho1 hg1 _; have hb2 := below_own hb.out HO0.out hg1 (Nat.le_refl _) (Nat.le_refl _); have ho1 := own_bytes (askT s1 s2) ho1 (by rw [← HA.out, HAB.out]; rfl); obtain ⟨A1, c1, rfl⟩ := own_form ho1)
            have O1 := Lib.hid ho1
            have B2 := Lib.hid hb2
            clear ho1 hb2 hg1 d0 d1 c3 HO0 hBr HAZZ HAB HA hm2 hlt hk
            have hcells := H.out.2
            go_loopw [6, 7] (fun v i wl => ∃ j N : Nat, j ≤ k ∧ i = .int .i64 j ∧ (∃ A9 c9, v = .slice A9 N c9) ∧ Hid (N = (askT s1 s2 ++ fieldsT (fs.take j)).length) ∧ Hid (wl.ownsRow W1.heap.size 5 1 v N (Lib.byteCells (askT s1 s2 ++ fieldsT (fs.take j)))) ∧ Hid (Below W1.heap.size W1 wl)) (fun _ i _ => k - (intOf i).toNat)
            case atStart => exact ⟨0, (askT s1 s2).length, Nat.zero_le _, rfl, ⟨A1, c1, rfl⟩, by simp [fieldsT, Hid], by simpa [fieldsT, Hid] using O1.out, B2.out⟩
            case round =>
              obtain ⟨j, N, hj, rfl, ⟨A9, c9, rfl⟩, hN, hown, hbl⟩ := hrel
              have c3 := (K1.out.below hbl.out hz1).cell 3
              simp at c3
              have hjl : N ≤ 600012 := by
                rw [hN.out, List.length_append]
                have h1 := fieldsT_le fs j
                have h2 := fieldsT_sum fs
                have := HAL.out
                omega
              have HJL := Lib.hid hjl
              by_cases hlt : j < k
              · obtain ⟨b, off, rfl, hbb, hc⟩ := hcells (by omega)
                obtain ⟨f, hf⟩ : ∃ f, fs[j]? = some f := ⟨fs[j]'(by rw [HLN.out]; exact hlt), List.getElem?_eq_getElem (by rw [HLN.out]; exact hlt)⟩
                have hBw := B1.out.trans (hbl.out.mono B1.out.size)
                have hc1 := (hBw.cell (p := ⟨b, off + j * 2, none⟩) hbb).trans (hc j f hf).1
                have hc2 := (hBw.cell (p := ⟨b, off + j * 2 + 1, none⟩) hbb).trans (hc j f hf).2
                have hfb := (big_parts (m := 0) (fs := fs) (by unfold bigB; exact decide_eq_false (by omega))).2 f (List.mem_of_getElem? hf)
                have hfb1 := hfb.1
                have hfb2 := hfb.2
                have hst := fieldsT_succ fs j f hf
                have hfd := fieldB_data f
                have hfz : (fieldB f).size ≤ 400004 := by rw [fieldB_size, fieldT_len]; omega
                have hjoin : Lib.byteCells (askT s1 s2 ++ fieldsT (fs.take j)) ++ Lib.strCells (fieldB f) = Lib.byteCells (askT s1 s2 ++ fieldsT (fs.take (j + 1))) := by
                  show _ ++ Lib.byteCells _ = _
                  rw [← Lib.byteCells_append, hfd, hst, List.append_assoc]
                obtain ⟨N3, hN3⟩ : ∃ N3, N3 = (askT s1 s2 ++ fieldsT (fs.take (j + 1))).length := ⟨_, rfl⟩
                have hln : 65536 < N3 → headE s1 s2 fs = 3 ∧ headO s1 s2 fs = [] := fun hx => headE_long HBAD.out (by rw [HLN.out]; have := HN.out; omega) (by
                  have := fieldsT_le fs (j + 1)
                  rw [hN3, List.length_append] at hx
                  rw [headT_len]
                  omega)
                have hb3x : N3 ≤ 1000016 := by
                  have := congrArg List.length hjoin
                  rw [List.length_append, Lib.byteCells_length, Lib.byteCells_length, Lib.strCells_length, ← hN3, ← hN.out] at this
                  omega
                have HN3 := Lib.hid hN3
                have key : ∀ W, Below W1.heap.size W1 W → (W.cell? ⟨w.heap.size, 3, none⟩ = some (.slice (some ⟨b, off, none⟩) k c) ∧ W.cell? ⟨b, off + j * 2, none⟩ = some (.string f.1) ∧ W.cell? ⟨b, off + j * 2 + 1, none⟩ = some (.string f.2)) := fun W hW => by
                  have h1 := (K1.out.below hW hz1).cell 3
                  have h2 := B1.out.trans (hW.mono B1.out.size)
                  exact ⟨h1, (h2.cell (p := ⟨b, off + j * 2, none⟩) hbb).trans (hc j f hf).1, (h2.cell (p := ⟨b, off + j * 2 + 1, none⟩) hbb).trans (hc j f hf).2⟩
                have KEY := Lib.hid key
                have HJ := Lib.hid hjoin
                have HLN2 := Lib.hid hln
                have HFZ := Lib.hid hfz
                have HFB := Lib.hid (show fieldB f = f.1 ++ ⟨#[58, 32]⟩ ++ f.2 ++ ⟨#[13, 10]⟩ from rfl)
                clear hc hf hcells hst hfd hfz hfb hjoin hln hjl key hN3
                obtain ⟨f1, f2⟩ := f
                simp only at hc1 hc2 hfb1 hfb2 KEY
                go_wp2_with fail
                have hsz := hbl.out.size
                have q1 : ¬ 9223372036854775807 < f1.size + 2 := by omega
                have q2 : ¬ 9223372036854775807 < f1.size + 2 + f2.size := by omega
                have q3 : ¬ 9223372036854775807 < f1.size + 2 + f2.size + 2 := by omega
                go_region_held3 (fun W => W.cell? ⟨w.heap.size, 3, none⟩ = some (.slice (some ⟨b, off, none⟩) k c) ∧ W.cell? ⟨b, off + j * 2, none⟩ = some (.string f1) ∧ W.cell? ⟨b, off + j * 2 + 1, none⟩ = some (.string f2))
                  (first | go_keep | exact KEY.out _ (by assumption))
                  ((refine step_append_str (by rfl) _ _ 23 9 (by rfl) W1.heap.size 5 i0 Tryz.underlying23 Tryz.underlying9 hi hz0 hzz1 hz2 _ _ _ (by rfl) hown.out.drew (f1 ++ ⟨#[58, 32]⟩ ++ f2 ++ ⟨#[13, 10]⟩) (by rfl) (by have := HFZ.out; rw [HFB.out] at this; have := HJL.out; omega) (by have := HFZ.out; rw [HFB.out] at this; have := HJL.out; omega) hsz ?_; intro v3 w3 ho3 hg3; have hb3 := below_own (Below.drew hbl.out) hown.out.drew hg3 (Nat.le_refl _) (Nat.le_refl _); have ho3 := own_bytes (askT s1 s2 ++ fieldsT (fs.take (j + 1))) ho3 (by rw [← HJ.out, HFB.out]); rw [← HN3.out] at ho3; obtain ⟨A8, c8, rfl⟩ := own_form ho3; have HO3 := Lib.hid ho3; have HB3 := Lib.hid hb3; clear ho3 hg3))
                all_goals
                  by_cases hx : 65536 < N3
                  · have HE := Lib.hid (HLN2.out hx)
                    have hx2 : (65536 : Int) < (N3 : Int) := by omega
                    clear hx hb3
                    go_wp2_with fail
                    go_ret2
                    exact put_none HE.out (B1.out.trans (HB3.out.mono B1.out.size))
                  · have hx2 : ¬ (65536 : Int) < (N3 : Int) := by omega
                    clear hx hb3
                    go_wp2_with fail
                    go_roundw
                    case rel => exact ⟨j + 1, N3, by omega, by go_num, ⟨_, _, rfl⟩, HN3.out, HO3.out, HB3.out⟩
                    case measure => simp [intOf]; omega
              · obtain rfl : j = k := by omega
                have hN2 : N + 2 = (headT s1 s2 fs).length := by
                  have h := hN.out
                  rw [List.take_of_length_le (by rw [HLN.out]; exact Nat.le_refl _), List.length_append] at h
                  rw [headT_len]
                  omega
                have hcs : Lib.byteCells (askT s1 s2 ++ fieldsT (fs.take j)) ++ [.int .u8 13, .int .u8 10] = Lib.byteCells (headT s1 s2 fs) := by
                  rw [List.take_of_length_le (by rw [HLN.out]; exact Nat.le_refl _)]
                  show _ ++ Lib.byteCells [13, 10] = _
                  rw [← Lib.byteCells_append]
                  rfl
                have hlong : 65536 < N + 2 → headE s1 s2 fs = 3 ∧ headO s1 s2 fs = [] := fun hx => headE_long HBAD.out (by rw [HLN.out]; have := HN.out; omega) (by rw [← hN2]; exact hx)
                have hok : N + 2 ≤ 65536 → headE s1 s2 fs = 0 ∧ headO s1 s2 fs = headT s1 s2 fs := fun hx => headE_ok HBAD.out (by rw [HLN.out]; have := HN.out; omega) (by rw [← hN2]; exact hx)
                have HN2 := Lib.hid hN2
                have HCS := Lib.hid hcs
                have HLO := Lib.hid hlong
                have HOK := Lib.hid hok
                have hsz := hbl.out.size
                clear hN2 hcs hlong hok hcells
                obtain ⟨M, hM⟩ : ∃ M, M = N + 2 := ⟨_, rfl⟩
                have HM := Lib.hid hM
                have hMb : M ≤ 700000 := by omega
                by_cases hx : 65536 < M
                · have HE := Lib.hid (HLO.out (by rw [← hM]; exact hx))
                  have hx2 : (65536 : Int) < (M : Int) := by omega
                  clear hx hM
                  go_wp2_with (at_builtin; refine wpList_append_any _ rfl _ _ 23 rfl W1.heap.size 5 i0 _ 1 1 Tryz.underlying23 hi hz0 hzz1 hz2 rfl (by decide) (.slice A9 N c9) N _ rfl (hown.out.alloc _) _ (some ⟨wr.heap.size, 0, none⟩) 2 _ _ rfl (reads_new wr _ _ _) (by simp [Value.oneCell']) (by omega) (by omega) (by simp; omega) ?_; intro v3 w4 ho3 hg3 _; have hb3 := below_own (hbl.out.alloc hsz _) (hown.out.alloc _) hg3 (Nat.le_refl _) (Nat.le_refl _); rw [HCS.out, ← HM.out] at ho3; obtain ⟨A8, c8, rfl⟩ := own_form ho3; have HO3 := Lib.hid ho3; have HB3 := Lib.hid hb3; clear ho3 hg3 hb3)
                  go_ret2
                  exact put_none HE.out (B1.out.trans (HB3.out.mono B1.out.size))
                · have HE := Lib.hid (HOK.out (by rw [← hM]; omega))
                  have hx2 : ¬ (65536 : Int) < (M : Int) := by omega
                  clear hx hM
                  go_wp2_with (at_builtin; refine wpList_append_any _ rfl _ _ 23 rfl W1.heap.size 5 i0 _ 1 1 Tryz.underlying23 hi hz0 hzz1 hz2 rfl (by decide) (.slice A9 N c9) N _ rfl (hown.out.alloc _) _ (some ⟨wr.heap.size, 0, none⟩) 2 _ _ rfl (reads_new wr _ _ _) (by simp [Value.oneCell']) (by omega) (by omega) (by simp; omega) ?_; intro v3 w4 ho3 hg3 _; have hb3 := below_own (hbl.out.alloc hsz _) (hown.out.alloc _) hg3 (Nat.le_refl _) (Nat.le_refl _); rw [HCS.out, ← HM.out] at ho3; obtain ⟨A8, c8, rfl⟩ := own_form ho3; have HO3 := Lib.hid ho3; have HB3 := Lib.hid hb3; clear ho3 hg3 hb3)
                  go_ret2
                  exact put_some HE.out (by rw [Lib.byteCells_length]; exact own_bytes _ (ownsRow_base HO3.out B1.out.size) rfl) (B1.out.trans (HB3.out.mono B1.out.size))
end Go.Proofs.YtonlfplloenfcaaGreatDoor
