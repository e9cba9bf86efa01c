/-
  ascii.Trim; heads.odd; slices.ContainsFunc over fields.
-/
import Derived.Test.YtonlfplloenfcaaGreatDoorToken
import Derived.Test.YtonlfplloenfcaaGreatDoorShelf
import Derived.Test.YtonlfplloenfcaaGreatDoorPutSpecEtc
import Derived.Test.YtonlfplloenfcaaGreatDoorHeldEtc
import Derived.Lib.QuietBelow
namespace Go.Proofs.YtonlfplloenfcaaGreatDoor
open Go.RowKit

theorem trim_any (s : ByteArray) (w : World) (hs : s.size ≤ 140737488355328) :
   Calls Tryz.prog 147 #[.string s] w fun e w' => e = .returned (.string ⟨(trimmed s.data.toList).toArray⟩) ∧ Below w.heap.size w w' := by
  have HC := Lib.hid (Tryz.strings_Trim s ⟨#[32, 9]⟩ w (by omega) (by decide) (ascii_of_all (by decide)))
  go_enter Tryz.func147, Tryz.ntmps147
  go_wp2_with fail
  refine HC.out.mono ?_
  rintro e w' ⟨rfl, hb⟩
  go_wp2_with fail
  go_ret
  exact ⟨rfl, hb⟩
theorem below_of_drewN {w w' : World} (h : ∃ q, w' = w.drewN q) : Below w.heap.size w w' := by
  obtain ⟨q, rfl⟩ := h
  exact below_drewN (Below.refl _ _) q
set_option maxRecDepth 100000 in
theorem odd_any (f : Fd) (w : World) (h1 : f.1.size ≤ 140737488355328) (h2 : f.2.size ≤ 140737488355328) :
   Calls Tryz.prog 71 #[.agg #[.string f.1, .string f.2]] w fun e w' => e = .returned (.bool (oddF f)) ∧ Below w.heap.size w w' := by
  obtain ⟨f1, f2⟩ := f
  simp only at h1 h2 ⊢
  have hodd : oddF (f1, f2) = (!tokenB f1.data.toList || (!plainB f2.data.toList || trimmed f2.data.toList != f2.data.toList)) := rfl
  have hT := fun W => token_any f1 W h1
  have hP := fun W => (control_any f2 W h2).mono fun e w' h => (⟨h.1, below_of_drewN h.2⟩ : e = .returned (.bool (!plainB f2.data.toList)) ∧ Below W.heap.size W w')
  have hR := fun W => trim_any f2 W h2
  have hB0 : Below w.heap.size w (w.alloc (.cells #[.string f1, .string f2] 63)) := (Below.refl _ _).alloc (Nat.le_refl _) _
  have d0 : (w.alloc (.cells #[.string f1, .string f2] 63)).cell? ⟨w.heap.size, 0, none⟩ = some (.string f1) := by rw [cell_alloc_at]; rfl
  have d1 : (w.alloc (.cells #[.string f1, .string f2] 63)).cell? ⟨w.heap.size, 1, none⟩ = some (.string f2) := by rw [cell_alloc_at]; rfl
  have e0 := fun d os => cell_regrown d0 d os
  have e1 := fun d os => cell_regrown d1 d os
  have B0 := Lib.hid hB0
  clear hB0 d0 d1
  have HT := Lib.hid hT
  have HP := Lib.hid hP
  have HR := Lib.hid hR
  have HO := Lib.hid hodd
  clear hT hP hR hodd
  generalize tokenB f1.data.toList = tk at *
  generalize plainB f2.data.toList = pl at *
  have fin : ∀ (b : Bool) (W : World), oddF (f1, f2) = b → Below (w.alloc (.cells #[.string f1, .string f2] 63)).heap.size (w.alloc (.cells #[.string f1, .string f2] 63)) W →
      Ending.returned (Value.bool b) = Ending.returned (Value.bool (oddF (f1, f2))) ∧ Below w.heap.size w W := fun b W h hb => ⟨by rw [h], B0.out.trans (hb.mono B0.out.size)⟩
  have FIN := Lib.hid fin
  clear fin B0
  cases tk
  · have hv : oddF (f1, f2) = true := by rw [HO.out]; rfl
    have HV := Lib.hid hv
    clear hv HO
    go_enter Tryz.func71, Tryz.ntmps71
    go_wp2_with fail
    refine wp_region_quiet_below (by kernel_rfl) (by kernel_rfl) ?_
    repeat (any_goals (first | go_big_quiet_step ((first | (go_at_call 68; exact Calls.regrown_of (HT.out _)) | (go_at_call 146; exact Calls.regrown_of (HP.out _)) | (go_at_call 147; exact Calls.regrown_of (HR.out _)))) | quiet_step ((first | (go_at_call 68; exact Calls.regrown_of (HT.out _)) | (go_at_call 146; exact Calls.regrown_of (HP.out _)) | (go_at_call 147; exact Calls.regrown_of (HR.out _))))))
    refine wpQuiet_nil ?_
    intro _ hw'
    obtain ⟨⟨dq, osq⟩, hw''⟩ := hw'
    subst hw''
    have hbz := below_regrown (w.alloc (.cells #[.string f1, .string f2] 63)) dq osq
    have HZ := Lib.hid hbz
    clear hbz
    go_wp2_with fail
    go_ret
    exact FIN.out _ _ HV.out HZ.out
  · cases pl
    · have hv : oddF (f1, f2) = true := by rw [HO.out]; rfl
      have HV := Lib.hid hv
      clear hv HO
      go_enter Tryz.func71, Tryz.ntmps71
      go_wp2_with fail
      refine wp_region_quiet_below (by kernel_rfl) (by kernel_rfl) ?_
      repeat (any_goals (first | go_big_quiet_step ((first | (go_at_call 68; exact Calls.regrown_of (HT.out _)) | (go_at_call 146; exact Calls.regrown_of (HP.out _)) | (go_at_call 147; exact Calls.regrown_of (HR.out _)))) | quiet_step ((first | (go_at_call 68; exact Calls.regrown_of (HT.out _)) | (go_at_call 146; exact Calls.regrown_of (HP.out _)) | (go_at_call 147; exact Calls.regrown_of (HR.out _))))))
      refine wpQuiet_nil ?_
      intro _ hw'
      obtain ⟨⟨dq, osq⟩, hw''⟩ := hw'
      subst hw''
      have hbz := below_regrown (w.alloc (.cells #[.string f1, .string f2] 63)) dq osq
      have HZ := Lib.hid hbz
      clear hbz
      go_wp2_with fail
      go_ret
      exact FIN.out _ _ HV.out HZ.out
    · by_cases htr : trimmed f2.data.toList = f2.data.toList
      · have hv : oddF (f1, f2) = false := by rw [HO.out, htr]; simp
        have HV := Lib.hid hv
        rw [htr] at HR
        clear hv HO htr
        go_enter Tryz.func71, Tryz.ntmps71
        go_wp2_with fail
        refine wp_region_quiet_below (by kernel_rfl) (by kernel_rfl) ?_
        repeat (any_goals (first | go_big_quiet_step ((first | (go_at_call 68; exact Calls.regrown_of (HT.out _)) | (go_at_call 146; exact Calls.regrown_of (HP.out _)) | (go_at_call 147; exact Calls.regrown_of (HR.out _)))) | quiet_step ((first | (go_at_call 68; exact Calls.regrown_of (HT.out _)) | (go_at_call 146; exact Calls.regrown_of (HP.out _)) | (go_at_call 147; exact Calls.regrown_of (HR.out _))))))
        refine wpQuiet_nil ?_
        intro _ hw'
        obtain ⟨⟨dq, osq⟩, hw''⟩ := hw'
        subst hw''
        have hbz := below_regrown (w.alloc (.cells #[.string f1, .string f2] 63)) dq osq
        have HZ := Lib.hid hbz
        clear hbz
        go_wp2_with fail
        go_ret
        exact FIN.out _ _ HV.out HZ.out
      · have hv : oddF (f1, f2) = true := by rw [HO.out]; simp [htr]
        have hne : ((⟨(trimmed f2.data.toList).toArray⟩ : ByteArray).toList == f2.toList) = false := by
          rw [Go.ByteArray.toList_eq, Go.ByteArray.toList_eq]
          simpa using htr
        have HV := Lib.hid hv
        clear hv HO htr
        generalize (⟨(trimmed f2.data.toList).toArray⟩ : ByteArray) = tb at *
        go_enter Tryz.func71, Tryz.ntmps71
        go_wp2_with fail
        refine wp_region_quiet_below (by kernel_rfl) (by kernel_rfl) ?_
        repeat (any_goals (first | go_big_quiet_step ((first | (go_at_call 68; exact Calls.regrown_of (HT.out _)) | (go_at_call 146; exact Calls.regrown_of (HP.out _)) | (go_at_call 147; exact Calls.regrown_of (HR.out _)))) | quiet_step ((first | (go_at_call 68; exact Calls.regrown_of (HT.out _)) | (go_at_call 146; exact Calls.regrown_of (HP.out _)) | (go_at_call 147; exact Calls.regrown_of (HR.out _))))))
        refine wpQuiet_nil ?_
        intro _ hw'
        obtain ⟨⟨dq, osq⟩, hw''⟩ := hw'
        subst hw''
        have hbz := below_regrown (w.alloc (.cells #[.string f1, .string f2] 63)) dq osq
        have HZ := Lib.hid hbz
        clear hbz
        go_wp2_with fail
        go_ret
        exact FIN.out _ _ HV.out HZ.out
end Go.Proofs.YtonlfplloenfcaaGreatDoor
