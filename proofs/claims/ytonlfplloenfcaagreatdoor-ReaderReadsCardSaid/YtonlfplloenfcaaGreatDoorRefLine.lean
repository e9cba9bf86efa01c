/-
  footmanref12.Line: the field that a line is.
-/
import Derived.Test.YtonlfplloenfcaaGreatDoorResultsEtc
import Derived.Test.YtonlfplloenfcaaGreatDoorStatSpecEtc
import Derived.Test.YtonlfplloenfcaaGreatDoorMoreSpecEtc
import Derived.Test.YtonlfplloenfcaaGreatDoorOddEtc
import Derived.Test.YtonlfplloenfcaaGreatDoorHeadSpec
import Derived.Lib.QuietBelow
import Derived.Deep.RegionHeld3
import Derived.Deep.DrawnRows
namespace Go.Proofs.YtonlfplloenfcaaGreatDoor
open Go.RowKit
attribute [local go_sem] Oper.semAt_some

/-- What a line answers. -/
def lineV (l : List UInt8) : Value := .agg #[.string (if fieldOK l then (fieldOf l).1 else ⟨#[]⟩), .string (if fieldOK l then (fieldOf l).2 else ⟨#[]⟩)]

set_option maxRecDepth 100000 in
theorem rline_any (s : ByteArray) (w : World) (hs : s.size ≤ 1000000) :
    Calls Tryz.prog 114 #[.string s] w fun e w' => e = .returned (.tuple #[lineV s.data.toList, .bool (fieldOK s.data.toList)]) ∧ Below w.heap.size w w' := by
  obtain ⟨V, hV⟩ : ∃ V, V = lineV s.data.toList := ⟨_, rfl⟩
  obtain ⟨ok, hok⟩ : ∃ ok, ok = fieldOK s.data.toList := ⟨_, rfl⟩
  rw [← hV, ← hok]
  have HV := Lib.hid hV
  have HOK := Lib.hid hok
  clear hV hok
  go_enter Tryz.func114, Tryz.ntmps114
  go_wp2_with fail
  have hls : s.data.toList.length = s.size := rfl
  have hz1 : w.heap.size < (w.alloc (.cells #[.string ⟨#[]⟩, .string ⟨#[]⟩] 63)).heap.size := by simp
  have hB0 : Below w.heap.size w (w.alloc (.cells #[.string ⟨#[]⟩, .string ⟨#[]⟩] 63)) := (Below.refl _ _).alloc (Nat.le_refl _) _
  have hk0 := Blk.new w 63 #[.string ⟨#[]⟩, .string ⟨#[]⟩]
  generalize w.alloc (.cells #[.string ⟨#[]⟩, .string ⟨#[]⟩] 63) = W1 at *
  have B0 := Lib.hid hB0
  have K0 := Lib.hid hk0
  clear hB0 hk0
  go_loopw [4] (fun i wr => ∃ k : Nat, k ≤ s.size ∧ i = .int .i64 k ∧ Hid (∀ j, j < k → s.data.toList[j]? ≠ some 58) ∧ wr = W1)
    (fun i _ => s.size - (intOf i).toNat)
  case atStart => exact ⟨0, Nat.zero_le _, rfl, fun j hj => by omega, rfl⟩
  case round =>
    obtain ⟨k, hk, rfl, hp, hw⟩ := hrel
    subst hw
    by_cases hlt : k < s.size
    · have hb := byte_at s k hlt
      obtain ⟨x, hx⟩ : ∃ x, x = s[k] := ⟨_, rfl⟩
      rw [← hx] at hb
      have HB := Lib.hid hb
      clear hb
      cases e0 : ((x.toNat : Int) == 58)
      · have hx' : ((s[k].toNat : Int) == 58) = false := by rw [← hx]; exact e0
        have hst : Hid (∀ j, j < k + 1 → s.data.toList[j]? ≠ some 58) := fun j hj => by
          by_cases hjk : j < k
          · exact hp.out j hjk
          · obtain rfl : j = k := by omega
            rw [HB.out]
            intro h
            injection h with h
            rw [h] at e0
            cases e0
        have HST := Lib.hid hst
        clear hst hx
        go_wp2_with fail
        go_roundw
        case rel => exact ⟨k + 1, by omega, by go_num, HST.out, by first | rfl | trivial⟩
        case measure => simp [intOf]; omega
      · have hx58 : x = 58 := by
          have h : (x.toNat : Int) = 58 := by simpa using e0
          have : x.toNat = 58 := by omega
          exact UInt8.toNat_inj.1 this
        have hca : colonAt s.data.toList = (k : Int) := index_one_first (by rw [← hx58]; exact HB.out) hp.out
        have hfo : fieldOK s.data.toList = (tokenB (s.data.toList.take k) && plainB (s.data.toList.drop (k + 1))) := by
          unfold fieldOK
          rw [hca, Int.toNat_natCast, decide_eq_true (by omega)]
          rfl
        have hff : fieldOf s.data.toList = (⟨(s.data.toList.take k).toArray⟩, ⟨(trimmed (s.data.toList.drop (k + 1))).toArray⟩) := by
          unfold fieldOf
          rw [hca, Int.toNat_natCast]
        have ex1 : (s.extract 0 k).data.toList = s.data.toList.take k := by rw [Lib.extract_data]; simp
        have ex2 : (s.extract (k + 1) s.size).data.toList = s.data.toList.drop (k + 1) := by
          rw [Lib.extract_data]
          exact List.take_of_length_le (by rw [List.length_drop]; omega)
        have hT := fun W => rtoken_any (s.extract 0 k) W (by have := extract_size_le s 0 k; omega)
        have hP := fun W => rcontrol_any (s.extract (k + 1) s.size) W (by have := extract_size_le s (k + 1) s.size; omega)
        have hR := fun W => rtrim_any (s.extract (k + 1) s.size) W (by have := extract_size_le s (k + 1) s.size; omega)
        have hke : ((k : Int) == (s.size : Int)) = false := by simp; omega
        rw [← ex1, ← ex2] at hfo hff
        have hbyte : ((s[k].toNat : Int) == 58) = true := by rw [← hx]; exact e0
        have EX := Lib.hid ex1
        generalize hta : s.extract 0 k = ta at *
        generalize htb : s.extract (k + 1) s.size = tb at *
        generalize tokenB ta.data.toList = tk at *
        generalize hpl : plainB tb.data.toList = pl at *
        have HTF := Lib.hid hT
        have HPF := Lib.hid hP
        have HRF := Lib.hid hR
        have HFO := Lib.hid hfo
        have HFF := Lib.hid hff
        have HP := Lib.hid hp
        clear hT hP hR hfo hff ex1 ex2 hca hp
        cases tk
        · have hok : ok = false := by rw [HOK.out, HFO.out]; rfl
          have hV : V = .agg #[.string ⟨#[]⟩, .string ⟨#[]⟩] := by rw [HV.out]; unfold lineV; rw [← HOK.out, hok]; rfl
          have HV2 := Lib.hid hV
          subst hok
          clear hV
          go_wp2_with fail
          refine (HTF.out _).mono ?_
          rintro e w1 ⟨rfl, rfl⟩
          have c0 := (K0.out).cell 0
          have c1 := (K0.out).cell 1
          simp at c0 c1
          have f0 := (K0.out).frozen 0
          have f1 := (K0.out).frozen 1
          go_wp2_with fail
          exact bodyPost_ret (results_row_tmp rfl _ _ w.heap.size 63 _ (0, 0) _ rfl (set_two (K0.out) (.string ⟨#[]⟩) (.string ⟨#[]⟩)) Tryz.underlying63 rfl infoF2) rfl ⟨by rw [HV2.out]; rfl, below_two (B0.out) (Nat.le_refl _) _ _⟩
        · cases pl
          · have hok : ok = false := by rw [HOK.out, HFO.out]; rfl
            have hV : V = .agg #[.string ⟨#[]⟩, .string ⟨#[]⟩] := by rw [HV.out]; unfold lineV; rw [← HOK.out, hok]; rfl
            have HV2 := Lib.hid hV
            subst hok
            clear hV
            go_wp2_with fail
            refine (HTF.out _).mono ?_
            rintro e w1 ⟨rfl, rfl⟩
            go_wp2_with fail
            refine (HPF.out _).mono ?_
            rintro e w1 ⟨rfl, q, rfl⟩
            have c0 := (K0.out.drewN q).cell 0
            have c1 := (K0.out.drewN q).cell 1
            simp at c0 c1
            have f0 := (K0.out.drewN q).frozen 0
            have f1 := (K0.out.drewN q).frozen 1
            go_wp2_with fail
            exact bodyPost_ret (results_row_tmp rfl _ _ w.heap.size 63 _ (0, 0) _ rfl (set_two (K0.out.drewN q) (.string ⟨#[]⟩) (.string ⟨#[]⟩)) Tryz.underlying63 rfl infoF2) rfl ⟨by rw [HV2.out]; rfl, below_two (below_drewN B0.out q) (Nat.le_refl _) _ _⟩
          · have hok : ok = true := by rw [HOK.out, HFO.out]; rfl
            have hV : V = .agg #[.string ta, .string ⟨(trimmed tb.data.toList).toArray⟩] := by rw [HV.out]; unfold lineV; rw [← HOK.out, hok, HFF.out]; simp
            have HV2 := Lib.hid hV
            subst hok
            clear hV
            go_wp2_with fail
            refine (HTF.out _).mono ?_
            rintro e w1 ⟨rfl, rfl⟩
            go_wp2_with fail
            refine (HPF.out _).mono ?_
            rintro e w1 ⟨rfl, q, rfl⟩
            go_wp2_with fail
            have hz2 : w.heap.size < (wr.drewN q).heap.size := hz1
            have KQ := Lib.hid (K0.out.drewN q)
            have BQ := Lib.hid (below_drewN B0.out q)
            generalize wr.drewN q = W2 at *
            have hRB : ∀ W, Calls Tryz.prog 78 #[.string tb] W fun e w' => e = .returned (.string ⟨(trimmed tb.data.toList).toArray⟩) ∧ Below W.heap.size W w' := fun W => (HRF.out W).mono fun e w' h => ⟨h.1, below_of_drewN h.2⟩
            have HRB := Lib.hid hRB
            clear hRB HRF HTF HPF
            have g1 : IntKind.i64.wrap ((k : Int) + 1) = (k : Int) + 1 := Go.IntWalk.i64_in _ ⟨by omega, by omega⟩
            have g2 : (k : Int) + 1 ≤ (s.size : Int) := by omega
            have g3 : (0 : Int) ≤ (k : Int) + 1 := by omega
            have g4 : ((k : Int) + 1).toNat = k + 1 := by omega
            go_region_with ((go_at_call 78; refine (HRB.out _).mono ?_; rintro e w1 ⟨rfl, hb1⟩; have hk9 := KQ.out.below (below_undrew hb1) hz2; have c0 := hk9.cell 0; have c1 := hk9.cell 1; simp at c0 c1; have f0 := hk9.frozen 0; have f1 := hk9.frozen 1))
            have hbw := BQ.out.trans ((below_undrew hb1).mono BQ.out.size)
            go_wp2_with fail
            exact bodyPost_ret (results_row_tmp rfl _ _ w.heap.size 63 _ (0, 0) _ rfl (set_two hk9 _ _) Tryz.underlying63 rfl infoF2) rfl ⟨by rw [HV2.out]; rfl, below_two hbw (Nat.le_refl _) _ _⟩
    · obtain rfl : k = s.size := by omega
      have hca : colonAt s.data.toList = -1 := index_one_none fun j hj => hp.out j hj
      have hfo : fieldOK s.data.toList = false := by
        unfold fieldOK
        rw [hca]
        rfl
      have hok : ok = false := by rw [HOK.out, hfo]
      have hV : V = .agg #[.string ⟨#[]⟩, .string ⟨#[]⟩] := by rw [HV.out]; unfold lineV; rw [hfo]; rfl
      have HV2 := Lib.hid hV
      subst hok
      clear hV hfo hca hp
      have c0 := (K0.out).cell 0
      have c1 := (K0.out).cell 1
      simp at c0 c1
      have f0 := (K0.out).frozen 0
      have f1 := (K0.out).frozen 1
      go_wp2_with fail
      exact bodyPost_ret (results_row_tmp rfl _ _ w.heap.size 63 _ (0, 0) _ rfl (set_two (K0.out) (.string ⟨#[]⟩) (.string ⟨#[]⟩)) Tryz.underlying63 rfl infoF2) rfl ⟨by rw [HV2.out]; rfl, below_two (B0.out) (Nat.le_refl _) _ _⟩
end Go.Proofs.YtonlfplloenfcaaGreatDoor
