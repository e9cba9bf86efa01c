/-
  footmanref12.Line: the field that a line is.
  footmanref12.asked: the method and target of a request's first line.
-/
import Derived.Test.YtonlfplloenfcaaGreatDoorResultsEtc
import Derived.Test.YtonlfplloenfcaaGreatDoorBackSpecEtc
import Derived.Test.YtonlfplloenfcaaGreatDoorMoreSpecEtc
import Derived.Test.YtonlfplloenfcaaGreatDoorOddEtc
import Derived.Test.YtonlfplloenfcaaGreatDoorPutSpecEtc
import Derived.Lib.QuietBelow
import Derived.Deep.RegionHeld3
import Derived.Deep.DrawnRows
import Derived.Lib.Bytes2
namespace Go.Proofs.YtonlfplloenfcaaGreatDoor
open Go.RowKit
attribute [local go_sem] Oper.semAt_some

/-- What a line answers. -/
def lineV (l : List UInt8) : Value := .agg #[.string (if fieldOK l then (fieldOf l).1 else ⟨#[]⟩), .string (if fieldOK l then (fieldOf l).2 else ⟨#[]⟩)]

set_option maxRecDepth 100000 in
theorem rline_any (s : ByteArray) (w : World) (hs : s.size ≤ 1000000) :
    Calls Tryz.prog 114 #[.string s] w fun e w' => e = .returned (.tuple #[lineV s.data.toList, .bool (fieldOK s.data.toList)]) ∧ Below w.heap.size w w' := by
  obtain ⟨V, hV⟩ : ∃ V, V = lineV s.data.toList := ⟨_, rfl⟩
  obtain ⟨ok, hok⟩ : ∃ ok, ok = fieldOK s.data.toList := ⟨_, rfl⟩
  rw [← hV, ← hok]
  have HV := Lib.hid hV
  have HOK := Lib.hid hok
  clear hV hok
  go_enter Tryz.func114, Tryz.ntmps114
  go_wp2_with fail
  have hls : s.data.toList.length = s.size := rfl
  have hz1 : w.heap.size < (w.alloc (.cells #[.string ⟨#[]⟩, .string ⟨#[]⟩] 63)).heap.size := by simp
  have hB0 : Below w.heap.size w (w.alloc (.cells #[.string ⟨#[]⟩, .string ⟨#[]⟩] 63)) := (Below.refl _ _).alloc (Nat.le_refl _) _
  have hk0 := Blk.new w 63 #[.string ⟨#[]⟩, .string ⟨#[]⟩]
  generalize w.alloc (.cells #[.string ⟨#[]⟩, .string ⟨#[]⟩] 63) = W1 at *
  have B0 := Lib.hid hB0
  have K0 := Lib.hid hk0
  clear hB0 hk0
  go_loopw [4] (fun i wr => ∃ k : Nat, k ≤ s.size ∧ i = .int .i64 k ∧ Hid (∀ j, j < k → s.data.toList[j]? ≠ some 58) ∧ wr = W1)
    (fun i _ => s.size - (intOf i).toNat)
  case atStart => exact ⟨0, Nat.zero_le _, rfl, fun j hj => by omega, rfl⟩
  case round =>
    obtain ⟨k, hk, rfl, hp, hw⟩ := hrel
    subst hw
    by_cases hlt : k < s.size
    · have hb := byte_at s k hlt
      obtain ⟨x, hx⟩ : ∃ x, x = s[k] := ⟨_, rfl⟩
      rw [← hx] at hb
      have HB := Lib.hid hb
      clear hb
      cases e0 : ((x.toNat : Int) == 58)
      · have hx' : ((s[k].toNat : Int) == 58) = false := by rw [← hx]; exact e0
        have hst : Hid (∀ j, j < k + 1 → s.data.toList[j]? ≠ some 58) := fun j hj => by
          by_cases hjk : j < k
          · exact hp.out j hjk
          · obtain rfl : j = k := by omega
            rw [HB.out]
            intro h
            injection h with h
            rw [h] at e0
            cases e0
        have HST := Lib.hid hst
        clear hst hx
        go_wp2_with fail
        go_roundw
        case rel => exact ⟨k + 1, by omega, by go_num, HST.out, by first | rfl | trivial⟩
        case measure => simp [intOf]; omega
      · have hx58 : x = 58 := by
          have h : (x.toNat : Int) = 58 := by simpa using e0
          have : x.toNat = 58 := by omega
          exact UInt8.toNat_inj.1 this
        have hca : colonAt s.data.toList = (k : Int) := index_one_first (by rw [← hx58]; exact HB.out) hp.out
        have hfo : fieldOK s.data.toList = (tokenB (s.data.toList.take k) && plainB (s.data.toList.drop (k + 1))) := by
          unfold fieldOK
          rw [hca, Int.toNat_natCast, decide_eq_true (by omega)]
          rfl
        have hff : fieldOf s.data.toList = (⟨(s.data.toList.take k).toArray⟩, ⟨(trimmed (s.data.toList.drop (k + 1))).toArray⟩) := by
          unfold fieldOf
          rw [hca, Int.toNat_natCast]
        have ex1 : (s.extract 0 k).data.toList = s.data.toList.take k := by rw [Lib.extract_data]; simp
        have ex2 : (s.extract (k + 1) s.size).data.toList = s.data.toList.drop (k + 1) := by
          rw [Lib.extract_data]
          exact List.take_of_length_le (by rw [List.length_drop]; omega)
        have hT := fun W => rtoken_any (s.extract 0 k) W (by have := extract_size_le s 0 k; omega)
        have hP := fun W => rcontrol_any (s.extract (k + 1) s.size) W (by have := extract_size_le s (k + 1) s.size; omega)
        have hR := fun W => rtrim_any (s.extract (k + 1) s.size) W (by have := extract_size_le s (k + 1) s.size; omega)
        have hke : ((k : Int) == (s.size : Int)) = false := by simp; omega
        rw [← ex1, ← ex2] at hfo hff
        have hbyte : ((s[k].toNat : Int) == 58) = true := by rw [← hx]; exact e0
        have EX := Lib.hid ex1
        generalize hta : s.extract 0 k = ta at *
        generalize htb : s.extract (k + 1) s.size = tb at *
        generalize tokenB ta.data.toList = tk at *
        generalize hpl : plainB tb.data.toList = pl at *
        have HTF := Lib.hid hT
        have HPF := Lib.hid hP
        have HRF := Lib.hid hR
        have HFO := Lib.hid hfo
        have HFF := Lib.hid hff
        have HP := Lib.hid hp
        clear hT hP hR hfo hff ex1 ex2 hca hp
        cases tk
        · have hok : ok = false := by rw [HOK.out, HFO.out]; rfl
          have hV : V = .agg #[.string ⟨#[]⟩, .string ⟨#[]⟩] := by rw [HV.out]; unfold lineV; rw [← HOK.out, hok]; rfl
          have HV2 := Lib.hid hV
          subst hok
          clear hV
          go_wp2_with fail
          refine (HTF.out _).mono ?_
          rintro e w1 ⟨rfl, rfl⟩
          have c0 := (K0.out).cell 0
          have c1 := (K0.out).cell 1
          simp at c0 c1
          have f0 := (K0.out).frozen 0
          have f1 := (K0.out).frozen 1
          go_wp2_with fail
          exact bodyPost_ret (results_row_tmp rfl _ _ w.heap.size 63 _ (0, 0) _ rfl (set_two (K0.out) (.string ⟨#[]⟩) (.string ⟨#[]⟩)) Tryz.underlying63 rfl infoF2) rfl ⟨by rw [HV2.out]; rfl, below_two (B0.out) (Nat.le_refl _) _ _⟩
        · cases pl
          · have hok : ok = false := by rw [HOK.out, HFO.out]; rfl
            have hV : V = .agg #[.string ⟨#[]⟩, .string ⟨#[]⟩] := by rw [HV.out]; unfold lineV; rw [← HOK.out, hok]; rfl
            have HV2 := Lib.hid hV
            subst hok
            clear hV
            go_wp2_with fail
            refine (HTF.out _).mono ?_
            rintro e w1 ⟨rfl, rfl⟩
            go_wp2_with fail
            refine (HPF.out _).mono ?_
            rintro e w1 ⟨rfl, q, rfl⟩
            have c0 := (K0.out.drewN q).cell 0
            have c1 := (K0.out.drewN q).cell 1
            simp at c0 c1
            have f0 := (K0.out.drewN q).frozen 0
            have f1 := (K0.out.drewN q).frozen 1
            go_wp2_with fail
            exact bodyPost_ret (results_row_tmp rfl _ _ w.heap.size 63 _ (0, 0) _ rfl (set_two (K0.out.drewN q) (.string ⟨#[]⟩) (.string ⟨#[]⟩)) Tryz.underlying63 rfl infoF2) rfl ⟨by rw [HV2.out]; rfl, below_two (below_drewN B0.out q) (Nat.le_refl _) _ _⟩
          · have hok : ok = true := by rw [HOK.out, HFO.out]; rfl
            have hV : V = .agg #[.string ta, .string ⟨(trimmed tb.data.toList).toArray⟩] := by rw [HV.out]; unfold lineV; rw [← HOK.out, hok, HFF.out]; simp
            have HV2 := Lib.hid hV
            subst hok
            clear hV
            go_wp2_with fail
            refine (HTF.out _).mono ?_
            rintro e w1 ⟨rfl, rfl⟩
            go_wp2_with fail
            refine (HPF.out _).mono ?_
            rintro e w1 ⟨rfl, q, rfl⟩
            go_wp2_with fail
            have hz2 : w.heap.size < (wr.drewN q).heap.size := hz1
            have KQ := Lib.hid (K0.out.drewN q)
            have BQ := Lib.hid (below_drewN B0.out q)
            generalize wr.drewN q = W2 at *
            have hRB : ∀ W, Calls Tryz.prog 78 #[.string tb] W fun e w' => e = .returned (.string ⟨(trimmed tb.data.toList).toArray⟩) ∧ Below W.heap.size W w' := fun W => (HRF.out W).mono fun e w' h => ⟨h.1, below_of_drewN h.2⟩
            have HRB := Lib.hid hRB
            clear hRB HRF HTF HPF
            have g1 : IntKind.i64.wrap ((k : Int) + 1) = (k : Int) + 1 := Go.IntWalk.i64_in _ ⟨by omega, by omega⟩
            have g2 : (k : Int) + 1 ≤ (s.size : Int) := by omega
            have g3 : (0 : Int) ≤ (k : Int) + 1 := by omega
            have g4 : ((k : Int) + 1).toNat = k + 1 := by omega
            go_region_with ((go_at_call 78; refine (HRB.out _).mono ?_; rintro e w1 ⟨rfl, hb1⟩; have hk9 := KQ.out.below (below_undrew hb1) hz2; have c0 := hk9.cell 0; have c1 := hk9.cell 1; simp at c0 c1; have f0 := hk9.frozen 0; have f1 := hk9.frozen 1))
            have hbw := BQ.out.trans ((below_undrew hb1).mono BQ.out.size)
            go_wp2_with fail
            exact bodyPost_ret (results_row_tmp rfl _ _ w.heap.size 63 _ (0, 0) _ rfl (set_two hk9 _ _) Tryz.underlying63 rfl infoF2) rfl ⟨by rw [HV2.out]; rfl, below_two hbw (Nat.le_refl _) _ _⟩
    · obtain rfl : k = s.size := by omega
      have hca : colonAt s.data.toList = -1 := index_one_none fun j hj => hp.out j hj
      have hfo : fieldOK s.data.toList = false := by
        unfold fieldOK
        rw [hca]
        rfl
      have hok : ok = false := by rw [HOK.out, hfo]
      have hV : V = .agg #[.string ⟨#[]⟩, .string ⟨#[]⟩] := by rw [HV.out]; unfold lineV; rw [hfo]; rfl
      have HV2 := Lib.hid hV
      subst hok
      clear hV hfo hca hp
      have c0 := (K0.out).cell 0
      have c1 := (K0.out).cell 1
      simp at c0 c1
      have f0 := (K0.out).frozen 0
      have f1 := (K0.out).frozen 1
      go_wp2_with fail
      exact bodyPost_ret (results_row_tmp rfl _ _ w.heap.size 63 _ (0, 0) _ rfl (set_two (K0.out) (.string ⟨#[]⟩) (.string ⟨#[]⟩)) Tryz.underlying63 rfl infoF2) rfl ⟨by rw [HV2.out]; rfl, below_two (B0.out) (Nat.le_refl _) _ _⟩
end Go.Proofs.YtonlfplloenfcaaGreatDoor
namespace Go.Proofs.YtonlfplloenfcaaGreatDoor
open Go.RowKit
attribute [local go_sem] Oper.semAt_some

theorem ask_none {l : List UInt8} (h : ∀ j, j < l.length → l[j]? ≠ some 32) : askOK l = false := by
  have hi : Lib.index l [32] = -1 := index_one_none h
  unfold askOK Lib.cut
  rw [hi, if_neg (by omega)]
  rfl
theorem ask_at {l : List UInt8} {k : Nat} (hk : l[k]? = some 32) (h : ∀ j, j < k → l[j]? ≠ some 32) : Lib.cut l [32] = (l.take k, l.drop (k + 1), true) := by
  have hi : Lib.index l [32] = (k : Int) := index_one_first hk h
  unfold Lib.cut
  rw [hi, if_pos (by omega), Int.toNat_natCast]
  rfl
theorem ask_short {l : List UInt8} {k : Nat} (hk : l[k]? = some 32) (h : ∀ j, j < k → l[j]? ≠ some 32) (hl : l.length < k + 10) : askOK l = false := by
  unfold askOK
  rw [ask_at hk h]
  cases hs : Lib.hasSuffix (l.drop (k + 1)) tailB
  · rfl
  · have := Lib.hasSuffix_le hs
    rw [List.length_drop] at this
    have e : tailB.length = 9 := rfl
    omega
theorem ask_tail {l : List UInt8} {k n : Nat} (hk : l[k]? = some 32) (h : ∀ j, j < k → l[j]? ≠ some 32) (hl : l.length = n + 9) (hn : k + 1 ≤ n) :
    askOK l = ((l.drop n == tailB) && (tokenB (l.take k) && targB ((l.drop (k + 1)).take (n - (k + 1))))) ∧ ((l.drop n == tailB) = true → askM l = l.take k ∧ askTo l = (l.drop (k + 1)).take (n - (k + 1))) := by
  have e : tailB.length = 9 := rfl
  have hs : Lib.hasSuffix (l.drop (k + 1)) tailB = (l.drop n == tailB) := by
    rw [← Lib.hasSuffix_of_drop, e, List.length_drop, List.drop_drop, show k + 1 + (l.length - (k + 1) - 9) = n by omega, decide_eq_true (by omega)]
    rfl
  have ht : (l.drop n == tailB) = true → Lib.trimSuffix (l.drop (k + 1)) tailB = (l.drop (k + 1)).take (n - (k + 1)) := fun hx => by
    unfold Lib.trimSuffix
    rw [hs, if_pos hx, e, List.length_drop, show l.length - (k + 1) - 9 = n - (k + 1) by omega]
  refine ⟨?_, fun hx => ?_⟩
  · unfold askOK
    rw [ask_at hk h]
    simp only [hs, Bool.true_and]
    cases hx : (l.drop n == tailB)
    · rfl
    · rw [ht hx]
  · unfold askM askTo
    rw [ask_at hk h]
    exact ⟨rfl, ht hx⟩

set_option maxRecDepth 100000 in
theorem rasked_any (s : ByteArray) (w : World) (hs : s.size ≤ 1000000) :
    Calls Tryz.prog 109 #[.string s] w fun e w' => ∃ a b : ByteArray, e = .returned (.tuple #[.string a, .string b, .bool (askOK s.data.toList)]) ∧
      (askOK s.data.toList = true → a.data.toList = askM s.data.toList ∧ b.data.toList = askTo s.data.toList) ∧ Below w.heap.size w w' := by
  obtain ⟨ok, hok⟩ : ∃ ok, ok = askOK s.data.toList := ⟨_, rfl⟩
  rw [← hok]
  have HOK := Lib.hid hok
  clear hok
  go_enter Tryz.func109, Tryz.ntmps109
  go_wp2_with fail
  have hls : s.data.toList.length = s.size := rfl
  go_loopw [5] (fun i wr => ∃ k : Nat, k ≤ s.size ∧ i = .int .i64 k ∧ Hid (∀ j, j < k → s.data.toList[j]? ≠ some 32) ∧ wr = w)
    (fun i _ => s.size - (intOf i).toNat)
  case atStart => exact ⟨0, Nat.zero_le _, rfl, fun j hj => by omega, rfl⟩
  case round =>
    obtain ⟨k, hk, rfl, hp, hw⟩ := hrel
    subst hw
    by_cases hlt : k < s.size
    · have hb := byte_at s k hlt
      obtain ⟨x, hx⟩ : ∃ x, x = s[k] := ⟨_, rfl⟩
      rw [← hx] at hb
      have HB := Lib.hid hb
      clear hb
      cases e0 : ((x.toNat : Int) == 32)
      · have hx' : ((s[k].toNat : Int) == 32) = false := by rw [← hx]; exact e0
        have hst : Hid (∀ j, j < k + 1 → s.data.toList[j]? ≠ some 32) := fun j hj => by
          by_cases hjk : j < k
          · exact hp.out j hjk
          · obtain rfl : j = k := by omega
            rw [HB.out]
            intro h
            injection h with h
            rw [h] at e0
            cases e0
        have HST := Lib.hid hst
        clear hst hx
        go_wp2_with fail
        go_roundw
        case rel => exact ⟨k + 1, by omega, by go_num, HST.out, by first | rfl | trivial⟩
        case measure => simp [intOf]; omega
      · have hx32 : x = 32 := by
          have h : (x.toNat : Int) = 32 := by simpa using e0
          have : x.toNat = 32 := by omega
          exact UInt8.toNat_inj.1 this
        have hbyte : ((s[k].toNat : Int) == 32) = true := by rw [← hx]; exact e0
        have hk32 : s.data.toList[k]? = some 32 := by rw [← hx32]; exact HB.out
        by_cases h10 : s.size < k + 10
        · have hv : ok = false := HOK.out.trans (ask_short hk32 hp.out (by rw [hls]; exact h10))
          have g1 : (s.size : Int) - 9 ≤ (k : Int) := by omega
          clear hp hk32 HB
          subst hv
          go_wp2_with fail
          go_ret3
          exact ⟨_, _, rfl, fun h => (by cases h), Below.refl _ _⟩
        · obtain ⟨n, hn⟩ : ∃ n, s.size = n + 9 := ⟨s.size - 9, by omega⟩
          have g1 : ¬ (s.size : Int) - 9 ≤ (k : Int) := by omega
          have g2 : ((s.size : Int) - 9) = (n : Int) := by omega
          have hat := ask_tail (n := n) hk32 hp.out (by rw [hls]; exact hn) (by omega)
          have ex1 : (s.extract 0 k).data.toList = s.data.toList.take k := by rw [Lib.extract_data]; simp
          have ex2 : (s.extract (k + 1) n).data.toList = (s.data.toList.drop (k + 1)).take (n - (k + 1)) := by rw [Lib.extract_data]
          have ex3 : (s.extract n s.size).data.toList = s.data.toList.drop n := by
            rw [Lib.extract_data]
            exact List.take_of_length_le (by rw [List.length_drop]; omega)
          rw [← ex1, ← ex2, ← ex3] at hat
          have hT := fun W => rtoken_any (s.extract 0 k) W (by have := extract_size_le s 0 k; omega)
          have hG := fun W => rtarget_any (s.extract (k + 1) n) W (by have := extract_size_le s (k + 1) n; omega)
          generalize hta : s.extract 0 k = ta at *
          generalize htb : s.extract (k + 1) n = tb at *
          generalize htc : s.extract n s.size = tc at *
          generalize tokenB ta.data.toList = tk at *
          generalize targB tb.data.toList = tg at *
          have HAT := Lib.hid hat
          have HTF := Lib.hid hT
          have HGF := Lib.hid hG
          clear hat hT hG ex1 ex2 ex3 hp hk32 HB
          have hkn : k + 1 ≤ n := by omega
          have hns : n ≤ s.size := by omega
          clear hn
          cases hcmp : (tc.data.toList == tailB)
          · have hv : ok = false := HOK.out.trans (by rw [HAT.out.1, hcmp]; rfl)
            subst hv
            have g4 : ¬ n ≤ k := by omega
            have g3 : (tc.toList == [32, 72, 84, 84, 80, 47, 49, 46, 49]) = false := by rw [Go.ByteArray.toList_eq]; exact hcmp
            go_wp2_with fail
            go_ret3
            exact ⟨⟨_, _, rfl⟩, Below.refl _ _⟩
          · have hv : ok = (tk && tg) := HOK.out.trans (by rw [HAT.out.1, hcmp]; rfl)
            have HV := Lib.hid hv
            have hto := HAT.out.2 hcmp
            have HTO := Lib.hid hto
            have g3 : (tc.toList == [32, 72, 84, 84, 80, 47, 49, 46, 49]) = true := by rw [Go.ByteArray.toList_eq]; exact hcmp
            have g4 : ¬ n ≤ k := by omega
            clear hv hto
            have hTB : ∀ W, Calls Tryz.prog 75 #[.string ta] W fun e w' => e = .returned (.bool tk) ∧ Below W.heap.size W w' := fun W => (HTF.out W).mono fun e w' h => ⟨h.1, by rw [← h.2]; exact Below.refl _ _⟩
            have hGB : ∀ W, Calls Tryz.prog 76 #[.string tb] W fun e w' => e = .returned (.bool tg) ∧ Below W.heap.size W w' := fun W => (HGF.out W).mono fun e w' h => ⟨h.1, below_of_drewN h.2⟩
            have HTB := Lib.hid hTB
            have HGB := Lib.hid hGB
            clear hTB hGB HTF HGF
            cases tk
            · have hv : ok = false := HV.out
              subst hv
              go_wp2_with fail
              refine wp_region_quiet_below (by kernel_rfl) (by kernel_rfl) ?_
              repeat (any_goals (first | go_big_quiet_step ((first | (go_at_call 75; exact Calls.regrown_of (HTB.out _)) | (go_at_call 76; exact Calls.regrown_of (HGB.out _)))) | quiet_step ((first | (go_at_call 75; exact Calls.regrown_of (HTB.out _)) | (go_at_call 76; exact Calls.regrown_of (HGB.out _))))))
              refine wpQuiet_nil ?_
              intro _ hw'
              obtain ⟨⟨dq, osq⟩, hw''⟩ := hw'
              subst hw''
              have hbz := below_regrown wr dq osq
              generalize Sort.grow (redrawn wr dq) osq = W9 at *
              have HZ := Lib.hid hbz
              clear hbz
              go_wp2_with fail
              go_ret3
              first | exact ⟨⟨_, _, rfl⟩, HZ.out⟩ | exact ⟨_, _, rfl, fun h => (by cases h), HZ.out⟩
            · have hv : ok = tg := HV.out
              go_wp2_with fail
              refine wp_region_quiet_below (by kernel_rfl) (by kernel_rfl) ?_
              repeat (any_goals (first | go_big_quiet_step ((first | (go_at_call 75; exact Calls.regrown_of (HTB.out _)) | (go_at_call 76; exact Calls.regrown_of (HGB.out _)))) | quiet_step ((first | (go_at_call 75; exact Calls.regrown_of (HTB.out _)) | (go_at_call 76; exact Calls.regrown_of (HGB.out _))))))
              refine wpQuiet_nil ?_
              intro _ hw'
              obtain ⟨⟨dq, osq⟩, hw''⟩ := hw'
              subst hw''
              have hbz := below_regrown wr dq osq
              generalize Sort.grow (redrawn wr dq) osq = W9 at *
              have HZ := Lib.hid hbz
              clear hbz
              go_wp2_with fail
              go_ret3
              exact ⟨_, _, by rw [HV.out]; rfl, fun _ => ⟨HTO.out.1.symm, HTO.out.2.symm⟩, HZ.out⟩
    · obtain rfl : k = s.size := by omega
      have hv : ok = false := HOK.out.trans (ask_none (fun j hj => hp.out j hj))
      have g1 : (s.size : Int) - 9 ≤ (s.size : Int) := by omega
      clear hp
      subst hv
      go_wp2_with fail
      go_ret3
      exact ⟨_, _, rfl, fun h => (by cases h), Below.refl _ _⟩
end Go.Proofs.YtonlfplloenfcaaGreatDoor
