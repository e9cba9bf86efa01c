/-
  footmanref01.Split, footmanref01.Number, footmanref13.bare.
  footmanref13.length.
  footmanref13.How.
-/
import Derived.Test.YtonlfplloenfcaaGreatDoorCutTEtc
import Derived.Test.YtonlfplloenfcaaGreatDoorMoreSpecEtc
import Derived.Test.YtonlfplloenfcaaGreatDoorFindEtc
import Derived.Test.YtonlfplloenfcaaGreatDoorTwinEtc
import Derived.Test.YtonlfplloenfcaaGreatDoorBadEtc
import Derived.Test.YtonlfplloenfcaaGreatDoorContains
import Derived.Test.YtonlfplloenfcaaGreatDoorBufEtc
import Derived.Lib.SmallJoins
import Derived.Lib.OthersKept
import Derived.Test.YtonlfplloenfcaaGreatDoorReflEtc
import Derived.Test.YtonlfplloenfcaaGreatDoorNamesEtc
import Derived.Test.YtonlfplloenfcaaGreatDoorBFieldsEtc
import Derived.Test.YtonlfplloenfcaaGreatDoorResultsEtc
import Derived.Test.YtonlfplloenfcaaGreatDoorLenTEtc
import Derived.Deep.CutRange
import Derived.Deep.CutBlock
namespace Go.Proofs.YtonlfplloenfcaaGreatDoor
open Go.RowKit

theorem emptyS (x : ByteArray) : x.toList.isEmpty = decide (x.size = 0) := by
  rw [← decide_eq_emptyBytes]
  rw [Bool.eq_iff_iff, decide_eq_true_iff, decide_eq_true_iff]
  constructor
  · intro h
    rw [h]
    rfl
  · intro h
    exact bytes_ext (List.eq_nil_of_length_eq_zero (by exact h))
def tvT (x : List UInt8) : Value := .string ⟨(trimmed x).toArray⟩
set_option maxRecDepth 100000 in
theorem rnumber_any (s : ByteArray) (most : Nat) (w : World) (hs : s.size ≤ 140737488355328) :
    Calls Tryz.prog 199 #[.string s, .int .i64 (most : Int)] w fun e w' => e = .returned (numV s.data.toList most) ∧ w' = w := by
  have hll : s.data.toList.length = s.size := rfl
  by_cases h0 : s.size = 0
  · have hd : decide ((s.size : Int) < 1) = true := decide_eq_true (by omega)
    have hn : numB s.data.toList most = none := by
      rw [List.eq_nil_of_length_eq_zero h0]
      rfl
    have HN := Lib.hid (numV_none hn)
    clear hn hll
    go_enter Tryz.func199, Tryz.ntmps199
    go_wp2_with fail
    go_ret2
    exact ⟨congrArg Ending.returned HN.out.symm, rfl⟩
  have hd : decide ((s.size : Int) < 1) = false := decide_eq_false (by omega)
  by_cases h18 : 18 < s.size
  · have hd2 : decide ((18 : Int) < (s.size : Int)) = true := decide_eq_true (by omega)
    have hn : numB s.data.toList most = none := by
      unfold numB
      rw [hll, decide_eq_false (show ¬ s.size ≤ 18 by omega)]
      simp
    have HN := Lib.hid (numV_none hn)
    clear hn hll
    go_enter Tryz.func199, Tryz.ntmps199
    go_wp2_with fail
    go_ret2
    exact ⟨congrArg Ending.returned HN.out.symm, rfl⟩
  have hd2 : decide ((18 : Int) < (s.size : Int)) = false := decide_eq_false (by omega)
  have HLL := Lib.hid hll
  clear hll
  go_enter Tryz.func199, Tryz.ntmps199
  go_wp2_with fail
  go_loopw [6, 7] (fun v i wr => ∃ k m : Nat, k ≤ s.size ∧ i = .int .i64 k ∧ v = .int .i64 m ∧ Hid ((s.data.toList.take k).all digB = true ∧ m = decN (s.data.toList.take k)) ∧ m < 1000000000000000000 ∧ wr = w) (fun _ i _ => s.size - (intOf i).toNat)
  case atStart => exact ⟨0, 0, Nat.zero_le _, rfl, rfl, ⟨rfl, rfl⟩, by decide, rfl⟩
  case round =>
    obtain ⟨k, m, hk, rfl, rfl, HI, hm, rfl⟩ := hrel
    by_cases hlt : k < s.size
    · have hx : s.data.toList[k]? = some s[k] := List.getElem?_eq_getElem (by rw [HLL.out]; exact hlt)
      have htk : s.data.toList.take (k + 1) = s.data.toList.take k ++ [s[k]] := by rw [List.take_add_one, hx]; rfl
      cases hb : digB s[k] with
      | false =>
        have hn : numB s.data.toList most = none := by
          have : s.data.toList.all digB = false := by
            rw [← List.take_append_drop (k + 1) s.data.toList, List.all_append, htk, List.all_append]
            simp [hb]
          unfold numB digitsOK
          rw [this]
          simp
        have HN := Lib.hid (numV_none hn)
        have HB := Lib.hid hb
        clear hb hn htk hx
        go_wp2_with fail
        refine (dig_any _ _).mono ?_
        rintro e w' ⟨rfl, rfl⟩
        rw [HB.out]
        go_wp2_with fail
        go_ret2
        exact ⟨congrArg Ending.returned HN.out.symm, rfl⟩
      | true =>
        obtain ⟨_, hb1, hb2⟩ := dig_val hb
        obtain ⟨d, hd9⟩ : ∃ d : Nat, s[k].toNat - 48 = d := ⟨_, rfl⟩
        have hsub : (s[k].toNat : Int) - 48 = (d : Int) := by omega
        have hds : d ≤ 9 := by omega
        have hall : (s.data.toList.take (k + 1)).all digB = true := by rw [htk, List.all_append, HI.out.1]; simp [hb]
        have hm9 : 10 * m + d = decN (s.data.toList.take (k + 1)) := by rw [htk, decN_snoc, ← HI.out.2, hd9]
        have hm18 : 10 * m + d < 1000000000000000000 := by
          rw [hm9]
          exact decN_eighteen hall (by rw [List.length_take]; omega)
        have HI2 := Lib.hid (And.intro hall hm9)
        have HB := Lib.hid hb
        clear hb hall hm9 hd9 htk hx
        go_wp2_with fail
        refine (dig_any _ _).mono ?_
        rintro e w' ⟨rfl, rfl⟩
        rw [HB.out]
        go_wp2_with fail
        go_roundw
        case rel => exact ⟨k + 1, 10 * m + d, by omega, by go_num, by go_num, HI2.out, hm18, trivial⟩
        case measure => simp [intOf]; omega
    · obtain rfl : k = s.size := by omega
      have ht : s.data.toList.take s.size = s.data.toList := List.take_of_length_le (by rw [HLL.out]; exact Nat.le_refl _)
      obtain ⟨hi1, hi2⟩ := HI.out
      rw [ht] at hi1 hi2
      have hdo : digitsOK s.data.toList = true := by
        unfold digitsOK
        rw [hi1]
        cases h9 : s.data.toList with
        | nil => have := HLL.out; rw [h9] at this; simp at this; omega
        | cons x r => rfl
      have hnb : numB s.data.toList most = if m ≤ most then some m else none := by
        unfold numB
        rw [hdo, ← hi2, decide_eq_true (show s.data.toList.length ≤ 18 by rw [HLL.out]; omega)]
        simp
      have HNB := Lib.hid hnb
      clear hi1 hi2 ht hdo hnb HI
      by_cases hvm : m ≤ most
      · have hd3 : decide ((most : Int) < (m : Int)) = false := decide_eq_false (by omega)
        have HN := Lib.hid (numV_some (s := s.data.toList) (most := most) (n := m) (by rw [HNB.out, if_pos hvm]))
        go_wp2_with fail
        go_ret2
        exact ⟨congrArg Ending.returned HN.out.symm, rfl⟩
      · have hd3 : decide ((most : Int) < (m : Int)) = true := decide_eq_true (by omega)
        have HN := Lib.hid (numV_none (s := s.data.toList) (most := most) (by rw [HNB.out, if_neg hvm]))
        go_wp2_with fail
        go_ret2
        exact ⟨congrArg Ending.returned HN.out.symm, rfl⟩
theorem cut_data (c : UInt8) (s : ByteArray) : (cutC c s.data.toList).map tvT = (splitT c s).map Value.string := by
  unfold splitT
  rw [List.map_map]
  rfl
set_option maxRecDepth 100000 in
theorem rsplit_any (s : ByteArray) (c : UInt8) (w : World) (hs : s.size ≤ 140000000) :
    Calls Tryz.prog 197 #[.string s, .int .u8 (c.toNat : Int)] w fun e w' => (∃ v, e = .returned v ∧ w'.ownsRow w.heap.size 9 1 v (splitT c s).length ((splitT c s).map Value.string)) ∧ Below w.heap.size w w' := by
  obtain ⟨i0, hi, hz0, hz1, hz2⟩ := info_parts infoS
  have hll : s.data.toList.length = s.size := rfl
  have HLL := Lib.hid hll
  clear hll
  go_enter Tryz.func197, Tryz.ntmps197
  go_wp2_with fail
  go_loopw [5, 6, 7] (fun v f i wr => ∃ (k fr : Nat) (D : List (List UInt8)), k ≤ s.size + 1 ∧ i = .int .i64 k ∧ f = .int .i64 fr ∧ D.length ≤ k ∧ wr.ownsRow w.heap.size 9 1 v D.length (D.map tvT) ∧ Hid (CutAt c s.data.toList k fr D) ∧ fr ≤ k ∧ Below w.heap.size w wr) (fun _ _ i _ => s.size + 1 - (intOf i).toNat)
  case atStart => exact ⟨0, 0, [], Nat.zero_le _, rfl, rfl, Nat.le_refl _, World.ownsRow_nil _ _ _ _, cutAt_zero _ _, Nat.le_refl _, Below.refl _ _⟩
  case round =>
    obtain ⟨k, fr, D, hk, rfl, rfl, hD, hown, HC, hfr, hb⟩ := hrel
    have HO := Lib.hid hown
    clear hown
    by_cases hlt : k < s.size
    · have hx : s.data.toList[k]? = some s[k] := List.getElem?_eq_getElem (by rw [HLL.out]; exact hlt)
      have hne : ((k : Int) == (s.size : Int)) = false := beq_eq_false_iff_ne.2 (by omega)
      have hle : decide ((k : Int) ≤ (s.size : Int)) = true := decide_eq_true (by omega)
      by_cases hc : s[k] = c
      · have hb8 : ((s[k].toNat : Int) == (c.toNat : Int)) = true := beq_iff_eq.2 (by rw [hc])
        have HC2 := Lib.hid (cutAt_hit HC.out (by rw [HLL.out]; exact hlt) (by rw [hx, hc]))
        clear HC hx hc
        have hP : (s.extract fr k).data.toList = (s.data.toList.take k).drop fr := by rw [Lib.extract_data, List.drop_take]
        have hPs : (s.extract fr k).size ≤ s.size := extract_size_le s fr k
        obtain ⟨XB, hXB⟩ : ∃ XB, s.extract fr k = XB := ⟨_, rfl⟩
        rw [hXB] at hP hPs
        have HTR := Lib.hid (rtrim_any XB wr (by omega))
        rw [hP] at HTR
        have HXB := Lib.hid hXB
        obtain ⟨P, hPe⟩ : ∃ P, (s.data.toList.take k).drop fr = P := ⟨_, rfl⟩
        rw [hPe] at HTR HC2
        clear hP hPe hXB
        go_wp2_with fail
        rw [HXB.out]
        refine (HTR.out).mono ?_
        rintro e w' ⟨rfl, q, rfl⟩
        have HO2 := Lib.hid (own_below HO.out (below_drewN (Below.refl _ _) q))
        have hb3 := below_drewN hb q
        obtain ⟨W2, hW2⟩ : ∃ W2, wr.drewN q = W2 := ⟨_, rfl⟩
        rw [hW2] at HO2 hb3 ⊢
        clear hW2 hb HO
        go_wp2_with (at_builtin; refine wpList_append_own _ rfl _ _ 61 rfl w.heap.size 9 i0 _ 1 16 Tryz.underlying61 hi hz0 hz1 hz2 rfl (by decide) _ _ _ rfl (HO2.out.alloc _) ⟨W2.heap.size, 0, none⟩ 1 1 [.string ⟨(trimmed P).toArray⟩] rfl rfl (cell_one_new _ _ _) (by simp [Value.oneCell']) (by unfold maxLen; omega) (by omega) (by have := hb3.size; simp; omega) ?_; intro v2 w2 hown2 hg2 _)
        have hb4 : Below w.heap.size w w2 := (hb3.alloc hb3.size _).grown hg2 (by have := hb3.size; simp; omega) (fun j hj => ((HO2.out).lt j hj).1)
        go_roundw
        case rel => exact ⟨k + 1, k + 1, D ++ [P], by omega, by go_num, by go_num, by simp; omega, by rw [List.map_append, List.length_append]; exact hown2, HC2, by omega, hb4⟩
        case measure => simp [intOf]; omega
      · have hb8 : ((s[k].toNat : Int) == (c.toNat : Int)) = false := beq_eq_false_iff_ne.2 (fun e => hc (UInt8.toNat_inj.1 (by omega)))
        have HC2 := Lib.hid (cutAt_over HC.out (by rw [HLL.out]; exact hlt) (by rw [hx]; intro e; exact hc (Option.some.inj e)))
        clear HC hx hc
        go_wp2_with fail
        go_roundw
        case rel => exact ⟨k + 1, fr, D, by omega, by go_num, rfl, by omega, HO.out, HC2, by omega, hb⟩
        case measure => simp [intOf]; omega
    · by_cases heq : k = s.size
      · subst heq
        have hne : ((s.size : Int) == (s.size : Int)) = true := beq_iff_eq.2 rfl
        have hle : decide ((s.size : Int) ≤ (s.size : Int)) = true := decide_eq_true (by omega)
        have hC2 := cutAt_end (c := c) (l := s.data.toList) (fr := fr) (D := D) (by rw [HLL.out]; exact HC.out)
        rw [HLL.out] at hC2
        have HC2 := Lib.hid hC2
        clear HC hC2
        have hP : (s.extract fr s.size).data.toList = (s.data.toList.take s.size).drop fr := by rw [Lib.extract_data, List.drop_take]
        have hPs : (s.extract fr s.size).size ≤ s.size := extract_size_le s fr s.size
        obtain ⟨XB, hXB⟩ : ∃ XB, s.extract fr s.size = XB := ⟨_, rfl⟩
        rw [hXB] at hP hPs
        have HTR := Lib.hid (rtrim_any XB wr (by omega))
        rw [hP] at HTR
        have HXB := Lib.hid hXB
        obtain ⟨P, hPe⟩ : ∃ P, (s.data.toList.take s.size).drop fr = P := ⟨_, rfl⟩
        rw [hPe] at HTR HC2
        clear hP hPe hXB
        go_wp2_with fail
        rw [HXB.out]
        refine (HTR.out).mono ?_
        rintro e w' ⟨rfl, q, rfl⟩
        have HO2 := Lib.hid (own_below HO.out (below_drewN (Below.refl _ _) q))
        have hb3 := below_drewN hb q
        obtain ⟨W2, hW2⟩ : ∃ W2, wr.drewN q = W2 := ⟨_, rfl⟩
        rw [hW2] at HO2 hb3 ⊢
        clear hW2 hb HO
        go_wp2_with (at_builtin; refine wpList_append_own _ rfl _ _ 61 rfl w.heap.size 9 i0 _ 1 16 Tryz.underlying61 hi hz0 hz1 hz2 rfl (by decide) _ _ _ rfl (HO2.out.alloc _) ⟨W2.heap.size, 0, none⟩ 1 1 [.string ⟨(trimmed P).toArray⟩] rfl rfl (cell_one_new _ _ _) (by simp [Value.oneCell']) (by unfold maxLen; omega) (by omega) (by have := hb3.size; simp; omega) ?_; intro v2 w2 hown2 hg2 _)
        have hb4 : Below w.heap.size w w2 := (hb3.alloc hb3.size _).grown hg2 (by have := hb3.size; simp; omega) (fun j hj => ((HO2.out).lt j hj).1)
        go_roundw
        case rel => exact ⟨s.size + 1, s.size + 1, D ++ [P], by omega, by go_num, by go_num, by simp; omega, by rw [List.map_append, List.length_append]; exact hown2, HC2, by omega, hb4⟩
        case measure => simp [intOf]
      · have hk2 : k = s.size + 1 := by omega
        subst hk2
        have hle : decide (((s.size + 1 : Nat) : Int) ≤ (s.size : Int)) = false := decide_eq_false (by omega)
        have hle2 : decide ((s.size : Int) + 1 ≤ (s.size : Int)) = false := decide_eq_false (by omega)
        have hD2 : cutC c s.data.toList = D := HC.out.2.2 (by rw [HLL.out]; omega)
        have hfin : D.map tvT = (splitT c s).map Value.string := by rw [← hD2]; exact cut_data c s
        have hfl : D.length = (splitT c s).length := by have := congrArg List.length hfin; simpa using this
        have HF := Lib.hid (And.intro hfin hfl)
        clear hD2 hfin hfl HC
        go_wp2_with fail
        go_ret
        exact ⟨⟨_, rfl, by rw [← HF.out.1, ← HF.out.2]; exact HO.out⟩, hb⟩

def bareV (x : List UInt8) : Value := if digitsOK x then .tuple #[.string ⟨(bareR x).toArray⟩, .bool true] else .tuple #[.string ⟨#[]⟩, .bool false]
theorem bareV_yes {x : List UInt8} (h : digitsOK x = true) : bareV x = .tuple #[.string ⟨(bareR x).toArray⟩, .bool true] := by unfold bareV; rw [if_pos h]
theorem bareV_no {x : List UInt8} (h : digitsOK x = false) : bareV x = .tuple #[.string ⟨#[]⟩, .bool false] := by unfold bareV; rw [if_neg (by rw [h]; decide)]
theorem bare_nil (t s : ByteArray) (h : bareR t.data.toList = bareR s.data.toList) (h1 : t.size ≤ 1) : t = ⟨(bareR s.data.toList).toArray⟩ := by
  refine bytes_mk t _ ?_
  rw [← h]
  rcases Nat.eq_zero_or_pos t.size with h0 | h0
  · rw [bytes_nil t h0]; rfl
  · have hc := bytes_cons t h0
    have hz := extract_size_one t h0
    have : (t.extract 1 t.size).data.toList = [] := bytes_nil _ (by omega)
    rw [this] at hc
    rw [hc, bareR_one]
theorem bare_stop (t s : ByteArray) (h : bareR t.data.toList = bareR s.data.toList) (h0 : 0 < t.size) (hx : t[0] ≠ 48) : t = ⟨(bareR s.data.toList).toArray⟩ := by
  refine bytes_mk t _ ?_
  rw [← h, bytes_cons t h0, bareR_head _ _ hx]
theorem bare_step (t s : ByteArray) (h : bareR t.data.toList = bareR s.data.toList) (h1 : 1 < t.size) (hx : t[0]'(by omega) = 48) : bareR (t.extract 1 t.size).data.toList = bareR s.data.toList := by
  rw [← h]
  conv => rhs; rw [bytes_cons t (by omega), hx]
  rw [bareR_nought]
  intro e
  have hz := extract_size_one t (by omega)
  have : (t.extract 1 t.size).data.toList.length = (t.extract 1 t.size).size := rfl
  rw [e] at this
  simp at this
  omega
set_option maxRecDepth 100000 in
theorem bare_any (s : ByteArray) (w : World) (hs : s.size ≤ 140737488355328) :
    Calls Tryz.prog 198 #[.string s] w fun e w' => e = .returned (bareV s.data.toList) ∧ ∃ q, w' = w.drewN q := by
  have hll : s.data.toList.length = s.size := rfl
  have HLL := Lib.hid hll
  clear hll
  go_enter Tryz.func198, Tryz.ntmps198
  go_wp2_with fail
  go_loopw [4] (fun i wr => ∃ k : Nat, k ≤ s.size ∧ i = .int .i64 k ∧ Hid ((s.data.toList.take k).all digB = true) ∧ w = wr) (fun i _ => s.size - (intOf i).toNat)
  case atStart => exact ⟨0, Nat.zero_le _, rfl, rfl, rfl⟩
  case round =>
    obtain ⟨k, hk, rfl, HI, rfl⟩ := hrel
    by_cases hlt : k < s.size
    · have hx : s.data.toList[k]? = some s[k] := List.getElem?_eq_getElem (by rw [HLL.out]; exact hlt)
      have htk : s.data.toList.take (k + 1) = s.data.toList.take k ++ [s[k]] := by rw [List.take_add_one, hx]; rfl
      cases hb : digB s[k] with
      | false =>
        have hn : digitsOK s.data.toList = false := by
          have : s.data.toList.all digB = false := by
            rw [← List.take_append_drop (k + 1) s.data.toList, List.all_append, htk, List.all_append]
            simp [hb]
          unfold digitsOK
          rw [this]
          simp
        have HN := Lib.hid (bareV_no hn)
        have HB := Lib.hid hb
        clear hb hn htk hx
        go_wp2_with fail
        refine (dig_any _ _).mono ?_
        rintro e w' ⟨rfl, rfl⟩
        rw [HB.out]
        go_wp2_with fail
        go_ret2
        exact ⟨congrArg Ending.returned HN.out.symm, 0, rfl⟩
      | true =>
        have hall : (s.data.toList.take (k + 1)).all digB = true := by rw [htk, List.all_append, HI.out]; simp [hb]
        have HI2 := Lib.hid hall
        have HB := Lib.hid hb
        clear hb hall htk hx
        go_wp2_with fail
        refine (dig_any _ _).mono ?_
        rintro e w' ⟨rfl, rfl⟩
        rw [HB.out]
        go_wp2_with fail
        go_roundw
        case rel => exact ⟨k + 1, by omega, by go_num, HI2, trivial⟩
        case measure => simp [intOf]; omega
    · obtain rfl : k = s.size := by omega
      have ht : s.data.toList.take s.size = s.data.toList := List.take_of_length_le (by rw [HLL.out]; exact Nat.le_refl _)
      have hi1 := HI.out
      rw [ht] at hi1
      have HALL := Lib.hid hi1
      clear hi1 ht HI
      have hE := emptyS s
      have HOK : Hid (bareV s.data.toList = .tuple #[.string ⟨(bareR s.data.toList).toArray⟩, .bool (!decide (s = ByteArray.empty))]) := by
        rw [decide_eq_emptyBytes, emptyS]
        by_cases h0 : s.size = 0
        · have e1 : s.data.toList = [] := List.eq_nil_of_length_eq_zero h0
          rw [e1, decide_eq_true h0]
          rfl
        · rw [decide_eq_false h0]
          refine bareV_yes ?_
          unfold digitsOK
          rw [HALL.out]
          cases h9 : s.data.toList with
          | nil => have := HLL.out; rw [h9] at this; simp at this; omega
          | cons x r => rfl
      go_wp2_with fail
      go_loopw [0] (fun v wr => ∃ t : ByteArray, v = .string t ∧ t.size ≤ s.size ∧ Hid (bareR t.data.toList = bareR s.data.toList) ∧ ∃ q, wr = w.drewN q) (fun v _ => Lib.strSize v)
      case atStart => exact ⟨s, rfl, Nat.le_refl _, rfl, 0, rfl⟩
      case round =>
        obtain ⟨t, rfl, htz, HT, q, rfl⟩ := hrel
        by_cases h1 : 1 < t.size
        · have hd1 : decide ((1 : Int) < (t.size : Int)) = true := decide_eq_true (by omega)
          by_cases hx : t[0]'(by omega) = 48
          · have hx2 : (((t[0]'(by omega)).toNat : Int) == 48) = true := beq_iff_eq.2 (by rw [hx]; rfl)
            have HT2 := Lib.hid (bare_step t s HT.out h1 hx)
            have hz := extract_size_one t (by omega)
            have HZ := Lib.hid hz
            clear hx HT hz
            go_wp2_with fail
            go_roundw
            case rel => exact ⟨_, rfl, by rw [HZ.out]; omega, HT2, _, rfl⟩
            case measure => simp only [Lib.strSize_string]; rw [HZ.out]; omega
          · have hx2 : (((t[0]'(by omega)).toNat : Int) == 48) = false := beq_eq_false_iff_ne.2 (fun e => hx (UInt8.toNat_inj.1 (by show _ = 48; omega)))
            have HT2 : Hid (Value.tuple #[.string t, .bool (!decide (s = ByteArray.empty))] = bareV s.data.toList) := Lib.hid ((congrArg (fun x => Value.tuple #[.string x, .bool (!decide (s = ByteArray.empty))]) (bare_stop t s HT.out (by omega) hx)).trans HOK.out.symm)
            clear hx HT
            go_wp2_with fail
            go_ret2
            exact ⟨congrArg Ending.returned HT2.out, _, rfl⟩
        · have hd1 : decide ((1 : Int) < (t.size : Int)) = false := decide_eq_false (by omega)
          have HT2 : Hid (Value.tuple #[.string t, .bool (!decide (s = ByteArray.empty))] = bareV s.data.toList) := Lib.hid ((congrArg (fun x => Value.tuple #[.string x, .bool (!decide (s = ByteArray.empty))]) (bare_nil t s HT.out (by omega))).trans HOK.out.symm)
          clear HT
          go_wp2_with fail
          go_ret2
          exact ⟨congrArg Ending.returned HT2.out, _, rfl⟩
end Go.Proofs.YtonlfplloenfcaaGreatDoor
namespace Go.Proofs.YtonlfplloenfcaaGreatDoor
open Go.RowKit

theorem trimmed_len (l : List UInt8) : (trimmed l).length ≤ l.length := by
  rw [trimmed_eq, List.length_reverse]
  refine Nat.le_trans (List.dropWhile_sublist _).length_le ?_
  rw [List.length_reverse]
  exact (List.dropWhile_sublist _).length_le
theorem sizes_split (c : UInt8) (s : ByteArray) : ∀ x ∈ splitT c s, x.size ≤ s.size := by
  intro x hx
  rw [splitT_eq] at hx
  obtain ⟨y, hy, rfl⟩ := List.mem_map.1 hx
  refine Nat.le_trans ?_ (splitL_sizes c s y hy)
  show ((trimmed y.data.toList).toArray).size ≤ _
  rw [List.size_toArray]
  exact trimmed_len _
theorem bareR_len (x : List UInt8) : (bareR x).length ≤ x.length := by
  unfold bareR bareS
  have h := (List.dropWhile_sublist (fun y : UInt8 => y == 48) (l := x)).length_le
  split
  · split
    · simp
    · cases x with
      | nil => contradiction
      | cons y r => simp
  · exact h

set_option maxRecDepth 100000 in
set_option maxHeartbeats 1000000 in
theorem rlength_any (A : Option Addr) (n c : Nat) (l : List ByteArray) (w : World) (h : Lies w w.heap.size A n (l.map Value.string)) (hn : n ≤ 1000000) (hn0 : 0 < n) (hsz : ∀ x ∈ l, x.size ≤ 1000000) :
    Calls Tryz.prog 125 #[.slice A n c] w fun e w' => e = .returned (lenV .i64 (lenA (partsA (l.map (·.data.toList))))) ∧ Below w.heap.size w w' := by
  have hll : l.length = n := by simpa using h.1
  have hne : partsA (l.map (·.data.toList)) ≠ [] := parts_ne (by intro e; have := congrArg List.length e; simp at this; rw [this] at hll; simp at hll; omega)
  obtain ⟨P, hP⟩ : ∃ P, partsA (l.map (·.data.toList)) = P := ⟨_, rfl⟩
  have h00 : restP l 0 = P := hP
  rw [hP] at hne ⊢
  have H := Lib.hid h
  have HLL := Lib.hid hll
  have HSZ := Lib.hid hsz
  have HNE := Lib.hid hne
  have H00 := Lib.hid h00
  clear h hll hsz hne h00 hP
  go_enter Tryz.func125, Tryz.ntmps125
  go_wp2_with fail
  go_loopw [5, 6] (fun v i wr => ∃ (k : Nat) (a : ByteArray), k ≤ n ∧ i = .int .i64 k ∧ v = .string a ∧ a.size ≤ 1000000 ∧ Hid (refL [] P = refL a.data.toList (restP l k)) ∧ Hid (Below w.heap.size w wr)) (fun _ i _ => n - (intOf i).toNat)
  case atStart => exact ⟨0, ⟨#[]⟩, Nat.zero_le _, rfl, rfl, Nat.zero_le _, by rw [H00.out]; rfl, Below.refl _ _⟩
  case round =>
    obtain ⟨k, a, hk, rfl, rfl, haz, HI, HB⟩ := hrel
    by_cases hlt : k < n
    · obtain ⟨x, hx⟩ : ∃ x, l[k]? = some x := ⟨l[k]'(by rw [HLL.out]; exact hlt), List.getElem?_eq_getElem (by rw [HLL.out]; exact hlt)⟩
      obtain ⟨b, off, u, rfl, hbb, hu, hcu⟩ := H.out.at_ hlt
      have hux : u = .string x := by rw [List.getElem?_map, hx] at hu; exact (Option.some.inj hu).symm
      subst hux
      have hxs := HSZ.out x (List.mem_of_getElem? hx)
      have c1 := (HB.out.cell (p := ⟨b, off + k, none⟩) hbb).trans hcu
      have hst := restP_step hx
      have HSP := Lib.hid (rsplit_any x 44 wr (by omega))
      have hssz := sizes_split 44 x
      have hslen : (splitT 44 x).length ≤ 1000001 := by
        unfold splitT
        rw [List.length_map, cutC_len]
        have h3 := List.count_le_length (a := 44) (l := x.data.toList)
        have h4 : x.data.toList.length = x.size := rfl
        omega
      rw [hst] at HI
      obtain ⟨L, hL⟩ : ∃ L, splitT 44 x = L := ⟨_, rfl⟩
      rw [hL] at HSP HI hssz hslen
      have HSS := Lib.hid hssz
      obtain ⟨m, hm⟩ : ∃ m, L.length = m := ⟨_, rfl⟩
      rw [hm] at HSP hslen
      have HM := Lib.hid hm
      clear hx hu hcu hst hL hssz hm
      go_wp2_with fail
      refine (HSP.out).mono ?_
      rintro e w2 ⟨⟨v2, rfl, ho2⟩, hb2⟩
      obtain ⟨A2, c2, rfl⟩ := own_form ho2
      have L2 := Lib.hid (Lies.of_own ho2)
      have B2 := Lib.hid (HB.out.trans (hb2.mono HB.out.size))
      clear ho2 hb2 HB HSP c1
      go_wp2_with fail
      go_loopw [5, 8] (fun v i wr => ∃ (j : Nat) (a : ByteArray), j ≤ m ∧ i = .int .i64 j ∧ v = .string a ∧ a.size ≤ 1000000 ∧ Hid (refL [] P = refL a.data.toList ((L.drop j).map (·.data.toList) ++ restP l (k + 1))) ∧ Hid (Below w2.heap.size w2 wr)) (fun _ i _ => m - (intOf i).toNat)
      case atStart => exact ⟨0, a, Nat.zero_le _, rfl, rfl, haz, HI, Below.refl _ _⟩
      case round =>
        clear HI haz
        obtain ⟨j, a, hj, rfl, rfl, haz, HI, HB3⟩ := hrel
        by_cases hlj : j < m
        · obtain ⟨y, hy⟩ : ∃ y, L[j]? = some y := ⟨L[j]'(by rw [HM.out]; exact hlj), List.getElem?_eq_getElem (by rw [HM.out]; exact hlj)⟩
          obtain ⟨b2, off2, u, rfl, hbb2, hu, hcu⟩ := L2.out.at_ hlj
          have hux : u = .string y := by rw [List.getElem?_map, hy] at hu; exact (Option.some.inj hu).symm
          subst hux
          have hys : y.size ≤ 1000000 := Nat.le_trans (HSS.out y (List.mem_of_getElem? hy)) hxs
          have c2 := (HB3.out.cell (p := ⟨b2, off2 + j, none⟩) hbb2).trans hcu
          have hdr : (L.drop j).map (·.data.toList) ++ restP l (k + 1) = y.data.toList :: ((L.drop (j + 1)).map (·.data.toList) ++ restP l (k + 1)) := by
            obtain ⟨hjl, hyy⟩ := List.getElem?_eq_some_iff.1 hy
            rw [List.drop_eq_getElem_cons hjl, hyy, List.map_cons]
            rfl
          rw [hdr, refL] at HI
          have HBA := Lib.hid (bare_any y wr (by omega))
          clear hy hu hcu hdr
          cases hd : digitsOK y.data.toList with
          | false =>
            have hno := bareV_no hd
            rw [hno] at HBA
            rw [hd] at HI
            have hlen := len_none HNE.out (by rw [HI.out]; rfl)
            have HL9 := Lib.hid hlen
            clear hno hd hlen
            go_wp2_with fail
            refine (HBA.out).mono ?_
            rintro e w4 ⟨rfl, q, rfl⟩
            have B4 := Lib.hid (B2.out.trans ((below_drewN HB3.out q).mono B2.out.size))
            go_wp2_with fail
            go_ret3
            exact ⟨congrArg (fun r => Ending.returned (lenV .i64 r)) HL9.out.symm, B4.out⟩
          | true =>
            have hyes := bareV_yes hd
            obtain ⟨Y, hY⟩ : ∃ Y : ByteArray, ⟨(bareR y.data.toList).toArray⟩ = Y := ⟨_, rfl⟩
            have hYd : Y.data.toList = bareR y.data.toList := by rw [← hY]
            have hYs : Y.size ≤ 1000000 := by
              have h1 := bareR_len y.data.toList
              rw [← hYd] at h1
              exact Nat.le_trans h1 hys
            rw [hY] at hyes
            rw [hyes] at HBA
            rw [hd] at HI
            have hE := emptyS a
            have HYD := Lib.hid hYd
            clear hY hyes hd hYd
            go_wp2_with fail
            refine (HBA.out).mono ?_
            rintro e w4 ⟨rfl, q, rfl⟩
            have HB4 := Lib.hid (below_drewN HB3.out q)
            have hno0 : Hid (Below w.heap.size w (wr.drewN q)) := Lib.hid (B2.out.trans (HB4.out.mono B2.out.size))
            have hdata : a.data.toList.length = a.size := rfl
            by_cases ha0 : a.size = 0
            · rw [decide_eq_true ha0] at hE
              have hI2 : refL [] P = refL Y.data.toList ((L.drop (j + 1)).map (·.data.toList) ++ restP l (k + 1)) := by
                rw [HI.out, HYD.out, List.eq_nil_of_length_eq_zero (show a.data.toList.length = 0 by omega)]
                rfl
              have HI2 := Lib.hid hI2
              clear hI2 HI hdata
              go_wp2_with fail
              go_roundw
              case rel => exact ⟨j + 1, Y, by omega, by go_num, rfl, hYs, HI2, HB4⟩
              case measure => simp [intOf]; omega
            · rw [decide_eq_false ha0] at hE
              have hne0 : a.data.toList.isEmpty = false := by
                rw [List.isEmpty_eq_false_iff]
                intro e
                rw [e] at hdata
                simp at hdata
                omega
              by_cases haY : a.data.toList = Y.data.toList
              · have hq : (a.toList == Y.toList) = true := by rw [Go.ByteArray.toList_eq, Go.ByteArray.toList_eq]; exact beq_iff_eq.2 haY
                have hI2 : refL [] P = refL Y.data.toList ((L.drop (j + 1)).map (·.data.toList) ++ restP l (k + 1)) := by
                  rw [HI.out, ← HYD.out, haY]
                  simp
                have HI2 := Lib.hid hI2
                clear hI2 HI hdata hne0 haY
                go_wp2_with fail
                go_roundw
                case rel => exact ⟨j + 1, Y, by omega, by go_num, rfl, hYs, HI2, HB4⟩
                case measure => simp [intOf]; omega
              · have hq : (a.toList == Y.toList) = false := by rw [Go.ByteArray.toList_eq, Go.ByteArray.toList_eq]; exact beq_eq_false_iff_ne.2 haY
                have hlen := len_none HNE.out (by
                  rw [HI.out, ← HYD.out, hne0]
                  have : (a.data.toList != Y.data.toList) = true := bne_iff_ne.2 haY
                  rw [this]
                  rfl)
                have HL9 := Lib.hid hlen
                clear HI hdata hne0 haY hlen
                go_wp2_with fail
                go_ret3
                exact ⟨congrArg (fun r => Ending.returned (lenV .i64 r)) HL9.out.symm, hno0.out⟩
        · obtain rfl : j = m := by omega
          have hdr : L.drop j = [] := List.drop_of_length_le (by rw [HM.out]; exact Nat.le_refl _)
          rw [hdr] at HI
          have HB4 := Lib.hid (B2.out.trans (HB3.out.mono B2.out.size))
          clear hdr
          go_wp2_with fail
          go_roundw
          case rel => exact ⟨k + 1, a, by omega, by go_num, rfl, haz, HI, HB4⟩
          case measure => simp [intOf]; omega
    · obtain rfl : k = n := by omega
      rw [restP_end (by rw [HLL.out]; exact Nat.le_refl _), refL] at HI
      have hlen := len_some HNE.out HI.out
      have HL9 := Lib.hid hlen
      have HNU := Lib.hid (rnumber_any a 65536 wr (by omega))
      clear HI hlen
      cases hnum : numB a.data.toList 65536 with
      | none =>
        have hv := numV_none hnum
        rw [hv] at HNU
        rw [hnum] at HL9
        clear hv hnum
        go_wp2_with fail
        refine (HNU.out).mono ?_
        rintro e w4 ⟨rfl, rfl⟩
        go_wp2_with fail
        go_ret3
        exact ⟨congrArg (fun r => Ending.returned (lenV .i64 r)) HL9.out.symm, HB.out⟩
      | some z =>
        have hv := numV_some hnum
        rw [hv] at HNU
        rw [hnum] at HL9
        clear hv hnum
        go_wp2_with fail
        refine (HNU.out).mono ?_
        rintro e w4 ⟨rfl, rfl⟩
        go_wp2_with fail
        go_ret3
        exact ⟨congrArg (fun r => Ending.returned (lenV .i64 r)) HL9.out.symm, HB.out⟩
end Go.Proofs.YtonlfplloenfcaaGreatDoor
namespace Go.Proofs.YtonlfplloenfcaaGreatDoor
open Go.RowKit

set_option maxRecDepth 100000 in
set_option maxHeartbeats 1000000 in
theorem rhow_any (m s1 s2 : ByteArray) (st : Int) (A A2 : Option Addr) (n c n2 c2 : Nat) (fs : List Fd) (w : World) (h : FRead w w.heap.size A n fs) (hn : n ≤ 100000) (hfs : ∀ f ∈ fs, f.1.size ≤ 1000000 ∧ f.2.size ≤ 1000000) :
    Calls Tryz.prog 43 #[.string m, .agg #[.string s1, .string s2, .int .i64 st, .slice A n c, .slice A2 n2 c2]] w fun e w' => e = .returned (lenV .i64 (howM m st fs)) ∧ Below w.heap.size w w' := by
  have hk0 := Blk.new w 25 #[.string s1, .string s2, .int .i64 st, .slice A n c, .slice A2 n2 c2]
  have hB0 : Below w.heap.size w (w.alloc (.cells #[.string s1, .string s2, .int .i64 st, .slice A n c, .slice A2 n2 c2] 25)) := (Below.refl _ _).alloc (Nat.le_refl _) _
  have H := Lib.hid h
  have HFS := Lib.hid hfs
  have K0 := Lib.hid hk0
  have B0 := Lib.hid hB0
  have HF1 := Lib.hid (fun (W : World) (hb : Below w.heap.size w W) => rfind_any A n c fs teB W ((h.below hb).more hb.size) hn (by decide) (fun f hf => by have := (hfs f hf).1; omega))
  have HF2 := Lib.hid (fun (W : World) (hb : Below w.heap.size w W) => rfind_any A n c fs clB W ((h.below hb).more hb.size) hn (by decide) (fun f hf => by have := (hfs f hf).1; omega))
  have hs1 : ∀ x ∈ findB fs teB, x.size ≤ 1000000 := findB_size fun f hf => (hfs f hf).2
  have hs2 : ∀ x ∈ findB fs clB, x.size ≤ 1000000 := findB_size fun f hf => (hfs f hf).2
  have hl1 := findB_len fs teB n
  have hl2 := findB_len fs clB n
  rw [List.take_of_length_le (by rw [h.1]; exact Nat.le_refl _)] at hl1 hl2
  have hl0 : w.heap.size < (w.alloc (.cells #[.string s1, .string s2, .int .i64 st, .slice A n c, .slice A2 n2 c2] 25)).heap.size := by simp
  have HS := Lib.hid (And.intro hs1 hs2)
  clear h hfs hk0 hB0 hs1 hs2
  go_enter Tryz.func43, Tryz.ntmps43
  go_upto_region 1 with fail
  generalize w.alloc (.cells #[.string s1, .string s2, .int .i64 st, .slice A n c, .slice A2 n2 c2] 25) = W0 at *
  have a2 := K0.out.cell 2
  have a3 := K0.out.cell 3
  simp at a2 a3
  obtain ⟨N, hN⟩ : ∃ N, howNone m st = N := ⟨_, rfl⟩
  have HN := Lib.hid hN
  go_cut [30] from 9 (fun s wx => s = .bool N ∧ wx = W0)
  case first =>
    unfold howNone at hN
    cases hm : (m.data.toList == [72, 69, 65, 68]) with
    | true =>
      have hm2 : (m.toList == [72, 69, 65, 68]) = true := by rw [Go.ByteArray.toList_eq]; exact hm
      rw [hm] at hN
      go_wp2_with fail
      go_meet
      exact ⟨by rw [← hN]; rfl, rfl⟩
    | false =>
      have hm2 : (m.toList == [72, 69, 65, 68]) = false := by rw [Go.ByteArray.toList_eq]; exact hm
      rw [hm] at hN
      cases h1 : decide (100 ≤ st) <;> cases h2 : decide (st ≤ 199) <;> cases h3 : (st == 204) <;> cases h4 : (st == 304) <;> rw [h1, h2, h3, h4] at hN
      all_goals
        go_wp2_with fail
        go_meet
        exact ⟨by rw [← hN]; rfl, rfl⟩
  case rest =>
  obtain ⟨rfl, rfl⟩ := hcut
  cases N with
  | true =>
    have hv : howM m st fs = (0, 0, 0) := by unfold howM; rw [HN.out]; rfl
    have HV := Lib.hid hv
    clear hv
    go_wp2_with fail
    go_ret3
    exact ⟨congrArg (fun r => Ending.returned (lenV .i64 r)) HV.out.symm, B0.out⟩
  | false =>
    have hv : howM m st fs = howA (findB fs teB) (findB fs clB) (chFirst (findB fs teB)) := by unfold howM; rw [HN.out]; rfl
    have HV := Lib.hid hv
    clear hv HN hN
    have HF1' := HF1.out wc B0.out
    unfold teB at HF1'
    have HG1 := Lib.hid HF1'
    clear HF1'
    go_wp2_with fail
    refine (HG1.out).mono ?_
    rintro e w1 ⟨⟨v1, rfl, ho1⟩, hb1⟩
    have e1 : findB fs ⟨#[84, 114, 97, 110, 115, 102, 101, 114, 45, 69, 110, 99, 111, 100, 105, 110, 103]⟩ = findB fs teB := rfl
    rw [e1] at ho1
    have B1 := Lib.hid (B0.out.trans (hb1.mono B0.out.size))
    have K1 := Lib.hid (K0.out.below hb1 hl0)
    have b3 := K1.out.cell 3
    simp at b3
    have hl1' : w.heap.size < w1.heap.size := K1.out.lt
    have O1 := Lib.hid ho1
    have HF2' := HF2.out w1 B1.out
    unfold clB at HF2'
    have HG2 := Lib.hid HF2'
    clear HF2' ho1 hb1 e1 HG1 HF1 a2 a3 K0
    go_wp2_with fail
    refine (HG2.out).mono ?_
    rintro e w2 ⟨⟨v2, rfl, ho2⟩, hb2⟩
    have e2 : findB fs ⟨#[67, 111, 110, 116, 101, 110, 116, 45, 76, 101, 110, 103, 116, 104]⟩ = findB fs clB := rfl
    rw [e2] at ho2
    have B2 := Lib.hid (B1.out.trans (hb2.mono B1.out.size))
    have O2 := Lib.hid ho2
    have O1' := Lib.hid (own_below O1.out hb2)
    clear ho2 hb2 e2 HG2 HF2 O1 b3 K1
    obtain ⟨C, hC⟩ : ∃ C, findB fs teB = C := ⟨_, rfl⟩
    obtain ⟨S, hS⟩ : ∃ S, findB fs clB = S := ⟨_, rfl⟩
    rw [hC] at hl1 HS HV
    rw [hS] at hl2 HS HV
    obtain ⟨A1, c1, rfl⟩ := own_form O1'.out
    obtain ⟨A3, c3, rfl⟩ := own_form O2.out
    have L1 := Lib.hid (Lies.of_own O1'.out)
    have L2 := Lib.hid (Lies.of_own O2.out)
    obtain ⟨p, hp⟩ : ∃ p, C.length = p := ⟨_, rfl⟩
    obtain ⟨r, hr⟩ : ∃ r, S.length = r := ⟨_, rfl⟩
    rw [hC, hp] at L1
    rw [hS, hr] at L2
    rw [hp] at hl1
    rw [hr] at hl2
    rw [hC, hp, hS, hr]
    have HP := Lib.hid hp
    have HR := Lib.hid hr
    clear O1' O2 hp hr hC hS
    by_cases hp0 : p = 0
    · subst hp0
      by_cases hr0 : r = 0
      · subst hr0
        have HV2 := Lib.hid (HV.out.trans (howA_close HP.out HR.out))
        clear HV
        go_wp2_with fail
        go_ret3
        exact ⟨congrArg (fun r => Ending.returned (lenV .i64 r)) HV2.out.symm, B2.out⟩
      · have HV2 := Lib.hid (HV.out.trans (howA_len HP.out (by rw [HR.out]; omega)))
        have hd : ((r : Int) == 0) = false := beq_eq_false_iff_ne.2 (by omega)
        have HLE := Lib.hid (rlength_any A3 r c3 S w2 L2.out (by omega) (by omega) (fun x hx => HS.out.2 x hx))
        obtain ⟨⟨z1, z2, z3⟩, hz⟩ : ∃ z, lenA (partsA (S.map (·.data.toList))) = z := ⟨_, rfl⟩
        rw [hz, show lenV .i64 (z1, z2, z3) = .tuple #[.int .i64 z1, .int .i64 z2, .int .i64 z3] from rfl] at HLE
        rw [hz] at HV2
        clear HV hz
        go_wp2_with fail
        refine (HLE.out).mono ?_
        rintro e w3 ⟨rfl, hb3⟩
        have B3 := Lib.hid (B2.out.trans (hb3.mono B2.out.size))
        clear hb3
        go_wp2_with fail
        go_ret3
        exact ⟨congrArg (fun r => Ending.returned (lenV .i64 r)) HV2.out.symm, B3.out⟩
    · have hd1 : decide ((0 : Int) < (p : Int)) = true := decide_eq_true (by omega)
      by_cases hr0 : r = 0
      · subst hr0
        by_cases hp1 : p = 1
        · subst hp1
          obtain ⟨b, off, u, rfl, hbb, hu, hcu⟩ := L1.out.at_ (k := 0) (by omega)
          obtain ⟨x, rfl⟩ : ∃ x, C = [x] := List.length_eq_one_iff.1 HP.out
          have hux : u = .string x := (Option.some.inj hu).symm
          subst hux
          rw [Nat.add_zero] at hcu
          have hxs := HS.out.1 x List.mem_cons_self
          have HSA := Lib.hid (rSame_any x ⟨#[99, 104, 117, 110, 107, 101, 100]⟩ w2 (by omega) (by decide))
          have hch : chFirst [x] = sameB x.data.toList (⟨#[99, 104, 117, 110, 107, 101, 100]⟩ : ByteArray).data.toList := rfl
          obtain ⟨q, hq⟩ : ∃ q, sameB x.data.toList (⟨#[99, 104, 117, 110, 107, 101, 100]⟩ : ByteArray).data.toList = q := ⟨_, rfl⟩
          rw [hq] at hch HSA
          rw [hch] at HV
          clear hq hch hu
          cases q with
          | true =>
            have HV2 := Lib.hid (HV.out.trans (howA_chunks HP.out HR.out rfl))
            clear HV
            go_wp2_with fail
            refine (HSA.out).mono ?_
            rintro e w3 ⟨rfl, hb3⟩
            have B3 := Lib.hid (B2.out.trans (hb3.mono B2.out.size))
            clear hb3
            go_wp2_with fail
            go_ret3
            exact ⟨congrArg (fun r => Ending.returned (lenV .i64 r)) HV2.out.symm, B3.out⟩
          | false =>
            have HV2 := Lib.hid (HV.out.trans (howA_bad (by rw [HP.out]; omega) (fun hh => by cases hh.2.2)))
            clear HV
            go_wp2_with fail
            refine (HSA.out).mono ?_
            rintro e w3 ⟨rfl, hb3⟩
            have B3 := Lib.hid (B2.out.trans (hb3.mono B2.out.size))
            clear hb3
            go_wp2_with fail
            go_ret3
            exact ⟨congrArg (fun r => Ending.returned (lenV .i64 r)) HV2.out.symm, B3.out⟩
        · have hd2 : decide ((1 : Int) < (p : Int)) = true := decide_eq_true (by omega)
          have HV2 := Lib.hid (HV.out.trans (howA_bad (by rw [HP.out]; omega) (fun hh => hp1 (HP.out.symm.trans hh.2.1))))
          clear HV
          go_wp2_with fail
          go_ret3
          exact ⟨congrArg (fun r => Ending.returned (lenV .i64 r)) HV2.out.symm, B2.out⟩
      · have hd2 : decide ((0 : Int) < (r : Int)) = true := decide_eq_true (by omega)
        have HV2 := Lib.hid (HV.out.trans (howA_bad (by rw [HP.out]; omega) (fun hh => hr0 (HR.out.symm.trans hh.1))))
        clear HV
        go_wp2_with fail
        go_ret3
        exact ⟨congrArg (fun r => Ending.returned (lenV .i64 r)) HV2.out.symm, B2.out⟩
end Go.Proofs.YtonlfplloenfcaaGreatDoor
