/-
  footmanref12.get: a head's lines, and how many bytes it has.
-/
import Derived.Test.YtonlfplloenfcaaGreatDoorRefWholeEtc
import Derived.Test.YtonlfplloenfcaaGreatDoorReadFactsEtc
namespace Go.Proofs.YtonlfplloenfcaaGreatDoor
open Go.RowKit
attribute [local go_sem] Oper.semAt_some

theorem Lies.cut {w : World} {B n m : Nat} {A : Option Addr} {l : List UInt8} (h : Lies w B A n (Lib.byteCells l)) (hm : m ≤ n) : Lies w B A m (Lib.byteCells (l.take m)) := by
  have hl : l.length = n := by simpa [Lib.byteCells] using h.1
  refine ⟨by simp [Lib.byteCells]; omega, fun h0 => ?_⟩
  obtain ⟨b, off, hA, hb, hc⟩ := h.2 (by omega)
  refine ⟨b, off, hA, hb, fun j u hj => hc j u ?_⟩
  unfold Lib.byteCells at hj ⊢
  rw [List.map_take, List.getElem?_take] at hj
  split at hj
  · exact hj
  · cases hj

set_option maxRecDepth 100000 in
theorem rget_any (A : Option Addr) (n c : Nat) (l : List UInt8) (w : World) (h : Lies w w.heap.size A n (Lib.byteCells l)) (hc : n ≤ c) (hn : n ≤ 200000) :
    Calls Tryz.prog 108 #[.slice A n c] w fun e w' =>
      (endAt l < 0 ∧ e = .returned (.tuple #[.slice none 0 0, .int .i64 0, .int .i64 (if 65536 ≤ l.length then 3 else 7)]) ∧ w' = w) ∨
      (0 ≤ endAt l ∧ (∃ v, e = .returned (.tuple #[v, .int .i64 (endAt l + 4), .int .i64 0]) ∧ w'.ownsRow w.heap.size 9 1 v (headLines l).length (strL (headLines l))) ∧ Below w.heap.size w w') := by
  have hl : l.length = n := by simpa [Lib.byteCells] using h.1
  have hW := rwhole_any A (min n 65536) c w.heap.size (l.take (min n 65536)) w (h.cut (by omega)) (by omega)
  have htk : l.take (min n 65536) = l.take 65536 := by
    rcases Nat.le_total n 65536 with h1 | h1
    · rw [Nat.min_eq_left h1, List.take_of_length_le (by omega), List.take_of_length_le (by omega)]
    · rw [Nat.min_eq_right h1]
  rw [htk] at hW
  have hval : (if 0 ≤ Lib.index (l.take 65536) headEnd then Lib.index (l.take 65536) headEnd + 4 else -1) = (if 0 ≤ endAt l then endAt l + 4 else (-1 : Int)) := rfl
  rw [hval] at hW
  clear hval htk
  by_cases hneg : 0 ≤ endAt l
  · obtain ⟨E, hE⟩ : ∃ E : Int, E = (if 65536 ≤ l.length then 3 else 7) := ⟨_, rfl⟩
    rw [← hE]
    clear hE
    obtain ⟨k, hk, hk1, hk2, hf, hfirst⟩ := endAt_spec l hneg
    rw [if_pos hneg, hk] at hW
    have hlk : headLines l = splitB ((l.take (k + 4)).take k) := by
      unfold headLines
      rw [hk, Int.toNat_natCast, List.take_take, Nat.min_eq_left (by omega)]
    have hf4 : fourAt (l.take (k + 4)) k := by
      unfold fourAt at hf ⊢
      rw [List.getElem?_take, List.getElem?_take, List.getElem?_take, List.getElem?_take, if_pos (by omega), if_pos (by omega), if_pos (by omega), if_pos (by omega)]
      exact hf
    have hR := rlines_any A (k + 4) c k (l.take (k + 4)) w (h.cut (by omega)) (by omega) rfl (by omega) hf4
    rw [← hlk] at hR
    have HR := Lib.hid hR
    have HK := Lib.hid hk
    have HN := Lib.hid hneg
    have hkn : k + 4 ≤ n := by omega
    have hkc : k + 4 ≤ c := by omega
    clear hf hf4 hfirst hlk hR hk hneg hk1 h
    rcases Nat.lt_or_ge 65536 n with hb | hb
    · rw [Nat.min_eq_right (by omega)] at hW
      have hc6 : 65536 ≤ c := by omega
      have HW := Lib.hid hW
      clear hW
      go_enter Tryz.func108, Tryz.ntmps108
      go_wp2_with fail
      refine (HW.out).mono ?_
      rintro e w1 ⟨rfl, rfl⟩
      go_wp2_with fail
      refine (HR.out).mono ?_
      rintro e w1 ⟨⟨v, rfl, hown⟩, hb1⟩
      go_wp2_with fail
      go_ret3
      exact .inr ⟨HN.out, ⟨v, by rw [HK.out]; rfl, hown⟩, hb1⟩
    · rw [Nat.min_eq_left (by omega)] at hW
      have HW := Lib.hid hW
      clear hW
      go_enter Tryz.func108, Tryz.ntmps108
      go_wp2_with fail
      refine (HW.out).mono ?_
      rintro e w1 ⟨rfl, rfl⟩
      go_wp2_with fail
      refine (HR.out).mono ?_
      rintro e w1 ⟨⟨v, rfl, hown⟩, hb1⟩
      go_wp2_with fail
      go_ret3
      exact .inr ⟨HN.out, ⟨v, by rw [HK.out]; rfl, hown⟩, hb1⟩
  · have hng : endAt l < 0 := by omega
    rw [if_neg hneg] at hW
    have HN := Lib.hid hng
    clear hng hneg h
    rcases Nat.lt_or_ge 65536 n with hb | hb
    · rw [Nat.min_eq_right (by omega)] at hW
      have hc6 : 65536 ≤ c := by omega
      have hb3 : (65536 : Int) ≤ (n : Int) := by omega
      have hE : (if 65536 ≤ l.length then 3 else 7 : Int) = 3 := by rw [if_pos (by omega)]
      rw [hE]
      have HW := Lib.hid hW
      clear hW hE
      go_enter Tryz.func108, Tryz.ntmps108
      go_wp2_with fail
      refine (HW.out).mono ?_
      rintro e w1 ⟨rfl, rfl⟩
      go_wp2_with fail
      go_ret3
      exact .inl ⟨HN.out, rfl, rfl⟩
    · rw [Nat.min_eq_left (by omega)] at hW
      rcases Nat.lt_or_ge n 65536 with hb2 | hb2
      · have hb3 : decide ((65536 : Int) ≤ (n : Int)) = false := decide_eq_false (by omega)
        have hb4 : ¬ (65536 : Int) ≤ (n : Int) := by omega
        have hb5 : (n : Int) < 65536 := by omega
        have hE : (if 65536 ≤ l.length then 3 else 7 : Int) = 7 := by rw [if_neg (by omega)]
        rw [hE]
        have HW := Lib.hid hW
        clear hW hE
        go_enter Tryz.func108, Tryz.ntmps108
        go_wp2_with fail
        refine (HW.out).mono ?_
        rintro e w1 ⟨rfl, rfl⟩
        go_wp2_with fail
        go_ret3
        exact .inl ⟨HN.out, rfl, rfl⟩
      · have hb3 : (65536 : Int) ≤ (n : Int) := by omega
        have hE : (if 65536 ≤ l.length then 3 else 7 : Int) = 3 := by rw [if_pos (by omega)]
        rw [hE]
        have HW := Lib.hid hW
        clear hW hE
        go_enter Tryz.func108, Tryz.ntmps108
        go_wp2_with fail
        refine (HW.out).mono ?_
        rintro e w1 ⟨rfl, rfl⟩
        go_wp2_with fail
        go_ret3
        exact .inl ⟨HN.out, rfl, rfl⟩
end Go.Proofs.YtonlfplloenfcaaGreatDoor
