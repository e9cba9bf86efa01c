/-
  SameFields, SameMessage, at what makes them true.
  footmanref12.get: a head's lines, and how many bytes it has.
-/
import Derived.Test.YtonlfplloenfcaaGreatDoorSameEtc
import Derived.Test.YtonlfplloenfcaaGreatDoorMsgEtc
import Derived.Test.YtonlfplloenfcaaGreatDoorBookByteEtc
namespace Go.Proofs.YtonlfplloenfcaaGreatDoor
open Go.RowKit

set_option maxRecDepth 100000 in
theorem samefields_any (A A2 : Option Addr) (n c c2 B : Nat) (fs : List Fd) (w : World) (h1 : FRead w B A n fs) (h2 : FRead w B A2 n fs) (hn : n ≤ 140737488355328) :
   Calls Tryz.prog 45 #[.slice A n c, .slice A2 n c2] w fun e w' => e = .returned (.bool true) ∧ ∃ q, w' = w.drewN q := by
  have H1 := Lib.hid h1
  have H2 := Lib.hid h2
  clear h1 h2
  go_enter Tryz.func45, Tryz.ntmps45
  go_wp2_with fail
  go_loopw [5] (fun i wr => ∃ k : Nat, k ≤ n ∧ i = .int .i64 k ∧ ∃ q, wr = w.drewN q) (fun i _ => n - (intOf i).toNat)
  case atStart => exact ⟨0, Nat.zero_le _, rfl, 0, rfl⟩
  case round =>
    obtain ⟨k, hk, rfl, q, rfl⟩ := hrel
    by_cases hlt : k < n
    · obtain ⟨hl1, hc1⟩ := H1.out
      obtain ⟨b1, o1, rfl, _, hc1⟩ := hc1 (by omega)
      obtain ⟨hl2, hc2⟩ := H2.out
      obtain ⟨b2, o2, rfl, _, hc2⟩ := hc2 (by omega)
      obtain ⟨f, hf⟩ : ∃ f, fs[k]? = some f := ⟨fs[k]'(by omega), List.getElem?_eq_getElem (by omega)⟩
      have c1 := (hc1 k f hf).1
      have c2 := (hc1 k f hf).2
      have c3 := (hc2 k f hf).1
      have c4 := (hc2 k f hf).2
      clear hc1 hc2 hl1 hl2 hf
      obtain ⟨f1, f2⟩ := f
      simp only at c1 c2 c3 c4
      go_wp2_with fail
      go_quiet (fail)
      go_wp2_with fail
      go_roundw
      case rel => exact ⟨k + 1, by omega, by go_num, _, rfl⟩
      case measure => simp [intOf]; omega
    · go_wp2_with fail
      go_ret
      exact ⟨rfl, _, rfl⟩
set_option maxRecDepth 100000 in
theorem samem_any (s1 s2 : ByteArray) (st : Int) (A A2 C C2 : Option Addr) (n c c2 k d d2 B : Nat) (fs : List Fd) (l : List UInt8) (w : World) (hB : B ≤ w.heap.size) (a1 : FRead w B A n fs) (a2 : FRead w B A2 n fs) (hn : n ≤ 140737488355328)
    (b1 : Lies w B C k (Lib.byteCells l)) (b2 : Lies w B C2 k (Lib.byteCells l)) (hk : k ≤ 140737488355328) :
   Calls Tryz.prog 34 #[.agg #[.string s1, .string s2, .int .i64 st, .slice A n c, .slice C k d], .agg #[.string s1, .string s2, .int .i64 st, .slice A2 n c2, .slice C2 k d2]] w
     fun e w' => e = .returned (.bool true) ∧ Below w.heap.size w w' := by
  have H1 := Lib.hid (fun (W : World) (hb : Below w.heap.size w W) => samefields_any A A2 n c c2 B fs W (a1.below (hb.mono hB)) (a2.below (hb.mono hB)) hn)
  have H2 := Lib.hid (fun (W : World) (hb : Below w.heap.size w W) => samebytes_any C C2 k d d2 B l W (b1.below (hb.mono hB)) (b2.below (hb.mono hB)) hk)
  clear a1 a2 b1 b2
  go_enter Tryz.func34, Tryz.ntmps34
  go_wp2_with fail
  have hk1 := (Blk.new w 25 #[.string s1, .string s2, .int .i64 st, .slice A n c, .slice C k d]).alloc (.cells #[.string s1, .string s2, .int .i64 st, .slice A2 n c2, .slice C2 k d2] 25)
  have hk2 := Blk.new (w.alloc (.cells #[.string s1, .string s2, .int .i64 st, .slice A n c, .slice C k d] 25)) 25 #[.string s1, .string s2, .int .i64 st, .slice A2 n c2, .slice C2 k d2]
  rw [World.size_alloc] at hk2
  have hB0 : Below w.heap.size w ((w.alloc (.cells #[.string s1, .string s2, .int .i64 st, .slice A n c, .slice C k d] 25)).alloc (.cells #[.string s1, .string s2, .int .i64 st, .slice A2 n c2, .slice C2 k d2] 25)) := ((Below.refl _ _).alloc (Nat.le_refl _) _).alloc (by simp) _
  generalize (w.alloc (.cells #[.string s1, .string s2, .int .i64 st, .slice A n c, .slice C k d] 25)).alloc (.cells #[.string s1, .string s2, .int .i64 st, .slice A2 n c2, .slice C2 k d2] 25) = W0 at *
  refine (H1.out _ hB0).mono ?_
  rintro e w1 ⟨rfl, q, rfl⟩
  have c1 := (hk1.drewN q).cell 4
  have c2 := (hk2.drewN q).cell 4
  simp at c1 c2
  have hB1 := below_drewN hB0 q
  have HB0 := Lib.hid hB0
  clear hk1 hk2 hB0
  go_wp2_with fail
  refine (H2.out _ hB1).mono ?_
  rintro e w2 ⟨rfl, q2, rfl⟩
  clear hB1
  go_wp2_with fail
  go_ret
  exact ⟨rfl, below_drewN HB0.out _⟩
end Go.Proofs.YtonlfplloenfcaaGreatDoor
namespace Go.Proofs.YtonlfplloenfcaaGreatDoor
open Go.RowKit
attribute [local go_sem] Oper.semAt_some

theorem Lies.cut {w : World} {B n m : Nat} {A : Option Addr} {l : List UInt8} (h : Lies w B A n (Lib.byteCells l)) (hm : m ≤ n) : Lies w B A m (Lib.byteCells (l.take m)) := by
  have hl : l.length = n := by simpa [Lib.byteCells] using h.1
  refine ⟨by simp [Lib.byteCells]; omega, fun h0 => ?_⟩
  obtain ⟨b, off, hA, hb, hc⟩ := h.2 (by omega)
  refine ⟨b, off, hA, hb, fun j u hj => hc j u ?_⟩
  unfold Lib.byteCells at hj ⊢
  rw [List.map_take, List.getElem?_take] at hj
  split at hj
  · exact hj
  · cases hj

set_option maxRecDepth 100000 in
theorem rget_any (A : Option Addr) (n c : Nat) (l : List UInt8) (w : World) (h : Lies w w.heap.size A n (Lib.byteCells l)) (hc : n ≤ c) (hn : n ≤ 200000) :
    Calls Tryz.prog 108 #[.slice A n c] w fun e w' =>
      (endAt l < 0 ∧ e = .returned (.tuple #[.slice none 0 0, .int .i64 0, .int .i64 (if 65536 ≤ l.length then 3 else 7)]) ∧ w' = w) ∨
      (0 ≤ endAt l ∧ (∃ v, e = .returned (.tuple #[v, .int .i64 (endAt l + 4), .int .i64 0]) ∧ w'.ownsRow w.heap.size 9 1 v (headLines l).length (strL (headLines l))) ∧ Below w.heap.size w w') := by
  have hl : l.length = n := by simpa [Lib.byteCells] using h.1
  have hW := rwhole_any A (min n 65536) c w.heap.size (l.take (min n 65536)) w (h.cut (by omega)) (by omega)
  have htk : l.take (min n 65536) = l.take 65536 := by
    rcases Nat.le_total n 65536 with h1 | h1
    · rw [Nat.min_eq_left h1, List.take_of_length_le (by omega), List.take_of_length_le (by omega)]
    · rw [Nat.min_eq_right h1]
  rw [htk] at hW
  have hval : (if 0 ≤ Lib.index (l.take 65536) headEnd then Lib.index (l.take 65536) headEnd + 4 else -1) = (if 0 ≤ endAt l then endAt l + 4 else (-1 : Int)) := rfl
  rw [hval] at hW
  clear hval htk
  by_cases hneg : 0 ≤ endAt l
  · obtain ⟨E, hE⟩ : ∃ E : Int, E = (if 65536 ≤ l.length then 3 else 7) := ⟨_, rfl⟩
    rw [← hE]
    clear hE
    obtain ⟨k, hk, hk1, hk2, hf, hfirst⟩ := endAt_spec l hneg
    rw [if_pos hneg, hk] at hW
    have hlk : headLines l = splitB ((l.take (k + 4)).take k) := by
      unfold headLines
      rw [hk, Int.toNat_natCast, List.take_take, Nat.min_eq_left (by omega)]
    have hf4 : fourAt (l.take (k + 4)) k := by
      unfold fourAt at hf ⊢
      rw [List.getElem?_take, List.getElem?_take, List.getElem?_take, List.getElem?_take, if_pos (by omega), if_pos (by omega), if_pos (by omega), if_pos (by omega)]
      exact hf
    have hR := rlines_any A (k + 4) c k (l.take (k + 4)) w (h.cut (by omega)) (by omega) rfl (by omega) hf4
    rw [← hlk] at hR
    have HR := Lib.hid hR
    have HK := Lib.hid hk
    have HN := Lib.hid hneg
    have hkn : k + 4 ≤ n := by omega
    have hkc : k + 4 ≤ c := by omega
    clear hf hf4 hfirst hlk hR hk hneg hk1 h
    rcases Nat.lt_or_ge 65536 n with hb | hb
    · rw [Nat.min_eq_right (by omega)] at hW
      have hc6 : 65536 ≤ c := by omega
      have HW := Lib.hid hW
      clear hW
      go_enter Tryz.func108, Tryz.ntmps108
      go_wp2_with fail
      refine (HW.out).mono ?_
      rintro e w1 ⟨rfl, rfl⟩
      go_wp2_with fail
      refine (HR.out).mono ?_
      rintro e w1 ⟨⟨v, rfl, hown⟩, hb1⟩
      go_wp2_with fail
      go_ret3
      exact .inr ⟨HN.out, ⟨v, by rw [HK.out]; rfl, hown⟩, hb1⟩
    · rw [Nat.min_eq_left (by omega)] at hW
      have HW := Lib.hid hW
      clear hW
      go_enter Tryz.func108, Tryz.ntmps108
      go_wp2_with fail
      refine (HW.out).mono ?_
      rintro e w1 ⟨rfl, rfl⟩
      go_wp2_with fail
      refine (HR.out).mono ?_
      rintro e w1 ⟨⟨v, rfl, hown⟩, hb1⟩
      go_wp2_with fail
      go_ret3
      exact .inr ⟨HN.out, ⟨v, by rw [HK.out]; rfl, hown⟩, hb1⟩
  · have hng : endAt l < 0 := by omega
    rw [if_neg hneg] at hW
    have HN := Lib.hid hng
    clear hng hneg h
    rcases Nat.lt_or_ge 65536 n with hb | hb
    · rw [Nat.min_eq_right (by omega)] at hW
      have hc6 : 65536 ≤ c := by omega
      have hb3 : (65536 : Int) ≤ (n : Int) := by omega
      have hE : (if 65536 ≤ l.length then 3 else 7 : Int) = 3 := by rw [if_pos (by omega)]
      rw [hE]
      have HW := Lib.hid hW
      clear hW hE
      go_enter Tryz.func108, Tryz.ntmps108
      go_wp2_with fail
      refine (HW.out).mono ?_
      rintro e w1 ⟨rfl, rfl⟩
      go_wp2_with fail
      go_ret3
      exact .inl ⟨HN.out, rfl, rfl⟩
    · rw [Nat.min_eq_left (by omega)] at hW
      rcases Nat.lt_or_ge n 65536 with hb2 | hb2
      · have hb3 : decide ((65536 : Int) ≤ (n : Int)) = false := decide_eq_false (by omega)
        have hb4 : ¬ (65536 : Int) ≤ (n : Int) := by omega
        have hb5 : (n : Int) < 65536 := by omega
        have hE : (if 65536 ≤ l.length then 3 else 7 : Int) = 7 := by rw [if_neg (by omega)]
        rw [hE]
        have HW := Lib.hid hW
        clear hW hE
        go_enter Tryz.func108, Tryz.ntmps108
        go_wp2_with fail
        refine (HW.out).mono ?_
        rintro e w1 ⟨rfl, rfl⟩
        go_wp2_with fail
        go_ret3
        exact .inl ⟨HN.out, rfl, rfl⟩
      · have hb3 : (65536 : Int) ≤ (n : Int) := by omega
        have hE : (if 65536 ≤ l.length then 3 else 7 : Int) = 3 := by rw [if_pos (by omega)]
        rw [hE]
        have HW := Lib.hid hW
        clear hW hE
        go_enter Tryz.func108, Tryz.ntmps108
        go_wp2_with fail
        refine (HW.out).mono ?_
        rintro e w1 ⟨rfl, rfl⟩
        go_wp2_with fail
        go_ret3
        exact .inl ⟨HN.out, rfl, rfl⟩
end Go.Proofs.YtonlfplloenfcaaGreatDoor
