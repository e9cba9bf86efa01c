/-
  footmanref13.line: a line, and where it ends.
  footmanref12.get: a head's lines, and how many bytes it has.
-/
import Derived.Test.YtonlfplloenfcaaGreatDoorBytesEtc
import Derived.Test.YtonlfplloenfcaaGreatDoorChunkSt
import Derived.Lib.QuietBelow
import Derived.Test.YtonlfplloenfcaaGreatDoorRefWhole
import Derived.Test.YtonlfplloenfcaaGreatDoorMsgEtc
namespace Go.Proofs.YtonlfplloenfcaaGreatDoor
open Go.RowKit
attribute [local go_sem] Oper.semAt_some

/-- What a line from place k on is answered as. -/
def lineC (l : List UInt8) (k : Nat) : Value := match lineA (l.drop k) with
  | .limit => .tuple #[.string ⟨#[]⟩, .int .i64 0, .int .i64 3]
  | .short => .tuple #[.string ⟨#[]⟩, .int .i64 (-1), .int .i64 0]
  | .line n => .tuple #[.string ⟨((l.drop k).take n).toArray⟩, .int .i64 ((k + n + 2 : Nat) : Int), .int .i64 0]
theorem eol_dec (l : List UInt8) (k : Nat) (h : k + 1 < l.length) : eolAt l k ↔ (l[k].toNat = 13 ∧ l[k + 1].toNat = 10) := by
  unfold eolAt
  rw [List.getElem?_eq_getElem (by omega), List.getElem?_eq_getElem (by omega)]
  simp only [Option.some.injEq, ← UInt8.toNat_inj]
  exact Iff.rfl
theorem lineC_hit {l : List UInt8} {k i : Nat} (hk : k ≤ i) (h : eolAt l i) (hn : ∀ j, k ≤ j → j < i → ¬ eolAt l j) :
    lineC l k = if 65536 < i - k then .tuple #[.string ⟨#[]⟩, .int .i64 0, .int .i64 3] else .tuple #[.string ⟨((l.drop k).take (i - k)).toArray⟩, .int .i64 ((i + 2 : Nat) : Int), .int .i64 0] := by
  have h1 : eolAt (l.drop k) (i - k) := (eol_drop l k _).2 (by rw [Nat.add_sub_cancel' hk]; exact h)
  have h2 : ∀ j, j < i - k → ¬ eolAt (l.drop k) j := fun j hj hc => hn (k + j) (by omega) (by omega) ((eol_drop l k j).1 hc)
  unfold lineC
  split
  · rename_i h3
    rw [if_pos]
    rcases Nat.lt_or_ge 65536 (i - k) with h4 | h4
    · exact h4
    · rw [line_mk h4 h1 h2] at h3
      cases h3
  · rename_i h3
    exact absurd h1 ((line_short h3).1 _)
  · rename_i n h3
    rcases Nat.lt_or_ge 65536 (i - k) with h4 | h4
    · rw [line_far h4 h1 h2] at h3
      cases h3
    · rw [line_mk h4 h1 h2] at h3
      injection h3 with h3
      rw [if_neg (by omega), ← h3]
      have e : k + (i - k) + 2 = i + 2 := by omega
      rw [e]
theorem lineC_miss {l : List UInt8} {k : Nat} (hn : ∀ j, k ≤ j → ¬ eolAt l j) :
    lineC l k = if 65537 < l.length - k then .tuple #[.string ⟨#[]⟩, .int .i64 0, .int .i64 3] else .tuple #[.string ⟨#[]⟩, .int .i64 (-1), .int .i64 0] := by
  unfold lineC
  rw [line_no fun j hc => hn (k + j) (by omega) ((eol_drop l k j).1 hc), List.length_drop]
  by_cases h : 65537 < l.length - k
  · rw [if_pos h, if_pos h]
  · rw [if_neg h, if_neg h]

set_option maxRecDepth 100000 in
theorem r13line_any (A : Option Addr) (n c k0 : Nat) (l : List UInt8) (w : World) (h : Lies w w.heap.size A n (Lib.byteCells l)) (hc : n ≤ c) (hn : n ≤ 140737488355328) (hk0 : k0 ≤ n) :
    Calls Tryz.prog 112 #[.slice A n c, .int .i64 (k0 : Int)] w fun e w' => e = .returned (lineC l k0) ∧ w' = w := by
  have hl : l.length = n := by simpa [Lib.byteCells] using h.1
  obtain ⟨z, hz⟩ : ∃ z, z = lineC l k0 := ⟨_, rfl⟩
  rw [← hz]
  have HZ := Lib.hid hz
  clear hz
  go_enter Tryz.func112, Tryz.ntmps112
  go_wp2_with fail
  go_loopw [7] (fun i wr => ∃ k : Nat, k0 ≤ k ∧ k ≤ n ∧ i = .int .i64 k ∧ Hid (∀ j, k0 ≤ j → j < k → ¬ eolAt l j) ∧ wr = w)
    (fun i _ => n - (intOf i).toNat)
  case atStart => exact ⟨k0, Nat.le_refl _, hk0, rfl, fun j h1 h2 => by omega, rfl⟩
  case round =>
    obtain ⟨k, hkk, hk, rfl, hp, hw⟩ := hrel
    subst hw
    by_cases hlt : k + 1 < n
    · obtain ⟨b, off, rfl, hbb, hcc⟩ := h.2 (by omega)
      have hat : ∀ j (hj : j < l.length), wr.cell? ⟨b, off + j, none⟩ = some (.int .u8 (l[j].toNat : Int)) := fun j hj => by
        refine hcc j _ ?_
        unfold Lib.byteCells
        rw [List.getElem?_map, List.getElem?_eq_getElem hj]
        rfl
      have c0 := hat k (by omega)
      have c1 := hat (k + 1) (by omega)
      have he := eol_dec l k (by omega)
      have hcv : ∀ m, k0 + m ≤ n → ∀ cap, (convert 23 9 (.slice (some ⟨b, off + k0, none⟩) m cap)).run Tryz.prog wr = .ok (.string ⟨((l.drop k0).take m).toArray⟩) wr := fun m hm cap => by
        have hlen : ((l.drop k0).take m).length = m := by rw [List.length_take, List.length_drop, hl]; omega
        have := run_convert_bytes_back (P := Tryz.prog) wr 23 9 5 ⟨b, off + k0, none⟩ cap ((l.drop k0).take m) Tryz.underlying23 Tryz.underlying5 Tryz.underlying9 (fun j hj => by
          rw [Addr.add_lit, Nat.add_assoc]
          refine (hcc (k0 + j) _ ?_)
          unfold Lib.byteCells
          rw [hlen] at hj
          rw [List.getElem?_map, List.getElem?_eq_getElem (by omega)]
          simp)
        rwa [hlen] at this
      obtain ⟨x0, hx0⟩ : ∃ x, x = l[k] := ⟨_, rfl⟩
      obtain ⟨x1, hx1⟩ : ∃ x, x = l[k + 1] := ⟨_, rfl⟩
      rw [← hx0, ← hx1] at he
      rw [← hx0] at c0
      rw [← hx1] at c1
      have HE := Lib.hid he
      have HP := hp
      have HCV := Lib.hid (hcv (k - k0) (by omega) (c - k0))
      clear hx0 hx1 hat he hcv hp hcc h
      cases e0 : ((x0.toNat : Int) == 13)
      · have hs : Hid (∀ j, k0 ≤ j → j < k + 1 → ¬ eolAt l j) := fun j h1 h2 hcx => by
          rcases Nat.lt_or_ge j k with h3 | h3
          · exact HP.out j h1 h3 hcx
          · obtain rfl : j = k := by omega
            have := (HE.out.1 hcx).1
            simp at e0
            omega
        go_wp2_with fail
        go_roundw
        case rel => exact ⟨k + 1, by omega, by omega, by go_num, hs, by first | rfl | trivial⟩
        case measure => simp [intOf]; omega
      · cases e1 : ((x1.toNat : Int) == 10)
        · have hs : Hid (∀ j, k0 ≤ j → j < k + 1 → ¬ eolAt l j) := fun j h1 h2 hcx => by
            rcases Nat.lt_or_ge j k with h3 | h3
            · exact HP.out j h1 h3 hcx
            · obtain rfl : j = k := by omega
              have := (HE.out.1 hcx).2
              simp at e1
              omega
          go_wp2_with fail
          go_roundw
          case rel => exact ⟨k + 1, by omega, by omega, by go_num, hs, by first | rfl | trivial⟩
          case measure => simp [intOf]; omega
        · have hv := lineC_hit hkk (HE.out.2 ⟨by simp at e0; omega, by simp at e1; omega⟩) HP.out
          rw [← HZ.out] at hv
          have HV := Lib.hid hv
          clear hv
          by_cases hg : 65536 < k - k0
          · have hd : decide ((65536 : Int) < (k : Int) - (k0 : Int)) = true := decide_eq_true (by omega)
            have hz : z = .tuple #[.string ⟨#[]⟩, .int .i64 0, .int .i64 3] := by rw [HV.out, if_pos hg]
            subst hz
            clear HV HCV
            go_wp2_with fail
            go_ret3
            exact ⟨rfl, rfl⟩
          · have hd : decide ((65536 : Int) < (k : Int) - (k0 : Int)) = false := decide_eq_false (by omega)
            have hz : z = .tuple #[.string ⟨((l.drop k0).take (k - k0)).toArray⟩, .int .i64 ((k + 2 : Nat) : Int), .int .i64 0] := by rw [HV.out, if_neg hg]
            have HZ2 := Lib.hid hz
            have hcv := HCV.out
            clear HV HCV hz
            obtain ⟨ln, hln⟩ : ∃ ln, (l.drop k0).take (k - k0) = ln := ⟨_, rfl⟩
            rw [hln] at hcv
            have HLN := Lib.hid hln
            clear hln
            have e2 : ((k + 2 : Nat) : Int) = (k : Int) + 2 := by omega
            go_wp2_with fail
            go_ret3
            refine ⟨?_, rfl⟩
            rw [HZ2.out, HLN.out, e2]
            rfl
    · have hv := lineC_miss (l := l) (k := k0) fun j h1 hcx => by
        rcases Nat.lt_or_ge j k with h3 | h3
        · exact hp.out j h1 h3 hcx
        · have := eol_lt hcx
          omega
      rw [← HZ.out, hl] at hv
      have HV := Lib.hid hv
      clear hv hp h
      by_cases hg : 65537 < n - k0
      · have hd : decide ((65537 : Int) < (n : Int) - (k0 : Int)) = true := decide_eq_true (by omega)
        have hz : z = .tuple #[.string ⟨#[]⟩, .int .i64 0, .int .i64 3] := by rw [HV.out, if_pos hg]
        subst hz
        clear HV
        go_wp2_with fail
        go_ret3
        exact ⟨rfl, rfl⟩
      · have hd : decide ((65537 : Int) < (n : Int) - (k0 : Int)) = false := decide_eq_false (by omega)
        have hz : z = .tuple #[.string ⟨#[]⟩, .int .i64 (-1), .int .i64 0] := by rw [HV.out, if_neg hg]
        subst hz
        clear HV
        go_wp2_with fail
        go_ret3
        exact ⟨rfl, rfl⟩
end Go.Proofs.YtonlfplloenfcaaGreatDoor
namespace Go.Proofs.YtonlfplloenfcaaGreatDoor
open Go.RowKit
attribute [local go_sem] Oper.semAt_some

theorem Lies.cut {w : World} {B n m : Nat} {A : Option Addr} {l : List UInt8} (h : Lies w B A n (Lib.byteCells l)) (hm : m ≤ n) : Lies w B A m (Lib.byteCells (l.take m)) := by
  have hl : l.length = n := by simpa [Lib.byteCells] using h.1
  refine ⟨by simp [Lib.byteCells]; omega, fun h0 => ?_⟩
  obtain ⟨b, off, hA, hb, hc⟩ := h.2 (by omega)
  refine ⟨b, off, hA, hb, fun j u hj => hc j u ?_⟩
  unfold Lib.byteCells at hj ⊢
  rw [List.map_take, List.getElem?_take] at hj
  split at hj
  · exact hj
  · cases hj

set_option maxRecDepth 100000 in
theorem rget_any (A : Option Addr) (n c : Nat) (l : List UInt8) (w : World) (h : Lies w w.heap.size A n (Lib.byteCells l)) (hc : n ≤ c) (hn : n ≤ 200000) :
    Calls Tryz.prog 108 #[.slice A n c] w fun e w' =>
      (endAt l < 0 ∧ e = .returned (.tuple #[.slice none 0 0, .int .i64 0, .int .i64 (if 65536 ≤ l.length then 3 else 7)]) ∧ w' = w) ∨
      (0 ≤ endAt l ∧ (∃ v, e = .returned (.tuple #[v, .int .i64 (endAt l + 4), .int .i64 0]) ∧ w'.ownsRow w.heap.size 9 1 v (headLines l).length (strL (headLines l))) ∧ Below w.heap.size w w') := by
  have hl : l.length = n := by simpa [Lib.byteCells] using h.1
  have hW := rwhole_any A (min n 65536) c w.heap.size (l.take (min n 65536)) w (h.cut (by omega)) (by omega)
  have htk : l.take (min n 65536) = l.take 65536 := by
    rcases Nat.le_total n 65536 with h1 | h1
    · rw [Nat.min_eq_left h1, List.take_of_length_le (by omega), List.take_of_length_le (by omega)]
    · rw [Nat.min_eq_right h1]
  rw [htk] at hW
  have hval : (if 0 ≤ Lib.index (l.take 65536) headEnd then Lib.index (l.take 65536) headEnd + 4 else -1) = (if 0 ≤ endAt l then endAt l + 4 else (-1 : Int)) := rfl
  rw [hval] at hW
  clear hval htk
  by_cases hneg : 0 ≤ endAt l
  · obtain ⟨E, hE⟩ : ∃ E : Int, E = (if 65536 ≤ l.length then 3 else 7) := ⟨_, rfl⟩
    rw [← hE]
    clear hE
    obtain ⟨k, hk, hk1, hk2, hf, hfirst⟩ := endAt_spec l hneg
    rw [if_pos hneg, hk] at hW
    have hlk : headLines l = splitB ((l.take (k + 4)).take k) := by
      unfold headLines
      rw [hk, Int.toNat_natCast, List.take_take, Nat.min_eq_left (by omega)]
    have hf4 : fourAt (l.take (k + 4)) k := by
      unfold fourAt at hf ⊢
      rw [List.getElem?_take, List.getElem?_take, List.getElem?_take, List.getElem?_take, if_pos (by omega), if_pos (by omega), if_pos (by omega), if_pos (by omega)]
      exact hf
    have hR := rlines_any A (k + 4) c k (l.take (k + 4)) w (h.cut (by omega)) (by omega) rfl (by omega) hf4
    rw [← hlk] at hR
    have HR := Lib.hid hR
    have HK := Lib.hid hk
    have HN := Lib.hid hneg
    have hkn : k + 4 ≤ n := by omega
    have hkc : k + 4 ≤ c := by omega
    clear hf hf4 hfirst hlk hR hk hneg hk1 h
    rcases Nat.lt_or_ge 65536 n with hb | hb
    · rw [Nat.min_eq_right (by omega)] at hW
      have hc6 : 65536 ≤ c := by omega
      have HW := Lib.hid hW
      clear hW
      go_enter Tryz.func108, Tryz.ntmps108
      go_wp2_with fail
      refine (HW.out).mono ?_
      rintro e w1 ⟨rfl, rfl⟩
      go_wp2_with fail
      refine (HR.out).mono ?_
      rintro e w1 ⟨⟨v, rfl, hown⟩, hb1⟩
      go_wp2_with fail
      go_ret3
      exact .inr ⟨HN.out, ⟨v, by rw [HK.out]; rfl, hown⟩, hb1⟩
    · rw [Nat.min_eq_left (by omega)] at hW
      have HW := Lib.hid hW
      clear hW
      go_enter Tryz.func108, Tryz.ntmps108
      go_wp2_with fail
      refine (HW.out).mono ?_
      rintro e w1 ⟨rfl, rfl⟩
      go_wp2_with fail
      refine (HR.out).mono ?_
      rintro e w1 ⟨⟨v, rfl, hown⟩, hb1⟩
      go_wp2_with fail
      go_ret3
      exact .inr ⟨HN.out, ⟨v, by rw [HK.out]; rfl, hown⟩, hb1⟩
  · have hng : endAt l < 0 := by omega
    rw [if_neg hneg] at hW
    have HN := Lib.hid hng
    clear hng hneg h
    rcases Nat.lt_or_ge 65536 n with hb | hb
    · rw [Nat.min_eq_right (by omega)] at hW
      have hc6 : 65536 ≤ c := by omega
      have hb3 : (65536 : Int) ≤ (n : Int) := by omega
      have hE : (if 65536 ≤ l.length then 3 else 7 : Int) = 3 := by rw [if_pos (by omega)]
      rw [hE]
      have HW := Lib.hid hW
      clear hW hE
      go_enter Tryz.func108, Tryz.ntmps108
      go_wp2_with fail
      refine (HW.out).mono ?_
      rintro e w1 ⟨rfl, rfl⟩
      go_wp2_with fail
      go_ret3
      exact .inl ⟨HN.out, rfl, rfl⟩
    · rw [Nat.min_eq_left (by omega)] at hW
      rcases Nat.lt_or_ge n 65536 with hb2 | hb2
      · have hb3 : decide ((65536 : Int) ≤ (n : Int)) = false := decide_eq_false (by omega)
        have hb4 : ¬ (65536 : Int) ≤ (n : Int) := by omega
        have hb5 : (n : Int) < 65536 := by omega
        have hE : (if 65536 ≤ l.length then 3 else 7 : Int) = 7 := by rw [if_neg (by omega)]
        rw [hE]
        have HW := Lib.hid hW
        clear hW hE
        go_enter Tryz.func108, Tryz.ntmps108
        go_wp2_with fail
        refine (HW.out).mono ?_
        rintro e w1 ⟨rfl, rfl⟩
        go_wp2_with fail
        go_ret3
        exact .inl ⟨HN.out, rfl, rfl⟩
      · have hb3 : (65536 : Int) ≤ (n : Int) := by omega
        have hE : (if 65536 ≤ l.length then 3 else 7 : Int) = 3 := by rw [if_pos (by omega)]
        rw [hE]
        have HW := Lib.hid hW
        clear hW hE
        go_enter Tryz.func108, Tryz.ntmps108
        go_wp2_with fail
        refine (HW.out).mono ?_
        rintro e w1 ⟨rfl, rfl⟩
        go_wp2_with fail
        go_ret3
        exact .inl ⟨HN.out, rfl, rfl⟩
end Go.Proofs.YtonlfplloenfcaaGreatDoor
