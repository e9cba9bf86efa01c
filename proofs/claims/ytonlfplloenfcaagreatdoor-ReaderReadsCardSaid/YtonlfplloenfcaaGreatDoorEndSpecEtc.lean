/-
  What stands behind a chunk, in plain words: no program stands here.
  footmanref03.Hex, footmanref13.size: a chunk's size, of its line.
  SameFields, SameMessage, at what makes them true.
-/
import Derived.Test.YtonlfplloenfcaaGreatDoorChunkStEtc
import Derived.Test.YtonlfplloenfcaaGreatDoorStatSpecEtc
import Derived.Deep.QuietTactic
import Derived.Test.YtonlfplloenfcaaGreatDoorReflEtc
import Derived.Test.YtonlfplloenfcaaGreatDoorFindEtc
import Derived.Test.YtonlfplloenfcaaGreatDoorNamesEtc
namespace Go.Proofs.YtonlfplloenfcaaGreatDoor

/-- What stands behind a chunk, byte by byte. -/
def endB (i : Nat) : UInt8 := if i = 0 then 13 else 10
theorem end_more {l : List UInt8} {q i : Nat} (hi : i < 2) (hq : q + i = l.length) (hm : ∀ j, j < i → l[q + j]? = some (endB j)) : endA (l.drop q) = .more := by
  have h1 : (l.drop q).length = i := by rw [List.length_drop]; omega
  match i, hi with
  | 0, _ => rw [List.eq_nil_of_length_eq_zero h1]; rfl
  | 1, _ =>
    have h2 := hm 0 (by omega)
    match hd : l.drop q with
    | [] => rw [hd] at h1; cases h1
    | [a] =>
      have h3 : (l.drop q)[0]? = some a := by rw [hd]; rfl
      rw [List.getElem?_drop, h2] at h3
      injection h3 with h3
      rw [end_one, ← h3]
      rfl
    | a :: b :: r => rw [hd] at h1; simp at h1
theorem end_bad {l : List UInt8} {q i : Nat} (hi : i < 2) {x : UInt8} (hx : l[q + i]? = some x) (hne : x ≠ endB i) (hm : ∀ j, j < i → l[q + j]? = some (endB j)) : endA (l.drop q) = .bad := by
  match i, hi with
  | 0, _ =>
    match hd : l.drop q with
    | [] =>
      have : (l.drop q)[0]? = some x := by rw [List.getElem?_drop]; exact hx
      rw [hd] at this
      cases this
    | [a] =>
      have : (l.drop q)[0]? = some x := by rw [List.getElem?_drop]; exact hx
      rw [hd] at this
      injection this with this
      rw [end_one, this, if_neg (show x ≠ 13 from hne)]
    | a :: b :: r =>
      have : (l.drop q)[0]? = some x := by rw [List.getElem?_drop]; exact hx
      rw [hd] at this
      injection this with this
      rw [end_two, this, if_neg (show x ≠ 13 from hne)]
  | 1, _ =>
    have h0 := hm 0 (by omega)
    have e0 : (l.drop q)[0]? = some (endB 0) := by rw [List.getElem?_drop]; exact h0
    have e1 : (l.drop q)[1]? = some x := by rw [List.getElem?_drop]; exact hx
    match hd : l.drop q with
    | [] => rw [hd] at e0; cases e0
    | [a] => rw [hd] at e1; cases e1
    | a :: b :: r =>
      rw [hd] at e0 e1
      injection e0 with e0
      injection e1 with e1
      rw [end_two, e0, e1, if_pos (show endB 0 = 13 from rfl), if_neg (show x ≠ 10 from hne)]
theorem end_next {l : List UInt8} {q : Nat} (hm : ∀ j, j < 2 → l[q + j]? = some (endB j)) : endA (l.drop q) = .next (l.drop (q + 2)) := by
  have e0 : (l.drop q)[0]? = some (endB 0) := by rw [List.getElem?_drop]; exact hm 0 (by omega)
  have e1 : (l.drop q)[1]? = some (endB 1) := by rw [List.getElem?_drop]; exact hm 1 (by omega)
  have e2 : l.drop (q + 2) = (l.drop q).drop 2 := by rw [List.drop_drop]
  rw [e2]
  match hd : l.drop q with
  | [] => rw [hd] at e0; cases e0
  | [a] => rw [hd] at e1; cases e1
  | a :: b :: r =>
    rw [hd] at e0 e1
    injection e0 with e0
    injection e1 with e1
    rw [end_two, e0, e1]
    rfl
theorem end_out {l : List UInt8} {q : Nat} (h : l.length ≤ q) : endA (l.drop q) = .more := by
  rw [List.drop_eq_nil_of_le h]
  rfl
end Go.Proofs.YtonlfplloenfcaaGreatDoor
namespace Go.Proofs.YtonlfplloenfcaaGreatDoor
open Go.RowKit

def hexI (c : UInt8) : Int :=
  if 48 ≤ (c.toNat : Int) ∧ (c.toNat : Int) ≤ 57 then (c.toNat : Int) - 48
  else if 97 ≤ (c.toNat : Int) ∧ (c.toNat : Int) ≤ 102 then (c.toNat : Int) - 97 + 10
  else if 65 ≤ (c.toNat : Int) ∧ (c.toNat : Int) ≤ 70 then (c.toNat : Int) - 65 + 10 else -1
theorem hexI_eq (x : UInt8) : hexI x = if hexOK x then (hexD x : Int) else -1 := by
  have h := all_bytes (p := fun x => hexI x == if hexOK x then (hexD x : Int) else -1) (by decide +kernel) x
  simpa using h
theorem hexD_le (x : UInt8) (h : hexOK x = true) : hexD x ≤ 15 := by
  have h1 := all_bytes (p := fun x => !hexOK x || decide (hexD x ≤ 15)) (by decide +kernel) x
  simpa [h] using h1
set_option maxRecDepth 100000 in
theorem rhex_any (c : UInt8) (w : World) : Calls Tryz.prog 181 #[.int .u8 (c.toNat : Int)] w fun e w' => e = .returned (.int .i64 (hexI c)) ∧ w = w' := by
  have hc : (c.toNat : Int) < 256 := by have := c.toNat_lt; omega
  obtain ⟨x, hx⟩ : ∃ x : Int, x = (c.toNat : Int) := ⟨_, rfl⟩
  have hx0 : 0 ≤ x := by omega
  unfold hexI
  rw [← hx] at hc ⊢
  clear hx
  by_cases h1 : 48 ≤ x ∧ x ≤ 57
  · rw [if_pos h1]
    have d1 : decide (48 ≤ x) = true := decide_eq_true h1.1
    have d2 : decide (x ≤ 57) = true := decide_eq_true h1.2
    go_enter Tryz.func181, Tryz.ntmps181
    go_wp2
    go_ret
    exact ⟨by go_num, rfl⟩
  · rw [if_neg h1]
    by_cases h2 : 97 ≤ x ∧ x ≤ 102
    · rw [if_pos h2]
      go_enter Tryz.func181, Tryz.ntmps181
      go_wp2
      go_ret
      exact ⟨by go_num, rfl⟩
    · rw [if_neg h2]
      by_cases h3 : 65 ≤ x ∧ x ≤ 70
      · rw [if_pos h3]
        go_enter Tryz.func181, Tryz.ntmps181
        go_wp2
        go_ret
        exact ⟨by go_num, rfl⟩
      · rw [if_neg h3]
        go_enter Tryz.func181, Tryz.ntmps181
        go_wp2
        all_goals go_ret
        all_goals exact ⟨rfl, rfl⟩
/-- Where digits end, and blanks. -/
theorem span_at {p : UInt8 → Bool} : ∀ {l : List UInt8} {k : Nat}, k ≤ l.length → (l.take k).all p = true → (∀ x, l[k]? = some x → p x = false) → l.takeWhile p = l.take k ∧ l.dropWhile p = l.drop k
  | [], k, hk, _, _ => by simp
  | x :: r, 0, _, _, h2 => by
    have hx := h2 x rfl
    rw [List.takeWhile_cons_of_neg (by simp [hx]), List.dropWhile_cons_of_neg (by simp [hx])]
    exact ⟨rfl, rfl⟩
  | x :: r, k + 1, hk, h1, h2 => by
    rw [List.take_succ_cons, List.all_cons, Bool.and_eq_true] at h1
    obtain ⟨e1, e2⟩ := span_at (l := r) (k := k) (by simpa using hk) h1.2 (fun y hy => h2 y hy)
    rw [List.takeWhile_cons_of_pos h1.1, List.dropWhile_cons_of_pos h1.1, e1, e2]
    exact ⟨rfl, rfl⟩
theorem size_value {l : List UInt8} {k : Nat} (hk : k ≤ l.length) (h1 : (l.take k).all hexOK = true) (h2 : ∀ x, l[k]? = some x → hexOK x = false) : sizeN l = hexN (l.take k) ∧ (sizeOK l = true → 1 ≤ k ∧ k ≤ 16 ∧ plainB l = true) := by
  obtain ⟨e1, e2⟩ := span_at hk h1 h2
  unfold sizeN sizeOK sizeD
  rw [e1, List.length_take]
  refine ⟨rfl, fun h => ?_⟩
  simp only [Bool.and_eq_true, decide_eq_true_eq] at h
  exact ⟨by omega, by omega, h.2.2⟩
theorem size_whole {l : List UInt8} {k j : Nat} (hk : k ≤ l.length) (h1 : (l.take k).all hexOK = true) (h2 : ∀ x, l[k]? = some x → hexOK x = false) (hkj : k ≤ j) (hj : j ≤ l.length) (h3 : ((l.drop k).take (j - k)).all blankB = true) (h4 : ∀ x, l[j]? = some x → blankB x = false)
    (h5 : 1 ≤ k) (h6 : k ≤ 16) (h7 : plainB l = true) : sizeOK l = (decide (j = l.length) || decide (l[j]? = some 59)) := by
  obtain ⟨e1, e2⟩ := span_at hk h1 h2
  obtain ⟨_, e3⟩ := span_at (p := blankB) (l := l.drop k) (k := j - k) (by rw [List.length_drop]; omega) h3 (fun x hx => h4 x (by rw [List.getElem?_drop] at hx; rw [← hx]; congr 1; omega))
  have e4 : sizeW l = l.drop j := by
    unfold sizeW
    rw [e2, e3, List.drop_drop]
    congr 1
    omega
  unfold sizeOK sizeD
  rw [e1, e4, List.length_take, h7, decide_eq_true (by omega), decide_eq_true (by omega), Bool.true_and, Bool.and_true, Bool.true_and]
  rcases Nat.lt_or_ge j l.length with h | h
  · rw [List.drop_eq_getElem_cons h, decide_eq_false (by omega), List.getElem?_eq_getElem h]
    simp only [List.isEmpty_cons, List.headD_cons, Bool.false_or]
    rw [Bool.eq_iff_iff]
    simp
  · rw [List.drop_eq_nil_of_le h, decide_eq_true (by omega)]
    rfl
theorem hexN_snoc2 (l : List UInt8) (x : UInt8) : hexN (l ++ [x]) = 16 * hexN l + hexD x := by
  unfold hexN
  rw [List.foldl_append]
  rfl
set_option maxRecDepth 100000 in
set_option maxHeartbeats 800000 in
theorem r13size_any (s : ByteArray) (w : World) (hs : s.size ≤ 140737488355328) :
    Calls Tryz.prog 113 #[.string s] w fun e w' => (∃ v : Nat, e = .returned (.tuple #[.int .i64 (v : Int), .bool (sizeOK s.data.toList)]) ∧ (sizeOK s.data.toList = true → v = min 65537 (sizeN s.data.toList))) ∧ Below w.heap.size w w' := by
  have hl : s.data.toList.length = s.size := rfl
  go_enter Tryz.func113, Tryz.ntmps113
  go_wp2_with fail
  go_loopw [4, 5] (fun n i wr => ∃ k m : Nat, k ≤ s.size ∧ i = .int .i64 k ∧ n = .int .i64 (m : Int) ∧ m ≤ 65537 ∧ Hid (m = min 65537 (hexN (s.data.toList.take k))) ∧ Hid ((s.data.toList.take k).all hexOK = true) ∧ wr = w)
    (fun _ i _ => s.size - (intOf i).toNat)
  case atStart => exact ⟨0, 0, Nat.zero_le _, rfl, rfl, by omega, by rfl, by simp [Hid], rfl⟩
  case round =>
    obtain ⟨k, m, hk, rfl, rfl, hm, hmv, hall, hw⟩ := hrel
    subst hw
    have HNEXT : Hid (∀ hlt : k < s.size, hexOK s[k] = true → min 65537 (16 * m + hexD s[k]) = min 65537 (hexN (s.data.toList.take (k + 1))) ∧ (s.data.toList.take (k + 1)).all hexOK = true) := fun hlt hx => by
      refine ⟨?_, all_step hlt hall.out hx⟩
      rw [take_byte s k hlt, hexN_snoc2]
      have := hmv.out
      omega
    by_cases hgo : ∃ hlt : k < s.size, hexOK s[k] = true
    · obtain ⟨hlt, hx⟩ := hgo
      obtain ⟨h1, h2⟩ := HNEXT.out hlt hx
      have hd := hexD_le _ hx
      have hI := hexI_eq s[k]
      rw [if_pos hx] at hI
      have H1 := Lib.hid h1
      have H2 := Lib.hid h2
      have HI := Lib.hid hI
      have hmin : (if 16 * (m : Int) + (hexD s[k] : Int) < 65537 then 16 * (m : Int) + (hexD s[k] : Int) else 65537) = ((min 65537 (16 * m + hexD s[k]) : Nat) : Int) := by
        split <;> omega
      have HMIN := Lib.hid hmin
      clear h1 h2 hI hmv hall HNEXT hx hmin
      go_wp2_with fail
      refine (rhex_any _ _).mono ?_
      rintro e w' ⟨rfl, rfl⟩
      rw [HI.out]
      go_wp2_with fail
      refine (rhex_any _ _).mono ?_
      rintro e w' ⟨rfl, rfl⟩
      rw [HI.out]
      go_wp2_with fail
      go_roundw
      case rel =>
        refine ⟨k + 1, min 65537 (16 * m + hexD s[k]), by omega, by go_num, congrArg (Value.int .i64) HMIN.out, by omega, H1.out, H2.out, by first | rfl | trivial⟩
      case measure => simp [intOf]; omega
    · have hstop : ∀ x, s.data.toList[k]? = some x → hexOK x = false := fun x hx => by
        have hlt : k < s.size := (List.getElem?_eq_some_iff.1 hx).1
        rw [byte_at s k hlt] at hx
        injection hx with hx
        rw [← hx]
        cases h : hexOK s[k] with
        | false => rfl
        | true => exact absurd ⟨hlt, h⟩ hgo
      obtain ⟨sv1, sv2⟩ := size_value (l := s.data.toList) hk hall.out hstop
      have SV := Lib.hid (And.intro sv1 sv2)
      have HST := Lib.hid hstop
      clear sv1 sv2 HNEXT hstop
      have HM := hmv
      have HALL := hall
      clear hmv hall
      have HRC := Lib.hid (fun (W : World) => rcontrol_any s W hs)
      rcases Nat.lt_or_ge k s.size with hlt | hge
      any_goals (first
        | (have hI := hexI_eq s[k]
           have hx : hexOK s[k] = false := HST.out _ (byte_at s k hlt)
           rw [if_neg (by rw [hx]; decide)] at hI
           have HI := Lib.hid hI
           clear hI hx
           go_wp2_with fail
           refine (rhex_any _ _).mono ?_
           rintro e w' ⟨rfl, rfl⟩
           rw [HI.out]
           clear HI)
        | (have hkk : ¬ (k : Int) < (s.size : Int) := by have := hge; omega
           clear hge))
      all_goals
        by_cases hb1 : k < 1
        · have d1 : decide ((k : Int) < 1) = true := decide_eq_true (by omega)
          have hno : sizeOK s.data.toList = false := by
            rw [Bool.eq_false_iff]
            intro h
            have := (SV.out.2 h).1
            omega
          have HNO := Lib.hid hno
          clear hno
          go_wp2_with fail
          go_ret2
          exact ⟨⟨0, by rw [HNO.out]; rfl, fun h => by rw [HNO.out] at h; cases h⟩, Below.refl _ _⟩
        have d1 : decide ((k : Int) < 1) = false := decide_eq_false (by omega)
        by_cases hb2 : 16 < k
        · have d2 : decide ((16 : Int) < (k : Int)) = true := decide_eq_true (by omega)
          have hno : sizeOK s.data.toList = false := by
            rw [Bool.eq_false_iff]
            intro h
            have := (SV.out.2 h).2.1
            omega
          have HNO := Lib.hid hno
          clear hno
          go_wp2_with fail
          go_ret2
          exact ⟨⟨0, by rw [HNO.out]; rfl, fun h => by rw [HNO.out] at h; cases h⟩, Below.refl _ _⟩
        have d2 : decide ((16 : Int) < (k : Int)) = false := decide_eq_false (by omega)
        go_wp2_with fail
        refine (HRC.out _).mono ?_
        rintro e w2 ⟨rfl, q0, rfl⟩
        cases hpl : plainB s.data.toList with
        | false =>
          have hno : sizeOK s.data.toList = false := by
            rw [Bool.eq_false_iff]
            intro h
            have := (SV.out.2 h).2.2
            rw [hpl] at this
            cases this
          have HNO := Lib.hid hno
          clear hno hpl
          go_wp2_with fail
          go_ret2
          exact ⟨⟨0, by rw [HNO.out]; rfl, fun h => by rw [HNO.out] at h; cases h⟩, below_drewN (Below.refl _ _) _⟩
        | true =>
          have HPL := Lib.hid hpl
          clear hpl HRC
          have HTAKE : Hid (∀ j (hj : j < s.size), k ≤ j → ((s.data.toList.drop k).take (j - k)).all blankB = true → blankB s[j] = true → ((s.data.toList.drop k).take (j + 1 - k)).all blankB = true) := fun j hj h1 h2 h3 => by
            have e : j + 1 - k = (j - k) + 1 := by omega
            have e2 : (s.data.toList.drop k)[j - k]? = some s[j] := by
              rw [List.getElem?_drop, show k + (j - k) = j by omega]
              exact byte_at s j hj
            rw [e, List.take_add_one, e2, List.all_append, h2]
            simp [h3]
          have hsv : sizeN s.data.toList = hexN (s.data.toList.take k) := SV.out.1
          have hmv2 : m = min 65537 (sizeN s.data.toList) := by rw [hsv]; exact HM.out
          have HMV := Lib.hid hmv2
          have HOK : Hid (∀ j, k ≤ j → j ≤ s.size → ((s.data.toList.drop k).take (j - k)).all blankB = true → (∀ x, s.data.toList[j]? = some x → blankB x = false) → sizeOK s.data.toList = (decide (j = s.size) || decide (s.data.toList[j]? = some 59))) := fun j h1 h2 h3 h4 =>
            size_whole hk HALL.out HST.out h1 h2 h3 h4 (by omega) (by omega) HPL.out
          clear hsv hmv2 SV HM HALL HST HPL
          go_wp2_with fail
          go_loopw [5] (fun i wl => ∃ j : Nat, k ≤ j ∧ j ≤ s.size ∧ i = .int .i64 j ∧ Hid (((s.data.toList.drop k).take (j - k)).all blankB = true) ∧ ∃ q, wl = wr.drewN q) (fun i _ => s.size - (intOf i).toNat)
          case atStart => exact ⟨k, Nat.le_refl _, hk, rfl, by simp [Hid], q0, rfl⟩
          case round =>
            obtain ⟨j, hkj, hj, rfl, hbl, q, rfl⟩ := hrel
            by_cases hlj : j < s.size
            · cases hb : blankB s[j] with
              | true =>
                have hnext := HTAKE.out j hlj hkj hbl.out hb
                have HNX := Lib.hid hnext
                have HB := Lib.hid hb
                clear hnext hb
                go_wp2_with fail
                refine (blank_any _ _).mono ?_
                rintro e w' ⟨rfl, rfl⟩
                rw [HB.out]
                go_wp2_with fail
                go_roundw
                case rel => exact ⟨j + 1, by omega, by omega, by go_num, HNX.out, q, rfl⟩
                case measure => simp [intOf]; omega
              | false =>
                have hok := HOK.out j hkj hj hbl.out (fun x hx => by
                  rw [byte_at s j hlj] at hx
                  injection hx with hx
                  rw [← hx]
                  exact hb)
                rw [decide_eq_false (by omega), byte_at s j hlj, Bool.false_or] at hok
                have d3 : ((j : Int) == (s.size : Int)) = false := beq_eq_false_iff_ne.2 (by omega)
                have HB := Lib.hid hb
                obtain ⟨z, hz⟩ : ∃ z : Bool, ((s[j].toNat : Int) == 59) = z := ⟨_, rfl⟩
                have hok2 : sizeOK s.data.toList = z := by
                  rw [hok, ← hz, Bool.eq_iff_iff, decide_eq_true_iff, beq_iff_eq]
                  constructor
                  · intro h
                    injection h with h
                    rw [h]
                    rfl
                  · intro h
                    congr 1
                    exact UInt8.toNat_inj.1 (by show s[j].toNat = 59; omega)
                have HOK2 := Lib.hid hok2
                clear hok hok2 hb
                go_wp2_with fail
                refine (blank_any _ _).mono ?_
                rintro e w' ⟨rfl, rfl⟩
                rw [HB.out]
                cases z
                all_goals
                  go_wp2_with fail
                  go_quiet (fail)
                  go_wp2_with fail
                  go_ret2
                  exact ⟨⟨m, by rw [HOK2.out]; rfl, fun _ => HMV.out⟩, below_drewN (below_drewN (Below.refl _ _) _) _⟩
            · have hjz : j = s.size := by omega
              have hok := HOK.out j hkj hj hbl.out (fun x hx => by
                have := (List.getElem?_eq_some_iff.1 hx).1
                have h2 : s.data.toList.length = s.size := rfl
                omega)
              rw [decide_eq_true hjz, Bool.true_or] at hok
              have d3 : ((j : Int) == (s.size : Int)) = true := beq_iff_eq.2 (by omega)
              have HOK2 := Lib.hid hok
              clear hok
              go_wp2_with fail
              go_quiet (fail)
              go_wp2_with fail
              go_ret2
              exact ⟨⟨m, by rw [HOK2.out]; rfl, fun _ => HMV.out⟩, below_drewN (below_drewN (Below.refl _ _) _) _⟩
end Go.Proofs.YtonlfplloenfcaaGreatDoor
namespace Go.Proofs.YtonlfplloenfcaaGreatDoor
open Go.RowKit

set_option maxRecDepth 100000 in
theorem samefields_any (A A2 : Option Addr) (n c c2 B : Nat) (fs : List Fd) (w : World) (h1 : FRead w B A n fs) (h2 : FRead w B A2 n fs) (hn : n ≤ 140737488355328) :
   Calls Tryz.prog 45 #[.slice A n c, .slice A2 n c2] w fun e w' => e = .returned (.bool true) ∧ ∃ q, w' = w.drewN q := by
  have H1 := Lib.hid h1
  have H2 := Lib.hid h2
  clear h1 h2
  go_enter Tryz.func45, Tryz.ntmps45
  go_wp2_with fail
  go_loopw [5] (fun i wr => ∃ k : Nat, k ≤ n ∧ i = .int .i64 k ∧ ∃ q, wr = w.drewN q) (fun i _ => n - (intOf i).toNat)
  case atStart => exact ⟨0, Nat.zero_le _, rfl, 0, rfl⟩
  case round =>
    obtain ⟨k, hk, rfl, q, rfl⟩ := hrel
    by_cases hlt : k < n
    · obtain ⟨hl1, hc1⟩ := H1.out
      obtain ⟨b1, o1, rfl, _, hc1⟩ := hc1 (by omega)
      obtain ⟨hl2, hc2⟩ := H2.out
      obtain ⟨b2, o2, rfl, _, hc2⟩ := hc2 (by omega)
      obtain ⟨f, hf⟩ : ∃ f, fs[k]? = some f := ⟨fs[k]'(by omega), List.getElem?_eq_getElem (by omega)⟩
      have c1 := (hc1 k f hf).1
      have c2 := (hc1 k f hf).2
      have c3 := (hc2 k f hf).1
      have c4 := (hc2 k f hf).2
      clear hc1 hc2 hl1 hl2 hf
      obtain ⟨f1, f2⟩ := f
      simp only at c1 c2 c3 c4
      go_wp2_with fail
      go_quiet (fail)
      go_wp2_with fail
      go_roundw
      case rel => exact ⟨k + 1, by omega, by go_num, _, rfl⟩
      case measure => simp [intOf]; omega
    · go_wp2_with fail
      go_ret
      exact ⟨rfl, _, rfl⟩
set_option maxRecDepth 100000 in
theorem samem_any (s1 s2 : ByteArray) (st : Int) (A A2 C C2 : Option Addr) (n c c2 k d d2 B : Nat) (fs : List Fd) (l : List UInt8) (w : World) (hB : B ≤ w.heap.size) (a1 : FRead w B A n fs) (a2 : FRead w B A2 n fs) (hn : n ≤ 140737488355328)
    (b1 : Lies w B C k (Lib.byteCells l)) (b2 : Lies w B C2 k (Lib.byteCells l)) (hk : k ≤ 140737488355328) :
   Calls Tryz.prog 34 #[.agg #[.string s1, .string s2, .int .i64 st, .slice A n c, .slice C k d], .agg #[.string s1, .string s2, .int .i64 st, .slice A2 n c2, .slice C2 k d2]] w
     fun e w' => e = .returned (.bool true) ∧ Below w.heap.size w w' := by
  have H1 := Lib.hid (fun (W : World) (hb : Below w.heap.size w W) => samefields_any A A2 n c c2 B fs W (a1.below (hb.mono hB)) (a2.below (hb.mono hB)) hn)
  have H2 := Lib.hid (fun (W : World) (hb : Below w.heap.size w W) => samebytes_any C C2 k d d2 B l W (b1.below (hb.mono hB)) (b2.below (hb.mono hB)) hk)
  clear a1 a2 b1 b2
  go_enter Tryz.func34, Tryz.ntmps34
  go_wp2_with fail
  have hk1 := (Blk.new w 25 #[.string s1, .string s2, .int .i64 st, .slice A n c, .slice C k d]).alloc (.cells #[.string s1, .string s2, .int .i64 st, .slice A2 n c2, .slice C2 k d2] 25)
  have hk2 := Blk.new (w.alloc (.cells #[.string s1, .string s2, .int .i64 st, .slice A n c, .slice C k d] 25)) 25 #[.string s1, .string s2, .int .i64 st, .slice A2 n c2, .slice C2 k d2]
  rw [World.size_alloc] at hk2
  have hB0 : Below w.heap.size w ((w.alloc (.cells #[.string s1, .string s2, .int .i64 st, .slice A n c, .slice C k d] 25)).alloc (.cells #[.string s1, .string s2, .int .i64 st, .slice A2 n c2, .slice C2 k d2] 25)) := ((Below.refl _ _).alloc (Nat.le_refl _) _).alloc (by simp) _
  generalize (w.alloc (.cells #[.string s1, .string s2, .int .i64 st, .slice A n c, .slice C k d] 25)).alloc (.cells #[.string s1, .string s2, .int .i64 st, .slice A2 n c2, .slice C2 k d2] 25) = W0 at *
  refine (H1.out _ hB0).mono ?_
  rintro e w1 ⟨rfl, q, rfl⟩
  have c1 := (hk1.drewN q).cell 4
  have c2 := (hk2.drewN q).cell 4
  simp at c1 c2
  have hB1 := below_drewN hB0 q
  have HB0 := Lib.hid hB0
  clear hk1 hk2 hB0
  go_wp2_with fail
  refine (H2.out _ hB1).mono ?_
  rintro e w2 ⟨rfl, q2, rfl⟩
  clear hB1
  go_wp2_with fail
  go_ret
  exact ⟨rfl, below_drewN HB0.out _⟩
end Go.Proofs.YtonlfplloenfcaaGreatDoor
