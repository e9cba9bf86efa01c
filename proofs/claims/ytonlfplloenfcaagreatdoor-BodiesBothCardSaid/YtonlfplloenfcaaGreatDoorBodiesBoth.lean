/-
  BodiesBoth: the walk.
-/
import Derived.Test.YtonlfplloenfcaaGreatDoorAHowEtc
import Derived.Test.YtonlfplloenfcaaGreatDoorHeadsNamesEtc
import Derived.Test.YtonlfplloenfcaaGreatDoorBothT
namespace Go.Proofs.YtonlfplloenfcaaGreatDoor
open Go.RowKit

theorem fread_str2 {w : World} (t : TypeId) (a b c d : ByteArray) : FRead (w.alloc (.cells #[.string a, .string b, .string c, .string d] t)) (w.alloc (.cells #[.string a, .string b, .string c, .string d] t)).heap.size (some ⟨w.heap.size, 0, none⟩) 2 [(a, b), (c, d)] := by
  have hk := Blk.new w t #[.string a, .string b, .string c, .string d]
  refine ⟨rfl, fun _ => ⟨_, _, rfl, hk.lt, fun i x hf => ?_⟩⟩
  match i, hf with
  | 0, hf => simp at hf; subst hf; exact ⟨hk.cell 0, hk.cell 1⟩
  | 1, hf => simp at hf; subst hf; exact ⟨hk.cell 2, hk.cell 3⟩
  | i + 2, hf => simp at hf

set_option maxRecDepth 100000 in
set_option maxHeartbeats 4000000 in
theorem bodiesboth_any (code length mt : ByteArray) (w : World) (h1 : code.size ≤ 140737488355328) (h2 : length.size ≤ 140737488355328) (hm : MaxOk w) (hmg : maxG < w.heap.size) (ht : tab64 w) (htg : 8 < w.heap.size) :
    Calls Tryz.prog 18 #[.string code, .string length, .string mt] w fun e w' => e = .returned (.bool true) ∧ Below w.heap.size w w' := by
  have HM := Lib.hid (fun (W : World) (hb : Below w.heap.size w W) => (And.intro (hm.below hb hmg) (Nat.lt_of_lt_of_le hmg hb.size)))
  have HA := Lib.hid (fun (W : World) (hb : Below w.heap.size w W) => alive13_any W (hm.below hb hmg) (Nat.lt_of_lt_of_le hmg hb.size) (tab64_below ht hb htg) (Nat.lt_of_lt_of_le htg hb.size))
  have HO2 := Lib.hid (fun (a b c d : ByteArray) (W : World) => of_any 200 (some ⟨W.heap.size, 0, none⟩) 2 4 [(a, b), (c, d)] (W.alloc (.cells #[.string a, .string b, .string c, .string d] 9)) (fread_str2 _ a b c d) (by omega))
  have HL2 := Lib.hid (fun (a b c d : ByteArray) (W : World) (hb : Below w.heap.size w W) => (below_alloc1' hb (.cells #[.string a, .string b, .string c, .string d] 9)))
  have HO := Lib.hid (fun (a b : ByteArray) (W : World) => of_any 200 (some ⟨W.heap.size, 0, none⟩) 1 2 [(a, b)] (W.alloc (.cells #[.string a, .string b] 9)) (fread_str _ a b) (by omega))
  have HL1 := Lib.hid (fun (a b : ByteArray) (W : World) (hb : Below w.heap.size w W) => (below_alloc1' hb (.cells #[.string a, .string b] 9)))
  clear hm ht
  go_enter Tryz.func18, Tryz.ntmps18
  go_wp2_with fail
  refine (HA.out w (Below.refl _ _)).mono ?_
  rintro e w1 ⟨rfl, hb1⟩
  have B1 := Lib.hid hb1
  clear hb1
  cases hmt : (mt.data.toList == [72, 69, 65, 68]) with
  | true =>
    have hm2 : (mt.toList == [72, 69, 65, 68]) = true := by rw [Go.ByteArray.toList_eq]; exact hmt
    clear hmt
    go_wp2_with fail
    refine (HA.out w1 B1.out).mono ?_
    rintro e wz ⟨rfl, hbz⟩
    have BZ := Lib.hid (B1.out.trans (hbz.mono B1.out.size))
    clear hbz
    go_wp2_with fail
    go_ret
    exact ⟨rfl, BZ.out⟩
  | false =>
  have hm2 : (mt.toList == [72, 69, 65, 68]) = false := by rw [Go.ByteArray.toList_eq]; exact hmt
  have HNO := Lib.hid (both_none hmt)
  have HBY := Lib.hid (beyond_two code.size length.size w1 h1 h2)
  have Bx := Lib.hid (B1.out.trans ((show Below w1.heap.size w1 (w1.alloc (.cells #[.int .i64 (code.size : Int), .int .i64 (length.size : Int)] 3)) from (Below.refl _ _).alloc (Nat.le_refl _) _).mono B1.out.size))
  clear hmt
  go_wp2_with fail
  refine (HBY.out).mono ?_
  rintro e w2 ⟨rfl, hw2⟩
  have B2 : Hid (Below w.heap.size w w2) := by rw [← hw2]; exact Bx
  clear hw2 Bx HBY hm2
  by_cases hbey : 1048576 < code.size + length.size
  · have hd2 : decide (1048576 < code.size + length.size) = true := decide_eq_true hbey
    go_wp2_with fail
    refine (HA.out w2 B2.out).mono ?_
    rintro e wz ⟨rfl, hbz⟩
    have BZ := Lib.hid (B2.out.trans (hbz.mono B2.out.size))
    clear hbz
    go_wp2_with fail
    go_ret
    exact ⟨rfl, BZ.out⟩
  have hd2 : decide (1048576 < code.size + length.size) = false := decide_eq_false hbey
  have e1 : ByteArray.size ⟨#[84, 114, 97, 110, 115, 102, 101, 114, 45, 69, 110, 99, 111, 100, 105, 110, 103]⟩ = 17 := rfl
  have e2 : ByteArray.size ⟨#[67, 111, 110, 116, 101, 110, 116, 45, 76, 101, 110, 103, 116, 104]⟩ = 14 := rfl
  have e3 : ByteArray.size ⟨#[116, 114, 97, 110, 115, 102, 101, 114, 45, 101, 110, 99, 111, 100, 105, 110, 103]⟩ = 17 := rfl
  have e4 : ByteArray.size ⟨#[99, 104, 117, 110, 107, 101, 100]⟩ = 7 := rfl
  have E := Lib.hid (And.intro e1 (And.intro e2 (And.intro e3 e4)))
  clear e1 e2 e3 e4 HA
  go_wp2_with fail
  refine (HO2.out ⟨#[84, 114, 97, 110, 115, 102, 101, 114, 45, 69, 110, 99, 111, 100, 105, 110, 103]⟩ code ⟨#[67, 111, 110, 116, 101, 110, 116, 45, 76, 101, 110, 103, 116, 104]⟩ length w2).mono ?_
  rintro e a1 ⟨⟨v1, rfl, o1⟩, ba1⟩
  obtain ⟨A1, c1, rfl⟩ := own_form o1
  have BA1 := Lib.hid ((HL2.out ⟨#[84, 114, 97, 110, 115, 102, 101, 114, 45, 69, 110, 99, 111, 100, 105, 110, 103]⟩ code ⟨#[67, 111, 110, 116, 101, 110, 116, 45, 76, 101, 110, 103, 116, 104]⟩ length w2 B2.out).trans (ba1.mono (HL2.out ⟨#[84, 114, 97, 110, 115, 102, 101, 114, 45, 69, 110, 99, 111, 100, 105, 110, 103]⟩ code ⟨#[67, 111, 110, 116, 101, 110, 116, 45, 76, 101, 110, 103, 116, 104]⟩ length w2 B2.out).size))
  have HH1 := Lib.hid (how_big mt ⟨#[]⟩ ⟨#[]⟩ 200 A1 none 2 c1 0 0 [(⟨#[84, 114, 97, 110, 115, 102, 101, 114, 45, 69, 110, 99, 111, 100, 105, 110, 103]⟩, code), (⟨#[67, 111, 110, 116, 101, 110, 116, 45, 76, 101, 110, 103, 116, 104]⟩, length)] a1 (fread_own rfl o1) (by omega)
    (by rw [two_sum, E.out.1, E.out.2.1]; omega) (two_small (by rw [E.out.1]; omega) (by omega) (by rw [E.out.2.1]; omega) (by omega)) (by omega) (HM.out a1 BA1.out).1 (HM.out a1 BA1.out).2)
  have V1 := both_one mt code length HNO.out
  unfold teB clB at V1
  rw [V1] at HH1
  clear o1 ba1 V1
  go_wp2_with fail
  refine (HH1.out).mono ?_
  rintro e w3 ⟨rfl, hb3⟩
  rw [show lenV .u8 (0, 0, 9) = .tuple #[.int .u8 0, .int .i64 0, .int .i64 9] from rfl]
  have B3 := Lib.hid (BA1.out.trans (hb3.mono BA1.out.size))
  clear hb3 HH1 BA1
  go_wp2_with fail
  refine (HO2.out ⟨#[84, 114, 97, 110, 115, 102, 101, 114, 45, 69, 110, 99, 111, 100, 105, 110, 103]⟩ code ⟨#[116, 114, 97, 110, 115, 102, 101, 114, 45, 101, 110, 99, 111, 100, 105, 110, 103]⟩ ⟨#[99, 104, 117, 110, 107, 101, 100]⟩ w3).mono ?_
  rintro e a2 ⟨⟨v2, rfl, o2⟩, ba2⟩
  obtain ⟨A2, c2, rfl⟩ := own_form o2
  have BA2 := Lib.hid ((HL2.out ⟨#[84, 114, 97, 110, 115, 102, 101, 114, 45, 69, 110, 99, 111, 100, 105, 110, 103]⟩ code ⟨#[116, 114, 97, 110, 115, 102, 101, 114, 45, 101, 110, 99, 111, 100, 105, 110, 103]⟩ ⟨#[99, 104, 117, 110, 107, 101, 100]⟩ w3 B3.out).trans (ba2.mono (HL2.out ⟨#[84, 114, 97, 110, 115, 102, 101, 114, 45, 69, 110, 99, 111, 100, 105, 110, 103]⟩ code ⟨#[116, 114, 97, 110, 115, 102, 101, 114, 45, 101, 110, 99, 111, 100, 105, 110, 103]⟩ ⟨#[99, 104, 117, 110, 107, 101, 100]⟩ w3 B3.out).size))
  have HH2 := Lib.hid (how_big mt ⟨#[]⟩ ⟨#[]⟩ 200 A2 none 2 c2 0 0 [(⟨#[84, 114, 97, 110, 115, 102, 101, 114, 45, 69, 110, 99, 111, 100, 105, 110, 103]⟩, code), (⟨#[116, 114, 97, 110, 115, 102, 101, 114, 45, 101, 110, 99, 111, 100, 105, 110, 103]⟩, ⟨#[99, 104, 117, 110, 107, 101, 100]⟩)] a2 (fread_own rfl o2) (by omega)
    (by rw [two_sum, E.out.1, E.out.2.2.1, E.out.2.2.2]; omega) (two_small (by rw [E.out.1]; omega) (by omega) (by rw [E.out.2.2.1]; omega) (by rw [E.out.2.2.2]; omega)) (by omega) (HM.out a2 BA2.out).1 (HM.out a2 BA2.out).2)
  have V2 := both_two mt code HNO.out
  unfold teB teS chB at V2
  rw [V2] at HH2
  clear o2 ba2 V2
  go_wp2_with fail
  refine (HH2.out).mono ?_
  rintro e w4 ⟨rfl, hb4⟩
  rw [show lenV .u8 (0, 0, 9) = .tuple #[.int .u8 0, .int .i64 0, .int .i64 9] from rfl]
  have B4 := Lib.hid (BA2.out.trans (hb4.mono BA2.out.size))
  clear hb4 HH2 BA2
  go_wp2_with fail
  refine (HO.out ⟨#[84, 114, 97, 110, 115, 102, 101, 114, 45, 69, 110, 99, 111, 100, 105, 110, 103]⟩ code w4).mono ?_
  rintro e a3 ⟨⟨v3, rfl, o3⟩, ba3⟩
  obtain ⟨A3, c3, rfl⟩ := own_form o3
  have BA3 := Lib.hid ((HL1.out ⟨#[84, 114, 97, 110, 115, 102, 101, 114, 45, 69, 110, 99, 111, 100, 105, 110, 103]⟩ code w4 B4.out).trans (ba3.mono (HL1.out ⟨#[84, 114, 97, 110, 115, 102, 101, 114, 45, 69, 110, 99, 111, 100, 105, 110, 103]⟩ code w4 B4.out).size))
  have HH3 := Lib.hid (how_big mt ⟨#[]⟩ ⟨#[]⟩ 200 A3 none 1 c3 0 0 [(⟨#[84, 114, 97, 110, 115, 102, 101, 114, 45, 69, 110, 99, 111, 100, 105, 110, 103]⟩, code)] a3 (fread_own rfl o3) (by omega)
    (by rw [one_sum, E.out.1]; omega) (one_small (by rw [E.out.1]; omega) (by omega)) (by omega) (HM.out a3 BA3.out).1 (HM.out a3 BA3.out).2)
  have V3 := both_three mt code HNO.out
  unfold teB at V3
  rw [V3] at HH3
  clear o3 ba3 V3
  go_wp2_with fail
  refine (HH3.out).mono ?_
  rintro e w5 ⟨rfl, hb5⟩
  have B5 := Lib.hid (BA3.out.trans (hb5.mono BA3.out.size))
  clear hb5 HH3 BA3 HO HO2 HL1 HL2 HM E
  obtain ⟨S, hS⟩ : ∃ S, sameB code.data.toList chB.data.toList = S := ⟨_, rfl⟩
  have HS := Lib.hid hS
  obtain ⟨z1, z3, hz⟩ : ∃ z1 z3 : Int, (if sameB code.data.toList chB.data.toList = true then ((2, 0, 0) : Int × Int × Int) else (0, 0, 9)) = (z1, 0, z3) ∧ z1 = (if S then 2 else 0) ∧ z3 = (if S then 0 else 9) := by
    rw [hS]
    cases S <;> exact ⟨_, _, rfl, rfl, rfl⟩
  obtain ⟨hz, hz1, hz3⟩ := hz
  rw [hz, show lenV .u8 (z1, 0, z3) = .tuple #[.int .u8 z1, .int .i64 0, .int .i64 z3] from rfl]
  have HZ := Lib.hid (And.intro hz1 hz3)
  have hq0 : ((code.size : Int) == 7) = codeQ code.data.toList 0 := by
    unfold codeQ
    rw [Bool.eq_iff_iff, beq_iff_eq, Bool.and_eq_true, decide_eq_true_iff, show code.data.toList.length = code.size from rfl]
    simp
    omega
  obtain ⟨Q, hQ⟩ : ∃ Q, codeQ code.data.toList 0 = Q := ⟨_, rfl⟩
  rw [hQ] at hq0
  have HQ := Lib.hid hQ
  clear hS hz hz1 hz3 hQ
  go_wp2_with fail
  go_loopw [16, 17] (fun v i wr => ∃ (k : Nat) (q : Bool), k ≤ code.size ∧ v = .bool q ∧ i = .int .i64 k ∧ Hid (codeQ code.data.toList k = q) ∧ ∃ j, wr = w5.drewN j) (fun _ i _ => code.size - (intOf i).toNat)
  case atStart => exact ⟨0, Q, Nat.zero_le _, by go_num, rfl, HQ, 0, rfl⟩
  case round =>
    obtain ⟨k, q, hk, rfl, rfl, hq, j, rfl⟩ := hrel
    by_cases hlt : k < code.size
    · cases q with
      | false =>
        have hSf : S = false := HS.out.symm.trans (codeQ_no _ k hk hq.out)
        subst hSf
        obtain ⟨rfl, rfl⟩ := HZ.out
        go_wp2_with fail
        go_ret
        exact ⟨rfl, below_drewN B5.out j⟩
      | true =>
        have h7 : code.size = 7 := by
          have := hq.out
          unfold codeQ at this
          rw [Bool.and_eq_true, decide_eq_true_iff] at this
          exact this.1
        have hx : code.data.toList.getD k 0 = code[k] := by
          have h9 : code.data.toList[k]? = some code[k] := List.getElem?_eq_getElem (by show k < code.size; exact hlt)
          rw [List.getD_eq_getElem?_getD, h9]
          rfl
        have hsu := codeQ_succ code.data.toList k
        rw [hq.out, hx, Bool.true_and] at hsu
        obtain ⟨y, hy⟩ : ∃ y, chL.getD k 0 = y := ⟨_, rfl⟩
        rw [hy] at hsu
        have hyy : ∀ hh, (⟨#[99, 104, 117, 110, 107, 101, 100]⟩ : ByteArray)[k]'hh = y := fun hh => by
          rw [← hy]
          have h8 : k < 7 := by omega
          match k, h8 with
          | 0, _ => rfl
          | 1, _ => rfl
          | 2, _ => rfl
          | 3, _ => rfl
          | 4, _ => rfl
          | 5, _ => rfl
          | 6, _ => rfl
        have hk7 : (k : Int) < 7 := by omega
        unfold okC at hsu
        cases hb1 : (bits .or .u8 (code[k].toNat : Int) 32 == (y.toNat : Int)) <;> cases hb2 : decide ((65 : Int) ≤ (code[k].toNat : Int)) <;> rw [hb1, hb2] at hsu
        all_goals
          have HSU := Lib.hid hsu
          clear hsu hx hy
          go_wp2_with fail
          go_quiet (fail)
          go_wp2_with fail
          go_roundw
          case rel => exact ⟨k + 1, _, by omega, rfl, by go_num, HSU, _, rfl⟩
          case measure => simp [intOf]; omega
    · obtain rfl : k = code.size := by omega
      have hSq : S = q := HS.out.symm.trans ((codeQ_end code.data.toList).symm.trans hq.out)
      subst hSq
      cases S
      all_goals
        obtain ⟨rfl, rfl⟩ := HZ.out
        go_wp2_with fail
        go_ret
        exact ⟨rfl, below_drewN B5.out j⟩
end Go.Proofs.YtonlfplloenfcaaGreatDoor
