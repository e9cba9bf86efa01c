/-
  BodiesLoose: the walk.
-/
import Derived.Test.YtonlfplloenfcaaGreatDoorAHowEtc
import Derived.Test.YtonlfplloenfcaaGreatDoorLooseSpec
import Derived.Test.YtonlfplloenfcaaGreatDoorDig13
import Derived.Deep.CutRange
import Derived.Deep.CutBlock
namespace Go.Proofs.YtonlfplloenfcaaGreatDoor
open Go.RowKit

def loudB (x : UInt8) : Bool := !(decide ((x.toNat : Int) < 32) || ((x.toNat : Int) == 127))
theorem loud_ctrl (x : UInt8) (h : loudB x = true) : ctrlOK x = true := by
  have h1 := all_bytes (p := fun x => !loudB x || ctrlOK x) (by decide +kernel) x
  simpa [h] using h1
theorem loud_plain {l : List UInt8} (h : l.all loudB = true) : plainB l = true := by
  unfold plainB
  rw [List.all_eq_true] at h ⊢
  exact fun x hx => loud_ctrl x (h x hx)
theorem hexu_fin : ∀ d : Fin 16, (⟨#[48, 49, 50, 51, 52, 53, 54, 55, 56, 57, 65, 66, 67, 68, 69, 70]⟩ : ByteArray).extract d.val (d.val + 1) = ⟨#[hexU1 d.val]⟩ := by decide +kernel
theorem hexu_ext (d : Nat) (h : d < 16) : (⟨#[48, 49, 50, 51, 52, 53, 54, 55, 56, 57, 65, 66, 67, 68, 69, 70]⟩ : ByteArray).extract d (d + 1) = ⟨#[hexU1 d]⟩ := hexu_fin ⟨d, h⟩
theorem cat_data (a b : ByteArray) : (a ++ b).data.toList = a.data.toList ++ b.data.toList := Go.Joins.data_append a b
theorem loose_some {z : Nat} {words body : List UInt8} (h : body.length ≠ 0) : looseT z words body = List.replicate z 48 ++ hexUT body.length ++ [32, 9, 59] ++ words ++ [13, 10] ++ body ++ [13, 10] ++ List.replicate (z + 1) 48 ++ [59] ++ words ++ [13, 10, 65, 58, 32] ++ words ++ [13, 10, 98, 58, 13, 10, 13, 10] := by
  unfold looseT looseChunk looseEnd
  rw [if_neg h]
  simp
theorem loose_empty {z : Nat} {words body : List UInt8} (h : body.length = 0) : looseT z words body = List.replicate (z + 1) 48 ++ [59] ++ words ++ [13, 10, 65, 58, 32] ++ words ++ [13, 10, 98, 58, 13, 10, 13, 10] := by
  unfold looseT looseEnd
  rw [if_pos h]
  simp
theorem cat_list (a b : List UInt8) : (⟨a.toArray⟩ ++ ⟨b.toArray⟩ : ByteArray) = ⟨(a ++ b).toArray⟩ := by
  apply ByteArray.ext
  rw [ByteArray.data_append]
  simp

set_option maxRecDepth 100000 in
set_option maxHeartbeats 4000000 in
theorem bodiesloose_any (A : Option Addr) (n c z : Nat) (words : ByteArray) (l : List UInt8) (w : World) (h : Lies w w.heap.size A n (Lib.byteCells l)) (hn : n ≤ 140737488355328) (hws : words.size ≤ 140737488355328) (hz : z < 256) (hm : MaxOk w) (hmg : maxG < w.heap.size) (ht : tab64 w) (htg : 8 < w.heap.size) :
    Calls Tryz.prog 15 #[.slice A n c, .string words, .int .u8 (z : Int)] w fun e w' => e = .returned (.bool true) ∧ Below w.heap.size w w' := by
  have H := Lib.hid h
  have hll : l.length = n := by simpa [Lib.byteCells] using h.1
  have HLL := Lib.hid hll
  have HM := Lib.hid (fun (W : World) (hb : Below w.heap.size w W) => (And.intro (hm.below hb hmg) (Nat.lt_of_lt_of_le hmg hb.size)))
  have HA := Lib.hid (fun (W : World) (hb : Below w.heap.size w W) => alive13_any W (hm.below hb hmg) (Nat.lt_of_lt_of_le hmg hb.size) (tab64_below ht hb htg) (Nat.lt_of_lt_of_le htg hb.size))
  clear h hm ht hll
  go_enter Tryz.func15, Tryz.ntmps15
  go_wp2_with fail
  refine (HA.out w (Below.refl _ _)).mono ?_
  rintro e w1 ⟨rfl, hb1⟩
  have B1 := Lib.hid hb1
  clear hb1
  by_cases hbig : 60000 < n
  · have hd : decide ((60000 : Int) < (n : Int)) = true := decide_eq_true (by omega)
    go_wp2_with fail
    refine (HA.out w1 B1.out).mono ?_
    rintro e w2 ⟨rfl, hb2⟩
    have B2 := Lib.hid (B1.out.trans (hb2.mono B1.out.size))
    clear hb2
    go_wp2_with fail
    go_ret
    exact ⟨rfl, B2.out⟩
  have hd : decide ((60000 : Int) < (n : Int)) = false := decide_eq_false (by omega)
  by_cases hbig2 : 1000 < words.size
  · have hd2 : decide ((1000 : Int) < (words.size : Int)) = true := decide_eq_true (by omega)
    go_wp2_with fail
    refine (HA.out w1 B1.out).mono ?_
    rintro e w2 ⟨rfl, hb2⟩
    have B2 := Lib.hid (B1.out.trans (hb2.mono B1.out.size))
    clear hb2
    go_wp2_with fail
    go_ret
    exact ⟨rfl, B2.out⟩
  have hd2 : decide ((1000 : Int) < (words.size : Int)) = false := decide_eq_false (by omega)
  clear HA
  go_wp2_with fail
  clear hd hd2
  go_loopw [7] (fun i wr => ∃ k : Nat, k ≤ words.size ∧ i = .int .i64 k ∧ Hid ((words.data.toList.take k).all loudB = true) ∧ w1 = wr) (fun i _ => words.size - (intOf i).toNat)
  case atStart => exact ⟨0, Nat.zero_le _, rfl, rfl, rfl⟩
  case round =>
    obtain ⟨k, hk, rfl, HP, rfl⟩ := hrel
    by_cases hlt : k < words.size
    · have hx : words.data.toList[k]? = some words[k] := List.getElem?_eq_getElem (by show k < words.size; exact hlt)
      have htk : words.data.toList.take (k + 1) = words.data.toList.take k ++ [words[k]] := by rw [List.take_add_one, hx]; rfl
      have hl1 : loudB words[k] = !(decide ((words[k].toNat : Int) < 32) || ((words[k].toNat : Int) == 127)) := rfl
      cases h1 : decide ((words[k].toNat : Int) < 32) <;> cases h2 : ((words[k].toNat : Int) == 127)
      · rw [h1, h2] at hl1
        have HP2 := Lib.hid (show (words.data.toList.take (k + 1)).all loudB = true by rw [htk, List.all_append, HP.out]; simp [hl1])
        clear hx htk hl1
        go_wp2_with fail
        go_roundw
        case rel => exact ⟨k + 1, by omega, by go_num, HP2, trivial⟩
        case measure => simp [intOf]; omega
      all_goals
        clear hx htk hl1
        go_wp2_with fail
        go_ret
        exact ⟨rfl, B1.out⟩
    · obtain rfl : k = words.size := by omega
      have hwp : words.data.toList.all loudB = true := by
        have := HP.out
        rwa [List.take_of_length_le (show words.data.toList.length ≤ words.size from Nat.le_refl _)] at this
      have HWP := Lib.hid (loud_plain hwp)
      clear hwp HP
      go_wp2_with fail
      go_loopw [8, 9] (fun s v wr => ∃ (k : Nat) (x : List UInt8), k ≤ 60000 ∧ v = .int .i64 k ∧ s = .string ⟨x.toArray⟩ ∧ Hid (hexUT n = digL 16 hexU1 k ++ x) ∧ w1 = wr) (fun _ v _ => (intOf v).toNat)
      case atStart => exact ⟨n, [], by omega, rfl, rfl, Lib.hid (by unfold hexUT; rw [List.append_nil]), rfl⟩
      case round =>
        obtain ⟨k, x, hk, rfl, rfl, HX, rfl⟩ := hrel
        by_cases hk0 : 0 < k
        · have hd1 : (k : Int) / 16 = ((k / 16 : Nat) : Int) := by omega
          have hd2 : (k : Int) % 16 = ((k % 16 : Nat) : Int) := by omega
          have hx := hexu_ext (k % 16) (Nat.mod_lt _ (by omega))
          have hcat : (⟨#[hexU1 (k % 16)]⟩ ++ ⟨x.toArray⟩ : ByteArray) = ⟨(hexU1 (k % 16) :: x).toArray⟩ := by
            apply ByteArray.ext
            rw [ByteArray.data_append]
            simp
          have HC := Lib.hid hcat
          have HX2 := Lib.hid (show hexUT n = digL 16 hexU1 (k / 16) ++ (hexU1 (k % 16) :: x) by rw [HX.out, digL_step 16 (by omega) hexU1 k (by omega)]; simp)
          have hls : x.length ≤ 4 := by
            have h1 := hexUT_len n (by omega)
            rw [HX.out, List.length_append] at h1
            omega
          obtain ⟨q, hq⟩ : ∃ q, k / 16 = q := ⟨_, rfl⟩
          obtain ⟨d, hd⟩ : ∃ d, k % 16 = d := ⟨_, rfl⟩
          rw [hq] at hd1 HX2
          rw [hd] at hd2 hx HX2 HC
          have hd16 : d < 16 := by omega
          have hs1 : (⟨x.toArray⟩ : ByteArray).size ≤ 4 := by show x.toArray.size ≤ 4; simpa using hls
          have hs2 : (⟨#[hexU1 d]⟩ : ByteArray).size = 1 := rfl
          have hqk : q < k := by omega
          clear hq hd hcat
          go_wp2_with fail
          rw [HC.out]
          go_roundw
          case rel => exact ⟨q, hexU1 d :: x, by omega, rfl, rfl, HX2, trivial⟩
          case measure => simp [intOf]; omega
        · obtain rfl : k = 0 := by omega
          have hxe : hexUT n = x := by rw [HX.out, digL_zero]; rfl
          have hxl := hexUT_len n (by omega)
          have HXE := Lib.hid hxe
          rw [hxe] at hxl
          have hmod : (z : Int) % 9 = ((z % 9 : Nat) : Int) := by omega
          have hz9 : z % 9 < 9 := Nat.mod_lt _ (by omega)
          have HLR := Lib.hid (loose_read (z % 9) words.data.toList l (by omega) HWP.out (by show words.size ≤ 1000; omega) (by rw [HLL.out]; omega))
          obtain ⟨y, hy⟩ : ∃ y, z % 9 = y := ⟨_, rfl⟩
          rw [hy] at hmod hz9 HLR
          clear hxe hy HX
          go_wp2_with fail
          go_loopw [8, 10, 11] (fun s r i wr => ∃ (k : Nat) (S R : ByteArray), k ≤ y ∧ i = .int .i64 k ∧ s = .string S ∧ r = .string R ∧ Hid (S.data.toList = List.replicate k 48 ++ x) ∧ Hid (R.data.toList = List.replicate (k + 1) 48) ∧ S.size ≤ 4 + k ∧ R.size ≤ 1 + k ∧ w1 = wr) (fun _ _ i _ => y - (intOf i).toNat)
          case atStart => exact ⟨0, ⟨x.toArray⟩, ⟨#[48]⟩, Nat.zero_le _, rfl, rfl, rfl, rfl, rfl, by show x.toArray.size ≤ 4; simpa using hxl, Nat.le_refl _, rfl⟩
          case round =>
            obtain ⟨k, S, R, hk, rfl, rfl, rfl, HS, HR, hs1, hs2, rfl⟩ := hrel
            by_cases hlt : k < y
            · have hc1 : (⟨#[48]⟩ ++ S : ByteArray).data.toList = List.replicate (k + 1) 48 ++ x := by
                rw [cat_data, HS.out, List.replicate_succ]
                rfl
              have hc2 : (R ++ ⟨#[48]⟩ : ByteArray).data.toList = List.replicate (k + 1 + 1) 48 := by
                rw [cat_data, HR.out, List.replicate_succ' (n := k + 1)]
              have hs3 : (⟨#[48]⟩ : ByteArray).size = 1 := rfl
              have hs4 : (⟨#[48]⟩ ++ S : ByteArray).size ≤ 4 + (k + 1) := by rw [ByteArray.size_append]; omega
              have hs5 : (R ++ ⟨#[48]⟩ : ByteArray).size ≤ 1 + (k + 1) := by rw [ByteArray.size_append]; omega
              have HC := Lib.hid (And.intro hc1 (And.intro hc2 (And.intro hs4 hs5)))
              clear hc1 hc2 hs4 hs5
              go_wp2_with fail
              go_roundw
              case rel => exact ⟨k + 1, _, _, by omega, by go_num, rfl, rfl, HC.out.1, HC.out.2.1, HC.out.2.2.1, HC.out.2.2.2, trivial⟩
              case measure => simp [intOf]; omega
            · obtain rfl : k = y := by omega
              have hcv := conv_lies (c := c) ((H.out.below B1.out).more B1.out.size)
              have hbs : (⟨l.toArray⟩ : ByteArray).size = n := by show l.toArray.size = n; simpa using HLL.out
              have HT := Lib.hid (fun (s : ByteArray) (hs : s.size ≤ 2000000) (he : s.data.toList = looseT k words.data.toList l) => tells13_any s ⟨l.toArray⟩ (s.size : Int) true w1 hs (by rw [he, HLR.out]; rfl) (by rw [he, HLR.out]; rfl) (by rw [he, HLR.out]; rfl) (by rw [he, HLR.out]; rfl) (HM.out _ B1.out).1 (HM.out _ B1.out).2)
              have HRS := Lib.hid (And.intro HS.out HR.out)
              have hw1 : words.data.toList.length = words.size := rfl
              by_cases hn0 : 0 < n
              · have hd0 : decide ((0 : Int) < (n : Int)) = true := decide_eq_true (by omega)
                have hT := loose_some (z := k) (words := words.data.toList) (body := l) (by rw [HLL.out]; omega)
                rw [HLL.out, HXE.out] at hT
                have HTT := Lib.hid hT
                clear hT HS HR
                go_upto_region 22 with fail
                generalize hT0 : (S ++ ⟨#[32, 9, 59]⟩ ++ words ++ ⟨#[13, 10]⟩ ++ ⟨l.toArray⟩ ++ ⟨#[13, 10]⟩ : ByteArray) = T
                have hTd : T.data.toList = List.replicate k 48 ++ x ++ [32, 9, 59] ++ words.data.toList ++ [13, 10] ++ l ++ [13, 10] := by
                  rw [← hT0, cat_data, cat_data, cat_data, cat_data, cat_data, HRS.out.1]
                have hTs : T.size ≤ 70000 := by
                  have : T.data.toList.length = T.size := rfl
                  rw [hTd] at this
                  simp only [List.length_append, List.length_replicate, List.length_cons, List.length_nil, HLL.out, hw1] at this
                  omega
                have HTD := Lib.hid hTd
                clear hT0 hTd
                go_cut [12] from 79 (fun s wx => ∃ U : ByteArray, s = .string U ∧ Hid (U.data.toList = looseT k words.data.toList l) ∧ U.size ≤ 80000 ∧ w1 = wx)
                case first =>
                  clear hcv
                  go_wp2_with fail
                  go_meet
                  refine ⟨_, rfl, Lib.hid ?_, ?_, rfl⟩
                  · rw [HTT.out, cat_data, cat_data, cat_data, cat_data, cat_data, cat_data, HTD.out, HRS.out.2]
                  · simp only [ByteArray.size_append]
                    have e1 : ByteArray.size ⟨#[59]⟩ = 1 := rfl
                    have e2 : ByteArray.size ⟨#[13, 10, 65, 58, 32]⟩ = 5 := rfl
                    have e3 : ByteArray.size ⟨#[13, 10, 98, 58, 13, 10, 13, 10]⟩ = 8 := rfl
                    omega
                case rest =>
                obtain ⟨U, rfl, HU, hus, rfl⟩ := hcut
                go_wp2_with fail
                refine (HT.out U (by omega) HU.out).mono ?_
                rintro e w2 ⟨rfl, hb2⟩
                have B2 := Lib.hid (B1.out.trans (hb2.mono B1.out.size))
                clear hb2
                go_wp2_with fail
                go_ret
                exact ⟨rfl, B2.out⟩
              · have hd0 : decide ((0 : Int) < (n : Int)) = false := decide_eq_false (by omega)
                have hT := loose_empty (z := k) (words := words.data.toList) (body := l) (by rw [HLL.out]; omega)
                have HTT := Lib.hid hT
                clear hT HS HR
                go_upto_region 22 with fail
                go_cut [12] from 79 (fun s wx => ∃ U : ByteArray, s = .string U ∧ Hid (U.data.toList = looseT k words.data.toList l) ∧ U.size ≤ 80000 ∧ w1 = wx)
                case first =>
                  clear hcv
                  go_wp2_with fail
                  go_meet
                  refine ⟨_, rfl, Lib.hid ?_, ?_, rfl⟩
                  · rw [HTT.out, cat_data, cat_data, cat_data, cat_data, cat_data, cat_data, HRS.out.2]
                    rfl
                  · simp only [ByteArray.size_append]
                    have e1 : ByteArray.size ⟨#[59]⟩ = 1 := rfl
                    have e2 : ByteArray.size ⟨#[13, 10, 65, 58, 32]⟩ = 5 := rfl
                    have e3 : ByteArray.size ⟨#[13, 10, 98, 58, 13, 10, 13, 10]⟩ = 8 := rfl
                    have e4 : ByteArray.size ⟨#[]⟩ = 0 := rfl
                    omega
                case rest =>
                obtain ⟨U, rfl, HU, hus, rfl⟩ := hcut
                go_wp2_with fail
                refine (HT.out U (by omega) HU.out).mono ?_
                rintro e w2 ⟨rfl, hb2⟩
                have B2 := Lib.hid (B1.out.trans (hb2.mono B1.out.size))
                clear hb2
                go_wp2_with fail
                go_ret
                exact ⟨rfl, B2.out⟩
end Go.Proofs.YtonlfplloenfcaaGreatDoor
