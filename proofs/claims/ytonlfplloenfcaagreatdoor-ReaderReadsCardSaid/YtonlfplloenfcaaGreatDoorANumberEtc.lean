/-
  ascii.Number.
  footmanref12.Request.
  footmanref13.Chunked: a body by its chunks.
-/
import Derived.Test.YtonlfplloenfcaaGreatDoorCutTEtc
import Derived.Test.YtonlfplloenfcaaGreatDoorShelf
import Derived.Test.YtonlfplloenfcaaGreatDoorResultsEtc
import Derived.Test.YtonlfplloenfcaaGreatDoorStatSpecEtc
import Derived.Test.YtonlfplloenfcaaGreatDoorMoreSpecEtc
import Derived.Test.YtonlfplloenfcaaGreatDoorOddEtc
import Derived.Test.YtonlfplloenfcaaGreatDoorHeadSpec
import Derived.Lib.Bytes2
import Derived.Lib.QuietBelow
import Derived.Deep.RegionHeld3
import Derived.Deep.DrawnRows
import Derived.Test.YtonlfplloenfcaaGreatDoorRefFields
import Derived.Test.YtonlfplloenfcaaGreatDoorNamesEtc
import Derived.Test.YtonlfplloenfcaaGreatDoorEndSpecEtc
import Derived.Test.YtonlfplloenfcaaGreatDoorRefLine
import Derived.Test.YtonlfplloenfcaaGreatDoorWordEtc
import Derived.Test.YtonlfplloenfcaaGreatDoorTwinEtc
namespace Go.Proofs.YtonlfplloenfcaaGreatDoor
open Go.RowKit

theorem emptyT (x : ByteArray) : x.toList.isEmpty = decide (x.size = 0) := by
  rw [← decide_eq_emptyBytes]
  rw [Bool.eq_iff_iff, decide_eq_true_iff, decide_eq_true_iff]
  constructor
  · intro h
    rw [h]
    rfl
  · intro h
    exact bytes_ext (List.eq_nil_of_length_eq_zero (by exact h))
set_option maxRecDepth 100000 in
theorem anumber_any (s : ByteArray) (most : Nat) (w : World) (hs : s.size ≤ 140737488355328) :
    Calls Tryz.prog 122 #[.string s, .int .i64 (most : Int)] w fun e w' => e = .returned (numV s.data.toList most) ∧ Below w.heap.size w w' := by
  have HT := Lib.hid (Tryz.strings_Trim s ⟨#[48, 49, 50, 51, 52, 53, 54, 55, 56, 57]⟩ w (by omega) (by decide) (ascii_of_all (by decide)))
  have hll : s.data.toList.length = s.size := rfl
  by_cases h0 : s.size = 0
  · have hE : s.toList.isEmpty = true := by rw [emptyT]; exact decide_eq_true h0
    have hn : numB s.data.toList most = none := by
      rw [List.eq_nil_of_length_eq_zero h0]
      rfl
    have HN := Lib.hid (numV_none hn)
    clear hn hll
    go_enter Tryz.func122, Tryz.ntmps122
    go_wp2_with fail
    go_ret2
    exact ⟨congrArg Ending.returned HN.out.symm, Below.refl _ _⟩
  have hE : s.toList.isEmpty = false := by rw [emptyT]; exact decide_eq_false h0
  by_cases h18 : 18 < s.size
  · have hd : decide ((18 : Int) < (s.size : Int)) = true := decide_eq_true (by omega)
    have hn : numB s.data.toList most = none := by
      unfold numB
      rw [hll, decide_eq_false (show ¬ s.size ≤ 18 by omega)]
      simp
    have HN := Lib.hid (numV_none hn)
    clear hn hll
    go_enter Tryz.func122, Tryz.ntmps122
    go_wp2_with fail
    go_ret2
    exact ⟨congrArg Ending.returned HN.out.symm, Below.refl _ _⟩
  have hd : decide ((18 : Int) < (s.size : Int)) = false := decide_eq_false (by omega)
  have hti := trim_ten s.data.toList
  obtain ⟨t, ht⟩ : ∃ t, Lib.trimS s.data.toList tenB = t := ⟨_, rfl⟩
  rw [ht] at hti
  have hcs : Lib.trimS s.data.toList (⟨#[48, 49, 50, 51, 52, 53, 54, 55, 56, 57]⟩ : ByteArray).data.toList = t := ht
  rw [hcs] at HT
  have hT2 := hti
  cases hall : s.data.toList.all digB with
  | false =>
    rw [hall] at hT2
    have hn : numB s.data.toList most = none := by
      unfold numB digitsOK
      rw [hall]
      simp
    have HN := Lib.hid (numV_none hn)
    clear hn hll hall hti ht hcs
    go_enter Tryz.func122, Tryz.ntmps122
    go_wp2_with fail
    refine (HT.out).mono ?_
    rintro e w1 ⟨rfl, hb1⟩
    have B1 := Lib.hid hb1
    clear hb1
    go_wp2_with fail
    go_ret2
    exact ⟨congrArg Ending.returned HN.out.symm, B1.out⟩
  | true =>
    rw [hall] at hT2
    have hne : s.data.toList ≠ [] := fun e => h0 (by rw [← hll, e]; rfl)
    have hat := atoi_dig hne hall (by omega)
    obtain ⟨v, hv⟩ : ∃ v, decN s.data.toList = v := ⟨_, rfl⟩
    rw [hv] at hat
    have hv18 : v < 1000000000000000000 := by rw [← hv]; exact decN_eighteen hall (by omega)
    have HAT := Lib.hid (fun W => Tryz.strconv_Atoi_ok s (by omega) (v : Int) hat W)
    have hdo : digitsOK s.data.toList = true := by
      unfold digitsOK
      rw [hall]
      cases h9 : s.data.toList with
      | nil => exact absurd h9 hne
      | cons x r => rfl
    have hnb : numB s.data.toList most = if v ≤ most then some v else none := by
      unfold numB
      rw [hdo, hv, decide_eq_true (show s.data.toList.length ≤ 18 by omega)]
      simp
    have HNB := Lib.hid hnb
    clear hat hall hti ht hcs hne hdo hv hnb hll
    go_enter Tryz.func122, Tryz.ntmps122
    go_wp2_with fail
    refine (HT.out).mono ?_
    rintro e w1 ⟨rfl, hb1⟩
    have B1 := Lib.hid hb1
    clear hb1
    go_wp2_with fail
    refine (HAT.out w1).mono ?_
    rintro e w2 ⟨rfl, hw2⟩
    have B2 : Hid (Below w.heap.size w w2) := by
      rcases hw2 with rfl | ⟨t2, rfl⟩
      · exact B1
      · exact Lib.hid (B1.out.trans ((bytesWorld_below w1 5 t2).mono B1.out.size))
    clear hw2
    by_cases hvm : v ≤ most
    · have hd3 : decide ((most : Int) < (v : Int)) = false := decide_eq_false (by omega)
      have HN := Lib.hid (numV_some (s := s.data.toList) (most := most) (n := v) (by rw [HNB.out, if_pos hvm]))
      go_wp2_with fail
      go_ret2
      exact ⟨congrArg Ending.returned HN.out.symm, B2.out⟩
    · have hd3 : decide ((most : Int) < (v : Int)) = true := decide_eq_true (by omega)
      have HN := Lib.hid (numV_none (s := s.data.toList) (most := most) (by rw [HNB.out, if_neg hvm]))
      go_wp2_with fail
      go_ret2
      exact ⟨congrArg Ending.returned HN.out.symm, B2.out⟩
end Go.Proofs.YtonlfplloenfcaaGreatDoor
namespace Go.Proofs.YtonlfplloenfcaaGreatDoor
open Go.RowKit
attribute [local go_sem] Oper.semAt_some

theorem splitB_mem : ∀ (n : Nat) (s : List UInt8), s.length ≤ n → ∀ x ∈ splitB s, x.length ≤ s.length := by
  intro n
  induction n with
  | zero =>
    intro s hs x hx
    rw [split_cut] at hx
    have h1 := cut_le1 s [13, 10]
    rcases List.mem_cons.1 hx with rfl | hx
    · exact h1.1
    · split at hx
      · rename_i hf
        have := cut_le s [13, 10] hf
        simp only [List.length_cons, List.length_nil] at this
        omega
      · cases hx
  | succ n ih =>
    intro s hs x hx
    rw [split_cut] at hx
    have h1 := cut_le1 s [13, 10]
    rcases List.mem_cons.1 hx with rfl | hx
    · exact h1.1
    · split at hx
      · rename_i hf
        have := cut_le s [13, 10] hf
        simp only [List.length_cons, List.length_nil] at this
        have := ih _ (by omega) x hx
        omega
      · cases hx
theorem mk_list (x : List UInt8) : (⟨x.toArray⟩ : ByteArray).data.toList = x := by simp
theorem lines_size (l : List UInt8) (h : 0 ≤ endAt l) : ∀ x ∈ headLines l, x.length ≤ 65536 := by
  obtain ⟨k, hk, hk1, hk2, _, _⟩ := endAt_spec l h
  intro x hx
  unfold headLines at hx
  have := splitB_mem _ _ (Nat.le_refl _) x hx
  rw [hk, Int.toNat_natCast, List.length_take] at this
  omega
theorem lines_count (l : List UInt8) (h : 0 ≤ endAt l) : (headLines l).length ≤ 65537 := by
  obtain ⟨k, hk, hk1, hk2, _, _⟩ := endAt_spec l h
  have := splitB_len (l.take (endAt l).toNat)
  unfold headLines
  rw [hk, Int.toNat_natCast, List.length_take] at this
  rw [hk, Int.toNat_natCast]
  omega

end Go.Proofs.YtonlfplloenfcaaGreatDoor
namespace Go.Proofs.YtonlfplloenfcaaGreatDoor
open Go.RowKit
attribute [local go_sem] Oper.semAt_some

/-- What both tell: a body, how many bytes, done, the error. -/
def ChunkPost (l : List UInt8) (w : World) (e : Ending) (w' : World) : Prop :=
  ∃ v, e = .returned (.tuple #[v, .int .i64 (ansN l.length (chunkA l) : Nat), .bool (ansD (chunkA l)), .int .i64 (ansE (chunkA l))]) ∧
    w'.ownsRow w.heap.size 5 1 v (ansB (chunkA l)).length (Lib.byteCells (ansB (chunkA l))) ∧ Below w.heap.size w w'
theorem results_tmp4 {fn : Func} {t u v x : Tmp} (h : fn.results = #[.tmp t, .tmp u, .tmp v, .tmp x]) (tmps : Array Value) (P : Program) (w : World) :
    (results fn tmps).run P w = .ok (.tuple #[tmps.getD t undef, tmps.getD u undef, tmps.getD v undef, tmps.getD x undef]) w := by
  simp [results, h]
theorem post_err {l : List UInt8} {w w' : World} {z : Int} (h : chunkA l = .err z) (hb : Below w.heap.size w w') : ChunkPost l w (.returned (.tuple #[.slice none 0 0, .int .i64 0, .bool false, .int .i64 z])) w' := by
  unfold ChunkPost
  rw [h]
  exact ⟨_, rfl, World.ownsRow_nil _ _ _ _, hb⟩
theorem post_more {l b : List UInt8} {w w' : World} {v : Value} (h : chunkA l = .more b) (ho : w'.ownsRow w.heap.size 5 1 v b.length (Lib.byteCells b)) (hb : Below w.heap.size w w') : ChunkPost l w (.returned (.tuple #[v, .int .i64 (l.length : Int), .bool false, .int .i64 0])) w' := by
  unfold ChunkPost
  rw [h]
  exact ⟨_, rfl, ho, hb⟩
theorem post_done {l b : List UInt8} {w w' : World} {v : Value} {k : Nat} (hk : k ≤ l.length) (h : chunkA l = .done b (l.drop k)) (ho : w'.ownsRow w.heap.size 5 1 v b.length (Lib.byteCells b)) (hb : Below w.heap.size w w') : ChunkPost l w (.returned (.tuple #[v, .int .i64 (k : Int), .bool true, .int .i64 0])) w' := by
  unfold ChunkPost
  rw [h]
  refine ⟨v, ?_, ho, hb⟩
  have e : l.length - (l.drop k).length = k := by rw [List.length_drop]; omega
  show _ = Ending.returned (.tuple #[v, .int .i64 ((l.length - (l.drop k).length : Nat) : Int), .bool true, .int .i64 0])
  rw [e]
theorem stop_err {l : List UInt8} {k all now : Nat} {body : List UInt8} {z : Int} (h : Tells l (chunkA l) .stop k body all now z false) (hz : z ≠ 0) : chunkA l = .err z := by
  rcases h with ⟨_, _, h⟩ | ⟨h, _⟩ | ⟨h, _⟩
  · exact h
  · exact absurd h hz
  · exact absurd h hz
theorem stop_more {l : List UInt8} {k all now : Nat} {body : List UInt8} (h : Tells l (chunkA l) .stop k body all now 0 false) : chunkA l = .more body := by
  rcases h with ⟨h, _⟩ | ⟨_, h, _⟩ | ⟨_, _, h⟩
  · rcases h with h | h <;> cases h
  · cases h
  · exact h
theorem stop_done {l : List UInt8} {k all now : Nat} {body : List UInt8} (h : Tells l (chunkA l) .stop k body all now 0 true) : chunkA l = .done body (l.drop k) := by
  rcases h with ⟨h, _⟩ | ⟨_, _, h⟩ | ⟨_, h, _⟩
  · rcases h with h | h <;> cases h
  · exact h
  · cases h

theorem empty_of13 (x : ByteArray) : x.toList.isEmpty = decide (x.size = 0) := by
  rw [← decide_eq_emptyBytes]
  rw [Bool.eq_iff_iff, decide_eq_true_iff, decide_eq_true_iff]
  constructor
  · intro h
    rw [h]
    rfl
  · intro h
    exact bytes_ext (by rw [bytes_nil x h]; rfl)
theorem rcells_one (l : List UInt8) : ∀ u ∈ Lib.byteCells l, u.oneCell' = true := by
  intro u hu
  obtain ⟨x, _, rfl⟩ := List.mem_map.1 hu
  rfl
theorem own5 {w : World} {base x : Nat} {v : Value} {body P : List UInt8} (hP : P.length = x) (h : w.ownsRow base 5 1 v (body.length + x) (Lib.byteCells body ++ Lib.byteCells P)) : w.ownsRow base 5 1 v (body ++ P).length (Lib.byteCells (body ++ P)) := by
  have e1 : Lib.byteCells (body ++ P) = Lib.byteCells body ++ Lib.byteCells P := by unfold Lib.byteCells; rw [List.map_append]
  rw [e1, List.length_append, hP]
  exact h
set_option maxRecDepth 100000 in
set_option maxHeartbeats 4000000 in
theorem r13chunked_any (A : Option Addr) (n c : Nat) (l : List UInt8) (w : World) (h : Lies w w.heap.size A n (Lib.byteCells l)) (hc : n ≤ c) (hn : n ≤ 2000000) :
    Calls Tryz.prog 37 #[.slice A n c] w (ChunkPost l w) := by
  have hll : l.length = n := by simpa [Lib.byteCells] using h.1
  have HL := Lib.hid h
  have HLL := Lib.hid hll
  have HLN := Lib.hid (fun (k : Nat) (hk : k ≤ n) (W : World) (hb : Below w.heap.size w W) => r13line_any A n c k l W ((h.below hb).more hb.size) hc (by omega) hk)
  have HSZ := Lib.hid (fun (s : ByteArray) (hs : s.size ≤ 65536) (W : World) => r13size_any s W (by omega))
  have HFL := Lib.hid (fun (s : ByteArray) (hs : s.size ≤ 65536) (W : World) => rline_any s W (by omega))
  clear h hll
  obtain ⟨i0, hi, hz0, hz1, hz2⟩ := info_parts infoU
  go_enter Tryz.func37, Tryz.ntmps37
  go_wp2_with fail
  go_loopw [6, 7, 8] (fun v a s wr => ∃ (k all : Nat) (body : List UInt8), a = .int .i64 (k : Int) ∧ s = .int .i64 (all : Int) ∧ k ≤ n ∧ all ≤ 65536 ∧ body.length ≤ k ∧ Hid (Tells l (chunkA l) .size k body all 0 0 false) ∧
      Hid (wr.ownsRow w.heap.size 5 1 v body.length (Lib.byteCells body)) ∧ Hid (Below w.heap.size w wr))
    (fun _ a _ _ => n + 1 - (intOf a).toNat)
  case atStart => exact ⟨0, 0, [], rfl, rfl, Nat.zero_le _, by omega, Nat.le_refl _, tells_start l, World.ownsRow_nil _ _ _ _, Below.refl _ _⟩
  case round =>
    obtain ⟨k, all, body, rfl, rfl, hk, hall, hbk, hT, hO, hB⟩ := hrel
    have HL1 := Lib.hid (HLN.out k hk wr hB.out)
    go_wp2_with fail
    refine (HL1.out).mono ?_
    rintro e w1 ⟨rfl, rfl⟩
    clear HL1
    cases hla : lineA (l.drop k) with
    | limit =>
      have hv : lineC l k = .tuple #[.string ⟨#[]⟩, .int .i64 0, .int .i64 3] := by unfold lineC; rw [hla]
      rw [hv]
      have HP := Lib.hid (post_err (stop_err (size_limit hT.out hla k) (by decide)) hB.out)
      clear hv hla hT hO
      go_wp2_with fail
      refine bodyPost_ret (results_tmp4 rfl _ _ _) rfl ?_
      exact HP.out
    | short =>
      have hv : lineC l k = .tuple #[.string ⟨#[]⟩, .int .i64 (-1), .int .i64 0] := by unfold lineC; rw [hla]
      rw [hv]
      have HP := Lib.hid (post_more (stop_more (size_short hT.out hla)) hO.out hB.out)
      rw [HLL.out] at HP
      clear hv hla hT hO
      go_wp2_with fail
      refine bodyPost_ret (results_tmp4 rfl _ _ _) rfl ?_
      exact HP.out
    | line m =>
      have hv : lineC l k = .tuple #[.string ⟨((l.drop k).take m).toArray⟩, .int .i64 ((k + m + 2 : Nat) : Int), .int .i64 0] := by unfold lineC; rw [hla]
      rw [hv]
      have hle := (line_spec hla).1
      have hm6 := (line_spec hla).2.1
      rw [List.length_drop, HLL.out] at hle
      have HLA := Lib.hid hla
      obtain ⟨s, hs⟩ : ∃ s : ByteArray, (⟨((l.drop k).take m).toArray⟩ : ByteArray) = s := ⟨_, rfl⟩
      have hsL : s.data.toList = (l.drop k).take m := by rw [← hs]
      have hsz : s.size ≤ 65536 := by
        have h1 : s.data.toList.length = s.size := rfl
        rw [hsL, List.length_take] at h1
        omega
      rw [hs]
      have HSL := Lib.hid hsL
      have HS1 := Lib.hid (HSZ.out s hsz w1)
      obtain ⟨q, hq⟩ : ∃ q : Nat, k + m + 2 = q := ⟨_, rfl⟩
      rw [hq]
      clear hv hla hs hsL
      go_wp2_with fail
      refine (HS1.out).mono ?_
      rintro e w2 ⟨⟨v2, rfl, hv2⟩, hb2⟩
      rw [HSL.out] at hv2 ⊢
      have B2 := Lib.hid (hB.out.trans (hb2.mono hB.out.size))
      have O2 := Lib.hid (own_below hO.out hb2)
      clear hb2 HS1
      cases hok : sizeOK ((l.drop k).take m) with
      | false =>
        have HP := Lib.hid (post_err (stop_err (size_bad hT.out HLA.out hok k) (by decide)) B2.out)
        clear hok hv2
        go_wp2_with fail
        refine bodyPost_ret (results_tmp4 rfl _ _ _) rfl ?_
        exact HP.out
      | true =>
      have HOK := Lib.hid hok
      have hv := hv2 hok
      clear hok hv2
      obtain ⟨N, hN⟩ : ∃ N, sizeN ((l.drop k).take m) = N := ⟨_, rfl⟩
      rw [hN] at hv
      have HN := Lib.hid hN
      have hv2le : v2 ≤ 65537 := by omega
      clear hN
      by_cases hz : N = 0
      · subst hz
        have hv0 : v2 = 0 := by omega
        subst hv0
        have HT2 := Lib.hid (size_zero hT.out HLA.out HOK.out HN.out all)
        rw [hq] at HT2
        have hqn : q ≤ n := by omega
        clear hv
        go_wp2_with fail
        go_loopw [7] (fun a wl => ∃ k2 : Nat, a = .int .i64 (k2 : Int) ∧ k2 ≤ n ∧ Hid (Tells l (chunkA l) .fields k2 body all 0 0 false) ∧ Hid (wl.ownsRow w.heap.size 5 1 u6 body.length (Lib.byteCells body)) ∧ Hid (Below w.heap.size w wl))
          (fun a _ => n + 1 - (intOf a).toNat)
        case atStart => exact ⟨q, rfl, hqn, HT2, O2, B2⟩
        case round =>
          obtain ⟨k2, rfl, hk2, hT3, hO3, hB3⟩ := hrel
          clear HT2 O2 B2 HLA HOK HN HSL hT
          have HL3 := Lib.hid (HLN.out k2 hk2 _ hB3.out)
          go_wp2_with fail
          refine (HL3.out).mono ?_
          rintro e w4 ⟨rfl, rfl⟩
          clear HL3
          cases hla : lineA (l.drop k2) with
          | limit =>
            have hv : lineC l k2 = .tuple #[.string ⟨#[]⟩, .int .i64 0, .int .i64 3] := by unfold lineC; rw [hla]
            rw [hv]
            have HP := Lib.hid (post_err (stop_err (fields_limit hT3.out hla k2) (by decide)) hB3.out)
            clear hv hla hT3 hO3
            go_wp2_with fail
            refine bodyPost_ret (results_tmp4 rfl _ _ _) rfl ?_
            exact HP.out
          | short =>
            have hv : lineC l k2 = .tuple #[.string ⟨#[]⟩, .int .i64 (-1), .int .i64 0] := by unfold lineC; rw [hla]
            rw [hv]
            have HP := Lib.hid (post_more (stop_more (fields_short hT3.out hla)) hO3.out hB3.out)
            rw [HLL.out] at HP
            clear hv hla hT3 hO3
            go_wp2_with fail
            refine bodyPost_ret (results_tmp4 rfl _ _ _) rfl ?_
            exact HP.out
          | line m2 =>
            have hv : lineC l k2 = .tuple #[.string ⟨((l.drop k2).take m2).toArray⟩, .int .i64 ((k2 + m2 + 2 : Nat) : Int), .int .i64 0] := by unfold lineC; rw [hla]
            rw [hv]
            have hle2 := (line_spec hla).1
            have hm62 := (line_spec hla).2.1
            rw [List.length_drop, HLL.out] at hle2
            have HLA := Lib.hid hla
            obtain ⟨s2, hs⟩ : ∃ s : ByteArray, (⟨((l.drop k2).take m2).toArray⟩ : ByteArray) = s := ⟨_, rfl⟩
            have hsL : s2.data.toList = (l.drop k2).take m2 := by rw [← hs]
            have hsz2 : s2.size = m2 := by
              have h1 : s2.data.toList.length = s2.size := rfl
              rw [hsL, List.length_take, List.length_drop, HLL.out] at h1
              omega
            rw [hs]
            have HSL := Lib.hid hsL
            have HF1 := Lib.hid (fun W => HFL.out s2 (by omega) W)
            rw [HSL.out] at HF1
            obtain ⟨q2, hq2⟩ : ∃ q : Nat, k2 + m2 + 2 = q := ⟨_, rfl⟩
            rw [hq2]
            clear hv hla hs hsL
            by_cases hm0 : m2 = 0
            · have e1 : s2.toList.isEmpty = true := by rw [empty_of13]; exact decide_eq_true (by omega)
              subst hm0
              have hd := stop_done (fields_end hT3.out HLA.out)
              have e2 : k2 + 2 = q2 := hq2
              rw [e2] at hd
              have HP := Lib.hid (post_done (by rw [HLL.out]; omega) hd hO3.out hB3.out)
              clear hd hsz2
              go_wp2_with fail
              refine bodyPost_ret (results_tmp4 rfl _ _ _) rfl ?_
              exact HP.out
            · have e1 : s2.toList.isEmpty = false := by rw [empty_of13]; exact decide_eq_false (by omega)
              clear hsz2
              go_wp2_with fail
              refine (HF1.out _).mono ?_
              rintro e w5 ⟨rfl, hb5⟩
              have B5 := Lib.hid (hB3.out.trans (hb5.mono hB3.out.size))
              have O5 := Lib.hid (own_below hO3.out hb5)
              clear hb5 HF1
              have hlv : lineV ((l.drop k2).take m2) = .agg #[.string (if fieldOK ((l.drop k2).take m2) then (fieldOf ((l.drop k2).take m2)).1 else ⟨#[]⟩), .string (if fieldOK ((l.drop k2).take m2) then (fieldOf ((l.drop k2).take m2)).2 else ⟨#[]⟩)] := rfl
              rw [hlv]
              cases hfo : fieldOK ((l.drop k2).take m2) with
              | false =>
                have HP := fun (X : World) (hX : Below w.heap.size w X) => post_err (stop_err (fields_bad hT3.out HLA.out hm0 hfo k2) (by decide)) hX
                have HP2 := Lib.hid HP
                clear HP hlv hfo
                go_wp2_with fail
                refine bodyPost_ret (results_tmp4 rfl _ _ _) rfl ?_
                exact HP2.out _ (B5.out.alloc B5.out.size _)
              | true =>
                have HT5 := Lib.hid (fields_next hT3.out HLA.out hm0 hfo)
                rw [hq2] at HT5
                clear hlv hfo
                go_wp2_with fail
                go_roundw
                case rel => exact ⟨q2, rfl, by omega, HT5, O5.out.alloc _, B5.out.alloc B5.out.size _⟩
                case measure => simp [intOf]; omega
      · have d0 : ((v2 : Int) == 0) = false := beq_eq_false_iff_ne.2 (by omega)
        by_cases hbig : 65536 < all + N
        · have d1 : decide ((65536 : Int) < (all : Int) + (v2 : Int)) = true := decide_eq_true (by omega)
          have HP := Lib.hid (post_err (stop_err (size_great hT.out HLA.out HOK.out (by rw [HN.out]; exact hbig) hall k) (by decide)) B2.out)
          clear hv hbig
          go_wp2_with fail
          refine bodyPost_ret (results_tmp4 rfl _ _ _) rfl ?_
          exact HP.out
        · have hvN : v2 = N := by omega
          subst hvN
          have d1 : decide ((65536 : Int) < (all : Int) + (v2 : Int)) = false := decide_eq_false (by omega)
          have HT2 := Lib.hid (size_next hT.out HLA.out HOK.out (by rw [HN.out]; exact hz) (by rw [HN.out]; omega))
          rw [HN.out, hq] at HT2
          have hqn : q ≤ n := by omega
          clear hv
          obtain ⟨x, hx⟩ : ∃ x : Nat, min v2 (n - q) = x := ⟨_, rfl⟩
          have hx1 : x ≤ v2 := by omega
          have hx2 : x ≤ n - q := by omega
          obtain ⟨P, hP⟩ : ∃ P, (l.drop q).take v2 = P := ⟨_, rfl⟩
          have hPx : P = (l.drop q).take x := by
            rw [← hP, ← hx]
            rcases Nat.le_total v2 (n - q) with h1 | h1
            · rw [Nat.min_eq_left h1]
            · rw [Nat.min_eq_right h1, List.take_of_length_le (by rw [List.length_drop, HLL.out]; exact h1), List.take_of_length_le (by rw [List.length_drop, HLL.out]; exact Nat.le_refl _)]
          have hPl : P.length = x := by rw [hPx, List.length_take, List.length_drop, HLL.out]; omega
          have hrd : Reads w2 w.heap.size 1 (if c = q then A else Option.map (fun a => a.add q) A) x (Lib.byteCells P) := by
            have h1 := ((HL.out.below B2.out).reads).cut (k := q) (cap := c) hqn hc
            rw [Nat.mul_one] at h1
            have e : (Lib.byteCells l).drop q = Lib.byteCells (l.drop q) := by unfold Lib.byteCells; rw [List.map_drop]
            rw [e] at h1
            refine ⟨by simp [Lib.byteCells, hPl], fun h0 => ?_⟩
            obtain ⟨ad, e1, hb1, hc1⟩ := h1.2 (by omega)
            refine ⟨ad, e1, hb1, fun j u hu => hc1 j u ?_⟩
            rw [hPx] at hu
            unfold Lib.byteCells at hu ⊢
            rw [List.map_take, List.getElem?_take] at hu
            split at hu
            · exact hu
            · cases hu
          have HRD := Lib.hid hrd
          have HPL := Lib.hid hPl
          have hmn : min ((q : Int) + (v2 : Int)) (n : Int) = (q : Int) + (x : Int) := by omega
          have hqx0 : 0 ≤ (q : Int) + (x : Int) := by omega
          have hqx : (q : Int) + (x : Int) ≤ (c : Int) := by omega
          have hqt : ((q : Int) + (x : Int)).toNat = q + x := by omega
          have HPP := Lib.hid hP
          clear hrd hPl hPx hP
          have hqv : ((q : Int) + (v2 : Int)).toNat = q + v2 := by omega
          have hqv1 : ((q : Int) + (v2 : Int) + 1).toNat = q + v2 + 1 := by omega
          have hdd : (l.drop q).drop v2 = l.drop (q + v2) := by rw [List.drop_drop]
          have HMORE : Hid (endA (l.drop (q + v2)) = .more → ∀ v w', w'.ownsRow w.heap.size 5 1 v (body ++ P).length (Lib.byteCells (body ++ P)) → Below w.heap.size w w' → ChunkPost l w (.returned (.tuple #[v, .int .i64 (n : Int), .bool false, .int .i64 0])) w') := fun he v w' ho hb => by
            have h1 := stop_more (chunk_more HT2.out (by rw [hdd]; exact he) k all)
            rw [HPP.out] at h1
            have h2 := post_more h1 ho hb
            rw [HLL.out] at h2
            exact h2
          have HBAD : Hid (endA (l.drop (q + v2)) = .bad → ∀ w', Below w.heap.size w w' → ChunkPost l w (.returned (.tuple #[.slice none 0 0, .int .i64 0, .bool false, .int .i64 9])) w') := fun he w' hb =>
            post_err (stop_err (chunk_bad HT2.out (by rw [hdd]; exact he) k [] all) (by decide)) hb
          have HNEXT : Hid (endA (l.drop (q + v2)) = .next (l.drop (q + v2 + 2)) → Tells l (chunkA l) .size (q + v2 + 2) (body ++ P) (all + v2) 0 0 false) := fun he => by
            have h1 := chunk_next HT2.out (show endA ((l.drop q).drop v2) = .next (l.drop (q + v2 + 2)) by rw [hdd]; exact he)
            rw [HPP.out] at h1
            exact h1
          clear hdd
          by_cases hp : n ≤ q + v2
          · have d2 : decide ((q : Int) + (v2 : Int) < (n : Int)) = false := decide_eq_false (by omega)
            have d3 : decide ((q : Int) + (v2 : Int) + 1 < (n : Int)) = false := decide_eq_false (by omega)
            have d4 : decide ((n : Int) ≤ (q : Int) + (v2 : Int) + 1) = true := decide_eq_true (by omega)
            have HP := Lib.hid (HMORE.out (end_out (by rw [HLL.out]; exact hp)))
            clear HBAD HNEXT HMORE
            go_wp2_with (at_builtin; refine wpList_append_any _ rfl _ _ 23 rfl w.heap.size 5 i0 _ 1 1 Tryz.underlying23 hi hz0 hz1 hz2 rfl (by decide) u6 body.length (Lib.byteCells body) rfl O2.out w.heap.size _ _ _ (Lib.byteCells P) rfl HRD.out (rcells_one P) (by unfold maxLen; omega) (by omega) B2.out.size ?_; intro v5 w5 hown5 hg5 hor5; have B5 := Lib.hid (B2.out.grown hg5 B2.out.size (fun j hj => (O2.out.lt j hj).1)); have O5 := Lib.hid (own5 HPL.out hown5); clear hown5 hg5 hor5)
            all_goals
              refine bodyPost_ret (results_tmp4 rfl _ _ _) rfl ?_
              exact HP.out _ _ O5.out B5.out
          have d2 : decide ((q : Int) + (v2 : Int) < (n : Int)) = true := decide_eq_true (by omega)
          obtain ⟨b, off, rfl, hbb, hcc⟩ := HL.out.2 (by omega)
          have hq1 : (q + v2) < l.length := by rw [HLL.out]; omega
          obtain ⟨x0, hx0⟩ : ∃ x0, l[q + v2]? = some x0 := ⟨_, List.getElem?_eq_getElem hq1⟩
          have HCEL : Hid (∀ W, Below w.heap.size w W → W.cell? ⟨b, off + (q + v2), none⟩ = some (.int .u8 (x0.toNat : Int))) := fun W hW => by
            refine (hW.cell (p := ⟨b, off + (q + v2), none⟩) hbb).trans (hcc (q + v2) _ ?_)
            unfold Lib.byteCells
            rw [List.getElem?_map, hx0]
            rfl
          have hcq : c ≠ q := by omega
          rw [if_neg hcq, show Option.map (fun a : Addr => a.add q) (some ⟨b, off, none⟩) = some ⟨b, off + q, none⟩ by rw [Option.map_some, Addr.add_lit]] at HRD
          cases d5 : ((x0.toNat : Int) != 13) with
          | true =>
            have hne : x0 ≠ endB 0 := fun e => by rw [e] at d5; cases d5
            have HP := Lib.hid (HBAD.out (end_bad (i := 0) (by omega) hx0 hne (fun j hj => by omega)))
            clear HBAD HNEXT HMORE hx0 hne
            go_wp2_with (at_builtin; refine wpList_append_any _ rfl _ _ 23 rfl w.heap.size 5 i0 _ 1 1 Tryz.underlying23 hi hz0 hz1 hz2 rfl (by decide) u6 body.length (Lib.byteCells body) rfl O2.out w.heap.size _ _ _ (Lib.byteCells P) rfl HRD.out (rcells_one P) (by unfold maxLen; omega) (by omega) B2.out.size ?_; intro v5 w5 hown5 hg5 hor5; have B5 := Lib.hid (B2.out.grown hg5 B2.out.size (fun j hj => (O2.out.lt j hj).1)); have O5 := Lib.hid (own5 HPL.out hown5); clear hown5 hg5 hor5; have cp := HCEL.out w5 B5.out)
            refine bodyPost_ret (results_tmp4 rfl _ _ _) rfl ?_
            exact HP.out _ B5.out
          | false =>
            have h13 : x0 = endB 0 := by
              have h1 : (x0.toNat : Int) = 13 := by simpa using d5
              exact UInt8.toNat_inj.1 (by show x0.toNat = 13; omega)
            have hm1 : ∀ j, j < 1 → l[q + v2 + j]? = some (endB j) := fun j hj => by
              have : j = 0 := by omega
              subst this
              rw [← h13]
              exact hx0
            by_cases hp1 : n ≤ q + v2 + 1
            · have d3 : decide ((q : Int) + (v2 : Int) + 1 < (n : Int)) = false := decide_eq_false (by omega)
              have d4 : decide ((n : Int) ≤ (q : Int) + (v2 : Int) + 1) = true := decide_eq_true (by omega)
              have HP := Lib.hid (HMORE.out (end_more (i := 1) (by omega) (by rw [HLL.out]; omega) hm1))
              clear HBAD HNEXT HMORE hx0 hm1 h13
              go_wp2_with (at_builtin; refine wpList_append_any _ rfl _ _ 23 rfl w.heap.size 5 i0 _ 1 1 Tryz.underlying23 hi hz0 hz1 hz2 rfl (by decide) u6 body.length (Lib.byteCells body) rfl O2.out w.heap.size _ _ _ (Lib.byteCells P) rfl HRD.out (rcells_one P) (by unfold maxLen; omega) (by omega) B2.out.size ?_; intro v5 w5 hown5 hg5 hor5; have B5 := Lib.hid (B2.out.grown hg5 B2.out.size (fun j hj => (O2.out.lt j hj).1)); have O5 := Lib.hid (own5 HPL.out hown5); clear hown5 hg5 hor5; have cp := HCEL.out w5 B5.out)
              refine bodyPost_ret (results_tmp4 rfl _ _ _) rfl ?_
              exact HP.out _ _ O5.out B5.out
            · have d3 : decide ((q : Int) + (v2 : Int) + 1 < (n : Int)) = true := decide_eq_true (by omega)
              obtain ⟨x1, hx1⟩ : ∃ x1, l[q + v2 + 1]? = some x1 := ⟨_, List.getElem?_eq_getElem (by rw [HLL.out]; omega)⟩
              have HCEL2 : Hid (∀ W, Below w.heap.size w W → W.cell? ⟨b, off + (q + v2 + 1), none⟩ = some (.int .u8 (x1.toNat : Int))) := fun W hW => by
                refine (hW.cell (p := ⟨b, off + (q + v2 + 1), none⟩) hbb).trans (hcc (q + v2 + 1) _ ?_)
                unfold Lib.byteCells
                rw [List.getElem?_map, hx1]
                rfl
              cases d6 : ((x1.toNat : Int) != 10) with
              | true =>
                have hne : x1 ≠ endB 1 := fun e => by rw [e] at d6; cases d6
                have HP := Lib.hid (HBAD.out (end_bad (i := 1) (by omega) hx1 hne hm1))
                clear HBAD HNEXT HMORE hx0 hne hx1 hm1 h13
                go_wp2_with (at_builtin; refine wpList_append_any _ rfl _ _ 23 rfl w.heap.size 5 i0 _ 1 1 Tryz.underlying23 hi hz0 hz1 hz2 rfl (by decide) u6 body.length (Lib.byteCells body) rfl O2.out w.heap.size _ _ _ (Lib.byteCells P) rfl HRD.out (rcells_one P) (by unfold maxLen; omega) (by omega) B2.out.size ?_; intro v5 w5 hown5 hg5 hor5; have B5 := Lib.hid (B2.out.grown hg5 B2.out.size (fun j hj => (O2.out.lt j hj).1)); have O5 := Lib.hid (own5 HPL.out hown5); clear hown5 hg5 hor5; have cp := HCEL.out w5 B5.out; have cp1 := HCEL2.out w5 B5.out)
                refine bodyPost_ret (results_tmp4 rfl _ _ _) rfl ?_
                exact HP.out _ B5.out
              | false =>
                have h10 : x1 = endB 1 := by
                  have h1 : (x1.toNat : Int) = 10 := by simpa using d6
                  exact UInt8.toNat_inj.1 (by show x1.toNat = 10; omega)
                have d4 : decide ((n : Int) ≤ (q : Int) + (v2 : Int) + 1) = false := decide_eq_false (by omega)
                have HT3 := Lib.hid (HNEXT.out (end_next fun j hj => by
                  rcases (show j = 0 ∨ j = 1 by omega) with rfl | rfl
                  · rw [← h13]; exact hx0
                  · rw [← h10]; exact hx1))
                clear HBAD HNEXT HMORE hx0 hx1 hm1 h13 h10
                go_wp2_with (at_builtin; refine wpList_append_any _ rfl _ _ 23 rfl w.heap.size 5 i0 _ 1 1 Tryz.underlying23 hi hz0 hz1 hz2 rfl (by decide) u6 body.length (Lib.byteCells body) rfl O2.out w.heap.size _ _ _ (Lib.byteCells P) rfl HRD.out (rcells_one P) (by unfold maxLen; omega) (by omega) B2.out.size ?_; intro v5 w5 hown5 hg5 hor5; have B5 := Lib.hid (B2.out.grown hg5 B2.out.size (fun j hj => (O2.out.lt j hj).1)); have O5 := Lib.hid (own5 HPL.out hown5); clear hown5 hg5 hor5; have cp := HCEL.out w5 B5.out; have cp1 := HCEL2.out w5 B5.out)
                go_roundw
                case rel => exact ⟨q + v2 + 2, all + v2, body ++ P, by go_num, by go_num, by omega, by omega, by have := HPL.out; rw [List.length_append]; omega, HT3, O5, B5⟩
                case measure => simp [intOf]; omega
end Go.Proofs.YtonlfplloenfcaaGreatDoor
