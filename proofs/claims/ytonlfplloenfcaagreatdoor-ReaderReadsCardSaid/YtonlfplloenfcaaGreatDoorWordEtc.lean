/-
  Book: the marks.
  heads.lines: what its iterator hands out, line by line.
-/
import Derived.Test.YtonlfplloenfcaaGreatDoorMem
import Derived.Test.YtonlfplloenfcaaGreatDoorShelf
import Derived.WalkLawsBesides
import Derived.WalkSpells
import Derived.IntWalk
import Derived.Lib.Hide
import Derived.Lib.AppendIntMem
import Derived.Lib.ItoaLen
import Derived.WalkSmall
import Derived.Deep.RegionWith
import Derived.Test.YtonlfplloenfcaaGreatDoorLinesEtc
import Derived.Test.YtonlfplloenfcaaGreatDoorRoundEtc
import Derived.RangeFuncBox
import Derived.Shelf.Abstract
import Derived.Shelf.RegionOpen
import Derived.WalkKit
import Derived.OwnWalkIn
import Derived.TacticsInMore
import Derived.LoopNIn
import Derived.LoopIn
namespace Go.Proofs.YtonlfplloenfcaaGreatDoor
open Go.RowKit

def wordB (n : Nat) : ByteArray := ⟨(35 :: Lib.itoa (n : Int)).toArray⟩
/-- The library's table that strconv.Itoa reads. -/
def PowTab (w : World) : Prop := Lib.TabIs Tryz.prog w "internal/strconv.uint64pow10" .u64 Lib.pow10Tab
def powG : Nat := 2
theorem powG_is : Tryz.prog.globalNamed "internal/strconv.uint64pow10" = some powG := by kernel_rfl
theorem PowTab.below {B : Nat} {w w' : World} (h : PowTab w) (hb : Below B w w') (hB : powG < B) : PowTab w' := var?_below hb powG_is hB h
theorem word_any (n : Nat) (hn : n ≤ 1000000) (w : World) (ht : PowTab w) :
   Calls Tryz.prog 210 #[.int .i64 (n : Int)] w fun e w' => e = .returned (.string (wordB n)) ∧ Below w.heap.size w w' := by
  have hl := Lib.itoa_length_le (n : Int) (by omega) (by omega)
  have hadd := fun W => run_string_add_lists (P := Tryz.prog) W [35] (Lib.itoa (n : Int)) (by simp) (by omega)
  have HP := Lib.hid (Tryz.strconv_Itoa (n : Int) (by omega) (by omega) w ht)
  have hw : wordB n = ⟨(35 :: Lib.itoa (n : Int)).toArray⟩ := rfl
  have HW := Lib.hid hw
  clear hw
  generalize wordB n = wb at *
  generalize Lib.itoa (n : Int) = l at *
  simp only [List.cons_append, List.nil_append] at hadd
  clear hl
  go_enter Tryz.func210, Tryz.ntmps210
  go_wp2_with fail
  refine HP.out.mono ?_
  rintro e w' ⟨rfl, k, os, rfl⟩
  go_wp2_with fail
  go_ret
  exact ⟨by rw [HW.out]; rfl, Lib.below_grow _ _ (Nat.le_refl _) _ _⟩
theorem mark_text_any (n : Nat) (hn : n ≤ 1000000) (w : World) (ht : PowTab w) :
   Calls Tryz.prog 155 #[.int .i64 (n : Int)] w fun e w' => e = .returned (.string (wordB n)) ∧ Below w.heap.size w w' := by
  go_enter Tryz.func155, Tryz.ntmps155
  go_wp2_with fail
  refine (word_any n hn _ ht).mono ?_
  rintro e w' ⟨rfl, hb⟩
  go_wp2_with fail
  go_ret
  exact ⟨rfl, hb⟩
theorem is_text_any (n : Nat) (hn : n ≤ 1000000) (w : World) (ht : PowTab w) :
   Calls Tryz.prog 163 #[.string (wordB n), .int .i64 (n : Int)] w fun e w' => e = .returned (.bool true) ∧ Below w.heap.size w w' := by
  go_enter Tryz.func163, Tryz.ntmps163
  go_wp2_with fail
  refine (word_any n hn _ ht).mono ?_
  rintro e w' ⟨rfl, hb⟩
  go_wp2_with fail
  go_ret
  exact ⟨by simp, hb⟩
theorem mark_field_any (n : Nat) (hn : n ≤ 1000000) (w : World) (ht : PowTab w) :
   Calls Tryz.prog 156 #[.int .i64 (n : Int)] w fun e w' => e = .returned (.agg #[.string (wordB n), .string ⟨#[]⟩]) ∧ Below w.heap.size w w' := by
  go_enter Tryz.func156, Tryz.ntmps156
  go_wp2_with fail
  refine (word_any n hn _ (Lib.tabIs_alloc ht _)).mono ?_
  rintro e w' ⟨rfl, hb⟩
  have hk := (Blk.new w 63 #[.string ⟨#[]⟩, .string ⟨#[]⟩]).below hb (by simp)
  have c0 := hk.cell 0
  have c1 := hk.cell 1
  have f0 := hk.frozen 0
  have f1 := hk.frozen 1
  simp at c0 c1
  have hbw : Below w.heap.size w w' := ((Below.refl _ _).alloc (Nat.le_refl _) _).trans (hb.mono (by simp))
  clear hb
  have HK := Lib.hid hk
  clear hk
  have hres : ((w'.setCell ⟨w.heap.size, 0, none⟩ (.string (wordB n))).setCell ⟨w.heap.size, 1, none⟩ (.string ⟨#[]⟩)).cell? ⟨w.heap.size, 0, none⟩ = some (.string (wordB n)) ∧
      ((w'.setCell ⟨w.heap.size, 0, none⟩ (.string (wordB n))).setCell ⟨w.heap.size, 1, none⟩ (.string ⟨#[]⟩)).cell? ⟨w.heap.size, 1, none⟩ = some (.string ⟨#[]⟩) := by
    have h2 := (HK.out.set_ 0 (.string (wordB n))).set_ 1 (.string ⟨#[]⟩)
    exact ⟨by rw [h2.cell]; rfl, by rw [h2.cell]; rfl⟩
  have HR := Lib.hid hres
  clear hres
  go_wp2_with fail
  refine bodyPost_ret (v := .agg #[.string (wordB n), .string ⟨#[]⟩]) ?_ rfl ⟨rfl, (hbw.setCell (Nat.le_refl _) _).setCell (Nat.le_refl _) _⟩
  simp [results, Tryz.results156, go_sem, HR.out]
theorem is_field_any (n : Nat) (s : ByteArray) (hn : n ≤ 1000000) (w : World) (ht : PowTab w) :
   Calls Tryz.prog 164 #[.agg #[.string (wordB n), .string s], .int .i64 (n : Int)] w fun e w' => e = .returned (.bool true) ∧ Below w.heap.size w w' := by
  go_enter Tryz.func164, Tryz.ntmps164
  go_wp2_with fail
  have ht1 : PowTab (w.alloc (.cells #[.string (wordB n), .string s] 63)).drew := Lib.tabIs_alloc ht _
  have hk := Blk.new w 63 #[.string (wordB n), .string s]
  go_region_with ((go_at_call 210; refine (word_any n hn _ ht1).mono ?_; rintro e w' ⟨rfl, hb⟩; have c0 := ((hk.drew).below hb (by simp)).cell 0; simp at c0))
  all_goals
    go_wp2_with fail
    go_ret
    exact ⟨rfl, (((Below.refl _ _).alloc (Nat.le_refl _) _).drew).trans (hb.mono (by simp))⟩

def markB (m : Nat) : Int := 1 + (m : Int) % 250
theorem infoU : (Tryz.prog.info? 5).map (fun i => (i.zero, i.size, i.bytes)) = some (some (.int .u8 0), 1, 1) := by kernel_rfl
theorem mark_byte_any (n : Nat) (hn : n ≤ 1000000) (w : World) (_ht : PowTab w) :
   Calls Tryz.prog 153 #[.int .i64 (n : Int)] w fun e w' => e = .returned (.int .u8 (markB n)) ∧ Below w.heap.size w w' := by
  go_enter Tryz.func153, Tryz.ntmps153
  go_wp2_with fail
  go_ret
  exact ⟨rfl, Below.refl _ _⟩
theorem is_byte_any (n : Nat) (hn : n ≤ 1000000) (w : World) (_ht : PowTab w) :
   Calls Tryz.prog 161 #[.int .u8 (markB n), .int .i64 (n : Int)] w fun e w' => e = .returned (.bool true) ∧ Below w.heap.size w w' := by
  go_enter Tryz.func161, Tryz.ntmps161
  go_wp2_with fail
  go_ret
  exact ⟨ret_bool (by simp [markB]), Below.refl _ _⟩
end Go.Proofs.YtonlfplloenfcaaGreatDoor
namespace Go.Proofs.YtonlfplloenfcaaGreatDoor
open Go.RowKit Go.Shelf
attribute [local go_sem] Oper.semAt_some

/-- The library's variable that strings.Cut and bytes.Index read. -/
def maxG : Nat := 1
def MaxOk (w : World) : Prop := ∃ m : Int, w.cell? ⟨maxG, 0, none⟩ = some (.int .i64 m)
theorem MaxOk.below {B : Nat} {w w' : World} (h : MaxOk w) (hb : Below B w w') (hB : maxG < B) : MaxOk w' := by
  obtain ⟨m, hm⟩ := h
  exact ⟨m, (hb.cell (p := ⟨maxG, 0, none⟩) hB).trans hm⟩
/-- What a round leaves of the iterator's own. -/
def KpB (B : Nat) (W W' : World) : Prop := W'.heap[B]? = W.heap[B]? ∧ W'.heap[maxG]? = W.heap[maxG]?

set_option maxRecDepth 100000 in
theorem lines1_in (N : Nat) (hN : 1 ≤ N) (l B : Nat) (s : ByteArray) (J Jx : List (List UInt8) → World → Prop) (hs : s.size ≤ 1000000) (hBm : B ≠ maxG)
    (hJs : ∀ t X Y, J t X → X.grownBy Y (some B) → J t Y)
    (hY : ∀ pre x W, J pre W → (splitB s.data.toList)[pre.length]? = some x → YieldAt Fence.wide (N - 1) Tryz.prog l #[.int .i64 pre.length, .string ⟨x.toArray⟩] W fun e W' =>
      (e = .returned (.bool true) ∧ J (pre ++ [x]) W' ∧ KpB B W W') ∨ (e = .returned (.bool false) ∧ Jx (pre ++ [x]) W'))
    (W : World) (hB : Blk W B 9 #[.string s]) (hm : MaxOk W) (h0 : J [] W) :
    CallsIn Fence.wide N Tryz.prog 218 #[.func (.yield l) #[] #[], .pointer (some ⟨B, 0, none⟩)] W fun e W' => (∃ v, e = .returned v) ∧
      ((∃ xs, xs = splitB s.data.toList ∧ J xs W') ∨ (∃ pre, Jx pre W')) := by
  have hlen : (splitB s.data.toList).length ≤ s.size + 1 := splitB_len s.data.toList
  refine callsIn_of_wp Tryz.func218 rfl trivial ?_ rfl
  simp only [Tryz.ntmps218, List.size_toArray, List.length_cons, List.length_nil, Nat.reduceAdd, Nat.reduceSub, Array.replicate_succ, Array.replicate_zero, List.push_toArray, List.append_toArray, List.nil_append, List.cons_append]
  gi_wp2
  gi_loopw [3, 4, 5] (fun i mo _ wr => ∃ (pre : List (List UInt8)), i = .int .i64 (pre.length : Int) ∧ Hid (pre.length ≤ (splitB s.data.toList).length) ∧ J pre wr ∧ Hid (MaxOk wr) ∧
      ((mo = .bool true ∧ ∃ t : ByteArray, Hid (pre ++ splitB t.data.toList = splitB s.data.toList) ∧ t.size ≤ s.size ∧ Blk wr B 9 #[.string t]) ∨ (mo = .bool false ∧ Hid (pre = splitB s.data.toList))))
    (fun i _ _ _ => (splitB s.data.toList).length + 1 - (intOf i).toNat)
  case atStart => exact ⟨[], rfl, Nat.zero_le _, h0, hm, .inl ⟨rfl, s, rfl, Nat.le_refl _, hB⟩⟩
  case round =>
    obtain ⟨pre, rfl, hple, hJ, hmo, hcase⟩ := hrel
    clear hB hm h0
    rcases hcase with ⟨rfl, t, ht, htz, hbk⟩ | ⟨rfl, hfin⟩
    · have c0 := hbk.cell 0
      simp at c0
      obtain ⟨m, hm⟩ := hmo.out
      have hcl := cut_le1 t.data.toList [13, 10]
      have hsc := split_cut t.data.toList
      have htl : t.data.toList.length = t.size := rfl
      obtain ⟨⟨a, b, f⟩, hcf⟩ : ∃ x, Lib.cut t.data.toList (⟨#[13, 10]⟩ : ByteArray).data.toList = x := ⟨_, rfl⟩
      have HC := Lib.hid (Tryz.strings_Cut t ⟨#[13, 10]⟩ m wr (by omega) hm)
      rw [hcf] at HC
      replace hcf : Lib.cut t.data.toList [13, 10] = (a, b, f) := hcf
      rw [hcf] at hsc hcl
      simp only at hsc hcl
      have hidx : (splitB s.data.toList)[pre.length]? = some a := by
        rw [← ht.out, hsc, List.getElem?_append_right (Nat.le_refl _), Nat.sub_self]
        rfl
      have hlen2 : pre.length + 1 ≤ (splitB s.data.toList).length := by
        have := (List.getElem?_eq_some_iff.1 hidx).1
        omega
      have hpl : pre.length ≤ 1000001 := by omega
      obtain ⟨bb, hbb⟩ : ∃ bb : ByteArray, bb = ⟨b.toArray⟩ := ⟨_, rfl⟩
      have hbbl : bb.data.toList = b := by rw [hbb]
      have hbbz : bb.size ≤ s.size := by
        have : bb.size = b.length := by rw [← hbbl]; rfl
        omega
      have key : ∀ q, J pre ((wr.drewN q).setCell ⟨B, 0, none⟩ (.string bb)) ∧ Blk ((wr.drewN q).setCell ⟨B, 0, none⟩ (.string bb)) B 9 #[.string bb] ∧ MaxOk ((wr.drewN q).setCell ⟨B, 0, none⟩ (.string bb)) := fun q => by
        refine ⟨hJs _ _ _ hJ ?_, by simpa using (hbk.drewN q).set_ 0 (.string bb), ⟨m, ?_⟩⟩
        · exact ⟨rfl, rfl, rfl, by simp [World.setCell, World.drewN], fun k _ hk => Below.heap_setCell (wr.drewN q) _ _ _ (fun e => hk (by rw [e]))⟩
        · rw [World.cell?_setCell_other _ _ _ _ (fun e => by injection e with e _; exact hBm e)]
          exact hm
      have hfr := hbk.frozen 0
      have KEY := Lib.hid key
      have HI := Lib.hid hidx
      have HSC := Lib.hid hsc
      have HBL := Lib.hid hbbl
      rw [← hbb] at HC
      have HY := Lib.hid hY
      clear key hidx hsc hbbl hbb hcf hcl hJ hbk hm hY htl
      gi_wp2_with fail
      refine ⟨trivial, (callsIn_wide.2 HC.out).mono ?_⟩
      rintro e w1 ⟨rfl, q, rfl⟩
      clear HC
      obtain ⟨hJ1, hbk1, hmo1⟩ := KEY.out q
      obtain ⟨fn, tmps, assign, body, hy, hR⟩ := HY.out pre a _ hJ1 HI.out
      have HB1 := Lib.hid hbk1
      have HM1 := Lib.hid hmo1
      clear hbk1 hmo1 hJ1
      gi_wp2
      refine hR.mono ?_
      rintro e W3 (⟨rfl, hJ3, hk3⟩ | ⟨rfl, hJx3⟩)
      · have hm3 : MaxOk W3 := by
          obtain ⟨m', hm'⟩ := HM1.out
          exact ⟨m', (World.cell?_of_block (a := ⟨maxG, 0, none⟩) hk3.2).trans hm'⟩
        have hb3 : Blk W3 B 9 #[.string bb] := hk3.1.trans HB1.out
        have hle : (pre ++ [a]).length = pre.length + 1 := by simp
        have HM3 := Lib.hid hm3
        have HB3 := Lib.hid hb3
        have HLE := Lib.hid hle
        have HJ3 := Lib.hid hJ3
        clear hm3 hb3 hle hk3 hR hy hJ3
        gi_wp2
        go_roundw
        case rel =>
          refine ⟨pre ++ [a], by rw [HLE.out]; go_num, by show _ ≤ _; rw [HLE.out]; exact hlen2, HJ3.out, HM3.out, ?_⟩
          have hsc := HSC.out
          cases f
          · refine .inr ⟨rfl, ?_⟩
            have h1 := ht.out
            rw [hsc] at h1
            exact h1
          · refine .inl ⟨rfl, bb, ?_, hbbz, HB3.out⟩
            have h1 := ht.out
            rw [hsc] at h1
            show (pre ++ [a]) ++ splitB bb.data.toList = _
            rw [HBL.out, ← h1]
            simp
        case measure => simp [intOf]; omega
      · gi_wp2
        refine bodyPost_ret (results_none rfl _ _ _) rfl ?_
        exact ⟨⟨_, rfl⟩, .inr ⟨_, hJx3⟩⟩
    · gi_wp2
      go_end0
      exact ⟨⟨_, rfl⟩, .inl ⟨pre, hfin.out, hJ⟩⟩
theorem lines_in (N : Nat) (s : ByteArray) (w : World) :
    CallsIn Fence.wide N Tryz.prog 172 #[.string s] w fun e w' =>
      e = .returned (.func (.func 218) #[] #[.pointer (some ⟨w.heap.size, 0, none⟩)]) ∧ w' = w.alloc (.cells #[.string s] 9) := by
  refine callsIn_of_wp Tryz.func172 rfl trivial ?_ rfl
  simp only [Tryz.ntmps172, List.size_toArray, List.length_cons, List.length_nil, Nat.reduceAdd, Nat.reduceSub, Array.replicate_succ, Array.replicate_zero, List.push_toArray, List.append_toArray, List.nil_append, List.cons_append]
  gi_wp2
  go_ret
  exact ⟨rfl, rfl⟩
theorem lines_steps (N : Nat) (hN : 1 ≤ N) (B : Nat) (s : ByteArray) (hs : s.size ≤ 1000000) (hBm : B ≠ maxG) (w : World) (hlt : B < w.heap.size) (hml : maxG < w.heap.size) (hB : Blk w B 9 #[.string s]) (hm : MaxOk w) :
    SeqSteps Fence.wide N Tryz.prog 218 #[.pointer (some ⟨B, 0, none⟩)] (fun (pre : List (List UInt8)) (x : List UInt8) => #[.int .i64 (pre.length : Int), .string ⟨x.toArray⟩]) (fun pre x => (splitB s.data.toList)[pre.length]? = some x)
      (KpB B) (fun X Y => X.grownBy Y (some B)) (fun xs => xs = splitB s.data.toList) w := fun l J Jx W hW hJ hY h0 =>
  lines1_in N hN l B s J Jx hs hBm hJ hY W ((hW.block B hlt).trans hB) (hm.below hW hml) h0
end Go.Proofs.YtonlfplloenfcaaGreatDoor
