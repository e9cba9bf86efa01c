/-
  Book: the marks.
-/
import Derived.Test.YtonlfplloenfcaaGreatDoorMem
import Derived.Test.YtonlfplloenfcaaGreatDoorShelf
import Derived.WalkLawsBesides
import Derived.WalkSpells
import Derived.IntWalk
import Derived.Lib.Hide
import Derived.Lib.AppendIntMem
import Derived.Lib.ItoaLen
import Derived.WalkSmall
import Derived.Deep.RegionWith
namespace Go.Proofs.YtonlfplloenfcaaGreatDoor
open Go.RowKit

def wordB (n : Nat) : ByteArray := ⟨(35 :: Lib.itoa (n : Int)).toArray⟩
/-- The library's table that strconv.Itoa reads. -/
def PowTab (w : World) : Prop := Lib.TabIs Tryz.prog w "internal/strconv.uint64pow10" .u64 Lib.pow10Tab
def powG : Nat := 2
theorem powG_is : Tryz.prog.globalNamed "internal/strconv.uint64pow10" = some powG := by kernel_rfl
theorem PowTab.below {B : Nat} {w w' : World} (h : PowTab w) (hb : Below B w w') (hB : powG < B) : PowTab w' := var?_below hb powG_is hB h
theorem word_any (n : Nat) (hn : n ≤ 1000000) (w : World) (ht : PowTab w) :
   Calls Tryz.prog 210 #[.int .i64 (n : Int)] w fun e w' => e = .returned (.string (wordB n)) ∧ Below w.heap.size w w' := by
  have hl := Lib.itoa_length_le (n : Int) (by omega) (by omega)
  have hadd := fun W => run_string_add_lists (P := Tryz.prog) W [35] (Lib.itoa (n : Int)) (by simp) (by omega)
  have HP := Lib.hid (Tryz.strconv_Itoa (n : Int) (by omega) (by omega) w ht)
  have hw : wordB n = ⟨(35 :: Lib.itoa (n : Int)).toArray⟩ := rfl
  have HW := Lib.hid hw
  clear hw
  generalize wordB n = wb at *
  generalize Lib.itoa (n : Int) = l at *
  simp only [List.cons_append, List.nil_append] at hadd
  clear hl
  go_enter Tryz.func210, Tryz.ntmps210
  go_wp2_with fail
  refine HP.out.mono ?_
  rintro e w' ⟨rfl, k, os, rfl⟩
  go_wp2_with fail
  go_ret
  exact ⟨by rw [HW.out]; rfl, Lib.below_grow _ _ (Nat.le_refl _) _ _⟩
theorem mark_text_any (n : Nat) (hn : n ≤ 1000000) (w : World) (ht : PowTab w) :
   Calls Tryz.prog 155 #[.int .i64 (n : Int)] w fun e w' => e = .returned (.string (wordB n)) ∧ Below w.heap.size w w' := by
  go_enter Tryz.func155, Tryz.ntmps155
  go_wp2_with fail
  refine (word_any n hn _ ht).mono ?_
  rintro e w' ⟨rfl, hb⟩
  go_wp2_with fail
  go_ret
  exact ⟨rfl, hb⟩
theorem is_text_any (n : Nat) (hn : n ≤ 1000000) (w : World) (ht : PowTab w) :
   Calls Tryz.prog 163 #[.string (wordB n), .int .i64 (n : Int)] w fun e w' => e = .returned (.bool true) ∧ Below w.heap.size w w' := by
  go_enter Tryz.func163, Tryz.ntmps163
  go_wp2_with fail
  refine (word_any n hn _ ht).mono ?_
  rintro e w' ⟨rfl, hb⟩
  go_wp2_with fail
  go_ret
  exact ⟨by simp, hb⟩
theorem mark_field_any (n : Nat) (hn : n ≤ 1000000) (w : World) (ht : PowTab w) :
   Calls Tryz.prog 156 #[.int .i64 (n : Int)] w fun e w' => e = .returned (.agg #[.string (wordB n), .string ⟨#[]⟩]) ∧ Below w.heap.size w w' := by
  go_enter Tryz.func156, Tryz.ntmps156
  go_wp2_with fail
  refine (word_any n hn _ (Lib.tabIs_alloc ht _)).mono ?_
  rintro e w' ⟨rfl, hb⟩
  have hk := (Blk.new w 63 #[.string ⟨#[]⟩, .string ⟨#[]⟩]).below hb (by simp)
  have c0 := hk.cell 0
  have c1 := hk.cell 1
  have f0 := hk.frozen 0
  have f1 := hk.frozen 1
  simp at c0 c1
  have hbw : Below w.heap.size w w' := ((Below.refl _ _).alloc (Nat.le_refl _) _).trans (hb.mono (by simp))
  clear hb
  have HK := Lib.hid hk
  clear hk
  have hres : ((w'.setCell ⟨w.heap.size, 0, none⟩ (.string (wordB n))).setCell ⟨w.heap.size, 1, none⟩ (.string ⟨#[]⟩)).cell? ⟨w.heap.size, 0, none⟩ = some (.string (wordB n)) ∧
      ((w'.setCell ⟨w.heap.size, 0, none⟩ (.string (wordB n))).setCell ⟨w.heap.size, 1, none⟩ (.string ⟨#[]⟩)).cell? ⟨w.heap.size, 1, none⟩ = some (.string ⟨#[]⟩) := by
    have h2 := (HK.out.set_ 0 (.string (wordB n))).set_ 1 (.string ⟨#[]⟩)
    exact ⟨by rw [h2.cell]; rfl, by rw [h2.cell]; rfl⟩
  have HR := Lib.hid hres
  clear hres
  go_wp2_with fail
  refine bodyPost_ret (v := .agg #[.string (wordB n), .string ⟨#[]⟩]) ?_ rfl ⟨rfl, (hbw.setCell (Nat.le_refl _) _).setCell (Nat.le_refl _) _⟩
  simp [results, Tryz.results156, go_sem, HR.out]
theorem is_field_any (n : Nat) (s : ByteArray) (hn : n ≤ 1000000) (w : World) (ht : PowTab w) :
   Calls Tryz.prog 164 #[.agg #[.string (wordB n), .string s], .int .i64 (n : Int)] w fun e w' => e = .returned (.bool true) ∧ Below w.heap.size w w' := by
  go_enter Tryz.func164, Tryz.ntmps164
  go_wp2_with fail
  have ht1 : PowTab (w.alloc (.cells #[.string (wordB n), .string s] 63)).drew := Lib.tabIs_alloc ht _
  have hk := Blk.new w 63 #[.string (wordB n), .string s]
  go_region_with ((go_at_call 210; refine (word_any n hn _ ht1).mono ?_; rintro e w' ⟨rfl, hb⟩; have c0 := ((hk.drew).below hb (by simp)).cell 0; simp at c0))
  all_goals
    go_wp2_with fail
    go_ret
    exact ⟨rfl, (((Below.refl _ _).alloc (Nat.le_refl _) _).drew).trans (hb.mono (by simp))⟩

def markB (m : Nat) : Int := 1 + (m : Int) % 250
theorem infoU : (Tryz.prog.info? 5).map (fun i => (i.zero, i.size, i.bytes)) = some (some (.int .u8 0), 1, 1) := by kernel_rfl
theorem mark_byte_any (n : Nat) (hn : n ≤ 1000000) (w : World) (_ht : PowTab w) :
   Calls Tryz.prog 153 #[.int .i64 (n : Int)] w fun e w' => e = .returned (.int .u8 (markB n)) ∧ Below w.heap.size w w' := by
  go_enter Tryz.func153, Tryz.ntmps153
  go_wp2_with fail
  go_ret
  exact ⟨rfl, Below.refl _ _⟩
theorem is_byte_any (n : Nat) (hn : n ≤ 1000000) (w : World) (_ht : PowTab w) :
   Calls Tryz.prog 161 #[.int .u8 (markB n), .int .i64 (n : Int)] w fun e w' => e = .returned (.bool true) ∧ Below w.heap.size w w' := by
  go_enter Tryz.func161, Tryz.ntmps161
  go_wp2_with fail
  go_ret
  exact ⟨ret_bool (by simp [markB]), Below.refl _ _⟩
end Go.Proofs.YtonlfplloenfcaaGreatDoor
