/-
  Book: fill, grow, look where no list of a kind is held. (Written by none.py.)
  Slices of fields: their cells; TwinFields, LeftFields, great.
-/
import Derived.Test.YtonlfplloenfcaaGreatDoorAscii
import Derived.WalkSmall
namespace Go.Proofs.YtonlfplloenfcaaGreatDoor
open Go.RowKit

theorem fillbyte_none (g c : Nat) (A : Option Addr) (cs : Array Value) (w : World) (hB : Blk w g 42 cs) (hv : cs[1]? = some (.slice A 0 c)) :
    Calls Tryz.prog 82 #[.pointer (some ⟨g, 0, none⟩)] w fun e w' => e = .returned (.tuple #[]) ∧ w = w' := by
  have c0 := (hB.cell 1).trans hv
  go_enter Tryz.func82, Tryz.ntmps82
  go_wp2_with fail
  refine wp_loop_rounds 1 ?_
  rw [rounds_succ]
  go_wp2_with fail
  go_end0
  exact ⟨rfl, rfl⟩

theorem growbyte_none (g c : Nat) (A : Option Addr) (cs : Array Value) (w : World) (hB : Blk w g 42 cs) (hv : cs[1]? = some (.slice A 0 c)) :
    Calls Tryz.prog 90 #[.pointer (some ⟨g, 0, none⟩)] w fun e w' => e = .returned (.tuple #[]) ∧ w = w' := by
  have c0 := (hB.cell 1).trans hv
  go_enter Tryz.func90, Tryz.ntmps90
  go_wp2_with fail
  refine wp_loop_rounds 1 ?_
  rw [rounds_succ]
  go_wp2_with fail
  go_end0
  exact ⟨rfl, rfl⟩

theorem lookbyte_none (g c : Nat) (A : Option Addr) (cs : Array Value) (w : World) (hB : Blk w g 42 cs) (hv : cs[1]? = some (.slice A 0 c)) :
    Calls Tryz.prog 98 #[.pointer (some ⟨g, 0, none⟩)] w fun e w' => e = .returned (.bool true) ∧ w = w' := by
  have c0 := (hB.cell 1).trans hv
  go_enter Tryz.func98, Tryz.ntmps98
  go_wp2_with fail
  refine wp_loop_rounds 1 ?_
  rw [rounds_succ]
  go_wp2_with fail
  go_ret
  exact ⟨rfl, rfl⟩

theorem fillint_none (g c : Nat) (A : Option Addr) (cs : Array Value) (w : World) (hB : Blk w g 42 cs) (hv : cs[2]? = some (.slice A 0 c)) :
    Calls Tryz.prog 83 #[.pointer (some ⟨g, 0, none⟩)] w fun e w' => e = .returned (.tuple #[]) ∧ w = w' := by
  have c0 := (hB.cell 2).trans hv
  go_enter Tryz.func83, Tryz.ntmps83
  go_wp2_with fail
  refine wp_loop_rounds 1 ?_
  rw [rounds_succ]
  go_wp2_with fail
  go_end0
  exact ⟨rfl, rfl⟩

theorem growint_none (g c : Nat) (A : Option Addr) (cs : Array Value) (w : World) (hB : Blk w g 42 cs) (hv : cs[2]? = some (.slice A 0 c)) :
    Calls Tryz.prog 91 #[.pointer (some ⟨g, 0, none⟩)] w fun e w' => e = .returned (.tuple #[]) ∧ w = w' := by
  have c0 := (hB.cell 2).trans hv
  go_enter Tryz.func91, Tryz.ntmps91
  go_wp2_with fail
  refine wp_loop_rounds 1 ?_
  rw [rounds_succ]
  go_wp2_with fail
  go_end0
  exact ⟨rfl, rfl⟩

theorem lookint_none (g c : Nat) (A : Option Addr) (cs : Array Value) (w : World) (hB : Blk w g 42 cs) (hv : cs[2]? = some (.slice A 0 c)) :
    Calls Tryz.prog 99 #[.pointer (some ⟨g, 0, none⟩)] w fun e w' => e = .returned (.bool true) ∧ w = w' := by
  have c0 := (hB.cell 2).trans hv
  go_enter Tryz.func99, Tryz.ntmps99
  go_wp2_with fail
  refine wp_loop_rounds 1 ?_
  rw [rounds_succ]
  go_wp2_with fail
  go_ret
  exact ⟨rfl, rfl⟩

theorem filltext_none (g c : Nat) (A : Option Addr) (cs : Array Value) (w : World) (hB : Blk w g 42 cs) (hv : cs[3]? = some (.slice A 0 c)) :
    Calls Tryz.prog 84 #[.pointer (some ⟨g, 0, none⟩)] w fun e w' => e = .returned (.tuple #[]) ∧ w = w' := by
  have c0 := (hB.cell 3).trans hv
  go_enter Tryz.func84, Tryz.ntmps84
  go_wp2_with fail
  refine wp_loop_rounds 1 ?_
  rw [rounds_succ]
  go_wp2_with fail
  go_end0
  exact ⟨rfl, rfl⟩

theorem growtext_none (g c : Nat) (A : Option Addr) (cs : Array Value) (w : World) (hB : Blk w g 42 cs) (hv : cs[3]? = some (.slice A 0 c)) :
    Calls Tryz.prog 92 #[.pointer (some ⟨g, 0, none⟩)] w fun e w' => e = .returned (.tuple #[]) ∧ w = w' := by
  have c0 := (hB.cell 3).trans hv
  go_enter Tryz.func92, Tryz.ntmps92
  go_wp2_with fail
  refine wp_loop_rounds 1 ?_
  rw [rounds_succ]
  go_wp2_with fail
  go_end0
  exact ⟨rfl, rfl⟩

theorem looktext_none (g c : Nat) (A : Option Addr) (cs : Array Value) (w : World) (hB : Blk w g 42 cs) (hv : cs[3]? = some (.slice A 0 c)) :
    Calls Tryz.prog 100 #[.pointer (some ⟨g, 0, none⟩)] w fun e w' => e = .returned (.bool true) ∧ w = w' := by
  have c0 := (hB.cell 3).trans hv
  go_enter Tryz.func100, Tryz.ntmps100
  go_wp2_with fail
  refine wp_loop_rounds 1 ?_
  rw [rounds_succ]
  go_wp2_with fail
  go_ret
  exact ⟨rfl, rfl⟩

theorem fillfield_none (g c : Nat) (A : Option Addr) (cs : Array Value) (w : World) (hB : Blk w g 42 cs) (hv : cs[4]? = some (.slice A 0 c)) :
    Calls Tryz.prog 85 #[.pointer (some ⟨g, 0, none⟩)] w fun e w' => e = .returned (.tuple #[]) ∧ w = w' := by
  have c0 := (hB.cell 4).trans hv
  go_enter Tryz.func85, Tryz.ntmps85
  go_wp2_with fail
  refine wp_loop_rounds 1 ?_
  rw [rounds_succ]
  go_wp2_with fail
  go_end0
  exact ⟨rfl, rfl⟩

theorem growfield_none (g c : Nat) (A : Option Addr) (cs : Array Value) (w : World) (hB : Blk w g 42 cs) (hv : cs[4]? = some (.slice A 0 c)) :
    Calls Tryz.prog 93 #[.pointer (some ⟨g, 0, none⟩)] w fun e w' => e = .returned (.tuple #[]) ∧ w = w' := by
  have c0 := (hB.cell 4).trans hv
  go_enter Tryz.func93, Tryz.ntmps93
  go_wp2_with fail
  refine wp_loop_rounds 1 ?_
  rw [rounds_succ]
  go_wp2_with fail
  go_end0
  exact ⟨rfl, rfl⟩

theorem lookfield_none (g c : Nat) (A : Option Addr) (cs : Array Value) (w : World) (hB : Blk w g 42 cs) (hv : cs[4]? = some (.slice A 0 c)) :
    Calls Tryz.prog 101 #[.pointer (some ⟨g, 0, none⟩)] w fun e w' => e = .returned (.bool true) ∧ w = w' := by
  have c0 := (hB.cell 4).trans hv
  go_enter Tryz.func101, Tryz.ntmps101
  go_wp2_with fail
  refine wp_loop_rounds 1 ?_
  rw [rounds_succ]
  go_wp2_with fail
  go_ret
  exact ⟨rfl, rfl⟩

theorem fillcookie_none (g c : Nat) (A : Option Addr) (cs : Array Value) (w : World) (hB : Blk w g 42 cs) (hv : cs[5]? = some (.slice A 0 c)) :
    Calls Tryz.prog 86 #[.pointer (some ⟨g, 0, none⟩)] w fun e w' => e = .returned (.tuple #[]) ∧ w = w' := by
  have c0 := (hB.cell 5).trans hv
  go_enter Tryz.func86, Tryz.ntmps86
  go_wp2_with fail
  refine wp_loop_rounds 1 ?_
  rw [rounds_succ]
  go_wp2_with fail
  go_end0
  exact ⟨rfl, rfl⟩

theorem growcookie_none (g c : Nat) (A : Option Addr) (cs : Array Value) (w : World) (hB : Blk w g 42 cs) (hv : cs[5]? = some (.slice A 0 c)) :
    Calls Tryz.prog 94 #[.pointer (some ⟨g, 0, none⟩)] w fun e w' => e = .returned (.tuple #[]) ∧ w = w' := by
  have c0 := (hB.cell 5).trans hv
  go_enter Tryz.func94, Tryz.ntmps94
  go_wp2_with fail
  refine wp_loop_rounds 1 ?_
  rw [rounds_succ]
  go_wp2_with fail
  go_end0
  exact ⟨rfl, rfl⟩

theorem lookcookie_none (g c : Nat) (A : Option Addr) (cs : Array Value) (w : World) (hB : Blk w g 42 cs) (hv : cs[5]? = some (.slice A 0 c)) :
    Calls Tryz.prog 102 #[.pointer (some ⟨g, 0, none⟩)] w fun e w' => e = .returned (.bool true) ∧ w = w' := by
  have c0 := (hB.cell 5).trans hv
  go_enter Tryz.func102, Tryz.ntmps102
  go_wp2_with fail
  refine wp_loop_rounds 1 ?_
  rw [rounds_succ]
  go_wp2_with fail
  go_ret
  exact ⟨rfl, rfl⟩

theorem fillsealed_none (g c : Nat) (A : Option Addr) (cs : Array Value) (w : World) (hB : Blk w g 42 cs) (hv : cs[6]? = some (.slice A 0 c)) :
    Calls Tryz.prog 87 #[.pointer (some ⟨g, 0, none⟩)] w fun e w' => e = .returned (.tuple #[]) ∧ w = w' := by
  have c0 := (hB.cell 6).trans hv
  go_enter Tryz.func87, Tryz.ntmps87
  go_wp2_with fail
  refine wp_loop_rounds 1 ?_
  rw [rounds_succ]
  go_wp2_with fail
  go_end0
  exact ⟨rfl, rfl⟩

theorem growsealed_none (g c : Nat) (A : Option Addr) (cs : Array Value) (w : World) (hB : Blk w g 42 cs) (hv : cs[6]? = some (.slice A 0 c)) :
    Calls Tryz.prog 95 #[.pointer (some ⟨g, 0, none⟩)] w fun e w' => e = .returned (.tuple #[]) ∧ w = w' := by
  have c0 := (hB.cell 6).trans hv
  go_enter Tryz.func95, Tryz.ntmps95
  go_wp2_with fail
  refine wp_loop_rounds 1 ?_
  rw [rounds_succ]
  go_wp2_with fail
  go_end0
  exact ⟨rfl, rfl⟩

theorem looksealed_none (g c : Nat) (A : Option Addr) (cs : Array Value) (w : World) (hB : Blk w g 42 cs) (hv : cs[6]? = some (.slice A 0 c)) :
    Calls Tryz.prog 103 #[.pointer (some ⟨g, 0, none⟩)] w fun e w' => e = .returned (.bool true) ∧ w = w' := by
  have c0 := (hB.cell 6).trans hv
  go_enter Tryz.func103, Tryz.ntmps103
  go_wp2_with fail
  refine wp_loop_rounds 1 ?_
  rw [rounds_succ]
  go_wp2_with fail
  go_ret
  exact ⟨rfl, rfl⟩

theorem fillchange_none (g c : Nat) (A : Option Addr) (cs : Array Value) (w : World) (hB : Blk w g 42 cs) (hv : cs[7]? = some (.slice A 0 c)) :
    Calls Tryz.prog 88 #[.pointer (some ⟨g, 0, none⟩)] w fun e w' => e = .returned (.tuple #[]) ∧ w = w' := by
  have c0 := (hB.cell 7).trans hv
  go_enter Tryz.func88, Tryz.ntmps88
  go_wp2_with fail
  refine wp_loop_rounds 1 ?_
  rw [rounds_succ]
  go_wp2_with fail
  go_end0
  exact ⟨rfl, rfl⟩

theorem growchange_none (g c : Nat) (A : Option Addr) (cs : Array Value) (w : World) (hB : Blk w g 42 cs) (hv : cs[7]? = some (.slice A 0 c)) :
    Calls Tryz.prog 96 #[.pointer (some ⟨g, 0, none⟩)] w fun e w' => e = .returned (.tuple #[]) ∧ w = w' := by
  have c0 := (hB.cell 7).trans hv
  go_enter Tryz.func96, Tryz.ntmps96
  go_wp2_with fail
  refine wp_loop_rounds 1 ?_
  rw [rounds_succ]
  go_wp2_with fail
  go_end0
  exact ⟨rfl, rfl⟩

theorem lookchange_none (g c : Nat) (A : Option Addr) (cs : Array Value) (w : World) (hB : Blk w g 42 cs) (hv : cs[7]? = some (.slice A 0 c)) :
    Calls Tryz.prog 104 #[.pointer (some ⟨g, 0, none⟩)] w fun e w' => e = .returned (.bool true) ∧ w = w' := by
  have c0 := (hB.cell 7).trans hv
  go_enter Tryz.func104, Tryz.ntmps104
  go_wp2_with fail
  refine wp_loop_rounds 1 ?_
  rw [rounds_succ]
  go_wp2_with fail
  go_ret
  exact ⟨rfl, rfl⟩

theorem fillmessage_none (g c : Nat) (A : Option Addr) (cs : Array Value) (w : World) (hB : Blk w g 42 cs) (hv : cs[8]? = some (.slice A 0 c)) :
    Calls Tryz.prog 89 #[.pointer (some ⟨g, 0, none⟩)] w fun e w' => e = .returned (.tuple #[]) ∧ w = w' := by
  have c0 := (hB.cell 8).trans hv
  go_enter Tryz.func89, Tryz.ntmps89
  go_wp2_with fail
  refine wp_loop_rounds 1 ?_
  rw [rounds_succ]
  go_wp2_with fail
  go_end0
  exact ⟨rfl, rfl⟩

theorem growmessage_none (g c : Nat) (A : Option Addr) (cs : Array Value) (w : World) (hB : Blk w g 42 cs) (hv : cs[8]? = some (.slice A 0 c)) :
    Calls Tryz.prog 97 #[.pointer (some ⟨g, 0, none⟩)] w fun e w' => e = .returned (.tuple #[]) ∧ w = w' := by
  have c0 := (hB.cell 8).trans hv
  go_enter Tryz.func97, Tryz.ntmps97
  go_wp2_with fail
  refine wp_loop_rounds 1 ?_
  rw [rounds_succ]
  go_wp2_with fail
  go_end0
  exact ⟨rfl, rfl⟩

theorem lookmessage_none (g c : Nat) (A : Option Addr) (cs : Array Value) (w : World) (hB : Blk w g 42 cs) (hv : cs[8]? = some (.slice A 0 c)) :
    Calls Tryz.prog 105 #[.pointer (some ⟨g, 0, none⟩)] w fun e w' => e = .returned (.bool true) ∧ w = w' := by
  have c0 := (hB.cell 8).trans hv
  go_enter Tryz.func105, Tryz.ntmps105
  go_wp2_with fail
  refine wp_loop_rounds 1 ?_
  rw [rounds_succ]
  go_wp2_with fail
  go_ret
  exact ⟨rfl, rfl⟩
end Go.Proofs.YtonlfplloenfcaaGreatDoor
namespace Go.Proofs.YtonlfplloenfcaaGreatDoor
open Go.RowKit

abbrev Fd := ByteArray × ByteArray
/-- A slice of fields that reads as a list, nil let in. -/
def FRead (w : World) (B : Nat) (A : Option Addr) (n : Nat) (fs : List Fd) : Prop :=
  fs.length = n ∧ (0 < n → ∃ b off, A = some ⟨b, off, none⟩ ∧ b < B ∧ ∀ i f, fs[i]? = some f → w.cell? ⟨b, off + i * 2, none⟩ = some (.string f.1) ∧ w.cell? ⟨b, off + i * 2 + 1, none⟩ = some (.string f.2))
def fsum (fs : List Fd) : Nat := (fs.map fun f => 2 + f.1.size + f.2.size).sum
theorem fsum_succ (fs : List Fd) (k : Nat) (f : Fd) (h : fs[k]? = some f) : fsum (fs.take (k + 1)) = fsum (fs.take k) + (2 + f.1.size + f.2.size) := by
  unfold fsum
  rw [List.take_add_one, h]
  simp
theorem fsum_le (fs : List Fd) (k : Nat) : fsum (fs.take k) ≤ fsum fs := by
  unfold fsum
  conv => rhs; rw [← List.take_append_drop k fs]
  rw [List.map_append, List.sum_append]
  omega
/-- Is it more than is gone through? -/
def bigB (m : Nat) (fs : List Fd) : Bool := decide (200000 < m + fsum fs)
def FSmall (fs : List Fd) : Prop := ∀ f ∈ fs, f.1.size ≤ 140737488355328 ∧ f.2.size ≤ 140737488355328

set_option maxRecDepth 100000 in
theorem great_any (s1 s2 : ByteArray) (st : Int) (A A2 : Option Addr) (n c n2 c2 : Nat) (fs : List Fd) (w : World) (h : FRead w w.heap.size A n fs) (hs : FSmall fs) (h1 : s1.size ≤ 140737488355328) (h2 : s2.size ≤ 140737488355328) (h3 : n2 ≤ 140737488355328) (h4 : n ≤ 140737488355328) :
   Calls Tryz.prog 22 #[.agg #[.string s1, .string s2, .int .i64 st, .slice A n c, .slice A2 n2 c2]] w fun e w' => e = .returned (.bool (bigB (s1.size + s2.size + n2) fs)) ∧ Below w.heap.size w w' := by
  obtain ⟨hlen, hcells⟩ := h
  have HL := Lib.hid hlen
  have HS := Lib.hid hs
  clear hlen hs
  go_enter Tryz.func22, Tryz.ntmps22
  go_wp2
  go_loopw [3, 4] (fun v i wr => ∃ k m : Nat, k ≤ n ∧ i = .int .i64 k ∧ v = .int .i64 m ∧ Hid (m = s1.size + s2.size + n2 + fsum (fs.take k)) ∧ m ≤ 844424930131968 ∧
      (∃ q, wr = (w.alloc (.cells #[.string s1, .string s2, .int .i64 st, .slice A n c, .slice A2 n2 c2] 25)).drewN q)) (fun _ i _ => n - (intOf i).toNat)
  case atStart => exact ⟨0, s1.size + s2.size + n2, Nat.zero_le _, rfl, by go_num, by simp [Hid, fsum], by omega, 0, rfl⟩
  case round =>
    obtain ⟨k, m, hk, rfl, rfl, hm, hmb, q, rfl⟩ := hrel
    by_cases hlt : k < n
    · by_cases hm2 : m ≤ 200000
      · obtain ⟨b, off, rfl, hb, hc⟩ := hcells (by omega)
        obtain ⟨f, hf⟩ : ∃ f, fs[k]? = some f := ⟨fs[k]'(by rw [HL.out]; exact hlt), List.getElem?_eq_getElem (by rw [HL.out]; exact hlt)⟩
        have hc1 := (hc k f hf).1
        have hc2 := (hc k f hf).2
        have hsz := HS.out f (List.mem_of_getElem? hf)
        have hsz1 := hsz.1
        have hsz2 := hsz.2
        have HF := Lib.hid hf
        have HC := Lib.hid hc
        clear hf hc hsz hcells
        obtain ⟨f1, f2⟩ := f
        simp only at hc1 hc2 hsz1 hsz2
        go_wp2
        go_quiet (fail)
        go_wp2
        go_roundw
        case rel =>
          refine ⟨k + 1, m + (2 + f1.size + f2.size), by omega, by go_num, by go_num, ?_, by omega, _, rfl⟩
          have e := fsum_succ fs k _ HF.out
          have := hm.out
          unfold Hid
          simp only at e
          omega
        case measure => simp [intOf]; omega
      · have hm3 : (200000 : Int) < (m : Int) := by omega
        clear hcells
        go_wp2
        go_ret
        refine ⟨ret_bool ?_, ?_⟩
        · have := hm.out
          have := fsum_le fs k
          unfold bigB
          exact (decide_eq_true (by omega)).symm
        · exact below_drewN ((Below.refl _ _).alloc (Nat.le_refl _) _) _
    · obtain rfl : k = n := by omega
      clear hcells
      go_wp2
      go_ret
      refine ⟨ret_bool ?_, ?_⟩
      · have := hm.out
        rw [List.take_of_length_le (by rw [HL.out]; exact Nat.le_refl _)] at this
        unfold bigB
        rw [← this]
        rw [Bool.eq_iff_iff, decide_eq_true_iff, decide_eq_true_iff]
        omega
      · exact below_drewN ((Below.refl _ _).alloc (Nat.le_refl _) _) _

theorem infoF : (Tryz.prog.info? 63).map (fun i => (i.zero, i.size, i.bytes)) = some (some (.agg #[.string ⟨#[]⟩, .string ⟨#[]⟩]), 2, 32) := by kernel_rfl
theorem infoS : (Tryz.prog.info? 9).map (fun i => (i.zero, i.size, i.bytes)) = some (some (.string ⟨#[]⟩), 1, 16) := by kernel_rfl
def fcells (fs : List Fd) : List Value := fs.flatMap fun f => [.string f.1, .string f.2]
theorem fcells_succ (fs : List Fd) (k : Nat) (f : Fd) (h : fs[k]? = some f) : fcells (fs.take (k + 1)) = fcells (fs.take k) ++ [.string f.1, .string f.2] := by
  unfold fcells
  rw [List.take_add_one, h]
  simp
set_option maxRecDepth 100000 in
theorem twinf_any (A : Option Addr) (n c : Nat) (fs : List Fd) (w : World) (h : FRead w w.heap.size A n fs) (hn : n ≤ 100000) :
   Calls Tryz.prog 67 #[.slice A n c] w fun e w' => e = .returned (.slice (some ⟨w.heap.size, 0, none⟩) n (n + 1)) ∧
     w'.ownsRow w.heap.size 63 2 (.slice (some ⟨w.heap.size, 0, none⟩) (n + 1) (n + 1)) (n + 1) (fcells fs ++ [.string ⟨#[115, 112, 97, 114, 101]⟩, .string ⟨#[]⟩]) ∧ Below w.heap.size w w' := by
  obtain ⟨i0, hi, hz0, hz1, hz2⟩ := info_parts infoF
  obtain ⟨hlen, hcells⟩ := h
  have HL := Lib.hid hlen
  clear hlen
  go_enter Tryz.func67, Tryz.ntmps67
  go_wp2_with (at_make; refine wpList_make_own _ rfl _ _ 22 rfl w.heap.size 63 i0 _ 2 Tryz.underlying22 hi hz0 hz1 _ _ _ (n + 1) rfl rfl (by omega) (by rw [hz2]; omega) (by unfold maxLen; omega) (Nat.le_refl _) ?_; intro w1 hown1 hg1)
  have hb1 : Below w.heap.size w w1 := (Below.refl _ _).grown hg1 (Nat.le_refl _) (by intro k hk; cases hk)
  clear hg1
  go_loopw [3, 4] (fun t i wr => ∃ k : Nat, k ≤ n ∧ i = .int .i64 k ∧ t = .slice (some ⟨w.heap.size, 0, none⟩) k (n + 1) ∧ wr.ownsRow w.heap.size 63 2 (.slice (some ⟨w.heap.size, 0, none⟩) k (n + 1)) k (fcells (fs.take k)) ∧ Below w.heap.size w wr)
    (fun _ i _ => n - (intOf i).toNat)
  case atStart => exact ⟨0, Nat.zero_le _, rfl, rfl, by simpa [fcells] using hown1, hb1⟩
  case round =>
    obtain ⟨k, hk, rfl, rfl, hown, hb⟩ := hrel
    clear hown1 hb1
    by_cases hlt : k < n
    · obtain ⟨b, off, rfl, hbb, hc⟩ := hcells (by omega)
      obtain ⟨f, hf⟩ : ∃ f, fs[k]? = some f := ⟨fs[k]'(by rw [HL.out]; exact hlt), List.getElem?_eq_getElem (by rw [HL.out]; exact hlt)⟩
      have hc1 := (hb.cell (p := ⟨b, off + k * 2, none⟩) hbb).trans (hc k f hf).1
      have hc2 := (hb.cell (p := ⟨b, off + k * 2 + 1, none⟩) hbb).trans (hc k f hf).2
      have HF := Lib.hid hf
      clear hf hc hcells
      obtain ⟨f1, f2⟩ := f
      simp only at hc1 hc2
      go_wp2_with (at_builtin; refine wpList_append_fits _ rfl _ _ 22 rfl w.heap.size 63 i0 2 Tryz.underlying22 hi hz1 w.heap.size k (n + 1) _ rfl (hown.alloc _) ⟨wr.heap.size, 0, none⟩ 1 1 [.string f1, .string f2] rfl rfl (cell_two_new _ _ _ _) (by simp [Value.oneCell']) (by omega) ?_; intro w2 hown2 hg2)
      have hb2 : Below w.heap.size w w2 := (hb.alloc hb.size _).grown hg2 (by have := hb.size; simp; omega) (by intro j hj; cases hj; exact Nat.le_refl _)
      rw [← fcells_succ fs k _ HF.out] at hown2
      go_roundw
      case rel => exact ⟨k + 1, by omega, by go_num, rfl, hown2, hb2⟩
      case measure => simp [intOf]; omega
    · obtain rfl : k = n := by omega
      clear hcells
      rw [List.take_of_length_le (by rw [HL.out]; exact Nat.le_refl _)] at hown
      go_wp2_with (at_builtin; refine wpList_append_fits _ rfl _ _ 22 rfl w.heap.size 63 i0 2 Tryz.underlying22 hi hz1 w.heap.size k (k + 1) _ rfl (hown.alloc _) ⟨wr.heap.size, 0, none⟩ 1 1 [.string ⟨#[115, 112, 97, 114, 101]⟩, .string ⟨#[]⟩] rfl rfl (cell_two_new _ _ _ _) (by simp [Value.oneCell']) (by omega) ?_; intro w2 hown2 hg2)
      go_ret
      exact ⟨rfl, hown2, (hb.alloc hb.size _).grown hg2 (by have := hb.size; simp; omega) (by intro j hj; cases hj; exact Nat.le_refl _)⟩
end Go.Proofs.YtonlfplloenfcaaGreatDoor
