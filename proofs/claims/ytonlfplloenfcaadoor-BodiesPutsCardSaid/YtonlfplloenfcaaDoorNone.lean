/-
  Book: fill, grow, look where no list of a kind is held. (Written by none.py.)
-/
import Derived.Test.YtonlfplloenfcaaDoorAscii
namespace Go.Proofs.YtonlfplloenfcaaDoor
open Go.RowKit

theorem fillbyte_none (g c : Nat) (A : Option Addr) (cs : Array Value) (w : World) (hB : Blk w g 42 cs) (hv : cs[1]? = some (.slice A 0 c)) :
    Calls Tryd.prog 28 #[.pointer (some ⟨g, 0, none⟩)] w fun e w' => e = .returned (.tuple #[]) ∧ w = w' := by
  have c0 := (hB.cell 1).trans hv
  go_enter Tryd.func28, Tryd.ntmps28
  go_wp2_with fail
  refine wp_loop_rounds 1 ?_
  rw [rounds_succ]
  go_wp2_with fail
  go_end0
  exact ⟨rfl, rfl⟩

theorem growbyte_none (g c : Nat) (A : Option Addr) (cs : Array Value) (w : World) (hB : Blk w g 42 cs) (hv : cs[1]? = some (.slice A 0 c)) :
    Calls Tryd.prog 36 #[.pointer (some ⟨g, 0, none⟩)] w fun e w' => e = .returned (.tuple #[]) ∧ w = w' := by
  have c0 := (hB.cell 1).trans hv
  go_enter Tryd.func36, Tryd.ntmps36
  go_wp2_with fail
  refine wp_loop_rounds 1 ?_
  rw [rounds_succ]
  go_wp2_with fail
  go_end0
  exact ⟨rfl, rfl⟩

theorem lookbyte_none (g c : Nat) (A : Option Addr) (cs : Array Value) (w : World) (hB : Blk w g 42 cs) (hv : cs[1]? = some (.slice A 0 c)) :
    Calls Tryd.prog 44 #[.pointer (some ⟨g, 0, none⟩)] w fun e w' => e = .returned (.bool true) ∧ w = w' := by
  have c0 := (hB.cell 1).trans hv
  go_enter Tryd.func44, Tryd.ntmps44
  go_wp2_with fail
  refine wp_loop_rounds 1 ?_
  rw [rounds_succ]
  go_wp2_with fail
  go_ret
  exact ⟨rfl, rfl⟩

theorem fillint_none (g c : Nat) (A : Option Addr) (cs : Array Value) (w : World) (hB : Blk w g 42 cs) (hv : cs[2]? = some (.slice A 0 c)) :
    Calls Tryd.prog 29 #[.pointer (some ⟨g, 0, none⟩)] w fun e w' => e = .returned (.tuple #[]) ∧ w = w' := by
  have c0 := (hB.cell 2).trans hv
  go_enter Tryd.func29, Tryd.ntmps29
  go_wp2_with fail
  refine wp_loop_rounds 1 ?_
  rw [rounds_succ]
  go_wp2_with fail
  go_end0
  exact ⟨rfl, rfl⟩

theorem growint_none (g c : Nat) (A : Option Addr) (cs : Array Value) (w : World) (hB : Blk w g 42 cs) (hv : cs[2]? = some (.slice A 0 c)) :
    Calls Tryd.prog 37 #[.pointer (some ⟨g, 0, none⟩)] w fun e w' => e = .returned (.tuple #[]) ∧ w = w' := by
  have c0 := (hB.cell 2).trans hv
  go_enter Tryd.func37, Tryd.ntmps37
  go_wp2_with fail
  refine wp_loop_rounds 1 ?_
  rw [rounds_succ]
  go_wp2_with fail
  go_end0
  exact ⟨rfl, rfl⟩

theorem lookint_none (g c : Nat) (A : Option Addr) (cs : Array Value) (w : World) (hB : Blk w g 42 cs) (hv : cs[2]? = some (.slice A 0 c)) :
    Calls Tryd.prog 45 #[.pointer (some ⟨g, 0, none⟩)] w fun e w' => e = .returned (.bool true) ∧ w = w' := by
  have c0 := (hB.cell 2).trans hv
  go_enter Tryd.func45, Tryd.ntmps45
  go_wp2_with fail
  refine wp_loop_rounds 1 ?_
  rw [rounds_succ]
  go_wp2_with fail
  go_ret
  exact ⟨rfl, rfl⟩

theorem filltext_none (g c : Nat) (A : Option Addr) (cs : Array Value) (w : World) (hB : Blk w g 42 cs) (hv : cs[3]? = some (.slice A 0 c)) :
    Calls Tryd.prog 30 #[.pointer (some ⟨g, 0, none⟩)] w fun e w' => e = .returned (.tuple #[]) ∧ w = w' := by
  have c0 := (hB.cell 3).trans hv
  go_enter Tryd.func30, Tryd.ntmps30
  go_wp2_with fail
  refine wp_loop_rounds 1 ?_
  rw [rounds_succ]
  go_wp2_with fail
  go_end0
  exact ⟨rfl, rfl⟩

theorem growtext_none (g c : Nat) (A : Option Addr) (cs : Array Value) (w : World) (hB : Blk w g 42 cs) (hv : cs[3]? = some (.slice A 0 c)) :
    Calls Tryd.prog 38 #[.pointer (some ⟨g, 0, none⟩)] w fun e w' => e = .returned (.tuple #[]) ∧ w = w' := by
  have c0 := (hB.cell 3).trans hv
  go_enter Tryd.func38, Tryd.ntmps38
  go_wp2_with fail
  refine wp_loop_rounds 1 ?_
  rw [rounds_succ]
  go_wp2_with fail
  go_end0
  exact ⟨rfl, rfl⟩

theorem looktext_none (g c : Nat) (A : Option Addr) (cs : Array Value) (w : World) (hB : Blk w g 42 cs) (hv : cs[3]? = some (.slice A 0 c)) :
    Calls Tryd.prog 46 #[.pointer (some ⟨g, 0, none⟩)] w fun e w' => e = .returned (.bool true) ∧ w = w' := by
  have c0 := (hB.cell 3).trans hv
  go_enter Tryd.func46, Tryd.ntmps46
  go_wp2_with fail
  refine wp_loop_rounds 1 ?_
  rw [rounds_succ]
  go_wp2_with fail
  go_ret
  exact ⟨rfl, rfl⟩

theorem fillfield_none (g c : Nat) (A : Option Addr) (cs : Array Value) (w : World) (hB : Blk w g 42 cs) (hv : cs[4]? = some (.slice A 0 c)) :
    Calls Tryd.prog 31 #[.pointer (some ⟨g, 0, none⟩)] w fun e w' => e = .returned (.tuple #[]) ∧ w = w' := by
  have c0 := (hB.cell 4).trans hv
  go_enter Tryd.func31, Tryd.ntmps31
  go_wp2_with fail
  refine wp_loop_rounds 1 ?_
  rw [rounds_succ]
  go_wp2_with fail
  go_end0
  exact ⟨rfl, rfl⟩

theorem growfield_none (g c : Nat) (A : Option Addr) (cs : Array Value) (w : World) (hB : Blk w g 42 cs) (hv : cs[4]? = some (.slice A 0 c)) :
    Calls Tryd.prog 39 #[.pointer (some ⟨g, 0, none⟩)] w fun e w' => e = .returned (.tuple #[]) ∧ w = w' := by
  have c0 := (hB.cell 4).trans hv
  go_enter Tryd.func39, Tryd.ntmps39
  go_wp2_with fail
  refine wp_loop_rounds 1 ?_
  rw [rounds_succ]
  go_wp2_with fail
  go_end0
  exact ⟨rfl, rfl⟩

theorem lookfield_none (g c : Nat) (A : Option Addr) (cs : Array Value) (w : World) (hB : Blk w g 42 cs) (hv : cs[4]? = some (.slice A 0 c)) :
    Calls Tryd.prog 47 #[.pointer (some ⟨g, 0, none⟩)] w fun e w' => e = .returned (.bool true) ∧ w = w' := by
  have c0 := (hB.cell 4).trans hv
  go_enter Tryd.func47, Tryd.ntmps47
  go_wp2_with fail
  refine wp_loop_rounds 1 ?_
  rw [rounds_succ]
  go_wp2_with fail
  go_ret
  exact ⟨rfl, rfl⟩

theorem fillcookie_none (g c : Nat) (A : Option Addr) (cs : Array Value) (w : World) (hB : Blk w g 42 cs) (hv : cs[5]? = some (.slice A 0 c)) :
    Calls Tryd.prog 32 #[.pointer (some ⟨g, 0, none⟩)] w fun e w' => e = .returned (.tuple #[]) ∧ w = w' := by
  have c0 := (hB.cell 5).trans hv
  go_enter Tryd.func32, Tryd.ntmps32
  go_wp2_with fail
  refine wp_loop_rounds 1 ?_
  rw [rounds_succ]
  go_wp2_with fail
  go_end0
  exact ⟨rfl, rfl⟩

theorem growcookie_none (g c : Nat) (A : Option Addr) (cs : Array Value) (w : World) (hB : Blk w g 42 cs) (hv : cs[5]? = some (.slice A 0 c)) :
    Calls Tryd.prog 40 #[.pointer (some ⟨g, 0, none⟩)] w fun e w' => e = .returned (.tuple #[]) ∧ w = w' := by
  have c0 := (hB.cell 5).trans hv
  go_enter Tryd.func40, Tryd.ntmps40
  go_wp2_with fail
  refine wp_loop_rounds 1 ?_
  rw [rounds_succ]
  go_wp2_with fail
  go_end0
  exact ⟨rfl, rfl⟩

theorem lookcookie_none (g c : Nat) (A : Option Addr) (cs : Array Value) (w : World) (hB : Blk w g 42 cs) (hv : cs[5]? = some (.slice A 0 c)) :
    Calls Tryd.prog 48 #[.pointer (some ⟨g, 0, none⟩)] w fun e w' => e = .returned (.bool true) ∧ w = w' := by
  have c0 := (hB.cell 5).trans hv
  go_enter Tryd.func48, Tryd.ntmps48
  go_wp2_with fail
  refine wp_loop_rounds 1 ?_
  rw [rounds_succ]
  go_wp2_with fail
  go_ret
  exact ⟨rfl, rfl⟩

theorem fillsealed_none (g c : Nat) (A : Option Addr) (cs : Array Value) (w : World) (hB : Blk w g 42 cs) (hv : cs[6]? = some (.slice A 0 c)) :
    Calls Tryd.prog 33 #[.pointer (some ⟨g, 0, none⟩)] w fun e w' => e = .returned (.tuple #[]) ∧ w = w' := by
  have c0 := (hB.cell 6).trans hv
  go_enter Tryd.func33, Tryd.ntmps33
  go_wp2_with fail
  refine wp_loop_rounds 1 ?_
  rw [rounds_succ]
  go_wp2_with fail
  go_end0
  exact ⟨rfl, rfl⟩

theorem growsealed_none (g c : Nat) (A : Option Addr) (cs : Array Value) (w : World) (hB : Blk w g 42 cs) (hv : cs[6]? = some (.slice A 0 c)) :
    Calls Tryd.prog 41 #[.pointer (some ⟨g, 0, none⟩)] w fun e w' => e = .returned (.tuple #[]) ∧ w = w' := by
  have c0 := (hB.cell 6).trans hv
  go_enter Tryd.func41, Tryd.ntmps41
  go_wp2_with fail
  refine wp_loop_rounds 1 ?_
  rw [rounds_succ]
  go_wp2_with fail
  go_end0
  exact ⟨rfl, rfl⟩

theorem looksealed_none (g c : Nat) (A : Option Addr) (cs : Array Value) (w : World) (hB : Blk w g 42 cs) (hv : cs[6]? = some (.slice A 0 c)) :
    Calls Tryd.prog 49 #[.pointer (some ⟨g, 0, none⟩)] w fun e w' => e = .returned (.bool true) ∧ w = w' := by
  have c0 := (hB.cell 6).trans hv
  go_enter Tryd.func49, Tryd.ntmps49
  go_wp2_with fail
  refine wp_loop_rounds 1 ?_
  rw [rounds_succ]
  go_wp2_with fail
  go_ret
  exact ⟨rfl, rfl⟩

theorem fillchange_none (g c : Nat) (A : Option Addr) (cs : Array Value) (w : World) (hB : Blk w g 42 cs) (hv : cs[7]? = some (.slice A 0 c)) :
    Calls Tryd.prog 34 #[.pointer (some ⟨g, 0, none⟩)] w fun e w' => e = .returned (.tuple #[]) ∧ w = w' := by
  have c0 := (hB.cell 7).trans hv
  go_enter Tryd.func34, Tryd.ntmps34
  go_wp2_with fail
  refine wp_loop_rounds 1 ?_
  rw [rounds_succ]
  go_wp2_with fail
  go_end0
  exact ⟨rfl, rfl⟩

theorem growchange_none (g c : Nat) (A : Option Addr) (cs : Array Value) (w : World) (hB : Blk w g 42 cs) (hv : cs[7]? = some (.slice A 0 c)) :
    Calls Tryd.prog 42 #[.pointer (some ⟨g, 0, none⟩)] w fun e w' => e = .returned (.tuple #[]) ∧ w = w' := by
  have c0 := (hB.cell 7).trans hv
  go_enter Tryd.func42, Tryd.ntmps42
  go_wp2_with fail
  refine wp_loop_rounds 1 ?_
  rw [rounds_succ]
  go_wp2_with fail
  go_end0
  exact ⟨rfl, rfl⟩

theorem lookchange_none (g c : Nat) (A : Option Addr) (cs : Array Value) (w : World) (hB : Blk w g 42 cs) (hv : cs[7]? = some (.slice A 0 c)) :
    Calls Tryd.prog 50 #[.pointer (some ⟨g, 0, none⟩)] w fun e w' => e = .returned (.bool true) ∧ w = w' := by
  have c0 := (hB.cell 7).trans hv
  go_enter Tryd.func50, Tryd.ntmps50
  go_wp2_with fail
  refine wp_loop_rounds 1 ?_
  rw [rounds_succ]
  go_wp2_with fail
  go_ret
  exact ⟨rfl, rfl⟩

theorem fillmessage_none (g c : Nat) (A : Option Addr) (cs : Array Value) (w : World) (hB : Blk w g 42 cs) (hv : cs[8]? = some (.slice A 0 c)) :
    Calls Tryd.prog 35 #[.pointer (some ⟨g, 0, none⟩)] w fun e w' => e = .returned (.tuple #[]) ∧ w = w' := by
  have c0 := (hB.cell 8).trans hv
  go_enter Tryd.func35, Tryd.ntmps35
  go_wp2_with fail
  refine wp_loop_rounds 1 ?_
  rw [rounds_succ]
  go_wp2_with fail
  go_end0
  exact ⟨rfl, rfl⟩

theorem growmessage_none (g c : Nat) (A : Option Addr) (cs : Array Value) (w : World) (hB : Blk w g 42 cs) (hv : cs[8]? = some (.slice A 0 c)) :
    Calls Tryd.prog 43 #[.pointer (some ⟨g, 0, none⟩)] w fun e w' => e = .returned (.tuple #[]) ∧ w = w' := by
  have c0 := (hB.cell 8).trans hv
  go_enter Tryd.func43, Tryd.ntmps43
  go_wp2_with fail
  refine wp_loop_rounds 1 ?_
  rw [rounds_succ]
  go_wp2_with fail
  go_end0
  exact ⟨rfl, rfl⟩

theorem lookmessage_none (g c : Nat) (A : Option Addr) (cs : Array Value) (w : World) (hB : Blk w g 42 cs) (hv : cs[8]? = some (.slice A 0 c)) :
    Calls Tryd.prog 51 #[.pointer (some ⟨g, 0, none⟩)] w fun e w' => e = .returned (.bool true) ∧ w = w' := by
  have c0 := (hB.cell 8).trans hv
  go_enter Tryd.func51, Tryd.ntmps51
  go_wp2_with fail
  refine wp_loop_rounds 1 ?_
  rw [rounds_succ]
  go_wp2_with fail
  go_ret
  exact ⟨rfl, rfl⟩
end Go.Proofs.YtonlfplloenfcaaDoor
