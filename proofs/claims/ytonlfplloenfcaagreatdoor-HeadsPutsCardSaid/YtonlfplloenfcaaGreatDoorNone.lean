/-
  Book: fill, grow, look where no list of a kind is held. (Written by none.py.)
-/
import Derived.Test.YtonlfplloenfcaaGreatDoorAscii
namespace Go.Proofs.YtonlfplloenfcaaGreatDoor
open Go.RowKit

theorem fillbyte_none (g c : Nat) (A : Option Addr) (cs : Array Value) (w : World) (hB : Blk w g 42 cs) (hv : cs[1]? = some (.slice A 0 c)) :
    Calls Tryz.prog 82 #[.pointer (some ⟨g, 0, none⟩)] w fun e w' => e = .returned (.tuple #[]) ∧ w = w' := by
  have c0 := (hB.cell 1).trans hv
  go_enter Tryz.func82, Tryz.ntmps82
  go_wp2_with fail
  refine wp_loop_rounds 1 ?_
  rw [rounds_succ]
  go_wp2_with fail
  go_end0
  exact ⟨rfl, rfl⟩

theorem growbyte_none (g c : Nat) (A : Option Addr) (cs : Array Value) (w : World) (hB : Blk w g 42 cs) (hv : cs[1]? = some (.slice A 0 c)) :
    Calls Tryz.prog 90 #[.pointer (some ⟨g, 0, none⟩)] w fun e w' => e = .returned (.tuple #[]) ∧ w = w' := by
  have c0 := (hB.cell 1).trans hv
  go_enter Tryz.func90, Tryz.ntmps90
  go_wp2_with fail
  refine wp_loop_rounds 1 ?_
  rw [rounds_succ]
  go_wp2_with fail
  go_end0
  exact ⟨rfl, rfl⟩

theorem lookbyte_none (g c : Nat) (A : Option Addr) (cs : Array Value) (w : World) (hB : Blk w g 42 cs) (hv : cs[1]? = some (.slice A 0 c)) :
    Calls Tryz.prog 98 #[.pointer (some ⟨g, 0, none⟩)] w fun e w' => e = .returned (.bool true) ∧ w = w' := by
  have c0 := (hB.cell 1).trans hv
  go_enter Tryz.func98, Tryz.ntmps98
  go_wp2_with fail
  refine wp_loop_rounds 1 ?_
  rw [rounds_succ]
  go_wp2_with fail
  go_ret
  exact ⟨rfl, rfl⟩

theorem fillint_none (g c : Nat) (A : Option Addr) (cs : Array Value) (w : World) (hB : Blk w g 42 cs) (hv : cs[2]? = some (.slice A 0 c)) :
    Calls Tryz.prog 83 #[.pointer (some ⟨g, 0, none⟩)] w fun e w' => e = .returned (.tuple #[]) ∧ w = w' := by
  have c0 := (hB.cell 2).trans hv
  go_enter Tryz.func83, Tryz.ntmps83
  go_wp2_with fail
  refine wp_loop_rounds 1 ?_
  rw [rounds_succ]
  go_wp2_with fail
  go_end0
  exact ⟨rfl, rfl⟩

theorem growint_none (g c : Nat) (A : Option Addr) (cs : Array Value) (w : World) (hB : Blk w g 42 cs) (hv : cs[2]? = some (.slice A 0 c)) :
    Calls Tryz.prog 91 #[.pointer (some ⟨g, 0, none⟩)] w fun e w' => e = .returned (.tuple #[]) ∧ w = w' := by
  have c0 := (hB.cell 2).trans hv
  go_enter Tryz.func91, Tryz.ntmps91
  go_wp2_with fail
  refine wp_loop_rounds 1 ?_
  rw [rounds_succ]
  go_wp2_with fail
  go_end0
  exact ⟨rfl, rfl⟩

theorem lookint_none (g c : Nat) (A : Option Addr) (cs : Array Value) (w : World) (hB : Blk w g 42 cs) (hv : cs[2]? = some (.slice A 0 c)) :
    Calls Tryz.prog 99 #[.pointer (some ⟨g, 0, none⟩)] w fun e w' => e = .returned (.bool true) ∧ w = w' := by
  have c0 := (hB.cell 2).trans hv
  go_enter Tryz.func99, Tryz.ntmps99
  go_wp2_with fail
  refine wp_loop_rounds 1 ?_
  rw [rounds_succ]
  go_wp2_with fail
  go_ret
  exact ⟨rfl, rfl⟩

theorem filltext_none (g c : Nat) (A : Option Addr) (cs : Array Value) (w : World) (hB : Blk w g 42 cs) (hv : cs[3]? = some (.slice A 0 c)) :
    Calls Tryz.prog 84 #[.pointer (some ⟨g, 0, none⟩)] w fun e w' => e = .returned (.tuple #[]) ∧ w = w' := by
  have c0 := (hB.cell 3).trans hv
  go_enter Tryz.func84, Tryz.ntmps84
  go_wp2_with fail
  refine wp_loop_rounds 1 ?_
  rw [rounds_succ]
  go_wp2_with fail
  go_end0
  exact ⟨rfl, rfl⟩

theorem growtext_none (g c : Nat) (A : Option Addr) (cs : Array Value) (w : World) (hB : Blk w g 42 cs) (hv : cs[3]? = some (.slice A 0 c)) :
    Calls Tryz.prog 92 #[.pointer (some ⟨g, 0, none⟩)] w fun e w' => e = .returned (.tuple #[]) ∧ w = w' := by
  have c0 := (hB.cell 3).trans hv
  go_enter Tryz.func92, Tryz.ntmps92
  go_wp2_with fail
  refine wp_loop_rounds 1 ?_
  rw [rounds_succ]
  go_wp2_with fail
  go_end0
  exact ⟨rfl, rfl⟩

theorem looktext_none (g c : Nat) (A : Option Addr) (cs : Array Value) (w : World) (hB : Blk w g 42 cs) (hv : cs[3]? = some (.slice A 0 c)) :
    Calls Tryz.prog 100 #[.pointer (some ⟨g, 0, none⟩)] w fun e w' => e = .returned (.bool true) ∧ w = w' := by
  have c0 := (hB.cell 3).trans hv
  go_enter Tryz.func100, Tryz.ntmps100
  go_wp2_with fail
  refine wp_loop_rounds 1 ?_
  rw [rounds_succ]
  go_wp2_with fail
  go_ret
  exact ⟨rfl, rfl⟩

theorem fillfield_none (g c : Nat) (A : Option Addr) (cs : Array Value) (w : World) (hB : Blk w g 42 cs) (hv : cs[4]? = some (.slice A 0 c)) :
    Calls Tryz.prog 85 #[.pointer (some ⟨g, 0, none⟩)] w fun e w' => e = .returned (.tuple #[]) ∧ w = w' := by
  have c0 := (hB.cell 4).trans hv
  go_enter Tryz.func85, Tryz.ntmps85
  go_wp2_with fail
  refine wp_loop_rounds 1 ?_
  rw [rounds_succ]
  go_wp2_with fail
  go_end0
  exact ⟨rfl, rfl⟩

theorem growfield_none (g c : Nat) (A : Option Addr) (cs : Array Value) (w : World) (hB : Blk w g 42 cs) (hv : cs[4]? = some (.slice A 0 c)) :
    Calls Tryz.prog 93 #[.pointer (some ⟨g, 0, none⟩)] w fun e w' => e = .returned (.tuple #[]) ∧ w = w' := by
  have c0 := (hB.cell 4).trans hv
  go_enter Tryz.func93, Tryz.ntmps93
  go_wp2_with fail
  refine wp_loop_rounds 1 ?_
  rw [rounds_succ]
  go_wp2_with fail
  go_end0
  exact ⟨rfl, rfl⟩

theorem lookfield_none (g c : Nat) (A : Option Addr) (cs : Array Value) (w : World) (hB : Blk w g 42 cs) (hv : cs[4]? = some (.slice A 0 c)) :
    Calls Tryz.prog 101 #[.pointer (some ⟨g, 0, none⟩)] w fun e w' => e = .returned (.bool true) ∧ w = w' := by
  have c0 := (hB.cell 4).trans hv
  go_enter Tryz.func101, Tryz.ntmps101
  go_wp2_with fail
  refine wp_loop_rounds 1 ?_
  rw [rounds_succ]
  go_wp2_with fail
  go_ret
  exact ⟨rfl, rfl⟩

theorem fillcookie_none (g c : Nat) (A : Option Addr) (cs : Array Value) (w : World) (hB : Blk w g 42 cs) (hv : cs[5]? = some (.slice A 0 c)) :
    Calls Tryz.prog 86 #[.pointer (some ⟨g, 0, none⟩)] w fun e w' => e = .returned (.tuple #[]) ∧ w = w' := by
  have c0 := (hB.cell 5).trans hv
  go_enter Tryz.func86, Tryz.ntmps86
  go_wp2_with fail
  refine wp_loop_rounds 1 ?_
  rw [rounds_succ]
  go_wp2_with fail
  go_end0
  exact ⟨rfl, rfl⟩

theorem growcookie_none (g c : Nat) (A : Option Addr) (cs : Array Value) (w : World) (hB : Blk w g 42 cs) (hv : cs[5]? = some (.slice A 0 c)) :
    Calls Tryz.prog 94 #[.pointer (some ⟨g, 0, none⟩)] w fun e w' => e = .returned (.tuple #[]) ∧ w = w' := by
  have c0 := (hB.cell 5).trans hv
  go_enter Tryz.func94, Tryz.ntmps94
  go_wp2_with fail
  refine wp_loop_rounds 1 ?_
  rw [rounds_succ]
  go_wp2_with fail
  go_end0
  exact ⟨rfl, rfl⟩

theorem lookcookie_none (g c : Nat) (A : Option Addr) (cs : Array Value) (w : World) (hB : Blk w g 42 cs) (hv : cs[5]? = some (.slice A 0 c)) :
    Calls Tryz.prog 102 #[.pointer (some ⟨g, 0, none⟩)] w fun e w' => e = .returned (.bool true) ∧ w = w' := by
  have c0 := (hB.cell 5).trans hv
  go_enter Tryz.func102, Tryz.ntmps102
  go_wp2_with fail
  refine wp_loop_rounds 1 ?_
  rw [rounds_succ]
  go_wp2_with fail
  go_ret
  exact ⟨rfl, rfl⟩

theorem fillsealed_none (g c : Nat) (A : Option Addr) (cs : Array Value) (w : World) (hB : Blk w g 42 cs) (hv : cs[6]? = some (.slice A 0 c)) :
    Calls Tryz.prog 87 #[.pointer (some ⟨g, 0, none⟩)] w fun e w' => e = .returned (.tuple #[]) ∧ w = w' := by
  have c0 := (hB.cell 6).trans hv
  go_enter Tryz.func87, Tryz.ntmps87
  go_wp2_with fail
  refine wp_loop_rounds 1 ?_
  rw [rounds_succ]
  go_wp2_with fail
  go_end0
  exact ⟨rfl, rfl⟩

theorem growsealed_none (g c : Nat) (A : Option Addr) (cs : Array Value) (w : World) (hB : Blk w g 42 cs) (hv : cs[6]? = some (.slice A 0 c)) :
    Calls Tryz.prog 95 #[.pointer (some ⟨g, 0, none⟩)] w fun e w' => e = .returned (.tuple #[]) ∧ w = w' := by
  have c0 := (hB.cell 6).trans hv
  go_enter Tryz.func95, Tryz.ntmps95
  go_wp2_with fail
  refine wp_loop_rounds 1 ?_
  rw [rounds_succ]
  go_wp2_with fail
  go_end0
  exact ⟨rfl, rfl⟩

theorem looksealed_none (g c : Nat) (A : Option Addr) (cs : Array Value) (w : World) (hB : Blk w g 42 cs) (hv : cs[6]? = some (.slice A 0 c)) :
    Calls Tryz.prog 103 #[.pointer (some ⟨g, 0, none⟩)] w fun e w' => e = .returned (.bool true) ∧ w = w' := by
  have c0 := (hB.cell 6).trans hv
  go_enter Tryz.func103, Tryz.ntmps103
  go_wp2_with fail
  refine wp_loop_rounds 1 ?_
  rw [rounds_succ]
  go_wp2_with fail
  go_ret
  exact ⟨rfl, rfl⟩

theorem fillchange_none (g c : Nat) (A : Option Addr) (cs : Array Value) (w : World) (hB : Blk w g 42 cs) (hv : cs[7]? = some (.slice A 0 c)) :
    Calls Tryz.prog 88 #[.pointer (some ⟨g, 0, none⟩)] w fun e w' => e = .returned (.tuple #[]) ∧ w = w' := by
  have c0 := (hB.cell 7).trans hv
  go_enter Tryz.func88, Tryz.ntmps88
  go_wp2_with fail
  refine wp_loop_rounds 1 ?_
  rw [rounds_succ]
  go_wp2_with fail
  go_end0
  exact ⟨rfl, rfl⟩

theorem growchange_none (g c : Nat) (A : Option Addr) (cs : Array Value) (w : World) (hB : Blk w g 42 cs) (hv : cs[7]? = some (.slice A 0 c)) :
    Calls Tryz.prog 96 #[.pointer (some ⟨g, 0, none⟩)] w fun e w' => e = .returned (.tuple #[]) ∧ w = w' := by
  have c0 := (hB.cell 7).trans hv
  go_enter Tryz.func96, Tryz.ntmps96
  go_wp2_with fail
  refine wp_loop_rounds 1 ?_
  rw [rounds_succ]
  go_wp2_with fail
  go_end0
  exact ⟨rfl, rfl⟩

theorem lookchange_none (g c : Nat) (A : Option Addr) (cs : Array Value) (w : World) (hB : Blk w g 42 cs) (hv : cs[7]? = some (.slice A 0 c)) :
    Calls Tryz.prog 104 #[.pointer (some ⟨g, 0, none⟩)] w fun e w' => e = .returned (.bool true) ∧ w = w' := by
  have c0 := (hB.cell 7).trans hv
  go_enter Tryz.func104, Tryz.ntmps104
  go_wp2_with fail
  refine wp_loop_rounds 1 ?_
  rw [rounds_succ]
  go_wp2_with fail
  go_ret
  exact ⟨rfl, rfl⟩

theorem fillmessage_none (g c : Nat) (A : Option Addr) (cs : Array Value) (w : World) (hB : Blk w g 42 cs) (hv : cs[8]? = some (.slice A 0 c)) :
    Calls Tryz.prog 89 #[.pointer (some ⟨g, 0, none⟩)] w fun e w' => e = .returned (.tuple #[]) ∧ w = w' := by
  have c0 := (hB.cell 8).trans hv
  go_enter Tryz.func89, Tryz.ntmps89
  go_wp2_with fail
  refine wp_loop_rounds 1 ?_
  rw [rounds_succ]
  go_wp2_with fail
  go_end0
  exact ⟨rfl, rfl⟩

theorem growmessage_none (g c : Nat) (A : Option Addr) (cs : Array Value) (w : World) (hB : Blk w g 42 cs) (hv : cs[8]? = some (.slice A 0 c)) :
    Calls Tryz.prog 97 #[.pointer (some ⟨g, 0, none⟩)] w fun e w' => e = .returned (.tuple #[]) ∧ w = w' := by
  have c0 := (hB.cell 8).trans hv
  go_enter Tryz.func97, Tryz.ntmps97
  go_wp2_with fail
  refine wp_loop_rounds 1 ?_
  rw [rounds_succ]
  go_wp2_with fail
  go_end0
  exact ⟨rfl, rfl⟩

theorem lookmessage_none (g c : Nat) (A : Option Addr) (cs : Array Value) (w : World) (hB : Blk w g 42 cs) (hv : cs[8]? = some (.slice A 0 c)) :
    Calls Tryz.prog 105 #[.pointer (some ⟨g, 0, none⟩)] w fun e w' => e = .returned (.bool true) ∧ w = w' := by
  have c0 := (hB.cell 8).trans hv
  go_enter Tryz.func105, Tryz.ntmps105
  go_wp2_with fail
  refine wp_loop_rounds 1 ?_
  rw [rounds_succ]
  go_wp2_with fail
  go_ret
  exact ⟨rfl, rfl⟩
end Go.Proofs.YtonlfplloenfcaaGreatDoor
