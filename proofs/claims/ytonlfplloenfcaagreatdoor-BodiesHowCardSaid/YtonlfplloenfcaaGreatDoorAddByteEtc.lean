/-
  Book.Bytes: one list more is held. (Written by add.py.)
  Book.Fields: one list more is held. (Written by add.py.)
-/
import Derived.Test.YtonlfplloenfcaaGreatDoorChunkSpecEtc
import Derived.Test.YtonlfplloenfcaaGreatDoorFillByteEtc
namespace Go.Proofs.YtonlfplloenfcaaGreatDoor
open Go.RowKit

theorem addbyte_ok (Bs g nb : Nat) (vb vt vf : Value) (hs : List (Value × Nat)) (A : Option Addr) (n c : Nat) (xs : List Value) (w : World) (hnb : nb ≤ 100000) (hN : hs.length ≤ 100000) (hBs : Bs ≤ g)
    (hB : Blk w g 42 #[.int .i64 nb, vb, .slice none 0 0, vt, vf, .slice none 0 0, .slice none 0 0, .slice none 0 0, .slice none 0 0]) (hk : Kind w Bs 5 174 1 vb hs false mkByte) (hl : w.ownsRow Bs 5 1 (.slice A n c) n xs) :
    Calls Tryz.prog 29 #[.pointer (some ⟨g, 0, none⟩), .slice A n c] w fun e w' => e = .returned (.tuple #[]) ∧
      ∃ vb', Blk w' g 42 #[.int .i64 (nb + 1 : Nat), vb', .slice none 0 0, vt, vf, .slice none 0 0, .slice none 0 0, .slice none 0 0, .slice none 0 0] ∧ Kind w' Bs 5 174 1 vb' (hs ++ [(.slice A n c, nb + 1)]) false mkByte ∧
        Below Bs w w' ∧ Tys [42, 174] w w' := by
  have H0 := Lib.hid (keepbyte_any Bs g nb vb (.slice none 0 0) vt vf (.slice none 0 0) (.slice none 0 0) (.slice none 0 0) (.slice none 0 0) A n c hs.length (hcells hs) w (by omega) (by omega) hBs hB hk.1)
  have HK := Lib.hid hk
  have HL := Lib.hid hl
  clear hB hk hl
  go_enter Tryz.func29, Tryz.ntmps29
  go_wp2_with fail
  refine H0.out.mono ?_
  rintro e w1 ⟨rfl, v', q1, q2, q3, q4⟩
  have HH := Lib.hid (And.intro q1 (And.intro q2 (And.intro q3 q4)))
  clear q1 q2 q3 q4
  go_wp2_with fail
  go_end0
  obtain ⟨q1, q2, q3, q4⟩ := HH.out
  exact ⟨rfl, v', q1, HK.out.push (fun j hj => (HK.out.2 j hj).tys q4 (by decide)) q2 (own_tys HL.out q4 (by decide)) rfl, q3, q4⟩
end Go.Proofs.YtonlfplloenfcaaGreatDoor
namespace Go.Proofs.YtonlfplloenfcaaGreatDoor
open Go.RowKit

theorem addfield_ok (Bs g nb : Nat) (vb vt vf : Value) (hs : List (Value × Nat)) (A : Option Addr) (n c : Nat) (xs : List Value) (w : World) (hnb : nb ≤ 100000) (hN : hs.length ≤ 100000) (hBs : Bs ≤ g)
    (hB : Blk w g 42 #[.int .i64 nb, vb, .slice none 0 0, vt, vf, .slice none 0 0, .slice none 0 0, .slice none 0 0, .slice none 0 0]) (hk : Kind w Bs 63 181 2 vf hs false mkField) (hl : w.ownsRow Bs 63 2 (.slice A n c) n xs) :
    Calls Tryz.prog 80 #[.pointer (some ⟨g, 0, none⟩), .slice A n c] w fun e w' => e = .returned (.tuple #[]) ∧
      ∃ vf', Blk w' g 42 #[.int .i64 (nb + 1 : Nat), vb, .slice none 0 0, vt, vf', .slice none 0 0, .slice none 0 0, .slice none 0 0, .slice none 0 0] ∧ Kind w' Bs 63 181 2 vf' (hs ++ [(.slice A n c, nb + 1)]) false mkField ∧
        Below Bs w w' ∧ Tys [42, 181] w w' := by
  have H0 := Lib.hid (keepfield_any Bs g nb vb (.slice none 0 0) vt vf (.slice none 0 0) (.slice none 0 0) (.slice none 0 0) (.slice none 0 0) A n c hs.length (hcells hs) w (by omega) (by omega) hBs hB hk.1)
  have HK := Lib.hid hk
  have HL := Lib.hid hl
  clear hB hk hl
  go_enter Tryz.func80, Tryz.ntmps80
  go_wp2_with fail
  refine H0.out.mono ?_
  rintro e w1 ⟨rfl, v', q1, q2, q3, q4⟩
  have HH := Lib.hid (And.intro q1 (And.intro q2 (And.intro q3 q4)))
  clear q1 q2 q3 q4
  go_wp2_with fail
  go_end0
  obtain ⟨q1, q2, q3, q4⟩ := HH.out
  exact ⟨rfl, v', q1, HK.out.push (fun j hj => (HK.out.2 j hj).tys q4 (by decide)) q2 (own_tys HL.out q4 (by decide)) rfl, q3, q4⟩
end Go.Proofs.YtonlfplloenfcaaGreatDoor
