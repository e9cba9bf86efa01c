/-
  LeftMessage, Book.Message.
-/
import Derived.Test.YtonlfplloenfcaaGreatDoorNamesEtc
import Derived.Test.YtonlfplloenfcaaGreatDoorAddByteEtc
namespace Go.Proofs.YtonlfplloenfcaaGreatDoor
open Go.RowKit
attribute [local go_sem ↓] Go.wp_at_zero Go.wp_at_succ

set_option maxRecDepth 100000 in
theorem leftm_any (s1 s2 : ByteArray) (st : Int) (g1 g2 : Nat) (A A2 : Option Addr) (n c n2 c2 : Nat) (fs : List Fd) (l : List UInt8) (w : World)
    (a1 : FRead w w.heap.size (some ⟨g1, 0, none⟩) n fs) (a2 : FRead w w.heap.size A n fs) (hn : n ≤ 140737488355328) (a3 : w.cell? ⟨g1, n * 2, none⟩ = some (.string ⟨#[115, 112, 97, 114, 101]⟩)) (a4 : w.cell? ⟨g1, n * 2 + 1, none⟩ = some (.string ⟨#[]⟩)) (ag : g1 < w.heap.size)
    (b1 : Lies w w.heap.size (some ⟨g2, 0, none⟩) n2 (Lib.byteCells l)) (b2 : Lies w w.heap.size A2 n2 (Lib.byteCells l)) (hn2 : n2 ≤ 140737488355328) (b3 : w.cell? ⟨g2, n2, none⟩ = some (.int .u8 77)) (bg : g2 < w.heap.size) :
   Calls Tryz.prog 27 #[.agg #[.string s1, .string s2, .int .i64 st, .slice (some ⟨g1, 0, none⟩) n (n + 1), .slice (some ⟨g2, 0, none⟩) n2 (n2 + 1)], .agg #[.string s1, .string s2, .int .i64 st, .slice A n c, .slice A2 n2 c2]] w
     fun e w' => e = .returned (.bool true) ∧ Below w.heap.size w w' := by
  have H1 := Lib.hid (fun (W : World) (hb : Below w.heap.size w W) => leftfields_any g1 A n c fs W ((a1.below hb).more hb.size) ((a2.below hb).more hb.size) hn ((hb.cell (p := ⟨g1, _, none⟩) ag).trans a3) ((hb.cell (p := ⟨g1, _, none⟩) ag).trans a4))
  have H2 := Lib.hid (fun (W : World) (hb : Below w.heap.size w W) => leftbytes_any g2 A2 n2 c2 l W ((b1.below hb).more hb.size) ((b2.below hb).more hb.size) hn2 ((hb.cell (p := ⟨g2, _, none⟩) bg).trans b3))
  clear a1 a2 a3 a4 b1 b2 b3
  go_enter Tryz.func27, Tryz.ntmps27
  go_wp2_with fail
  have hk1 := (Blk.new w 25 #[.string s1, .string s2, .int .i64 st, .slice (some ⟨g1, 0, none⟩) n (n + 1), .slice (some ⟨g2, 0, none⟩) n2 (n2 + 1)]).alloc (.cells #[.string s1, .string s2, .int .i64 st, .slice A n c, .slice A2 n2 c2] 25)
  have hk2 := Blk.new (w.alloc (.cells #[.string s1, .string s2, .int .i64 st, .slice (some ⟨g1, 0, none⟩) n (n + 1), .slice (some ⟨g2, 0, none⟩) n2 (n2 + 1)] 25)) 25 #[.string s1, .string s2, .int .i64 st, .slice A n c, .slice A2 n2 c2]
  rw [World.size_alloc] at hk2
  have hB0 : Below w.heap.size w ((w.alloc (.cells #[.string s1, .string s2, .int .i64 st, .slice (some ⟨g1, 0, none⟩) n (n + 1), .slice (some ⟨g2, 0, none⟩) n2 (n2 + 1)] 25)).alloc (.cells #[.string s1, .string s2, .int .i64 st, .slice A n c, .slice A2 n2 c2] 25)) := ((Below.refl _ _).alloc (Nat.le_refl _) _).alloc (by simp) _
  generalize (w.alloc (.cells #[.string s1, .string s2, .int .i64 st, .slice (some ⟨g1, 0, none⟩) n (n + 1), .slice (some ⟨g2, 0, none⟩) n2 (n2 + 1)] 25)).alloc (.cells #[.string s1, .string s2, .int .i64 st, .slice A n c, .slice A2 n2 c2] 25) = W0 at *
  refine (H1.out _ hB0).mono ?_
  rintro e w1 ⟨rfl, hb1⟩
  have c1 := (hk1.below hb1 hk1.lt).cell 4
  have c2 := (hk2.below hb1 hk2.lt).cell 4
  simp at c1 c2
  have hB1 := hB0.trans (hb1.mono hB0.size)
  clear hk1 hk2 hb1 hB0
  go_wp2_with fail
  refine (H2.out _ hB1).mono ?_
  rintro e w2 ⟨rfl, hb2⟩
  have hB2 := hB1.trans (hb2.mono hB1.size)
  clear hb2
  go_wp2_with fail
  go_ret
  exact ⟨rfl, hB2⟩
set_option maxRecDepth 100000 in
theorem bookm_ok (Bs g nb : Nat) (vb vt vf : Value) (hs hs2 : List (Value × Nat)) (s1 s2 : ByteArray) (st : Int) (A A2 : Option Addr) (n c n2 c2 : Nat) (xs ys : List Value) (w : World) (hnb : nb ≤ 10000) (hN : hs.length ≤ 10000) (hN2 : hs2.length ≤ 10000) (hBs : Bs ≤ g)
    (hB : Blk w g 42 #[.int .i64 nb, vb, .slice none 0 0, vt, vf, .slice none 0 0, .slice none 0 0, .slice none 0 0, .slice none 0 0])
    (hk : Kind w Bs 63 181 2 vf hs false mkField) (hk2 : Kind w Bs 5 174 1 vb hs2 false mkByte)
    (hl : w.ownsRow Bs 63 2 (.slice A n c) n xs) (hl2 : w.ownsRow Bs 5 1 (.slice A2 n2 c2) n2 ys) :
   Calls Tryz.prog 28 #[.pointer (some ⟨g, 0, none⟩), .agg #[.string s1, .string s2, .int .i64 st, .slice A n c, .slice A2 n2 c2]] w fun e w' => e = .returned (.tuple #[]) ∧
      ∃ vf' vb', Blk w' g 42 #[.int .i64 (nb + 1 + 1 : Nat), vb', .slice none 0 0, vt, vf', .slice none 0 0, .slice none 0 0, .slice none 0 0, .slice none 0 0] ∧
        Kind w' Bs 63 181 2 vf' (hs ++ [(.slice A n c, nb + 1)]) false mkField ∧
        Kind w' Bs 5 174 1 vb' (hs2 ++ [(.slice A2 n2 c2, nb + 1 + 1)]) false mkByte ∧
        Below Bs w w' ∧ Tys [42, 181, 174] w w' := by
  have hal : Below w.heap.size w (w.alloc (.cells #[.string s1, .string s2, .int .i64 st, .slice A n c, .slice A2 n2 c2] 25)) := (Below.refl _ _).alloc (Nat.le_refl _) _
  have hK0 := Blk.new w 25 #[.string s1, .string s2, .int .i64 st, .slice A n c, .slice A2 n2 c2]
  have hgz := hB.lt
  have HB := Lib.hid (hB.alloc (.cells #[.string s1, .string s2, .int .i64 st, .slice A n c, .slice A2 n2 c2] 25))
  have HK := Lib.hid (Kind.tys hk (Tys.of_below [] hal) (by simp) (by simp))
  have HK2 := Lib.hid (Kind.tys hk2 (Tys.of_below [] hal) (by simp) (by simp))
  have HL := Lib.hid (own_below hl hal)
  have HL2 := Lib.hid (own_below hl2 hal)
  have hty0 : Tys [42, 181, 174] w (w.alloc (.cells #[.string s1, .string s2, .int .i64 st, .slice A n c, .slice A2 n2 c2] 25)) := Tys.of_below _ hal
  have hbl0 : Below Bs w (w.alloc (.cells #[.string s1, .string s2, .int .i64 st, .slice A n c, .slice A2 n2 c2] 25)) := hal.mono (by omega)
  have HY := Lib.hid hty0
  have HE := Lib.hid hbl0
  have K0 := Lib.hid hK0
  clear hB hk hk2 hl hl2 hal hty0 hbl0 hK0
  go_enter Tryz.func28, Tryz.ntmps28
  go_wp2_with fail
  generalize w.alloc (.cells #[.string s1, .string s2, .int .i64 st, .slice A n c, .slice A2 n2 c2] 25) = W0 at *
  refine (addfield_ok Bs g nb vb vt vf hs A n c xs W0 (by omega) (by omega) hBs HB.out HK.out HL.out).mono ?_
  rintro e w1 ⟨rfl, vf', q1, q2, q3, q4⟩
  have c4 := (blk_tys K0.out q4 (by decide)).cell 4
  simp at c4
  have HB1 := Lib.hid q1
  have HK1 := Lib.hid q2
  have HK21 := Lib.hid (HK2.out.tys q4 (by decide) (by decide))
  have HL21 := Lib.hid (own_tys HL2.out q4 (by decide))
  have HE1 := Lib.hid (HE.out.trans q3)
  have HY1 := Lib.hid (HY.out.trans (q4.mono (by simp)))
  clear q1 q2 q3 q4
  go_wp2_with fail
  refine (addbyte_ok Bs g (nb + 1) vb vt vf' hs2 A2 n2 c2 ys w1 (by omega) (by omega) hBs HB1.out HK21.out HL21.out).mono ?_
  rintro e w2 ⟨rfl, vb', q1, q2, q3, q4⟩
  have HH := Lib.hid (And.intro q1 (And.intro (HK1.out.tys q4 (by decide) (by decide)) (And.intro q2 (And.intro (HE1.out.trans q3) (HY1.out.trans (q4.mono (by simp)))))))
  clear q1 q2 q3 q4 c4
  go_wp2_with fail
  go_end0
  exact ⟨rfl, vf', vb', HH.out⟩
end Go.Proofs.YtonlfplloenfcaaGreatDoor
