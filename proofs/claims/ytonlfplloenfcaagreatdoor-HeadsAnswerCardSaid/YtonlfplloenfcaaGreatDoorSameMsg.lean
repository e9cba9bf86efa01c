/-
  SameFields, SameMessage, at what makes them true.
-/
import Derived.Test.YtonlfplloenfcaaGreatDoorSameEtc
import Derived.Test.YtonlfplloenfcaaGreatDoorMsg
namespace Go.Proofs.YtonlfplloenfcaaGreatDoor
open Go.RowKit

set_option maxRecDepth 100000 in
theorem samefields_any (A A2 : Option Addr) (n c c2 B : Nat) (fs : List Fd) (w : World) (h1 : FRead w B A n fs) (h2 : FRead w B A2 n fs) (hn : n ≤ 140737488355328) :
   Calls Tryz.prog 45 #[.slice A n c, .slice A2 n c2] w fun e w' => e = .returned (.bool true) ∧ ∃ q, w' = w.drewN q := by
  have H1 := Lib.hid h1
  have H2 := Lib.hid h2
  clear h1 h2
  go_enter Tryz.func45, Tryz.ntmps45
  go_wp2_with fail
  go_loopw [5] (fun i wr => ∃ k : Nat, k ≤ n ∧ i = .int .i64 k ∧ ∃ q, wr = w.drewN q) (fun i _ => n - (intOf i).toNat)
  case atStart => exact ⟨0, Nat.zero_le _, rfl, 0, rfl⟩
  case round =>
    obtain ⟨k, hk, rfl, q, rfl⟩ := hrel
    by_cases hlt : k < n
    · obtain ⟨hl1, hc1⟩ := H1.out
      obtain ⟨b1, o1, rfl, _, hc1⟩ := hc1 (by omega)
      obtain ⟨hl2, hc2⟩ := H2.out
      obtain ⟨b2, o2, rfl, _, hc2⟩ := hc2 (by omega)
      obtain ⟨f, hf⟩ : ∃ f, fs[k]? = some f := ⟨fs[k]'(by omega), List.getElem?_eq_getElem (by omega)⟩
      have c1 := (hc1 k f hf).1
      have c2 := (hc1 k f hf).2
      have c3 := (hc2 k f hf).1
      have c4 := (hc2 k f hf).2
      clear hc1 hc2 hl1 hl2 hf
      obtain ⟨f1, f2⟩ := f
      simp only at c1 c2 c3 c4
      go_wp2_with fail
      go_quiet (fail)
      go_wp2_with fail
      go_roundw
      case rel => exact ⟨k + 1, by omega, by go_num, _, rfl⟩
      case measure => simp [intOf]; omega
    · go_wp2_with fail
      go_ret
      exact ⟨rfl, _, rfl⟩
set_option maxRecDepth 100000 in
theorem samem_any (s1 s2 : ByteArray) (st : Int) (A A2 C C2 : Option Addr) (n c c2 k d d2 B : Nat) (fs : List Fd) (l : List UInt8) (w : World) (hB : B ≤ w.heap.size) (a1 : FRead w B A n fs) (a2 : FRead w B A2 n fs) (hn : n ≤ 140737488355328)
    (b1 : Lies w B C k (Lib.byteCells l)) (b2 : Lies w B C2 k (Lib.byteCells l)) (hk : k ≤ 140737488355328) :
   Calls Tryz.prog 34 #[.agg #[.string s1, .string s2, .int .i64 st, .slice A n c, .slice C k d], .agg #[.string s1, .string s2, .int .i64 st, .slice A2 n c2, .slice C2 k d2]] w
     fun e w' => e = .returned (.bool true) ∧ Below w.heap.size w w' := by
  have H1 := Lib.hid (fun (W : World) (hb : Below w.heap.size w W) => samefields_any A A2 n c c2 B fs W (a1.below (hb.mono hB)) (a2.below (hb.mono hB)) hn)
  have H2 := Lib.hid (fun (W : World) (hb : Below w.heap.size w W) => samebytes_any C C2 k d d2 B l W (b1.below (hb.mono hB)) (b2.below (hb.mono hB)) hk)
  clear a1 a2 b1 b2
  go_enter Tryz.func34, Tryz.ntmps34
  go_wp2_with fail
  have hk1 := (Blk.new w 25 #[.string s1, .string s2, .int .i64 st, .slice A n c, .slice C k d]).alloc (.cells #[.string s1, .string s2, .int .i64 st, .slice A2 n c2, .slice C2 k d2] 25)
  have hk2 := Blk.new (w.alloc (.cells #[.string s1, .string s2, .int .i64 st, .slice A n c, .slice C k d] 25)) 25 #[.string s1, .string s2, .int .i64 st, .slice A2 n c2, .slice C2 k d2]
  rw [World.size_alloc] at hk2
  have hB0 : Below w.heap.size w ((w.alloc (.cells #[.string s1, .string s2, .int .i64 st, .slice A n c, .slice C k d] 25)).alloc (.cells #[.string s1, .string s2, .int .i64 st, .slice A2 n c2, .slice C2 k d2] 25)) := ((Below.refl _ _).alloc (Nat.le_refl _) _).alloc (by simp) _
  generalize (w.alloc (.cells #[.string s1, .string s2, .int .i64 st, .slice A n c, .slice C k d] 25)).alloc (.cells #[.string s1, .string s2, .int .i64 st, .slice A2 n c2, .slice C2 k d2] 25) = W0 at *
  refine (H1.out _ hB0).mono ?_
  rintro e w1 ⟨rfl, q, rfl⟩
  have c1 := (hk1.drewN q).cell 4
  have c2 := (hk2.drewN q).cell 4
  simp at c1 c2
  have hB1 := below_drewN hB0 q
  have HB0 := Lib.hid hB0
  clear hk1 hk2 hB0
  go_wp2_with fail
  refine (H2.out _ hB1).mono ?_
  rintro e w2 ⟨rfl, q2, rfl⟩
  clear hB1
  go_wp2_with fail
  go_ret
  exact ⟨rfl, below_drewN HB0.out _⟩
end Go.Proofs.YtonlfplloenfcaaGreatDoor
