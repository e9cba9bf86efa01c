/-
  TwinMessage, LeftMessage, Book.Message.
-/
import Derived.Test.YtonlfplloenfcaaGreatDoorSameEtc
import Derived.Test.YtonlfplloenfcaaGreatDoorTwinEtc
import Derived.Test.YtonlfplloenfcaaGreatDoorTysEtc
import Derived.Deep.RegionHeld3
import Derived.Deep.DrawnRows
namespace Go.Proofs.YtonlfplloenfcaaGreatDoor
open Go.RowKit
attribute [local go_sem ↓] Go.wp_at_zero Go.wp_at_succ

theorem infoM : (Tryz.prog.info? 25).map (·.size) = some 5 := by kernel_rfl
/-- Five cells stored, one by one. -/
theorem set_five {w : World} {g : Nat} {t : TypeId} {a b c d e : Value} (h : Blk w g t #[a, b, c, d, e]) (v0 v1 v2 v3 v4 : Value) :
    ∃ W, ((((w.setCell ⟨g, 0, none⟩ v0).setCell ⟨g, 1, none⟩ v1).setCell ⟨g, 2, none⟩ v2).setCell ⟨g, 3, none⟩ v3).setCell ⟨g, 4, none⟩ v4 = W ∧
      Blk W g t #[v0, v1, v2, v3, v4] ∧ Tys [t] w W ∧ (∀ B, B ≤ g → Below B w W) ∧ W.heap.size = w.heap.size := by
  have h1 : Blk (w.setCell ⟨g, 0, none⟩ v0) g t #[v0, b, c, d, e] := by simpa using h.set_ 0 v0
  have h2 : Blk ((w.setCell ⟨g, 0, none⟩ v0).setCell ⟨g, 1, none⟩ v1) g t #[v0, v1, c, d, e] := by simpa using h1.set_ 1 v1
  have h3 : Blk (((w.setCell ⟨g, 0, none⟩ v0).setCell ⟨g, 1, none⟩ v1).setCell ⟨g, 2, none⟩ v2) g t #[v0, v1, v2, d, e] := by simpa using h2.set_ 2 v2
  have h4 : Blk ((((w.setCell ⟨g, 0, none⟩ v0).setCell ⟨g, 1, none⟩ v1).setCell ⟨g, 2, none⟩ v2).setCell ⟨g, 3, none⟩ v3) g t #[v0, v1, v2, v3, e] := by simpa using h3.set_ 3 v3
  refine ⟨_, rfl, by simpa using h4.set_ 4 v4, ?_, fun B hB => ?_, by simp [World.setCell]⟩
  · exact (((((Tys.refl _ _).setCell (p := ⟨g, 0, none⟩) h.heap (by simp) _).setCell (p := ⟨g, 1, none⟩) h1.heap (by simp) _).setCell (p := ⟨g, 2, none⟩) h2.heap (by simp) _).setCell (p := ⟨g, 3, none⟩) h3.heap (by simp) _).setCell (p := ⟨g, 4, none⟩) h4.heap (by simp) _
  · exact (((((Below.refl _ _).setCell (p := ⟨g, 0, none⟩) hB _).setCell (p := ⟨g, 1, none⟩) hB _).setCell (p := ⟨g, 2, none⟩) hB _).setCell (p := ⟨g, 3, none⟩) hB _).setCell (p := ⟨g, 4, none⟩) hB _
set_option maxRecDepth 100000 in
theorem twinm_any (s1 s2 : ByteArray) (st : Int) (A A2 : Option Addr) (n c n2 c2 : Nat) (fs : List Fd) (l : List UInt8) (w : World) (h : FRead w w.heap.size A n fs) (hn : n ≤ 100000)
    (h2 : Lies w w.heap.size A2 n2 (Lib.byteCells l)) (hn2 : n2 ≤ 140737488350000) :
   Calls Tryz.prog 23 #[.agg #[.string s1, .string s2, .int .i64 st, .slice A n c, .slice A2 n2 c2]] w fun e w' => ∃ g1 g2 : Nat,
     e = .returned (.agg #[.string s1, .string s2, .int .i64 st, .slice (some ⟨g1, 0, none⟩) n (n + 1), .slice (some ⟨g2, 0, none⟩) n2 (n2 + 1)]) ∧
     w'.ownsRow w.heap.size 63 2 (.slice (some ⟨g1, 0, none⟩) (n + 1) (n + 1)) (n + 1) (fcells fs ++ [.string ⟨#[115, 112, 97, 114, 101]⟩, .string ⟨#[]⟩]) ∧
     w'.ownsRow w.heap.size 5 1 (.slice (some ⟨g2, 0, none⟩) (n2 + 1) (n2 + 1)) (n2 + 1) (Lib.byteCells l ++ [.int .u8 77]) ∧ Below w.heap.size w w' := by
  have HF := Lib.hid (fun (W : World) (hb : Below w.heap.size w W) => (h.below hb).more hb.size)
  have HL := Lib.hid (fun (W : World) (hb : Below w.heap.size w W) => (h2.below hb).more hb.size)
  clear h h2
  go_enter Tryz.func23, Tryz.ntmps23
  go_wp2_with fail
  have hk1 := (Blk.new w 25 #[.string s1, .string s2, .int .i64 st, .slice A n c, .slice A2 n2 c2]).alloc (.cells #[.string ⟨#[]⟩, .string ⟨#[]⟩, .int .i64 0, .slice none 0 0, .slice none 0 0] 25)
  have hk2 := Blk.new (w.alloc (.cells #[.string s1, .string s2, .int .i64 st, .slice A n c, .slice A2 n2 c2] 25)) 25 #[.string ⟨#[]⟩, .string ⟨#[]⟩, .int .i64 0, .slice none 0 0, .slice none 0 0]
  rw [World.size_alloc] at hk2
  have hB0 : Below w.heap.size w ((w.alloc (.cells #[.string s1, .string s2, .int .i64 st, .slice A n c, .slice A2 n2 c2] 25)).alloc (.cells #[.string ⟨#[]⟩, .string ⟨#[]⟩, .int .i64 0, .slice none 0 0, .slice none 0 0] 25)) := ((Below.refl _ _).alloc (Nat.le_refl _) _).alloc (by simp) _
  have hz0 : w.heap.size + 1 < ((w.alloc (.cells #[.string s1, .string s2, .int .i64 st, .slice A n c, .slice A2 n2 c2] 25)).alloc (.cells #[.string ⟨#[]⟩, .string ⟨#[]⟩, .int .i64 0, .slice none 0 0, .slice none 0 0] 25)).heap.size := by simp
  generalize (w.alloc (.cells #[.string s1, .string s2, .int .i64 st, .slice A n c, .slice A2 n2 c2] 25)).alloc (.cells #[.string ⟨#[]⟩, .string ⟨#[]⟩, .int .i64 0, .slice none 0 0, .slice none 0 0] 25) = W0 at *
  have key : ∀ W, Below W0.heap.size W0 W → (W.cell? ⟨w.heap.size, 0, none⟩ = some (.string s1) ∧ W.cell? ⟨w.heap.size, 1, none⟩ = some (.string s2) ∧ W.cell? ⟨w.heap.size, 2, none⟩ = some (.int .i64 st) ∧ W.cell? ⟨w.heap.size, 3, none⟩ = some (.slice A n c) ∧ W.cell? ⟨w.heap.size, 4, none⟩ = some (.slice A2 n2 c2)) := fun W hW => by
    have hb := hk1.below hW (by omega)
    exact ⟨hb.cell 0, hb.cell 1, hb.cell 2, hb.cell 3, hb.cell 4⟩
  have hS0 := key _ (Below.refl _ _)
  have KEY := Lib.hid key
  have K2 := Lib.hid hk2
  have B0 := Lib.hid hB0
  clear key hk1 hk2 hB0
  go_region_held3 (fun W => W.cell? ⟨w.heap.size, 0, none⟩ = some (.string s1) ∧ W.cell? ⟨w.heap.size, 1, none⟩ = some (.string s2) ∧ W.cell? ⟨w.heap.size, 2, none⟩ = some (.int .i64 st) ∧ W.cell? ⟨w.heap.size, 3, none⟩ = some (.slice A n c) ∧ W.cell? ⟨w.heap.size, 4, none⟩ = some (.slice A2 n2 c2))
    (first | go_keep | exact KEY.out _ (by assumption))
    (first
      | (go_at_call 67; refine (twinf_any A n c fs _ (HF.out _ B0.out.drew) hn).mono ?_; rintro e w1 ⟨rfl, ho1, hb1⟩; replace hb1 := below_undrew hb1)
      | (go_at_call 31; refine (twinb_any A2 n2 c2 l _ (HL.out _ (B0.out.trans (hb1.mono B0.out.size))) hn2).mono ?_; rintro e w2 ⟨rfl, ho2, hb2⟩; have hb12 := hb1.trans (hb2.mono hb1.size); have hk3 := K2.out.below hb12 hz0; have q0 := hk3.cell 0; have q1 := hk3.cell 1; have q2 := hk3.cell 2; have q3 := hk3.cell 3; have q4 := hk3.cell 4; have f0 := hk3.frozen 0; have f1 := hk3.frozen 1; have f2 := hk3.frozen 2; have f3 := hk3.frozen 3; have f4 := hk3.frozen 4))
  all_goals
    have hB2 : Below w.heap.size w w2 := B0.out.trans (hb12.mono B0.out.size)
    obtain ⟨W5, hW5, hk5, ht5, hb5, _⟩ := set_five hk3 (.string s1) (.string s2) (.int .i64 st) (.slice (some ⟨W0.heap.size, 0, none⟩) n (n + 1)) (.slice (some ⟨w1.heap.size, 0, none⟩) n2 (n2 + 1))
    rw [hW5]
    have o1 := own_tys (own_below (ownsRow_base ho1 (show w.heap.size ≤ W0.heap.size from B0.out.size)) hb2) ht5 (by decide)
    have o2 := own_tys (ownsRow_base ho2 (show w.heap.size ≤ w1.heap.size from Nat.le_trans B0.out.size hb1.size)) ht5 (by decide)
    have hB5 := hB2.trans (hb5 w.heap.size (by omega))
    clear hW5 ht5 hb5 hb12 hk3 q0 q1 q2 q3 q4 f0 f1 f2 f3 f4 hb2 ho1 ho2 hb1 hS0
    have HK5 := Lib.hid hk5
    have O1 := Lib.hid o1
    have O2 := Lib.hid o2
    have B5 := Lib.hid hB5
    clear hk5 o1 o2 hB5
    go_wp2_with fail
    exact bodyPost_ret (results_cell_row rfl _ _ (w.heap.size + 1) 25 _ (0, 0) _ rfl HK5.out Tryz.underlying25 rfl infoM) rfl ⟨_, _, rfl, O1.out, O2.out, B5.out⟩
end Go.Proofs.YtonlfplloenfcaaGreatDoor
