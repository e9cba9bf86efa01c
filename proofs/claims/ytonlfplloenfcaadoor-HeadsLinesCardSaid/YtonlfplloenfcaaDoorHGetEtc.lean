/-
  heads.Get: a response's head.
  footmanlaw12.bad: are bytes refused, as a response's head, by an error?
-/
import Derived.Test.YtonlfplloenfcaaDoorKGet
import Derived.Test.YtonlfplloenfcaaDoorResponse
import Derived.Test.YtonlfplloenfcaaDoorReadFactsEtc
import Derived.Test.YtonlfplloenfcaaDoorAscii
namespace Go.Proofs.YtonlfplloenfcaaDoor
open Go.RowKit
attribute [local go_sem] Oper.semAt_some

theorem enters_response : ∀ args w, (callFunc 88 args).run Tryd.prog w = .ok (.enter 88 args) w := enters_of Tryd.func88 (by kernel_rfl) rfl
set_option maxRecDepth 100000 in
theorem hget_any (b off n c : Nat) (l : List UInt8) (w : World) (h : Lies w w.heap.size (some ⟨b, off, none⟩) n (Lib.byteCells l)) (hc : n ≤ c) (hn : n ≤ 2000000) (hm : MaxOk w) (hmg : maxG < w.heap.size) (he : ErrOk w) (heg : errG < w.heap.size) :
    Calls Tryd.prog 60 #[.slice (some ⟨b, off, none⟩) n c] w (ReadPost statusK l w) := by
  have hk0 := Blk.new w 26 #[.string ⟨#[]⟩, .string ⟨#[]⟩, .int .i64 0, .slice none 0 0, .slice none 0 0]
  have hB0 : Below w.heap.size w (w.alloc (.cells #[.string ⟨#[]⟩, .string ⟨#[]⟩, .int .i64 0, .slice none 0 0, .slice none 0 0] 26)) := (Below.refl _ _).alloc (Nat.le_refl _) _
  have hz0 : w.heap.size < (w.alloc (.cells #[.string ⟨#[]⟩, .string ⟨#[]⟩, .int .i64 0, .slice none 0 0, .slice none 0 0] 26)).heap.size := by simp
  have HG := Lib.hid (callsIn_wide.1 (kget_any statusK 88 enters_response (fun w => ErrOk w ∧ errG < w.heap.size) (fun s g w h1 _ h2 h3 => response_any s g w h1 h2.1 h2.2 h3) b off n c l _ ((h.below hB0).more hB0.size) hc hn (hm.below hB0 hmg) (Nat.lt_trans hmg hz0) (fun W hW => ⟨(he.below hB0 heg).below hW (Nat.lt_trans heg hz0), Nat.lt_of_lt_of_le (Nat.lt_trans heg hz0) hW.size⟩)))
  have K0 := Lib.hid hk0
  have B0 := Lib.hid hB0
  clear hk0 hB0 h hm he
  go_enter Tryd.func60, Tryd.ntmps60
  go_wp2_with fail
  refine (HG.out).mono ?_
  generalize w.alloc (.cells #[.string ⟨#[]⟩, .string ⟨#[]⟩, .int .i64 0, .slice none 0 0, .slice none 0 0] 26) = W1 at *
  rintro e w1 ⟨⟨v, rfl, hown⟩, hb1⟩
  obtain ⟨A, cA, rfl⟩ := own_form hown
  have K1 := Lib.hid (K0.out.below hb1 hz0)
  have HO := Lib.hid (ownsRow_base hown B0.out.size)
  have HB := Lib.hid (B0.out.trans (hb1.mono B0.out.size))
  clear hown hb1 HG
  have c0 := K1.out.cell 0
  have c1 := K1.out.cell 1
  have c2 := K1.out.cell 2
  have c3 := K1.out.cell 3
  have c4 := K1.out.cell 4
  simp at c0 c1 c2 c3 c4
  have f0 := K1.out.frozen 0
  have f1 := K1.out.frozen 1
  have f2 := K1.out.frozen 2
  have f3 := K1.out.frozen 3
  have f4 := K1.out.frozen 4
  go_wp2_with fail
  obtain ⟨W5, hW5, hk5, ht5, hb5, _⟩ := set_five K1.out (.string (gM statusK l)) (.string (gT statusK l)) (.int .i64 (gS statusK l)) (.slice A (gF statusK l).length cA) (.slice none 0 0)
  rw [hW5]
  refine bodyPost_ret (results_row_tmp2 rfl _ _ w.heap.size 26 _ (0, 0) _ rfl hk5 Tryd.underlying26 rfl infoM) rfl ?_
  exact ⟨⟨_, rfl, own_tys HO.out ht5 (by decide)⟩, HB.out.trans (hb5 w.heap.size (Nat.le_refl _))⟩
end Go.Proofs.YtonlfplloenfcaaDoor
namespace Go.Proofs.YtonlfplloenfcaaDoor
open Go.RowKit

theorem str_bytes (s : ByteArray) (w : World) : Lies (Lib.bytesWorld w 5 s) (Lib.bytesWorld w 5 s).heap.size (some ⟨w.heap.size, 0, none⟩) s.size (Lib.byteCells s.data.toList) ∧ Below w.heap.size w (Lib.bytesWorld w 5 s) ∧ w.heap.size < (Lib.bytesWorld w 5 s).heap.size := by
  have hz : w.heap.size < (Lib.bytesWorld w 5 s).heap.size := by rw [Lib.bytesWorld_size]; omega
  refine ⟨⟨by simp [Lib.byteCells], fun h0 => ⟨_, _, rfl, hz, fun j u hu => ?_⟩⟩, bytesWorld_below _ _ _, hz⟩
  obtain ⟨x, hx, rfl⟩ := bytes_at hu
  have hj : j < s.size := (List.getElem?_eq_some_iff.1 hx).1
  rw [Nat.zero_add, Lib.bytesWorld_cell w _ s j hj]
  have : s.data.toList.getD j 0 = x := by unfold List.getD; rw [hx]; rfl
  rw [this]
theorem refused {K : Asks} {l : List UInt8} {z : Int} (h : gE K l = z) (hz : z ≠ 0) : gN K l = 0 ∧ gS K l = 0 ∧ gF K l = [] ∧ gM K l = ⟨#[]⟩ ∧ gT K l = ⟨#[]⟩ := by
  have hn : ¬ gE K l = 0 := by rw [h]; exact hz
  unfold gN gS gF gM gT
  rw [if_neg hn, if_neg hn, if_neg hn, if_neg hn, if_neg hn]
  exact ⟨rfl, rfl, rfl, rfl, rfl⟩

set_option maxRecDepth 100000 in
theorem bad_any (s : ByteArray) (z : Int) (w : World) (hs : s.size ≤ 200000) (hz : gE statusK s.data.toList = z) (hz0 : z ≠ 0) (hm : MaxOk w) (hmg : maxG < w.heap.size) (he : ErrOk w) (heg : errG < w.heap.size) :
    Calls Tryd.prog 23 #[.string s, .int .i64 z] w fun e w' => e = .returned (.bool true) ∧ Below w.heap.size w w' := by
  have hcv := fun W => Lib.run_convert_string_bytes (P := Tryd.prog) W 9 24 5 s Tryd.underlying9 Tryd.underlying24 Tryd.underlying5
  obtain ⟨hL, hB, hlt⟩ := str_bytes s w
  have hcap : s.size ≤ grownCap w s.size 0 5 := grownCap_ge _ _ _ _
  have HG := Lib.hid (hget_any w.heap.size 0 s.size (grownCap w s.size 0 5) s.data.toList (Lib.bytesWorld w 5 s) hL hcap (by omega) (hm.below hB hmg) (Nat.lt_trans hmg hlt) (he.below hB heg) (Nat.lt_trans heg hlt))
  have HB := Lib.hid hB
  obtain ⟨h1, h2, h3, h4, h5⟩ := refused hz hz0
  have HR := Lib.hid (And.intro h1 (And.intro h2 (And.intro h3 (And.intro h4 (And.intro h5 hz)))))
  clear hL hB hm he h1 h2 h3 h4 h5 hz
  go_enter Tryd.func23, Tryd.ntmps23
  go_wp2_with fail
  refine (HG.out).mono ?_
  rintro e w1 ⟨⟨v, rfl, hown⟩, hb1⟩
  obtain ⟨A, cA, rfl⟩ := own_form hown
  rw [HR.out.1, HR.out.2.1, HR.out.2.2.1, HR.out.2.2.2.1, HR.out.2.2.2.2.1, HR.out.2.2.2.2.2]
  have HB1 := Lib.hid (HB.out.trans (hb1.mono (Nat.le_of_lt hlt)))
  clear hown hb1 hcv
  go_wp2_with fail
  go_ret
  exact ⟨rfl, HB1.out.alloc HB1.out.size _⟩
end Go.Proofs.YtonlfplloenfcaaDoor
