/-
  heads.Request: a request's head.
  heads.Get: a response's head.
  footmanlaw12.bad: are bytes refused, as a response's head, by an error?
  heads.kind.get, heads.Get, heads.Request, at any slice, nil too.
-/
import Derived.Test.YtonlfplloenfcaaGreatDoorKGet
import Derived.Test.YtonlfplloenfcaaGreatDoorResponse
import Derived.Test.YtonlfplloenfcaaGreatDoorNamesEtc
import Derived.Test.YtonlfplloenfcaaGreatDoorResultsEtc
namespace Go.Proofs.YtonlfplloenfcaaGreatDoor
open Go.RowKit
attribute [local go_sem] Oper.semAt_some

theorem enters_request : ∀ args w, (callFunc 106 args).run Tryz.prog w = .ok (.enter 106 args) w := enters_of Tryz.func106 (by kernel_rfl) rfl
set_option maxRecDepth 100000 in
theorem hrequest_any (b off n c : Nat) (l : List UInt8) (w : World) (h : Lies w w.heap.size (some ⟨b, off, none⟩) n (Lib.byteCells l)) (hc : n ≤ c) (hn : n ≤ 2000000) (hm : MaxOk w) (hmg : maxG < w.heap.size) :
    Calls Tryz.prog 32 #[.slice (some ⟨b, off, none⟩) n c] w (ReadPost askK l w) := by
  have hk0 := Blk.new w 25 #[.string ⟨#[]⟩, .string ⟨#[]⟩, .int .i64 0, .slice none 0 0, .slice none 0 0]
  have hB0 : Below w.heap.size w (w.alloc (.cells #[.string ⟨#[]⟩, .string ⟨#[]⟩, .int .i64 0, .slice none 0 0, .slice none 0 0] 25)) := (Below.refl _ _).alloc (Nat.le_refl _) _
  have hz0 : w.heap.size < (w.alloc (.cells #[.string ⟨#[]⟩, .string ⟨#[]⟩, .int .i64 0, .slice none 0 0, .slice none 0 0] 25)).heap.size := by simp
  have HG := Lib.hid (callsIn_wide.1 (kget_any askK 106 enters_request (fun _ => True) (fun s g w h1 h2 _ h3 => request_any s g w h1 h2 h3) b off n c l _ ((h.below hB0).more hB0.size) hc hn (hm.below hB0 hmg) (Nat.lt_trans hmg hz0) (fun _ _ => trivial)))
  have K0 := Lib.hid hk0
  have B0 := Lib.hid hB0
  clear hk0 hB0 h hm
  go_enter Tryz.func32, Tryz.ntmps32
  go_wp2_with fail
  refine (HG.out).mono ?_
  generalize w.alloc (.cells #[.string ⟨#[]⟩, .string ⟨#[]⟩, .int .i64 0, .slice none 0 0, .slice none 0 0] 25) = W1 at *
  rintro e w1 ⟨⟨v, rfl, hown⟩, hb1⟩
  obtain ⟨A, cA, rfl⟩ := own_form hown
  have K1 := Lib.hid (K0.out.below hb1 hz0)
  have HO := Lib.hid (ownsRow_base hown B0.out.size)
  have HB := Lib.hid (B0.out.trans (hb1.mono B0.out.size))
  clear hown hb1 HG
  have c0 := K1.out.cell 0
  have c1 := K1.out.cell 1
  have c2 := K1.out.cell 2
  have c3 := K1.out.cell 3
  have c4 := K1.out.cell 4
  simp at c0 c1 c2 c3 c4
  have f0 := K1.out.frozen 0
  have f1 := K1.out.frozen 1
  have f2 := K1.out.frozen 2
  have f3 := K1.out.frozen 3
  have f4 := K1.out.frozen 4
  go_wp2_with fail
  obtain ⟨W5, hW5, hk5, ht5, hb5, _⟩ := set_five K1.out (.string (gM askK l)) (.string (gT askK l)) (.int .i64 (gS askK l)) (.slice A (gF askK l).length cA) (.slice none 0 0)
  rw [hW5]
  refine bodyPost_ret (results_row_tmp2 rfl _ _ w.heap.size 25 _ (0, 0) _ rfl hk5 Tryz.underlying25 rfl infoM) rfl ?_
  exact ⟨⟨_, rfl, own_tys HO.out ht5 (by decide)⟩, HB.out.trans (hb5 w.heap.size (Nat.le_refl _))⟩
end Go.Proofs.YtonlfplloenfcaaGreatDoor
namespace Go.Proofs.YtonlfplloenfcaaGreatDoor
open Go.RowKit
attribute [local go_sem] Oper.semAt_some

theorem enters_response : ∀ args w, (callFunc 115 args).run Tryz.prog w = .ok (.enter 115 args) w := enters_of Tryz.func115 (by kernel_rfl) rfl
set_option maxRecDepth 100000 in
theorem hget_any (b off n c : Nat) (l : List UInt8) (w : World) (h : Lies w w.heap.size (some ⟨b, off, none⟩) n (Lib.byteCells l)) (hc : n ≤ c) (hn : n ≤ 2000000) (hm : MaxOk w) (hmg : maxG < w.heap.size) (he : ErrOk w) (heg : errG < w.heap.size) :
    Calls Tryz.prog 38 #[.slice (some ⟨b, off, none⟩) n c] w (ReadPost statusK l w) := by
  have hk0 := Blk.new w 25 #[.string ⟨#[]⟩, .string ⟨#[]⟩, .int .i64 0, .slice none 0 0, .slice none 0 0]
  have hB0 : Below w.heap.size w (w.alloc (.cells #[.string ⟨#[]⟩, .string ⟨#[]⟩, .int .i64 0, .slice none 0 0, .slice none 0 0] 25)) := (Below.refl _ _).alloc (Nat.le_refl _) _
  have hz0 : w.heap.size < (w.alloc (.cells #[.string ⟨#[]⟩, .string ⟨#[]⟩, .int .i64 0, .slice none 0 0, .slice none 0 0] 25)).heap.size := by simp
  have HG := Lib.hid (callsIn_wide.1 (kget_any statusK 115 enters_response (fun w => ErrOk w ∧ errG < w.heap.size) (fun s g w h1 _ h2 h3 => response_any s g w h1 h2.1 h2.2 h3) b off n c l _ ((h.below hB0).more hB0.size) hc hn (hm.below hB0 hmg) (Nat.lt_trans hmg hz0) (fun W hW => ⟨(he.below hB0 heg).below hW (Nat.lt_trans heg hz0), Nat.lt_of_lt_of_le (Nat.lt_trans heg hz0) hW.size⟩)))
  have K0 := Lib.hid hk0
  have B0 := Lib.hid hB0
  clear hk0 hB0 h hm he
  go_enter Tryz.func38, Tryz.ntmps38
  go_wp2_with fail
  refine (HG.out).mono ?_
  generalize w.alloc (.cells #[.string ⟨#[]⟩, .string ⟨#[]⟩, .int .i64 0, .slice none 0 0, .slice none 0 0] 25) = W1 at *
  rintro e w1 ⟨⟨v, rfl, hown⟩, hb1⟩
  obtain ⟨A, cA, rfl⟩ := own_form hown
  have K1 := Lib.hid (K0.out.below hb1 hz0)
  have HO := Lib.hid (ownsRow_base hown B0.out.size)
  have HB := Lib.hid (B0.out.trans (hb1.mono B0.out.size))
  clear hown hb1 HG
  have c0 := K1.out.cell 0
  have c1 := K1.out.cell 1
  have c2 := K1.out.cell 2
  have c3 := K1.out.cell 3
  have c4 := K1.out.cell 4
  simp at c0 c1 c2 c3 c4
  have f0 := K1.out.frozen 0
  have f1 := K1.out.frozen 1
  have f2 := K1.out.frozen 2
  have f3 := K1.out.frozen 3
  have f4 := K1.out.frozen 4
  go_wp2_with fail
  obtain ⟨W5, hW5, hk5, ht5, hb5, _⟩ := set_five K1.out (.string (gM statusK l)) (.string (gT statusK l)) (.int .i64 (gS statusK l)) (.slice A (gF statusK l).length cA) (.slice none 0 0)
  rw [hW5]
  refine bodyPost_ret (results_row_tmp2 rfl _ _ w.heap.size 25 _ (0, 0) _ rfl hk5 Tryz.underlying25 rfl infoM) rfl ?_
  exact ⟨⟨_, rfl, own_tys HO.out ht5 (by decide)⟩, HB.out.trans (hb5 w.heap.size (Nat.le_refl _))⟩
end Go.Proofs.YtonlfplloenfcaaGreatDoor
namespace Go.Proofs.YtonlfplloenfcaaGreatDoor
open Go.RowKit

theorem str_bytes (s : ByteArray) (w : World) : Lies (Lib.bytesWorld w 5 s) (Lib.bytesWorld w 5 s).heap.size (some ⟨w.heap.size, 0, none⟩) s.size (Lib.byteCells s.data.toList) ∧ Below w.heap.size w (Lib.bytesWorld w 5 s) ∧ w.heap.size < (Lib.bytesWorld w 5 s).heap.size := by
  have hz : w.heap.size < (Lib.bytesWorld w 5 s).heap.size := by rw [Lib.bytesWorld_size]; omega
  refine ⟨⟨by simp [Lib.byteCells], fun h0 => ⟨_, _, rfl, hz, fun j u hu => ?_⟩⟩, bytesWorld_below _ _ _, hz⟩
  obtain ⟨x, hx, rfl⟩ := bytes_at hu
  have hj : j < s.size := (List.getElem?_eq_some_iff.1 hx).1
  rw [Nat.zero_add, Lib.bytesWorld_cell w _ s j hj]
  have : s.data.toList.getD j 0 = x := by unfold List.getD; rw [hx]; rfl
  rw [this]
theorem refused {K : Asks} {l : List UInt8} {z : Int} (h : gE K l = z) (hz : z ≠ 0) : gN K l = 0 ∧ gS K l = 0 ∧ gF K l = [] ∧ gM K l = ⟨#[]⟩ ∧ gT K l = ⟨#[]⟩ := by
  have hn : ¬ gE K l = 0 := by rw [h]; exact hz
  unfold gN gS gF gM gT
  rw [if_neg hn, if_neg hn, if_neg hn, if_neg hn, if_neg hn]
  exact ⟨rfl, rfl, rfl, rfl, rfl⟩

set_option maxRecDepth 100000 in
theorem bad_any (s : ByteArray) (z : Int) (w : World) (hs : s.size ≤ 200000) (hz : gE statusK s.data.toList = z) (hz0 : z ≠ 0) (hm : MaxOk w) (hmg : maxG < w.heap.size) (he : ErrOk w) (heg : errG < w.heap.size) :
    Calls Tryz.prog 126 #[.string s, .int .i64 z] w fun e w' => e = .returned (.bool true) ∧ Below w.heap.size w w' := by
  have hcv := fun W => Lib.run_convert_string_bytes (P := Tryz.prog) W 9 23 5 s Tryz.underlying9 Tryz.underlying23 Tryz.underlying5
  obtain ⟨hL, hB, hlt⟩ := str_bytes s w
  have hcap : s.size ≤ grownCap w s.size 0 5 := grownCap_ge _ _ _ _
  have HG := Lib.hid (hget_any w.heap.size 0 s.size (grownCap w s.size 0 5) s.data.toList (Lib.bytesWorld w 5 s) hL hcap (by omega) (hm.below hB hmg) (Nat.lt_trans hmg hlt) (he.below hB heg) (Nat.lt_trans heg hlt))
  have HB := Lib.hid hB
  obtain ⟨h1, h2, h3, h4, h5⟩ := refused hz hz0
  have HR := Lib.hid (And.intro h1 (And.intro h2 (And.intro h3 (And.intro h4 (And.intro h5 hz)))))
  clear hL hB hm he h1 h2 h3 h4 h5 hz
  go_enter Tryz.func126, Tryz.ntmps126
  go_wp2_with fail
  refine (HG.out).mono ?_
  rintro e w1 ⟨⟨v, rfl, hown⟩, hb1⟩
  obtain ⟨A, cA, rfl⟩ := own_form hown
  rw [HR.out.1, HR.out.2.1, HR.out.2.2.1, HR.out.2.2.2.1, HR.out.2.2.2.2.1, HR.out.2.2.2.2.2]
  have HB1 := Lib.hid (HB.out.trans (hb1.mono (Nat.le_of_lt hlt)))
  clear hown hb1 hcv
  go_wp2_with fail
  go_ret
  exact ⟨rfl, HB1.out.alloc HB1.out.size _⟩
end Go.Proofs.YtonlfplloenfcaaGreatDoor
namespace Go.Proofs.YtonlfplloenfcaaGreatDoor
open Go.RowKit Go.Shelf
attribute [local go_sem] Oper.semAt_some

set_option maxRecDepth 100000 in
set_option maxHeartbeats 400000 in
theorem kget_nil (K : Asks) (fid : Nat) (c : Nat) (w : World) :
    CallsIn Fence.wide 9 Tryz.prog 107 #[.agg #[.func (.func fid) #[] #[]], .slice none 0 c] w (ReadPost K [] w) := by
  have h1 : 1 ≤ 9 := by omega
  refine callsIn_of_wp_marks Tryz.func107 rfl trivial ?_ rfl
  simp only [Tryz.ntmps107, List.size_toArray, List.length_cons, List.length_nil, Nat.reduceAdd, Nat.reduceSub, Array.replicate_succ, Array.replicate_zero, List.push_toArray, List.append_toArray, List.nil_append, List.cons_append]
  obtain ⟨W0, hW0, kF, kM, kN, kE, kB, hb0, hz0⟩ := boxes_new w 124 25 3 28 5 #[.func (.func fid) #[] #[]] #[.string ⟨#[]⟩, .string ⟨#[]⟩, .int .i64 0, .slice none 0 0, .slice none 0 0] #[.int .i64 0] #[.int .i64 0] #[.int .u8 13, .int .u8 10, .int .u8 13, .int .u8 10]
  have hcv := run_same_conv Tryz.underlying23 Tryz.underlying5 kB 4 4
  gi_wp2_with fail
  obtain ⟨W1, hW1⟩ : ∃ W1, frozenW W0 (w.heap.size + 1 + 1 + 1 + 1) 4 = W1 := ⟨_, rfl⟩
  have hb1 : Below w.heap.size w W1 := by rw [← hW1]; exact frozenW_below hb0 (by omega) _
  have hz1 : W1.heap.size = w.heap.size + 5 := by rw [← hW1, ← hz0]; simp [frozenW, World.freeze]
  have kF1 : Blk W1 w.heap.size 124 #[.func (.func fid) #[] #[]] := by rw [← hW1]; exact (frozenW_other (by omega)).trans kF
  have kM1 : Blk W1 (w.heap.size + 1) 25 #[.string ⟨#[]⟩, .string ⟨#[]⟩, .int .i64 0, .slice none 0 0, .slice none 0 0] := by rw [← hW1]; exact (frozenW_other (by omega)).trans kM
  have kN1 : Blk W1 (w.heap.size + 1 + 1) 3 #[.int .i64 0] := by rw [← hW1]; exact (frozenW_other (by omega)).trans kN
  have kE1 : Blk W1 (w.heap.size + 1 + 1 + 1) 28 #[.int .i64 0] := by rw [← hW1]; exact (frozenW_other (by omega)).trans kE
  have hc4 : ∀ k, W1.cell? ⟨w.heap.size + 1 + 1 + 1 + 1, k, none⟩ = (#[.int .u8 13, .int .u8 10, .int .u8 13, .int .u8 10] : Array Value)[k]? := fun k => by
    rw [← hW1]; exact cell_of_row _ _ _ _ _ _ (frozenW_heap kB)
  rw [hW1]
  clear hW1 hcv hW0 kF kM kN kE kB hb0 hz0
  have HI := Lib.hid (Any.bytes_Index_longer Tryz.lays185 none (some ⟨w.heap.size + 1 + 1 + 1 + 1, 0, none⟩) 0 c 4 4 W1 (by decide) (by decide) (by decide))
  refine ⟨trivial, (callsIn_wide.2 HI.out).mono ?_⟩
  rintro e w2 ⟨rfl, hw2⟩
  have hw2' := hw2.symm
  subst hw2'
  clear HI hc4 hw2
  have B2 := Lib.hid hb1
  have kF2 := kF1
  have kM2 := kM1
  have kN2 := kN1
  have kE2 := kE1
  clear hb1 kF1 kM1 kN1 kE1
  have c0 := kM2.cell 0
  have c1 := kM2.cell 1
  have c2 := kM2.cell 2
  have c3 := kM2.cell 3
  have c4 := kM2.cell 4
  simp at c0 c1 c2 c3 c4
  have f0 := kM2.frozen 0
  have f1 := kM2.frozen 1
  have f2 := kM2.frozen 2
  have f3 := kM2.frozen 3
  have f4 := kM2.frozen 4
  have cN := kN2.cell 0
  have cE := kE2.cell 0
  simp at cN cE
  have fN := kN2.frozen 0
  have fE := kE2.frozen 0
  have KM := Lib.hid kM2
  have KN := Lib.hid kN2
  have KE := Lib.hid kE2
  clear kF2 kM2 kN2 kE2 hz1
  gi_wp2_with fail
  obtain ⟨W9, hW9, k9, kn9, ke9, b9, _, _, _⟩ := set_seven B2.out KM.out KN.out KE.out (.string ⟨#[]⟩) (.string ⟨#[]⟩) (.int .i64 0) (.slice none 0 0) (.slice none 0 0) (.int .i64 0) (.int .i64 7)
  rw [hW9]
  refine ⟨_, results_row_cells rfl _ _ (w.heap.size + 1) (w.heap.size + 1 + 1) (w.heap.size + 1 + 1 + 1) 25 _ (0, 0) _ _ _ _ _ rfl k9 rfl rfl Tryz.underlying25 rfl infoM Tryz.underlying3 rfl (kn9.cell 0) Tryz.underlying28 rfl (ke9.cell 0), ?_⟩
  exact read_none (by rw [g_short (K := K) (show endAt [] < 0 by decide)]; rfl) (by decide) b9
set_option maxRecDepth 100000 in
set_option maxHeartbeats 400000 in
theorem kget_zero (K : Asks) (fid : Nat) (a : Addr) (c : Nat) (w : World) :
    CallsIn Fence.wide 9 Tryz.prog 107 #[.agg #[.func (.func fid) #[] #[]], .slice (some a) 0 c] w (ReadPost K [] w) := by
  have h1 : 1 ≤ 9 := by omega
  refine callsIn_of_wp_marks Tryz.func107 rfl trivial ?_ rfl
  simp only [Tryz.ntmps107, List.size_toArray, List.length_cons, List.length_nil, Nat.reduceAdd, Nat.reduceSub, Array.replicate_succ, Array.replicate_zero, List.push_toArray, List.append_toArray, List.nil_append, List.cons_append]
  obtain ⟨W0, hW0, kF, kM, kN, kE, kB, hb0, hz0⟩ := boxes_new w 124 25 3 28 5 #[.func (.func fid) #[] #[]] #[.string ⟨#[]⟩, .string ⟨#[]⟩, .int .i64 0, .slice none 0 0, .slice none 0 0] #[.int .i64 0] #[.int .i64 0] #[.int .u8 13, .int .u8 10, .int .u8 13, .int .u8 10]
  have hcv := run_same_conv Tryz.underlying23 Tryz.underlying5 kB 4 4
  gi_wp2_with fail
  obtain ⟨W1, hW1⟩ : ∃ W1, frozenW W0 (w.heap.size + 1 + 1 + 1 + 1) 4 = W1 := ⟨_, rfl⟩
  have hb1 : Below w.heap.size w W1 := by rw [← hW1]; exact frozenW_below hb0 (by omega) _
  have hz1 : W1.heap.size = w.heap.size + 5 := by rw [← hW1, ← hz0]; simp [frozenW, World.freeze]
  have kF1 : Blk W1 w.heap.size 124 #[.func (.func fid) #[] #[]] := by rw [← hW1]; exact (frozenW_other (by omega)).trans kF
  have kM1 : Blk W1 (w.heap.size + 1) 25 #[.string ⟨#[]⟩, .string ⟨#[]⟩, .int .i64 0, .slice none 0 0, .slice none 0 0] := by rw [← hW1]; exact (frozenW_other (by omega)).trans kM
  have kN1 : Blk W1 (w.heap.size + 1 + 1) 3 #[.int .i64 0] := by rw [← hW1]; exact (frozenW_other (by omega)).trans kN
  have kE1 : Blk W1 (w.heap.size + 1 + 1 + 1) 28 #[.int .i64 0] := by rw [← hW1]; exact (frozenW_other (by omega)).trans kE
  have hc4 : ∀ k, W1.cell? ⟨w.heap.size + 1 + 1 + 1 + 1, k, none⟩ = (#[.int .u8 13, .int .u8 10, .int .u8 13, .int .u8 10] : Array Value)[k]? := fun k => by
    rw [← hW1]; exact cell_of_row _ _ _ _ _ _ (frozenW_heap kB)
  rw [hW1]
  clear hW1 hcv hW0 kF kM kN kE kB hb0 hz0
  have HI := Lib.hid (Any.bytes_Index_longer Tryz.lays185 (some a) (some ⟨w.heap.size + 1 + 1 + 1 + 1, 0, none⟩) 0 c 4 4 W1 (by decide) (by decide) (by decide))
  refine ⟨trivial, (callsIn_wide.2 HI.out).mono ?_⟩
  rintro e w2 ⟨rfl, hw2⟩
  have hw2' := hw2.symm
  subst hw2'
  clear HI hc4 hw2
  have B2 := Lib.hid hb1
  have kF2 := kF1
  have kM2 := kM1
  have kN2 := kN1
  have kE2 := kE1
  clear hb1 kF1 kM1 kN1 kE1
  have c0 := kM2.cell 0
  have c1 := kM2.cell 1
  have c2 := kM2.cell 2
  have c3 := kM2.cell 3
  have c4 := kM2.cell 4
  simp at c0 c1 c2 c3 c4
  have f0 := kM2.frozen 0
  have f1 := kM2.frozen 1
  have f2 := kM2.frozen 2
  have f3 := kM2.frozen 3
  have f4 := kM2.frozen 4
  have cN := kN2.cell 0
  have cE := kE2.cell 0
  simp at cN cE
  have fN := kN2.frozen 0
  have fE := kE2.frozen 0
  have KM := Lib.hid kM2
  have KN := Lib.hid kN2
  have KE := Lib.hid kE2
  clear kF2 kM2 kN2 kE2 hz1
  gi_wp2_with fail
  obtain ⟨W9, hW9, k9, kn9, ke9, b9, _, _, _⟩ := set_seven B2.out KM.out KN.out KE.out (.string ⟨#[]⟩) (.string ⟨#[]⟩) (.int .i64 0) (.slice none 0 0) (.slice none 0 0) (.int .i64 0) (.int .i64 7)
  rw [hW9]
  refine ⟨_, results_row_cells rfl _ _ (w.heap.size + 1) (w.heap.size + 1 + 1) (w.heap.size + 1 + 1 + 1) 25 _ (0, 0) _ _ _ _ _ rfl k9 rfl rfl Tryz.underlying25 rfl infoM Tryz.underlying3 rfl (kn9.cell 0) Tryz.underlying28 rfl (ke9.cell 0), ?_⟩
  exact read_none (by rw [g_short (K := K) (show endAt [] < 0 by decide)]; rfl) (by decide) b9
set_option maxRecDepth 100000 in
theorem kget_opt (K : Asks) (fid : Nat) (heg : ∀ args w, (callFunc fid args).run Tryz.prog w = .ok (.enter fid args) w) (C : World → Prop) (hfirst : ∀ (s : ByteArray) (g : Nat) (w : World), s.size ≤ 1000000 → MaxOk w → C w →
      Blk w g 25 #[.string ⟨#[]⟩, .string ⟨#[]⟩, .int .i64 0, .slice none 0 0, .slice none 0 0] → Calls Tryz.prog fid #[.pointer (some ⟨g, 0, none⟩), .string s] w (FirstPost K s.data.toList g w))
    (A : Option Addr) (n c : Nat) (l : List UInt8) (w : World) (h : Lies w w.heap.size A n (Lib.byteCells l)) (hc : n ≤ c) (hn : n ≤ 2000000) (hm : MaxOk w) (hmg : maxG < w.heap.size) (hCw : ∀ W, Below w.heap.size w W → C W) :
    CallsIn Fence.wide 9 Tryz.prog 107 #[.agg #[.func (.func fid) #[] #[]], .slice A n c] w (ReadPost K l w) := by
  rcases Nat.eq_zero_or_pos n with h0 | h0
  · subst h0
    have hl : l = [] := List.eq_nil_of_length_eq_zero (by simpa [Lib.byteCells] using h.1)
    subst hl
    cases A with
    | none => exact kget_nil K fid c w
    | some a => exact kget_zero K fid a c w
  · obtain ⟨b, o, rfl, _⟩ := h.2 h0
    exact kget_any K fid heg C hfirst b o n c l w h hc hn hm hmg hCw
set_option maxRecDepth 100000 in
theorem hget_opt (A : Option Addr) (n c : Nat) (l : List UInt8) (w : World) (h : Lies w w.heap.size A n (Lib.byteCells l)) (hc : n ≤ c) (hn : n ≤ 2000000) (hm : MaxOk w) (hmg : maxG < w.heap.size) (he : ErrOk w) (heg : errG < w.heap.size) :
    Calls Tryz.prog 38 #[.slice A n c] w (ReadPost statusK l w) := by
  have hk0 := Blk.new w 25 #[.string ⟨#[]⟩, .string ⟨#[]⟩, .int .i64 0, .slice none 0 0, .slice none 0 0]
  have hB0 : Below w.heap.size w (w.alloc (.cells #[.string ⟨#[]⟩, .string ⟨#[]⟩, .int .i64 0, .slice none 0 0, .slice none 0 0] 25)) := (Below.refl _ _).alloc (Nat.le_refl _) _
  have hz0 : w.heap.size < (w.alloc (.cells #[.string ⟨#[]⟩, .string ⟨#[]⟩, .int .i64 0, .slice none 0 0, .slice none 0 0] 25)).heap.size := by simp
  have HG := Lib.hid (callsIn_wide.1 (kget_opt statusK 115 enters_response (fun w => ErrOk w ∧ errG < w.heap.size) (fun s g w h1 _ h2 h3 => response_any s g w h1 h2.1 h2.2 h3) A n c l _ ((h.below hB0).more hB0.size) hc hn (hm.below hB0 hmg) (Nat.lt_trans hmg hz0) (fun W hW => ⟨(he.below hB0 heg).below hW (Nat.lt_trans heg hz0), Nat.lt_of_lt_of_le (Nat.lt_trans heg hz0) hW.size⟩)))
  have K0 := Lib.hid hk0
  have B0 := Lib.hid hB0
  clear hk0 hB0 h hm he
  go_enter Tryz.func38, Tryz.ntmps38
  go_wp2_with fail
  refine (HG.out).mono ?_
  generalize w.alloc (.cells #[.string ⟨#[]⟩, .string ⟨#[]⟩, .int .i64 0, .slice none 0 0, .slice none 0 0] 25) = W1 at *
  rintro e w1 ⟨⟨v, rfl, hown⟩, hb1⟩
  obtain ⟨A', cA, rfl⟩ := own_form hown
  have K1 := Lib.hid (K0.out.below hb1 hz0)
  have HO := Lib.hid (ownsRow_base hown B0.out.size)
  have HB := Lib.hid (B0.out.trans (hb1.mono B0.out.size))
  clear hown hb1 HG
  have c0 := K1.out.cell 0
  have c1 := K1.out.cell 1
  have c2 := K1.out.cell 2
  have c3 := K1.out.cell 3
  have c4 := K1.out.cell 4
  simp at c0 c1 c2 c3 c4
  have f0 := K1.out.frozen 0
  have f1 := K1.out.frozen 1
  have f2 := K1.out.frozen 2
  have f3 := K1.out.frozen 3
  have f4 := K1.out.frozen 4
  go_wp2_with fail
  obtain ⟨W5, hW5, hk5, ht5, hb5, _⟩ := set_five K1.out (.string (gM statusK l)) (.string (gT statusK l)) (.int .i64 (gS statusK l)) (.slice A' (gF statusK l).length cA) (.slice none 0 0)
  rw [hW5]
  refine bodyPost_ret (results_row_tmp2 rfl _ _ w.heap.size 25 _ (0, 0) _ rfl hk5 Tryz.underlying25 rfl infoM) rfl ?_
  exact ⟨⟨_, rfl, own_tys HO.out ht5 (by decide)⟩, HB.out.trans (hb5 w.heap.size (Nat.le_refl _))⟩
set_option maxRecDepth 100000 in
theorem hrequest_opt (A : Option Addr) (n c : Nat) (l : List UInt8) (w : World) (h : Lies w w.heap.size A n (Lib.byteCells l)) (hc : n ≤ c) (hn : n ≤ 2000000) (hm : MaxOk w) (hmg : maxG < w.heap.size) :
    Calls Tryz.prog 32 #[.slice A n c] w (ReadPost askK l w) := by
  have hk0 := Blk.new w 25 #[.string ⟨#[]⟩, .string ⟨#[]⟩, .int .i64 0, .slice none 0 0, .slice none 0 0]
  have hB0 : Below w.heap.size w (w.alloc (.cells #[.string ⟨#[]⟩, .string ⟨#[]⟩, .int .i64 0, .slice none 0 0, .slice none 0 0] 25)) := (Below.refl _ _).alloc (Nat.le_refl _) _
  have hz0 : w.heap.size < (w.alloc (.cells #[.string ⟨#[]⟩, .string ⟨#[]⟩, .int .i64 0, .slice none 0 0, .slice none 0 0] 25)).heap.size := by simp
  have HG := Lib.hid (callsIn_wide.1 (kget_opt askK 106 enters_request (fun _ => True) (fun s g w h1 h2 _ h3 => request_any s g w h1 h2 h3) A n c l _ ((h.below hB0).more hB0.size) hc hn (hm.below hB0 hmg) (Nat.lt_trans hmg hz0) (fun _ _ => trivial)))
  have K0 := Lib.hid hk0
  have B0 := Lib.hid hB0
  clear hk0 hB0 h hm
  go_enter Tryz.func32, Tryz.ntmps32
  go_wp2_with fail
  refine (HG.out).mono ?_
  generalize w.alloc (.cells #[.string ⟨#[]⟩, .string ⟨#[]⟩, .int .i64 0, .slice none 0 0, .slice none 0 0] 25) = W1 at *
  rintro e w1 ⟨⟨v, rfl, hown⟩, hb1⟩
  obtain ⟨A', cA, rfl⟩ := own_form hown
  have K1 := Lib.hid (K0.out.below hb1 hz0)
  have HO := Lib.hid (ownsRow_base hown B0.out.size)
  have HB := Lib.hid (B0.out.trans (hb1.mono B0.out.size))
  clear hown hb1 HG
  have c0 := K1.out.cell 0
  have c1 := K1.out.cell 1
  have c2 := K1.out.cell 2
  have c3 := K1.out.cell 3
  have c4 := K1.out.cell 4
  simp at c0 c1 c2 c3 c4
  have f0 := K1.out.frozen 0
  have f1 := K1.out.frozen 1
  have f2 := K1.out.frozen 2
  have f3 := K1.out.frozen 3
  have f4 := K1.out.frozen 4
  go_wp2_with fail
  obtain ⟨W5, hW5, hk5, ht5, hb5, _⟩ := set_five K1.out (.string (gM askK l)) (.string (gT askK l)) (.int .i64 (gS askK l)) (.slice A' (gF askK l).length cA) (.slice none 0 0)
  rw [hW5]
  refine bodyPost_ret (results_row_tmp2 rfl _ _ w.heap.size 25 _ (0, 0) _ rfl hk5 Tryz.underlying25 rfl infoM) rfl ?_
  exact ⟨⟨_, rfl, own_tys HO.out ht5 (by decide)⟩, HB.out.trans (hb5 w.heap.size (Nat.le_refl _))⟩
end Go.Proofs.YtonlfplloenfcaaGreatDoor
