/-
  footmanlaw13.of: a response with some fields.
  footmanlaw13: tells, bad.
-/
import Derived.Deep.CutRange
import Derived.Deep.CutBlock
import Derived.BigRegion
import Derived.Test.YtonlfplloenfcaaGreatDoorFindEtc
import Derived.Test.YtonlfplloenfcaaGreatDoorResultsEtc
import Derived.Test.YtonlfplloenfcaaGreatDoorNamesEtc
import Derived.Test.YtonlfplloenfcaaGreatDoorHeadsNamesEtc
import Derived.Test.YtonlfplloenfcaaGreatDoorBadEtc
namespace Go.Proofs.YtonlfplloenfcaaGreatDoor
open Go.RowKit

theorem fcells_take (fs : List Fd) (k : Nat) (f : Fd) (h : fs[k]? = some f) : fcells (fs.take (k + 1)) = fcells (fs.take k) ++ [.string f.1, .string f.2] := by
  rw [List.take_add_one, h]
  show fcells (fs.take k ++ [f]) = _
  rw [fcells_append]
  rfl
theorem reads_two (w : World) (t : TypeId) (x y : Value) (B : Nat) (hB : w.heap.size < B) : Reads (w.alloc (.cells #[x, y] t)).drew B 2 (some ⟨w.heap.size, 0, none⟩) 1 [x, y] := by
  have hk := Blk.new w t #[x, y]
  refine ⟨rfl, fun _ => ⟨_, rfl, hB, fun j u hu => ?_⟩⟩
  show (w.alloc (.cells #[x, y] t)).cell? _ = _
  rw [Addr.add_lit, hk.cell, Nat.zero_add]
  simpa using hu
set_option maxRecDepth 100000 in
set_option maxHeartbeats 1000000 in
theorem of_any (st : Int) (A : Option Addr) (m c : Nat) (fs : List Fd) (w : World) (h : FRead w w.heap.size A m fs) (hm : m ≤ 100) :
    Calls Tryz.prog 54 #[.int .i64 st, .slice A (2 * m) c] w fun e w' => (∃ v, e = .returned (.agg #[.string ⟨#[]⟩, .string ⟨#[]⟩, .int .i64 st, v, .slice none 0 0]) ∧ w'.ownsRow w.heap.size 63 2 v fs.length (fcells fs)) ∧ Below w.heap.size w w' := by
  have H := Lib.hid h
  clear h
  go_enter Tryz.func54, Tryz.ntmps54
  go_wp2_with fail
  obtain ⟨i0, hi, hz0, hz1, hz2⟩ := info_parts infoF
  have hk0 := (Blk.new w 25 #[.string ⟨#[]⟩, .string ⟨#[]⟩, .int .i64 0, .slice none 0 0, .slice none 0 0]).alloc (.cells #[.string ⟨#[]⟩, .string ⟨#[]⟩, .int .i64 st, .slice none 0 0, .slice none 0 0] 25)
  have hk1 := Blk.new (w.alloc (.cells #[.string ⟨#[]⟩, .string ⟨#[]⟩, .int .i64 0, .slice none 0 0, .slice none 0 0] 25)) 25 #[.string ⟨#[]⟩, .string ⟨#[]⟩, .int .i64 st, .slice none 0 0, .slice none 0 0]
  have hb0 : Below w.heap.size w ((w.alloc (.cells #[.string ⟨#[]⟩, .string ⟨#[]⟩, .int .i64 0, .slice none 0 0, .slice none 0 0] 25)).alloc (.cells #[.string ⟨#[]⟩, .string ⟨#[]⟩, .int .i64 st, .slice none 0 0, .slice none 0 0] 25)) := ((Below.refl _ _).alloc (Nat.le_refl _) _).alloc (by simp) _
  have hgs : (w.alloc (.cells #[.string ⟨#[]⟩, .string ⟨#[]⟩, .int .i64 0, .slice none 0 0, .slice none 0 0] 25)).heap.size = w.heap.size + 1 := by simp
  rw [hgs] at hk1
  have K0 := Lib.hid hk0
  have K1 := Lib.hid hk1
  have B0 := Lib.hid hb0
  clear hk0 hk1 hb0 hgs
  generalize (w.alloc (.cells #[.string ⟨#[]⟩, .string ⟨#[]⟩, .int .i64 0, .slice none 0 0, .slice none 0 0] 25)).alloc (.cells #[.string ⟨#[]⟩, .string ⟨#[]⟩, .int .i64 st, .slice none 0 0, .slice none 0 0] 25) = W0 at *
  go_loopw [6] (fun i wr => ∃ (k j : Nat) (vf : Value), k ≤ m ∧ i = .int .i64 j ∧ Hid (j = 2 * k) ∧ Hid (Blk wr w.heap.size 25 #[.string ⟨#[]⟩, .string ⟨#[]⟩, .int .i64 0, .slice none 0 0, .slice none 0 0]) ∧ Hid (Blk wr (w.heap.size + 1) 25 #[.string ⟨#[]⟩, .string ⟨#[]⟩, .int .i64 st, vf, .slice none 0 0]) ∧
      Hid (wr.ownsRow w.heap.size 63 2 vf k (fcells (fs.take k))) ∧ Hid (Below w.heap.size w wr)) (fun i _ => 2 * m - (intOf i).toNat)
  case atStart => exact ⟨0, 0, .slice none 0 0, Nat.zero_le _, rfl, rfl, K0, K1, World.ownsRow_nil _ _ _ _, B0⟩
  case round =>
    clear K0 K1 B0
    obtain ⟨k, j, vf, hk, rfl, hj, K0, K1, HO, HB⟩ := hrel
    have hj' := hj.out
    by_cases hlt : k < m
    · obtain ⟨b, off, rfl, hbb, hc⟩ := H.out.2 (by omega)
      obtain ⟨f, hf⟩ : ∃ f, fs[k]? = some f := ⟨fs[k]'(by rw [H.out.1]; exact hlt), List.getElem?_eq_getElem (by rw [H.out.1]; exact hlt)⟩
      have hc1 := (HB.out.cell (p := ⟨b, off + k * 2, none⟩) hbb).trans (hc k f hf).1
      have hc2 := (HB.out.cell (p := ⟨b, off + k * 2 + 1, none⟩) hbb).trans (hc k f hf).2
      rw [show off + k * 2 = off + j by omega] at hc1
      rw [show off + k * 2 + 1 = off + (j + 1) by omega] at hc2
      have hbr : b < wr.heap.size := Nat.lt_of_lt_of_le hbb HB.out.size
      have hw0 : w.heap.size ≤ wr.heap.size := HB.out.size
      have hg1 : w.heap.size + 1 < wr.heap.size := K1.out.lt
      have htk := fcells_take fs k f hf
      have HTK := Lib.hid htk
      obtain ⟨f1, f2⟩ := f
      simp only at hc1 hc2
      have c3 := K1.out.cell 3
      simp at c3
      have ca : ∀ o, (wr.alloc o).cell? ⟨w.heap.size + 1, 3, none⟩ = some vf := fun o => (World.cell?_alloc_lt wr o ⟨w.heap.size + 1, 3, none⟩ hg1).trans c3
      have ca1 : ∀ o, (wr.alloc o).cell? ⟨b, off + j, none⟩ = some (.string f1) := fun o => (World.cell?_alloc_lt wr o ⟨b, off + j, none⟩ hbr).trans hc1
      have ca2 : ∀ o, (wr.alloc o).cell? ⟨b, off + (j + 1), none⟩ = some (.string f2) := fun o => (World.cell?_alloc_lt wr o ⟨b, off + (j + 1), none⟩ hbr).trans hc2
      have g1 : IntKind.i64.wrap ((j : Int) + 1) = (j : Int) + 1 := Go.IntWalk.i64_in _ ⟨by omega, by omega⟩
      have g2 : (j : Int) + 1 < 2 * (m : Int) := by omega
      have g3 : (0 : Int) ≤ (j : Int) + 1 := by omega
      have g4 : ((j : Int) + 1).toNat = j + 1 := by omega
      have g5 : (j : Int) < 2 * (m : Int) := by omega
      have hne : ∀ q, vf.ownBlock = some q → q ≠ w.heap.size ∧ q ≠ w.heap.size + 1 := fun q hq => by
        obtain ⟨cs, hh⟩ := own_heap HO.out hq
        constructor
        · rintro rfl
          rw [K0.out.heap] at hh
          injection hh with hh
          injection hh with _ h2
          cases h2
        · rintro rfl
          rw [K1.out.heap] at hh
          injection hh with hh
          injection hh with _ h2
          cases h2
      have hfin : ∀ (v2 : Value) (w2 : World), ((wr.alloc (.cells #[.string f1, .string f2] 63)).drew).grownBy w2 vf.ownBlock →
          Blk w2 w.heap.size 25 #[.string ⟨#[]⟩, .string ⟨#[]⟩, .int .i64 0, .slice none 0 0, .slice none 0 0] ∧ Blk w2 (w.heap.size + 1) 25 #[.string ⟨#[]⟩, .string ⟨#[]⟩, .int .i64 st, vf, .slice none 0 0] ∧ Below w.heap.size w w2 := by
        intro v2 w2 hg2
        refine ⟨((K0.out.alloc _).drew).grown hg2 (fun e => (hne _ e.symm).1 rfl), ((K1.out.alloc _).drew).grown hg2 (fun e => (hne _ e.symm).2 rfl), ((HB.out.alloc HB.out.size _).drew).grown hg2 (by have := HB.out.size; simp; omega) (fun q hq => (HO.out.lt q hq).1)⟩
      have HF := Lib.hid hfin
      have hjj : j + 2 = 2 * (k + 1) := by omega
      have HJ2 := Lib.hid hjj
      clear hne hfin htk hf hc hj' hjj hj
      go_upto_block 1 with fail
      go_cut [] from 9 to 30 (fun wx => ∃ v2, Hid (Blk wx w.heap.size 25 #[.string ⟨#[]⟩, .string ⟨#[]⟩, .int .i64 0, .slice none 0 0, .slice none 0 0]) ∧ Hid (Blk wx (w.heap.size + 1) 25 #[.string ⟨#[]⟩, .string ⟨#[]⟩, .int .i64 st, v2, .slice none 0 0]) ∧
        Hid (wx.ownsRow w.heap.size 63 2 v2 (k + 1) (fcells (fs.take (k + 1)))) ∧ Hid (Below w.heap.size w wx))
      case first =>
        go_wp2_with fail
        go_region_law ((refine step_append_any _ rfl _ _ 22 rfl w.heap.size 63 i0 _ 2 32 Tryz.underlying22 hi hz0 hz1 hz2 rfl (by decide) vf k (fcells (fs.take k)) rfl (HO.out.alloc _) (wr.heap.size + 1) _ 1 1 [.string f1, .string f2] rfl (reads_two wr _ _ _ _ (by omega)) (by simp [Value.oneCell']) (by unfold maxLen; omega) (by omega) (by simp; omega) ?_; intro v2 w2 hown2 hg2 _; have hK := HF.out v2 w2 hg2; have HK := Lib.hid hK; have cc := hK.2.1.cell 3; have ff := hK.2.1.frozen 3; simp at cc; clear hK; have HW := Lib.hid hown2; obtain ⟨A2, c2, rfl⟩ := own_form hown2; clear hown2 hg2))
        all_goals
          go_wp2_with fail
          go_meet
          have hs : ∀ u, Tys [25] w2 (w2.setCell ⟨w.heap.size + 1, 3, none⟩ u) := fun u => (Tys.refl _ _).setCell (p := ⟨w.heap.size + 1, 3, none⟩) HK.out.2.1.heap (by simp) _
          refine ⟨_, HK.out.1.far (by show w.heap.size ≠ w.heap.size + 1; omega) _, Lib.hid (by simpa using HK.out.2.1.set_ 3 (.slice A2 (k + 1) c2)), ?_, HK.out.2.2.setCell (p := ⟨w.heap.size + 1, 3, none⟩) (Nat.le_succ _) _⟩
          rw [HTK.out]
          exact own_tys HW.out (hs _) (by decide)
      case rest =>
      obtain ⟨v2, J0, J1, JO, JB⟩ := hcut
      clear ca ca1 ca2 c3 hc1 hc2 g1 g3 g4 g5 HF HTK
      go_wp2_with fail
      go_roundw
      case rel => exact ⟨k + 1, j + 2, v2, by omega, by go_num, HJ2, J0, J1, JO, JB⟩
      case measure => simp [intOf]; omega
    · obtain rfl : k = m := by omega
      have g2 : decide ((j : Int) + 1 < 2 * (k : Int)) = false := decide_eq_false (by omega)
      have hjb : j ≤ 200 := by omega
      obtain ⟨Af, cf, rfl⟩ := own_form HO.out
      have c0 := K1.out.cell 0
      have c1 := K1.out.cell 1
      have c2 := K1.out.cell 2
      have c3 := K1.out.cell 3
      have c4 := K1.out.cell 4
      have d0 := K0.out.cell 0
      have d1 := K0.out.cell 1
      have d2 := K0.out.cell 2
      have d3 := K0.out.cell 3
      have d4 := K0.out.cell 4
      have e0 := K0.out.frozen 0
      have e1 := K0.out.frozen 1
      have e2 := K0.out.frozen 2
      have e3 := K0.out.frozen 3
      have e4 := K0.out.frozen 4
      simp at c0 c1 c2 c3 c4 d0 d1 d2 d3 d4
      clear hj hj'
      go_wp2_with fail
      obtain ⟨W5, hW5, hk5, ht5, hb5, _⟩ := set_five K0.out (.string ⟨#[]⟩) (.string ⟨#[]⟩) (.int .i64 st) (.slice Af k cf) (.slice none 0 0)
      rw [hW5]
      have HK5 := Lib.hid hk5
      have B5 := Lib.hid (HB.out.trans (hb5 w.heap.size (Nat.le_refl _)))
      have O5 := Lib.hid (own_tys HO.out ht5 (by decide))
      clear hW5 hk5 ht5 hb5
      rw [List.take_of_length_le (by rw [H.out.1]; exact Nat.le_refl _)] at O5
      refine bodyPost_ret (results_cell_row rfl _ _ w.heap.size 25 _ (0, 0) _ rfl HK5.out Tryz.underlying25 rfl infoM) rfl ⟨⟨_, rfl, ?_⟩, B5.out⟩
      rw [H.out.1]
      exact O5.out
end Go.Proofs.YtonlfplloenfcaaGreatDoor
namespace Go.Proofs.YtonlfplloenfcaaGreatDoor
open Go.RowKit

theorem conv_lies {w : World} {B n c : Nat} {A : Option Addr} {l : List UInt8} (h : Lies w B A n (Lib.byteCells l)) :
    (convert 23 9 (.slice A n c)).run Tryz.prog w = .ok (.string ⟨l.toArray⟩) w := by
  have hll : l.length = n := by simpa [Lib.byteCells] using h.1
  subst hll
  have key : ∀ b o, A = some ⟨b, o, none⟩ → (∀ j u, (Lib.byteCells l)[j]? = some u → w.cell? ⟨b, o + j, none⟩ = some u) → (convert 23 9 (.slice A l.length c)).run Tryz.prog w = .ok (.string ⟨l.toArray⟩) w := by
    rintro b o rfl hc
    exact run_convert_bytes_back (P := Tryz.prog) w 23 9 5 ⟨b, o, none⟩ c l Tryz.underlying23 Tryz.underlying5 Tryz.underlying9 (fun j hj => by
      rw [Addr.add_lit]
      refine hc j _ ?_
      unfold Lib.byteCells
      rw [List.getElem?_map, List.getElem?_eq_getElem hj]
      rfl)
  by_cases h0 : 0 < l.length
  · obtain ⟨b, o, e, _, hc⟩ := h.2 h0
    exact key b o e hc
  · have hnil : l = [] := List.eq_nil_of_length_eq_zero (by omega)
    subst hnil
    cases A with
    | none => exact run_convert_bytes_nil (P := Tryz.prog) w 23 5 Tryz.underlying23 Tryz.underlying5 0 c 9 Tryz.underlying9
    | some a => exact run_convert_bytes_back (P := Tryz.prog) w 23 9 5 a c [] Tryz.underlying23 Tryz.underlying5 Tryz.underlying9 (fun j hj => by cases hj)

set_option maxRecDepth 100000 in
theorem tells13_any (s body : ByteArray) (many : Int) (whole : Bool) (w : World) (hs : s.size ≤ 2000000) (hE : ansE (chunkA s.data.toList) = 0) (hB : ansB (chunkA s.data.toList) = body.data.toList) (hN : ((ansN s.size (chunkA s.data.toList) : Nat) : Int) = many) (hD : ansD (chunkA s.data.toList) = whole) (hm : MaxOk w) (hmg : maxG < w.heap.size) :
    Calls Tryz.prog 52 #[.string s, .string body, .int .i64 many, .bool whole] w fun e w' => e = .returned (.bool true) ∧ Below w.heap.size w w' := by
  have hcv := fun W => Lib.run_convert_string_bytes (P := Tryz.prog) W 9 23 5 s Tryz.underlying9 Tryz.underlying23 Tryz.underlying5
  obtain ⟨hL, hBw, hlt⟩ := str_bytes s w
  have hcap : s.size ≤ grownCap w s.size 0 5 := grownCap_ge _ _ _ _
  have HG := Lib.hid (bchunked_any (some ⟨w.heap.size, 0, none⟩) s.size (grownCap w s.size 0 5) s.data.toList (Lib.bytesWorld w 5 s) hL hcap (by omega) (hm.below hBw hmg) (Nat.lt_trans hmg hlt))
  have HB := Lib.hid hBw
  have hll : s.data.toList.length = s.size := rfl
  rw [← hll] at hN
  have HR := Lib.hid (And.intro hE (And.intro hB (And.intro hN hD)))
  clear hL hBw hm hE hB hN hD hll
  go_enter Tryz.func52, Tryz.ntmps52
  go_wp2_with fail
  refine (HG.out).mono ?_
  rintro e w1 ⟨v, rfl, hown, hb1⟩
  rw [HR.out.1, HR.out.2.2.1, HR.out.2.2.2]
  rw [HR.out.2.1] at hown
  obtain ⟨A, cA, rfl⟩ := own_form hown
  have hc2 := conv_lies (c := cA) (Lies.of_own hown)
  have hbd : (⟨body.data.toList.toArray⟩ : ByteArray) = body := rfl
  rw [hbd, show body.data.toList.length = body.size from rfl] at hc2
  have HB1 := Lib.hid (HB.out.trans (hb1.mono (Nat.le_of_lt hlt)))
  have d1 : (body.toList == body.toList) = true := beq_iff_eq.2 rfl
  have d2 : (many == many) = true := beq_iff_eq.2 rfl
  have d3 : (whole == whole) = true := beq_iff_eq.2 rfl
  clear hown hb1 hcv hbd
  go_wp2_with fail
  go_ret
  exact ⟨rfl, HB1.out⟩
set_option maxRecDepth 100000 in
theorem bad13_any (s : ByteArray) (z : Int) (w : World) (hs : s.size ≤ 2000000) (hz : chunkA s.data.toList = .err z) (hm : MaxOk w) (hmg : maxG < w.heap.size) :
    Calls Tryz.prog 129 #[.string s, .int .i64 z] w fun e w' => e = .returned (.bool true) ∧ Below w.heap.size w w' := by
  have hcv := fun W => Lib.run_convert_string_bytes (P := Tryz.prog) W 9 23 5 s Tryz.underlying9 Tryz.underlying23 Tryz.underlying5
  obtain ⟨hL, hBw, hlt⟩ := str_bytes s w
  have hcap : s.size ≤ grownCap w s.size 0 5 := grownCap_ge _ _ _ _
  have hG := bchunked_any (some ⟨w.heap.size, 0, none⟩) s.size (grownCap w s.size 0 5) s.data.toList (Lib.bytesWorld w 5 s) hL hcap (by omega) (hm.below hBw hmg) (Nat.lt_trans hmg hlt)
  unfold ChunkPost at hG
  rw [hz] at hG
  have HG := Lib.hid hG
  have HB := Lib.hid hBw
  clear hL hBw hm hz hG
  go_enter Tryz.func129, Tryz.ntmps129
  go_wp2_with fail
  refine (HG.out).mono ?_
  rintro e w1 ⟨v, rfl, hown, hb1⟩
  obtain ⟨A, cA, rfl⟩ := own_form hown
  have HB1 := Lib.hid (HB.out.trans (hb1.mono (Nat.le_of_lt hlt)))
  have e1 : ansE (.err z) = z := rfl
  have e2 : ansN s.data.toList.length (.err z) = 0 := rfl
  have e3 : ansD (.err z) = false := rfl
  have e4 : (ansB (.err z)).length = 0 := rfl
  rw [e1, e2, e3, e4]
  have d2 : (z == z) = true := beq_iff_eq.2 rfl
  clear hown hb1 hcv e1 e2 e3 e4
  go_wp2_with fail
  go_ret
  exact ⟨rfl, HB1.out⟩
end Go.Proofs.YtonlfplloenfcaaGreatDoor
