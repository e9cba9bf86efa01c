/-
  HeadsNames: what the walk needs in plain words.
  TwinMessage, LeftMessage, Book.Message.
  What is known of the answers that the reading of a head gives.
  footmanref12.lines: a head's lines.
-/
import Derived.Test.YtonlfplloenfcaaGreatDoorFindEtc
import Derived.Test.YtonlfplloenfcaaGreatDoorTwinEtc
import Derived.Test.YtonlfplloenfcaaGreatDoorLinesEtc
import Derived.Test.YtonlfplloenfcaaGreatDoorReflEtc
import Derived.Test.YtonlfplloenfcaaGreatDoorResultsEtc
import Derived.Deep.RegionHeld3
import Derived.Deep.DrawnRows
import Derived.Test.YtonlfplloenfcaaGreatDoorHeadSpec
import Derived.Maps.AppendAt
namespace Go.Proofs.YtonlfplloenfcaaGreatDoor
open Go.RowKit

theorem fread_reads {w : World} {B n : Nat} {A : Option Addr} {fs : List Fd} (h : FRead w B A n fs) : Reads w B 2 A n (fcells fs) := by
  refine ⟨by rw [fcells_len, h.1], fun hn => ?_⟩
  obtain ⟨b, off, rfl, hb, hc⟩ := h.2 hn
  refine ⟨_, rfl, hb, fun j u hu => ?_⟩
  rw [Addr.add_lit]
  have hj : j < fs.length * 2 := by
    have := (List.getElem?_eq_some_iff.1 hu).1
    rw [fcells_len] at this
    exact this
  have hi : j / 2 < fs.length := by omega
  have hf : fs[j / 2]? = some fs[j / 2] := List.getElem?_eq_getElem hi
  have h1 := fcells_at fs [] (j / 2) _ hf
  have h2 := hc (j / 2) _ hf
  rw [List.append_nil] at h1
  generalize fs[j / 2] = f at *
  rcases Nat.mod_two_eq_zero_or_one j with h0 | h0
  · have e : j / 2 * 2 = j := by omega
    rw [e] at h1 h2
    rw [h1.1] at hu
    injection hu with hu
    rw [← hu]
    exact h2.1
  · have e : j / 2 * 2 + 1 = j := by omega
    rw [e] at h1
    rw [h1.2] at hu
    injection hu with hu
    rw [← hu, show off + j = off + j / 2 * 2 + 1 by omega]
    exact h2.2
theorem fcells_one (fs : List Fd) : ∀ u ∈ fcells fs, u.oneCell' = true := by
  intro u hu
  unfold fcells at hu
  obtain ⟨f, _, h⟩ := List.mem_flatMap.1 hu
  simp at h
  rcases h with rfl | rfl <;> rfl
end Go.Proofs.YtonlfplloenfcaaGreatDoor
namespace Go.Proofs.YtonlfplloenfcaaGreatDoor
open Go.RowKit
attribute [local go_sem ↓] Go.wp_at_zero Go.wp_at_succ

theorem infoM : (Tryz.prog.info? 25).map (·.size) = some 5 := by kernel_rfl
/-- Five cells stored, one by one. -/
theorem set_five {w : World} {g : Nat} {t : TypeId} {a b c d e : Value} (h : Blk w g t #[a, b, c, d, e]) (v0 v1 v2 v3 v4 : Value) :
    ∃ W, ((((w.setCell ⟨g, 0, none⟩ v0).setCell ⟨g, 1, none⟩ v1).setCell ⟨g, 2, none⟩ v2).setCell ⟨g, 3, none⟩ v3).setCell ⟨g, 4, none⟩ v4 = W ∧
      Blk W g t #[v0, v1, v2, v3, v4] ∧ Tys [t] w W ∧ (∀ B, B ≤ g → Below B w W) ∧ W.heap.size = w.heap.size := by
  have h1 : Blk (w.setCell ⟨g, 0, none⟩ v0) g t #[v0, b, c, d, e] := by simpa using h.set_ 0 v0
  have h2 : Blk ((w.setCell ⟨g, 0, none⟩ v0).setCell ⟨g, 1, none⟩ v1) g t #[v0, v1, c, d, e] := by simpa using h1.set_ 1 v1
  have h3 : Blk (((w.setCell ⟨g, 0, none⟩ v0).setCell ⟨g, 1, none⟩ v1).setCell ⟨g, 2, none⟩ v2) g t #[v0, v1, v2, d, e] := by simpa using h2.set_ 2 v2
  have h4 : Blk ((((w.setCell ⟨g, 0, none⟩ v0).setCell ⟨g, 1, none⟩ v1).setCell ⟨g, 2, none⟩ v2).setCell ⟨g, 3, none⟩ v3) g t #[v0, v1, v2, v3, e] := by simpa using h3.set_ 3 v3
  refine ⟨_, rfl, by simpa using h4.set_ 4 v4, ?_, fun B hB => ?_, by simp [World.setCell]⟩
  · exact (((((Tys.refl _ _).setCell (p := ⟨g, 0, none⟩) h.heap (by simp) _).setCell (p := ⟨g, 1, none⟩) h1.heap (by simp) _).setCell (p := ⟨g, 2, none⟩) h2.heap (by simp) _).setCell (p := ⟨g, 3, none⟩) h3.heap (by simp) _).setCell (p := ⟨g, 4, none⟩) h4.heap (by simp) _
  · exact (((((Below.refl _ _).setCell (p := ⟨g, 0, none⟩) hB _).setCell (p := ⟨g, 1, none⟩) hB _).setCell (p := ⟨g, 2, none⟩) hB _).setCell (p := ⟨g, 3, none⟩) hB _).setCell (p := ⟨g, 4, none⟩) hB _
end Go.Proofs.YtonlfplloenfcaaGreatDoor
namespace Go.Proofs.YtonlfplloenfcaaGreatDoor
open Go.RowKit

theorem gF_len (K : Asks) (l : List UInt8) : (gF K l).length ≤ 256 := by
  unfold gF
  split
  · rename_i h
    unfold gE readE at h
    unfold readF
    rw [List.length_map]
    split at h
    · split at h <;> cases h
    · split at h
      · cases h
      · split at h
        · cases h
        · omega
  · simp
theorem fread_own {w : World} {base n c : Nat} {e : TypeId} {A : Option Addr} {fs : List Fd} (hl : fs.length = n) (h : w.ownsRow base e 2 (.slice A n c) n (fcells fs)) : FRead w w.heap.size A n fs := by
  refine ⟨hl, fun hn => ?_⟩
  obtain ⟨g, cap, hv, _, hlt⟩ := h.form hn
  have hA : A = some ⟨g, 0, none⟩ := by injection hv
  subst hA
  refine ⟨g, 0, rfl, hlt, fun i f hf => ?_⟩
  obtain ⟨h1, h2⟩ := fcells_at fs [] i f hf
  rw [List.append_nil] at h1 h2
  have c1 := h.cells (g := g) rfl (i * 2) _ h1
  have c2 := h.cells (g := g) rfl (i * 2 + 1) _ h2
  rw [Addr.add_lit] at c1 c2
  exact ⟨c1, by rw [Nat.add_assoc]; exact c2⟩
end Go.Proofs.YtonlfplloenfcaaGreatDoor
namespace Go.Proofs.YtonlfplloenfcaaGreatDoor
open Go.RowKit
attribute [local go_sem] Oper.semAt_some

def strL (ls : List (List UInt8)) : List Value := ls.map fun x => Value.string ⟨x.toArray⟩

set_option maxRecDepth 100000 in
theorem rlines_any (A : Option Addr) (n c k0 : Nat) (l : List UInt8) (w : World) (h : Lies w w.heap.size A n (Lib.byteCells l)) (hc : n ≤ c) (hn : n = k0 + 4) (hn2 : n ≤ 65536) (hf : fourAt l k0) :
    Calls Tryz.prog 174 #[.slice A n c] w fun e w' => (∃ v, e = .returned v ∧ w'.ownsRow w.heap.size 9 1 v (splitB (l.take k0)).length (strL (splitB (l.take k0)))) ∧ Below w.heap.size w w' := by
  subst hn
  have hl : l.length = k0 + 4 := by simpa [Lib.byteCells] using h.1
  obtain ⟨i0, hi, hz0, hz1, hz2⟩ := info_parts infoS
  go_enter Tryz.func174, Tryz.ntmps174
  go_wp2_with fail
  go_loopw [3, 4, 5] (fun v fm i wr => ∃ (k f : Nat) (pre : List (List UInt8)), k ≤ k0 ∧ i = .int .i64 k ∧ fm = .int .i64 f ∧ Hid (Scan (l.take k0) k f pre) ∧ pre.length ≤ k ∧ wr.ownsRow w.heap.size 9 1 v pre.length (strL pre) ∧ Below w.heap.size w wr)
    (fun _ _ i _ => k0 + 4 - (intOf i).toNat)
  case atStart => exact ⟨0, 0, [], Nat.zero_le _, rfl, rfl, Scan.start _, Nat.le_refl _, World.ownsRow_nil _ _ _ _, Below.refl _ _⟩
  case round =>
    obtain ⟨k, f, pre, hk, rfl, rfl, hsc, hpl, hown, hb⟩ := hrel
    obtain ⟨b, off, rfl, hbb, hcc⟩ := h.2 (by omega)
    have hat : ∀ j (hj : j < l.length), wr.cell? ⟨b, off + j, none⟩ = some (.int .u8 (l[j].toNat : Int)) := fun j hj => by
      refine (hb.cell (p := ⟨b, off + j, none⟩) hbb).trans (hcc j _ ?_)
      unfold Lib.byteCells
      rw [List.getElem?_map, List.getElem?_eq_getElem hj]
      rfl
    have hlk : (l.take k0).length = k0 := by rw [List.length_take]; omega
    have hcv : ∀ (m a : Nat), a + m ≤ k0 → ∀ (W : World), Below w.heap.size w W → ∀ cap, (convert 23 9 (.slice (some ⟨b, off + a, none⟩) m cap)).run Tryz.prog W = .ok (.string ⟨(((l.take k0).drop a).take m).toArray⟩) W := fun m a hm W hW cap => by
      have hlen : (((l.take k0).drop a).take m).length = m := by rw [List.length_take, List.length_drop, hlk]; omega
      have := run_convert_bytes_back (P := Tryz.prog) W 23 9 5 ⟨b, off + a, none⟩ cap (((l.take k0).drop a).take m) Tryz.underlying23 Tryz.underlying5 Tryz.underlying9 (fun j hj => by
        rw [Addr.add_lit, Nat.add_assoc]
        refine (hW.cell (p := ⟨b, off + (a + j), none⟩) hbb).trans (hcc (a + j) _ ?_)
        unfold Lib.byteCells
        rw [hlen] at hj
        rw [List.getElem?_map, List.getElem?_eq_getElem (by omega)]
        simp)
      rwa [hlen] at this
    have HCV := Lib.hid hcv
    have HO := Lib.hid hown
    clear hcv hown hcc
    by_cases hlt : k < k0
    · have c0 := hat k (by omega)
      have c1 := hat (k + 1) (by omega)
      have he : eolAt (l.take k0) k ↔ ((l[k].toNat : Int) = 13 ∧ (l[k + 1].toNat : Int) = 10) := by
        unfold eolAt
        rw [List.getElem?_take, if_pos hlt, List.getElem?_take]
        rcases Nat.lt_or_ge (k + 1) k0 with h1 | h1
        · rw [if_pos h1, List.getElem?_eq_getElem (by omega), List.getElem?_eq_getElem (by omega)]
          simp only [Option.some.injEq, ← UInt8.toNat_inj]
          show (l[k].toNat = 13 ∧ l[k + 1].toNat = 10) ↔ _
          omega
        · rw [if_neg (by omega)]
          obtain rfl : k + 1 = k0 := by omega
          have h3 := hf.1
          rw [List.getElem?_eq_getElem (by omega)] at h3
          injection h3 with h3
          rw [h3]
          simp
      obtain ⟨x0, hx0⟩ : ∃ x, x = l[k] := ⟨_, rfl⟩
      obtain ⟨x1, hx1⟩ : ∃ x, x = l[k + 1] := ⟨_, rfl⟩
      rw [← hx0, ← hx1] at he
      rw [← hx0] at c0
      rw [← hx1] at c1
      clear hx0 hx1 hat h
      have HE := Lib.hid he
      clear he
      have HSC := Lib.hid hsc
      clear hsc
      cases e0 : ((x0.toNat : Int) == 13)
      · go_wp2_with fail
        go_roundw
        case rel => exact ⟨k + 1, f, pre, by omega, by go_num, rfl, HSC.out.out.miss (fun hc => by have := (HE.out.1 hc).1; simp at e0; omega), by omega, HO.out, hb⟩
        case measure => simp [intOf]; omega
      · cases e1 : ((x1.toNat : Int) == 10)
        · go_wp2_with fail
          go_roundw
          case rel => exact ⟨k + 1, f, pre, by omega, by go_num, rfl, HSC.out.out.miss (fun hc => by have := (HE.out.1 hc).2; simp at e1; omega), by omega, HO.out, hb⟩
          case measure => simp [intOf]; omega
        · obtain ⟨hfk, hsc2⟩ := HSC.out.out.hit (HE.out.2 ⟨by simpa using e0, by simpa using e1⟩)
          have hcv := HCV.out (k - f) f (by omega) wr hb (c - f)
          have HS2 := Lib.hid hsc2
          clear hsc2
          have hlen2 : (pre ++ [((l.take k0).drop f).take (k - f)]).length = pre.length + 1 := by simp
          have hval : strL (pre ++ [((l.take k0).drop f).take (k - f)]) = strL pre ++ [Value.string ⟨(((l.take k0).drop f).take (k - f)).toArray⟩] := by simp [strL]
          have HL2 := Lib.hid hlen2
          have HVL := Lib.hid hval
          clear hlen2 hval
          generalize (((l.take k0).drop f).take (k - f)) = ln at *
          go_wp2_with (at_builtin; refine wpList_append_own _ rfl _ _ 61 rfl w.heap.size 9 i0 _ 1 16 Tryz.underlying61 hi hz0 hz1 hz2 rfl (by decide) _ _ _ rfl (HO.out.alloc _) ⟨wr.heap.size, 0, none⟩ 1 1 [.string ⟨ln.toArray⟩] rfl rfl (cell_one_new _ _ _) (by simp [Value.oneCell']) (by unfold maxLen; omega) (by omega) (by have := hb.size; simp; omega) ?_; intro v2 w2 hown2 hg2 _)
          have hb4 : Below w.heap.size w w2 := (hb.alloc hb.size _).grown hg2 (by have := hb.size; simp; omega) (fun j hj => ((HO.out).lt j hj).1)
          go_roundw
          case rel => exact ⟨k + 1, k + 2, pre ++ [ln], by omega, by go_num, by go_num, HS2.out, by have := HL2.out; omega, by rw [HL2.out, HVL.out]; exact hown2, hb4⟩
          case measure => simp [intOf]; omega
    · obtain rfl : k = k0 := by omega
      have hsc' := hsc.out
      rw [show k = (l.take k).length from hlk.symm] at hsc'
      rw [show List.take (List.take k l).length l = l.take k by rw [hlk]] at hsc'
      obtain ⟨hfk, hdone⟩ := hsc'.done
      rw [hlk] at hfk
      have hcv := HCV.out (k - f) f (by omega) wr hb (c - f)
      have hlast : ((l.take k).drop f).take (k - f) = (l.take k).drop f := List.take_of_length_le (by rw [List.length_drop, hlk]; exact Nat.le_refl _)
      rw [hlast] at hcv
      have hlen2 : (splitB (l.take k)).length = pre.length + 1 := by rw [← hdone]; simp
      have hval : strL (splitB (l.take k)) = strL pre ++ [Value.string ⟨((l.take k).drop f).toArray⟩] := by rw [← hdone]; simp [strL]
      have HL2 := Lib.hid hlen2
      have HVL := Lib.hid hval
      clear hlen2 hval hdone hsc' hsc hlast h
      generalize ((l.take k).drop f) = ln at *
      go_wp2_with (at_builtin; refine wpList_append_own _ rfl _ _ 61 rfl w.heap.size 9 i0 _ 1 16 Tryz.underlying61 hi hz0 hz1 hz2 rfl (by decide) _ _ _ rfl (HO.out.alloc _) ⟨wr.heap.size, 0, none⟩ 1 1 [.string ⟨ln.toArray⟩] rfl rfl (cell_one_new _ _ _) (by simp [Value.oneCell']) (by unfold maxLen; omega) (by omega) (by have := hb.size; simp; omega) ?_; intro v2 w2 hown2 hg2 _)
      have hb4 : Below w.heap.size w w2 := (hb.alloc hb.size _).grown hg2 (by have := hb.size; simp; omega) (fun j hj => ((HO.out).lt j hj).1)
      go_ret
      exact ⟨⟨_, rfl, by rw [HL2.out, HVL.out]; exact hown2⟩, hb4⟩
end Go.Proofs.YtonlfplloenfcaaGreatDoor
