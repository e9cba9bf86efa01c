/-
  heads.Find, footmanref12.Find: the values of all fields of a name.
-/
import Derived.Test.YtonlfplloenfcaaDoorFields
import Derived.Test.YtonlfplloenfcaaDoorRefl
import Derived.Maps.AppendAt
namespace Go.Proofs.YtonlfplloenfcaaDoor
open Go.RowKit

def findB (fs : List Fd) (s : ByteArray) : List ByteArray := (fs.filter fun f => sameB f.1.data.toList s.data.toList).map (·.2)
theorem findB_hit (fs : List Fd) (s : ByteArray) (k : Nat) (f : Fd) (h : fs[k]? = some f) (hs : sameB f.1.data.toList s.data.toList = true) : findB (fs.take (k + 1)) s = findB (fs.take k) s ++ [f.2] := by
  unfold findB
  rw [List.take_add_one, h]
  simp [hs]
theorem findB_miss (fs : List Fd) (s : ByteArray) (k : Nat) (f : Fd) (h : fs[k]? = some f) (hs : sameB f.1.data.toList s.data.toList = false) : findB (fs.take (k + 1)) s = findB (fs.take k) s := by
  unfold findB
  rw [List.take_add_one, h]
  simp [hs]
theorem findB_len (fs : List Fd) (s : ByteArray) (k : Nat) : (findB (fs.take k) s).length ≤ k := by
  unfold findB
  rw [List.length_map]
  exact Nat.le_trans (List.length_filter_le _ _) (by rw [List.length_take]; omega)

set_option maxRecDepth 100000 in
theorem find_any (A : Option Addr) (n c : Nat) (fs : List Fd) (s : ByteArray) (w : World) (h : FRead w w.heap.size A n fs) (hn : n ≤ 100000) (hs : s.size ≤ 1048576) (hfs : ∀ f ∈ fs, f.1.size ≤ 1048576) :
   Calls Tryd.prog 9 #[.slice A n c, .string s] w fun e w' => (∃ v, e = .returned v ∧ w'.ownsRow w.heap.size 9 1 v (findB fs s).length ((findB fs s).map Value.string)) ∧ Below w.heap.size w w' := by
  obtain ⟨i0, hi, hz0, hz1, hz2⟩ := info_parts infoS
  obtain ⟨hlen, hcells⟩ := h
  have HL := Lib.hid hlen
  have HFS := Lib.hid hfs
  clear hlen hfs
  go_enter Tryd.func9, Tryd.ntmps9
  go_wp2_with fail
  go_loopw [4, 9] (fun v i wr => ∃ k : Nat, k ≤ n ∧ i = .int .i64 k ∧ wr.ownsRow w.heap.size 9 1 v (findB (fs.take k) s).length ((findB (fs.take k) s).map Value.string) ∧ Below w.heap.size w wr)
    (fun _ i _ => n - (intOf i).toNat)
  case atStart => exact ⟨0, Nat.zero_le _, rfl, World.ownsRow_nil _ _ _ _, Below.refl _ _⟩
  case round =>
    obtain ⟨k, hk, rfl, hown, hb⟩ := hrel
    by_cases hlt : k < n
    · obtain ⟨b, off, rfl, hbb, hc⟩ := hcells (by omega)
      obtain ⟨f, hf⟩ : ∃ f, fs[k]? = some f := ⟨fs[k]'(by rw [HL.out]; exact hlt), List.getElem?_eq_getElem (by rw [HL.out]; exact hlt)⟩
      have hc1 := (hb.cell (p := ⟨b, off + k * 2, none⟩) hbb).trans (hc k f hf).1
      have hc2 := (hb.cell (p := ⟨b, off + k * 2 + 1, none⟩) hbb).trans (hc k f hf).2
      have hsz := HFS.out f (List.mem_of_getElem? hf)
      have HF := Lib.hid hf
      have HLN := Lib.hid (findB_len fs s k)
      clear hf hc hcells
      obtain ⟨f1, f2⟩ := f
      simp only at hc1 hc2 hsz
      have HO := Lib.hid hown
      clear hown
      have hbx : Below w.heap.size w (wr.alloc (.cells #[.string f1, .string f2] 57)) := hb.alloc hb.size _
      cases hsm : sameB f1.data.toList s.data.toList
      · have HSM := Lib.hid hsm
        clear hsm
        go_wp2_with fail
        refine (Same_any _ _ _ (by omega) (by omega)).mono ?_
        rintro e w' ⟨rfl, hb2⟩
        rw [HSM.out]
        have hb3 := hbx.trans (hb2.mono hbx.size)
        go_wp2_with fail
        go_roundw
        case rel => exact ⟨k + 1, by omega, by go_num, by rw [findB_miss fs s k _ HF.out HSM.out]; exact own_below (HO.out.alloc _) hb2, hb3⟩
        case measure => simp [intOf]; omega
      · have HSM := Lib.hid hsm
        clear hsm
        go_wp2_with fail
        refine (Same_any _ _ _ (by omega) (by omega)).mono ?_
        rintro e w' ⟨rfl, hb2⟩
        rw [HSM.out]
        have hb3 := hbx.trans (hb2.mono hbx.size)
        have hcv : w'.cell? ⟨wr.heap.size, 1, none⟩ = some (.string f2) := (hb2.cell (p := ⟨wr.heap.size, 1, none⟩) (by simp)).trans (cell_alloc_at _ _ _ _)
        have HO2 := Lib.hid (own_below (HO.out.alloc _) hb2)
        clear hc1 hc2 hb hbx hb2
        go_wp2_with (at_builtin; refine wpList_append_own _ rfl _ _ 29 rfl w.heap.size 9 i0 _ 1 16 Tryd.underlying29 hi hz0 hz1 hz2 rfl (by decide) _ _ _ rfl (HO2.out.alloc _) ⟨w'.heap.size, 0, none⟩ 1 1 [.string f2] rfl rfl (cell_one_new _ _ _) (by simp [Value.oneCell']) (by have := HLN.out; unfold maxLen; omega) (by have := HLN.out; omega) (by have := hb3.size; simp; omega) ?_; intro v2 w2 hown2 hg2 _)
        have hb4 : Below w.heap.size w w2 := (hb3.alloc hb3.size _).grown hg2 (by have := hb3.size; simp; omega) (fun j hj => ((HO.out).lt j hj).1)
        have e1 := findB_hit fs s k _ HF.out HSM.out
        go_roundw
        case rel => exact ⟨k + 1, by omega, by go_num, by rw [e1]; simpa using hown2, hb4⟩
        case measure => simp [intOf]; omega
    · obtain rfl : k = n := by omega
      clear hcells
      rw [List.take_of_length_le (by rw [HL.out]; exact Nat.le_refl _)] at hown
      have HO := Lib.hid hown
      clear hown
      go_wp2_with fail
      go_ret
      exact ⟨⟨_, rfl, HO.out⟩, hb⟩

set_option maxRecDepth 100000 in
theorem rfind_any (A : Option Addr) (n c : Nat) (fs : List Fd) (s : ByteArray) (w : World) (h : FRead w w.heap.size A n fs) (hn : n ≤ 100000) (hs : s.size ≤ 1048576) (hfs : ∀ f ∈ fs, f.1.size ≤ 1048576) :
   Calls Tryd.prog 11 #[.slice A n c, .string s] w fun e w' => (∃ v, e = .returned v ∧ w'.ownsRow w.heap.size 9 1 v (findB fs s).length ((findB fs s).map Value.string)) ∧ Below w.heap.size w w' := by
  obtain ⟨i0, hi, hz0, hz1, hz2⟩ := info_parts infoS
  obtain ⟨hlen, hcells⟩ := h
  have HL := Lib.hid hlen
  have HFS := Lib.hid hfs
  clear hlen hfs
  go_enter Tryd.func11, Tryd.ntmps11
  go_wp2_with fail
  go_loopw [5, 6] (fun v i wr => ∃ k : Nat, k ≤ n ∧ i = .int .i64 k ∧ wr.ownsRow w.heap.size 9 1 v (findB (fs.take k) s).length ((findB (fs.take k) s).map Value.string) ∧ Below w.heap.size w wr)
    (fun _ i _ => n - (intOf i).toNat)
  case atStart => exact ⟨0, Nat.zero_le _, rfl, World.ownsRow_nil _ _ _ _, Below.refl _ _⟩
  case round =>
    obtain ⟨k, hk, rfl, hown, hb⟩ := hrel
    by_cases hlt : k < n
    · obtain ⟨b, off, rfl, hbb, hc⟩ := hcells (by omega)
      obtain ⟨f, hf⟩ : ∃ f, fs[k]? = some f := ⟨fs[k]'(by rw [HL.out]; exact hlt), List.getElem?_eq_getElem (by rw [HL.out]; exact hlt)⟩
      have hc1 := (hb.cell (p := ⟨b, off + k * 2, none⟩) hbb).trans (hc k f hf).1
      have hc2 := (hb.cell (p := ⟨b, off + k * 2 + 1, none⟩) hbb).trans (hc k f hf).2
      have hsz := HFS.out f (List.mem_of_getElem? hf)
      have HF := Lib.hid hf
      have HLN := Lib.hid (findB_len fs s k)
      clear hf hc hcells
      obtain ⟨f1, f2⟩ := f
      simp only at hc1 hc2 hsz
      have HO := Lib.hid hown
      clear hown
      cases hsm : sameB f1.data.toList s.data.toList
      · have HSM := Lib.hid hsm
        clear hsm
        go_wp2_with fail
        refine (rSame_any _ _ _ (by omega) (by omega)).mono ?_
        rintro e w' ⟨rfl, hb2⟩
        rw [HSM.out]
        have hb3 := hb.trans (hb2.mono hb.size)
        go_wp2_with fail
        go_roundw
        case rel => exact ⟨k + 1, by omega, by go_num, by rw [findB_miss fs s k _ HF.out HSM.out]; exact own_below HO.out hb2, hb3⟩
        case measure => simp [intOf]; omega
      · have HSM := Lib.hid hsm
        clear hsm
        go_wp2_with fail
        refine (rSame_any _ _ _ (by omega) (by omega)).mono ?_
        rintro e w' ⟨rfl, hb2⟩
        rw [HSM.out]
        have hb3 := hb.trans (hb2.mono hb.size)
        have hcv : w'.cell? ⟨b, off + k * 2 + 1, none⟩ = some (.string f2) := (hb2.cell (p := ⟨b, off + k * 2 + 1, none⟩) (by have := hb.size; simp; omega)).trans hc2
        have HO2 := Lib.hid (own_below HO.out hb2)
        clear hc1 hc2 hb hb2
        go_wp2_with (at_builtin; refine wpList_append_own _ rfl _ _ 29 rfl w.heap.size 9 i0 _ 1 16 Tryd.underlying29 hi hz0 hz1 hz2 rfl (by decide) _ _ _ rfl (HO2.out.alloc _) ⟨w'.heap.size, 0, none⟩ 1 1 [.string f2] rfl rfl (cell_one_new _ _ _) (by simp [Value.oneCell']) (by have := HLN.out; unfold maxLen; omega) (by have := HLN.out; omega) (by have := hb3.size; simp; omega) ?_; intro v2 w2 hown2 hg2 _)
        have hb4 : Below w.heap.size w w2 := (hb3.alloc hb3.size _).grown hg2 (by have := hb3.size; simp; omega) (fun j hj => ((HO.out).lt j hj).1)
        have e1 := findB_hit fs s k _ HF.out HSM.out
        go_roundw
        case rel => exact ⟨k + 1, by omega, by go_num, by rw [e1]; simpa using hown2, hb4⟩
        case measure => simp [intOf]; omega
    · obtain rfl : k = n := by omega
      clear hcells
      rw [List.take_of_length_le (by rw [HL.out]; exact Nat.le_refl _)] at hown
      have HO := Lib.hid hown
      clear hown
      go_wp2_with fail
      go_ret
      exact ⟨⟨_, rfl, HO.out⟩, hb⟩
end Go.Proofs.YtonlfplloenfcaaDoor
