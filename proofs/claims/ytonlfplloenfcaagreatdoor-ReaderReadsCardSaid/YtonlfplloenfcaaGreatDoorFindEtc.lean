/-
  heads.Find, footmanref12.Find: the values of all fields of a name.
  SameBytes, LeftBytes, TwinBytes, at what makes them true.
  What the reading of a head answers.
-/
import Derived.Test.YtonlfplloenfcaaGreatDoorReflEtc
import Derived.Maps.AppendAt
import Derived.Lib.UnsafeStr
import Derived.BigQuiet
import Derived.Test.YtonlfplloenfcaaGreatDoorHeadSpec
namespace Go.Proofs.YtonlfplloenfcaaGreatDoor
open Go.RowKit

def findB (fs : List Fd) (s : ByteArray) : List ByteArray := (fs.filter fun f => sameB f.1.data.toList s.data.toList).map (·.2)
theorem findB_hit (fs : List Fd) (s : ByteArray) (k : Nat) (f : Fd) (h : fs[k]? = some f) (hs : sameB f.1.data.toList s.data.toList = true) : findB (fs.take (k + 1)) s = findB (fs.take k) s ++ [f.2] := by
  unfold findB
  rw [List.take_add_one, h]
  simp [hs]
theorem findB_miss (fs : List Fd) (s : ByteArray) (k : Nat) (f : Fd) (h : fs[k]? = some f) (hs : sameB f.1.data.toList s.data.toList = false) : findB (fs.take (k + 1)) s = findB (fs.take k) s := by
  unfold findB
  rw [List.take_add_one, h]
  simp [hs]
theorem findB_len (fs : List Fd) (s : ByteArray) (k : Nat) : (findB (fs.take k) s).length ≤ k := by
  unfold findB
  rw [List.length_map]
  exact Nat.le_trans (List.length_filter_le _ _) (by rw [List.length_take]; omega)

set_option maxRecDepth 100000 in
theorem find_any (A : Option Addr) (n c : Nat) (fs : List Fd) (s : ByteArray) (w : World) (h : FRead w w.heap.size A n fs) (hn : n ≤ 1000000) (hs : s.size ≤ 1048576) (hfs : ∀ f ∈ fs, f.1.size ≤ 1048576) :
   Calls Tryz.prog 46 #[.slice A n c, .string s] w fun e w' => (∃ v, e = .returned v ∧ w'.ownsRow w.heap.size 9 1 v (findB fs s).length ((findB fs s).map Value.string)) ∧ Below w.heap.size w w' := by
  obtain ⟨i0, hi, hz0, hz1, hz2⟩ := info_parts infoS
  obtain ⟨hlen, hcells⟩ := h
  have HL := Lib.hid hlen
  have HFS := Lib.hid hfs
  clear hlen hfs
  go_enter Tryz.func46, Tryz.ntmps46
  go_wp2_with fail
  go_loopw [4, 9] (fun v i wr => ∃ k : Nat, k ≤ n ∧ i = .int .i64 k ∧ wr.ownsRow w.heap.size 9 1 v (findB (fs.take k) s).length ((findB (fs.take k) s).map Value.string) ∧ Below w.heap.size w wr)
    (fun _ i _ => n - (intOf i).toNat)
  case atStart => exact ⟨0, Nat.zero_le _, rfl, World.ownsRow_nil _ _ _ _, Below.refl _ _⟩
  case round =>
    obtain ⟨k, hk, rfl, hown, hb⟩ := hrel
    by_cases hlt : k < n
    · obtain ⟨b, off, rfl, hbb, hc⟩ := hcells (by omega)
      obtain ⟨f, hf⟩ : ∃ f, fs[k]? = some f := ⟨fs[k]'(by rw [HL.out]; exact hlt), List.getElem?_eq_getElem (by rw [HL.out]; exact hlt)⟩
      have hc1 := (hb.cell (p := ⟨b, off + k * 2, none⟩) hbb).trans (hc k f hf).1
      have hc2 := (hb.cell (p := ⟨b, off + k * 2 + 1, none⟩) hbb).trans (hc k f hf).2
      have hsz := HFS.out f (List.mem_of_getElem? hf)
      have HF := Lib.hid hf
      have HLN := Lib.hid (findB_len fs s k)
      clear hf hc hcells
      obtain ⟨f1, f2⟩ := f
      simp only at hc1 hc2 hsz
      have HO := Lib.hid hown
      clear hown
      have hbx : Below w.heap.size w (wr.alloc (.cells #[.string f1, .string f2] 63)) := hb.alloc hb.size _
      cases hsm : sameB f1.data.toList s.data.toList
      · have HSM := Lib.hid hsm
        clear hsm
        go_wp2_with fail
        refine (Same_any _ _ _ (by omega) (by omega)).mono ?_
        rintro e w' ⟨rfl, hb2⟩
        rw [HSM.out]
        have hb3 := hbx.trans (hb2.mono hbx.size)
        go_wp2_with fail
        go_roundw
        case rel => exact ⟨k + 1, by omega, by go_num, by rw [findB_miss fs s k _ HF.out HSM.out]; exact own_below (HO.out.alloc _) hb2, hb3⟩
        case measure => simp [intOf]; omega
      · have HSM := Lib.hid hsm
        clear hsm
        go_wp2_with fail
        refine (Same_any _ _ _ (by omega) (by omega)).mono ?_
        rintro e w' ⟨rfl, hb2⟩
        rw [HSM.out]
        have hb3 := hbx.trans (hb2.mono hbx.size)
        have hcv : w'.cell? ⟨wr.heap.size, 1, none⟩ = some (.string f2) := (hb2.cell (p := ⟨wr.heap.size, 1, none⟩) (by simp)).trans (cell_alloc_at _ _ _ _)
        have HO2 := Lib.hid (own_below (HO.out.alloc _) hb2)
        clear hc1 hc2 hb hbx hb2
        go_wp2_with (at_builtin; refine wpList_append_own _ rfl _ _ 61 rfl w.heap.size 9 i0 _ 1 16 Tryz.underlying61 hi hz0 hz1 hz2 rfl (by decide) _ _ _ rfl (HO2.out.alloc _) ⟨w'.heap.size, 0, none⟩ 1 1 [.string f2] rfl rfl (cell_one_new _ _ _) (by simp [Value.oneCell']) (by have := HLN.out; unfold maxLen; omega) (by have := HLN.out; omega) (by have := hb3.size; simp; omega) ?_; intro v2 w2 hown2 hg2 _)
        have hb4 : Below w.heap.size w w2 := (hb3.alloc hb3.size _).grown hg2 (by have := hb3.size; simp; omega) (fun j hj => ((HO.out).lt j hj).1)
        have e1 := findB_hit fs s k _ HF.out HSM.out
        go_roundw
        case rel => exact ⟨k + 1, by omega, by go_num, by rw [e1]; simpa using hown2, hb4⟩
        case measure => simp [intOf]; omega
    · obtain rfl : k = n := by omega
      clear hcells
      rw [List.take_of_length_le (by rw [HL.out]; exact Nat.le_refl _)] at hown
      have HO := Lib.hid hown
      clear hown
      go_wp2_with fail
      go_ret
      exact ⟨⟨_, rfl, HO.out⟩, hb⟩

set_option maxRecDepth 100000 in
theorem rfind_any (A : Option Addr) (n c : Nat) (fs : List Fd) (s : ByteArray) (w : World) (h : FRead w w.heap.size A n fs) (hn : n ≤ 100000) (hs : s.size ≤ 1048576) (hfs : ∀ f ∈ fs, f.1.size ≤ 1048576) :
   Calls Tryz.prog 123 #[.slice A n c, .string s] w fun e w' => (∃ v, e = .returned v ∧ w'.ownsRow w.heap.size 9 1 v (findB fs s).length ((findB fs s).map Value.string)) ∧ Below w.heap.size w w' := by
  obtain ⟨i0, hi, hz0, hz1, hz2⟩ := info_parts infoS
  obtain ⟨hlen, hcells⟩ := h
  have HL := Lib.hid hlen
  have HFS := Lib.hid hfs
  clear hlen hfs
  go_enter Tryz.func123, Tryz.ntmps123
  go_wp2_with fail
  go_loopw [5, 6] (fun v i wr => ∃ k : Nat, k ≤ n ∧ i = .int .i64 k ∧ wr.ownsRow w.heap.size 9 1 v (findB (fs.take k) s).length ((findB (fs.take k) s).map Value.string) ∧ Below w.heap.size w wr)
    (fun _ i _ => n - (intOf i).toNat)
  case atStart => exact ⟨0, Nat.zero_le _, rfl, World.ownsRow_nil _ _ _ _, Below.refl _ _⟩
  case round =>
    obtain ⟨k, hk, rfl, hown, hb⟩ := hrel
    by_cases hlt : k < n
    · obtain ⟨b, off, rfl, hbb, hc⟩ := hcells (by omega)
      obtain ⟨f, hf⟩ : ∃ f, fs[k]? = some f := ⟨fs[k]'(by rw [HL.out]; exact hlt), List.getElem?_eq_getElem (by rw [HL.out]; exact hlt)⟩
      have hc1 := (hb.cell (p := ⟨b, off + k * 2, none⟩) hbb).trans (hc k f hf).1
      have hc2 := (hb.cell (p := ⟨b, off + k * 2 + 1, none⟩) hbb).trans (hc k f hf).2
      have hsz := HFS.out f (List.mem_of_getElem? hf)
      have HF := Lib.hid hf
      have HLN := Lib.hid (findB_len fs s k)
      clear hf hc hcells
      obtain ⟨f1, f2⟩ := f
      simp only at hc1 hc2 hsz
      have HO := Lib.hid hown
      clear hown
      cases hsm : sameB f1.data.toList s.data.toList
      · have HSM := Lib.hid hsm
        clear hsm
        go_wp2_with fail
        refine (rSame_any _ _ _ (by omega) (by omega)).mono ?_
        rintro e w' ⟨rfl, hb2⟩
        rw [HSM.out]
        have hb3 := hb.trans (hb2.mono hb.size)
        go_wp2_with fail
        go_roundw
        case rel => exact ⟨k + 1, by omega, by go_num, by rw [findB_miss fs s k _ HF.out HSM.out]; exact own_below HO.out hb2, hb3⟩
        case measure => simp [intOf]; omega
      · have HSM := Lib.hid hsm
        clear hsm
        go_wp2_with fail
        refine (rSame_any _ _ _ (by omega) (by omega)).mono ?_
        rintro e w' ⟨rfl, hb2⟩
        rw [HSM.out]
        have hb3 := hb.trans (hb2.mono hb.size)
        have hcv : w'.cell? ⟨b, off + k * 2 + 1, none⟩ = some (.string f2) := (hb2.cell (p := ⟨b, off + k * 2 + 1, none⟩) (by have := hb.size; simp; omega)).trans hc2
        have HO2 := Lib.hid (own_below HO.out hb2)
        clear hc1 hc2 hb hb2
        go_wp2_with (at_builtin; refine wpList_append_own _ rfl _ _ 61 rfl w.heap.size 9 i0 _ 1 16 Tryz.underlying61 hi hz0 hz1 hz2 rfl (by decide) _ _ _ rfl (HO2.out.alloc _) ⟨w'.heap.size, 0, none⟩ 1 1 [.string f2] rfl rfl (cell_one_new _ _ _) (by simp [Value.oneCell']) (by have := HLN.out; unfold maxLen; omega) (by have := HLN.out; omega) (by have := hb3.size; simp; omega) ?_; intro v2 w2 hown2 hg2 _)
        have hb4 : Below w.heap.size w w2 := (hb3.alloc hb3.size _).grown hg2 (by have := hb3.size; simp; omega) (fun j hj => ((HO.out).lt j hj).1)
        have e1 := findB_hit fs s k _ HF.out HSM.out
        go_roundw
        case rel => exact ⟨k + 1, by omega, by go_num, by rw [e1]; simpa using hown2, hb4⟩
        case measure => simp [intOf]; omega
    · obtain rfl : k = n := by omega
      clear hcells
      rw [List.take_of_length_le (by rw [HL.out]; exact Nat.le_refl _)] at hown
      have HO := Lib.hid hown
      clear hown
      go_wp2_with fail
      go_ret
      exact ⟨⟨_, rfl, HO.out⟩, hb⟩
end Go.Proofs.YtonlfplloenfcaaGreatDoor
namespace Go.Proofs.YtonlfplloenfcaaGreatDoor
open Go.RowKit

theorem bytes_at {l : List UInt8} {k : Nat} {u : Value} (h : (Lib.byteCells l)[k]? = some u) : ∃ b : UInt8, l[k]? = some b ∧ u = .int .u8 (b.toNat : Int) := by
  unfold Lib.byteCells at h
  rw [List.getElem?_map] at h
  cases h2 : l[k]? with
  | none => simp [h2] at h
  | some b => exact ⟨b, rfl, by simpa [h2] using h.symm⟩
theorem infoB : (Tryz.prog.info? 5).map (fun i => (i.zero, i.size, i.bytes)) = some (some (.int .u8 0), 1, 1) := by kernel_rfl

set_option maxRecDepth 100000 in
theorem samebytes_any (A A2 : Option Addr) (n c c2 B : Nat) (l : List UInt8) (w : World) (h1 : Lies w B A n (Lib.byteCells l)) (h2 : Lies w B A2 n (Lib.byteCells l)) (hn : n ≤ 140737488355328) :
   Calls Tryz.prog 26 #[.slice A n c, .slice A2 n c2] w fun e w' => e = .returned (.bool true) ∧ ∃ q, w' = w.drewN q := by
  have H1 := Lib.hid h1
  have H2 := Lib.hid h2
  clear h1 h2
  go_enter Tryz.func26, Tryz.ntmps26
  go_wp2_with fail
  go_loopw [5] (fun i wr => ∃ k : Nat, k ≤ n ∧ i = .int .i64 k ∧ ∃ q, wr = w.drewN q) (fun i _ => n - (intOf i).toNat)
  case atStart => exact ⟨0, Nat.zero_le _, rfl, 0, rfl⟩
  case round =>
    obtain ⟨k, hk, rfl, q, rfl⟩ := hrel
    by_cases hlt : k < n
    · obtain ⟨b1, o1, u1, rfl, _, e1, c1⟩ := H1.out.at_ hlt
      obtain ⟨b2, o2, u2, rfl, _, e2, c2'⟩ := H2.out.at_ hlt
      rw [e1] at e2
      obtain rfl : u1 = u2 := by simpa using e2
      obtain ⟨x, hx, rfl⟩ := bytes_at e1
      clear e1 e2 hx
      generalize (x.toNat : Int) = z at *
      go_wp2_with fail
      go_quiet (fail)
      go_wp2_with fail
      go_roundw
      case rel => exact ⟨k + 1, by omega, by go_num, _, rfl⟩
      case measure => simp [intOf]; omega
    · go_wp2_with fail
      go_ret
      exact ⟨rfl, _, rfl⟩
set_option maxRecDepth 100000 in
theorem leftbytes_any (g : Nat) (A2 : Option Addr) (n c2 : Nat) (l : List UInt8) (w : World) (h1 : Lies w w.heap.size (some ⟨g, 0, none⟩) n (Lib.byteCells l)) (h2 : Lies w w.heap.size A2 n (Lib.byteCells l)) (hn : n ≤ 140737488355328)
     (hs1 : w.cell? ⟨g, n, none⟩ = some (.int .u8 77)) :
   Calls Tryz.prog 35 #[.slice (some ⟨g, 0, none⟩) n (n + 1), .slice A2 n c2] w fun e w' => e = .returned (.bool true) ∧ Below w.heap.size w w' := by
  have hd : decide ((n : Int) + 1 ≤ (n : Int)) = false := decide_eq_false (by omega)
  have H1 := Lib.hid h1
  have H2 := Lib.hid h2
  clear h1 h2
  go_enter Tryz.func35, Tryz.ntmps35
  go_wp2_with fail
  go_loopw [5] (fun i wr => ∃ k : Nat, k ≤ n ∧ i = .int .i64 k ∧ ∃ q, wr = w.drewN q) (fun i _ => n - (intOf i).toNat)
  case atStart => exact ⟨0, Nat.zero_le _, rfl, 0, rfl⟩
  case round =>
    obtain ⟨k, hk, rfl, q, rfl⟩ := hrel
    by_cases hlt : k < n
    · obtain ⟨b1, o1, u1, ea, _, e1, c1⟩ := H1.out.at_ hlt
      obtain ⟨b2, o2, u2, rfl, _, e2, c2'⟩ := H2.out.at_ hlt
      rw [e1] at e2
      obtain rfl : u1 = u2 := by simpa using e2
      obtain ⟨x, hx, rfl⟩ := bytes_at e1
      simp only [Option.some.injEq, Addr.mk.injEq, and_true] at ea
      obtain ⟨rfl, rfl⟩ := ea
      rw [Nat.zero_add] at c1
      clear e1 e2 hx
      generalize (x.toNat : Int) = z at *
      go_wp2_with fail
      go_quiet (fail)
      go_wp2_with fail
      go_roundw
      case rel => exact ⟨k + 1, by omega, by go_num, _, rfl⟩
      case measure => simp [intOf]; omega
    · obtain rfl : k = n := by omega
      obtain ⟨W, hs3, hbW, hW⟩ : ∃ W : World, W.cell? ⟨g, k, none⟩ = some (.int .u8 77) ∧ Below w.heap.size w W ∧ w.drewN q = W :=
        ⟨w.drewN q, hs1, below_drewN (Below.refl _ _) _, rfl⟩
      rw [hW]
      clear hW hs1
      go_wp2_with fail
      go_ret
      exact ⟨rfl, hbW⟩
theorem bytes_succ (l : List UInt8) (k : Nat) (b : UInt8) (h : l[k]? = some b) : Lib.byteCells (l.take (k + 1)) = Lib.byteCells (l.take k) ++ [.int .u8 (b.toNat : Int)] := by
  rw [List.take_add_one, h]
  simp [Lib.byteCells]
set_option maxRecDepth 100000 in
theorem twinb_any (A : Option Addr) (n c : Nat) (l : List UInt8) (w : World) (h : Lies w w.heap.size A n (Lib.byteCells l)) (hn : n ≤ 140737488350000) :
   Calls Tryz.prog 31 #[.slice A n c] w fun e w' => e = .returned (.slice (some ⟨w.heap.size, 0, none⟩) n (n + 1)) ∧
     w'.ownsRow w.heap.size 5 1 (.slice (some ⟨w.heap.size, 0, none⟩) (n + 1) (n + 1)) (n + 1) (Lib.byteCells l ++ [.int .u8 77]) ∧ Below w.heap.size w w' := by
  obtain ⟨i0, hi, hz0, hz1, hz2⟩ := info_parts infoB
  have HL := Lib.hid (show l.length = n by simpa [Lib.byteCells] using h.1)
  have H := Lib.hid h
  clear h
  go_enter Tryz.func31, Tryz.ntmps31
  go_wp2_with (at_make; refine wpList_make_own _ rfl _ _ 23 rfl w.heap.size 5 i0 _ 1 Tryz.underlying23 hi hz0 hz1 _ _ _ (n + 1) rfl rfl (by omega) (by rw [hz2]; omega) (by unfold maxLen; omega) (Nat.le_refl _) ?_; intro w1 hown1 hg1)
  have hb1 : Below w.heap.size w w1 := (Below.refl _ _).grown hg1 (Nat.le_refl _) (by intro k hk; cases hk)
  clear hg1
  go_loopw [3, 4] (fun t i wr => ∃ k : Nat, k ≤ n ∧ i = .int .i64 k ∧ t = .slice (some ⟨w.heap.size, 0, none⟩) k (n + 1) ∧ wr.ownsRow w.heap.size 5 1 (.slice (some ⟨w.heap.size, 0, none⟩) k (n + 1)) k (Lib.byteCells (l.take k)) ∧ Below w.heap.size w wr)
    (fun _ i _ => n - (intOf i).toNat)
  case atStart => exact ⟨0, Nat.zero_le _, rfl, rfl, by simpa [Lib.byteCells] using hown1, hb1⟩
  case round =>
    obtain ⟨k, hk, rfl, rfl, hown, hb⟩ := hrel
    clear hown1 hb1
    by_cases hlt : k < n
    · obtain ⟨b, off, u, rfl, hbb, e1, hc⟩ := H.out.at_ hlt
      obtain ⟨x, hx, rfl⟩ := bytes_at e1
      have hc1 := (hb.cell (p := ⟨b, off + k, none⟩) hbb).trans hc
      have HX := Lib.hid hx
      clear e1 hx hc
      go_wp2_with (at_builtin; refine wpList_append_fits _ rfl _ _ 23 rfl w.heap.size 5 i0 1 Tryz.underlying23 hi hz1 w.heap.size k (n + 1) _ rfl (hown.alloc _) ⟨wr.heap.size, 0, none⟩ 1 1 [.int .u8 (x.toNat : Int)] rfl rfl (cell_one_new _ _ _) (by simp [Value.oneCell']) (by omega) ?_; intro w2 hown2 hg2)
      have hb2 : Below w.heap.size w w2 := (hb.alloc hb.size _).grown hg2 (by have := hb.size; simp; omega) (by intro j hj; cases hj; exact Nat.le_refl _)
      rw [← bytes_succ l k _ HX.out] at hown2
      go_roundw
      case rel => exact ⟨k + 1, by omega, by go_num, rfl, hown2, hb2⟩
      case measure => simp [intOf]; omega
    · obtain rfl : k = n := by omega
      rw [List.take_of_length_le (by rw [HL.out]; exact Nat.le_refl _)] at hown
      go_wp2_with (at_builtin; refine wpList_append_fits _ rfl _ _ 23 rfl w.heap.size 5 i0 1 Tryz.underlying23 hi hz1 w.heap.size k (k + 1) _ rfl (hown.alloc _) ⟨wr.heap.size, 0, none⟩ 1 1 [.int .u8 77] rfl rfl (cell_one_new _ _ _) (by simp [Value.oneCell']) (by omega) ?_; intro w2 hown2 hg2)
      go_ret
      exact ⟨rfl, hown2, (hb.alloc hb.size _).grown hg2 (by have := hb.size; simp; omega) (by intro j hj; cases hj; exact Nat.le_refl _)⟩
end Go.Proofs.YtonlfplloenfcaaGreatDoor
namespace Go.Proofs.YtonlfplloenfcaaGreatDoor
open Go.RowKit

/-- What a head's lines but the first answer. -/
def fieldsE (ls : List (List UInt8)) : Int := if ls.all fieldOK then (if 256 < ls.length then 3 else 0) else 8
def fieldsF (ls : List (List UInt8)) : List Fd := if fieldsE ls = 0 then ls.map fieldOf else []

theorem fieldsE_bad {ls : List (List UInt8)} {k : Nat} {x : List UInt8} (h : ls[k]? = some x) (hx : fieldOK x = false) : fieldsE ls = 8 := by
  unfold fieldsE
  rw [if_neg]
  intro hc
  have := List.all_eq_true.1 hc x (List.mem_of_getElem? h)
  rw [hx] at this
  cases this
theorem fieldsF_bad {ls : List (List UInt8)} (h : fieldsE ls ≠ 0) : fieldsF ls = [] := by unfold fieldsF; rw [if_neg h]
theorem fcells_snoc (fs : List Fd) (f : Fd) : fcells (fs ++ [f]) = fcells fs ++ [.string f.1, .string f.2] := by unfold fcells; rw [List.flatMap_append]; rfl
theorem all_take {ls : List (List UInt8)} {k : Nat} {x : List UInt8} (h : ls[k]? = some x) (ha : (ls.take k).all fieldOK = true) (hx : fieldOK x = true) : (ls.take (k + 1)).all fieldOK = true := by
  rw [List.take_add_one, h, List.all_append, ha]
  simp [hx]
theorem map_take {ls : List (List UInt8)} {k : Nat} {x : List UInt8} (h : ls[k]? = some x) : (ls.take (k + 1)).map fieldOf = (ls.take k).map fieldOf ++ [fieldOf x] := by
  rw [List.take_add_one, h, List.map_append]
  rfl

/-- How a head's first line is read. -/
structure Asks where
  ok : List UInt8 → Bool
  m : List UInt8 → ByteArray
  t : List UInt8 → ByteArray
  s : List UInt8 → Int
def statusK : Asks := ⟨statusOK, fun _ => ⟨#[]⟩, fun _ => ⟨#[]⟩, fun l => (statusV l : Int)⟩
def firstL (l : List UInt8) : List UInt8 := (headLines l).headD []
def gE (K : Asks) (l : List UInt8) : Int := readE K.ok l
def gM (K : Asks) (l : List UInt8) : ByteArray := if gE K l = 0 then K.m (firstL l) else ⟨#[]⟩
def gT (K : Asks) (l : List UInt8) : ByteArray := if gE K l = 0 then K.t (firstL l) else ⟨#[]⟩
def gS (K : Asks) (l : List UInt8) : Int := if gE K l = 0 then K.s (firstL l) else 0
def gN (K : Asks) (l : List UInt8) : Int := if gE K l = 0 then endAt l + 4 else 0
def gF (K : Asks) (l : List UInt8) : List Fd := if gE K l = 0 then readF l else []
def ReadPost (K : Asks) (l : List UInt8) (w : World) (e : Ending) (w' : World) : Prop :=
  (∃ v, e = .returned (.tuple #[.agg #[.string (gM K l), .string (gT K l), .int .i64 (gS K l), v, .slice none 0 0], .int .i64 (gN K l), .int .i64 (gE K l)]) ∧
    w'.ownsRow w.heap.size 63 2 v (gF K l).length (fcells (gF K l))) ∧ Below w.heap.size w w'
theorem g_short {K : Asks} {l : List UInt8} (h : endAt l < 0) : gE K l = (if 65536 ≤ l.length then 3 else 7) := by
  unfold gE readE
  rw [if_pos h]
theorem g_first {K : Asks} {l : List UInt8} (h : 0 ≤ endAt l) (hk : K.ok (firstL l) = false) : gE K l = 8 := by
  unfold gE readE
  unfold firstL at hk
  rw [if_neg (by omega), hk]
  rfl
theorem g_fields {K : Asks} {l : List UInt8} (h : 0 ≤ endAt l) (hk : K.ok (firstL l) = true) : gE K l = fieldsE (headLines l).tail := by
  unfold gE readE fieldsE
  unfold firstL at hk
  rw [if_neg (by omega), hk]
  cases ha : (headLines l).tail.all fieldOK
  · rfl
  · rfl
theorem g_fieldsF {K : Asks} {l : List UInt8} (h : 0 ≤ endAt l) (hk : K.ok (firstL l) = true) : gF K l = fieldsF (headLines l).tail := by
  unfold gF fieldsF
  rw [g_fields h hk]
  rfl
theorem read_none {K : Asks} {l : List UInt8} {w w' : World} {E : Int} (h : gE K l = E) (h0 : E ≠ 0) (hb : Below w.heap.size w w') :
    ReadPost K l w (.returned (.tuple #[.agg #[.string ⟨#[]⟩, .string ⟨#[]⟩, .int .i64 0, .slice none 0 0, .slice none 0 0], .int .i64 0, .int .i64 E])) w' := by
  have hn : ¬ gE K l = 0 := by rw [h]; exact h0
  refine ⟨⟨.slice none 0 0, ?_, ?_⟩, hb⟩
  · unfold gM gT gS gN
    rw [if_neg hn, if_neg hn, if_neg hn, if_neg hn, h]
  · unfold gF
    rw [if_neg hn]
    exact World.ownsRow_nil _ _ _ _
theorem read_some {K : Asks} {l : List UInt8} {w w' : World} {v : Value} {s1 s2 : ByteArray} {st n : Int} (h : gE K l = 0) (h1 : s1 = K.m (firstL l)) (h2 : s2 = K.t (firstL l)) (h3 : st = K.s (firstL l)) (hn : n = endAt l + 4)
    (ho : w'.ownsRow w.heap.size 63 2 v (gF K l).length (fcells (gF K l))) (hb : Below w.heap.size w w') :
    ReadPost K l w (.returned (.tuple #[.agg #[.string s1, .string s2, .int .i64 st, v, .slice none 0 0], .int .i64 n, .int .i64 0])) w' := by
  refine ⟨⟨v, ?_, ho⟩, hb⟩
  unfold gM gT gS gN
  rw [if_pos h, if_pos h, if_pos h, if_pos h, h, h1, h2, h3, hn]
theorem lines_ne (l : List UInt8) : ∃ x r, headLines l = x :: r ∧ firstL l = x ∧ (headLines l).tail = r := by
  unfold firstL
  match h : headLines l, splitB_ne (l.take (endAt l).toNat) with
  | [], h0 => exact absurd h h0
  | x :: r, _ => exact ⟨x, r, rfl, rfl, rfl⟩
end Go.Proofs.YtonlfplloenfcaaGreatDoor
