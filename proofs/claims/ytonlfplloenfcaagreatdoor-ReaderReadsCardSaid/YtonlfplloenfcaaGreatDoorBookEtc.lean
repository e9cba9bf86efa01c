/-
  Book: lists, marks, Apart.
  Book: keepByte. (Written by book.py out of XBook.)
  Book: keepField. (Written by book.py out of XBook.)
  Book: keepByte, keepField: which blocks turn. (Written by bookk.py.)
-/
import Derived.Test.YtonlfplloenfcaaGreatDoorReflEtc
import Derived.Test.YtonlfplloenfcaaGreatDoorResultsEtc
import Derived.Deep.RegionLaw
import Derived.Test.YtonlfplloenfcaaGreatDoorKeepEtc
namespace Go.Proofs.YtonlfplloenfcaaGreatDoor
open Go.RowKit

theorem cell_three_new (w : World) (a b c : Value) (t : TypeId) : ∀ j u, [a, b, c][j]? = some u → (w.alloc (.cells #[a, b, c] t)).cell? ((⟨w.heap.size, 0, none⟩ : Addr).add j) = some u := by
  intro j u hu
  rw [Addr.add_lit, cell_alloc_at, Nat.zero_add]
  rw [← hu]
  simp [← List.getElem?_toArray]

theorem reads_three (w : World) (a b c : Value) (t : TypeId) (B : Nat) (hB : w.heap.size < B) : Reads (w.alloc (.cells #[a, b, c] t)) B 3 (some ⟨w.heap.size, 0, none⟩) 1 [a, b, c] :=
  ⟨rfl, fun _ => ⟨_, rfl, hB, cell_three_new w a b c t⟩⟩

end Go.Proofs.YtonlfplloenfcaaGreatDoor
namespace Go.Proofs.YtonlfplloenfcaaGreatDoor
open Go.RowKit

theorem infoHB : (Tryz.prog.info? 174).map (fun i => (i.zero, i.size, i.bytes)) = some (some (.agg #[.slice none 0 0, .slice none 0 0, .int .i64 0]), 3, 56) := by kernel_rfl

end Go.Proofs.YtonlfplloenfcaaGreatDoor
namespace Go.Proofs.YtonlfplloenfcaaGreatDoor
open Go.RowKit

theorem infoHF : (Tryz.prog.info? 181).map (fun i => (i.zero, i.size, i.bytes)) = some (some (.agg #[.slice none 0 0, .slice none 0 0, .int .i64 0]), 3, 56) := by kernel_rfl

end Go.Proofs.YtonlfplloenfcaaGreatDoor
namespace Go.Proofs.YtonlfplloenfcaaGreatDoor
open Go.RowKit

set_option maxRecDepth 100000 in
theorem keepbyte_keep (Bs g : Nat) (nb : Nat) (vb vi vt vf vc vs vg vm : Value) (A : Option Addr) (n c m : Nat) (xs : List Value) (w : World) (hnb : nb ≤ 1000000) (hm : m ≤ 1000000) (hBs : Bs ≤ g)
     (hB : Blk w g 42 #[.int .i64 nb, vb, vi, vt, vf, vc, vs, vg, vm]) (hown : w.ownsRow Bs 174 3 vb m xs) :
   Calls Tryz.prog 81 #[.pointer (some ⟨g, 0, none⟩), .slice A n c] w fun e w' => e = .returned (.tuple #[]) ∧
     ∃ vb', Blk w' g 42 #[.int .i64 (nb + 1 : Nat), vb', vi, vt, vf, vc, vs, vg, vm] ∧ w'.ownsRow Bs 174 3 vb' (m + 1) (xs ++ [.slice A n c, .slice none 0 0, .int .i64 (nb + 1 : Nat)]) ∧
       Keep (fun q => q = g ∨ vb.ownBlock = some q) w w' ∧ ∀ q, vb'.ownBlock = some q → vb.ownBlock = some q ∨ w.heap.size ≤ q := by
  obtain ⟨i0, hi, hz0, hz1, hz2⟩ := info_parts infoHB
  have c0 := hB.cell 0
  have f0 := hB.frozen 0
  simp at c0
  have hlt := hB.lt
  obtain ⟨W1, hW1, hB1, hO1, hb1, ht1⟩ : ∃ W1, w.setCell ⟨g, 0, none⟩ (.int .i64 (nb + 1 : Nat)) = W1 ∧ Blk W1 g 42 #[.int .i64 (nb + 1 : Nat), vb, vi, vt, vf, vc, vs, vg, vm] ∧ W1.ownsRow Bs 174 3 vb m xs ∧
      Below Bs w W1 ∧ Tys [42, 174] w W1 := by
    have ht : Tys [42] w (w.setCell ⟨g, 0, none⟩ (.int .i64 (nb + 1 : Nat))) := (Tys.refl _ _).setCell (p := ⟨g, 0, none⟩) hB.heap (by simp) _
    refine ⟨_, rfl, by simpa using hB.set_ 0 (.int .i64 (nb + 1 : Nat)), own_tys hown ht (by decide), (Below.refl _ _).setCell hBs _, ht.mono (by simp)⟩
  have hkp1 : Keep (fun q => q = g ∨ vb.ownBlock = some q) w W1 := by
    rw [← hW1]
    exact Keep.setCell (p := ⟨g, 0, none⟩) (Keep.refl (fun q => q = g ∨ vb.ownBlock = some q) w) (Or.inl rfl) _
  have hz1w : w.heap.size ≤ W1.heap.size := hkp1.size
  have HB := Lib.hid hB
  have HO := Lib.hid hown
  clear hB hown
  go_enter Tryz.func81, Tryz.ntmps81
  go_wp2_with fail
  have e1 : ((nb : Int) + 1) = ((nb + 1 : Nat) : Int) := by omega
  rw [e1, hW1]
  clear hW1 c0 f0 e1
  have c0 := hB1.cell 0
  have c3 := hB1.cell 1
  simp at c0 c3
  have hne : ∀ k, vb.ownBlock = some k → k ≠ g := fun k hk => by
    obtain ⟨cs, hh⟩ := own_heap hO1 hk
    rintro rfl
    rw [hB1.heap] at hh
    injection hh with hh
    injection hh with _ h2
    cases h2
  have hfin : ∀ (v2 : Value) (w2 : World), w2.ownsRow Bs 174 3 v2 (m + 1) (xs ++ [.slice A n c, .slice none 0 0, .int .i64 (nb + 1 : Nat)]) →
      ((W1.alloc (.cells #[.slice A n c, .slice none 0 0, .int .i64 (nb + 1 : Nat)] 174)).drew).grownBy w2 vb.ownBlock →
      (Blk w2 g 42 #[.int .i64 (nb + 1 : Nat), vb, vi, vt, vf, vc, vs, vg, vm] ∧ Keep (fun q => q = g ∨ vb.ownBlock = some q) w w2) := by
    intro v2 w2 h2 hg2
    have hlt1 := hB1.lt
    refine ⟨((hB1.alloc _).drew).grown hg2 (fun e => hne g e.symm rfl), hkp1.trans ((Keep.of_below ((Below.refl _ W1).alloc (Nat.le_refl _) (.cells #[.slice A n c, .slice none 0 0, .int .i64 (nb + 1 : Nat)] 174))).trans ?_)⟩
    have h3 := (Keep.of_grown hg2).mono (Y := (fun q => q = g ∨ vb.ownBlock = some q)) (fun k e => Or.inr e.symm)
    exact ⟨h3.os, h3.tape, h3.output, h3.size, h3.block⟩
  have HB1 := Lib.hid hB1
  have HO1 := Lib.hid hO1
  have HF := Lib.hid hfin
  have HL1 := Lib.hid hb1
  have ca : ∀ o, (W1.alloc o).cell? ⟨g, 1, none⟩ = some vb := fun o => (World.cell?_alloc_lt W1 o ⟨g, 1, none⟩ hB1.lt).trans c3
  clear hB1 hO1 ht1 hb1 hfin hne hkp1
  go_region_law ((refine step_append_any _ rfl _ _ 33 rfl Bs 174 i0 _ 3 56 Tryz.underlying33 hi hz0 hz1 hz2 rfl (by decide) vb m xs rfl (HO1.out.alloc _) (W1.heap.size + 1) _ 1 1 [.slice A n c, .slice none 0 0, .int .i64 (nb + 1 : Nat)] rfl (reads_three W1 _ _ _ _ _ (by omega)) (by simp [Value.oneCell']) (by unfold maxLen; omega) (by omega) (by have := HL1.out.size; simp; omega) ?_; intro v2 w2 hown2 hg2 hor2; have HOR := Lib.hid (fun q (hq : v2.ownBlock = some q) => (hor2.elim (fun e => Or.inl (e.symm.trans hq)) (fun e => Or.inr (by rw [hq] at e; injection e with e; rw [e]; show w.heap.size ≤ (W1.alloc _).heap.size; simp; omega)) : vb.ownBlock = some q ∨ w.heap.size ≤ q)); have hK := HF.out v2 w2 hown2 hg2; have HK := Lib.hid hK; have cc := hK.1.cell 1; have ff := hK.1.frozen 1; simp at cc; clear hK; have HW := Lib.hid hown2; obtain ⟨A2, c2, rfl⟩ := own_form hown2; clear hown2 hg2 hor2))
  all_goals
    go_end0
    have hs : ∀ u, Tys [42] w2 (w2.setCell ⟨g, 1, none⟩ u) := fun u => (Tys.refl _ _).setCell (p := ⟨g, 1, none⟩) HK.out.1.heap (by simp) _
    exact ⟨rfl, _, by simpa using HK.out.1.set_ 1 _, own_tys HW.out (hs _) (by decide), Keep.setCell (p := ⟨g, 1, none⟩) HK.out.2 (Or.inl rfl) _, HOR.out⟩
set_option maxRecDepth 100000 in
theorem keepfield_keep (Bs g : Nat) (nb : Nat) (vb vi vt vf vc vs vg vm : Value) (A : Option Addr) (n c m : Nat) (xs : List Value) (w : World) (hnb : nb ≤ 1000000) (hm : m ≤ 1000000) (hBs : Bs ≤ g)
     (hB : Blk w g 42 #[.int .i64 nb, vb, vi, vt, vf, vc, vs, vg, vm]) (hown : w.ownsRow Bs 181 3 vf m xs) :
   Calls Tryz.prog 152 #[.pointer (some ⟨g, 0, none⟩), .slice A n c] w fun e w' => e = .returned (.tuple #[]) ∧
     ∃ vf', Blk w' g 42 #[.int .i64 (nb + 1 : Nat), vb, vi, vt, vf', vc, vs, vg, vm] ∧ w'.ownsRow Bs 181 3 vf' (m + 1) (xs ++ [.slice A n c, .slice none 0 0, .int .i64 (nb + 1 : Nat)]) ∧
       Keep (fun q => q = g ∨ vf.ownBlock = some q) w w' ∧ ∀ q, vf'.ownBlock = some q → vf.ownBlock = some q ∨ w.heap.size ≤ q := by
  obtain ⟨i0, hi, hz0, hz1, hz2⟩ := info_parts infoHF
  have c0 := hB.cell 0
  have f0 := hB.frozen 0
  simp at c0
  have hlt := hB.lt
  obtain ⟨W1, hW1, hB1, hO1, hb1, ht1⟩ : ∃ W1, w.setCell ⟨g, 0, none⟩ (.int .i64 (nb + 1 : Nat)) = W1 ∧ Blk W1 g 42 #[.int .i64 (nb + 1 : Nat), vb, vi, vt, vf, vc, vs, vg, vm] ∧ W1.ownsRow Bs 181 3 vf m xs ∧
      Below Bs w W1 ∧ Tys [42, 181] w W1 := by
    have ht : Tys [42] w (w.setCell ⟨g, 0, none⟩ (.int .i64 (nb + 1 : Nat))) := (Tys.refl _ _).setCell (p := ⟨g, 0, none⟩) hB.heap (by simp) _
    refine ⟨_, rfl, by simpa using hB.set_ 0 (.int .i64 (nb + 1 : Nat)), own_tys hown ht (by decide), (Below.refl _ _).setCell hBs _, ht.mono (by simp)⟩
  have hkp1 : Keep (fun q => q = g ∨ vf.ownBlock = some q) w W1 := by
    rw [← hW1]
    exact Keep.setCell (p := ⟨g, 0, none⟩) (Keep.refl (fun q => q = g ∨ vf.ownBlock = some q) w) (Or.inl rfl) _
  have hz1w : w.heap.size ≤ W1.heap.size := hkp1.size
  have HB := Lib.hid hB
  have HO := Lib.hid hown
  clear hB hown
  go_enter Tryz.func152, Tryz.ntmps152
  go_wp2_with fail
  have e1 : ((nb : Int) + 1) = ((nb + 1 : Nat) : Int) := by omega
  rw [e1, hW1]
  clear hW1 c0 f0 e1
  have c0 := hB1.cell 0
  have c3 := hB1.cell 4
  simp at c0 c3
  have hne : ∀ k, vf.ownBlock = some k → k ≠ g := fun k hk => by
    obtain ⟨cs, hh⟩ := own_heap hO1 hk
    rintro rfl
    rw [hB1.heap] at hh
    injection hh with hh
    injection hh with _ h2
    cases h2
  have hfin : ∀ (v2 : Value) (w2 : World), w2.ownsRow Bs 181 3 v2 (m + 1) (xs ++ [.slice A n c, .slice none 0 0, .int .i64 (nb + 1 : Nat)]) →
      ((W1.alloc (.cells #[.slice A n c, .slice none 0 0, .int .i64 (nb + 1 : Nat)] 181)).drew).grownBy w2 vf.ownBlock →
      (Blk w2 g 42 #[.int .i64 (nb + 1 : Nat), vb, vi, vt, vf, vc, vs, vg, vm] ∧ Keep (fun q => q = g ∨ vf.ownBlock = some q) w w2) := by
    intro v2 w2 h2 hg2
    have hlt1 := hB1.lt
    refine ⟨((hB1.alloc _).drew).grown hg2 (fun e => hne g e.symm rfl), hkp1.trans ((Keep.of_below ((Below.refl _ W1).alloc (Nat.le_refl _) (.cells #[.slice A n c, .slice none 0 0, .int .i64 (nb + 1 : Nat)] 181))).trans ?_)⟩
    have h3 := (Keep.of_grown hg2).mono (Y := (fun q => q = g ∨ vf.ownBlock = some q)) (fun k e => Or.inr e.symm)
    exact ⟨h3.os, h3.tape, h3.output, h3.size, h3.block⟩
  have HB1 := Lib.hid hB1
  have HO1 := Lib.hid hO1
  have HF := Lib.hid hfin
  have HL1 := Lib.hid hb1
  have ca : ∀ o, (W1.alloc o).cell? ⟨g, 4, none⟩ = some vf := fun o => (World.cell?_alloc_lt W1 o ⟨g, 4, none⟩ hB1.lt).trans c3
  clear hB1 hO1 ht1 hb1 hfin hne hkp1
  go_region_law ((refine step_append_any _ rfl _ _ 36 rfl Bs 181 i0 _ 3 56 Tryz.underlying36 hi hz0 hz1 hz2 rfl (by decide) vf m xs rfl (HO1.out.alloc _) (W1.heap.size + 1) _ 1 1 [.slice A n c, .slice none 0 0, .int .i64 (nb + 1 : Nat)] rfl (reads_three W1 _ _ _ _ _ (by omega)) (by simp [Value.oneCell']) (by unfold maxLen; omega) (by omega) (by have := HL1.out.size; simp; omega) ?_; intro v2 w2 hown2 hg2 hor2; have HOR := Lib.hid (fun q (hq : v2.ownBlock = some q) => (hor2.elim (fun e => Or.inl (e.symm.trans hq)) (fun e => Or.inr (by rw [hq] at e; injection e with e; rw [e]; show w.heap.size ≤ (W1.alloc _).heap.size; simp; omega)) : vf.ownBlock = some q ∨ w.heap.size ≤ q)); have hK := HF.out v2 w2 hown2 hg2; have HK := Lib.hid hK; have cc := hK.1.cell 4; have ff := hK.1.frozen 4; simp at cc; clear hK; have HW := Lib.hid hown2; obtain ⟨A2, c2, rfl⟩ := own_form hown2; clear hown2 hg2 hor2))
  all_goals
    go_end0
    have hs : ∀ u, Tys [42] w2 (w2.setCell ⟨g, 4, none⟩ u) := fun u => (Tys.refl _ _).setCell (p := ⟨g, 4, none⟩) HK.out.1.heap (by simp) _
    exact ⟨rfl, _, by simpa using HK.out.1.set_ 4 _, own_tys HW.out (hs _) (by decide), Keep.setCell (p := ⟨g, 4, none⟩) HK.out.2 (Or.inl rfl) _, HOR.out⟩
end Go.Proofs.YtonlfplloenfcaaGreatDoor
