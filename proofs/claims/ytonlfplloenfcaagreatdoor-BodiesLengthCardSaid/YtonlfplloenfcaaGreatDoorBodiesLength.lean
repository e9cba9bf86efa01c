/-
  BodiesLength: the walk.
-/
import Derived.Deep.CutRange
import Derived.Deep.CutBlock
import Derived.BigRegion
import Derived.Test.YtonlfplloenfcaaGreatDoorAHowEtc
import Derived.Test.YtonlfplloenfcaaGreatDoorBothTEtc
import Derived.Test.YtonlfplloenfcaaGreatDoorDig13
import Derived.Test.YtonlfplloenfcaaGreatDoorHeadsNamesEtc
namespace Go.Proofs.YtonlfplloenfcaaGreatDoor
open Go.RowKit

theorem cat_list (a b : List UInt8) : (⟨a.toArray⟩ ++ ⟨b.toArray⟩ : ByteArray) = ⟨(a ++ b).toArray⟩ := by
  apply ByteArray.ext
  rw [ByteArray.data_append]
  simp
theorem cat_dataL (a b : ByteArray) : (a ++ b).data.toList = a.data.toList ++ b.data.toList := Go.Joins.data_append a b
theorem reads_two' (w : World) (t : TypeId) (x y : Value) (B : Nat) (hB : w.heap.size < B) : Reads (w.alloc (.cells #[x, y] t)) B 2 (some ⟨w.heap.size, 0, none⟩) 1 [x, y] := by
  have hk := Blk.new w t #[x, y]
  refine ⟨rfl, fun _ => ⟨_, rfl, hB, fun j u hu => ?_⟩⟩
  show (w.alloc (.cells #[x, y] t)).cell? _ = _
  rw [Addr.add_lit, hk.cell, Nat.zero_add]
  simpa using hu
theorem reads_two2 (w : World) (o1 : Obj) (t : TypeId) (x y : Value) : Reads ((w.alloc o1).alloc (.cells #[x, y] t)) (w.heap.size + 2) 2 (some ⟨w.heap.size + 1, 0, none⟩) 1 [x, y] := by
  have h := reads_two' (w.alloc o1) t x y (w.heap.size + 2) (by simp)
  have e : (w.alloc o1).heap.size = w.heap.size + 1 := by simp
  rw [e] at h
  exact h
theorem fcells_rep (f : Fd) (k : Nat) : fcells (List.replicate (k + 1) f) = fcells (List.replicate k f) ++ [.string f.1, .string f.2] := by
  rw [List.replicate_succ', fcells_append]
  rfl

set_option maxRecDepth 100000 in
set_option maxHeartbeats 4000000 in
theorem bodieslength_any (n o t : Nat) (w : World) (hn : n < 4294967296) (ho : o < 4294967296) (ht5 : t < 256) (hm : MaxOk w) (hmg : maxG < w.heap.size) (ht : tab64 w) (htg : 8 < w.heap.size) :
    Calls Tryz.prog 17 #[.int .u32 (n : Int), .int .u32 (o : Int), .int .u8 (t : Int)] w fun e w' => e = .returned (.bool true) ∧ Below w.heap.size w w' := by
  have HM := Lib.hid (fun (W : World) (hb : Below w.heap.size w W) => (And.intro (hm.below hb hmg) (Nat.lt_of_lt_of_le hmg hb.size)))
  have HA := Lib.hid (fun (W : World) (hb : Below w.heap.size w W) => alive13_any W (hm.below hb hmg) (Nat.lt_of_lt_of_le hmg hb.size) (tab64_below ht hb htg) (Nat.lt_of_lt_of_le htg hb.size))
  have HD := Lib.hid (digits13_any n w hn)
  have hLn := decT_len n (by omega)
  have hLo := decT_len o (by omega)
  have hV1 := len_m n (t % 5)
  have hV2 := len_m2 n (t % 5) o
  have HV := Lib.hid (And.intro hV1 hV2)
  obtain ⟨L, hL⟩ : ∃ L, decT n = L := ⟨_, rfl⟩
  rw [hL] at HD hLn
  have HL := Lib.hid hL
  obtain ⟨m, hmm⟩ : ∃ m, t % 5 = m := ⟨_, rfl⟩
  rw [hmm] at HV
  have hm5 : m < 5 := by omega
  have hmod : (t : Int) % 5 = (m : Int) := by omega
  clear hm ht hL hV1 hV2 hmm
  go_enter Tryz.func17, Tryz.ntmps17
  go_wp2_with fail
  refine (HD.out).mono ?_
  rintro e w0 ⟨rfl, rfl⟩
  clear HD
  go_wp2_with fail
  refine (of_any 200 none 0 0 [] w ⟨rfl, fun h => absurd h (by omega)⟩ (by omega)).mono ?_
  rintro e a1 ⟨⟨v1, rfl, o1⟩, ba1⟩
  obtain ⟨A1, c1, rfl⟩ := own_form o1
  have hk5 := Blk.new a1 25 #[.string ⟨#[]⟩, .string ⟨#[]⟩, .int .i64 200, .slice A1 0 c1, .slice none 0 0]
  have hal : Below a1.heap.size a1 (a1.alloc (.cells #[.string ⟨#[]⟩, .string ⟨#[]⟩, .int .i64 200, .slice A1 0 c1, .slice none 0 0] 25)) := (Below.refl _ _).alloc (Nat.le_refl _) _
  have O5 := Lib.hid (own_below o1 hal)
  have B5 := Lib.hid (ba1.trans (hal.mono ba1.size))
  have K5 := Lib.hid hk5
  have hgw : w.heap.size ≤ a1.heap.size := ba1.size
  clear o1 ba1 hal hk5
  go_wp2_with fail
  obtain ⟨g, hg⟩ : ∃ g, a1.heap.size = g := ⟨_, rfl⟩
  obtain ⟨W1, hW1⟩ : ∃ W1, a1.alloc (.cells #[.string ⟨#[]⟩, .string ⟨#[]⟩, .int .i64 200, .slice A1 0 c1, .slice none 0 0] 25) = W1 := ⟨_, rfl⟩
  rw [hW1] at O5 B5 K5 ⊢
  rw [hg] at K5 hgw ⊢
  have HG := Lib.hid hg
  clear hW1 hg
  obtain ⟨i0, hi, hz0, hz1, hz2⟩ := info_parts infoF
  go_loopw [8, 10] (fun s i wr => ∃ (k : Nat) (vf : Value) (S : ByteArray), k ≤ m ∧ i = .int .i64 k ∧ s = .string S ∧ Hid (S.data.toList = allT L k) ∧ S.size ≤ 15 * k + 10 ∧ Hid (Blk wr g 25 #[.string ⟨#[]⟩, .string ⟨#[]⟩, .int .i64 200, vf, .slice none 0 0]) ∧
      Hid (wr.ownsRow w.heap.size 63 2 vf k (fcells (List.replicate k (⟨#[99, 111, 110, 116, 101, 110, 116, 45, 76, 69, 78, 71, 84, 72]⟩, ⟨L.toArray⟩)))) ∧ Hid (Below w.heap.size w wr)) (fun _ i _ => m - (intOf i).toNat)
  case atStart => exact ⟨0, .slice A1 0 c1, ⟨L.toArray⟩, Nat.zero_le _, rfl, rfl, rfl, by show L.toArray.size ≤ _; simpa using hLn, K5, O5, B5⟩
  case round =>
    clear K5 O5 B5
    obtain ⟨k, vf, S, hk, rfl, rfl, HS, hs, K1, HO, HB⟩ := hrel
    obtain ⟨Af, cf, rfl⟩ := own_form HO.out
    by_cases hlt : k < m
    · have hk5 : k ≤ 3 := by omega
      have hlt' : (k : Int) < (m : Int) := by omega
      have hls : (⟨L.toArray⟩ : ByteArray).size ≤ 10 := by show L.toArray.size ≤ 10; simpa using hLn
      have HLs := Lib.hid hls
      have hgr : g < wr.heap.size := K1.out.lt
      have hw0 : w.heap.size ≤ wr.heap.size := HB.out.size
      have c3 := K1.out.cell 3
      simp at c3
      have ca : ∀ o, (wr.alloc o).cell? ⟨g, 3, none⟩ = some (.slice Af k cf) := fun o => (World.cell?_alloc_lt wr o ⟨g, 3, none⟩ hgr).trans c3
      have hne : ∀ q, (Value.slice Af k cf).ownBlock = some q → q ≠ g := fun q hq => by
        obtain ⟨cs, hh⟩ := own_heap HO.out hq
        rintro rfl
        rw [K1.out.heap] at hh
        injection hh with hh
        injection hh with _ h2
        cases h2
      have hfin : ∀ (o1 o2 : Obj) (v2 : Value) (w2 : World), ((wr.alloc o1).alloc o2).grownBy w2 (Value.slice Af k cf).ownBlock →
          Blk w2 g 25 #[.string ⟨#[]⟩, .string ⟨#[]⟩, .int .i64 200, .slice Af k cf, .slice none 0 0] ∧ Below w.heap.size w w2 := by
        intro o1 o2 v2 w2 hg2
        exact ⟨((K1.out.alloc _).alloc _).grown hg2 (fun e => hne _ e.symm rfl), ((HB.out.alloc hw0 _).alloc (by simp; omega) _).grown hg2 (by simp; omega) (fun q hq => (HO.out.lt q hq).1)⟩
      have HF := Lib.hid hfin
      have hrep := fcells_rep (⟨#[99, 111, 110, 116, 101, 110, 116, 45, 76, 69, 78, 71, 84, 72]⟩, ⟨L.toArray⟩) k
      have HREP := Lib.hid hrep
      have hS2 : ∀ sep : ByteArray, sep.data.toList = sepB (k % 3) → (S ++ sep ++ ⟨L.toArray⟩ : ByteArray).data.toList = allT L (k + 1) ∧ (S ++ sep ++ ⟨L.toArray⟩ : ByteArray).size ≤ 15 * (k + 1) + 10 := fun sep hsep => by
        have h1 := sep_len (k % 3)
        rw [← hsep] at h1
        have h2 : sep.data.toList.length = sep.size := rfl
        refine ⟨?_, ?_⟩
        · rw [cat_dataL, cat_dataL, HS.out, hsep]
          rfl
        · rw [ByteArray.size_append, ByteArray.size_append]
          omega
      have HS2 := Lib.hid hS2
      have hr : k % 3 = 0 ∨ k % 3 = 1 ∨ k % 3 = 2 := by omega
      clear hne hfin hrep hS2 hls HS
      rcases hr with hr | hr | hr
      · have hmod3 : (k : Int) % 3 = 0 := by omega
        have hsep := HS2.out ⟨#[32, 44]⟩ (by rw [hr]; rfl)
        have HSEP := Lib.hid hsep
        have hs1 : (⟨#[32, 44]⟩ : ByteArray).size ≤ 5 := by decide
        clear hsep HS2 hr
        go_wp2_with (at_builtin; refine wpList_append_any _ rfl _ _ 22 rfl w.heap.size 63 i0 _ 2 32 Tryz.underlying22 hi hz0 hz1 hz2 rfl (by decide) (Value.slice Af k cf) k (fcells (List.replicate k (⟨#[99, 111, 110, 116, 101, 110, 116, 45, 76, 69, 78, 71, 84, 72]⟩, ⟨L.toArray⟩))) rfl ((HO.out.alloc _).alloc _) (wr.heap.size + 2) _ 1 1 [.string ⟨#[99, 111, 110, 116, 101, 110, 116, 45, 76, 69, 78, 71, 84, 72]⟩, .string ⟨L.toArray⟩] rfl (reads_two2 wr _ _ _ _) (by simp [Value.oneCell']) (by unfold maxLen; omega) (by omega) (by simp; omega) ?_; intro v2 w2 hown2 hg2 _; have hK := HF.out _ _ v2 w2 hg2; have HK := Lib.hid hK; have cc := hK.1.cell 3; have ff := hK.1.frozen 3; simp at cc; clear hK; have HW := Lib.hid hown2; obtain ⟨A2, c2, rfl⟩ := own_form hown2; clear hown2 hg2)
        go_roundw
        case rel =>
          refine ⟨k + 1, .slice A2 (k + 1) c2, _, by omega, by go_num, rfl, HSEP.out.1, HSEP.out.2, Lib.hid (by simpa using HK.out.1.set_ 3 (.slice A2 (k + 1) c2)), ?_, HK.out.2.setCell (p := ⟨g, 3, none⟩) hgw _⟩
          rw [HREP.out]
          exact own_tys HW.out ((Tys.refl [25] _).setCell (p := ⟨g, 3, none⟩) HK.out.1.heap (by simp) _) (by decide)
        case measure => simp [intOf]; omega
      · have hmod3 : (k : Int) % 3 = 1 := by omega
        have hsep := HS2.out ⟨#[44, 48]⟩ (by rw [hr]; rfl)
        have HSEP := Lib.hid hsep
        have hs1 : (⟨#[44, 48]⟩ : ByteArray).size ≤ 5 := by decide
        clear hsep HS2 hr
        go_wp2_with (at_builtin; refine wpList_append_any _ rfl _ _ 22 rfl w.heap.size 63 i0 _ 2 32 Tryz.underlying22 hi hz0 hz1 hz2 rfl (by decide) (Value.slice Af k cf) k (fcells (List.replicate k (⟨#[99, 111, 110, 116, 101, 110, 116, 45, 76, 69, 78, 71, 84, 72]⟩, ⟨L.toArray⟩))) rfl ((HO.out.alloc _).alloc _) (wr.heap.size + 2) _ 1 1 [.string ⟨#[99, 111, 110, 116, 101, 110, 116, 45, 76, 69, 78, 71, 84, 72]⟩, .string ⟨L.toArray⟩] rfl (reads_two2 wr _ _ _ _) (by simp [Value.oneCell']) (by unfold maxLen; omega) (by omega) (by simp; omega) ?_; intro v2 w2 hown2 hg2 _; have hK := HF.out _ _ v2 w2 hg2; have HK := Lib.hid hK; have cc := hK.1.cell 3; have ff := hK.1.frozen 3; simp at cc; clear hK; have HW := Lib.hid hown2; obtain ⟨A2, c2, rfl⟩ := own_form hown2; clear hown2 hg2)
        go_roundw
        case rel =>
          refine ⟨k + 1, .slice A2 (k + 1) c2, _, by omega, by go_num, rfl, HSEP.out.1, HSEP.out.2, Lib.hid (by simpa using HK.out.1.set_ 3 (.slice A2 (k + 1) c2)), ?_, HK.out.2.setCell (p := ⟨g, 3, none⟩) hgw _⟩
          rw [HREP.out]
          exact own_tys HW.out ((Tys.refl [25] _).setCell (p := ⟨g, 3, none⟩) HK.out.1.heap (by simp) _) (by decide)
        case measure => simp [intOf]; omega
      · have hmod3 : (k : Int) % 3 = 2 := by omega
        have hsep := HS2.out ⟨#[9, 44, 32, 48, 48]⟩ (by rw [hr]; rfl)
        have HSEP := Lib.hid hsep
        have hs1 : (⟨#[9, 44, 32, 48, 48]⟩ : ByteArray).size ≤ 5 := by decide
        clear hsep HS2 hr
        go_wp2_with (at_builtin; refine wpList_append_any _ rfl _ _ 22 rfl w.heap.size 63 i0 _ 2 32 Tryz.underlying22 hi hz0 hz1 hz2 rfl (by decide) (Value.slice Af k cf) k (fcells (List.replicate k (⟨#[99, 111, 110, 116, 101, 110, 116, 45, 76, 69, 78, 71, 84, 72]⟩, ⟨L.toArray⟩))) rfl ((HO.out.alloc _).alloc _) (wr.heap.size + 2) _ 1 1 [.string ⟨#[99, 111, 110, 116, 101, 110, 116, 45, 76, 69, 78, 71, 84, 72]⟩, .string ⟨L.toArray⟩] rfl (reads_two2 wr _ _ _ _) (by simp [Value.oneCell']) (by unfold maxLen; omega) (by omega) (by simp; omega) ?_; intro v2 w2 hown2 hg2 _; have hK := HF.out _ _ v2 w2 hg2; have HK := Lib.hid hK; have cc := hK.1.cell 3; have ff := hK.1.frozen 3; simp at cc; clear hK; have HW := Lib.hid hown2; obtain ⟨A2, c2, rfl⟩ := own_form hown2; clear hown2 hg2)
        go_roundw
        case rel =>
          refine ⟨k + 1, .slice A2 (k + 1) c2, _, by omega, by go_num, rfl, HSEP.out.1, HSEP.out.2, Lib.hid (by simpa using HK.out.1.set_ 3 (.slice A2 (k + 1) c2)), ?_, HK.out.2.setCell (p := ⟨g, 3, none⟩) hgw _⟩
          rw [HREP.out]
          exact own_tys HW.out ((Tys.refl [25] _).setCell (p := ⟨g, 3, none⟩) HK.out.1.heap (by simp) _) (by decide)
        case measure => simp [intOf]; omega
    · obtain rfl : k = m := by omega
      have hlt' : ¬ (k : Int) < (k : Int) := by omega
      have hSeq : S = ⟨(allT L k).toArray⟩ := by rw [← HS.out]
      have hfs : lenFs n k = List.replicate k (⟨#[99, 111, 110, 116, 101, 110, 116, 45, 76, 69, 78, 71, 84, 72]⟩, ⟨L.toArray⟩) ++ [(⟨#[67, 111, 110, 116, 101, 110, 116, 45, 76, 101, 110, 103, 116, 104]⟩, S)] := by
        unfold lenFs clX clB strT
        rw [HL.out, hSeq]
      have hls : (⟨L.toArray⟩ : ByteArray).size ≤ 10 := by show L.toArray.size ≤ 10; simpa using hLn
      have hcl : fcells (lenFs n k) = fcells (List.replicate k (⟨#[99, 111, 110, 116, 101, 110, 116, 45, 76, 69, 78, 71, 84, 72]⟩, ⟨L.toArray⟩)) ++ [.string ⟨#[67, 111, 110, 116, 101, 110, 116, 45, 76, 101, 110, 103, 116, 104]⟩, .string S] := by
        rw [hfs, fcells_append]
        rfl
      have hln : (lenFs n k).length = k + 1 := by rw [hfs]; simp
      have hsm : fsum (lenFs n k) ≤ 1000 := by
        rw [hfs, fsum_append, fsum_rep, one_sum]
        have e1 : ByteArray.size ⟨#[99, 111, 110, 116, 101, 110, 116, 45, 76, 69, 78, 71, 84, 72]⟩ = 14 := rfl
        have e2 : ByteArray.size ⟨#[67, 111, 110, 116, 101, 110, 116, 45, 76, 101, 110, 103, 116, 104]⟩ = 14 := rfl
        have e3 : k * (2 + ByteArray.size ⟨#[99, 111, 110, 116, 101, 110, 116, 45, 76, 69, 78, 71, 84, 72]⟩ + ByteArray.size ⟨L.toArray⟩) ≤ 4 * 26 := Nat.mul_le_mul (by omega) (by rw [e1]; omega)
        simp only at e3 ⊢
        rw [e2]
        omega
      have HFS := Lib.hid (And.intro hcl (And.intro hln hsm))
      have hgr : g < wr.heap.size := K1.out.lt
      have hw0 : w.heap.size ≤ wr.heap.size := HB.out.size
      have c3 := K1.out.cell 3
      simp at c3
      have ca : ∀ o, (wr.alloc o).cell? ⟨g, 3, none⟩ = some (.slice Af k cf) := fun o => (World.cell?_alloc_lt wr o ⟨g, 3, none⟩ hgr).trans c3
      have hne : ∀ q, (Value.slice Af k cf).ownBlock = some q → q ≠ g := fun q hq => by
        obtain ⟨cs, hh⟩ := own_heap HO.out hq
        rintro rfl
        rw [K1.out.heap] at hh
        injection hh with hh
        injection hh with _ h2
        cases h2
      have hfin : ∀ (o1 : Obj) (v2 : Value) (w2 : World), (wr.alloc o1).grownBy w2 (Value.slice Af k cf).ownBlock →
          Blk w2 g 25 #[.string ⟨#[]⟩, .string ⟨#[]⟩, .int .i64 200, .slice Af k cf, .slice none 0 0] ∧ Below w.heap.size w w2 := by
        intro o1 v2 w2 hg2
        exact ⟨(K1.out.alloc _).grown hg2 (fun e => hne _ e.symm rfl), (HB.out.alloc hw0 _).grown hg2 (by simp; omega) (fun q hq => (HO.out.lt q hq).1)⟩
      have HF := Lib.hid hfin
      clear hne hfin hls hSeq hfs hcl hln hsm HS
      go_wp2_with (at_builtin; refine wpList_append_any _ rfl _ _ 22 rfl w.heap.size 63 i0 _ 2 32 Tryz.underlying22 hi hz0 hz1 hz2 rfl (by decide) (Value.slice Af k cf) k (fcells (List.replicate k (⟨#[99, 111, 110, 116, 101, 110, 116, 45, 76, 69, 78, 71, 84, 72]⟩, ⟨L.toArray⟩))) rfl (HO.out.alloc _) (wr.heap.size + 1) _ 1 1 [.string ⟨#[67, 111, 110, 116, 101, 110, 116, 45, 76, 101, 110, 103, 116, 104]⟩, .string S] rfl (reads_two' wr _ _ _ _ (by omega)) (by simp [Value.oneCell']) (by unfold maxLen; omega) (by omega) (by simp; omega) ?_; intro v2 w2 hown2 hg2 _; have hK := HF.out _ v2 w2 hg2; have HK := Lib.hid hK; have cc0 := hK.1.cell 0; have cc1 := hK.1.cell 1; have cc2 := hK.1.cell 2; have cc := hK.1.cell 3; have cc4 := hK.1.cell 4; have ff := hK.1.frozen 3; simp at cc cc0 cc1 cc2 cc4; clear hK; have HW := Lib.hid hown2; obtain ⟨A2, c2, rfl⟩ := own_form hown2; clear hown2 hg2)
      have HT3 := (Tys.refl [25] w2).setCell (p := ⟨g, 3, none⟩) HK.out.1.heap (by simp) (.slice A2 (k + 1) c2)
      have hO3 := own_tys HW.out HT3 (by decide)
      rw [← HFS.out.1] at hO3
      have hK3 : Blk (w2.setCell ⟨g, 3, none⟩ (.slice A2 (k + 1) c2)) g 25 #[.string ⟨#[]⟩, .string ⟨#[]⟩, .int .i64 200, .slice A2 (k + 1) c2, .slice none 0 0] := by simpa using HK.out.1.set_ 3 (.slice A2 (k + 1) c2)
      have hB3 : Below w.heap.size w (w2.setCell ⟨g, 3, none⟩ (.slice A2 (k + 1) c2)) := HK.out.2.setCell (p := ⟨g, 3, none⟩) hgw _
      generalize w2.setCell ⟨g, 3, none⟩ (.slice A2 (k + 1) c2) = W3 at *
      clear HT3 HW HK cc cc0 cc1 cc2 cc4 ff c3 ca HF K1 HO HB
      have B3 := Lib.hid hB3
      have K3 := Lib.hid hK3
      have O3 := Lib.hid hO3
      clear hB3 hK3 hO3
      refine (how_any ⟨#[71, 69, 84]⟩ ⟨#[]⟩ ⟨#[]⟩ 200 A2 none (k + 1) c2 0 0 (lenFs n k) W3 (fread_own HFS.out.2.1 O3.out) (by omega) (by have := HFS.out.2.2; omega) (by omega) (HM.out W3 B3.out).1 (HM.out W3 B3.out).2).mono ?_
      rintro e w4 ⟨rfl, hb4⟩
      have B4 := Lib.hid (B3.out.trans (hb4.mono B3.out.size))
      have K4 := Lib.hid (K3.out.below hb4 K3.out.lt)
      have O4 := Lib.hid (own_below O3.out hb4)
      clear hb4 B3 K3 O3
      obtain ⟨z, hz⟩ : ∃ z, howM ⟨#[71, 69, 84]⟩ 200 (lenFs n k) = z := ⟨_, rfl⟩
      rw [hz]
      have HZ := Lib.hid (hz.symm.trans HV.out.1)
      clear hz
      obtain ⟨z1, z2, z3⟩ := z
      rw [show lenV .u8 (z1, z2, z3) = .tuple #[.int .u8 z1, .int .i64 z2, .int .i64 z3] from rfl]
      obtain ⟨D, hD⟩ : ∃ D : ByteArray, ⟨(decT o).toArray⟩ = D := ⟨_, rfl⟩
      have hDs : D.size ≤ 10 := by rw [← hD]; show (decT o).toArray.size ≤ 10; simpa using hLo
      have HDO := Lib.hid (fun W => digits13_any o W ho)
      rw [hD] at HDO
      have hcl2 : fcells (lenFs2 n k o) = fcells (lenFs n k) ++ [.string ⟨#[67, 111, 110, 116, 101, 110, 116, 45, 76, 101, 110, 103, 116, 104]⟩, .string D] := by
        unfold lenFs2
        rw [fcells_append, ← hD]
        rfl
      have hln2 : (lenFs2 n k o).length = k + 1 + 1 := by unfold lenFs2; rw [List.length_append, HFS.out.2.1]; rfl
      have hsm2 : fsum (lenFs2 n k o) ≤ 2000 := by
        unfold lenFs2
        rw [fsum_append, one_sum]
        have e2 : clB.size = 14 := rfl
        have e3 : (strT (decT o)).size ≤ 10 := by unfold strT; rw [hD]; exact hDs
        have := HFS.out.2.2
        omega
      have HFS2 := Lib.hid (And.intro hcl2 (And.intro hln2 hsm2))
      have hgr : g < w4.heap.size := K4.out.lt
      have hw0 : w.heap.size ≤ w4.heap.size := B4.out.size
      have c3 := K4.out.cell 3
      simp at c3
      have hne : ∀ q, (Value.slice A2 (k + 1) c2).ownBlock = some q → q ≠ g := fun q hq => by
        obtain ⟨cs, hh⟩ := own_heap O4.out hq
        rintro rfl
        rw [K4.out.heap] at hh
        injection hh with hh
        injection hh with _ h2
        cases h2
      have hfin : ∀ (o1 : Obj) (v2 : Value) (w2 : World), ((w4.alloc o1).drew).grownBy w2 (Value.slice A2 (k + 1) c2).ownBlock →
          Blk w2 g 25 #[.string ⟨#[]⟩, .string ⟨#[]⟩, .int .i64 200, .slice A2 (k + 1) c2, .slice none 0 0] ∧ Below w.heap.size w w2 := by
        intro o1 v2 w2 hg2
        exact ⟨((K4.out.alloc _).drew).grown hg2 (fun e => hne _ e.symm rfl), ((B4.out.alloc hw0 _).drew).grown hg2 (by simp; omega) (fun q hq => (O4.out.lt q hq).1)⟩
      have HF := Lib.hid hfin
      clear hD hcl2 hln2 hsm2 hne hfin
      go_upto_region 11 with fail
      go_cut [] from 57 (fun wx => ∃ A5 c5, Hid (Blk wx g 25 #[.string ⟨#[]⟩, .string ⟨#[]⟩, .int .i64 200, .slice A5 (k + 1 + 1) c5, .slice none 0 0]) ∧ Hid (wx.ownsRow w.heap.size 63 2 (.slice A5 (k + 1 + 1) c5) (k + 1 + 1) (fcells (lenFs2 n k o))) ∧ Hid (Below w.heap.size w wx))
      case first =>
        have c3d : w4.drew.cell? ⟨g, 3, none⟩ = some (.slice A2 (k + 1) c2) := c3
        have ca : ∀ o, (w4.alloc o).cell? ⟨g, 3, none⟩ = some (.slice A2 (k + 1) c2) := fun o => (World.cell?_alloc_lt w4 o ⟨g, 3, none⟩ hgr).trans c3
        go_region_law (first
          | (refine step_append_any _ rfl _ _ 22 rfl w.heap.size 63 i0 _ 2 32 Tryz.underlying22 hi hz0 hz1 hz2 rfl (by decide) (Value.slice A2 (k + 1) c2) (k + 1) (fcells (lenFs n k)) rfl (O4.out.alloc _) (w4.heap.size + 1) _ 1 1 [.string ⟨#[67, 111, 110, 116, 101, 110, 116, 45, 76, 101, 110, 103, 116, 104]⟩, .string D] rfl (reads_two w4 _ _ _ _ (by omega)) (by simp [Value.oneCell']) (by unfold maxLen; omega) (by omega) (by simp; omega) ?_; intro v2 w2 hown2 hg2 _; have hK := HF.out _ v2 w2 hg2; have HK := Lib.hid hK; have cc := hK.1.cell 3; have ff := hK.1.frozen 3; simp at cc; clear hK; have HW := Lib.hid hown2; obtain ⟨A5, c5, rfl⟩ := own_form hown2; clear hown2 hg2)
          | (go_simp; refine (HDO.out _).mono ?_; rintro e wq ⟨rfl, rfl⟩))
        all_goals
          go_wp2_with fail
          go_meet
          have hT9 := (Tys.refl [25] w2).setCell (p := ⟨g, 3, none⟩) HK.out.1.heap (by simp) (.slice A5 (k + 1 + 1) c5)
          refine ⟨A5, c5, Lib.hid (by simpa using HK.out.1.set_ 3 (.slice A5 (k + 1 + 1) c5)), ?_, HK.out.2.setCell (p := ⟨g, 3, none⟩) hgw _⟩
          rw [HFS2.out.1]
          exact own_tys HW.out hT9 (by decide)
      case rest =>
      obtain ⟨A5, c5, K5, O5, B5⟩ := hcut
      have a0 := K5.out.cell 0
      have a1 := K5.out.cell 1
      have a2 := K5.out.cell 2
      have a3 := K5.out.cell 3
      have a4 := K5.out.cell 4
      simp at a0 a1 a2 a3 a4
      clear HF c3 K4 O4 B4 HDO
      go_wp2_with fail
      refine (how_any ⟨#[71, 69, 84]⟩ ⟨#[]⟩ ⟨#[]⟩ 200 A5 none (k + 1 + 1) c5 0 0 (lenFs2 n k o) wc (fread_own HFS2.out.2.1 O5.out) (by omega) (by have := HFS2.out.2.2; omega) (by omega) (HM.out wc B5.out).1 (HM.out wc B5.out).2).mono ?_
      rintro e w6 ⟨rfl, hb6⟩
      have B6 := Lib.hid (B5.out.trans (hb6.mono B5.out.size))
      clear hb6 a0 a1 a2 a3 a4 K5 O5 B5
      obtain ⟨y, hy⟩ : ∃ y, howM ⟨#[71, 69, 84]⟩ 200 (lenFs2 n k o) = y := ⟨_, rfl⟩
      rw [hy]
      have HY := Lib.hid (hy.symm.trans HV.out.2)
      clear hy
      obtain ⟨y1, y2, y3⟩ := y
      rw [show lenV .u8 (y1, y2, y3) = .tuple #[.int .u8 y1, .int .i64 y2, .int .i64 y3] from rfl]
      go_wp2_with fail
      refine (HA.out w6 B6.out).mono ?_
      rintro e w7 ⟨rfl, hb7⟩
      have B7 := Lib.hid (B6.out.trans (hb7.mono B6.out.size))
      clear hb7
      have dn : ((n : Int) == (n : Int)) = true := beq_iff_eq.2 rfl
      have hz := HZ.out
      have hy := HY.out
      clear HZ HY
      by_cases hb : n ≤ 65536
      · have d1 : decide ((65536 : Int) < (n : Int)) = false := decide_eq_false (by omega)
        rw [if_pos hb] at hz hy
        obtain ⟨rfl, rfl, rfl⟩ := three_eq hz
        by_cases hon : o = n
        · have d2 : ((o : Int) == (n : Int)) = true := beq_iff_eq.2 (by omega)
          have d3 : ((o : Int) != (n : Int)) = false := by unfold bne; rw [d2]; rfl
          rw [if_pos hon] at hy
          obtain ⟨rfl, rfl, rfl⟩ := three_eq hy
          clear hz hy hon
          go_wp2_with fail
          go_ret
          exact ⟨rfl, B7.out⟩
        · have d2 : ((o : Int) == (n : Int)) = false := beq_eq_false_iff_ne.2 (by omega)
          have d3 : ((o : Int) != (n : Int)) = true := by unfold bne; rw [d2]; rfl
          rw [if_neg hon] at hy
          obtain ⟨rfl, rfl, rfl⟩ := three_eq hy
          clear hz hy hon
          go_wp2_with fail
          go_ret
          exact ⟨rfl, B7.out⟩
      · have d1 : decide ((65536 : Int) < (n : Int)) = true := decide_eq_true (by omega)
        rw [if_neg hb] at hz hy
        obtain ⟨rfl, rfl, rfl⟩ := three_eq hz
        by_cases hon : o = n
        · have d2 : ((o : Int) == (n : Int)) = true := beq_iff_eq.2 (by omega)
          have d3 : ((o : Int) != (n : Int)) = false := by unfold bne; rw [d2]; rfl
          rw [if_pos hon] at hy
          obtain ⟨rfl, rfl, rfl⟩ := three_eq hy
          clear hz hy hon
          go_wp2_with fail
          go_ret
          exact ⟨rfl, B7.out⟩
        · have d2 : ((o : Int) == (n : Int)) = false := beq_eq_false_iff_ne.2 (by omega)
          have d3 : ((o : Int) != (n : Int)) = true := by unfold bne; rw [d2]; rfl
          rw [if_neg hon] at hy
          obtain ⟨rfl, rfl, rfl⟩ := three_eq hy
          clear hz hy hon
          go_wp2_with fail
          go_ret
          exact ⟨rfl, B7.out⟩
end Go.Proofs.YtonlfplloenfcaaGreatDoor
