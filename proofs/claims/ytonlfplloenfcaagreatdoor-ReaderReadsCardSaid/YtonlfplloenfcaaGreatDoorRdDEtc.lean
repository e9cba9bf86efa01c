/-
  package reader: a head.
  A reader's states, in its cells.
  package reader: a state's work, in plain words of what came.
  package reader: Put.
  package reader: does an answer close the connection? Clones of fields.
-/
import Derived.Test.YtonlfplloenfcaaGreatDoorKeepEtc
import Derived.Test.YtonlfplloenfcaaGreatDoorChunkErrEtc
import Derived.Test.YtonlfplloenfcaaGreatDoorBadEtc
import Derived.Test.YtonlfplloenfcaaGreatDoorContains
import Derived.Test.YtonlfplloenfcaaGreatDoorBufEtc
import Derived.Lib.SmallJoins
import Derived.Lib.OthersKept
import Derived.Test.YtonlfplloenfcaaGreatDoorFindEtc
import Derived.Test.YtonlfplloenfcaaGreatDoorReflEtc
import Derived.Test.YtonlfplloenfcaaGreatDoorASplit
namespace Go.Proofs.YtonlfplloenfcaaGreatDoor
open Go.RowKit

/-- Fields that a reader keeps of an answer. -/
def RdFd (w : World) (base : Nat) (v : Value) (fs : List Fd) : Prop := ∃ A c, v = .slice A fs.length c ∧ fs.length ≤ c ∧ FRead w w.heap.size A fs.length fs ∧ ∀ g, v.ownBlock = some g → base ≤ g ∧ g < w.heap.size
theorem fread_keepX {X : Nat → Prop} {a b : World} {B n : Nat} {A : Option Addr} {fs : List Fd} (h : FRead a B A n fs) (hk : Keep X a b) (hB : B ≤ a.heap.size) (hx : ∀ g o, A = some ⟨g, o, none⟩ → ¬ X g) : FRead b B A n fs := by
  refine ⟨h.1, fun h0 => ?_⟩
  obtain ⟨g, o, e, hg, hc⟩ := h.2 h0
  exact ⟨g, o, e, hg, fun j f hf => ⟨(cell_keep hk (by omega) (hx g o e)).trans (hc j f hf).1, (cell_keep hk (by omega) (hx g o e)).trans (hc j f hf).2⟩⟩
theorem RdFd.keepX {X : Nat → Prop} {a b : World} {base : Nat} {v : Value} {fs : List Fd} (h : RdFd a base v fs) (hk : Keep X a b) (hx : ∀ g, v.ownBlock = some g → ¬ X g) : RdFd b base v fs := by
  obtain ⟨A, c, rfl, hc, hL, hb⟩ := h
  refine ⟨A, c, rfl, hc, (fread_keepX hL hk (Nat.le_refl _) (fun g o e => hx g (by rw [e]; rfl))).more hk.size, fun g hg => ⟨(hb g hg).1, Nat.lt_of_lt_of_le (hb g hg).2 hk.size⟩⟩
def retBE (b : Bool) (z : Int) : Ending := .returned (.tuple #[.bool b, .int .i64 z])
def HdTail (p : Nat) (w : World) (mt : ByteArray) (nx v : Value) (k : Nat) (l : List UInt8) (rd : Nat) (cm : Int) (vf2 : Value) (z : Int × Int × Int) (e : Ending) (w' : World) : Prop :=
  (z.2.2 ≠ 0 ∧ e = retBE false z.2.2 ∧ ∃ x1 x2, Blk w' p 160 (rrC mt v ((rd + k : Nat) : Int) cm nx x1 x2 (gS statusK l) vf2 (.slice none 0 0) 0 0 0 0)) ∨
  (z.2.2 = 0 ∧ z.1 = 0 ∧ e = retBE false 0 ∧ ∃ x1 x2 v2, RdL w' w.heap.size v2 [] ∧ Blk w' p 160 (rrC mt v ((rd + k : Nat) : Int) cm nx x1 x2 (gS statusK l) vf2 v2 0 0 1 0)) ∨
  (z.2.2 = 0 ∧ z.1 = 1 ∧ e = retBE true 0 ∧ ∃ x1 x2, Blk w' p 160 (rrC mt v ((rd + k : Nat) : Int) cm (nxLen p) x1 x2 (gS statusK l) vf2 (.slice none 0 0) z.2.1 0 0 0)) ∨
  (z.2.2 = 0 ∧ z.1 = 2 ∧ e = retBE true 0 ∧ ∃ x1 x2, Blk w' p 160 (rrC mt v ((rd + k : Nat) : Int) cm (nxChunks p) x1 x2 (gS statusK l) vf2 (.slice none 0 0) 0 0 0 0)) ∨
  (z.2.2 = 0 ∧ z.1 = 3 ∧ e = retBE true 0 ∧ ∃ x1 x2, Blk w' p 160 (rrC mt v ((rd + k : Nat) : Int) cm (nxRest p) x1 x2 (gS statusK l) vf2 (.slice none 0 0) 0 1 0 0))
/-- What a head's reading leaves: bytes that are left, and the reader's cells. -/
def HdPost (p : Nat) (w : World) (base : Nat) (mt : ByteArray) (nx vf vd : Value) (A : Option Addr) (n c : Nat) (l : List UInt8) (rd : Nat) (cm ms : Int) (m1 m2 : ByteArray) (e : Ending) (w' : World) : Prop :=
  (gE statusK l = 7 ∧ e = retBE false 0 ∧ Blk w' p 160 (rrC mt (.slice A n c) (rd : Int) cm nx m1 m2 ms vf vd 0 0 0 0)) ∨
  (gE statusK l ≠ 7 ∧ gE statusK l ≠ 0 ∧ e = retBE false (gE statusK l) ∧ Blk w' p 160 (rrC mt (.slice A n c) (rd : Int) cm nx m1 m2 ms vf vd 0 0 0 0)) ∨
  (gE statusK l = 0 ∧ ∃ k v, gN statusK l = ((k : Nat) : Int) ∧ k ≤ n ∧ BufOk w' base v (n - k) ((Lib.byteCells l).drop k) ∧ (∀ g, v.ownBlock = some g → (Value.slice A n c).ownBlock = some g) ∧
    ((gS statusK l < 200 ∧ e = retBE true 0 ∧ Blk w' p 160 (rrC mt v ((rd + k : Nat) : Int) cm nx m1 m2 ms vf vd 0 0 0 0)) ∨
     (¬ gS statusK l < 200 ∧ ∃ vf2 z1 z2 z3, RdFd w' w.heap.size vf2 (gF statusK l) ∧ howM mt (gS statusK l) (gF statusK l) = (z1, z2, z3) ∧
       HdTail p w mt nx v k l rd cm vf2 (z1, z2, z3) e w')))

theorem gS_range (l : List UInt8) : 0 ≤ gS statusK l ∧ gS statusK l ≤ 100000 := by
  unfold gS
  split
  · show 0 ≤ ((statusV (firstL l) : Nat) : Int) ∧ ((statusV (firstL l) : Nat) : Int) ≤ 100000
    unfold statusV
    have h1 := ((firstL l).getD 9 0).toNat_lt
    have h2 := ((firstL l).getD 10 0).toNat_lt
    have h3 := ((firstL l).getD 11 0).toNat_lt
    split <;> omega
  · exact ⟨Int.le_refl _, by decide⟩
theorem lenA_six (p : List (List UInt8)) : lenA p = (0, 0, 9) ∨ lenA p = (0, 0, 3) ∨ ∃ n : Nat, n ≤ 65536 ∧ lenA p = (1, (n : Int), 0) := by
  unfold lenA
  split
  · split
    · rename_i h
      exact .inr (.inr ⟨_, h, rfl⟩)
    · exact .inr (.inl rfl)
  · exact .inl rfl
theorem howM_six (m : ByteArray) (st : Int) (fs : List Fd) : howM m st fs = (0, 0, 0) ∨ howM m st fs = (3, 0, 0) ∨ howM m st fs = (2, 0, 0) ∨ howM m st fs = (0, 0, 9) ∨ howM m st fs = (0, 0, 3) ∨ ∃ n : Nat, n ≤ 65536 ∧ howM m st fs = (1, (n : Int), 0) := by
  unfold howM
  split
  · exact .inl rfl
  · refine .inr ?_
    unfold howA
    split
    · exact .inl rfl
    · split
      · exact .inr (.inl rfl)
      · split
        · exact .inr (.inr (.inl rfl))
        · rcases lenA_six (partsA ((findB fs clB).map (·.data.toList))) with h | h | h
          · exact .inr (.inr (.inl h))
          · exact .inr (.inr (.inr (.inl h)))
          · exact .inr (.inr (.inr (.inr h)))
/-- A message that is stored into a reader. -/
theorem set_msg {w : World} {p : Nat} {mt : ByteArray} {vb nx vf vd : Value} {rd cm ms need ends done e0 : Int} {m1 m2 : ByteArray} (hk : Blk w p 160 (rrC mt vb rd cm nx m1 m2 ms vf vd need ends done e0)) (x1 x2 : ByteArray) (s : Int) (v1 v2 : Value) :
    ∃ W, ((((w.setCell ⟨p, 6, none⟩ (.string x1)).setCell ⟨p, 7, none⟩ (.string x2)).setCell ⟨p, 8, none⟩ (.int .i64 s)).setCell ⟨p, 9, none⟩ v1).setCell ⟨p, 10, none⟩ v2 = W ∧ Blk W p 160 (rrC mt vb rd cm nx x1 x2 s v1 v2 need ends done e0) ∧ Keep (fun q => q = p) w W := by
  refine ⟨_, rfl, ?_, ?_⟩
  · have h := ((((hk.set_ 6 (.string x1)).set_ 7 (.string x2)).set_ 8 (.int .i64 s)).set_ 9 v1).set_ 10 v2
    simpa [rrC] using h
  · exact Keep.setCell (p := ⟨p, 10, none⟩) (Keep.setCell (p := ⟨p, 9, none⟩) (Keep.setCell (p := ⟨p, 8, none⟩) (Keep.setCell (p := ⟨p, 7, none⟩) (Keep.setCell (p := ⟨p, 6, none⟩) (Keep.refl (fun q => q = p) w) rfl _) rfl _) rfl _) rfl _) rfl _
set_option maxRecDepth 100000 in
set_option maxHeartbeats 4000000 in
theorem rdhead_any (p : Nat) (w : World) (base : Nat) (mt : ByteArray) (nx vf vd : Value) (A : Option Addr) (n c : Nat) (l : List UInt8) (rd : Nat) (cm ms : Int) (m1 m2 : ByteArray)
    (hk : Blk w p 160 (rrC mt (.slice A n c) (rd : Int) cm nx m1 m2 ms vf vd 0 0 0 0)) (hb : BufOk w base (.slice A n c) n (Lib.byteCells l)) (hne : ∀ g, (Value.slice A n c).ownBlock = some g → ¬ g = p) (hn : n ≤ 60000) (hrd : rd ≤ 900000)
    (hm : MaxOk w) (hmg : maxG < w.heap.size) (he : ErrOk w) (heg : errG < w.heap.size) (hmp : maxG < p) :
    Calls Tryz.prog 133 #[.pointer (some ⟨p, 0, none⟩)] w fun e w' => Keep (fun q => q = p) w w' ∧ HdPost p w base mt nx vf vd A n c l rd cm ms m1 m2 e w' := by
  obtain ⟨A', c', hv, hnc, hL, _⟩ := hb.form
  obtain ⟨rfl, _, rfl⟩ : A = A' ∧ n = n ∧ c = c' := by injection hv with h1 h2 h3; exact ⟨h1, h2, h3⟩
  have hll : l.length = n := by simpa [Lib.byteCells] using hL.1
  have c2 := hk.cell 2
  simp [rrC] at c2
  have hpl := hk.lt
  have HG := Lib.hid (hget_opt A n c l w hL hnc (by omega) hm hmg he heg)
  have HK := Lib.hid hk
  have HB := Lib.hid hb
  have HN := Lib.hid hne
  have HLL := Lib.hid hll
  have HM := Lib.hid hm
  clear hk hb hne hL hv hll hm he
  go_enter Tryz.func133, Tryz.ntmps133
  go_wp2_with fail
  refine (HG.out).mono ?_
  rintro e w1 ⟨⟨va, rfl, hoa⟩, hb1⟩
  obtain ⟨Aa, ca, rfl⟩ := own_form hoa
  have K1 := Lib.hid (HK.out.below hb1 hpl)
  have P1 := Lib.hid (Keep.of_below (X := fun q => q = p) hb1)
  have B1 := Lib.hid (HB.out.keepX P1.out HN.out)
  have OA := Lib.hid hoa
  have hz1 := hb1.size
  clear hoa hb1 HG c2
  have hg5 := Blk.new w1 25 #[.string (gM statusK l), .string (gT statusK l), .int .i64 (gS statusK l), .slice Aa (gF statusK l).length ca, .slice none 0 0]
  have hal : Below w1.heap.size w1 (w1.alloc (.cells #[.string (gM statusK l), .string (gT statusK l), .int .i64 (gS statusK l), .slice Aa (gF statusK l).length ca, .slice none 0 0] 25)) := (Below.refl _ _).alloc (Nat.le_refl _) _
  obtain ⟨W2, hW2⟩ : ∃ W2, w1.alloc (.cells #[.string (gM statusK l), .string (gT statusK l), .int .i64 (gS statusK l), .slice Aa (gF statusK l).length ca, .slice none 0 0] 25) = W2 := ⟨_, rfl⟩
  have hg6 := hg5
  rw [hW2] at hal hg6
  have K2 := Lib.hid (K1.out.below hal K1.out.lt)
  have P2 := Lib.hid (P1.out.trans (Keep.of_below (X := fun q => q = p) hal))
  have B2 := Lib.hid (B1.out.keepX (Keep.of_below (X := fun q => q = p) hal) HN.out)
  have O2 := Lib.hid (own_below OA.out hal)
  have M2 := Lib.hid hg6
  have HW2 := Lib.hid hW2
  have a2 := hg5.cell 2
  simp at a2
  have hpw : p < w1.heap.size := K1.out.lt
  clear hal hW2 hg5 hg6
  by_cases h7 : gE statusK l = 7
  · have hd3 : (gE statusK l == 7) = true := beq_iff_eq.2 h7
    go_wp2_with fail
    rw [HW2.out]
    go_ret2
    exact ⟨P2.out, Or.inl ⟨h7, rfl, K2.out⟩⟩
  have hd3 : (gE statusK l == 7) = false := beq_eq_false_iff_ne.2 h7
  by_cases h0 : gE statusK l = 0
  · have hd4 : (gE statusK l == 0) = true := beq_iff_eq.2 h0
    have hd5 : (gE statusK l != 0) = false := by unfold bne; rw [hd4]; rfl
    obtain ⟨hk4, hkl, hkn⟩ := gN_pos h0 (by rw [HLL.out]; omega)
    obtain ⟨k, hkk⟩ : ∃ k, (gN statusK l).toNat = k := ⟨_, rfl⟩
    rw [hkk] at hk4 hkl hkn
    rw [HLL.out] at hkl
    have HKN := Lib.hid hkn
    rw [hkn]
    have HT := Lib.hid (took_any p k W2 base mt nx vf vd A n c (Lib.byteCells l) rd cm ms 0 0 0 0 m1 m2 K2.out B2.out HN.out hkl (by omega) (by omega))
    clear hkn hkk
    go_wp2_with fail
    rw [HW2.out]
    refine (HT.out).mono ?_
    rintro e w3 ⟨rfl, hp3, v3, hk3, hb3, ho3⟩
    have P3 := Lib.hid (P2.out.trans hp3)
    have M3 := Lib.hid (M2.out.keep hp3 (fun e => by omega))
    have OF3 := Lib.hid (own_keepX O2.out hp3 (fun g hg e => by have := (O2.out.lt g hg).1; omega))
    have K3 := Lib.hid hk3
    have B3 := Lib.hid hb3
    have OO3 := Lib.hid ho3
    have a3 := M3.out.cell 2
    simp at a3
    have hz3 := hp3.size
    have hz2 : w1.heap.size < W2.heap.size := M2.out.lt
    have O2x := Lib.hid (fun g hg => O2.out.lt g hg)
    clear hp3 hk3 hb3 ho3 HT M2 O2 K2 a2
    by_cases hs : gS statusK l < 200
    · have hds : decide (gS statusK l < 200) = true := decide_eq_true hs
      go_wp2_with fail
      go_ret2
      exact ⟨P3.out, Or.inr (Or.inr ⟨h0, k, v3, HKN.out, hkl, B3.out, OO3.out, Or.inl ⟨hs, rfl, K3.out⟩⟩)⟩
    · have hds : decide (gS statusK l < 200) = false := decide_eq_false hs
      have HSS := Lib.hid hs
      clear hs
      have b0 := M3.out.cell 0
      have b1 := M3.out.cell 1
      have b3 := M3.out.cell 3
      have b4 := M3.out.cell 4
      simp at b0 b1 b3 b4
      have c6 := K3.out.cell 6
      have c7 := K3.out.cell 7
      have c8 := K3.out.cell 8
      have c9 := K3.out.cell 9
      have c10 := K3.out.cell 10
      have f6 := K3.out.frozen 6
      have f7 := K3.out.frozen 7
      have f8 := K3.out.frozen 8
      have f9 := K3.out.frozen 9
      have f10 := K3.out.frozen 10
      simp [rrC] at c6 c7 c8 c9 c10
      go_upto_region 10 with fail
      obtain ⟨W4, hW4, hk4', hp4⟩ := set_msg K3.out (gM statusK l) (gT statusK l) (gS statusK l) (.slice Aa (gF statusK l).length ca) (.slice none 0 0)
      rw [hW4]
      have hz4 := hp4.size
      have P4 := Lib.hid (P3.out.trans hp4)
      have M4 := M3.out.keep hp4 (fun e => by omega)
      have OF4 := Lib.hid (own_keepX OF3.out hp4 (fun g hg e => by have := (O2x.out g hg).1; omega))
      have B4 := Lib.hid (B3.out.keepX hp4 (fun g hg => HN.out g (OO3.out g hg)))
      have K4 := Lib.hid hk4'
      clear hW4 hp4 c6 c7 c8 c9 c10 f6 f7 f8 f9 f10 b0 b1 b3 b4 a3 M3 K3 P3 OF3 B3
      have b0 := M4.cell 0
      have b1 := M4.cell 1
      have b2 := M4.cell 2
      have b3 := M4.cell 3
      have b4 := M4.cell 4
      have c1 := hk4'.cell 1
      simp [rrC] at b0 b1 b2 b3 b4 c1
      clear hk4' M4
      have hfl := gF_len statusK l
      have hfs := gF_sum statusK l
      rw [HLL.out] at hfs
      have hst := gS_range l
      have hbel : Below p w W4.drew := (P4.out.below (by omega) (fun q e => by omega)).drew
      have HH := Lib.hid (how_any mt (gM statusK l) (gT statusK l) (gS statusK l) Aa none (gF statusK l).length ca 0 0 (gF statusK l) W4.drew ((fread_own rfl OF4.out)) (by omega) (by omega) (by omega) (HM.out.below hbel hmp) (by show maxG < W4.heap.size; omega))
      clear hbel
      obtain ⟨⟨z1, z2, z3⟩, hz⟩ : ∃ z, howM mt (gS statusK l) (gF statusK l) = z := ⟨_, rfl⟩
      have hsix := howM_six mt (gS statusK l) (gF statusK l)
      rw [hz] at hsix HH
      have HZ := Lib.hid hz
      have HSIX := Lib.hid hsix
      clear hz hsix
      go_cut [6, 7, 8] from 35 (fun s6 s7 s8 wx => s6 = .int .i64 z3 ∧ s7 = .int .u8 z1 ∧ s8 = .int .i64 z2 ∧ Hid (Below W4.heap.size W4 wx))
      case first =>
        have hlv : lenV .u8 (z1, z2, z3) = .tuple #[.int .u8 z1, .int .i64 z2, .int .i64 z3] := rfl
        go_region_with ((go_at_call 42; refine (HH.out).mono ?_; rintro e w5 ⟨rfl, hb5⟩))
        all_goals
          go_wp2_with fail
          go_meet
          exact ⟨rfl, rfl, rfl, below_undrew hb5⟩
      case rest =>
      obtain ⟨rfl, rfl, rfl, hb5h⟩ := hcut
      have hb5' := hb5h.out
      have hz5 := hb5'.size
      have P5 := Lib.hid (P4.out.trans (Keep.of_below hb5'))
      have OF5 := Lib.hid (own_below OF4.out hb5')
      have B5 := Lib.hid (B4.out.keepX (Keep.of_below (X := fun q => q = p) hb5') (fun g hg => HN.out g (OO3.out g hg)))
      have K5 := Lib.hid (K4.out.below hb5' (by omega))
      clear hb5' hb5h HH b0 b1 b2 b3 b4 c1 P4 OF4 B4 K4
      have hFd : ∀ (W : World), Keep (fun q => q = p) wc W → RdFd W w.heap.size (.slice Aa (gF statusK l).length ca) (gF statusK l) := fun W hW => by
        have ho := own_keepX OF5.out hW (fun g hg e => by have := (O2x.out g hg).1; omega)
        refine ⟨Aa, ca, rfl, own_cap ho, fread_own rfl ho, fun g hg => ⟨(O2x.out g hg).1, (ho.lt g hg).2⟩⟩
      have HFD := Lib.hid hFd
      clear hFd
      have c5 := K5.out.cell 5
      have c11 := K5.out.cell 11
      have c12 := K5.out.cell 12
      have c13 := K5.out.cell 13
      have f5 := K5.out.frozen 5
      have f11 := K5.out.frozen 11
      have f12 := K5.out.frozen 12
      simp [rrC] at c5 c11 c12 c13
      have hpost : ∀ (e : Ending) (W : World), Keep (fun q => q = p) wc W → (∀ v, (Value.slice Aa (gF statusK l).length ca) = v → HdTail p w mt nx v3 k l rd cm v (z1, z2, z3) e W) → Keep (fun q => q = p) w W ∧ HdPost p w base mt nx vf vd A n c l rd cm ms m1 m2 e W := fun e W hW h =>
        ⟨P5.out.trans hW, Or.inr (Or.inr ⟨h0, k, v3, HKN.out, hkl, B5.out.keepX hW (fun g hg => HN.out g (OO3.out g hg)), OO3.out, Or.inr ⟨(by have := HSS.out; omega), _, z1, z2, z3, HFD.out W hW, HZ.out, h _ rfl⟩⟩)⟩
      have HP := Lib.hid hpost
      clear hpost
      rcases HSIX.out with h | h | h | h | h | ⟨m, hm6, h⟩
      · obtain ⟨rfl, rfl, rfl⟩ := three_eq h
        clear h HSIX
        have HW := Lib.hid (whole_any p wc mt v3 nx (.slice Aa (gF statusK l).length ca) (.slice none 0 0) none 0 0 [] ((rd + k : Nat) : Int) cm (gS statusK l) 0 0 0 0 (gM statusK l) (gT statusK l) K5.out ⟨rfl, fun h => absurd h (by omega)⟩ (by omega))
        go_wp2_with fail
        refine (HW.out).mono ?_
        rintro e w6 ⟨rfl, hp6, v6, hk6, hr6⟩
        have K6 := Lib.hid hk6
        have P6 := Lib.hid hp6
        have R6 := Lib.hid hr6
        have d13 := hk6.cell 13
        simp [rrC] at d13
        clear hk6 hp6 hr6 HW c5 c11 c12 c13 f5 f11 f12
        go_wp2_with fail
        go_ret2
        refine HP.out _ _ P6.out (fun v hv => ?_)
        subst hv
        obtain ⟨Ar, cr, hv9, hc9, hL9, h9⟩ := R6.out
        exact Or.inr (Or.inl ⟨rfl, rfl, rfl, _, _, v6, ⟨Ar, cr, hv9, hc9, hL9, fun g hg => ⟨by have := (h9 g hg).1; omega, (h9 g hg).2⟩⟩, K6.out⟩)
      · obtain ⟨rfl, rfl, rfl⟩ := three_eq h
        clear h HSIX
        go_wp2_with fail
        go_ret2
        refine HP.out _ _ (Keep.setCell (p := ⟨p, 5, none⟩) (Keep.setCell (p := ⟨p, 12, none⟩) (Keep.refl (fun q => q = p) wc) rfl _) rfl _) (fun v hv => ?_)
        subst hv
        have hk6 := (K5.out.set_ 12 (.int .i64 1)).set_ 5 (nxRest p)
        exact Or.inr (Or.inr (Or.inr (Or.inr ⟨rfl, rfl, rfl, _, _, by simpa [rrC, nxRest, nxChunks, nxLen] using hk6⟩)))
      · obtain ⟨rfl, rfl, rfl⟩ := three_eq h
        clear h HSIX
        go_wp2_with fail
        go_ret2
        refine HP.out _ _ (Keep.setCell (p := ⟨p, 5, none⟩) (Keep.refl (fun q => q = p) wc) rfl _) (fun v hv => ?_)
        subst hv
        have hk6 := K5.out.set_ 5 (nxChunks p)
        exact Or.inr (Or.inr (Or.inr (Or.inl ⟨rfl, rfl, rfl, _, _, by simpa [rrC, nxRest, nxChunks, nxLen] using hk6⟩)))
      · obtain ⟨rfl, rfl, rfl⟩ := three_eq h
        clear h HSIX
        go_wp2_with fail
        go_ret2
        refine HP.out _ _ (Keep.refl (fun q => q = p) wc) (fun v hv => ?_)
        subst hv
        exact Or.inl ⟨by decide, rfl, _, _, K5.out⟩
      · obtain ⟨rfl, rfl, rfl⟩ := three_eq h
        clear h HSIX
        go_wp2_with fail
        go_ret2
        refine HP.out _ _ (Keep.refl (fun q => q = p) wc) (fun v hv => ?_)
        subst hv
        exact Or.inl ⟨by decide, rfl, _, _, K5.out⟩
      · obtain ⟨rfl, rfl, rfl⟩ := three_eq h
        clear h HSIX
        have hdm : decide ((65536 : Int) < (m : Int)) = false := decide_eq_false (by omega)
        go_wp2_with fail
        go_ret2
        refine HP.out _ _ (Keep.setCell (p := ⟨p, 5, none⟩) (Keep.setCell (p := ⟨p, 11, none⟩) (Keep.refl (fun q => q = p) wc) rfl _) rfl _) (fun v hv => ?_)
        subst hv
        have hk6 := (K5.out.set_ 11 (.int .i64 (m : Int))).set_ 5 (nxLen p)
        exact Or.inr (Or.inr (Or.inl ⟨rfl, rfl, rfl, _, _, by simpa [rrC, nxRest, nxChunks, nxLen] using hk6⟩))
  · have hd4 : (gE statusK l == 0) = false := beq_eq_false_iff_ne.2 h0
    have hd5 : (gE statusK l != 0) = true := by unfold bne; rw [hd4]; rfl
    go_wp2_with fail
    rw [HW2.out]
    go_ret2
    exact ⟨P2.out, Or.inr (Or.inl ⟨h7, h0, rfl, K2.out⟩)⟩
end Go.Proofs.YtonlfplloenfcaaGreatDoor
namespace Go.Proofs.YtonlfplloenfcaaGreatDoor
open Go.RowKit

/-- What the heads that were passed over leave open: they are of no matter to what is told. -/
def HeadI (L : List UInt8) (a : Nat) : Prop := ∀ x : List UInt8, (L ++ x).length < 60000 → headA 0 (L ++ x) = headA a (L.drop a ++ x)
def FinI (L : List UInt8) (a : Nat) (s : Int) (f : List Fd) : Prop := ∀ x : List UInt8, (L ++ x).length < 60000 → headA 0 (L ++ x) = .fin a s f
theorem headI_start : HeadI [] 0 := fun _ _ => rfl
theorem HeadI.more {L : List UInt8} {a : Nat} (h : HeadI L a) (ha : a ≤ L.length) (b : List UInt8) : HeadI (L ++ b) a := fun x hx => by
  rw [List.append_assoc] at hx ⊢
  rw [h (b ++ x) hx, List.drop_append_of_le_length ha, List.append_assoc]
theorem FinI.more {L : List UInt8} {a : Nat} {s : Int} {f : List Fd} (h : FinI L a s f) (b : List UInt8) : FinI (L ++ b) a s f := fun x hx => by
  rw [List.append_assoc] at hx ⊢
  exact h (b ++ x) hx
theorem HeadI.here {L : List UInt8} {a : Nat} (h : HeadI L a) (hl : L.length < 60000) : headA 0 L = headA a (L.drop a) := by
  have := h [] (by rw [List.append_nil]; exact hl)
  rwa [List.append_nil, List.append_nil] at this
theorem FinI.here {L : List UInt8} {a : Nat} {s : Int} {f : List Fd} (h : FinI L a s f) (hl : L.length < 60000) : headA 0 L = .fin a s f := by
  have := h [] (by rw [List.append_nil]; exact hl)
  rwa [List.append_nil] at this
theorem HeadI.next {L : List UInt8} {a k : Nat} (h : HeadI L a) (h0 : gE statusK (L.drop a) = 0) (hs : gS statusK (L.drop a) < 200) (hk : gN statusK (L.drop a) = (k : Int)) : HeadI L (a + k) := fun x hx => by
  have hl : (L.drop a ++ x).length < 65536 := by rw [List.length_append] at hx ⊢; rw [List.length_drop]; omega
  rw [h x hx, head_step h0 hs x hl, hk, Int.toNat_natCast, List.drop_drop]
theorem HeadI.fin {L : List UInt8} {a k : Nat} (h : HeadI L a) (h0 : gE statusK (L.drop a) = 0) (hs : ¬ gS statusK (L.drop a) < 200) (hk : gN statusK (L.drop a) = (k : Int)) (hl : L.length < 60000) : FinI L (a + k) (gS statusK (L.drop a)) (gF statusK (L.drop a)) := fun x hx => by
  rw [h x hx, head_fin_more h0 hs x (by rw [List.length_drop]; omega), hk, Int.toNat_natCast]
theorem look_wait {mt : ByteArray} {L : List UInt8} {a : Nat} (h : HeadI L a) (hl : L.length < 60000) (h7 : gE statusK (L.drop a) = 7) : lookA mt L = .wait := lookA_short ((h.here hl).trans (headA_short h7))
theorem look_bad {mt : ByteArray} {L : List UInt8} {a : Nat} (h : HeadI L a) (hl : L.length < 60000) (h7 : gE statusK (L.drop a) ≠ 7) (h0 : gE statusK (L.drop a) ≠ 0) : lookA mt L = .err (gE statusK (L.drop a)) := lookA_err ((h.here hl).trans (headA_err h7 h0))
section
variable {mt : ByteArray} {L : List UInt8} {a : Nat} {s : Int} {f : List Fd}
theorem look_err3 (h : FinI L a s f) (hl : L.length < 60000) {z1 z2 z3 : Int} (hz : howM mt s f = (z1, z2, z3)) (h3 : z3 ≠ 0) : lookA mt L = .err z3 := by
  rw [lookA_fin (h.here hl)]
  unfold bodyA
  rw [hz, if_pos h3]
theorem look_none (h : FinI L a s f) (hl : L.length < 60000) {z2 : Int} (hz : howM mt s f = (0, z2, 0)) : lookA mt L = .done a s f [] (keepB f) := by
  rw [lookA_fin (h.here hl)]
  unfold bodyA
  rw [hz, if_neg (by simp), if_pos rfl]
theorem look_len (h : FinI L a s f) (hl : L.length < 60000) {m : Nat} (hz : howM mt s f = (1, (m : Int), 0)) : lookA mt L = if m ≤ L.length - a then .done (a + m) s f ((L.drop a).take m) (keepB f) else .wait := by
  rw [lookA_fin (h.here hl)]
  unfold bodyA
  rw [hz, if_neg (by simp), if_neg (by simp), if_pos rfl, Int.toNat_natCast, List.length_drop]
theorem look_chunks (h : FinI L a s f) (hl : L.length < 60000) (hz : howM mt s f = (2, 0, 0)) : lookA mt L = (match chunkA (L.drop a) with
    | .err e => .err e
    | .more _ => .wait
    | .done b q => .done (a + ((L.length - a) - q.length)) s f b (keepB f)) := by
  rw [lookA_fin (h.here hl)]
  unfold bodyA
  rw [hz, if_neg (by decide), if_neg (by decide), if_neg (by decide), if_pos rfl, List.length_drop]
  cases chunkA (L.drop a) <;> rfl
theorem look_rest (h : FinI L a s f) (hl : L.length < 60000) (hz : howM mt s f = (3, 0, 0)) : lookA mt L = .opn (a + (L.length - a)) s f (L.drop a) := by
  rw [lookA_fin (h.here hl)]
  unfold bodyA
  rw [hz, if_neg (by decide), if_neg (by decide), if_neg (by decide), if_neg (by decide), List.length_drop, if_neg (by omega)]
end
/-- Which state a reader is in that reads. -/
def PhI (w : World) (base p : Nat) (mt : ByteArray) (L : List UInt8) (a : Nat) (vb nx : Value) (ms : Int) (vf vd : Value) (need ends : Int) : Prop :=
  (nx = nxHead p ∧ ms = 0 ∧ need = 0 ∧ ends = 0 ∧ HeadI L a) ∨
  (200 ≤ ms ∧ vd = .slice none 0 0 ∧ ∃ f, RdFd w base vf f ∧ (∀ g, vf.ownBlock = some g → g ≠ p ∧ vb.ownBlock ≠ some g) ∧ FinI L a ms f ∧
    ((nx = nxLen p ∧ ends = 0 ∧ ∃ m : Nat, m ≤ 65536 ∧ howM mt ms f = (1, (m : Int), 0) ∧ need = (m : Int)) ∨ (nx = nxChunks p ∧ need = 0 ∧ ends = 0 ∧ howM mt ms f = (2, 0, 0)) ∨ (nx = nxRest p ∧ need = 0 ∧ ends = 1 ∧ howM mt ms f = (3, 0, 0))))
/-- A reader that reads, and these bytes came. -/
def RdOn (w : World) (base p : Nat) (mt : ByteArray) (L : List UInt8) (vb : Value) : Prop :=
  ∃ a nx m1 m2 ms vf vd need ends, a ≤ L.length ∧ Blk w p 160 (rrC mt vb ((a : Nat) : Int) (L.length : Int) nx m1 m2 ms vf vd need ends 0 0) ∧ BufOk w base vb (L.length - a) (Lib.byteCells (L.drop a)) ∧ (∀ g, vb.ownBlock = some g → ¬ g = p) ∧ PhI w base p mt L a vb nx ms vf vd need ends
def RdBad (w : World) (p : Nat) (mt : ByteArray) (z : Int) : Prop := ∃ vb rd cm nx m1 m2 ms vf vd need ends, Blk w p 160 (rrC mt vb rd cm nx m1 m2 ms vf vd need ends 0 z)
def RdFin (w : World) (base p : Nat) (mt : ByteArray) (n : Nat) (s : Int) (f : List Fd) (b : List UInt8) (k : Bool) : Prop :=
  ∃ vb cm nx m1 m2 vf vd need ends, Blk w p 160 (rrC mt vb (n : Int) cm nx m1 m2 s vf vd need ends 1 0) ∧ RdFd w base vf f ∧ (∀ g, vf.ownBlock = some g → g ≠ p) ∧ RdL w base vd b ∧ (∀ g, vd.ownBlock = some g → g ≠ p) ∧ ((ends = 0 ∧ k = keepB f) ∨ (ends = 1 ∧ k = false))
def RdSt (w : World) (base p : Nat) (mt : ByteArray) : RSt → Prop
  | .on L => ∃ vb, RdOn w base p mt L vb
  | .bad z => RdBad w p mt z
  | .fin s f b k => ∃ n, RdFin w base p mt n s f b k
end Go.Proofs.YtonlfplloenfcaaGreatDoor
namespace Go.Proofs.YtonlfplloenfcaaGreatDoor
open Go.RowKit

theorem bc_append (a b : List UInt8) : Lib.byteCells (a ++ b) = Lib.byteCells a ++ Lib.byteCells b := by unfold Lib.byteCells; rw [List.map_append]
theorem bc_drop (a : List UInt8) (k : Nat) : (Lib.byteCells a).drop k = Lib.byteCells (a.drop k) := by unfold Lib.byteCells; rw [List.map_drop]
theorem PhI.own {w : World} {base p : Nat} {mt : ByteArray} {L : List UInt8} {a : Nat} {vb nx : Value} {ms : Int} {vf vd : Value} {need ends : Int} (h : PhI w base p mt L a vb nx ms vf vd need ends) {X : Nat → Prop} {w' : World} (hk : Keep X w w') (hx : ∀ g, X g → g = p ∨ vb.ownBlock = some g) {vb2 : Value} (hv : ∀ g, vb2.ownBlock = some g → vb.ownBlock = some g ∨ w.heap.size ≤ g) : PhI w' base p mt L a vb2 nx ms vf vd need ends := by
  rcases h with h | ⟨h1, h2, f, h3, h4, h5, h6⟩
  · exact .inl h
  · refine .inr ⟨h1, h2, f, h3.keepX hk (fun g hg hxg => (hx g hxg).elim (h4 g hg).1 (h4 g hg).2), fun g hg => ⟨(h4 g hg).1, fun e => ?_⟩, h5, h6⟩
    obtain ⟨_, _, _, _, _, hb⟩ := h3
    rcases hv g e with e | e
    · exact (h4 g hg).2 e
    · have := (hb g hg).2
      omega
theorem PhI.more {w : World} {base p : Nat} {mt : ByteArray} {L : List UInt8} {a : Nat} {vb nx : Value} {ms : Int} {vf vd : Value} {need ends : Int} (h : PhI w base p mt L a vb nx ms vf vd need ends) (ha : a ≤ L.length) (b : List UInt8) : PhI w base p mt (L ++ b) a vb nx ms vf vd need ends := by
  rcases h with ⟨h1, h2, h3, h4, h5⟩ | ⟨h1, h2, f, h3, h4, h5, h6⟩
  · exact .inl ⟨h1, h2, h3, h4, h5.more ha b⟩
  · exact .inr ⟨h1, h2, f, h3, h4, h5.more b, h6⟩
/-- Where a reader stands in its work: the rounds that are left. -/
def rdRank (p n : Nat) (v : Value) (W : World) : Nat := match v with
  | .bool true => (match W.cell? ⟨p, 8, none⟩ with
    | some (.int _ z) => if z < 200 then (match W.cell? ⟨p, 3, none⟩ with
      | some (.int _ r) => n - r.toNat + 2
      | _ => 0) else 1
    | _ => 0)
  | _ => 0
theorem rdRank_head {p n : Nat} {W : World} {mt : ByteArray} {vb nx vf vd : Value} {a : Nat} {cm ms need ends done e0 : Int} {m1 m2 : ByteArray} (hk : Blk W p 160 (rrC mt vb ((a : Nat) : Int) cm nx m1 m2 ms vf vd need ends done e0)) (hs : ms < 200) : rdRank p n (.bool true) W = n - a + 2 := by
  have h1 := hk.cell 8
  have h2 := hk.cell 3
  simp [rrC] at h1 h2
  simp [rdRank, h1, h2, hs]
theorem rdRank_body {p n : Nat} {W : World} {mt : ByteArray} {vb nx vf vd : Value} {rd cm ms need ends done e0 : Int} {m1 m2 : ByteArray} (hk : Blk W p 160 (rrC mt vb rd cm nx m1 m2 ms vf vd need ends done e0)) (hs : 200 ≤ ms) : rdRank p n (.bool true) W = 1 := by
  have h1 := hk.cell 8
  simp [rrC] at h1
  simp [rdRank, h1]
  omega

/-- What a state's work leaves. -/
def NextI (w' : World) (base p : Nat) (mt : ByteArray) (L : List UInt8) (vb : Value) (bo : Bool) (z : Int) (rk : Nat) : Prop :=
  (z ≠ 0 ∧ bo = false ∧ lookA mt L = .err z ∧ RdBad w' p mt 0) ∨
  (z = 0 ∧ ∃ vb2, (∀ g, vb2.ownBlock = some g → vb.ownBlock = some g) ∧ RdOn w' base p mt L vb2 ∧ ((bo = true ∧ rdRank p L.length (.bool true) w' < rk) ∨ (bo = false ∧ (lookA mt L = .wait ∨ ∃ n s f x, lookA mt L = .opn n s f x)))) ∨
  (z = 0 ∧ bo = false ∧ ∃ n s f x k, lookA mt L = .done n s f x k ∧ RdFin w' base p mt n s f x k)
theorem rdnext_head (p : Nat) (w : World) (base : Nat) (mt : ByteArray) (L : List UInt8) (a : Nat) (vb : Value) (m1 m2 : ByteArray) (vf vd : Value)
    (hk : Blk w p 160 (rrC mt vb ((a : Nat) : Int) (L.length : Int) (nxHead p) m1 m2 0 vf vd 0 0 0 0)) (hb : BufOk w base vb (L.length - a) (Lib.byteCells (L.drop a))) (hne : ∀ g, vb.ownBlock = some g → ¬ g = p) (ha : a ≤ L.length) (hI : HeadI L a) (hn : L.length < 60000)
    (hm : MaxOk w) (hmg : maxG < w.heap.size) (he : ErrOk w) (heg : errG < w.heap.size) (hmp : maxG < p) (hbp : base ≤ p) :
    Calls Tryz.prog 133 #[.pointer (some ⟨p, 0, none⟩)] w fun e w' => ∃ bo z, e = retBE bo z ∧ Keep (fun q => q = p) w w' ∧ NextI w' base p mt L vb bo z (rdRank p L.length (.bool true) w) := by
  obtain ⟨A, c, rfl, _, _, _⟩ := hb.form
  have hrk := rdRank_head (n := L.length) hk (by decide)
  have hpl := hk.lt
  refine (rdhead_any p w base mt (nxHead p) vf vd A (L.length - a) c (L.drop a) a (L.length : Int) 0 m1 m2 hk hb hne (by omega) (by omega) hm hmg he heg hmp).mono ?_
  rintro e w' ⟨hp, hpost⟩
  rcases hpost with ⟨h7, rfl, hk5⟩ | ⟨h7, h0, rfl, hk5⟩ | ⟨h0, k, v, hgn, hkn, hb5, ho5, hrest⟩
  · exact ⟨_, _, rfl, hp, Or.inr (Or.inl ⟨rfl, _, fun g hg => hg, ⟨a, nxHead p, m1, m2, 0, vf, vd, 0, 0, ha, hk5, hb.keepX hp hne, hne, Or.inl ⟨rfl, rfl, rfl, rfl, hI⟩⟩, Or.inr ⟨rfl, Or.inl (look_wait hI hn h7)⟩⟩)⟩
  · exact ⟨_, _, rfl, hp, Or.inl ⟨h0, rfl, look_bad hI hn h7 h0, _, _, _, _, _, _, _, _, _, _, _, hk5⟩⟩
  · have hne5 : ∀ g, v.ownBlock = some g → ¬ g = p := fun g hg => hne g (ho5 g hg)
    have hb6 : BufOk w' base v (L.length - (a + k)) (Lib.byteCells (L.drop (a + k))) := by
      rw [bc_drop, List.drop_drop] at hb5
      rw [show L.length - (a + k) = L.length - a - k by omega]
      exact hb5
    have hak : a + k ≤ L.length := by omega
    have hk4 := (gN_pos h0 (by rw [List.length_drop]; omega)).1
    rw [hgn, Int.toNat_natCast] at hk4
    rcases hrest with ⟨hs, rfl, hk5⟩ | ⟨hs, vf2, z1, z2, z3, hfd, hz, htail⟩
    · refine ⟨_, _, rfl, hp, Or.inr (Or.inl ⟨rfl, v, ho5, ⟨a + k, nxHead p, m1, m2, 0, vf, vd, 0, 0, hak, hk5, hb6, hne5, Or.inl ⟨rfl, rfl, rfl, rfl, hI.next h0 hs hgn⟩⟩, Or.inl ⟨rfl, ?_⟩⟩)⟩
      rw [hrk, rdRank_head (n := L.length) hk5 (by decide)]
      omega
    · have hfin := hI.fin h0 hs hgn hn
      have hs2 : 200 ≤ gS statusK (L.drop a) := by omega
      have hfd2 : RdFd w' base vf2 (gF statusK (L.drop a)) ∧ ∀ g, vf2.ownBlock = some g → g ≠ p ∧ v.ownBlock ≠ some g := by
        obtain ⟨Af, cf, hv, hc, hL, hbf⟩ := hfd
        refine ⟨⟨Af, cf, hv, hc, hL, fun g hg => ⟨by have := (hbf g hg).1; omega, (hbf g hg).2⟩⟩, fun g hg => ⟨by have := (hbf g hg).1; omega, fun e => ?_⟩⟩
        have h1 := (hbf g hg).1
        have h2 := (hb.own g (ho5 g e)).2
        omega
      have hrb : ∀ {w'' : World} {nx2 : Value} {x1 x2 : ByteArray} {vb2 vd2 : Value} {rd2 cm2 need2 ends2 : Int}, Blk w'' p 160 (rrC mt vb2 rd2 cm2 nx2 x1 x2 (gS statusK (L.drop a)) vf2 vd2 need2 ends2 0 0) → rdRank p L.length (.bool true) w'' < rdRank p L.length (.bool true) w := fun h => by
        rw [hrk, rdRank_body h hs2]
        omega
      rcases htail with ⟨h3, rfl, x1, x2, hk5⟩ | ⟨h3, h1, rfl, x1, x2, v2, hr2, hk5⟩ | ⟨h3, h1, rfl, x1, x2, hk5⟩ | ⟨h3, h1, rfl, x1, x2, hk5⟩ | ⟨h3, h1, rfl, x1, x2, hk5⟩
      · exact ⟨_, _, rfl, hp, Or.inl ⟨h3, rfl, look_err3 hfin hn hz h3, _, _, _, _, _, _, _, _, _, _, _, hk5⟩⟩
      · simp only at h3 h1
        subst h3 h1
        refine ⟨_, _, rfl, hp, Or.inr (Or.inr ⟨rfl, rfl, _, _, _, _, _, look_none hfin hn hz, ?_⟩)⟩
        obtain ⟨Ar, cr, hv, hc, hL, hbr⟩ := hr2
        exact ⟨_, _, _, _, _, _, _, _, _, hk5, hfd2.1, fun g hg => (hfd2.2 g hg).1, ⟨Ar, cr, hv, hc, hL, fun g hg => ⟨by have := (hbr g hg).1; omega, (hbr g hg).2⟩⟩, fun g hg => by have := (hbr g hg).1; omega, Or.inl ⟨rfl, rfl⟩⟩
      · simp only at h3 h1
        subst h3 h1
        rcases howM_six mt (gS statusK (L.drop a)) (gF statusK (L.drop a)) with h | h | h | h | h | ⟨m, hm6, h⟩
        all_goals (rw [hz] at h)
        · cases (three_eq h).1
        · cases (three_eq h).1
        · cases (three_eq h).1
        · cases (three_eq h).1
        · cases (three_eq h).1
        · obtain ⟨_, rfl, _⟩ := three_eq h
          exact ⟨_, _, rfl, hp, Or.inr (Or.inl ⟨rfl, v, ho5, ⟨a + k, nxLen p, x1, x2, _, vf2, _, _, 0, hak, hk5, hb6, hne5, Or.inr ⟨hs2, rfl, _, hfd2.1, hfd2.2, hfin, Or.inl ⟨rfl, rfl, m, hm6, hz, rfl⟩⟩⟩, Or.inl ⟨rfl, hrb hk5⟩⟩)⟩
      · simp only at h3 h1
        subst h3 h1
        have hz2 : z2 = 0 := by
          rcases howM_six mt (gS statusK (L.drop a)) (gF statusK (L.drop a)) with h | h | h | h | h | ⟨m, hm6, h⟩
          all_goals (rw [hz] at h)
          · cases (three_eq h).1
          · cases (three_eq h).1
          · exact (three_eq h).2.1
          · cases (three_eq h).1
          · cases (three_eq h).1
          · cases (three_eq h).1
        subst hz2
        exact ⟨_, _, rfl, hp, Or.inr (Or.inl ⟨rfl, v, ho5, ⟨a + k, nxChunks p, x1, x2, _, vf2, _, 0, 0, hak, hk5, hb6, hne5, Or.inr ⟨hs2, rfl, _, hfd2.1, hfd2.2, hfin, Or.inr (Or.inl ⟨rfl, rfl, rfl, hz⟩)⟩⟩, Or.inl ⟨rfl, hrb hk5⟩⟩)⟩
      · simp only at h3 h1
        subst h3 h1
        have hz2 : z2 = 0 := by
          rcases howM_six mt (gS statusK (L.drop a)) (gF statusK (L.drop a)) with h | h | h | h | h | ⟨m, hm6, h⟩
          all_goals (rw [hz] at h)
          · cases (three_eq h).1
          · exact (three_eq h).2.1
          · cases (three_eq h).1
          · cases (three_eq h).1
          · cases (three_eq h).1
          · cases (three_eq h).1
        subst hz2
        exact ⟨_, _, rfl, hp, Or.inr (Or.inl ⟨rfl, v, ho5, ⟨a + k, nxRest p, x1, x2, _, vf2, _, 0, 1, hak, hk5, hb6, hne5, Or.inr ⟨hs2, rfl, _, hfd2.1, hfd2.2, hfin, Or.inr (Or.inr ⟨rfl, rfl, rfl, hz⟩)⟩⟩, Or.inl ⟨rfl, hrb hk5⟩⟩)⟩
theorem rdnext_len (p : Nat) (w : World) (base : Nat) (mt : ByteArray) (L : List UInt8) (a : Nat) (vb : Value) (m1 m2 : ByteArray) (vf vd : Value) (ms : Int) (f : List Fd) (m : Nat)
    (hk : Blk w p 160 (rrC mt vb ((a : Nat) : Int) (L.length : Int) (nxLen p) m1 m2 ms vf vd (m : Int) 0 0 0)) (hb : BufOk w base vb (L.length - a) (Lib.byteCells (L.drop a))) (hne : ∀ g, vb.ownBlock = some g → ¬ g = p) (ha : a ≤ L.length) (hn : L.length < 60000)
    (hs2 : 200 ≤ ms) (hvd : vd = .slice none 0 0) (hfd : RdFd w base vf f) (hfx : ∀ g, vf.ownBlock = some g → g ≠ p ∧ vb.ownBlock ≠ some g) (hI : FinI L a ms f) (hm6 : m ≤ 65536) (hz : howM mt ms f = (1, (m : Int), 0)) (hbp : base ≤ p) :
    Calls Tryz.prog 203 #[.pointer (some ⟨p, 0, none⟩)] w fun e w' => ∃ bo z, e = retBE bo z ∧ Keep (fun q => q = p) w w' ∧ NextI w' base p mt L vb bo z (rdRank p L.length (.bool true) w) := by
  obtain ⟨A, c, rfl, _, _, _⟩ := hb.form
  have hpl := hk.lt
  have hlook := look_len hI hn hz
  by_cases hmn : m ≤ L.length - a
  · rw [if_pos hmn] at hlook
    refine (rdlen_done p w base mt (nxLen p) vf vd A (L.length - a) c m (L.drop a) a (L.length : Int) ms 0 0 0 m1 m2 hk hb hne hmn (by omega) (by omega)).mono ?_
    rintro e w' ⟨rfl, hp, v, v2, hk5, hr2, hb5, ho5⟩
    refine ⟨false, 0, rfl, hp, Or.inr (Or.inr ⟨rfl, rfl, _, _, _, _, _, hlook, ?_⟩)⟩
    obtain ⟨Ar, cr, hv, hc, hL, hbr⟩ := hr2
    exact ⟨_, _, _, _, _, _, _, _, _, hk5, hfd.keepX hp (fun g hg => (hfx g hg).1), fun g hg => (hfx g hg).1, ⟨Ar, cr, hv, hc, hL, fun g hg => ⟨by have := (hbr g hg).1; omega, (hbr g hg).2⟩⟩, fun g hg => by have := (hbr g hg).1; omega, Or.inl ⟨rfl, rfl⟩⟩
  · rw [if_neg hmn] at hlook
    refine (rdlen_more p w mt (nxLen p) vf vd A (L.length - a) c m (a : Int) (L.length : Int) ms 0 0 0 m1 m2 hk (by omega)).mono ?_
    rintro e w' ⟨rfl, q, rfl⟩
    have hp : Keep (fun q => q = p) w (w.drewN q) := (Keep.refl _ w).drewN q
    exact ⟨false, 0, rfl, hp, Or.inr (Or.inl ⟨rfl, _, fun g hg => hg, ⟨a, nxLen p, m1, m2, ms, vf, vd, (m : Int), 0, ha, hk.drewN q, hb.keepX hp hne, hne, Or.inr ⟨hs2, hvd, f, hfd.keepX hp (fun g hg => (hfx g hg).1), hfx, hI, Or.inl ⟨rfl, rfl, m, hm6, hz, rfl⟩⟩⟩, Or.inr ⟨rfl, Or.inl hlook⟩⟩)⟩
theorem rdnext_rest (p : Nat) (w : World) (base : Nat) (mt : ByteArray) (L : List UInt8) (a : Nat) (vb : Value) (m1 m2 : ByteArray) (vf vd : Value) (ms : Int) (f : List Fd)
    (hk : Blk w p 160 (rrC mt vb ((a : Nat) : Int) (L.length : Int) (nxRest p) m1 m2 ms vf vd 0 1 0 0)) (hb : BufOk w base vb (L.length - a) (Lib.byteCells (L.drop a))) (hne : ∀ g, vb.ownBlock = some g → ¬ g = p) (ha : a ≤ L.length) (hn : L.length < 60000)
    (hs2 : 200 ≤ ms) (hvd : vd = .slice none 0 0) (hfd : RdFd w base vf f) (hfx : ∀ g, vf.ownBlock = some g → g ≠ p ∧ vb.ownBlock ≠ some g) (hI : FinI L a ms f) (hz : howM mt ms f = (3, 0, 0)) :
    Calls Tryz.prog 205 #[.pointer (some ⟨p, 0, none⟩)] w fun e w' => ∃ bo z, e = retBE bo z ∧ Keep (fun q => q = p) w w' ∧ NextI w' base p mt L vb bo z (rdRank p L.length (.bool true) w) := by
  obtain ⟨A, c, rfl, _, _, _⟩ := hb.form
  refine (rdrest_any p w mt (nxRest p) vf vd A (L.length - a) c (a : Int) (L.length : Int) ms 0 1 0 0 m1 m2 hk).mono ?_
  rintro e w' ⟨rfl, rfl⟩
  rw [if_neg (by omega)]
  exact ⟨false, 0, rfl, Keep.refl _ _, Or.inr (Or.inl ⟨rfl, _, fun g hg => hg, ⟨a, nxRest p, m1, m2, ms, vf, vd, 0, 1, ha, hk, hb, hne, Or.inr ⟨hs2, hvd, f, hfd, hfx, hI, Or.inr (Or.inr ⟨rfl, rfl, rfl, hz⟩)⟩⟩, Or.inr ⟨rfl, Or.inr ⟨_, _, _, _, look_rest hI hn hz⟩⟩⟩)⟩
theorem rdnext_chunks (p : Nat) (w : World) (base : Nat) (mt : ByteArray) (L : List UInt8) (a : Nat) (vb : Value) (m1 m2 : ByteArray) (vf vd : Value) (ms : Int) (f : List Fd)
    (hk : Blk w p 160 (rrC mt vb ((a : Nat) : Int) (L.length : Int) (nxChunks p) m1 m2 ms vf vd 0 0 0 0)) (hb : BufOk w base vb (L.length - a) (Lib.byteCells (L.drop a))) (hne : ∀ g, vb.ownBlock = some g → ¬ g = p) (ha : a ≤ L.length) (hn : L.length < 60000)
    (hs2 : 200 ≤ ms) (hvd : vd = .slice none 0 0) (hfd : RdFd w base vf f) (hfx : ∀ g, vf.ownBlock = some g → g ≠ p ∧ vb.ownBlock ≠ some g) (hI : FinI L a ms f) (hz : howM mt ms f = (2, 0, 0)) (hm : MaxOk w) (hmg : maxG < w.heap.size) (hbp : base ≤ p) :
    Calls Tryz.prog 204 #[.pointer (some ⟨p, 0, none⟩)] w fun e w' => ∃ bo z, e = retBE bo z ∧ Keep (fun q => q = p) w w' ∧ NextI w' base p mt L vb bo z (rdRank p L.length (.bool true) w) := by
  obtain ⟨A, c, rfl, _, _, _⟩ := hb.form
  have hpl := hk.lt
  have hlook := look_chunks hI hn hz
  refine (rdchunks_any p w base mt (nxChunks p) vf vd A (L.length - a) c (L.drop a) a (L.length : Int) ms 0 0 0 0 m1 m2 hk hb hne (by omega) (by omega) hm hmg).mono ?_
  rintro e w' ⟨rfl, hp, h1, h2⟩
  have hon : ∀ (hx : ∀ b q, chunkA (L.drop a) ≠ .done b q), RdOn w' base p mt L (.slice A (L.length - a) c) := fun hx =>
    ⟨a, nxChunks p, m1, m2, ms, vf, vd, 0, 0, ha, h1 hx, hb.keepX hp hne, hne, Or.inr ⟨hs2, hvd, f, hfd.keepX hp (fun g hg => (hfx g hg).1), hfx, hI, Or.inr (Or.inl ⟨rfl, rfl, rfl, hz⟩)⟩⟩
  cases hc : chunkA (L.drop a) with
  | err z =>
    rw [hc] at hlook
    have hz0 : z ≠ 0 := by rcases chunkA_err hc with rfl | rfl <;> decide
    exact ⟨false, z, rfl, hp, Or.inl ⟨hz0, rfl, hlook, _, _, _, _, _, _, _, _, _, _, _, h1 (fun b q e => by rw [hc] at e; cases e)⟩⟩
  | more b =>
    rw [hc] at hlook
    exact ⟨false, 0, rfl, hp, Or.inr (Or.inl ⟨rfl, _, fun g hg => hg, hon (fun b q e => by rw [hc] at e; cases e), Or.inr ⟨rfl, Or.inl hlook⟩⟩)⟩
  | done b q =>
    rw [hc] at hlook
    obtain ⟨v, v2, hk5, hr2, hb5, ho5⟩ := h2 b q hc
    refine ⟨false, 0, rfl, hp, Or.inr (Or.inr ⟨rfl, rfl, _, _, _, _, _, hlook, ?_⟩)⟩
    obtain ⟨Ar, cr, hv, hc2, hL, hbr⟩ := hr2
    exact ⟨_, _, _, _, _, _, _, _, _, hk5, hfd.keepX hp (fun g hg => (hfx g hg).1), fun g hg => (hfx g hg).1, ⟨Ar, cr, hv, hc2, hL, fun g hg => ⟨by have := (hbr g hg).1; omega, (hbr g hg).2⟩⟩, fun g hg => by have := (hbr g hg).1; omega, Or.inl ⟨rfl, rfl⟩⟩
end Go.Proofs.YtonlfplloenfcaaGreatDoor
namespace Go.Proofs.YtonlfplloenfcaaGreatDoor
open Go.RowKit

theorem lies_keep {p : Nat} {w w' : World} {n : Nat} {A : Option Addr} {xs : List Value} (hk : Keep (fun q => q = p) w w') (h : Lies w w.heap.size A n xs) (hA : 0 < n → ∀ g o, A = some ⟨g, o, none⟩ → g ≠ p) : Lies w' w.heap.size A n xs := by
  rcases Nat.eq_zero_or_pos n with h0 | h0
  · exact ⟨h.1, fun h1 => by omega⟩
  · exact h.keepX hk (Nat.le_refl _) (hA h0)
theorem look_done_le {mt : ByteArray} {L : List UInt8} (hl : L.length < 60000) {n : Nat} {s : Int} {f : List Fd} {b : List UInt8} {k : Bool} (h : lookA mt L = .done n s f b k) : n ≤ L.length := by
  have := (look_more (mt := mt) (l := L) [] (by rw [List.append_nil]; omega)).2 n s f b k h
  exact this.2
theorem RdOn.zero {w : World} {base p : Nat} {mt : ByteArray} {L : List UInt8} {vb : Value} (h : RdOn w base p mt L vb) : RdOn (w.setCell ⟨p, 14, none⟩ (.int .i64 0)) base p mt L vb := by
  obtain ⟨a, nx, m1, m2, ms, vf, vd, need, ends, ha, hk, hb, hne, hph⟩ := h
  have hK : Keep (fun q => q = p) w (w.setCell ⟨p, 14, none⟩ (.int .i64 0)) := Keep.setCell (p := ⟨p, 14, none⟩) (Keep.refl (fun q => q = p) w) rfl _
  have h2 := hk.set_ 14 (.int .i64 0)
  exact ⟨a, nx, m1, m2, ms, vf, vd, need, ends, ha, by simpa [rrC] using h2, hb.keepX hK hne, hne, hph.own hK (fun g e => Or.inl e) (fun g hg => Or.inl hg)⟩
theorem rdRank_zero (w : World) (p n : Nat) (v u : Value) : rdRank p n v (w.setCell ⟨p, 14, none⟩ u) = rdRank p n v w := by
  have h8 : (w.setCell ⟨p, 14, none⟩ u).cell? ⟨p, 8, none⟩ = w.cell? ⟨p, 8, none⟩ := World.cell?_setCell_other _ _ _ _ (fun e => by injection e with _ h; cases h)
  have h3 : (w.setCell ⟨p, 14, none⟩ u).cell? ⟨p, 3, none⟩ = w.cell? ⟨p, 3, none⟩ := World.cell?_setCell_other _ _ _ _ (fun e => by injection e with _ h; cases h)
  unfold rdRank
  rw [h8, h3]
theorem RdFin.zero {w : World} {base p : Nat} {mt : ByteArray} {n : Nat} {s : Int} {f : List Fd} {b : List UInt8} {k : Bool} (h : RdFin w base p mt n s f b k) : RdFin (w.setCell ⟨p, 14, none⟩ (.int .i64 0)) base p mt n s f b k := by
  obtain ⟨vb, cm, nx, m1, m2, vf, vd, need, ends, hk, hf, hfx, hb, hbx, he⟩ := h
  have hK : Keep (fun q => q = p) w (w.setCell ⟨p, 14, none⟩ (.int .i64 0)) := Keep.setCell (p := ⟨p, 14, none⟩) (Keep.refl (fun q => q = p) w) rfl _
  have h2 := hk.set_ 14 (.int .i64 0)
  exact ⟨vb, cm, nx, m1, m2, vf, vd, need, ends, by simpa [rrC] using h2, hf.keepX hK hfx, hfx, hb.keepX hK hbx, hbx, he⟩

set_option maxRecDepth 100000 in
set_option maxHeartbeats 4000000 in
theorem rdput_on (p : Nat) (w : World) (base : Nat) (mt : ByteArray) (L b : List UInt8) (vb : Value) (A : Option Addr) (n c : Nat)
    (hr : RdOn w base p mt L vb) (h : Lies w w.heap.size A n (Lib.byteCells b)) (hA : 0 < n → ∀ g o, A = some ⟨g, o, none⟩ → g ≠ p) (hn : L.length + n < 60000) (hbase : base ≤ w.heap.size)
    (hm : MaxOk w) (hmg : maxG < base) (he : ErrOk w) (heg : errG < base) (hbp : base ≤ p) :
    Calls Tryz.prog 59 #[.pointer (some ⟨p, 0, none⟩), .slice A n c] w fun e w' => e = .returned (.tuple #[.int .i64 (putR mt (.on L) b).2.1, .int .i64 (putR mt (.on L) b).2.2]) ∧ Keep (fun q => q = p ∨ vb.ownBlock = some q) w w' ∧ RdSt w' base p mt (putR mt (.on L) b).1 := by
  obtain ⟨a, nx, m1, m2, ms, vf, vd, need, ends, ha, hk, hbuf, hne, hph⟩ := hr
  have hll : b.length = n := by simpa [Lib.byteCells] using h.1
  have hown := fun g hg => (hbuf.own g hg).1
  obtain ⟨Av, cv, rfl, hcap, hbL, hbA⟩ := hbuf.form
  have HTH := Lib.hid (there_any p w mt _ nx vf vd _ _ ms need ends 0 0 m1 m2 hk)
  have HK := Lib.hid hk
  have HB := Lib.hid hbuf
  have HN := Lib.hid hne
  have HP := Lib.hid hph
  have H := Lib.hid h
  have HA := Lib.hid hA
  have HLL := Lib.hid hll
  have HM := Lib.hid hm
  have HE := Lib.hid he
  have hpl := hk.lt
  have c2 := hk.cell 2
  have c4 := hk.cell 4
  have c13 := hk.cell 13
  have c14 := hk.cell 14
  have f2 := hk.frozen 2
  have f4 := hk.frozen 4
  simp [rrC] at c2 c4 c13 c14
  obtain ⟨i0, hi, hz0, hz1', hz2'⟩ := info_parts infoU
  have hk1 : Blk (w.setCell ⟨p, 4, none⟩ (.int .i64 ((L.length : Int) + (n : Int)))) p 160 (rrC mt (.slice Av (L.length - a) cv) ((a : Nat) : Int) ((L.length + n : Nat) : Int) nx m1 m2 ms vf vd need ends 0 0) := by
    have := hk.set_ 4 (.int .i64 ((L.length : Int) + (n : Int)))
    simpa [rrC] using this
  have hp1 : Keep (fun q => q = p) w (w.setCell ⟨p, 4, none⟩ (.int .i64 ((L.length : Int) + (n : Int)))) := Keep.setCell (p := ⟨p, 4, none⟩) (Keep.refl (fun q => q = p) w) rfl _
  have K1 := Lib.hid hk1
  have P1 := Lib.hid hp1
  have B1 := Lib.hid (hbuf.keepX hp1 hne)
  have R1 := Lib.hid (lies_keep hp1 h hA).reads
  have c2' := hk1.cell 2
  simp [rrC] at c2'
  have hs1 : (w.setCell ⟨p, 4, none⟩ (.int .i64 ((L.length : Int) + (n : Int)))).heap.size = w.heap.size := by simp [World.setCell]
  clear hk hbuf hne hph h hA hll hm he hk1 hp1 hbL hbA
  go_enter Tryz.func59, Tryz.ntmps59
  go_wp2_with fail
  refine (HTH.out).mono ?_
  rintro e w0 ⟨rfl, rfl⟩
  clear HTH
  go_wp2_with (at_builtin; refine wpList_append_buf rfl _ _ 23 rfl base i0 _ Tryz.underlying23 hi hz0 hz1' hz2' rfl (Value.slice Av (L.length - a) cv) (L.length - a) (Lib.byteCells (L.drop a)) rfl B1.out w.heap.size A n c (Lib.byteCells b) rfl R1.out (cells_one b) (by omega) (by rw [hs1]; exact hbase) ?_; intro v2 w2 hb2 hp2 ho2; have hK2 := K1.out.keep hp2 (fun e => HN.out p e rfl); have K2 := Lib.hid hK2; have d2 := hK2.cell 2; have g2 := hK2.frozen 2; simp [rrC] at d2; clear hK2; obtain ⟨A2, cc2, rfl, _⟩ := hb2.form)
  have hLl : (L ++ b).length = L.length + n := by rw [List.length_append, HLL.out]
  have hk3 : Blk (w2.setCell ⟨p, 2, none⟩ (.slice A2 (L.length - a + n) cc2)) p 160 (rrC mt (.slice A2 (L.length - a + n) cc2) ((a : Nat) : Int) ((L ++ b).length : Int) nx m1 m2 ms vf vd need ends 0 0) := by
    have := K2.out.set_ 2 (.slice A2 (L.length - a + n) cc2)
    rw [hLl]
    simpa [rrC] using this
  have hp23 : Keep (fun q => q = p) w2 (w2.setCell ⟨p, 2, none⟩ (.slice A2 (L.length - a + n) cc2)) := Keep.setCell (p := ⟨p, 2, none⟩) (Keep.refl (fun q => q = p) w2) rfl _
  have hn3 : ∀ g, (Value.slice A2 (L.length - a + n) cc2).ownBlock = some g → ¬ g = p := fun g hg => by
    rcases ho2 g hg with e | e
    · exact HN.out g e
    · rw [hs1] at e
      omega
  have hp3 : Keep (fun q => q = p ∨ (Value.slice Av (L.length - a) cv).ownBlock = some q) w (w2.setCell ⟨p, 2, none⟩ (.slice A2 (L.length - a + n) cc2)) :=
    ((P1.out.mono (fun q e => Or.inl e)).trans (hp2.mono (fun q e => Or.inr e))).trans (hp23.mono (fun q e => Or.inl e))
  have hb3 : BufOk (w2.setCell ⟨p, 2, none⟩ (.slice A2 (L.length - a + n) cc2)) base (.slice A2 (L.length - a + n) cc2) ((L ++ b).length - a) (Lib.byteCells ((L ++ b).drop a)) := by
    have h1 := hb2.keepX hp23 hn3
    rw [List.drop_append_of_le_length ha, bc_append, hLl, show L.length + n - a = L.length - a + n by omega]
    exact h1
  have hph3 : PhI (w2.setCell ⟨p, 2, none⟩ (.slice A2 (L.length - a + n) cc2)) base p mt (L ++ b) a (.slice A2 (L.length - a + n) cc2) nx ms vf vd need ends :=
    (HP.out.own hp3 (fun g e => e) (fun g hg => by
      rcases ho2 g hg with e | e
      · exact .inl e
      · rw [hs1] at e
        exact .inr e)).more ha b
  have hz3 : w.heap.size ≤ (w2.setCell ⟨p, 2, none⟩ (.slice A2 (L.length - a + n) cc2)).heap.size := hp3.size
  have e1 : L.length - a + n = (L ++ b).length - a := by rw [hLl]; omega
  rw [e1] at hk3 hb3 hn3 hph3 hp3 hz3 ⊢
  clear hp23 ho2 hb2 hp2 d2 g2 e1
  generalize w2.setCell ⟨p, 2, none⟩ (.slice A2 ((L ++ b).length - a) cc2) = W3 at *
  have hon : RdOn W3 base p mt (L ++ b) (.slice A2 ((L ++ b).length - a) cc2) := ⟨a, nx, m1, m2, ms, vf, vd, need, ends, by omega, hk3, hb3, hn3, hph3⟩
  have HON := Lib.hid hon
  have P3 := Lib.hid hp3
  clear hk3 hb3 hn3 hph3 hp3 hon K1 K2 B1 R1 c2 c4 c13 c14 f2 f4 c2' HB HK HP H HA
  have HPE := Lib.hid (fun z (h : lookA mt (L ++ b) = .err z) => putR_err (mt := mt) (l := L) (b := b) h)
  have HPD := Lib.hid (fun nn s f x k (h : lookA mt (L ++ b) = .done nn s f x k) => putR_done (mt := mt) (l := L) (b := b) h)
  have HPW := Lib.hid (fun (h : lookA mt (L ++ b) = .wait ∨ ∃ nn s f x, lookA mt (L ++ b) = .opn nn s f x) => (h.elim (fun h => putR_wait (mt := mt) (l := L) (b := b) h) (fun ⟨_, _, _, _, h⟩ => putR_opn (mt := mt) (l := L) (b := b) h) : putR mt (.on L) b = (.on (L ++ b), (b.length : Int), 0)))
  have HOWN := Lib.hid (hown : ∀ g, (Value.slice Av (L.length - a) cv).ownBlock = some g → base ≤ g)
  clear hown
  have HLT : (L ++ b).length < 60000 := by omega
  obtain ⟨v3, hv3⟩ : ∃ v3, Value.slice A2 ((L ++ b).length - a) cc2 = v3 := ⟨_, rfl⟩
  rw [hv3] at HON ⊢
  clear hv3
  go_loopw [7] (fun v wr => ∃ mo : Bool, v = .bool mo ∧ Hid (Keep (fun q => q = p) W3 wr) ∧ ((mo = true ∧ ∃ vb', Hid (RdOn wr base p mt (L ++ b) vb')) ∨ (mo = false ∧ ∃ vb', Hid (RdOn wr base p mt (L ++ b) vb') ∧ Hid (lookA mt (L ++ b) = .wait ∨ ∃ nn s f x, lookA mt (L ++ b) = .opn nn s f x)) ∨ (mo = false ∧ ∃ nn s f x kk, Hid (lookA mt (L ++ b) = .done nn s f x kk) ∧ Hid (RdFin wr base p mt nn s f x kk)))) (fun v wr => rdRank p (L ++ b).length v wr)
  case atStart => exact ⟨true, rfl, Keep.refl _ _, Or.inl ⟨rfl, _, HON⟩⟩
  case round =>
    obtain ⟨mo, rfl, HW, hcase⟩ := hrel
    clear HON
    have PW := Lib.hid (P3.out.trans (HW.out.mono (fun q e => Or.inl e)))
    rcases hcase with ⟨rfl, vb', HR⟩ | ⟨rfl, vb', HR, HLK⟩ | ⟨rfl, nn, s, f, x, kk, HLK, HF⟩
    · obtain ⟨a5, nx5, y1, y2, ms5, vf5, vd5, need5, ends5, ha5, hk5, hb5, hne5, hph5⟩ := HR.out
      have hWb : Below base w wr := PW.out.below hbase (fun q e => e.elim (fun e => by rw [e]; exact hbp) (fun e => HOWN.out q e))
      have hm5 := HM.out.below hWb hmg
      have he5 := HE.out.below hWb heg
      have hw5 : w.heap.size ≤ wr.heap.size := hWb.size
      have hmg5 : maxG < wr.heap.size := by omega
      have heg5 : errG < wr.heap.size := by omega
      have hmp5 : maxG < p := by omega
      clear hWb HR
      rcases hph5 with ⟨rfl, rfl, rfl, rfl, hI⟩ | ⟨hs2, hvd, f, hfd, hfx, hI, hk3⟩
      · skip
        have HC := Lib.hid (rdnext_head p wr base mt (L ++ b) a5 vb' y1 y2 vf5 vd5 hk5 hb5 hne5 ha5 hI HLT hm5 hmg5 he5 heg5 hmp5 hbp)
        have HRK := Lib.hid (show 0 < rdRank p (L ++ b).length (.bool true) wr by rw [rdRank_head hk5 (by decide)]; omega)
        clear hb5 hne5 hI hm5 he5
        have c13 := hk5.cell 13
        have c14 := hk5.cell 14
        have c5 := hk5.cell 5
        have f14 := hk5.frozen 14
        simp [rrC, nxHead] at c13 c14 c5
        have HK5 := Lib.hid hk5
        clear hk5
        go_wp2_with fail
        refine (HC.out).mono ?_
        rintro e w6 ⟨bo, z, rfl, hp6, hnext⟩
        rw [show retBE bo z = .returned (.tuple #[.bool bo, .int .i64 z]) from rfl]
        have P6 := Lib.hid (PW.out.trans (hp6.mono (fun q e => Or.inl e)))
        have W6 := Lib.hid (HW.out.trans hp6)
        clear hp6 HC c13 c14 c5 f14
        rcases hnext with ⟨hz0, rfl, hlook, hbad⟩ | ⟨rfl, vb2, hv2, hon2, hcase⟩ | ⟨rfl, rfl, nn, s, f, x, kk, hlook, hfin⟩
        · obtain ⟨vb6, rd6, cm6, nx6, x1, x2, ms6, vf6, vd6, need6, ends6, hk6⟩ := hbad
          have c14 := hk6.cell 14
          have f14 := hk6.frozen 14
          simp [rrC] at c14
          have hzz : (z == 0) = false := beq_eq_false_iff_ne.2 hz0
          have hzn : (z != 0) = true := by unfold bne; rw [hzz]; rfl
          have hk7 : Blk (w6.setCell ⟨p, 14, none⟩ (.int .i64 z)) p 160 (rrC mt vb6 rd6 cm6 nx6 x1 x2 ms6 vf6 vd6 need6 ends6 0 z) := by
            have := hk6.set_ 14 (.int .i64 z)
            simpa [rrC] using this
          have K7 := Lib.hid hk7
          have P7 := Lib.hid (Keep.setCell (p := ⟨p, 14, none⟩) P6.out (Or.inl rfl) (.int .i64 z))
          have HLK := Lib.hid hlook
          clear hk6 hk7 hlook hz0
          go_wp2_with fail
          go_quiet (fail)
          go_wp2_with fail
          go_ret2
          rw [HPE.out z HLK.out]
          exact ⟨rfl, P7.out.drewN _, _, _, _, _, _, _, _, _, _, _, _, K7.out.drewN _⟩
        · have HON2 := Lib.hid hon2.zero
          obtain ⟨a6, nx6, x1, x2, ms6, vf6, vd6, need6, ends6, ha6, hk6, _, _, _⟩ := hon2
          have c14 := hk6.cell 14
          have f14 := hk6.frozen 14
          simp [rrC] at c14
          have P7 := Lib.hid (Keep.setCell (p := ⟨p, 14, none⟩) W6.out rfl (.int .i64 0))
          have HC2 := Lib.hid hcase
          clear hk6 hcase
          go_wp2_with fail
          go_roundw
          case rel =>
            refine ⟨bo, rfl, P7.out, ?_⟩
            rcases HC2.out with ⟨rfl, _⟩ | ⟨rfl, h⟩
            · exact Or.inl ⟨rfl, vb2, HON2⟩
            · exact Or.inr (Or.inl ⟨rfl, vb2, HON2, h⟩)
          case measure =>
            rcases HC2.out with ⟨rfl, h⟩ | ⟨rfl, h⟩
            · show rdRank p (L ++ b).length (.bool true) (w6.setCell ⟨p, 14, none⟩ (.int .i64 0)) < rdRank p (L ++ b).length (.bool true) wr
              rw [rdRank_zero]
              exact h
            · show 0 < rdRank p (L ++ b).length (.bool true) wr
              exact HRK.out
        · have HFN := Lib.hid hfin.zero
          obtain ⟨vb6, cm6, nx6, x1, x2, vf6, vd6, need6, ends6, hk6, _⟩ := hfin
          have c14 := hk6.cell 14
          have f14 := hk6.frozen 14
          simp [rrC] at c14
          have P7 := Lib.hid (Keep.setCell (p := ⟨p, 14, none⟩) W6.out rfl (.int .i64 0))
          have HLK := Lib.hid hlook
          clear hk6 hlook
          go_wp2_with fail
          go_roundw
          case rel => exact ⟨false, rfl, P7.out, Or.inr (Or.inr ⟨rfl, nn, s, f, x, kk, HLK, HFN⟩)⟩
          case measure =>
            show 0 < rdRank p (L ++ b).length (.bool true) wr
            exact HRK.out
      · rcases hk3 with ⟨rfl, rfl, m, hm6, hz, rfl⟩ | ⟨rfl, rfl, rfl, hz⟩ | ⟨rfl, rfl, rfl, hz⟩
        · skip
          have HC := Lib.hid (rdnext_len p wr base mt (L ++ b) a5 vb' y1 y2 vf5 vd5 ms5 f m hk5 hb5 hne5 ha5 HLT hs2 hvd hfd hfx hI hm6 hz hbp)
          have HRK := Lib.hid (show 0 < rdRank p (L ++ b).length (.bool true) wr by rw [rdRank_body hk5 hs2]; omega)
          clear hb5 hne5 hI hm5 he5 hz hfd hfx hvd
          have c13 := hk5.cell 13
          have c14 := hk5.cell 14
          have c5 := hk5.cell 5
          have f14 := hk5.frozen 14
          simp [rrC, nxLen] at c13 c14 c5
          have HK5 := Lib.hid hk5
          clear hk5
          go_wp2_with fail
          refine (HC.out).mono ?_
          rintro e w6 ⟨bo, z, rfl, hp6, hnext⟩
          rw [show retBE bo z = .returned (.tuple #[.bool bo, .int .i64 z]) from rfl]
          have P6 := Lib.hid (PW.out.trans (hp6.mono (fun q e => Or.inl e)))
          have W6 := Lib.hid (HW.out.trans hp6)
          clear hp6 HC c13 c14 c5 f14
          rcases hnext with ⟨hz0, rfl, hlook, hbad⟩ | ⟨rfl, vb2, hv2, hon2, hcase⟩ | ⟨rfl, rfl, nn, s, f, x, kk, hlook, hfin⟩
          · obtain ⟨vb6, rd6, cm6, nx6, x1, x2, ms6, vf6, vd6, need6, ends6, hk6⟩ := hbad
            have c14 := hk6.cell 14
            have f14 := hk6.frozen 14
            simp [rrC] at c14
            have hzz : (z == 0) = false := beq_eq_false_iff_ne.2 hz0
            have hzn : (z != 0) = true := by unfold bne; rw [hzz]; rfl
            have hk7 : Blk (w6.setCell ⟨p, 14, none⟩ (.int .i64 z)) p 160 (rrC mt vb6 rd6 cm6 nx6 x1 x2 ms6 vf6 vd6 need6 ends6 0 z) := by
              have := hk6.set_ 14 (.int .i64 z)
              simpa [rrC] using this
            have K7 := Lib.hid hk7
            have P7 := Lib.hid (Keep.setCell (p := ⟨p, 14, none⟩) P6.out (Or.inl rfl) (.int .i64 z))
            have HLK := Lib.hid hlook
            clear hk6 hk7 hlook hz0
            go_wp2_with fail
            go_quiet (fail)
            go_wp2_with fail
            go_ret2
            rw [HPE.out z HLK.out]
            exact ⟨rfl, P7.out.drewN _, _, _, _, _, _, _, _, _, _, _, _, K7.out.drewN _⟩
          · have HON2 := Lib.hid hon2.zero
            obtain ⟨a6, nx6, x1, x2, ms6, vf6, vd6, need6, ends6, ha6, hk6, _, _, _⟩ := hon2
            have c14 := hk6.cell 14
            have f14 := hk6.frozen 14
            simp [rrC] at c14
            have P7 := Lib.hid (Keep.setCell (p := ⟨p, 14, none⟩) W6.out rfl (.int .i64 0))
            have HC2 := Lib.hid hcase
            clear hk6 hcase
            go_wp2_with fail
            go_roundw
            case rel =>
              refine ⟨bo, rfl, P7.out, ?_⟩
              rcases HC2.out with ⟨rfl, _⟩ | ⟨rfl, h⟩
              · exact Or.inl ⟨rfl, vb2, HON2⟩
              · exact Or.inr (Or.inl ⟨rfl, vb2, HON2, h⟩)
            case measure =>
              rcases HC2.out with ⟨rfl, h⟩ | ⟨rfl, h⟩
              · show rdRank p (L ++ b).length (.bool true) (w6.setCell ⟨p, 14, none⟩ (.int .i64 0)) < rdRank p (L ++ b).length (.bool true) wr
                rw [rdRank_zero]
                exact h
              · show 0 < rdRank p (L ++ b).length (.bool true) wr
                exact HRK.out
          · have HFN := Lib.hid hfin.zero
            obtain ⟨vb6, cm6, nx6, x1, x2, vf6, vd6, need6, ends6, hk6, _⟩ := hfin
            have c14 := hk6.cell 14
            have f14 := hk6.frozen 14
            simp [rrC] at c14
            have P7 := Lib.hid (Keep.setCell (p := ⟨p, 14, none⟩) W6.out rfl (.int .i64 0))
            have HLK := Lib.hid hlook
            clear hk6 hlook
            go_wp2_with fail
            go_roundw
            case rel => exact ⟨false, rfl, P7.out, Or.inr (Or.inr ⟨rfl, nn, s, f, x, kk, HLK, HFN⟩)⟩
            case measure =>
              show 0 < rdRank p (L ++ b).length (.bool true) wr
              exact HRK.out
        · skip
          have HC := Lib.hid (rdnext_chunks p wr base mt (L ++ b) a5 vb' y1 y2 vf5 vd5 ms5 f hk5 hb5 hne5 ha5 HLT hs2 hvd hfd hfx hI hz hm5 hmg5 hbp)
          have HRK := Lib.hid (show 0 < rdRank p (L ++ b).length (.bool true) wr by rw [rdRank_body hk5 hs2]; omega)
          clear hb5 hne5 hI hm5 he5 hz hfd hfx hvd
          have c13 := hk5.cell 13
          have c14 := hk5.cell 14
          have c5 := hk5.cell 5
          have f14 := hk5.frozen 14
          simp [rrC, nxChunks] at c13 c14 c5
          have HK5 := Lib.hid hk5
          clear hk5
          go_wp2_with fail
          refine (HC.out).mono ?_
          rintro e w6 ⟨bo, z, rfl, hp6, hnext⟩
          rw [show retBE bo z = .returned (.tuple #[.bool bo, .int .i64 z]) from rfl]
          have P6 := Lib.hid (PW.out.trans (hp6.mono (fun q e => Or.inl e)))
          have W6 := Lib.hid (HW.out.trans hp6)
          clear hp6 HC c13 c14 c5 f14
          rcases hnext with ⟨hz0, rfl, hlook, hbad⟩ | ⟨rfl, vb2, hv2, hon2, hcase⟩ | ⟨rfl, rfl, nn, s, f, x, kk, hlook, hfin⟩
          · obtain ⟨vb6, rd6, cm6, nx6, x1, x2, ms6, vf6, vd6, need6, ends6, hk6⟩ := hbad
            have c14 := hk6.cell 14
            have f14 := hk6.frozen 14
            simp [rrC] at c14
            have hzz : (z == 0) = false := beq_eq_false_iff_ne.2 hz0
            have hzn : (z != 0) = true := by unfold bne; rw [hzz]; rfl
            have hk7 : Blk (w6.setCell ⟨p, 14, none⟩ (.int .i64 z)) p 160 (rrC mt vb6 rd6 cm6 nx6 x1 x2 ms6 vf6 vd6 need6 ends6 0 z) := by
              have := hk6.set_ 14 (.int .i64 z)
              simpa [rrC] using this
            have K7 := Lib.hid hk7
            have P7 := Lib.hid (Keep.setCell (p := ⟨p, 14, none⟩) P6.out (Or.inl rfl) (.int .i64 z))
            have HLK := Lib.hid hlook
            clear hk6 hk7 hlook hz0
            go_wp2_with fail
            go_quiet (fail)
            go_wp2_with fail
            go_ret2
            rw [HPE.out z HLK.out]
            exact ⟨rfl, P7.out.drewN _, _, _, _, _, _, _, _, _, _, _, _, K7.out.drewN _⟩
          · have HON2 := Lib.hid hon2.zero
            obtain ⟨a6, nx6, x1, x2, ms6, vf6, vd6, need6, ends6, ha6, hk6, _, _, _⟩ := hon2
            have c14 := hk6.cell 14
            have f14 := hk6.frozen 14
            simp [rrC] at c14
            have P7 := Lib.hid (Keep.setCell (p := ⟨p, 14, none⟩) W6.out rfl (.int .i64 0))
            have HC2 := Lib.hid hcase
            clear hk6 hcase
            go_wp2_with fail
            go_roundw
            case rel =>
              refine ⟨bo, rfl, P7.out, ?_⟩
              rcases HC2.out with ⟨rfl, _⟩ | ⟨rfl, h⟩
              · exact Or.inl ⟨rfl, vb2, HON2⟩
              · exact Or.inr (Or.inl ⟨rfl, vb2, HON2, h⟩)
            case measure =>
              rcases HC2.out with ⟨rfl, h⟩ | ⟨rfl, h⟩
              · show rdRank p (L ++ b).length (.bool true) (w6.setCell ⟨p, 14, none⟩ (.int .i64 0)) < rdRank p (L ++ b).length (.bool true) wr
                rw [rdRank_zero]
                exact h
              · show 0 < rdRank p (L ++ b).length (.bool true) wr
                exact HRK.out
          · have HFN := Lib.hid hfin.zero
            obtain ⟨vb6, cm6, nx6, x1, x2, vf6, vd6, need6, ends6, hk6, _⟩ := hfin
            have c14 := hk6.cell 14
            have f14 := hk6.frozen 14
            simp [rrC] at c14
            have P7 := Lib.hid (Keep.setCell (p := ⟨p, 14, none⟩) W6.out rfl (.int .i64 0))
            have HLK := Lib.hid hlook
            clear hk6 hlook
            go_wp2_with fail
            go_roundw
            case rel => exact ⟨false, rfl, P7.out, Or.inr (Or.inr ⟨rfl, nn, s, f, x, kk, HLK, HFN⟩)⟩
            case measure =>
              show 0 < rdRank p (L ++ b).length (.bool true) wr
              exact HRK.out
        · skip
          have HC := Lib.hid (rdnext_rest p wr base mt (L ++ b) a5 vb' y1 y2 vf5 vd5 ms5 f hk5 hb5 hne5 ha5 HLT hs2 hvd hfd hfx hI hz)
          have HRK := Lib.hid (show 0 < rdRank p (L ++ b).length (.bool true) wr by rw [rdRank_body hk5 hs2]; omega)
          clear hb5 hne5 hI hm5 he5 hz hfd hfx hvd
          have c13 := hk5.cell 13
          have c14 := hk5.cell 14
          have c5 := hk5.cell 5
          have f14 := hk5.frozen 14
          simp [rrC, nxRest] at c13 c14 c5
          have HK5 := Lib.hid hk5
          clear hk5
          go_wp2_with fail
          refine (HC.out).mono ?_
          rintro e w6 ⟨bo, z, rfl, hp6, hnext⟩
          rw [show retBE bo z = .returned (.tuple #[.bool bo, .int .i64 z]) from rfl]
          have P6 := Lib.hid (PW.out.trans (hp6.mono (fun q e => Or.inl e)))
          have W6 := Lib.hid (HW.out.trans hp6)
          clear hp6 HC c13 c14 c5 f14
          rcases hnext with ⟨hz0, rfl, hlook, hbad⟩ | ⟨rfl, vb2, hv2, hon2, hcase⟩ | ⟨rfl, rfl, nn, s, f, x, kk, hlook, hfin⟩
          · obtain ⟨vb6, rd6, cm6, nx6, x1, x2, ms6, vf6, vd6, need6, ends6, hk6⟩ := hbad
            have c14 := hk6.cell 14
            have f14 := hk6.frozen 14
            simp [rrC] at c14
            have hzz : (z == 0) = false := beq_eq_false_iff_ne.2 hz0
            have hzn : (z != 0) = true := by unfold bne; rw [hzz]; rfl
            have hk7 : Blk (w6.setCell ⟨p, 14, none⟩ (.int .i64 z)) p 160 (rrC mt vb6 rd6 cm6 nx6 x1 x2 ms6 vf6 vd6 need6 ends6 0 z) := by
              have := hk6.set_ 14 (.int .i64 z)
              simpa [rrC] using this
            have K7 := Lib.hid hk7
            have P7 := Lib.hid (Keep.setCell (p := ⟨p, 14, none⟩) P6.out (Or.inl rfl) (.int .i64 z))
            have HLK := Lib.hid hlook
            clear hk6 hk7 hlook hz0
            go_wp2_with fail
            go_quiet (fail)
            go_wp2_with fail
            go_ret2
            rw [HPE.out z HLK.out]
            exact ⟨rfl, P7.out.drewN _, _, _, _, _, _, _, _, _, _, _, _, K7.out.drewN _⟩
          · have HON2 := Lib.hid hon2.zero
            obtain ⟨a6, nx6, x1, x2, ms6, vf6, vd6, need6, ends6, ha6, hk6, _, _, _⟩ := hon2
            have c14 := hk6.cell 14
            have f14 := hk6.frozen 14
            simp [rrC] at c14
            have P7 := Lib.hid (Keep.setCell (p := ⟨p, 14, none⟩) W6.out rfl (.int .i64 0))
            have HC2 := Lib.hid hcase
            clear hk6 hcase
            go_wp2_with fail
            go_roundw
            case rel =>
              refine ⟨bo, rfl, P7.out, ?_⟩
              rcases HC2.out with ⟨rfl, _⟩ | ⟨rfl, h⟩
              · exact Or.inl ⟨rfl, vb2, HON2⟩
              · exact Or.inr (Or.inl ⟨rfl, vb2, HON2, h⟩)
            case measure =>
              rcases HC2.out with ⟨rfl, h⟩ | ⟨rfl, h⟩
              · show rdRank p (L ++ b).length (.bool true) (w6.setCell ⟨p, 14, none⟩ (.int .i64 0)) < rdRank p (L ++ b).length (.bool true) wr
                rw [rdRank_zero]
                exact h
              · show 0 < rdRank p (L ++ b).length (.bool true) wr
                exact HRK.out
          · have HFN := Lib.hid hfin.zero
            obtain ⟨vb6, cm6, nx6, x1, x2, vf6, vd6, need6, ends6, hk6, _⟩ := hfin
            have c14 := hk6.cell 14
            have f14 := hk6.frozen 14
            simp [rrC] at c14
            have P7 := Lib.hid (Keep.setCell (p := ⟨p, 14, none⟩) W6.out rfl (.int .i64 0))
            have HLK := Lib.hid hlook
            clear hk6 hlook
            go_wp2_with fail
            go_roundw
            case rel => exact ⟨false, rfl, P7.out, Or.inr (Or.inr ⟨rfl, nn, s, f, x, kk, HLK, HFN⟩)⟩
            case measure =>
              show 0 < rdRank p (L ++ b).length (.bool true) wr
              exact HRK.out
    · obtain ⟨a5, nx5, x1, x2, ms5, vf5, vd5, need5, ends5, ha5, hk5, _, _, _⟩ := HR.out
      have c13 := hk5.cell 13
      simp [rrC] at c13
      clear hk5
      go_wp2_with fail
      go_ret2
      rw [HPW.out HLK.out]
      refine ⟨?_, PW.out, vb', HR.out⟩
      rw [HLL.out]
      rfl
    · obtain ⟨vb5, cm5, nx5, x1, x2, vf5, vd5, need5, ends5, hk5, _⟩ := HF.out
      have c13 := hk5.cell 13
      have c3 := hk5.cell 3
      simp [rrC] at c13 c3
      clear hk5
      have hnn := (look_done_le (mt := mt) HLT HLK.out)
      go_wp2_with fail
      go_ret2
      rw [HPD.out _ _ _ _ _ HLK.out]
      exact ⟨rfl, PW.out, _, HF.out⟩
end Go.Proofs.YtonlfplloenfcaaGreatDoor
namespace Go.Proofs.YtonlfplloenfcaaGreatDoor
open Go.RowKit

theorem headR_f : ∀ (k a : Nat) (l : List UInt8) (b : Nat) (s : Int) (f : List Fd), headR k a l = .fin b s f → fsum f ≤ 512 + l.length ∧ f.length ≤ 256
  | 0, _, _, _, _, _, h => by cases h
  | k + 1, a, l, b, s, f, h => by
    unfold headR at h
    split at h
    · cases h
    · split at h
      · split at h
        · obtain ⟨h1, h2⟩ := headR_f k _ _ b s f h
          rw [List.length_drop] at h1
          exact ⟨by omega, h2⟩
        · injection h with h1 h2 h3
          subst h3
          exact ⟨gF_sum statusK l, gF_len statusK l⟩
      · cases h
theorem look_f {mt : ByteArray} {L : List UInt8} : (∀ n s f b k, lookA mt L = .done n s f b k → fsum f ≤ 512 + L.length ∧ f.length ≤ 256) ∧ (∀ n s f b, lookA mt L = .opn n s f b → fsum f ≤ 512 + L.length ∧ f.length ≤ 256) := by
  unfold lookA
  cases hh : headA 0 L with
  | short => exact ⟨fun n s f b k h => (by cases h), fun n s f b h => (by cases h)⟩
  | err e => exact ⟨fun n s f b k h => (by cases h), fun n s f b h => (by cases h)⟩
  | fin a s f =>
    have hf := headR_f _ _ _ _ _ _ hh
    simp only
    unfold bodyA
    refine ⟨fun n s' f' b k h => ?_, fun n s' f' b h => ?_⟩
    · split at h
      · cases h
      · split at h
        · injection h with _ _ h; subst h; exact hf
        · split at h
          · split at h
            · injection h with _ _ h; subst h; exact hf
            · cases h
          · split at h
            · split at h
              · cases h
              · cases h
              · injection h with _ _ h; subst h; exact hf
            · split at h <;> cases h
    · split at h
      · cases h
      · split at h
        · cases h
        · split at h
          · split at h <;> cases h
          · split at h
            · split at h <;> cases h
            · split at h
              · cases h
              · injection h with _ _ h; subst h; exact hf

def isClose (p : ByteArray) : Bool := sameB p.data.toList closeB.data.toList
theorem done1_any (s : ByteArray) (w : World) (hs : s.size ≤ 1048576) :
    Calls Tryz.prog 136 #[.string s] w fun e w' => e = .returned (.bool (isClose s)) ∧ Below w.heap.size w w' := by
  have HS := Lib.hid (Same_any s ⟨#[99, 108, 111, 115, 101]⟩ w hs (by decide))
  go_enter Tryz.func136, Tryz.ntmps136
  go_wp2_with fail
  refine (HS.out).mono ?_
  rintro e w1 ⟨rfl, hb⟩
  clear HS
  go_wp2_with fail
  go_ret
  exact ⟨rfl, hb⟩
set_option maxRecDepth 100000 in
theorem indexs_any (A : Option Addr) (n c : Nat) (L : List ByteArray) (w : World) (h : Lies w w.heap.size A n (L.map Value.string)) (hs : ∀ x ∈ L, x.size ≤ 1048576) (hn : n ≤ 1000000) :
   Calls Tryz.prog 206 #[.slice A n c, .func (.func 136) #[] #[]] w (IdxPost (L.any isClose) w) := by
  have hlen : L.length = n := by simpa using h.1
  have H := Lib.hid h
  have HL := Lib.hid hlen
  have HS := Lib.hid hs
  clear hlen hs h
  go_enter Tryz.func206, Tryz.ntmps206
  go_wp2_with fail
  go_loopw [8] (fun i wr => ∃ k : Nat, k ≤ n ∧ i = .int .i64 k ∧ Hid ((L.take k).any isClose = false) ∧ Hid (Below w.heap.size w wr)) (fun i _ => n - (intOf i).toNat)
  case atStart => exact ⟨0, Nat.zero_le _, rfl, by simp [Hid], Below.refl _ _⟩
  case round =>
    obtain ⟨k, hk, rfl, hp, HB⟩ := hrel
    by_cases hlt : k < n
    · obtain ⟨b, off, u, rfl, hbb, hu, hc⟩ := H.out.at_ hlt
      obtain ⟨x, hx⟩ : ∃ x, L[k]? = some x := ⟨L[k]'(by rw [HL.out]; exact hlt), List.getElem?_eq_getElem (by rw [HL.out]; exact hlt)⟩
      have hux : u = .string x := by rw [List.getElem?_map, hx] at hu; exact (Option.some.inj hu).symm
      subst hux
      have hc1 := (HB.out.cell (p := ⟨b, off + k, none⟩) hbb).trans hc
      have hsz := HS.out x (List.mem_of_getElem? hx)
      have HO := Lib.hid (fun W => done1_any x W hsz)
      have htk : L.take (k + 1) = L.take k ++ [x] := by rw [List.take_add_one, hx]; rfl
      have hmem := List.mem_of_getElem? hx
      cases ho : isClose x
      · have HV := Lib.hid (show (L.take (k + 1)).any isClose = false by rw [htk, List.any_append, hp.out]; simp [ho])
        have HQ := Lib.hid ho
        clear ho hu hc hx htk hmem hsz
        go_wp2_with fail
        refine (HO.out _).mono ?_
        rintro e w1 ⟨rfl, hb1⟩
        rw [HQ.out]
        have HB1 := Lib.hid (HB.out.trans (hb1.mono HB.out.size))
        clear hb1 hc1
        go_wp2_with fail
        go_roundw
        case rel => exact ⟨k + 1, by omega, by go_num, HV, HB1⟩
        case measure => simp [intOf]; omega
      · have HV := Lib.hid (show L.any isClose = true from List.any_eq_true.2 ⟨x, hmem, ho⟩)
        have HQ := Lib.hid ho
        clear ho hu hc hx htk hmem hsz
        go_wp2_with fail
        refine (HO.out _).mono ?_
        rintro e w1 ⟨rfl, hb1⟩
        rw [HQ.out]
        have HB1 := Lib.hid (HB.out.trans (hb1.mono HB.out.size))
        clear hb1 hc1
        go_wp2_with fail
        go_ret
        exact ⟨⟨_, rfl, by rw [HV.out]; exact decide_eq_true (by omega)⟩, HB1.out⟩
    · obtain rfl : k = n := by omega
      have hf : L.any isClose = false := by
        have h := hp.out
        rwa [List.take_of_length_le (by rw [HL.out]; exact Nat.le_refl _)] at h
      have HF := Lib.hid hf
      clear hf
      go_wp2_with fail
      go_ret
      exact ⟨⟨_, rfl, by rw [HF.out]; rfl⟩, HB.out⟩
theorem containss_any (A : Option Addr) (n c : Nat) (L : List ByteArray) (w : World) (h : Lies w w.heap.size A n (L.map Value.string)) (hs : ∀ x ∈ L, x.size ≤ 1048576) (hn : n ≤ 1000000) :
   Calls Tryz.prog 135 #[.slice A n c, .func (.func 136) #[] #[]] w fun e w' => e = .returned (.bool (L.any isClose)) ∧ Below w.heap.size w w' := by
  have HI := Lib.hid (indexs_any A n c L w h hs hn)
  clear h hs
  go_enter Tryz.func135, Tryz.ntmps135
  go_wp2_with fail
  refine HI.out.mono ?_
  rintro e w1 ⟨⟨z, rfl, hz⟩, hb⟩
  have HZ := Lib.hid hz
  clear hz HI
  go_wp2_with fail
  go_ret
  exact ⟨ret_bool HZ.out, hb⟩
set_option maxRecDepth 100000 in
theorem clone_fields (A : Option Addr) (n c : Nat) (fs : List Fd) (w : World) (h : FRead w w.heap.size A n fs) (hn : n ≤ 100000) :
    Calls Tryz.prog 138 #[.slice A n c] w fun e w' => ∃ A' c', e = .returned (.slice A' n c') ∧ w'.ownsRow w.heap.size 63 2 (.slice A' n c') n (fcells fs) ∧ Below w.heap.size w w' := by
  have hll := h.1
  cases A with
  | none =>
    have hn0 : n = 0 := by
      rcases Nat.eq_zero_or_pos n with h0 | h0
      · exact h0
      · obtain ⟨b, o, e, _⟩ := h.2 h0
        cases e
    subst hn0
    have hl : fs = [] := List.eq_nil_of_length_eq_zero hll
    subst hl
    have hq := run_eql_slice_nil (P := Tryz.prog) w 22 63 none 0 c Tryz.underlying22
    go_enter Tryz.func138, Tryz.ntmps138
    go_wp2_with fail
    go_ret
    exact ⟨none, 0, rfl, World.ownsRow_nil _ _ _ _, Below.refl _ _⟩
  | some ad =>
    have hm := World.ownsRow_made (e := 63) (size := 2) w (base := w.heap.size) #[] 0 (Nat.le_refl _) (by decide) rfl
    have HM := Lib.hid hm
    have HRE := Lib.hid (fread_reads ((h.below ((Below.refl w.heap.size w).alloc (Nat.le_refl _) (.cells #[] 63)))))
    obtain ⟨i0, hi, hz0, hz1, hz2⟩ := info_parts infoF
    have hq := run_eql_slice_nil (P := Tryz.prog) w 22 63 (some ad) n c Tryz.underlying22
    clear hm
    go_enter Tryz.func138, Tryz.ntmps138
    go_wp2_with (at_builtin; refine wpList_append_any _ rfl _ _ 22 rfl w.heap.size 63 i0 _ 2 32 Tryz.underlying22 hi hz0 hz1 hz2 rfl (by decide) (Value.slice (some ⟨w.heap.size, 0, none⟩) 0 0) 0 [] rfl HM.out w.heap.size (some ad) n c (fcells fs) rfl HRE.out (fcells_one fs) (by unfold maxLen; omega) (by omega) (by simp) ?_; intro v4 w4 hown4 hg4 hor4)
    rw [Nat.zero_add, List.nil_append] at hown4
    have HB := Lib.hid (((Below.refl w.heap.size w).alloc (Nat.le_refl _) _).grown hg4 (by simp) (fun j hj => by simp [Value.ownBlock] at hj; omega))
    obtain ⟨A4, c4, rfl⟩ := own_form hown4
    have HO := Lib.hid hown4
    clear hown4 hg4 hor4
    go_wp2_with fail
    go_ret
    exact ⟨A4, c4, rfl, HO.out, HB.out⟩
theorem clip_fields (A : Option Addr) (n c : Nat) (w : World) (hn : n ≤ c) :
    Calls Tryz.prog 137 #[.slice A n c] w fun e w' => e = .returned (.slice A n n) ∧ w = w' := by
  go_enter Tryz.func137, Tryz.ntmps137
  go_wp2_with fail
  go_ret
  exact ⟨rfl, rfl⟩
end Go.Proofs.YtonlfplloenfcaaGreatDoor
