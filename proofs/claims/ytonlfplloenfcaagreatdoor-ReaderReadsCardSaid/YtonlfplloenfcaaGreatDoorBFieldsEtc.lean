/-
  bodies: a reader's fields.
  HeadsMore: the walk.
  bodies: a reader's chunk.
-/
import Derived.Test.YtonlfplloenfcaaGreatDoorBadEtc
import Derived.Test.YtonlfplloenfcaaGreatDoorToken
import Derived.Scope
import Derived.WalkMore
import Derived.ScopeJumps
import Derived.Test.YtonlfplloenfcaaGreatDoorContains
import Derived.Test.YtonlfplloenfcaaGreatDoorBufEtc
import Derived.Lib.SmallJoins
import Derived.Lib.OthersKept
import Derived.Test.YtonlfplloenfcaaGreatDoorFindEtc
import Derived.Test.YtonlfplloenfcaaGreatDoorReflEtc
import Derived.Test.YtonlfplloenfcaaGreatDoorMoreSpecEtc
import Derived.Test.YtonlfplloenfcaaGreatDoorEndSpecEtc
import Derived.Test.YtonlfplloenfcaaGreatDoorWordEtc
import Derived.BigRegion
import Derived.Deep.RegionLaw
import Derived.Deep.Cut
namespace Go.Proofs.YtonlfplloenfcaaGreatDoor
open Go.RowKit Go.Shelf

theorem wp_scope_once {P : Program} {a : Act} {w : World} {Q : Exit → Act → World → Prop} {x : Code} (l : Nat) (J : Act → World → Prop) (μ : Act → World → Nat) (h0 : J a w)
    (pass : ∀ a w, J a w → x.wp P (Exit.jump l (fun a' w' => J a' w' ∧ μ a' w' < μ a w) Q) a w) : (Code.scope ((Code.label l).seq x)).wp P Q a w :=
  wp_scope_jumps (rest := Code.skip.seq x) l J μ (by simp [findLabel]) (wp_seq (wp_label (wp_mono (pass a w h0) fun e a' w' h => by
    cases e with
    | goto l' => exact ⟨h.1, h.2.1⟩
    | normal => exact h
    | exit id => exact h
    | ret => exact h
    | panic ch => exact h
    | outgrown => exact h))) fun a w h => wp_seq (wp_skip (pass a w h))
/-- How far the reader has come. -/
def atOf (g : Nat) (w : World) : Nat := match w.cell? ⟨g, 1, none⟩ with
  | some (.int _ q) => q.toNat
  | _ => 0
theorem atOf_eq {w W : World} {A : Option Addr} {n c k all now left : Nat} {l body : List UInt8} {ans : ChunkA} {st : St} {e : Int} {d : Bool} {vb : Value} (h : RI w W A n c l ans st k body all now e d left vb) : atOf w.heap.size W = k := by
  have := h.blk.cell 1
  unfold atOf
  rw [this]
  simp [rdC]

set_option maxRecDepth 100000 in
set_option maxHeartbeats 4000000 in
theorem bfields_any (w W : World) (A : Option Addr) (n c k0 all now left : Nat) (l body : List UInt8) (ans : ChunkA) (z : Int) (d : Bool) (vb : Value) (h : RI w W A n c l ans .fields k0 body all now z d left vb) (hl : Lies W w.heap.size A n (Lib.byteCells l)) (hc : n ≤ c) (hn : n ≤ 2000000) (hm : MaxOk w) (hmg : maxG < w.heap.size) :
    Calls Tryz.prog 179 #[.pointer (some ⟨w.heap.size, 0, none⟩)] W (StepPost w A n c l ans (St.rank n .fields k0)) := by
  obtain ⟨rfl, rfl, _⟩ := id h.tells
  have hll : l.length = n := by simpa [Lib.byteCells] using hl.1
  have HL := Lib.hid (hl.below (show Below w.heap.size W W from Below.refl _ _))
  have HLW := Lib.hid (fun (X : World) (hb : Below w.heap.size w X) => (show Lies X w.heap.size A n (Lib.byteCells l) from (hl.keep fun p hp => (h.bel.cell hp).symm ▸ rfl : Lies w w.heap.size A n (Lib.byteCells l)).below hb))
  have HR := Lib.hid h
  have HLL := Lib.hid hll
  have HM := Lib.hid hm
  clear h hl hm hll
  go_enter Tryz.func179, Tryz.ntmps179
  go_wp2_with fail
  refine wp_scope_once 0 (fun a' w' => (∃ u1 u2 u3 u4 u5 u6 u7 u8 u9 u10 u11 u12 u13 u14 u15 u16 u17 u18 u19 u20 u21 u22 u23 u24 u25 u26 u27 u28 u29 u30 u31 u32 u33 u34 u35 u36 u37 u38 u39 : Value, a' = { tmps := #[.pointer (some ⟨w.heap.size, 0, none⟩), u1, u2, u3, u4, u5, u6, u7, u8, u9, u10, u11, u12, u13, u14, u15, u16, u17, u18, u19, u20, u21, u22, u23, u24, u25, u26, u27, u28, u29, u30, u31, u32, u33, u34, u35, u36, u37, u38, u39], defers := [] }) ∧ ∃ k, k0 ≤ k ∧ Hid (RI w w' A n c l ans .fields k body all now 0 false left vb)) (fun _ w' => n + 1 - atOf w.heap.size w') ?_ ?_
  · exact ⟨⟨_, _, _, _, _, _, _, _, _, _, _, _, _, _, _, _, _, _, _, _, _, _, _, _, _, _, _, _, _, _, _, _, _, _, _, _, _, _, _, rfl⟩, k0, Nat.le_refl _, HR⟩
  · rintro a' W0 ⟨⟨u1, u2, u3, u4, u5, u6, u7, u8, u9, u10, u11, u12, u13, u14, u15, u16, u17, u18, u19, u20, u21, u22, u23, u24, u25, u26, u27, u28, u29, u30, u31, u32, u33, u34, u35, u36, u37, u38, u39, rfl⟩, k, hk0, hR⟩
    clear HR
    have hlen := hR.out.len
    have HAT : Hid (atOf w.heap.size W0 = k) := atOf_eq hR.out
    have HLN := Lib.hid (bline_any A n c k vb left now w.heap.size l W0 hR.out.blk (HLW.out W0 hR.out.bel) hc hn hR.out.kle (HM.out.below hR.out.bel hmg) (Nat.lt_of_lt_of_le hmg hR.out.bel.size))
    go_wp2_with fail
    refine (HLN.out).mono ?_
    rintro e1 w1 ⟨W1, hB1, hm1⟩
    have R1 := Lib.hid (hR.out.step hB1)
    clear hB1 HLN
    cases hla : lineA (l.drop k) with
    | limit =>
      rw [hla] at hm1
      obtain ⟨rfl, rfl⟩ := hm1
      have HP : Hid (StepPost w A n c l ans (St.rank n .fields k0) (.returned .nilFunc) (W1.setCell ⟨w.heap.size, 5, none⟩ (.int .i64 3))) :=
        ⟨.stop, k, body, all, now, 3, false, left, vb, rfl, R1.out.set 5 (.int .i64 3) rfl (fields_limit R1.out.tells hla k) R1.out.kle stop_sum R1.out.len, by simp [St.rank]; omega⟩
      clear R1 hR hla
      go_wp2_with fail
      simp only [Exit.jump]
      go_ret
      exact HP.out
    | short =>
      rw [hla] at hm1
      obtain ⟨rfl, rfl⟩ := hm1
      have HP : Hid (StepPost w A n c l ans (St.rank n .fields k0) (.returned .nilFunc) w1) :=
        ⟨.stop, k, body, all, now, 0, false, left, vb, rfl, R1.out.as (fields_short R1.out.tells hla) stop_sum, by simp [St.rank]; omega⟩
      clear R1 hR hla
      go_wp2_with fail
      simp only [Exit.jump]
      go_ret
      exact HP.out
    | line m =>
      rw [hla] at hm1
      obtain ⟨rfl, rfl⟩ := hm1
      have hle := (line_spec hla).1
      have hm6 := (line_spec hla).2.1
      have hdl : (l.drop k).length = n - k := by rw [List.length_drop, HLL.out]
      rw [hdl] at hle
      have HRk := R1.out.kle
      obtain ⟨L, hL⟩ : ∃ L, (l.drop k).take m = L := ⟨_, rfl⟩
      have hLm : L.length = m := by rw [← hL, List.length_take, hdl, Nat.min_eq_left (by omega)]
      rw [hL]
      have HLA := Lib.hid hla
      have HL2 := Lib.hid hL
      have KB : Hid (Blk (W1.setCell ⟨w.heap.size, 1, none⟩ (.int .i64 ((k + m + 2 : Nat) : Int))) w.heap.size 133 (rdC A n c (k + m + 2) vb left now 0 false)) := R1.out.blk.set_ 1 _
      have OB : Hid ((W1.setCell ⟨w.heap.size, 1, none⟩ (.int .i64 ((k + m + 2 : Nat) : Int))).ownsRow w.heap.size 5 1 vb body.length (Lib.byteCells body)) := own_tys R1.out.own ((Tys.refl [133] W1).setCell (p := ⟨w.heap.size, 1, none⟩) R1.out.blk (by simp) _) (by decide)
      have BB : Hid (Below w.heap.size w (W1.setCell ⟨w.heap.size, 1, none⟩ (.int .i64 ((k + m + 2 : Nat) : Int)))) := R1.out.bel.setCell (p := ⟨w.heap.size, 1, none⟩) (Nat.le_refl _) _
      have HT := Lib.hid hR.out.tells
      generalize W1.setCell ⟨w.heap.size, 1, none⟩ (.int .i64 ((k + m + 2 : Nat) : Int)) = W2 at *
      clear R1 hR hla hL hdl
      obtain ⟨s, hs⟩ : ∃ s : ByteArray, (⟨L.toArray⟩ : ByteArray) = s := ⟨_, rfl⟩
      have hsL : s.data.toList = L := by rw [← hs]
      have hsz : s.size = m := by rw [← hLm, ← hsL]; rfl
      rw [hs]
      have HSL := Lib.hid hsL
      clear hs hsL
      by_cases hm0 : m = 0
      · have e1 : s.toList.isEmpty = true := by rw [empty_of]; exact decide_eq_true (by omega)
        have f6 := KB.out.frozen 6
        have c6 := KB.out.cell 6
        simp [rdC] at c6
        subst hm0
        have HP : Hid (StepPost w A n c l ans (St.rank n .fields k0) (.returned .nilFunc) (W2.setCell ⟨w.heap.size, 6, none⟩ (.bool true))) :=
          ⟨.stop, k + 2, body, all, now, 0, true, left, vb, rfl, ⟨KB.out.set_ 6 _, own_tys OB.out ((Tys.refl [133] W2).setCell (p := ⟨w.heap.size, 6, none⟩) KB.out (by simp) _) (by decide), fields_end HT.out HLA.out, by omega, stop_sum, BB.out.setCell (p := ⟨w.heap.size, 6, none⟩) (Nat.le_refl _) _, by omega⟩, by simp [St.rank]; omega⟩
        clear hsz
        go_wp2_with fail
        simp only [Exit.jump]
        go_ret
        exact HP.out
      have e1 : s.toList.isEmpty = false := by rw [empty_of]; exact decide_eq_false (by omega)
      obtain ⟨mm, hmm⟩ := HM.out.below BB.out hmg
      have hC := Tryz.strings_Cut s ⟨#[58]⟩ mm W2 (by omega) hmm
      obtain ⟨⟨ca, cb, f⟩, hcf⟩ : ∃ z, Lib.cut s.data.toList (⟨#[58]⟩ : ByteArray).data.toList = z := ⟨_, rfl⟩
      rw [hcf] at hC
      rw [HSL.out] at hcf
      replace hcf : Lib.cut L [58] = (ca, cb, f) := hcf
      obtain ⟨hfo, -⟩ := cut_field hcf
      have hcl := cut_le1 L [58]
      rw [hcf] at hcl
      simp only at hC hcl
      have HC := Lib.hid hC
      have HFO := Lib.hid hfo
      clear hC hcf hfo hmm
      go_wp2_with fail
      refine (HC.out).mono ?_
      rintro e w3 ⟨rfl, q, rfl⟩
      have hb3 : Below W2.heap.size W2 (W2.drewN q) := below_drewN (Below.refl _ _) q
      generalize W2.drewN q = w3 at *
      have Hb3 := Lib.hid hb3
      clear hb3 HC
      have K3 := Lib.hid (KB.out.below Hb3.out KB.out.lt)
      have O3 := Lib.hid (own_below OB.out Hb3.out)
      have B3 := Lib.hid (BB.out.trans (Hb3.out.mono BB.out.size))
      clear Hb3 KB OB BB
      have HBADX : Hid (∀ (X : World), Below w3.heap.size w3 X → fieldOK L = false → StepPost w A n c l ans (St.rank n .fields k0) (.returned .nilFunc) (X.setCell ⟨w.heap.size, 5, none⟩ (.int .i64 9))) := fun X hX hno => by
        refine ⟨.stop, k + m + 2, body, all, now, 9, false, left, vb, rfl, ⟨?_, ?_, fields_bad HT.out HLA.out hm0 (by rw [HL2.out]; exact hno) _, by omega, stop_sum, ?_, by omega⟩, by simp [St.rank]; omega⟩
        · exact (K3.out.below hX K3.out.lt).set_ 5 _
        · exact own_tys (own_below O3.out hX) ((Tys.refl [133] X).setCell (p := ⟨w.heap.size, 5, none⟩) (K3.out.below hX K3.out.lt) (by simp) _) (by decide)
        · exact (B3.out.trans (hX.mono B3.out.size)).setCell (p := ⟨w.heap.size, 5, none⟩) (Nat.le_refl _) _
      have HF := Lib.hid (fun (X : World) (hX : Below w3.heap.size w3 X) => fails_any w.heap.size 9 _ X (K3.out.below hX K3.out.lt) rfl)
      have HGO : Hid (∀ (X : World), Below w3.heap.size w3 X → fieldOK L = true → RI w X A n c l ans .fields (k + m + 2) body all now 0 false left vb) := fun X hX hyes =>
        ⟨K3.out.below hX K3.out.lt, own_below O3.out hX, fields_next HT.out HLA.out hm0 (by rw [HL2.out]; exact hyes), by omega, fields_sum, B3.out.trans (hX.mono B3.out.size), by omega⟩
      have hca : (⟨ca.toArray⟩ : ByteArray).size ≤ 140737488355328 := by simp only [ByteArray.size, List.size_toArray]; omega
      have hcb : (⟨cb.toArray⟩ : ByteArray).size ≤ 140737488355328 := by simp only [ByteArray.size, List.size_toArray]; omega
      have HTK := Lib.hid (fun W => token_any ⟨ca.toArray⟩ W hca)
      have HCT := Lib.hid (fun W => bcontrol_any ⟨cb.toArray⟩ W hcb)
      cases f with
      | false =>
        have HP := Lib.hid (HBADX.out w3 (Below.refl _ _) HFO.out)
        clear hsz
        go_wp2_with fail
        refine (HF.out w3 (Below.refl _ _)).mono ?_
        rintro e w4 ⟨rfl, rfl⟩
        go_wp2_with fail
        simp only [Exit.jump]
        go_ret
        exact HP.out
      | true =>
      go_wp2_with fail
      refine (HTK.out w3).mono ?_
      rintro e w4 ⟨rfl, hb4⟩
      have Hb4 := Lib.hid hb4
      clear hb4 HTK
      cases htok : tokenB ca with
      | false =>
        have HP := Lib.hid (HBADX.out w4 Hb4.out (by rw [HFO.out, htok]; rfl))
        clear hsz htok
        go_wp2_with fail
        refine (HF.out w4 Hb4.out).mono ?_
        rintro e w5 ⟨rfl, rfl⟩
        go_wp2_with fail
        simp only [Exit.jump]
        go_ret
        exact HP.out
      | true =>
      have HTOK := Lib.hid htok
      clear htok
      go_wp2_with fail
      refine (HCT.out w4).mono ?_
      rintro e w5 ⟨rfl, q2, rfl⟩
      have hb5 : Below w3.heap.size w3 (w4.drewN q2) := below_drewN Hb4.out q2
      generalize w4.drewN q2 = w5 at *
      have Hb5 := Lib.hid hb5
      clear hb5 HCT
      cases hpl : plainB cb with
      | false =>
        have HP := Lib.hid (HBADX.out w5 Hb5.out (by rw [HFO.out, HTOK.out, hpl]; rfl))
        clear hsz hpl
        go_wp2_with fail
        refine (HF.out w5 Hb5.out).mono ?_
        rintro e w6 ⟨rfl, rfl⟩
        go_wp2_with fail
        simp only [Exit.jump]
        go_ret
        exact HP.out
      | true =>
        have hri := HGO.out w5 Hb5.out (by rw [HFO.out, HTOK.out, hpl]; rfl)
        have HRI := Lib.hid hri
        clear hri hpl hsz
        go_wp2_with fail
        go_step3
        refine ⟨rfl, ⟨⟨_, _, _, _, _, _, _, _, _, _, _, _, _, _, _, _, _, _, _, _, _, _, _, _, _, _, _, _, _, _, _, _, _, _, _, _, _, _, _, rfl⟩, k + m + 2, by omega, HRI⟩, ?_⟩
        rw [HAT.out, atOf_eq HRI.out]
        omega
end Go.Proofs.YtonlfplloenfcaaGreatDoor
namespace Go.Proofs.YtonlfplloenfcaaGreatDoor
open Go.RowKit

/-- What stands behind a head makes no difference to what is read. -/
theorem more_g {K : Asks} {l : List UInt8} (r : List UInt8) (h : 0 ≤ endAt l) : gE K (l ++ r) = gE K l ∧ gM K (l ++ r) = gM K l ∧ gT K (l ++ r) = gT K l ∧ gS K (l ++ r) = gS K l ∧ gN K (l ++ r) = gN K l ∧ gF K (l ++ r) = gF K l := by
  obtain ⟨h1, h2, h3⟩ := more_read (ok := K.ok) r h
  obtain ⟨h4, _⟩ := more_same l r h
  have e : gE K (l ++ r) = gE K l := by unfold gE; rw [h1]
  have f : firstL (l ++ r) = firstL l := h3
  unfold gM gT gS gN gF
  rw [e, f, h4, h2]
  exact ⟨rfl, rfl, rfl, rfl, rfl, rfl⟩
theorem cells_one (l : List UInt8) : ∀ u ∈ Lib.byteCells l, u.oneCell' = true := by
  intro u hu
  obtain ⟨x, _, rfl⟩ := List.mem_map.1 hu
  rfl
theorem own_kept {w w' : World} {base n size : Nat} {e : TypeId} {v : Value} {xs : List Value} {row : Option Nat} (h : w.ownsRow base e size v n xs) (hg : w.grownBy w' row) (hr : ∀ b, v.ownBlock = some b → row ≠ some b) : w'.ownsRow base e size v n xs :=
  h.kept hg (by
    cases hv : v.ownBlock with
    | none => exact .inl rfl
    | some g => exact .inr (fun e => hr g hv e.symm))
theorem own_cap {w : World} {base n c : Nat} {e : TypeId} {size : Nat} {A : Option Addr} {xs : List Value} (h : w.ownsRow base e size (.slice A n c) n xs) : n ≤ c := by
  rcases h.2 with ⟨h1, rfl⟩ | ⟨g, cap, cur, h1, _, _, h2, _⟩
  · exact Nat.zero_le _
  · injection h1 with _ _ h3
    omega

end Go.Proofs.YtonlfplloenfcaaGreatDoor
namespace Go.Proofs.YtonlfplloenfcaaGreatDoor
open Go.RowKit Go.Shelf
attribute [local go_sem] Oper.semAt_some

theorem bcells_one (l : List UInt8) : ∀ u ∈ Lib.byteCells l, u.oneCell' = true := by
  intro u hu
  obtain ⟨x, _, rfl⟩ := List.mem_map.1 hu
  rfl
/-- The reader's block and its body, alone. -/
structure RB (w W : World) (A : Option Addr) (n c k : Nat) (body : List UInt8) (now : Nat) (left : Nat) (vb : Value) : Prop where
  blk : Blk W w.heap.size 133 (rdC A n c k vb left now 0 false)
  own : W.ownsRow w.heap.size 5 1 vb body.length (Lib.byteCells body)
  bel : Below w.heap.size w W
theorem RB.step {w W W1 : World} {A : Option Addr} {n c k now left : Nat} {body : List UInt8} {vb : Value} (h : RB w W A n c k body now left vb) (hB : Below W.heap.size W W1) : RB w W1 A n c k body now left vb :=
  ⟨h.blk.below hB h.blk.lt, own_below h.own hB, h.bel.trans (hB.mono h.bel.size)⟩
theorem RB.set {w W : World} {A : Option Addr} {n c k k' now left left' : Nat} {body : List UInt8} {vb : Value} (h : RB w W A n c k body now left vb) (i : Nat) (v : Value) (hcs : (rdC A n c k vb left now 0 false).setIfInBounds i v = rdC A n c k' vb left' now 0 false) :
    RB w (W.setCell ⟨w.heap.size, i, none⟩ v) A n c k' body now left' vb :=
  ⟨by rw [← hcs]; exact h.blk.set_ i v, own_tys h.own ((Tys.refl [133] W).setCell (p := ⟨w.heap.size, i, none⟩) h.blk (by simp) v) (by decide), h.bel.setCell (p := ⟨w.heap.size, i, none⟩) (Nat.le_refl _) v⟩
theorem RB.ri {w W : World} {A : Option Addr} {n c k now left all : Nat} {l body : List UInt8} {ans : ChunkA} {st : St} {vb : Value} (h : RB w W A n c k body now left vb) (ht : Tells l ans st k body all now 0 false) (hk : k ≤ n) (hs : st = .size ∨ st = .chunk → left + all = 65536) (hlen : body.length ≤ k) : RI w W A n c l ans st k body all now 0 false left vb :=
  ⟨h.blk, h.own, ht, hk, hs, h.bel, hlen⟩
set_option maxRecDepth 100000 in
set_option maxHeartbeats 4000000 in
theorem bchunk_any (w W : World) (A : Option Addr) (n c k all now left : Nat) (l body : List UInt8) (ans : ChunkA) (z : Int) (d : Bool) (vb : Value) (h : RI w W A n c l ans .chunk k body all now z d left vb) (hl : Lies w w.heap.size A n (Lib.byteCells l)) (hc : n ≤ c) (hn : n ≤ 2000000) :
    Calls Tryz.prog 180 #[.pointer (some ⟨w.heap.size, 0, none⟩)] W (StepPost w A n c l ans (St.rank n .chunk k)) := by
  obtain ⟨rfl, rfl, hnow1, hnow2, _⟩ := id h.tells
  have hll : l.length = n := by simpa [Lib.byteCells] using hl.1
  have hsum := h.sum (.inr rfl)
  have hk := h.kle
  have hlen := h.len
  have HR := Lib.hid h
  have HL := Lib.hid hl
  have HLL := Lib.hid hll
  have c0 := h.blk.cell 0
  have c1 := h.blk.cell 1
  have c4 := h.blk.cell 4
  simp [rdC] at c0 c1 c4
  clear h hl hll
  obtain ⟨x, hx⟩ : ∃ x : Nat, min now (n - k) = x := ⟨_, rfl⟩
  have hx1 : x ≤ now := by omega
  have hx2 : x ≤ n - k := by omega
  have hxv : min (now : Int) ((n : Int) - (k : Int)) = (x : Int) := by omega
  have HXV := Lib.hid hxv
  clear hxv
  go_enter Tryz.func180, Tryz.ntmps180
  go_wp2_with fail
  go_quiet (fail)
  rw [HXV.out]
  clear c0 c1 c4
  have hB0 : Below W.heap.size W (W.drewN nq) := below_drewN (Below.refl _ _) nq
  have R1 := Lib.hid (HR.out.step hB0)
  generalize W.drewN nq = W1 at *
  clear hB0
  have HT := Lib.hid HR.out.tells
  clear HR
  obtain ⟨P, hP⟩ : ∃ P, (l.drop k).take now = P := ⟨_, rfl⟩
  have hPx : P = (l.drop k).take x := by
    rw [← hP, ← hx]
    rcases Nat.le_total now (n - k) with h1 | h1
    · rw [Nat.min_eq_left h1]
    · rw [Nat.min_eq_right h1, List.take_of_length_le (by rw [List.length_drop, HLL.out]; exact h1), List.take_of_length_le (by rw [List.length_drop, HLL.out]; exact Nat.le_refl _)]
  have hPl : P.length = x := by rw [hPx, List.length_take, List.length_drop, HLL.out]; omega
  have hrd : Reads W1 w.heap.size 1 (if c = k then A else Option.map (fun a => a.add k) A) x (Lib.byteCells P) := by
    have h1 := ((HL.out.below R1.out.bel).reads).cut (k := k) (cap := c) hk hc
    rw [Nat.mul_one] at h1
    have e : (Lib.byteCells l).drop k = Lib.byteCells (l.drop k) := by unfold Lib.byteCells; rw [List.map_drop]
    rw [e] at h1
    refine ⟨by simp [Lib.byteCells, hPl], fun h0 => ?_⟩
    obtain ⟨ad, e1, hb1, hc1⟩ := h1.2 (by omega)
    refine ⟨ad, e1, hb1, fun j u hu => hc1 j u ?_⟩
    rw [hPx] at hu
    unfold Lib.byteCells at hu ⊢
    rw [List.map_take, List.getElem?_take] at hu
    split at hu
    · exact hu
    · cases hu
  obtain ⟨A1, hA1⟩ : ∃ A1, (if c = k then A else Option.map (fun a => a.add k) A) = A1 := ⟨_, rfl⟩
  rw [hA1] at hrd
  have HRD := Lib.hid hrd
  have HP := Lib.hid hP
  have HPL := Lib.hid hPl
  clear hrd hP hPx hPl
  obtain ⟨i0, hi, hz0, hz1, hz2⟩ := info_parts infoU
  have hfin : ∀ (v2 : Value) (w2 : World), w2.ownsRow w.heap.size 5 1 v2 (body.length + x) (Lib.byteCells body ++ Lib.byteCells P) → (W1.drew).grownBy w2 vb.ownBlock →
      (Blk w2 w.heap.size 133 (rdC A n c k vb left now 0 false) ∧ Below w.heap.size w w2) := by
    intro v2 w2 h2 hg2
    have hb1 := R1.out.blk
    exact ⟨(hb1.drew).grown hg2 (Ne.symm (own_blk_ne R1.out.own hb1 (by decide))), (R1.out.bel.drew).grown hg2 R1.out.bel.size (fun j hj => (R1.out.own.lt j hj).1)⟩
  have HF := Lib.hid hfin
  clear hfin
  have c0 := R1.out.blk.cell 0
  have c1 := R1.out.blk.cell 1
  have c2 := R1.out.blk.cell 2
  simp [rdC] at c0 c1 c2
  have hw : IntKind.i64.wrap ((k : Int) + (x : Int)) = (k : Int) + (x : Int) := Go.IntWalk.i64_in _ ⟨by omega, by omega⟩
  have hkx0 : 0 ≤ (k : Int) + (x : Int) := by omega
  have hkx : (k : Int) + (x : Int) ≤ (c : Int) := by omega
  have hkt : ((k : Int) + (x : Int)).toNat = k + x := by omega
  go_wp2_with fail
  go_cut [] from 6 (fun wx => ∃ vb2, Hid (RB w wx A n c k (body ++ P) now left vb2))
  case first =>
    go_region_law ((refine step_append_any _ rfl _ _ 23 rfl w.heap.size 5 i0 _ 1 1 Tryz.underlying23 hi hz0 hz1 hz2 rfl (by decide) vb body.length (Lib.byteCells body) rfl R1.out.own w.heap.size _ _ _ (Lib.byteCells P) rfl HRD.out (bcells_one P) (by unfold maxLen; omega) (by omega) R1.out.bel.size ?_; intro v2 w2 hown2 hg2 _; have hK := HF.out v2 w2 hown2 hg2; have HK := Lib.hid hK; have cc := hK.1.cell 2; have ff := hK.1.frozen 2; simp [rdC] at cc; clear hK; have HW := Lib.hid hown2; obtain ⟨A2, cp2, rfl⟩ := own_form hown2; clear hown2 hg2))
    all_goals
      go_wp2_with fail
      go_meet
      have rb2 : RB w (w2.setCell ⟨w.heap.size, 2, none⟩ (.slice A2 (body.length + x) cp2)) A n c k (body ++ P) now left (.slice A2 (body.length + x) cp2) := by
        refine ⟨HK.out.1.set_ 2 _, ?_, HK.out.2.setCell (p := ⟨w.heap.size, 2, none⟩) (Nat.le_refl _) _⟩
        have h1 := own_tys HW.out ((Tys.refl [133] w2).setCell (p := ⟨w.heap.size, 2, none⟩) HK.out.1 (by simp) (.slice A2 (body.length + x) cp2)) (by decide)
        have e1 : Lib.byteCells (body ++ P) = Lib.byteCells body ++ Lib.byteCells P := by unfold Lib.byteCells; rw [List.map_append]
        rw [e1, List.length_append, HPL.out]
        exact h1
      exact ⟨_, rb2⟩
  case rest =>
  obtain ⟨vb2, RB2⟩ := hcut
  clear HF R1 HRD c0 c1 c2 hkx0 hkx hkt hA1
  have RB3 : Hid (RB w (wc.setCell ⟨w.heap.size, 1, none⟩ (.int .i64 ((k : Int) + (x : Int)))) A n c (k + x) (body ++ P) now left vb2) := RB2.out.set 1 _ (by simp [rdC])
  have c1 := RB2.out.blk.cell 1
  simp [rdC] at c1
  have f1 := RB2.out.blk.frozen 1
  go_wp2_with fail
  generalize wc.setCell ⟨w.heap.size, 1, none⟩ (.int .i64 ((k : Int) + (x : Int))) = W3 at *
  clear RB2 c1 f1 hw
  have c3 := RB3.out.blk.cell 3
  have c4 := RB3.out.blk.cell 4
  simp [rdC] at c3 c4
  have f3 := RB3.out.blk.frozen 3
  have RB4 : Hid (RB w ((W3.drew).setCell ⟨w.heap.size, 3, none⟩ (.int .i64 ((left : Int) - (now : Int)))) A n c (k + x) (body ++ P) now (left - now) vb2) := by
    have h1 : RB w W3.drew A n c (k + x) (body ++ P) now left vb2 := ⟨RB3.out.blk, RB3.out.own, RB3.out.bel.drew⟩
    have e1 : (left : Int) - (now : Int) = ((left - now : Nat) : Int) := by omega
    rw [e1]
    exact h1.set 3 _ rfl
  have hwl : IntKind.i64.wrap ((left : Int) - (now : Int)) = (left : Int) - (now : Int) := Go.IntWalk.i64_in ((left : Int) - (now : Int)) ⟨by omega, by omega⟩
  go_cut [] from 6 (fun wx => Hid (RB w wx A n c (k + x) (body ++ P) now (left - now) vb2))
  case first =>
    go_region
    all_goals
      go_wp2_with fail
      go_meet
      exact RB4
  case rest =>
  clear RB4 RB3 c3 c4 f3 hwl
  have RB5 := Lib.hid hcut
  clear hcut
  have HST : Hid (∀ st z z2 k2 all2 W, St.rank n st k2 < St.rank n .chunk k → z2 = (left - now) → RB w W A n c k2 (body ++ P) now z2 vb2 → Tells l ans st k2 (body ++ P) all2 now z false → z = 0 → k2 ≤ n → k + x ≤ k2 → (st = .size ∨ st = .chunk → z2 + all2 = 65536) → StepPost w A n c l ans (St.rank n .chunk k) (.returned (stV w.heap.size st)) W) := fun st z z2 k2 all2 W hr hz2 hrb ht hz hk2 hq2 hs => by
    subst hz
    exact ⟨st, k2, body ++ P, all2, now, 0, false, z2, vb2, rfl, hrb.ri ht hk2 hs (by rw [List.length_append, HPL.out]; omega), hr⟩
  have c4 := RB5.out.blk.cell 4
  simp [rdC] at c4
  have RB4' := Lib.hid c4
  have hdd : (l.drop k).drop now = l.drop (k + now) := by rw [List.drop_drop]
  by_cases hxn : x < now
  · have d1 : decide ((x : Int) < (now : Int)) = true := decide_eq_true (by omega)
    have he : endA ((l.drop k).drop now) = .more := by rw [hdd]; exact end_out (by rw [HLL.out]; omega)
    have ht := chunk_more HT.out he (k + x) all
    rw [HP.out] at ht
    have HP2 := Lib.hid (HST.out .stop 0 (left - now) (k + x) all _ (by simp [St.rank]; omega) rfl RB5.out ht rfl (by omega) (Nat.le_refl _) stop_sum)
    clear he ht hdd
    go_wp2_with fail
    go_ret
    exact HP2.out
  have hxe : x = now := by omega
  subst hxe
  have d1 : decide ((x : Int) < (x : Int)) = false := decide_eq_false (by omega)
  obtain ⟨q, hq⟩ : ∃ q, k + x = q := ⟨_, rfl⟩
  rw [hq] at RB5 hdd
  have hqn : q ≤ n := by omega
  obtain ⟨body2, hb2⟩ : ∃ body2, body ++ P = body2 := ⟨_, rfl⟩
  have HBL : Hid (body2.length ≤ q) := by rw [← hb2]; show _ ≤ _; rw [List.length_append, HPL.out]; omega
  rw [hb2] at RB5 HST
  have HMORE : Hid (endA (l.drop q) = .more → ∀ k2 W, q ≤ k2 → k2 ≤ n → RB w W A n c k2 body2 x (left - x) vb2 → StepPost w A n c l ans (St.rank n .chunk k) (.returned .nilFunc) W) := fun he k2 W h1 h2 h3 => by
    have ht := chunk_more HT.out (by rw [hdd]; exact he) k2 all
    rw [HP.out, hb2] at ht
    exact HST.out .stop 0 (left - x) k2 all W (by simp [St.rank]; omega) rfl h3 ht rfl h2 (by omega) stop_sum
  have HBAD : Hid (endA (l.drop q) = .bad → ∀ k2 W, q ≤ k2 → k2 ≤ n → RB w W A n c k2 body2 x (left - x) vb2 → StepPost w A n c l ans (St.rank n .chunk k) (.returned .nilFunc) (W.setCell ⟨w.heap.size, 5, none⟩ (.int .i64 9))) := fun he k2 W h1 h2 h3 =>
    ⟨.stop, k2, body2, all, x, 9, false, left - x, vb2, rfl, ⟨h3.blk.set_ 5 _, own_tys h3.own ((Tys.refl [133] W).setCell (p := ⟨w.heap.size, 5, none⟩) h3.blk (by simp) _) (by decide), chunk_bad HT.out (by rw [hdd]; exact he) _ _ _, h2, stop_sum, h3.bel.setCell (p := ⟨w.heap.size, 5, none⟩) (Nat.le_refl _) _, by have := HBL.out; omega⟩, by simp [St.rank]; omega⟩
  have HNEXT : Hid (endA (l.drop q) = .next (l.drop (q + 2)) → q + 2 ≤ n → ∀ W, RB w W A n c (q + 2) body2 x (left - x) vb2 → StepPost w A n c l ans (St.rank n .chunk k) (.returned (stV w.heap.size .size)) W) := fun he h2 W h3 => by
    have ht := chunk_next HT.out (show endA ((l.drop k).drop x) = .next (l.drop (q + 2)) by rw [hdd]; exact he)
    rw [HP.out, hb2, hq] at ht
    exact ⟨.size, q + 2, body2, all + x, x, 0, false, left - x, vb2, rfl, h3.ri ht h2 (fun _ => by omega) (by have := HBL.out; omega), by simp [St.rank]; omega⟩
  clear hdd HST HT c4
  have kB := Blk.new wc 5 #[.int .u8 13, .int .u8 10]
  have hcv := run_same_conv Tryz.underlying23 Tryz.underlying5 kB 2 2
  have hsz : (#[.int .u8 13, .int .u8 10] : Array Value).size = 2 := rfl
  rw [hsz] at hcv
  have hgB : w.heap.size < wc.heap.size := RB5.out.blk.lt
  have hbw : Below wc.heap.size wc (frozenW (wc.alloc (.cells #[.int .u8 13, .int .u8 10] 5)) wc.heap.size 2) := frozenW_below ((Below.refl _ _).alloc (Nat.le_refl _) _) (Nat.le_refl _) _
  have RB7 := Lib.hid (RB5.out.step hbw)
  have HC7 : Hid (∀ j, (frozenW (wc.alloc (.cells #[.int .u8 13, .int .u8 10] 5)) wc.heap.size 2).cell? ⟨wc.heap.size, j, none⟩ = (#[.int .u8 13, .int .u8 10] : Array Value)[j]?) := fun j => cell_of_row _ _ _ _ _ _ (frozenW_heap kB)
  have HZ7 : Hid (wc.heap.size < (frozenW (wc.alloc (.cells #[.int .u8 13, .int .u8 10] 5)) wc.heap.size 2).heap.size) := by simp [frozenW, World.freeze, Hid]
  clear hsz hbw kB RB5
  have c4 := RB4'.out
  clear RB4'
  go_wp2_with fail
  generalize frozenW (wc.alloc (.cells #[.int .u8 13, .int .u8 10] 5)) wc.heap.size 2 = W7 at *
  obtain ⟨gB, hgb⟩ : ∃ gB, wc.heap.size = gB := ⟨_, rfl⟩
  rw [hgb] at HC7 HZ7 hgB ⊢
  clear hcv hgb c4 d1
  go_loopw [72] (fun v wr => ∃ i qi : Nat, i ≤ 2 ∧ v = .int .i64 (i : Int) ∧ q + i = qi ∧ qi ≤ n ∧ Hid (∀ j, j < i → l[q + j]? = some (endB j)) ∧ Hid (RB w wr A n c qi body2 x (left - x) vb2) ∧ Hid (∀ j, wr.cell? ⟨gB, j, none⟩ = (#[.int .u8 13, .int .u8 10] : Array Value)[j]?)) (fun v _ => 2 - (intOf v).toNat)
  case atStart => exact ⟨0, q, by omega, rfl, rfl, hqn, fun j hj => by omega, RB7, HC7⟩
  case round =>
    obtain ⟨i, qi, hi2, rfl, hqi, hqin, hmt, hrb, hcb⟩ := hrel
    clear RB7 HC7 HZ7
    by_cases hi : i < 2
    · have cB : wr.cell? ⟨gB, i, none⟩ = some (.int .u8 ((endB i).toNat : Int)) := by
        rw [hcb.out i]
        rcases (show i = 0 ∨ i = 1 by omega) with rfl | rfl <;> rfl
      have c0 := hrb.out.blk.cell 0
      have c1 := hrb.out.blk.cell 1
      simp [rdC] at c0 c1
      cases d2 : ((qi : Int) == (n : Int)) with
      | true =>
        have hqe : qi = n := by have := beq_iff_eq.1 d2; omega
        have he := end_more hi (by rw [HLL.out]; omega) hmt.out
        have HP2 := Lib.hid (HMORE.out he qi)
        have RBq := Lib.hid (fun m => (hrb.out.step (below_drewN (Below.refl _ wr) m)))
        clear HMORE HBAD HNEXT he
        go_wp2_with fail
        go_quiet (fail)
        go_wp2_with fail
        go_ret
        exact HP2.out _ (by omega) (by omega) (RBq.out _)
      | false =>
        have hqlt : qi < n := by
          have h1 : (qi : Int) ≠ (n : Int) := beq_eq_false_iff_ne.1 d2
          omega
        obtain ⟨b, off, rfl, hbb, hcc⟩ := HL.out.2 (by omega)
        obtain ⟨x0, hx0⟩ : ∃ x0, l[qi]? = some x0 := ⟨_, List.getElem?_eq_getElem (by rw [HLL.out]; exact hqlt)⟩
        have hcx := (hrb.out.bel.cell (p := ⟨b, off + qi, none⟩) hbb).trans (hcc qi (.int .u8 (x0.toNat : Int)) (by
          unfold Lib.byteCells
          rw [List.getElem?_map, hx0]
          rfl))
        have f1 := hrb.out.blk.frozen 1
        have HRBD := Lib.hid (fun (m : Nat) => hrb.out.step (below_drewN (Below.refl _ wr) m))
        have HFF := Lib.hid (fun (m : Nat) => fails_any w.heap.size 9 _ (wr.drewN m) (HRBD.out m).blk rfl)
        cases d3 : ((x0.toNat : Int) != ((endB i).toNat : Int)) with
        | true =>
          have hne : x0 ≠ endB i := fun e => by rw [e] at d3; simp at d3
          have HP2 := Lib.hid (HBAD.out (end_bad hi (by rw [hqi]; exact hx0) hne hmt.out) qi)
          clear HMORE HBAD HNEXT hne hcc
          go_wp2_with fail
          go_quiet (fail)
          go_wp2_with fail
          go_quiet (fail)
          go_wp2_with fail
          refine (HFF.out _).mono ?_
          rintro e w9 ⟨rfl, rfl⟩
          go_wp2_with fail
          go_ret
          exact HP2.out _ (by omega) (by omega) (HRBD.out _)
        | false =>
          have heq : x0 = endB i := by
            have h1 : (x0.toNat : Int) = ((endB i).toNat : Int) := by simpa using d3
            exact UInt8.toNat_inj.1 (by omega)
          have hmt2 : Hid (∀ j, j < i + 1 → l[q + j]? = some (endB j)) := fun j hj => by
            rcases Nat.lt_or_ge j i with h | h
            · exact hmt.out j h
            · obtain rfl : j = i := by omega
              rw [hqi, hx0, heq]
          have HRB2 : Hid (∀ m, RB w ((wr.drewN m).setCell ⟨w.heap.size, 1, none⟩ (.int .i64 ((qi : Int) + 1))) (some ⟨b, off, none⟩) n c (qi + 1) body2 x (left - x) vb2) := fun m =>
            (HRBD.out m).set 1 _ (by simp [rdC])
          have HCB2 : Hid (∀ m v j, ((wr.drewN m).setCell ⟨w.heap.size, 1, none⟩ v).cell? ⟨gB, j, none⟩ = (#[.int .u8 13, .int .u8 10] : Array Value)[j]?) := fun m v j =>
            (World.cell?_of_block (Below.heap_setCell (wr.drewN m) ⟨w.heap.size, 1, none⟩ v gB (show gB ≠ w.heap.size by omega))).trans (hcb.out j)
          clear HMORE HBAD HNEXT hcc hx0 heq hmt
          go_wp2_with fail
          go_quiet (fail)
          go_wp2_with fail
          go_quiet (fail)
          go_wp2_with fail
          go_roundw
          case rel => exact ⟨i + 1, qi + 1, by omega, by go_num, by omega, by omega, hmt2, HRB2.out _, fun j => HCB2.out _ _ j⟩
          case measure => simp [intOf]; omega
    · obtain rfl : i = 2 := by omega
      have HP2 := Lib.hid (HNEXT.out (end_next hmt.out) (by omega) wr (by rw [hqi]; exact hrb.out))
      clear HMORE HBAD HNEXT hmt
      go_wp2_with fail
      go_ret
      exact HP2.out
end Go.Proofs.YtonlfplloenfcaaGreatDoor
