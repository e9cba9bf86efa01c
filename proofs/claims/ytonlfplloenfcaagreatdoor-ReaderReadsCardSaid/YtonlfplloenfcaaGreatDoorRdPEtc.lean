/-
  A reader's states in its cells, and which blocks they stand in; what each state's work leaves.
  package reader: Put, and which blocks a reader stands in then.
  package reader: Put, End and Done on any reader, with the blocks it stands in; on none.
  What bounds a reader's state, in plain words: no program stands here.
  package reader: Put, End and Done on none; Done on any reader, with rows of its own.
-/
import Derived.Test.YtonlfplloenfcaaGreatDoorRdDEtc
import Derived.Test.YtonlfplloenfcaaGreatDoorRdIEtc
namespace Go.Proofs.YtonlfplloenfcaaGreatDoor
open Go.RowKit

/-- The blocks of two lists are such. -/
def FootP (P : Nat → Prop) (u v : Value) : Prop := ∀ g, u.ownBlock = some g ∨ v.ownBlock = some g → P g
theorem FootP.mk {P : Nat → Prop} {u v : Value} (h1 : ∀ g, u.ownBlock = some g → P g) (h2 : ∀ g, v.ownBlock = some g → P g) : FootP P u v := fun g h => h.elim (h1 g) (h2 g)
theorem FootP.l {P : Nat → Prop} {u v : Value} (h : FootP P u v) : ∀ g, u.ownBlock = some g → P g := fun g e => h g (Or.inl e)
theorem FootP.r {P : Nat → Prop} {u v : Value} (h : FootP P u v) : ∀ g, v.ownBlock = some g → P g := fun g e => h g (Or.inr e)
/-- A reader that reads; these bytes came; its lists stand in such blocks. -/
def RdOnP (w : World) (base p : Nat) (mt : ByteArray) (L : List UInt8) (vb : Value) (P : Nat → Prop) : Prop :=
  ∃ a nx m1 m2 ms vf vd need ends, a ≤ L.length ∧ Blk w p 160 (rrC mt vb ((a : Nat) : Int) (L.length : Int) nx m1 m2 ms vf vd need ends 0 0) ∧ BufOk w base vb (L.length - a) (Lib.byteCells (L.drop a)) ∧ (∀ g, vb.ownBlock = some g → ¬ g = p) ∧ PhI w base p mt L a vb nx ms vf vd need ends ∧ FootP P vb vf ∧ (ms < 200 → vf.ownBlock = none)
/-- One that has done what it can. -/
def RdOnS (w : World) (base p : Nat) (mt : ByteArray) (L : List UInt8) (vb : Value) (P : Nat → Prop) : Prop :=
  ∃ a nx m1 m2 ms vf vd need ends, a ≤ L.length ∧ Blk w p 160 (rrC mt vb ((a : Nat) : Int) (L.length : Int) nx m1 m2 ms vf vd need ends 0 0) ∧ BufOk w base vb (L.length - a) (Lib.byteCells (L.drop a)) ∧ (∀ g, vb.ownBlock = some g → ¬ g = p) ∧ PhI w base p mt L a vb nx ms vf vd need ends ∧ FootP P vb vf ∧ (ms < 200 → vf.ownBlock = none) ∧
    (lookA mt L = .wait ∨ (ends = 1 ∧ ∃ n s f x, lookA mt L = .opn n s f x))
theorem RdOnS.on {w : World} {base p : Nat} {mt : ByteArray} {L : List UInt8} {vb : Value} {P : Nat → Prop} (h : RdOnS w base p mt L vb P) : RdOnP w base p mt L vb P := by
  obtain ⟨a, nx, m1, m2, ms, vf, vd, need, ends, h1, h2, h3, h4, h5, h6, h7, _⟩ := h
  exact ⟨a, nx, m1, m2, ms, vf, vd, need, ends, h1, h2, h3, h4, h5, h6, h7⟩
theorem RdOnS.look {w : World} {base p : Nat} {mt : ByteArray} {L : List UInt8} {vb : Value} {P : Nat → Prop} (h : RdOnS w base p mt L vb P) : lookA mt L = .wait ∨ ∃ n s f x, lookA mt L = .opn n s f x := by
  obtain ⟨_, _, _, _, _, _, _, _, _, _, _, _, _, _, _, _, h⟩ := h
  exact h.elim Or.inl (fun h => Or.inr h.2)
def RdFinP (w : World) (base p : Nat) (mt : ByteArray) (n : Nat) (s : Int) (f : List Fd) (b : List UInt8) (k : Bool) (P : Nat → Prop) : Prop :=
  ∃ vb cm nx m1 m2 vf vd need ends, Blk w p 160 (rrC mt vb (n : Int) cm nx m1 m2 s vf vd need ends 1 0) ∧ RdFd w base vf f ∧ (∀ g, vf.ownBlock = some g → g ≠ p) ∧ RdL w base vd b ∧ (∀ g, vd.ownBlock = some g → g ≠ p) ∧ ((ends = 0 ∧ k = keepB f) ∨ (ends = 1 ∧ k = false)) ∧ FootP P vf vd
theorem RdFinP.fin {w : World} {base p : Nat} {mt : ByteArray} {n : Nat} {s : Int} {f : List Fd} {b : List UInt8} {k : Bool} {P : Nat → Prop} (h : RdFinP w base p mt n s f b k P) : RdFin w base p mt n s f b k := by
  obtain ⟨vb, cm, nx, m1, m2, vf, vd, need, ends, h1, h2, h3, h4, h5, h6, _⟩ := h
  exact ⟨vb, cm, nx, m1, m2, vf, vd, need, ends, h1, h2, h3, h4, h5, h6⟩
def RdStP (w : World) (base p : Nat) (mt : ByteArray) (P : Nat → Prop) : RSt → Prop
  | .on L => ∃ vb, RdOnS w base p mt L vb P
  | .bad z => RdBad w p mt z
  | .fin s f b k => ∃ n, RdFinP w base p mt n s f b k P

/-- What a state's work leaves. -/
def NextP (w' : World) (base p : Nat) (mt : ByteArray) (L : List UInt8) (vb : Value) (P : Nat → Prop) (bo : Bool) (z : Int) (rk : Nat) : Prop :=
  (z ≠ 0 ∧ bo = false ∧ lookA mt L = .err z ∧ RdBad w' p mt 0) ∨
  (z = 0 ∧ ∃ vb2, (∀ g, vb2.ownBlock = some g → vb.ownBlock = some g) ∧ ((bo = true ∧ RdOnP w' base p mt L vb2 P ∧ rdRank p L.length (.bool true) w' < rk) ∨ (bo = false ∧ RdOnS w' base p mt L vb2 P))) ∨
  (z = 0 ∧ bo = false ∧ ∃ n s f x k, lookA mt L = .done n s f x k ∧ RdFinP w' base p mt n s f x k P)
theorem rdnext_headP (p : Nat) (w : World) (base : Nat) (mt : ByteArray) (L : List UInt8) (a : Nat) (vb : Value) (m1 m2 : ByteArray) (vf vd : Value)
    (hk : Blk w p 160 (rrC mt vb ((a : Nat) : Int) (L.length : Int) (nxHead p) m1 m2 0 vf vd 0 0 0 0)) (hb : BufOk w base vb (L.length - a) (Lib.byteCells (L.drop a))) (hne : ∀ g, vb.ownBlock = some g → ¬ g = p) (ha : a ≤ L.length) (hI : HeadI L a) (hn : L.length < 60000)
    (hm : MaxOk w) (hmg : maxG < w.heap.size) (he : ErrOk w) (heg : errG < w.heap.size) (hmp : maxG < p) (hbp : base ≤ p) (P : Nat → Prop) (hF : FootP P vb vf) (hP : ∀ g, w.heap.size ≤ g → P g) (hvf : vf.ownBlock = none) :
    Calls Tryz.prog 133 #[.pointer (some ⟨p, 0, none⟩)] w fun e w' => ∃ bo z, e = retBE bo z ∧ Keep (fun q => q = p) w w' ∧ NextP w' base p mt L vb P bo z (rdRank p L.length (.bool true) w) := by
  obtain ⟨A, c, rfl, _, _, _⟩ := hb.form
  have hrk := rdRank_head (n := L.length) hk (by decide)
  have hpl := hk.lt
  refine (rdhead_any p w base mt (nxHead p) vf vd A (L.length - a) c (L.drop a) a (L.length : Int) 0 m1 m2 hk hb hne (by omega) (by omega) hm hmg he heg hmp).mono ?_
  rintro e w' ⟨hp, hpost⟩
  rcases hpost with ⟨h7, rfl, hk5⟩ | ⟨h7, h0, rfl, hk5⟩ | ⟨h0, k, v, hgn, hkn, hb5, ho5, hrest⟩
  · exact ⟨_, _, rfl, hp, Or.inr (Or.inl ⟨rfl, _, fun g hg => hg, Or.inr ⟨rfl, ⟨a, nxHead p, m1, m2, 0, vf, vd, 0, 0, ha, hk5, hb.keepX hp hne, hne, Or.inl ⟨rfl, rfl, rfl, rfl, hI⟩, hF, fun _ => hvf, Or.inl (look_wait hI hn h7)⟩⟩⟩)⟩
  · exact ⟨_, _, rfl, hp, Or.inl ⟨h0, rfl, look_bad hI hn h7 h0, _, _, _, _, _, _, _, _, _, _, _, hk5⟩⟩
  · have hne5 : ∀ g, v.ownBlock = some g → ¬ g = p := fun g hg => hne g (ho5 g hg)
    have hb6 : BufOk w' base v (L.length - (a + k)) (Lib.byteCells (L.drop (a + k))) := by
      rw [bc_drop, List.drop_drop] at hb5
      rw [show L.length - (a + k) = L.length - a - k by omega]
      exact hb5
    have hak : a + k ≤ L.length := by omega
    have hk4 := (gN_pos h0 (by rw [List.length_drop]; omega)).1
    rw [hgn, Int.toNat_natCast] at hk4
    rcases hrest with ⟨hs, rfl, hk5⟩ | ⟨hs, vf2, z1, z2, z3, hfd, hz, htail⟩
    · refine ⟨_, _, rfl, hp, Or.inr (Or.inl ⟨rfl, v, ho5, Or.inl ⟨rfl, ⟨a + k, nxHead p, m1, m2, 0, vf, vd, 0, 0, hak, hk5, hb6, hne5, Or.inl ⟨rfl, rfl, rfl, rfl, hI.next h0 hs hgn⟩, FootP.mk (fun g hg => hF.l g (ho5 g hg)) hF.r, fun _ => hvf⟩, ?_⟩⟩)⟩
      rw [hrk, rdRank_head (n := L.length) hk5 (by decide)]
      omega
    · have hfin := hI.fin h0 hs hgn hn
      have hs2 : 200 ≤ gS statusK (L.drop a) := by omega
      have hP2 : ∀ g, vf2.ownBlock = some g → P g := by
        obtain ⟨_, _, _, _, _, hbf⟩ := hfd
        exact fun g hg => hP g (hbf g hg).1
      have hF6 : FootP P v vf2 := FootP.mk (fun g hg => hF.l g (ho5 g hg)) hP2
      have hfd2 : RdFd w' base vf2 (gF statusK (L.drop a)) ∧ ∀ g, vf2.ownBlock = some g → g ≠ p ∧ v.ownBlock ≠ some g := by
        obtain ⟨Af, cf, hv, hc, hL, hbf⟩ := hfd
        refine ⟨⟨Af, cf, hv, hc, hL, fun g hg => ⟨by have := (hbf g hg).1; omega, (hbf g hg).2⟩⟩, fun g hg => ⟨by have := (hbf g hg).1; omega, fun e => ?_⟩⟩
        have h1 := (hbf g hg).1
        have h2 := (hb.own g (ho5 g e)).2
        omega
      have hrb : ∀ {w'' : World} {nx2 : Value} {x1 x2 : ByteArray} {vb2 vd2 : Value} {rd2 cm2 need2 ends2 : Int}, Blk w'' p 160 (rrC mt vb2 rd2 cm2 nx2 x1 x2 (gS statusK (L.drop a)) vf2 vd2 need2 ends2 0 0) → rdRank p L.length (.bool true) w'' < rdRank p L.length (.bool true) w := fun h => by
        rw [hrk, rdRank_body h hs2]
        omega
      rcases htail with ⟨h3, rfl, x1, x2, hk5⟩ | ⟨h3, h1, rfl, x1, x2, v2, hr2, hk5⟩ | ⟨h3, h1, rfl, x1, x2, hk5⟩ | ⟨h3, h1, rfl, x1, x2, hk5⟩ | ⟨h3, h1, rfl, x1, x2, hk5⟩
      · exact ⟨_, _, rfl, hp, Or.inl ⟨h3, rfl, look_err3 hfin hn hz h3, _, _, _, _, _, _, _, _, _, _, _, hk5⟩⟩
      · simp only at h3 h1
        subst h3 h1
        refine ⟨_, _, rfl, hp, Or.inr (Or.inr ⟨rfl, rfl, _, _, _, _, _, look_none hfin hn hz, ?_⟩)⟩
        obtain ⟨Ar, cr, hv, hc, hL, hbr⟩ := hr2
        exact ⟨_, _, _, _, _, _, _, _, _, hk5, hfd2.1, fun g hg => (hfd2.2 g hg).1, ⟨Ar, cr, hv, hc, hL, fun g hg => ⟨by have := (hbr g hg).1; omega, (hbr g hg).2⟩⟩, fun g hg => by have := (hbr g hg).1; omega, Or.inl ⟨rfl, rfl⟩, FootP.mk hP2 (fun g hg => hP g (hbr g hg).1)⟩
      · simp only at h3 h1
        subst h3 h1
        rcases howM_six mt (gS statusK (L.drop a)) (gF statusK (L.drop a)) with h | h | h | h | h | ⟨m, hm6, h⟩
        all_goals (rw [hz] at h)
        · cases (three_eq h).1
        · cases (three_eq h).1
        · cases (three_eq h).1
        · cases (three_eq h).1
        · cases (three_eq h).1
        · obtain ⟨_, rfl, _⟩ := three_eq h
          exact ⟨_, _, rfl, hp, Or.inr (Or.inl ⟨rfl, v, ho5, Or.inl ⟨rfl, ⟨a + k, nxLen p, x1, x2, _, vf2, _, _, 0, hak, hk5, hb6, hne5, Or.inr ⟨hs2, rfl, _, hfd2.1, hfd2.2, hfin, Or.inl ⟨rfl, rfl, m, hm6, hz, rfl⟩⟩, hF6, fun h => by omega⟩, hrb hk5⟩⟩)⟩
      · simp only at h3 h1
        subst h3 h1
        have hz2 : z2 = 0 := by
          rcases howM_six mt (gS statusK (L.drop a)) (gF statusK (L.drop a)) with h | h | h | h | h | ⟨m, hm6, h⟩
          all_goals (rw [hz] at h)
          · cases (three_eq h).1
          · cases (three_eq h).1
          · exact (three_eq h).2.1
          · cases (three_eq h).1
          · cases (three_eq h).1
          · cases (three_eq h).1
        subst hz2
        exact ⟨_, _, rfl, hp, Or.inr (Or.inl ⟨rfl, v, ho5, Or.inl ⟨rfl, ⟨a + k, nxChunks p, x1, x2, _, vf2, _, 0, 0, hak, hk5, hb6, hne5, Or.inr ⟨hs2, rfl, _, hfd2.1, hfd2.2, hfin, Or.inr (Or.inl ⟨rfl, rfl, rfl, hz⟩)⟩, hF6, fun h => by omega⟩, hrb hk5⟩⟩)⟩
      · simp only at h3 h1
        subst h3 h1
        have hz2 : z2 = 0 := by
          rcases howM_six mt (gS statusK (L.drop a)) (gF statusK (L.drop a)) with h | h | h | h | h | ⟨m, hm6, h⟩
          all_goals (rw [hz] at h)
          · cases (three_eq h).1
          · exact (three_eq h).2.1
          · cases (three_eq h).1
          · cases (three_eq h).1
          · cases (three_eq h).1
          · cases (three_eq h).1
        subst hz2
        exact ⟨_, _, rfl, hp, Or.inr (Or.inl ⟨rfl, v, ho5, Or.inl ⟨rfl, ⟨a + k, nxRest p, x1, x2, _, vf2, _, 0, 1, hak, hk5, hb6, hne5, Or.inr ⟨hs2, rfl, _, hfd2.1, hfd2.2, hfin, Or.inr (Or.inr ⟨rfl, rfl, rfl, hz⟩)⟩, hF6, fun h => by omega⟩, hrb hk5⟩⟩)⟩
theorem rdnext_lenP (p : Nat) (w : World) (base : Nat) (mt : ByteArray) (L : List UInt8) (a : Nat) (vb : Value) (m1 m2 : ByteArray) (vf vd : Value) (ms : Int) (f : List Fd) (m : Nat)
    (hk : Blk w p 160 (rrC mt vb ((a : Nat) : Int) (L.length : Int) (nxLen p) m1 m2 ms vf vd (m : Int) 0 0 0)) (hb : BufOk w base vb (L.length - a) (Lib.byteCells (L.drop a))) (hne : ∀ g, vb.ownBlock = some g → ¬ g = p) (ha : a ≤ L.length) (hn : L.length < 60000)
    (hs2 : 200 ≤ ms) (hvd : vd = .slice none 0 0) (hfd : RdFd w base vf f) (hfx : ∀ g, vf.ownBlock = some g → g ≠ p ∧ vb.ownBlock ≠ some g) (hI : FinI L a ms f) (hm6 : m ≤ 65536) (hz : howM mt ms f = (1, (m : Int), 0)) (hbp : base ≤ p) (P : Nat → Prop) (hF : FootP P vb vf) (hP : ∀ g, w.heap.size ≤ g → P g) :
    Calls Tryz.prog 203 #[.pointer (some ⟨p, 0, none⟩)] w fun e w' => ∃ bo z, e = retBE bo z ∧ Keep (fun q => q = p) w w' ∧ NextP w' base p mt L vb P bo z (rdRank p L.length (.bool true) w) := by
  obtain ⟨A, c, rfl, _, _, _⟩ := hb.form
  have hpl := hk.lt
  have hlook := look_len hI hn hz
  by_cases hmn : m ≤ L.length - a
  · rw [if_pos hmn] at hlook
    refine (rdlen_done p w base mt (nxLen p) vf vd A (L.length - a) c m (L.drop a) a (L.length : Int) ms 0 0 0 m1 m2 hk hb hne hmn (by omega) (by omega)).mono ?_
    rintro e w' ⟨rfl, hp, v, v2, hk5, hr2, hb5, ho5⟩
    refine ⟨false, 0, rfl, hp, Or.inr (Or.inr ⟨rfl, rfl, _, _, _, _, _, hlook, ?_⟩)⟩
    obtain ⟨Ar, cr, hv, hc, hL, hbr⟩ := hr2
    exact ⟨_, _, _, _, _, _, _, _, _, hk5, hfd.keepX hp (fun g hg => (hfx g hg).1), fun g hg => (hfx g hg).1, ⟨Ar, cr, hv, hc, hL, fun g hg => ⟨by have := (hbr g hg).1; omega, (hbr g hg).2⟩⟩, fun g hg => by have := (hbr g hg).1; omega, Or.inl ⟨rfl, rfl⟩, FootP.mk hF.r (fun g hg => hP g (hbr g hg).1)⟩
  · rw [if_neg hmn] at hlook
    refine (rdlen_more p w mt (nxLen p) vf vd A (L.length - a) c m (a : Int) (L.length : Int) ms 0 0 0 m1 m2 hk (by omega)).mono ?_
    rintro e w' ⟨rfl, q, rfl⟩
    have hp : Keep (fun q => q = p) w (w.drewN q) := (Keep.refl _ w).drewN q
    exact ⟨false, 0, rfl, hp, Or.inr (Or.inl ⟨rfl, _, fun g hg => hg, Or.inr ⟨rfl, ⟨a, nxLen p, m1, m2, ms, vf, vd, (m : Int), 0, ha, hk.drewN q, hb.keepX hp hne, hne, Or.inr ⟨hs2, hvd, f, hfd.keepX hp (fun g hg => (hfx g hg).1), hfx, hI, Or.inl ⟨rfl, rfl, m, hm6, hz, rfl⟩⟩, hF, fun h => by omega, Or.inl hlook⟩⟩⟩)⟩
theorem rdnext_restP (p : Nat) (w : World) (base : Nat) (mt : ByteArray) (L : List UInt8) (a : Nat) (vb : Value) (m1 m2 : ByteArray) (vf vd : Value) (ms : Int) (f : List Fd)
    (hk : Blk w p 160 (rrC mt vb ((a : Nat) : Int) (L.length : Int) (nxRest p) m1 m2 ms vf vd 0 1 0 0)) (hb : BufOk w base vb (L.length - a) (Lib.byteCells (L.drop a))) (hne : ∀ g, vb.ownBlock = some g → ¬ g = p) (ha : a ≤ L.length) (hn : L.length < 60000)
    (hs2 : 200 ≤ ms) (hvd : vd = .slice none 0 0) (hfd : RdFd w base vf f) (hfx : ∀ g, vf.ownBlock = some g → g ≠ p ∧ vb.ownBlock ≠ some g) (hI : FinI L a ms f) (hz : howM mt ms f = (3, 0, 0)) (P : Nat → Prop) (hF : FootP P vb vf) (_hP : ∀ g, w.heap.size ≤ g → P g) :
    Calls Tryz.prog 205 #[.pointer (some ⟨p, 0, none⟩)] w fun e w' => ∃ bo z, e = retBE bo z ∧ Keep (fun q => q = p) w w' ∧ NextP w' base p mt L vb P bo z (rdRank p L.length (.bool true) w) := by
  obtain ⟨A, c, rfl, _, _, _⟩ := hb.form
  refine (rdrest_any p w mt (nxRest p) vf vd A (L.length - a) c (a : Int) (L.length : Int) ms 0 1 0 0 m1 m2 hk).mono ?_
  rintro e w' ⟨rfl, rfl⟩
  rw [if_neg (by omega)]
  exact ⟨false, 0, rfl, Keep.refl _ _, Or.inr (Or.inl ⟨rfl, _, fun g hg => hg, Or.inr ⟨rfl, ⟨a, nxRest p, m1, m2, ms, vf, vd, 0, 1, ha, hk, hb, hne, Or.inr ⟨hs2, hvd, f, hfd, hfx, hI, Or.inr (Or.inr ⟨rfl, rfl, rfl, hz⟩)⟩, hF, fun h => by omega, Or.inr ⟨rfl, _, _, _, _, look_rest hI hn hz⟩⟩⟩⟩)⟩
theorem rdnext_chunksP (p : Nat) (w : World) (base : Nat) (mt : ByteArray) (L : List UInt8) (a : Nat) (vb : Value) (m1 m2 : ByteArray) (vf vd : Value) (ms : Int) (f : List Fd)
    (hk : Blk w p 160 (rrC mt vb ((a : Nat) : Int) (L.length : Int) (nxChunks p) m1 m2 ms vf vd 0 0 0 0)) (hb : BufOk w base vb (L.length - a) (Lib.byteCells (L.drop a))) (hne : ∀ g, vb.ownBlock = some g → ¬ g = p) (ha : a ≤ L.length) (hn : L.length < 60000)
    (hs2 : 200 ≤ ms) (hvd : vd = .slice none 0 0) (hfd : RdFd w base vf f) (hfx : ∀ g, vf.ownBlock = some g → g ≠ p ∧ vb.ownBlock ≠ some g) (hI : FinI L a ms f) (hz : howM mt ms f = (2, 0, 0)) (hm : MaxOk w) (hmg : maxG < w.heap.size) (hbp : base ≤ p) (P : Nat → Prop) (hF : FootP P vb vf) (hP : ∀ g, w.heap.size ≤ g → P g) :
    Calls Tryz.prog 204 #[.pointer (some ⟨p, 0, none⟩)] w fun e w' => ∃ bo z, e = retBE bo z ∧ Keep (fun q => q = p) w w' ∧ NextP w' base p mt L vb P bo z (rdRank p L.length (.bool true) w) := by
  obtain ⟨A, c, rfl, _, _, _⟩ := hb.form
  have hpl := hk.lt
  have hlook := look_chunks hI hn hz
  refine (rdchunks_any p w base mt (nxChunks p) vf vd A (L.length - a) c (L.drop a) a (L.length : Int) ms 0 0 0 0 m1 m2 hk hb hne (by omega) (by omega) hm hmg).mono ?_
  rintro e w' ⟨rfl, hp, h1, h2⟩
  have hon : ∀ (hx : ∀ b q, chunkA (L.drop a) ≠ .done b q) (hw : lookA mt L = .wait), RdOnS w' base p mt L (.slice A (L.length - a) c) P := fun hx hw =>
    ⟨a, nxChunks p, m1, m2, ms, vf, vd, 0, 0, ha, h1 hx, hb.keepX hp hne, hne, Or.inr ⟨hs2, hvd, f, hfd.keepX hp (fun g hg => (hfx g hg).1), hfx, hI, Or.inr (Or.inl ⟨rfl, rfl, rfl, hz⟩)⟩, hF, fun h => by omega, Or.inl hw⟩
  cases hc : chunkA (L.drop a) with
  | err z =>
    rw [hc] at hlook
    have hz0 : z ≠ 0 := by rcases chunkA_err hc with rfl | rfl <;> decide
    exact ⟨false, z, rfl, hp, Or.inl ⟨hz0, rfl, hlook, _, _, _, _, _, _, _, _, _, _, _, h1 (fun b q e => by rw [hc] at e; cases e)⟩⟩
  | more b =>
    rw [hc] at hlook
    exact ⟨false, 0, rfl, hp, Or.inr (Or.inl ⟨rfl, _, fun g hg => hg, Or.inr ⟨rfl, hon (fun b q e => by rw [hc] at e; cases e) hlook⟩⟩)⟩
  | done b q =>
    rw [hc] at hlook
    obtain ⟨v, v2, hk5, hr2, hb5, ho5⟩ := h2 b q hc
    refine ⟨false, 0, rfl, hp, Or.inr (Or.inr ⟨rfl, rfl, _, _, _, _, _, hlook, ?_⟩)⟩
    obtain ⟨Ar, cr, hv, hc2, hL, hbr⟩ := hr2
    exact ⟨_, _, _, _, _, _, _, _, _, hk5, hfd.keepX hp (fun g hg => (hfx g hg).1), fun g hg => (hfx g hg).1, ⟨Ar, cr, hv, hc2, hL, fun g hg => ⟨by have := (hbr g hg).1; omega, (hbr g hg).2⟩⟩, fun g hg => by have := (hbr g hg).1; omega, Or.inl ⟨rfl, rfl⟩, FootP.mk hF.r (fun g hg => hP g (hbr g hg).1)⟩
end Go.Proofs.YtonlfplloenfcaaGreatDoor
namespace Go.Proofs.YtonlfplloenfcaaGreatDoor
open Go.RowKit

theorem RdOnP.zero {w : World} {base p : Nat} {mt : ByteArray} {L : List UInt8} {vb : Value} {P : Nat → Prop} (h : RdOnP w base p mt L vb P) : RdOnP (w.setCell ⟨p, 14, none⟩ (.int .i64 0)) base p mt L vb P := by
  obtain ⟨a, nx, m1, m2, ms, vf, vd, need, ends, ha, hk, hb, hne, hph, hF, hvf⟩ := h
  have hK : Keep (fun q => q = p) w (w.setCell ⟨p, 14, none⟩ (.int .i64 0)) := Keep.setCell (p := ⟨p, 14, none⟩) (Keep.refl (fun q => q = p) w) rfl _
  have h2 := hk.set_ 14 (.int .i64 0)
  exact ⟨a, nx, m1, m2, ms, vf, vd, need, ends, ha, by simpa [rrC] using h2, hb.keepX hK hne, hne, hph.own hK (fun g e => Or.inl e) (fun g hg => Or.inl hg), hF, hvf⟩
theorem RdOnS.zero {w : World} {base p : Nat} {mt : ByteArray} {L : List UInt8} {vb : Value} {P : Nat → Prop} (h : RdOnS w base p mt L vb P) : RdOnS (w.setCell ⟨p, 14, none⟩ (.int .i64 0)) base p mt L vb P := by
  obtain ⟨a, nx, m1, m2, ms, vf, vd, need, ends, ha, hk, hb, hne, hph, hF, hvf, hl⟩ := h
  have hK : Keep (fun q => q = p) w (w.setCell ⟨p, 14, none⟩ (.int .i64 0)) := Keep.setCell (p := ⟨p, 14, none⟩) (Keep.refl (fun q => q = p) w) rfl _
  have h2 := hk.set_ 14 (.int .i64 0)
  exact ⟨a, nx, m1, m2, ms, vf, vd, need, ends, ha, by simpa [rrC] using h2, hb.keepX hK hne, hne, hph.own hK (fun g e => Or.inl e) (fun g hg => Or.inl hg), hF, hvf, hl⟩
theorem RdFinP.zero {w : World} {base p : Nat} {mt : ByteArray} {n : Nat} {s : Int} {f : List Fd} {b : List UInt8} {k : Bool} {P : Nat → Prop} (h : RdFinP w base p mt n s f b k P) : RdFinP (w.setCell ⟨p, 14, none⟩ (.int .i64 0)) base p mt n s f b k P := by
  obtain ⟨vb, cm, nx, m1, m2, vf, vd, need, ends, hk, hf, hfx, hb, hbx, he, hF⟩ := h
  have hK : Keep (fun q => q = p) w (w.setCell ⟨p, 14, none⟩ (.int .i64 0)) := Keep.setCell (p := ⟨p, 14, none⟩) (Keep.refl (fun q => q = p) w) rfl _
  have h2 := hk.set_ 14 (.int .i64 0)
  exact ⟨vb, cm, nx, m1, m2, vf, vd, need, ends, by simpa [rrC] using h2, hf.keepX hK hfx, hfx, hb.keepX hK hbx, hbx, he, hF⟩

set_option maxRecDepth 100000 in
set_option maxHeartbeats 4000000 in
theorem rdput_onP (p : Nat) (w : World) (base : Nat) (mt : ByteArray) (L b : List UInt8) (vb : Value) (A : Option Addr) (n c : Nat)
    (P : Nat → Prop) (hP : ∀ g, w.heap.size ≤ g → P g) (hr : RdOnP w base p mt L vb P) (h : Lies w w.heap.size A n (Lib.byteCells b)) (hA : 0 < n → ∀ g o, A = some ⟨g, o, none⟩ → g ≠ p) (hn : L.length + n < 60000) (hbase : base ≤ w.heap.size)
    (hm : MaxOk w) (hmg : maxG < base) (he : ErrOk w) (heg : errG < base) (hbp : base ≤ p) :
    Calls Tryz.prog 59 #[.pointer (some ⟨p, 0, none⟩), .slice A n c] w fun e w' => e = .returned (.tuple #[.int .i64 (putR mt (.on L) b).2.1, .int .i64 (putR mt (.on L) b).2.2]) ∧ Keep (fun q => q = p ∨ vb.ownBlock = some q) w w' ∧ RdStP w' base p mt P (putR mt (.on L) b).1 := by
  obtain ⟨a, nx, m1, m2, ms, vf, vd, need, ends, ha, hk, hbuf, hne, hph, hft, hvf⟩ := hr
  have HFT := Lib.hid hft
  have HVF := Lib.hid hvf
  have HPP := Lib.hid hP
  clear hft hP hvf
  have hll : b.length = n := by simpa [Lib.byteCells] using h.1
  have hown := fun g hg => (hbuf.own g hg).1
  obtain ⟨Av, cv, rfl, hcap, hbL, hbA⟩ := hbuf.form
  have HTH := Lib.hid (there_any p w mt _ nx vf vd _ _ ms need ends 0 0 m1 m2 hk)
  have HK := Lib.hid hk
  have HB := Lib.hid hbuf
  have HN := Lib.hid hne
  have HP := Lib.hid hph
  have H := Lib.hid h
  have HA := Lib.hid hA
  have HLL := Lib.hid hll
  have HM := Lib.hid hm
  have HE := Lib.hid he
  have hpl := hk.lt
  have c2 := hk.cell 2
  have c4 := hk.cell 4
  have c13 := hk.cell 13
  have c14 := hk.cell 14
  have f2 := hk.frozen 2
  have f4 := hk.frozen 4
  simp [rrC] at c2 c4 c13 c14
  obtain ⟨i0, hi, hz0, hz1', hz2'⟩ := info_parts infoU
  have hk1 : Blk (w.setCell ⟨p, 4, none⟩ (.int .i64 ((L.length : Int) + (n : Int)))) p 160 (rrC mt (.slice Av (L.length - a) cv) ((a : Nat) : Int) ((L.length + n : Nat) : Int) nx m1 m2 ms vf vd need ends 0 0) := by
    have := hk.set_ 4 (.int .i64 ((L.length : Int) + (n : Int)))
    simpa [rrC] using this
  have hp1 : Keep (fun q => q = p) w (w.setCell ⟨p, 4, none⟩ (.int .i64 ((L.length : Int) + (n : Int)))) := Keep.setCell (p := ⟨p, 4, none⟩) (Keep.refl (fun q => q = p) w) rfl _
  have K1 := Lib.hid hk1
  have P1 := Lib.hid hp1
  have B1 := Lib.hid (hbuf.keepX hp1 hne)
  have R1 := Lib.hid (lies_keep hp1 h hA).reads
  have c2' := hk1.cell 2
  simp [rrC] at c2'
  have hs1 : (w.setCell ⟨p, 4, none⟩ (.int .i64 ((L.length : Int) + (n : Int)))).heap.size = w.heap.size := by simp [World.setCell]
  clear hk hbuf hne hph h hA hll hm he hk1 hp1 hbL hbA
  go_enter Tryz.func59, Tryz.ntmps59
  go_wp2_with fail
  refine (HTH.out).mono ?_
  rintro e w0 ⟨rfl, rfl⟩
  clear HTH
  go_wp2_with (at_builtin; refine wpList_append_buf rfl _ _ 23 rfl base i0 _ Tryz.underlying23 hi hz0 hz1' hz2' rfl (Value.slice Av (L.length - a) cv) (L.length - a) (Lib.byteCells (L.drop a)) rfl B1.out w.heap.size A n c (Lib.byteCells b) rfl R1.out (cells_one b) (by omega) (by rw [hs1]; exact hbase) ?_; intro v2 w2 hb2 hp2 ho2; have hK2 := K1.out.keep hp2 (fun e => HN.out p e rfl); have K2 := Lib.hid hK2; have d2 := hK2.cell 2; have g2 := hK2.frozen 2; simp [rrC] at d2; clear hK2; obtain ⟨A2, cc2, rfl, _⟩ := hb2.form)
  have hLl : (L ++ b).length = L.length + n := by rw [List.length_append, HLL.out]
  have hk3 : Blk (w2.setCell ⟨p, 2, none⟩ (.slice A2 (L.length - a + n) cc2)) p 160 (rrC mt (.slice A2 (L.length - a + n) cc2) ((a : Nat) : Int) ((L ++ b).length : Int) nx m1 m2 ms vf vd need ends 0 0) := by
    have := K2.out.set_ 2 (.slice A2 (L.length - a + n) cc2)
    rw [hLl]
    simpa [rrC] using this
  have hp23 : Keep (fun q => q = p) w2 (w2.setCell ⟨p, 2, none⟩ (.slice A2 (L.length - a + n) cc2)) := Keep.setCell (p := ⟨p, 2, none⟩) (Keep.refl (fun q => q = p) w2) rfl _
  have hn3 : ∀ g, (Value.slice A2 (L.length - a + n) cc2).ownBlock = some g → ¬ g = p := fun g hg => by
    rcases ho2 g hg with e | e
    · exact HN.out g e
    · rw [hs1] at e
      omega
  have hp3 : Keep (fun q => q = p ∨ (Value.slice Av (L.length - a) cv).ownBlock = some q) w (w2.setCell ⟨p, 2, none⟩ (.slice A2 (L.length - a + n) cc2)) :=
    ((P1.out.mono (fun q e => Or.inl e)).trans (hp2.mono (fun q e => Or.inr e))).trans (hp23.mono (fun q e => Or.inl e))
  have hb3 : BufOk (w2.setCell ⟨p, 2, none⟩ (.slice A2 (L.length - a + n) cc2)) base (.slice A2 (L.length - a + n) cc2) ((L ++ b).length - a) (Lib.byteCells ((L ++ b).drop a)) := by
    have h1 := hb2.keepX hp23 hn3
    rw [List.drop_append_of_le_length ha, bc_append, hLl, show L.length + n - a = L.length - a + n by omega]
    exact h1
  have hph3 : PhI (w2.setCell ⟨p, 2, none⟩ (.slice A2 (L.length - a + n) cc2)) base p mt (L ++ b) a (.slice A2 (L.length - a + n) cc2) nx ms vf vd need ends :=
    (HP.out.own hp3 (fun g e => e) (fun g hg => by
      rcases ho2 g hg with e | e
      · exact .inl e
      · rw [hs1] at e
        exact .inr e)).more ha b
  have hft3 : ∀ g, (Value.slice A2 (L.length - a + n) cc2).ownBlock = some g → P g := fun g hg => by
    rcases ho2 g hg with e | e
    · exact HFT.out.l g e
    · exact HPP.out g (by rw [hs1] at e; exact e)
  have hz3 : w.heap.size ≤ (w2.setCell ⟨p, 2, none⟩ (.slice A2 (L.length - a + n) cc2)).heap.size := hp3.size
  have e1 : L.length - a + n = (L ++ b).length - a := by rw [hLl]; omega
  rw [e1] at hk3 hb3 hn3 hph3 hp3 hz3 hft3 ⊢
  clear hp23 ho2 hb2 hp2 d2 g2 e1
  generalize w2.setCell ⟨p, 2, none⟩ (.slice A2 ((L ++ b).length - a) cc2) = W3 at *
  have hon : RdOnP W3 base p mt (L ++ b) (.slice A2 ((L ++ b).length - a) cc2) P := ⟨a, nx, m1, m2, ms, vf, vd, need, ends, by omega, hk3, hb3, hn3, hph3, FootP.mk hft3 HFT.out.r, HVF.out⟩
  have HON := Lib.hid hon
  have P3 := Lib.hid hp3
  clear hk3 hb3 hn3 hph3 hp3 hft3 hon K1 K2 B1 R1 c2 c4 c13 c14 f2 f4 c2' HB HK HP H HA
  have HPE := Lib.hid (fun z (h : lookA mt (L ++ b) = .err z) => putR_err (mt := mt) (l := L) (b := b) h)
  have HPD := Lib.hid (fun nn s f x k (h : lookA mt (L ++ b) = .done nn s f x k) => putR_done (mt := mt) (l := L) (b := b) h)
  have HPW := Lib.hid (fun (h : lookA mt (L ++ b) = .wait ∨ ∃ nn s f x, lookA mt (L ++ b) = .opn nn s f x) => (h.elim (fun h => putR_wait (mt := mt) (l := L) (b := b) h) (fun ⟨_, _, _, _, h⟩ => putR_opn (mt := mt) (l := L) (b := b) h) : putR mt (.on L) b = (.on (L ++ b), (b.length : Int), 0)))
  have HOWN := Lib.hid (hown : ∀ g, (Value.slice Av (L.length - a) cv).ownBlock = some g → base ≤ g)
  clear hown
  have HLT : (L ++ b).length < 60000 := by omega
  obtain ⟨v3, hv3⟩ : ∃ v3, Value.slice A2 ((L ++ b).length - a) cc2 = v3 := ⟨_, rfl⟩
  rw [hv3] at HON ⊢
  clear hv3
  go_loopw [7] (fun v wr => ∃ mo : Bool, v = .bool mo ∧ Hid (Keep (fun q => q = p) W3 wr) ∧ ((mo = true ∧ ∃ vb', Hid (RdOnP wr base p mt (L ++ b) vb' P)) ∨ (mo = false ∧ ∃ vb', Hid (RdOnS wr base p mt (L ++ b) vb' P)) ∨ (mo = false ∧ ∃ nn s f x kk, Hid (lookA mt (L ++ b) = .done nn s f x kk) ∧ Hid (RdFinP wr base p mt nn s f x kk P)))) (fun v wr => rdRank p (L ++ b).length v wr)
  case atStart => exact ⟨true, rfl, Keep.refl _ _, Or.inl ⟨rfl, _, HON⟩⟩
  case round =>
    obtain ⟨mo, rfl, HW, hcase⟩ := hrel
    clear HON
    have PW := Lib.hid (P3.out.trans (HW.out.mono (fun q e => Or.inl e)))
    rcases hcase with ⟨rfl, vb', HR⟩ | ⟨rfl, vb', HR⟩ | ⟨rfl, nn, s, f, x, kk, HLK, HF⟩
    · obtain ⟨a5, nx5, y1, y2, ms5, vf5, vd5, need5, ends5, ha5, hk5, hb5, hne5, hph5, hft5, hvf5⟩ := HR.out
      have hP5 : ∀ g, wr.heap.size ≤ g → P g := fun g hg => HPP.out g (Nat.le_trans PW.out.size hg)
      have hWb : Below base w wr := PW.out.below hbase (fun q e => e.elim (fun e => by rw [e]; exact hbp) (fun e => HOWN.out q e))
      have hm5 := HM.out.below hWb hmg
      have he5 := HE.out.below hWb heg
      have hw5 : w.heap.size ≤ wr.heap.size := hWb.size
      have hmg5 : maxG < wr.heap.size := by omega
      have heg5 : errG < wr.heap.size := by omega
      have hmp5 : maxG < p := by omega
      clear hWb HR
      rcases hph5 with ⟨rfl, rfl, rfl, rfl, hI⟩ | ⟨hs2, hvd, f, hfd, hfx, hI, hk3⟩
      · skip
        have HC := Lib.hid (rdnext_headP p wr base mt (L ++ b) a5 vb' y1 y2 vf5 vd5 hk5 hb5 hne5 ha5 hI HLT hm5 hmg5 he5 heg5 hmp5 hbp P hft5 hP5 (hvf5 (by decide)))
        have HRK := Lib.hid (show 0 < rdRank p (L ++ b).length (.bool true) wr by rw [rdRank_head hk5 (by decide)]; omega)
        clear hb5 hne5 hI hm5 he5 hft5 hP5 hvf5
        have c13 := hk5.cell 13
        have c14 := hk5.cell 14
        have c5 := hk5.cell 5
        have f14 := hk5.frozen 14
        simp [rrC, nxHead] at c13 c14 c5
        have HK5 := Lib.hid hk5
        clear hk5
        go_wp2_with fail
        refine (HC.out).mono ?_
        rintro e w6 ⟨bo, z, rfl, hp6, hnext⟩
        rw [show retBE bo z = .returned (.tuple #[.bool bo, .int .i64 z]) from rfl]
        have P6 := Lib.hid (PW.out.trans (hp6.mono (fun q e => Or.inl e)))
        have W6 := Lib.hid (HW.out.trans hp6)
        clear hp6 HC c13 c14 c5 f14
        rcases hnext with ⟨hz0, rfl, hlook, hbad⟩ | ⟨rfl, vb2, hv2, hcase⟩ | ⟨rfl, rfl, nn, s, f, x, kk, hlook, hfin⟩
        · obtain ⟨vb6, rd6, cm6, nx6, x1, x2, ms6, vf6, vd6, need6, ends6, hk6⟩ := hbad
          have c14 := hk6.cell 14
          have f14 := hk6.frozen 14
          simp [rrC] at c14
          have hzz : (z == 0) = false := beq_eq_false_iff_ne.2 hz0
          have hzn : (z != 0) = true := by unfold bne; rw [hzz]; rfl
          have hk7 : Blk (w6.setCell ⟨p, 14, none⟩ (.int .i64 z)) p 160 (rrC mt vb6 rd6 cm6 nx6 x1 x2 ms6 vf6 vd6 need6 ends6 0 z) := by
            have := hk6.set_ 14 (.int .i64 z)
            simpa [rrC] using this
          have K7 := Lib.hid hk7
          have P7 := Lib.hid (Keep.setCell (p := ⟨p, 14, none⟩) P6.out (Or.inl rfl) (.int .i64 z))
          have HLK := Lib.hid hlook
          clear hk6 hk7 hlook hz0
          go_wp2_with fail
          go_quiet (fail)
          go_wp2_with fail
          go_ret2
          rw [HPE.out z HLK.out]
          exact ⟨rfl, P7.out.drewN _, _, _, _, _, _, _, _, _, _, _, _, K7.out.drewN _⟩
        · obtain ⟨a6, nx6, x1, x2, ms6, vf6, vd6, need6, ends6, ha6, hk6, _⟩ : RdOnP w6 base p mt (L ++ b) vb2 P := hcase.elim (fun h => h.2.1) (fun h => h.2.on)
          have hcase2 : (bo = true ∧ RdOnP (w6.setCell ⟨p, 14, none⟩ (.int .i64 0)) base p mt (L ++ b) vb2 P ∧ rdRank p (L ++ b).length (.bool true) w6 < rdRank p (L ++ b).length (.bool true) wr) ∨ (bo = false ∧ RdOnS (w6.setCell ⟨p, 14, none⟩ (.int .i64 0)) base p mt (L ++ b) vb2 P) := hcase.elim (fun ⟨h1, h2, h3⟩ => Or.inl ⟨h1, h2.zero, h3⟩) (fun ⟨h1, h2⟩ => Or.inr ⟨h1, h2.zero⟩)
          have c14 := hk6.cell 14
          have f14 := hk6.frozen 14
          simp [rrC] at c14
          have P7 := Lib.hid (Keep.setCell (p := ⟨p, 14, none⟩) W6.out rfl (.int .i64 0))
          have HC2 := Lib.hid hcase2
          clear hk6 hcase hcase2
          go_wp2_with fail
          go_roundw
          case rel =>
            refine ⟨bo, rfl, P7.out, ?_⟩
            rcases HC2.out with ⟨rfl, h, _⟩ | ⟨rfl, h⟩
            · exact Or.inl ⟨rfl, vb2, h⟩
            · exact Or.inr (Or.inl ⟨rfl, vb2, h⟩)
          case measure =>
            rcases HC2.out with ⟨rfl, _, h⟩ | ⟨rfl, h⟩
            · show rdRank p (L ++ b).length (.bool true) (w6.setCell ⟨p, 14, none⟩ (.int .i64 0)) < rdRank p (L ++ b).length (.bool true) wr
              rw [rdRank_zero]
              exact h
            · show 0 < rdRank p (L ++ b).length (.bool true) wr
              exact HRK.out
        · have HFN := Lib.hid hfin.zero
          obtain ⟨vb6, cm6, nx6, x1, x2, vf6, vd6, need6, ends6, hk6, _⟩ := hfin
          have c14 := hk6.cell 14
          have f14 := hk6.frozen 14
          simp [rrC] at c14
          have P7 := Lib.hid (Keep.setCell (p := ⟨p, 14, none⟩) W6.out rfl (.int .i64 0))
          have HLK := Lib.hid hlook
          clear hk6 hlook
          go_wp2_with fail
          go_roundw
          case rel => exact ⟨false, rfl, P7.out, Or.inr (Or.inr ⟨rfl, nn, s, f, x, kk, HLK, HFN⟩)⟩
          case measure =>
            show 0 < rdRank p (L ++ b).length (.bool true) wr
            exact HRK.out
      · rcases hk3 with ⟨rfl, rfl, m, hm6, hz, rfl⟩ | ⟨rfl, rfl, rfl, hz⟩ | ⟨rfl, rfl, rfl, hz⟩
        · skip
          have HC := Lib.hid (rdnext_lenP p wr base mt (L ++ b) a5 vb' y1 y2 vf5 vd5 ms5 f m hk5 hb5 hne5 ha5 HLT hs2 hvd hfd hfx hI hm6 hz hbp P hft5 hP5)
          have HRK := Lib.hid (show 0 < rdRank p (L ++ b).length (.bool true) wr by rw [rdRank_body hk5 hs2]; omega)
          clear hb5 hne5 hI hm5 he5 hz hfd hfx hvd hft5 hP5
          have c13 := hk5.cell 13
          have c14 := hk5.cell 14
          have c5 := hk5.cell 5
          have f14 := hk5.frozen 14
          simp [rrC, nxLen] at c13 c14 c5
          have HK5 := Lib.hid hk5
          clear hk5
          go_wp2_with fail
          refine (HC.out).mono ?_
          rintro e w6 ⟨bo, z, rfl, hp6, hnext⟩
          rw [show retBE bo z = .returned (.tuple #[.bool bo, .int .i64 z]) from rfl]
          have P6 := Lib.hid (PW.out.trans (hp6.mono (fun q e => Or.inl e)))
          have W6 := Lib.hid (HW.out.trans hp6)
          clear hp6 HC c13 c14 c5 f14
          rcases hnext with ⟨hz0, rfl, hlook, hbad⟩ | ⟨rfl, vb2, hv2, hcase⟩ | ⟨rfl, rfl, nn, s, f, x, kk, hlook, hfin⟩
          · obtain ⟨vb6, rd6, cm6, nx6, x1, x2, ms6, vf6, vd6, need6, ends6, hk6⟩ := hbad
            have c14 := hk6.cell 14
            have f14 := hk6.frozen 14
            simp [rrC] at c14
            have hzz : (z == 0) = false := beq_eq_false_iff_ne.2 hz0
            have hzn : (z != 0) = true := by unfold bne; rw [hzz]; rfl
            have hk7 : Blk (w6.setCell ⟨p, 14, none⟩ (.int .i64 z)) p 160 (rrC mt vb6 rd6 cm6 nx6 x1 x2 ms6 vf6 vd6 need6 ends6 0 z) := by
              have := hk6.set_ 14 (.int .i64 z)
              simpa [rrC] using this
            have K7 := Lib.hid hk7
            have P7 := Lib.hid (Keep.setCell (p := ⟨p, 14, none⟩) P6.out (Or.inl rfl) (.int .i64 z))
            have HLK := Lib.hid hlook
            clear hk6 hk7 hlook hz0
            go_wp2_with fail
            go_quiet (fail)
            go_wp2_with fail
            go_ret2
            rw [HPE.out z HLK.out]
            exact ⟨rfl, P7.out.drewN _, _, _, _, _, _, _, _, _, _, _, _, K7.out.drewN _⟩
          · obtain ⟨a6, nx6, x1, x2, ms6, vf6, vd6, need6, ends6, ha6, hk6, _⟩ : RdOnP w6 base p mt (L ++ b) vb2 P := hcase.elim (fun h => h.2.1) (fun h => h.2.on)
            have hcase2 : (bo = true ∧ RdOnP (w6.setCell ⟨p, 14, none⟩ (.int .i64 0)) base p mt (L ++ b) vb2 P ∧ rdRank p (L ++ b).length (.bool true) w6 < rdRank p (L ++ b).length (.bool true) wr) ∨ (bo = false ∧ RdOnS (w6.setCell ⟨p, 14, none⟩ (.int .i64 0)) base p mt (L ++ b) vb2 P) := hcase.elim (fun ⟨h1, h2, h3⟩ => Or.inl ⟨h1, h2.zero, h3⟩) (fun ⟨h1, h2⟩ => Or.inr ⟨h1, h2.zero⟩)
            have c14 := hk6.cell 14
            have f14 := hk6.frozen 14
            simp [rrC] at c14
            have P7 := Lib.hid (Keep.setCell (p := ⟨p, 14, none⟩) W6.out rfl (.int .i64 0))
            have HC2 := Lib.hid hcase2
            clear hk6 hcase hcase2
            go_wp2_with fail
            go_roundw
            case rel =>
              refine ⟨bo, rfl, P7.out, ?_⟩
              rcases HC2.out with ⟨rfl, h, _⟩ | ⟨rfl, h⟩
              · exact Or.inl ⟨rfl, vb2, h⟩
              · exact Or.inr (Or.inl ⟨rfl, vb2, h⟩)
            case measure =>
              rcases HC2.out with ⟨rfl, _, h⟩ | ⟨rfl, h⟩
              · show rdRank p (L ++ b).length (.bool true) (w6.setCell ⟨p, 14, none⟩ (.int .i64 0)) < rdRank p (L ++ b).length (.bool true) wr
                rw [rdRank_zero]
                exact h
              · show 0 < rdRank p (L ++ b).length (.bool true) wr
                exact HRK.out
          · have HFN := Lib.hid hfin.zero
            obtain ⟨vb6, cm6, nx6, x1, x2, vf6, vd6, need6, ends6, hk6, _⟩ := hfin
            have c14 := hk6.cell 14
            have f14 := hk6.frozen 14
            simp [rrC] at c14
            have P7 := Lib.hid (Keep.setCell (p := ⟨p, 14, none⟩) W6.out rfl (.int .i64 0))
            have HLK := Lib.hid hlook
            clear hk6 hlook
            go_wp2_with fail
            go_roundw
            case rel => exact ⟨false, rfl, P7.out, Or.inr (Or.inr ⟨rfl, nn, s, f, x, kk, HLK, HFN⟩)⟩
            case measure =>
              show 0 < rdRank p (L ++ b).length (.bool true) wr
              exact HRK.out
        · skip
          have HC := Lib.hid (rdnext_chunksP p wr base mt (L ++ b) a5 vb' y1 y2 vf5 vd5 ms5 f hk5 hb5 hne5 ha5 HLT hs2 hvd hfd hfx hI hz hm5 hmg5 hbp P hft5 hP5)
          have HRK := Lib.hid (show 0 < rdRank p (L ++ b).length (.bool true) wr by rw [rdRank_body hk5 hs2]; omega)
          clear hb5 hne5 hI hm5 he5 hz hfd hfx hvd hft5 hP5
          have c13 := hk5.cell 13
          have c14 := hk5.cell 14
          have c5 := hk5.cell 5
          have f14 := hk5.frozen 14
          simp [rrC, nxChunks] at c13 c14 c5
          have HK5 := Lib.hid hk5
          clear hk5
          go_wp2_with fail
          refine (HC.out).mono ?_
          rintro e w6 ⟨bo, z, rfl, hp6, hnext⟩
          rw [show retBE bo z = .returned (.tuple #[.bool bo, .int .i64 z]) from rfl]
          have P6 := Lib.hid (PW.out.trans (hp6.mono (fun q e => Or.inl e)))
          have W6 := Lib.hid (HW.out.trans hp6)
          clear hp6 HC c13 c14 c5 f14
          rcases hnext with ⟨hz0, rfl, hlook, hbad⟩ | ⟨rfl, vb2, hv2, hcase⟩ | ⟨rfl, rfl, nn, s, f, x, kk, hlook, hfin⟩
          · obtain ⟨vb6, rd6, cm6, nx6, x1, x2, ms6, vf6, vd6, need6, ends6, hk6⟩ := hbad
            have c14 := hk6.cell 14
            have f14 := hk6.frozen 14
            simp [rrC] at c14
            have hzz : (z == 0) = false := beq_eq_false_iff_ne.2 hz0
            have hzn : (z != 0) = true := by unfold bne; rw [hzz]; rfl
            have hk7 : Blk (w6.setCell ⟨p, 14, none⟩ (.int .i64 z)) p 160 (rrC mt vb6 rd6 cm6 nx6 x1 x2 ms6 vf6 vd6 need6 ends6 0 z) := by
              have := hk6.set_ 14 (.int .i64 z)
              simpa [rrC] using this
            have K7 := Lib.hid hk7
            have P7 := Lib.hid (Keep.setCell (p := ⟨p, 14, none⟩) P6.out (Or.inl rfl) (.int .i64 z))
            have HLK := Lib.hid hlook
            clear hk6 hk7 hlook hz0
            go_wp2_with fail
            go_quiet (fail)
            go_wp2_with fail
            go_ret2
            rw [HPE.out z HLK.out]
            exact ⟨rfl, P7.out.drewN _, _, _, _, _, _, _, _, _, _, _, _, K7.out.drewN _⟩
          · obtain ⟨a6, nx6, x1, x2, ms6, vf6, vd6, need6, ends6, ha6, hk6, _⟩ : RdOnP w6 base p mt (L ++ b) vb2 P := hcase.elim (fun h => h.2.1) (fun h => h.2.on)
            have hcase2 : (bo = true ∧ RdOnP (w6.setCell ⟨p, 14, none⟩ (.int .i64 0)) base p mt (L ++ b) vb2 P ∧ rdRank p (L ++ b).length (.bool true) w6 < rdRank p (L ++ b).length (.bool true) wr) ∨ (bo = false ∧ RdOnS (w6.setCell ⟨p, 14, none⟩ (.int .i64 0)) base p mt (L ++ b) vb2 P) := hcase.elim (fun ⟨h1, h2, h3⟩ => Or.inl ⟨h1, h2.zero, h3⟩) (fun ⟨h1, h2⟩ => Or.inr ⟨h1, h2.zero⟩)
            have c14 := hk6.cell 14
            have f14 := hk6.frozen 14
            simp [rrC] at c14
            have P7 := Lib.hid (Keep.setCell (p := ⟨p, 14, none⟩) W6.out rfl (.int .i64 0))
            have HC2 := Lib.hid hcase2
            clear hk6 hcase hcase2
            go_wp2_with fail
            go_roundw
            case rel =>
              refine ⟨bo, rfl, P7.out, ?_⟩
              rcases HC2.out with ⟨rfl, h, _⟩ | ⟨rfl, h⟩
              · exact Or.inl ⟨rfl, vb2, h⟩
              · exact Or.inr (Or.inl ⟨rfl, vb2, h⟩)
            case measure =>
              rcases HC2.out with ⟨rfl, _, h⟩ | ⟨rfl, h⟩
              · show rdRank p (L ++ b).length (.bool true) (w6.setCell ⟨p, 14, none⟩ (.int .i64 0)) < rdRank p (L ++ b).length (.bool true) wr
                rw [rdRank_zero]
                exact h
              · show 0 < rdRank p (L ++ b).length (.bool true) wr
                exact HRK.out
          · have HFN := Lib.hid hfin.zero
            obtain ⟨vb6, cm6, nx6, x1, x2, vf6, vd6, need6, ends6, hk6, _⟩ := hfin
            have c14 := hk6.cell 14
            have f14 := hk6.frozen 14
            simp [rrC] at c14
            have P7 := Lib.hid (Keep.setCell (p := ⟨p, 14, none⟩) W6.out rfl (.int .i64 0))
            have HLK := Lib.hid hlook
            clear hk6 hlook
            go_wp2_with fail
            go_roundw
            case rel => exact ⟨false, rfl, P7.out, Or.inr (Or.inr ⟨rfl, nn, s, f, x, kk, HLK, HFN⟩)⟩
            case measure =>
              show 0 < rdRank p (L ++ b).length (.bool true) wr
              exact HRK.out
        · skip
          have HC := Lib.hid (rdnext_restP p wr base mt (L ++ b) a5 vb' y1 y2 vf5 vd5 ms5 f hk5 hb5 hne5 ha5 HLT hs2 hvd hfd hfx hI hz P hft5 hP5)
          have HRK := Lib.hid (show 0 < rdRank p (L ++ b).length (.bool true) wr by rw [rdRank_body hk5 hs2]; omega)
          clear hb5 hne5 hI hm5 he5 hz hfd hfx hvd hft5 hP5
          have c13 := hk5.cell 13
          have c14 := hk5.cell 14
          have c5 := hk5.cell 5
          have f14 := hk5.frozen 14
          simp [rrC, nxRest] at c13 c14 c5
          have HK5 := Lib.hid hk5
          clear hk5
          go_wp2_with fail
          refine (HC.out).mono ?_
          rintro e w6 ⟨bo, z, rfl, hp6, hnext⟩
          rw [show retBE bo z = .returned (.tuple #[.bool bo, .int .i64 z]) from rfl]
          have P6 := Lib.hid (PW.out.trans (hp6.mono (fun q e => Or.inl e)))
          have W6 := Lib.hid (HW.out.trans hp6)
          clear hp6 HC c13 c14 c5 f14
          rcases hnext with ⟨hz0, rfl, hlook, hbad⟩ | ⟨rfl, vb2, hv2, hcase⟩ | ⟨rfl, rfl, nn, s, f, x, kk, hlook, hfin⟩
          · obtain ⟨vb6, rd6, cm6, nx6, x1, x2, ms6, vf6, vd6, need6, ends6, hk6⟩ := hbad
            have c14 := hk6.cell 14
            have f14 := hk6.frozen 14
            simp [rrC] at c14
            have hzz : (z == 0) = false := beq_eq_false_iff_ne.2 hz0
            have hzn : (z != 0) = true := by unfold bne; rw [hzz]; rfl
            have hk7 : Blk (w6.setCell ⟨p, 14, none⟩ (.int .i64 z)) p 160 (rrC mt vb6 rd6 cm6 nx6 x1 x2 ms6 vf6 vd6 need6 ends6 0 z) := by
              have := hk6.set_ 14 (.int .i64 z)
              simpa [rrC] using this
            have K7 := Lib.hid hk7
            have P7 := Lib.hid (Keep.setCell (p := ⟨p, 14, none⟩) P6.out (Or.inl rfl) (.int .i64 z))
            have HLK := Lib.hid hlook
            clear hk6 hk7 hlook hz0
            go_wp2_with fail
            go_quiet (fail)
            go_wp2_with fail
            go_ret2
            rw [HPE.out z HLK.out]
            exact ⟨rfl, P7.out.drewN _, _, _, _, _, _, _, _, _, _, _, _, K7.out.drewN _⟩
          · obtain ⟨a6, nx6, x1, x2, ms6, vf6, vd6, need6, ends6, ha6, hk6, _⟩ : RdOnP w6 base p mt (L ++ b) vb2 P := hcase.elim (fun h => h.2.1) (fun h => h.2.on)
            have hcase2 : (bo = true ∧ RdOnP (w6.setCell ⟨p, 14, none⟩ (.int .i64 0)) base p mt (L ++ b) vb2 P ∧ rdRank p (L ++ b).length (.bool true) w6 < rdRank p (L ++ b).length (.bool true) wr) ∨ (bo = false ∧ RdOnS (w6.setCell ⟨p, 14, none⟩ (.int .i64 0)) base p mt (L ++ b) vb2 P) := hcase.elim (fun ⟨h1, h2, h3⟩ => Or.inl ⟨h1, h2.zero, h3⟩) (fun ⟨h1, h2⟩ => Or.inr ⟨h1, h2.zero⟩)
            have c14 := hk6.cell 14
            have f14 := hk6.frozen 14
            simp [rrC] at c14
            have P7 := Lib.hid (Keep.setCell (p := ⟨p, 14, none⟩) W6.out rfl (.int .i64 0))
            have HC2 := Lib.hid hcase2
            clear hk6 hcase hcase2
            go_wp2_with fail
            go_roundw
            case rel =>
              refine ⟨bo, rfl, P7.out, ?_⟩
              rcases HC2.out with ⟨rfl, h, _⟩ | ⟨rfl, h⟩
              · exact Or.inl ⟨rfl, vb2, h⟩
              · exact Or.inr (Or.inl ⟨rfl, vb2, h⟩)
            case measure =>
              rcases HC2.out with ⟨rfl, _, h⟩ | ⟨rfl, h⟩
              · show rdRank p (L ++ b).length (.bool true) (w6.setCell ⟨p, 14, none⟩ (.int .i64 0)) < rdRank p (L ++ b).length (.bool true) wr
                rw [rdRank_zero]
                exact h
              · show 0 < rdRank p (L ++ b).length (.bool true) wr
                exact HRK.out
          · have HFN := Lib.hid hfin.zero
            obtain ⟨vb6, cm6, nx6, x1, x2, vf6, vd6, need6, ends6, hk6, _⟩ := hfin
            have c14 := hk6.cell 14
            have f14 := hk6.frozen 14
            simp [rrC] at c14
            have P7 := Lib.hid (Keep.setCell (p := ⟨p, 14, none⟩) W6.out rfl (.int .i64 0))
            have HLK := Lib.hid hlook
            clear hk6 hlook
            go_wp2_with fail
            go_roundw
            case rel => exact ⟨false, rfl, P7.out, Or.inr (Or.inr ⟨rfl, nn, s, f, x, kk, HLK, HFN⟩)⟩
            case measure =>
              show 0 < rdRank p (L ++ b).length (.bool true) wr
              exact HRK.out
    · obtain ⟨a5, nx5, x1, x2, ms5, vf5, vd5, need5, ends5, ha5, hk5, _⟩ := HR.out.on
      have c13 := hk5.cell 13
      simp [rrC] at c13
      clear hk5
      go_wp2_with fail
      go_ret2
      rw [HPW.out HR.out.look]
      refine ⟨?_, PW.out, vb', HR.out⟩
      rw [HLL.out]
      rfl
    · obtain ⟨vb5, cm5, nx5, x1, x2, vf5, vd5, need5, ends5, hk5, _⟩ := HF.out
      have c13 := hk5.cell 13
      have c3 := hk5.cell 3
      simp [rrC] at c13 c3
      clear hk5
      have hnn := (look_done_le (mt := mt) HLT HLK.out)
      go_wp2_with fail
      go_ret2
      rw [HPD.out _ _ _ _ _ HLK.out]
      exact ⟨rfl, PW.out, _, HF.out⟩
end Go.Proofs.YtonlfplloenfcaaGreatDoor
namespace Go.Proofs.YtonlfplloenfcaaGreatDoor
open Go.RowKit

theorem PhI.keepX {X : Nat → Prop} {w w' : World} {base p : Nat} {mt : ByteArray} {L : List UInt8} {a : Nat} {vb nx : Value} {ms : Int} {vf vd : Value} {need ends : Int} (h : PhI w base p mt L a vb nx ms vf vd need ends) (hk : Keep X w w') (hx : ∀ g, vf.ownBlock = some g → ¬ X g) : PhI w' base p mt L a vb nx ms vf vd need ends := by
  rcases h with h | ⟨h1, h2, f, h3, h4, h5, h6⟩
  · exact .inl h
  · exact .inr ⟨h1, h2, f, h3.keepX hk hx, h4, h5, h6⟩
theorem RdStP.keepX {X : Nat → Prop} {w w' : World} {base p : Nat} {mt : ByteArray} {P : Nat → Prop} {st : RSt} (h : RdStP w base p mt P st) (hk : Keep X w w') (hx : ∀ q, X q → ¬ P q) (hp : P p) : RdStP w' base p mt P st := by
  have hxp : ¬ X p := fun e => hx p e hp
  cases st with
  | on L =>
    obtain ⟨vb, a, nx, m1, m2, ms, vf, vd, need, ends, h1, h2, h3, h4, h5, h6, h7⟩ := h
    exact ⟨vb, a, nx, m1, m2, ms, vf, vd, need, ends, h1, h2.keep hk hxp, h3.keepX hk (fun g e hx' => hx g hx' (h6.l g e)), h4, h5.keepX hk (fun g e hx' => hx g hx' (h6.r g e)), h6, h7⟩
  | bad z =>
    obtain ⟨vb, rd, cm, nx, m1, m2, ms, vf, vd, need, ends, h1⟩ := h
    exact ⟨vb, rd, cm, nx, m1, m2, ms, vf, vd, need, ends, h1.keep hk hxp⟩
  | fin s f b k =>
    obtain ⟨n, vb, cm, nx, m1, m2, vf, vd, need, ends, h1, h2, h3, h4, h5, h6, h7⟩ := h
    exact ⟨n, vb, cm, nx, m1, m2, vf, vd, need, ends, h1.keep hk hxp, h2.keepX hk (fun g e hx' => hx g hx' (h7.l g e)), h3, h4.keepX hk (fun g e hx' => hx g hx' (h7.r g e)), h5, h6, h7⟩
theorem RdFd.lt {w : World} {base : Nat} {v : Value} {fs : List Fd} (h : RdFd w base v fs) : ∀ g, v.ownBlock = some g → base ≤ g ∧ g < w.heap.size := by
  obtain ⟨_, _, _, _, _, h⟩ := h
  exact h
theorem RdL.lt {w : World} {base : Nat} {v : Value} {l : List UInt8} (h : RdL w base v l) : ∀ g, v.ownBlock = some g → base ≤ g ∧ g < w.heap.size := by
  obtain ⟨_, _, _, _, _, h⟩ := h
  exact h
theorem RdStP.mono {w : World} {base p : Nat} {mt : ByteArray} {P Q : Nat → Prop} {st : RSt} (h : RdStP w base p mt P st) (hq : ∀ q, q < w.heap.size → P q → Q q) : RdStP w base p mt Q st := by
  cases st with
  | on L =>
    obtain ⟨vb, a, nx, m1, m2, ms, vf, vd, need, ends, h1, h2, h3, h4, h5, h6, h7, h8⟩ := h
    refine ⟨vb, a, nx, m1, m2, ms, vf, vd, need, ends, h1, h2, h3, h4, h5, FootP.mk (fun g e => hq g (h3.own g e).2 (h6.l g e)) (fun g e => hq g ?_ (h6.r g e)), h7, h8⟩
    rcases h5 with ⟨_, h, _⟩ | ⟨_, _, f, h, _⟩
    · rw [h7 (by omega)] at e
      cases e
    · exact (h.lt g e).2
  | bad z => exact h
  | fin s f b k =>
    obtain ⟨n, vb, cm, nx, m1, m2, vf, vd, need, ends, h1, h2, h3, h4, h5, h6, h7⟩ := h
    exact ⟨n, vb, cm, nx, m1, m2, vf, vd, need, ends, h1, h2, h3, h4, h5, h6, FootP.mk (fun g e => hq g (h2.lt g e).2 (h7.l g e)) (fun g e => hq g (h4.lt g e).2 (h7.r g e))⟩
theorem RdStP.st {w : World} {base p : Nat} {mt : ByteArray} {P : Nat → Prop} {st : RSt} (h : RdStP w base p mt P st) : RdSt w base p mt st := by
  cases st with
  | on L =>
    obtain ⟨vb, a, nx, m1, m2, ms, vf, vd, need, ends, h1, h2, h3, h4, h5, h6, h7⟩ := h
    exact ⟨vb, a, nx, m1, m2, ms, vf, vd, need, ends, h1, h2, h3, h4, h5⟩
  | bad z => exact h
  | fin s f b k =>
    obtain ⟨n, h⟩ := h
    exact ⟨n, h.fin⟩

set_option maxRecDepth 100000 in
theorem rdput_bad (p : Nat) (w : World) (A : Option Addr) (n c : Nat) (mt : ByteArray) (z : Int) (h : RdBad w p mt z) (hz : z ≠ 0) :
    Calls Tryz.prog 59 #[.pointer (some ⟨p, 0, none⟩), .slice A n c] w fun e w' => e = .returned (.tuple #[.int .i64 0, .int .i64 z]) ∧ ∃ q, w' = w.drewN q := by
  obtain ⟨vb, rd, cm, nx, m1, m2, ms, vf, vd, need, ends, hk⟩ := h
  have HTH := Lib.hid (there_any p w mt vb nx vf vd rd cm ms need ends 0 z m1 m2 hk)
  have c13 := hk.cell 13
  have c14 := hk.cell 14
  simp [rrC] at c13 c14
  have hzz : (z == 0) = false := beq_eq_false_iff_ne.2 hz
  have hzn : (z != 0) = true := by unfold bne; rw [hzz]; rfl
  clear hk
  go_enter Tryz.func59, Tryz.ntmps59
  go_wp2_with fail
  refine (HTH.out).mono ?_
  rintro e w1 ⟨rfl, rfl⟩
  clear HTH
  go_wp2_with fail
  go_quiet (fail)
  go_wp2_with fail
  go_ret2
  exact ⟨rfl, _, rfl⟩
set_option maxRecDepth 100000 in
theorem rdend_ended (p : Nat) (w : World) (mt : ByteArray) (vb nx vf vd : Value) (rd cm ms need ends done z : Int) (m1 m2 : ByteArray) (hk : Blk w p 160 (rrC mt vb rd cm nx m1 m2 ms vf vd need ends done z)) (hd : z ≠ 0 ∨ (z = 0 ∧ done = 1)) :
    Calls Tryz.prog 61 #[.pointer (some ⟨p, 0, none⟩)] w fun e w' => e = .returned (.int .i64 z) ∧ w = w' := by
  have HTH := Lib.hid (there_any p w mt vb nx vf vd rd cm ms need ends done z m1 m2 hk)
  have c13 := hk.cell 13
  have c14 := hk.cell 14
  simp [rrC] at c13 c14
  clear hk
  rcases hd with hz | ⟨rfl, rfl⟩
  · have hzz : (z == 0) = false := beq_eq_false_iff_ne.2 hz
    have hzn : (z != 0) = true := by unfold bne; rw [hzz]; rfl
    go_enter Tryz.func61, Tryz.ntmps61
    go_wp2_with fail
    refine (HTH.out).mono ?_
    rintro e w1 ⟨rfl, rfl⟩
    clear HTH
    go_wp2_with fail
    go_ret
    exact ⟨rfl, rfl⟩
  · go_enter Tryz.func61, Tryz.ntmps61
    go_wp2_with fail
    refine (HTH.out).mono ?_
    rintro e w1 ⟨rfl, rfl⟩
    clear HTH
    go_wp2_with fail
    go_ret
    exact ⟨rfl, rfl⟩
set_option maxRecDepth 100000 in
theorem rdend_fails (p : Nat) (w : World) (mt : ByteArray) (vb nx vf vd : Value) (rd cm ms need : Int) (m1 m2 : ByteArray) (hk : Blk w p 160 (rrC mt vb rd cm nx m1 m2 ms vf vd need 0 0 0)) :
    Calls Tryz.prog 61 #[.pointer (some ⟨p, 0, none⟩)] w fun e w' => e = .returned (.int .i64 10) ∧ Keep (fun q => q = p) w w' ∧ RdBad w' p mt 10 := by
  have HTH := Lib.hid (there_any p w mt vb nx vf vd rd cm ms need 0 0 0 m1 m2 hk)
  have c12 := hk.cell 12
  have c13 := hk.cell 13
  have c14 := hk.cell 14
  have f14 := hk.frozen 14
  simp [rrC] at c12 c13 c14
  have HK := Lib.hid hk
  clear hk
  go_enter Tryz.func61, Tryz.ntmps61
  go_wp2_with fail
  refine (HTH.out).mono ?_
  rintro e w1 ⟨rfl, rfl⟩
  clear HTH
  go_wp2_with fail
  go_ret
  have h2 := HK.out.set_ 14 (.int .i64 10)
  exact ⟨rfl, Keep.setCell (p := ⟨p, 14, none⟩) (Keep.refl (fun q => q = p) w) rfl _, _, _, _, _, _, _, _, _, _, _, _, by simpa [rrC] using h2⟩
set_option maxRecDepth 100000 in
theorem rdend_ends (p : Nat) (w : World) (mt : ByteArray) (nx vf vd : Value) (A : Option Addr) (n c : Nat) (l : List UInt8) (rd cm ms need : Int) (m1 m2 : ByteArray) (hk : Blk w p 160 (rrC mt (.slice A n c) rd cm nx m1 m2 ms vf vd need 1 0 0)) (h : Lies w w.heap.size A n (Lib.byteCells l)) (hn : n ≤ 1000000) :
    Calls Tryz.prog 61 #[.pointer (some ⟨p, 0, none⟩)] w fun e w' => e = .returned (.int .i64 0) ∧ Keep (fun q => q = p) w w' ∧ ∃ v, Blk w' p 160 (rrC mt (.slice A n c) rd cm nx m1 m2 ms vf v need 1 1 0) ∧ RdL w' w.heap.size v l := by
  have HTH := Lib.hid (there_any p w mt (.slice A n c) nx vf vd rd cm ms need 1 0 0 m1 m2 hk)
  have HWH := Lib.hid (whole_any p w mt (.slice A n c) nx vf vd A n c l rd cm ms need 1 0 0 m1 m2 hk h hn)
  have c2 := hk.cell 2
  have c12 := hk.cell 12
  have c13 := hk.cell 13
  have c14 := hk.cell 14
  simp [rrC] at c2 c12 c13 c14
  clear hk h
  go_enter Tryz.func61, Tryz.ntmps61
  go_wp2_with fail
  refine (HTH.out).mono ?_
  rintro e w1 ⟨rfl, rfl⟩
  clear HTH
  go_wp2_with fail
  refine (HWH.out).mono ?_
  rintro e w1 ⟨rfl, hp, v, hk1, hr⟩
  have d14 := hk1.cell 14
  simp [rrC] at d14
  have HH := Lib.hid (And.intro hp (And.intro hk1 hr))
  clear hp hk1 hr HWH c2 c12 c13 c14
  go_wp2_with fail
  go_ret
  exact ⟨rfl, HH.out.1, v, HH.out.2.1, HH.out.2.2⟩
/-- End on any reader. -/
theorem rdend_stP (p : Nat) (w : World) (base : Nat) (mt : ByteArray) (st : RSt) (P : Nat → Prop) (hst : RdStP w base p mt P st) (hz : ∀ z, st = .bad z → z ≠ 0) (hL : ∀ L, st = .on L → L.length < 60000) (hbase : base ≤ w.heap.size) (hP : ∀ g, w.heap.size ≤ g → P g) (hp : P p) :
    Calls Tryz.prog 61 #[.pointer (some ⟨p, 0, none⟩)] w fun e w' => e = .returned (.int .i64 (endR mt st).2) ∧ Keep P w w' ∧ RdStP w' base p mt P (endR mt st).1 := by
  cases st with
  | bad z =>
    have hst' := hst
    obtain ⟨vb, rd, cm, nx, m1, m2, ms, vf, vd, need, ends, hk⟩ := hst
    refine (rdend_ended p w mt vb nx vf vd rd cm ms need ends 0 z m1 m2 hk (.inl (hz z rfl))).mono ?_
    rintro e w' ⟨rfl, rfl⟩
    exact ⟨rfl, Keep.refl _ _, hst'⟩
  | fin s f b k =>
    have hst' := hst
    obtain ⟨n, vb, cm, nx, m1, m2, vf, vd, need, ends, hk, _⟩ := hst
    refine (rdend_ended p w mt vb nx vf vd _ cm _ need ends 1 0 m1 m2 hk (.inr ⟨rfl, rfl⟩)).mono ?_
    rintro e w' ⟨rfl, rfl⟩
    exact ⟨rfl, Keep.refl _ _, hst'⟩
  | on L =>
    have hl := hL L rfl
    obtain ⟨vb, a, nx, m1, m2, ms, vf, vd, need, ends, ha, hk, hbuf, hne, hph, hF, _, hlook⟩ := hst
    have h0 : ends = 0 → lookA mt L = .wait → Calls Tryz.prog 61 #[.pointer (some ⟨p, 0, none⟩)] w fun e w' => e = .returned (.int .i64 (endR mt (.on L)).2) ∧ Keep P w w' ∧ RdStP w' base p mt P (endR mt (.on L)).1 := fun he hw => by
      subst he
      have hE : endR mt (.on L) = (.bad 10, 10) := by
        unfold endR
        simp only [hw]
      rw [hE]
      refine (rdend_fails p w mt vb nx vf vd _ _ ms need m1 m2 hk).mono ?_
      rintro e w' ⟨rfl, h2, h3⟩
      exact ⟨rfl, h2.mono (fun q e => e ▸ hp), h3⟩
    rcases hph with ⟨_, _, _, he, _⟩ | ⟨hs, _, f, hfd, hfx, hI, ⟨_, he, m, _⟩ | ⟨_, _, he, hz⟩ | ⟨hnx, hnd, he, hz⟩⟩
    · rcases hlook with h | ⟨h, _⟩
      · exact h0 he h
      · omega
    · rcases hlook with h | ⟨h, _⟩
      · exact h0 he h
      · omega
    · rcases hlook with h | ⟨h, _⟩
      · exact h0 he h
      · omega
    · have hlk := look_rest hI hl hz
      subst he
      obtain ⟨A, c, rfl, hc, hLi, _⟩ := hbuf.form
      have hE : endR mt (.on L) = (.fin ms f (L.drop a) false, 0) := by
        unfold endR
        simp only [hlk]
      rw [hE]
      refine (rdend_ends p w mt nx vf vd A (L.length - a) c (L.drop a) _ _ ms need m1 m2 hk hLi (by omega)).mono ?_
      rintro e w' ⟨rfl, h2, v, h3, h4⟩
      have hpl := hk.lt
      obtain ⟨A4, c4, rfl, hc4, hL4, hb4⟩ := h4
      refine ⟨rfl, h2.mono (fun q e => e ▸ hp), a, _, _, _, _, _, _, _, _, _, h3, hfd.keepX h2 (fun g hg => (hfx g hg).1), fun g hg => (hfx g hg).1, ⟨A4, c4, rfl, hc4, hL4, fun g hg => ⟨Nat.le_trans hbase (hb4 g hg).1, (hb4 g hg).2⟩⟩, fun g hg => ?_, .inr ⟨rfl, rfl⟩, FootP.mk hF.r (fun g hg => hP g (hb4 g hg).1)⟩
      have := (hb4 g hg).1
      omega
/-- Put on any reader. -/
theorem rdput_stP (p : Nat) (w : World) (base : Nat) (mt : ByteArray) (st : RSt) (b : List UInt8) (A : Option Addr) (n c : Nat) (P : Nat → Prop) (hst : RdStP w base p mt P st) (hz : ∀ z, st = .bad z → z ≠ 0) (hL : ∀ L, st = .on L → L.length + n < 60000)
    (h : Lies w w.heap.size A n (Lib.byteCells b)) (hA : 0 < n → ∀ g o, A = some ⟨g, o, none⟩ → g ≠ p) (hbase : base ≤ w.heap.size) (hm : MaxOk w) (hmg : maxG < base) (he : ErrOk w) (heg : errG < base) (hbp : base ≤ p) (hP : ∀ g, w.heap.size ≤ g → P g) (hp : P p) :
    Calls Tryz.prog 59 #[.pointer (some ⟨p, 0, none⟩), .slice A n c] w fun e w' => e = .returned (.tuple #[.int .i64 (putR mt st b).2.1, .int .i64 (putR mt st b).2.2]) ∧ Keep P w w' ∧ RdStP w' base p mt P (putR mt st b).1 := by
  cases st with
  | bad z =>
    refine (rdput_bad p w A n c mt z hst (hz z rfl)).mono ?_
    rintro e w' ⟨h1, q, rfl⟩
    exact ⟨h1, (Keep.refl _ w).drewN q, hst⟩
  | on L =>
    obtain ⟨vb, hon⟩ := hst
    have hon2 := hon.on
    obtain ⟨a, nx, m1, m2, ms, vf, vd, need, ends, _, _, _, _, _, hF, _⟩ := hon.on
    refine (rdput_onP p w base mt L b vb A n c P hP hon2 h hA (hL L rfl) hbase hm hmg he heg hbp).mono ?_
    rintro e w' ⟨h1, h2, h3⟩
    exact ⟨h1, h2.mono (fun q e => e.elim (fun e => e ▸ hp) (hF.l q)), h3⟩
  | fin s f x k =>
    obtain ⟨nn, hf⟩ := hst
    have hf' := hf
    obtain ⟨vb, cm, nx, m1, m2, vf, vd, need, ends, hk, _⟩ := hf
    refine (rdput_fin p w A n c mt vb nx vf vd _ cm _ need ends m1 m2 hk).mono ?_
    rintro e w' ⟨h1, q, rfl⟩
    exact ⟨h1, (Keep.refl _ w).drewN q, nn, hf'⟩
end Go.Proofs.YtonlfplloenfcaaGreatDoor
namespace Go.Proofs.YtonlfplloenfcaaGreatDoor

theorem look_start (mt : ByteArray) : lookA mt [] = .wait := lookA_short (headA_short (by decide +kernel))
def StB (N : Nat) (st : RSt) : Prop := (∀ L, st = .on L → L.length ≤ N) ∧ (∀ z, st = .bad z → z ≠ 0) ∧ ∀ s f x k, st = .fin s f x k → fsum f ≤ 100000 ∧ f.length ≤ 256 ∧ x.length ≤ 60000
theorem stB_start : StB 0 (.on []) := ⟨fun L e => (by injection e with e; subst e; exact Nat.le_refl _), fun z e => (by cases e), fun s f x k e => (by cases e)⟩
theorem stB_put {mt : ByteArray} {st : RSt} {b : List UInt8} {N : Nat} (h : StB N st) (hN : N + b.length < 60000) : StB (N + b.length) (putR mt st b).1 := by
  cases st with
  | bad z => exact ⟨fun L e => (by cases e), h.2.1, h.2.2⟩
  | fin s f x k => exact ⟨fun L e => (by cases e), fun z e => (by cases e), h.2.2⟩
  | on l =>
    have hl := h.1 l rfl
    refine ⟨fun L e => ?_, fun z e => ?_, fun s f x k e => fin_bounds e (by rw [List.length_append]; omega)⟩
    · cases hk : lookA mt (l ++ b) with
      | wait =>
        rw [putR_wait hk] at e
        injection e with e
        subst e
        rw [List.length_append]
        omega
      | opn n s f x =>
        rw [putR_opn hk] at e
        injection e with e
        subst e
        rw [List.length_append]
        omega
      | err z => rw [putR_err hk] at e; cases e
      | done n s f x k => rw [putR_done hk] at e; cases e
    · cases hk : lookA mt (l ++ b) with
      | wait => rw [putR_wait hk] at e; cases e
      | opn n s f x => rw [putR_opn hk] at e; cases e
      | err z2 =>
        rw [putR_err hk] at e
        injection e with e
        subst e
        exact err_ne hk
      | done n s f x k => rw [putR_done hk] at e; cases e
theorem endR_opn {mt : ByteArray} {l : List UInt8} {n : Nat} {s : Int} {f : List Fd} {x : List UInt8} (h : lookA mt l = .opn n s f x) : endR mt (.on l) = (.fin s f x false, 0) := by
  unfold endR
  simp only [h]
theorem endR_no {mt : ByteArray} {l : List UInt8} (h : ∀ n s f x, lookA mt l ≠ .opn n s f x) : endR mt (.on l) = (.bad 10, 10) := by
  unfold endR
  cases hk : lookA mt l with
  | opn n s f x => exact absurd hk (h n s f x)
  | wait => simp only [hk]
  | err z => simp only [hk]
  | done n s f x k => simp only [hk]
theorem opn_x {mt : ByteArray} {L : List UInt8} {n : Nat} {s : Int} {f : List Fd} {x : List UInt8} (h : lookA mt L = .opn n s f x) : x.length ≤ L.length := by
  unfold lookA at h
  split at h
  · cases h
  · cases h
  · unfold bodyA at h
    split at h
    · cases h
    · split at h
      · cases h
      · split at h
        · split at h <;> cases h
        · split at h
          · split at h <;> cases h
          · split at h
            · cases h
            · injection h with _ _ _ h
              subst h
              rw [List.length_drop]
              omega
theorem stB_end {mt : ByteArray} {st : RSt} {N : Nat} (h : StB N st) (hN : N < 60000) : StB N (endR mt st).1 := by
  cases st with
  | bad z => exact h
  | fin s f x k => exact h
  | on l =>
    have hl := h.1 l rfl
    by_cases ho : ∃ n s f x, lookA mt l = .opn n s f x
    · obtain ⟨n, s, f, x, ho⟩ := ho
      rw [endR_opn ho]
      refine ⟨fun L e => (by cases e), fun z e => (by cases e), fun s' f' x' k' e => ?_⟩
      injection e with e1 e2 e3 e4
      subst e2 e3
      have h1 := look_f.2 n s f x ho
      have h2 := opn_x ho
      omega
    · rw [endR_no (fun n s f x e => ho ⟨n, s, f, x, e⟩)]
      exact ⟨fun L e => (by cases e), fun z e => (by injection e with e; omega), fun s f x k e => (by cases e)⟩
end Go.Proofs.YtonlfplloenfcaaGreatDoor
namespace Go.Proofs.YtonlfplloenfcaaGreatDoor
open Go.RowKit

theorem st_startP {w : World} {base p : Nat} {mt : ByteArray} {P : Nat → Prop} (hk : Blk w p 160 (rrC mt (.slice none 0 0) 0 0 (nxHead p) ⟨#[]⟩ ⟨#[]⟩ 0 (.slice none 0 0) (.slice none 0 0) 0 0 0 0)) : RdStP w base p mt P (.on []) :=
  ⟨_, 0, nxHead p, _, _, 0, _, _, 0, 0, Nat.le_refl _, hk, .inl (World.ownsRow_nil _ _ _ _), fun g hg => (by cases hg), .inl ⟨rfl, rfl, rfl, rfl, headI_start⟩, FootP.mk (fun g e => (by cases e)) (fun g e => (by cases e)), fun _ => rfl, .inl (look_start mt)⟩
theorem there_nil (w : World) :
    Calls Tryz.prog 134 #[.pointer none] w fun e w' => e = .returned (.bool false) ∧ w = w' := by
  go_enter Tryz.func134, Tryz.ntmps134
  go_wp2_with fail
  go_ret
  exact ⟨rfl, rfl⟩
set_option maxRecDepth 100000 in
theorem rdput_nil (A : Option Addr) (n c : Nat) (w : World) :
    Calls Tryz.prog 59 #[.pointer none, .slice A n c] w fun e w' => e = .returned (.tuple #[.int .i64 0, .int .i64 2]) ∧ w = w' := by
  go_enter Tryz.func59, Tryz.ntmps59
  go_wp2_with fail
  refine (there_nil w).mono ?_
  rintro e w1 ⟨rfl, rfl⟩
  go_wp2_with fail
  go_ret2
  exact ⟨rfl, rfl⟩
set_option maxRecDepth 100000 in
theorem rdend_nil (w : World) :
    Calls Tryz.prog 61 #[.pointer none] w fun e w' => e = .returned (.int .i64 2) ∧ w = w' := by
  go_enter Tryz.func61, Tryz.ntmps61
  go_wp2_with fail
  refine (there_nil w).mono ?_
  rintro e w1 ⟨rfl, rfl⟩
  go_wp2_with fail
  go_ret
  exact ⟨rfl, rfl⟩
set_option maxRecDepth 100000 in
theorem rddone_nil (w : World) :
    Calls Tryz.prog 60 #[.pointer none] w fun e w' => e = .returned (.tuple #[.agg #[.string ⟨#[]⟩, .string ⟨#[]⟩, .int .i64 0, .slice none 0 0, .slice none 0 0], .bool false, .bool false]) ∧ Below w.heap.size w w' := by
  have hal : Below w.heap.size w (w.alloc (.cells #[.string ⟨#[]⟩, .string ⟨#[]⟩, .int .i64 0, .slice none 0 0, .slice none 0 0] 25)) := (Below.refl _ _).alloc (Nat.le_refl _) _
  have hg := Blk.new w 25 #[.string ⟨#[]⟩, .string ⟨#[]⟩, .int .i64 0, .slice none 0 0, .slice none 0 0]
  have HAL := Lib.hid hal
  have HG := Lib.hid hg
  clear hal hg
  go_enter Tryz.func60, Tryz.ntmps60
  go_wp2_with fail
  refine (there_nil _).mono ?_
  rintro e w1 ⟨rfl, rfl⟩
  go_wp2_with fail
  refine bodyPost_ret (results_row_tmp2 rfl _ _ w.heap.size 25 _ (0, 0) _ rfl HG.out Tryz.underlying25 rfl infoM) rfl ?_
  exact ⟨rfl, HAL.out⟩
/-- Done on any reader: what it tells, in rows of the call's own. -/
theorem rddone_own (mt : ByteArray) (w : World) (base p : Nat) (st : RSt) (hst : RdSt w base p mt st) (hbd : ∀ s f x k, st = .fin s f x k → fsum f ≤ 100000 ∧ f.length ≤ 256 ∧ x.length ≤ 60000) (hm : MaxOk w) (hmg : maxG < w.heap.size) :
    ∃ s f x k d, Calls Tryz.prog 60 #[.pointer (some ⟨p, 0, none⟩)] w (fun e w' => ∃ A1 A2 c1 c2, e = .returned (.tuple #[.agg #[.string ⟨#[]⟩, .string ⟨#[]⟩, .int .i64 s, .slice A1 (List.length f) (List.length f), .slice A2 (List.length x) (List.length x)], .bool k, .bool d]) ∧ Below w.heap.size w w' ∧ GotM w' st A1 A2 s f x k d ∧
      w'.ownsRow w.heap.size 63 2 (.slice A1 f.length c1) f.length (fcells f) ∧ w'.ownsRow w.heap.size 5 1 (.slice A2 x.length c2) x.length (Lib.byteCells x)) := by
  have hno : ∀ (vb nx vf vd : Value) (rd cm ms need ends e0 : Int) (m1 m2 : ByteArray), Blk w p 160 (rrC mt vb rd cm nx m1 m2 ms vf vd need ends 0 e0) → (∀ s f x k, st ≠ .fin s f x k) → ∃ s f x k d, Calls Tryz.prog 60 #[.pointer (some ⟨p, 0, none⟩)] w (fun e w' => ∃ A1 A2 c1 c2, e = .returned (.tuple #[.agg #[.string ⟨#[]⟩, .string ⟨#[]⟩, .int .i64 s, .slice A1 (List.length f) (List.length f), .slice A2 (List.length x) (List.length x)], .bool k, .bool d]) ∧ Below w.heap.size w w' ∧ GotM w' st A1 A2 s f x k d ∧
      w'.ownsRow w.heap.size 63 2 (.slice A1 f.length c1) f.length (fcells f) ∧ w'.ownsRow w.heap.size 5 1 (.slice A2 x.length c2) x.length (Lib.byteCells x)) := fun vb nx vf vd rd cm ms need ends e0 m1 m2 hk hx =>
    ⟨0, [], [], false, false, (rddone_not p w mt vb nx vf vd rd cm ms need ends e0 m1 m2 hk).mono fun e w' ⟨h1, h2⟩ => ⟨none, none, 0, 0, h1, h2, ⟨⟨rfl, fun h => absurd h (by simp)⟩, ⟨rfl, fun h => absurd h (by simp)⟩, by simp, by simp, Or.inr ⟨rfl, rfl, rfl, rfl, rfl, hx⟩⟩, World.ownsRow_nil _ _ _ _, World.ownsRow_nil _ _ _ _⟩⟩
  cases st with
  | on L =>
    obtain ⟨vb, a, nx, m1, m2, ms, vf, vd, need, ends, _, hk, _⟩ := hst
    exact hno _ _ _ _ _ _ _ _ _ _ _ _ hk (fun s f x k e => by cases e)
  | bad z =>
    obtain ⟨vb, rd, cm, nx, m1, m2, ms, vf, vd, need, ends, hk⟩ := hst
    exact hno _ _ _ _ _ _ _ _ _ _ _ _ hk (fun s f x k e => by cases e)
  | fin s f x k =>
    obtain ⟨nn, hf⟩ := hst
    obtain ⟨b1, b2, b3⟩ := hbd s f x k rfl
    refine ⟨s, f, x, k, true, (rddone_fin p w base mt nn s f x k hf b1 b2 b3 hm hmg).mono ?_⟩
    rintro e w' ⟨A1, A2, c1, c2, h1, h2, h3, h4⟩
    exact ⟨A1, A2, c1, c2, h1, h2, ⟨fread_own rfl h3, Lies.of_own h4, b2, b3, Or.inl ⟨rfl, rfl⟩⟩, h3, h4⟩
end Go.Proofs.YtonlfplloenfcaaGreatDoor
