/-
  bodies: a reader's chunk.
  bodies.Chunked: a body by its chunks.
  BodiesChunks: the walk.
-/
import Derived.Test.YtonlfplloenfcaaGreatDoorBSizeEtc
import Derived.Test.YtonlfplloenfcaaGreatDoorEndSpec
import Derived.Test.YtonlfplloenfcaaGreatDoorWord
import Derived.BigRegion
import Derived.Deep.RegionLaw
import Derived.Deep.Cut
import Derived.Test.YtonlfplloenfcaaGreatDoorRefRequestEtc
import Derived.Test.YtonlfplloenfcaaGreatDoorApart
import Derived.Test.YtonlfplloenfcaaGreatDoorGrowByteEtc
import Derived.Test.YtonlfplloenfcaaGreatDoorBytesEtc
namespace Go.Proofs.YtonlfplloenfcaaGreatDoor
open Go.RowKit Go.Shelf
attribute [local go_sem] Oper.semAt_some

theorem bcells_one (l : List UInt8) : ∀ u ∈ Lib.byteCells l, u.oneCell' = true := by
  intro u hu
  obtain ⟨x, _, rfl⟩ := List.mem_map.1 hu
  rfl
/-- The reader's block and its body, alone. -/
structure RB (w W : World) (A : Option Addr) (n c k : Nat) (body : List UInt8) (now : Nat) (left : Nat) (vb : Value) : Prop where
  blk : Blk W w.heap.size 133 (rdC A n c k vb left now 0 false)
  own : W.ownsRow w.heap.size 5 1 vb body.length (Lib.byteCells body)
  bel : Below w.heap.size w W
theorem RB.step {w W W1 : World} {A : Option Addr} {n c k now left : Nat} {body : List UInt8} {vb : Value} (h : RB w W A n c k body now left vb) (hB : Below W.heap.size W W1) : RB w W1 A n c k body now left vb :=
  ⟨h.blk.below hB h.blk.lt, own_below h.own hB, h.bel.trans (hB.mono h.bel.size)⟩
theorem RB.set {w W : World} {A : Option Addr} {n c k k' now left left' : Nat} {body : List UInt8} {vb : Value} (h : RB w W A n c k body now left vb) (i : Nat) (v : Value) (hcs : (rdC A n c k vb left now 0 false).setIfInBounds i v = rdC A n c k' vb left' now 0 false) :
    RB w (W.setCell ⟨w.heap.size, i, none⟩ v) A n c k' body now left' vb :=
  ⟨by rw [← hcs]; exact h.blk.set_ i v, own_tys h.own ((Tys.refl [133] W).setCell (p := ⟨w.heap.size, i, none⟩) h.blk (by simp) v) (by decide), h.bel.setCell (p := ⟨w.heap.size, i, none⟩) (Nat.le_refl _) v⟩
theorem RB.ri {w W : World} {A : Option Addr} {n c k now left all : Nat} {l body : List UInt8} {ans : ChunkA} {st : St} {vb : Value} (h : RB w W A n c k body now left vb) (ht : Tells l ans st k body all now 0 false) (hk : k ≤ n) (hs : st = .size ∨ st = .chunk → left + all = 65536) (hlen : body.length ≤ k) : RI w W A n c l ans st k body all now 0 false left vb :=
  ⟨h.blk, h.own, ht, hk, hs, h.bel, hlen⟩
set_option maxRecDepth 100000 in
set_option maxHeartbeats 4000000 in
theorem bchunk_any (w W : World) (A : Option Addr) (n c k all now left : Nat) (l body : List UInt8) (ans : ChunkA) (z : Int) (d : Bool) (vb : Value) (h : RI w W A n c l ans .chunk k body all now z d left vb) (hl : Lies w w.heap.size A n (Lib.byteCells l)) (hc : n ≤ c) (hn : n ≤ 2000000) :
    Calls Tryz.prog 180 #[.pointer (some ⟨w.heap.size, 0, none⟩)] W (StepPost w A n c l ans (St.rank n .chunk k)) := by
  obtain ⟨rfl, rfl, hnow1, hnow2, _⟩ := id h.tells
  have hll : l.length = n := by simpa [Lib.byteCells] using hl.1
  have hsum := h.sum (.inr rfl)
  have hk := h.kle
  have hlen := h.len
  have HR := Lib.hid h
  have HL := Lib.hid hl
  have HLL := Lib.hid hll
  have c0 := h.blk.cell 0
  have c1 := h.blk.cell 1
  have c4 := h.blk.cell 4
  simp [rdC] at c0 c1 c4
  clear h hl hll
  obtain ⟨x, hx⟩ : ∃ x : Nat, min now (n - k) = x := ⟨_, rfl⟩
  have hx1 : x ≤ now := by omega
  have hx2 : x ≤ n - k := by omega
  have hxv : min (now : Int) ((n : Int) - (k : Int)) = (x : Int) := by omega
  have HXV := Lib.hid hxv
  clear hxv
  go_enter Tryz.func180, Tryz.ntmps180
  go_wp2_with fail
  go_quiet (fail)
  rw [HXV.out]
  clear c0 c1 c4
  have hB0 : Below W.heap.size W (W.drewN nq) := below_drewN (Below.refl _ _) nq
  have R1 := Lib.hid (HR.out.step hB0)
  generalize W.drewN nq = W1 at *
  clear hB0
  have HT := Lib.hid HR.out.tells
  clear HR
  obtain ⟨P, hP⟩ : ∃ P, (l.drop k).take now = P := ⟨_, rfl⟩
  have hPx : P = (l.drop k).take x := by
    rw [← hP, ← hx]
    rcases Nat.le_total now (n - k) with h1 | h1
    · rw [Nat.min_eq_left h1]
    · rw [Nat.min_eq_right h1, List.take_of_length_le (by rw [List.length_drop, HLL.out]; exact h1), List.take_of_length_le (by rw [List.length_drop, HLL.out]; exact Nat.le_refl _)]
  have hPl : P.length = x := by rw [hPx, List.length_take, List.length_drop, HLL.out]; omega
  have hrd : Reads W1 w.heap.size 1 (if c = k then A else Option.map (fun a => a.add k) A) x (Lib.byteCells P) := by
    have h1 := ((HL.out.below R1.out.bel).reads).cut (k := k) (cap := c) hk hc
    rw [Nat.mul_one] at h1
    have e : (Lib.byteCells l).drop k = Lib.byteCells (l.drop k) := by unfold Lib.byteCells; rw [List.map_drop]
    rw [e] at h1
    refine ⟨by simp [Lib.byteCells, hPl], fun h0 => ?_⟩
    obtain ⟨ad, e1, hb1, hc1⟩ := h1.2 (by omega)
    refine ⟨ad, e1, hb1, fun j u hu => hc1 j u ?_⟩
    rw [hPx] at hu
    unfold Lib.byteCells at hu ⊢
    rw [List.map_take, List.getElem?_take] at hu
    split at hu
    · exact hu
    · cases hu
  obtain ⟨A1, hA1⟩ : ∃ A1, (if c = k then A else Option.map (fun a => a.add k) A) = A1 := ⟨_, rfl⟩
  rw [hA1] at hrd
  have HRD := Lib.hid hrd
  have HP := Lib.hid hP
  have HPL := Lib.hid hPl
  clear hrd hP hPx hPl
  obtain ⟨i0, hi, hz0, hz1, hz2⟩ := info_parts infoU
  have hfin : ∀ (v2 : Value) (w2 : World), w2.ownsRow w.heap.size 5 1 v2 (body.length + x) (Lib.byteCells body ++ Lib.byteCells P) → (W1.drew).grownBy w2 vb.ownBlock →
      (Blk w2 w.heap.size 133 (rdC A n c k vb left now 0 false) ∧ Below w.heap.size w w2) := by
    intro v2 w2 h2 hg2
    have hb1 := R1.out.blk
    exact ⟨(hb1.drew).grown hg2 (Ne.symm (own_blk_ne R1.out.own hb1 (by decide))), (R1.out.bel.drew).grown hg2 R1.out.bel.size (fun j hj => (R1.out.own.lt j hj).1)⟩
  have HF := Lib.hid hfin
  clear hfin
  have c0 := R1.out.blk.cell 0
  have c1 := R1.out.blk.cell 1
  have c2 := R1.out.blk.cell 2
  simp [rdC] at c0 c1 c2
  have hw : IntKind.i64.wrap ((k : Int) + (x : Int)) = (k : Int) + (x : Int) := Go.IntWalk.i64_in _ ⟨by omega, by omega⟩
  have hkx0 : 0 ≤ (k : Int) + (x : Int) := by omega
  have hkx : (k : Int) + (x : Int) ≤ (c : Int) := by omega
  have hkt : ((k : Int) + (x : Int)).toNat = k + x := by omega
  go_wp2_with fail
  go_cut [] from 6 (fun wx => ∃ vb2, Hid (RB w wx A n c k (body ++ P) now left vb2))
  case first =>
    go_region_law ((refine step_append_any _ rfl _ _ 23 rfl w.heap.size 5 i0 _ 1 1 Tryz.underlying23 hi hz0 hz1 hz2 rfl (by decide) vb body.length (Lib.byteCells body) rfl R1.out.own w.heap.size _ _ _ (Lib.byteCells P) rfl HRD.out (bcells_one P) (by unfold maxLen; omega) (by omega) R1.out.bel.size ?_; intro v2 w2 hown2 hg2 _; have hK := HF.out v2 w2 hown2 hg2; have HK := Lib.hid hK; have cc := hK.1.cell 2; have ff := hK.1.frozen 2; simp [rdC] at cc; clear hK; have HW := Lib.hid hown2; obtain ⟨A2, cp2, rfl⟩ := own_form hown2; clear hown2 hg2))
    all_goals
      go_wp2_with fail
      go_meet
      have rb2 : RB w (w2.setCell ⟨w.heap.size, 2, none⟩ (.slice A2 (body.length + x) cp2)) A n c k (body ++ P) now left (.slice A2 (body.length + x) cp2) := by
        refine ⟨HK.out.1.set_ 2 _, ?_, HK.out.2.setCell (p := ⟨w.heap.size, 2, none⟩) (Nat.le_refl _) _⟩
        have h1 := own_tys HW.out ((Tys.refl [133] w2).setCell (p := ⟨w.heap.size, 2, none⟩) HK.out.1 (by simp) (.slice A2 (body.length + x) cp2)) (by decide)
        have e1 : Lib.byteCells (body ++ P) = Lib.byteCells body ++ Lib.byteCells P := by unfold Lib.byteCells; rw [List.map_append]
        rw [e1, List.length_append, HPL.out]
        exact h1
      exact ⟨_, rb2⟩
  case rest =>
  obtain ⟨vb2, RB2⟩ := hcut
  clear HF R1 HRD c0 c1 c2 hkx0 hkx hkt hA1
  have RB3 : Hid (RB w (wc.setCell ⟨w.heap.size, 1, none⟩ (.int .i64 ((k : Int) + (x : Int)))) A n c (k + x) (body ++ P) now left vb2) := RB2.out.set 1 _ (by simp [rdC])
  have c1 := RB2.out.blk.cell 1
  simp [rdC] at c1
  have f1 := RB2.out.blk.frozen 1
  go_wp2_with fail
  generalize wc.setCell ⟨w.heap.size, 1, none⟩ (.int .i64 ((k : Int) + (x : Int))) = W3 at *
  clear RB2 c1 f1 hw
  have c3 := RB3.out.blk.cell 3
  have c4 := RB3.out.blk.cell 4
  simp [rdC] at c3 c4
  have f3 := RB3.out.blk.frozen 3
  have RB4 : Hid (RB w ((W3.drew).setCell ⟨w.heap.size, 3, none⟩ (.int .i64 ((left : Int) - (now : Int)))) A n c (k + x) (body ++ P) now (left - now) vb2) := by
    have h1 : RB w W3.drew A n c (k + x) (body ++ P) now left vb2 := ⟨RB3.out.blk, RB3.out.own, RB3.out.bel.drew⟩
    have e1 : (left : Int) - (now : Int) = ((left - now : Nat) : Int) := by omega
    rw [e1]
    exact h1.set 3 _ rfl
  have hwl : IntKind.i64.wrap ((left : Int) - (now : Int)) = (left : Int) - (now : Int) := Go.IntWalk.i64_in ((left : Int) - (now : Int)) ⟨by omega, by omega⟩
  go_cut [] from 6 (fun wx => Hid (RB w wx A n c (k + x) (body ++ P) now (left - now) vb2))
  case first =>
    go_region
    all_goals
      go_wp2_with fail
      go_meet
      exact RB4
  case rest =>
  clear RB4 RB3 c3 c4 f3 hwl
  have RB5 := Lib.hid hcut
  clear hcut
  have HST : Hid (∀ st z z2 k2 all2 W, St.rank n st k2 < St.rank n .chunk k → z2 = (left - now) → RB w W A n c k2 (body ++ P) now z2 vb2 → Tells l ans st k2 (body ++ P) all2 now z false → z = 0 → k2 ≤ n → k + x ≤ k2 → (st = .size ∨ st = .chunk → z2 + all2 = 65536) → StepPost w A n c l ans (St.rank n .chunk k) (.returned (stV w.heap.size st)) W) := fun st z z2 k2 all2 W hr hz2 hrb ht hz hk2 hq2 hs => by
    subst hz
    exact ⟨st, k2, body ++ P, all2, now, 0, false, z2, vb2, rfl, hrb.ri ht hk2 hs (by rw [List.length_append, HPL.out]; omega), hr⟩
  have c4 := RB5.out.blk.cell 4
  simp [rdC] at c4
  have RB4' := Lib.hid c4
  have hdd : (l.drop k).drop now = l.drop (k + now) := by rw [List.drop_drop]
  by_cases hxn : x < now
  · have d1 : decide ((x : Int) < (now : Int)) = true := decide_eq_true (by omega)
    have he : endA ((l.drop k).drop now) = .more := by rw [hdd]; exact end_out (by rw [HLL.out]; omega)
    have ht := chunk_more HT.out he (k + x) all
    rw [HP.out] at ht
    have HP2 := Lib.hid (HST.out .stop 0 (left - now) (k + x) all _ (by simp [St.rank]; omega) rfl RB5.out ht rfl (by omega) (Nat.le_refl _) stop_sum)
    clear he ht hdd
    go_wp2_with fail
    go_ret
    exact HP2.out
  have hxe : x = now := by omega
  subst hxe
  have d1 : decide ((x : Int) < (x : Int)) = false := decide_eq_false (by omega)
  obtain ⟨q, hq⟩ : ∃ q, k + x = q := ⟨_, rfl⟩
  rw [hq] at RB5 hdd
  have hqn : q ≤ n := by omega
  obtain ⟨body2, hb2⟩ : ∃ body2, body ++ P = body2 := ⟨_, rfl⟩
  have HBL : Hid (body2.length ≤ q) := by rw [← hb2]; show _ ≤ _; rw [List.length_append, HPL.out]; omega
  rw [hb2] at RB5 HST
  have HMORE : Hid (endA (l.drop q) = .more → ∀ k2 W, q ≤ k2 → k2 ≤ n → RB w W A n c k2 body2 x (left - x) vb2 → StepPost w A n c l ans (St.rank n .chunk k) (.returned .nilFunc) W) := fun he k2 W h1 h2 h3 => by
    have ht := chunk_more HT.out (by rw [hdd]; exact he) k2 all
    rw [HP.out, hb2] at ht
    exact HST.out .stop 0 (left - x) k2 all W (by simp [St.rank]; omega) rfl h3 ht rfl h2 (by omega) stop_sum
  have HBAD : Hid (endA (l.drop q) = .bad → ∀ k2 W, q ≤ k2 → k2 ≤ n → RB w W A n c k2 body2 x (left - x) vb2 → StepPost w A n c l ans (St.rank n .chunk k) (.returned .nilFunc) (W.setCell ⟨w.heap.size, 5, none⟩ (.int .i64 9))) := fun he k2 W h1 h2 h3 =>
    ⟨.stop, k2, body2, all, x, 9, false, left - x, vb2, rfl, ⟨h3.blk.set_ 5 _, own_tys h3.own ((Tys.refl [133] W).setCell (p := ⟨w.heap.size, 5, none⟩) h3.blk (by simp) _) (by decide), chunk_bad HT.out (by rw [hdd]; exact he) _ _ _, h2, stop_sum, h3.bel.setCell (p := ⟨w.heap.size, 5, none⟩) (Nat.le_refl _) _, by have := HBL.out; omega⟩, by simp [St.rank]; omega⟩
  have HNEXT : Hid (endA (l.drop q) = .next (l.drop (q + 2)) → q + 2 ≤ n → ∀ W, RB w W A n c (q + 2) body2 x (left - x) vb2 → StepPost w A n c l ans (St.rank n .chunk k) (.returned (stV w.heap.size .size)) W) := fun he h2 W h3 => by
    have ht := chunk_next HT.out (show endA ((l.drop k).drop x) = .next (l.drop (q + 2)) by rw [hdd]; exact he)
    rw [HP.out, hb2, hq] at ht
    exact ⟨.size, q + 2, body2, all + x, x, 0, false, left - x, vb2, rfl, h3.ri ht h2 (fun _ => by omega) (by have := HBL.out; omega), by simp [St.rank]; omega⟩
  clear hdd HST HT c4
  have kB := Blk.new wc 5 #[.int .u8 13, .int .u8 10]
  have hcv := run_same_conv Tryz.underlying23 Tryz.underlying5 kB 2 2
  have hsz : (#[.int .u8 13, .int .u8 10] : Array Value).size = 2 := rfl
  rw [hsz] at hcv
  have hgB : w.heap.size < wc.heap.size := RB5.out.blk.lt
  have hbw : Below wc.heap.size wc (frozenW (wc.alloc (.cells #[.int .u8 13, .int .u8 10] 5)) wc.heap.size 2) := frozenW_below ((Below.refl _ _).alloc (Nat.le_refl _) _) (Nat.le_refl _) _
  have RB7 := Lib.hid (RB5.out.step hbw)
  have HC7 : Hid (∀ j, (frozenW (wc.alloc (.cells #[.int .u8 13, .int .u8 10] 5)) wc.heap.size 2).cell? ⟨wc.heap.size, j, none⟩ = (#[.int .u8 13, .int .u8 10] : Array Value)[j]?) := fun j => cell_of_row _ _ _ _ _ _ (frozenW_heap kB)
  have HZ7 : Hid (wc.heap.size < (frozenW (wc.alloc (.cells #[.int .u8 13, .int .u8 10] 5)) wc.heap.size 2).heap.size) := by simp [frozenW, World.freeze, Hid]
  clear hsz hbw kB RB5
  have c4 := RB4'.out
  clear RB4'
  go_wp2_with fail
  generalize frozenW (wc.alloc (.cells #[.int .u8 13, .int .u8 10] 5)) wc.heap.size 2 = W7 at *
  obtain ⟨gB, hgb⟩ : ∃ gB, wc.heap.size = gB := ⟨_, rfl⟩
  rw [hgb] at HC7 HZ7 hgB ⊢
  clear hcv hgb c4 d1
  go_loopw [72] (fun v wr => ∃ i qi : Nat, i ≤ 2 ∧ v = .int .i64 (i : Int) ∧ q + i = qi ∧ qi ≤ n ∧ Hid (∀ j, j < i → l[q + j]? = some (endB j)) ∧ Hid (RB w wr A n c qi body2 x (left - x) vb2) ∧ Hid (∀ j, wr.cell? ⟨gB, j, none⟩ = (#[.int .u8 13, .int .u8 10] : Array Value)[j]?)) (fun v _ => 2 - (intOf v).toNat)
  case atStart => exact ⟨0, q, by omega, rfl, rfl, hqn, fun j hj => by omega, RB7, HC7⟩
  case round =>
    obtain ⟨i, qi, hi2, rfl, hqi, hqin, hmt, hrb, hcb⟩ := hrel
    clear RB7 HC7 HZ7
    by_cases hi : i < 2
    · have cB : wr.cell? ⟨gB, i, none⟩ = some (.int .u8 ((endB i).toNat : Int)) := by
        rw [hcb.out i]
        rcases (show i = 0 ∨ i = 1 by omega) with rfl | rfl <;> rfl
      have c0 := hrb.out.blk.cell 0
      have c1 := hrb.out.blk.cell 1
      simp [rdC] at c0 c1
      cases d2 : ((qi : Int) == (n : Int)) with
      | true =>
        have hqe : qi = n := by have := beq_iff_eq.1 d2; omega
        have he := end_more hi (by rw [HLL.out]; omega) hmt.out
        have HP2 := Lib.hid (HMORE.out he qi)
        have RBq := Lib.hid (fun m => (hrb.out.step (below_drewN (Below.refl _ wr) m)))
        clear HMORE HBAD HNEXT he
        go_wp2_with fail
        go_quiet (fail)
        go_wp2_with fail
        go_ret
        exact HP2.out _ (by omega) (by omega) (RBq.out _)
      | false =>
        have hqlt : qi < n := by
          have h1 : (qi : Int) ≠ (n : Int) := beq_eq_false_iff_ne.1 d2
          omega
        obtain ⟨b, off, rfl, hbb, hcc⟩ := HL.out.2 (by omega)
        obtain ⟨x0, hx0⟩ : ∃ x0, l[qi]? = some x0 := ⟨_, List.getElem?_eq_getElem (by rw [HLL.out]; exact hqlt)⟩
        have hcx := (hrb.out.bel.cell (p := ⟨b, off + qi, none⟩) hbb).trans (hcc qi (.int .u8 (x0.toNat : Int)) (by
          unfold Lib.byteCells
          rw [List.getElem?_map, hx0]
          rfl))
        have f1 := hrb.out.blk.frozen 1
        have HRBD := Lib.hid (fun (m : Nat) => hrb.out.step (below_drewN (Below.refl _ wr) m))
        have HFF := Lib.hid (fun (m : Nat) => fails_any w.heap.size 9 _ (wr.drewN m) (HRBD.out m).blk rfl)
        cases d3 : ((x0.toNat : Int) != ((endB i).toNat : Int)) with
        | true =>
          have hne : x0 ≠ endB i := fun e => by rw [e] at d3; simp at d3
          have HP2 := Lib.hid (HBAD.out (end_bad hi (by rw [hqi]; exact hx0) hne hmt.out) qi)
          clear HMORE HBAD HNEXT hne hcc
          go_wp2_with fail
          go_quiet (fail)
          go_wp2_with fail
          go_quiet (fail)
          go_wp2_with fail
          refine (HFF.out _).mono ?_
          rintro e w9 ⟨rfl, rfl⟩
          go_wp2_with fail
          go_ret
          exact HP2.out _ (by omega) (by omega) (HRBD.out _)
        | false =>
          have heq : x0 = endB i := by
            have h1 : (x0.toNat : Int) = ((endB i).toNat : Int) := by simpa using d3
            exact UInt8.toNat_inj.1 (by omega)
          have hmt2 : Hid (∀ j, j < i + 1 → l[q + j]? = some (endB j)) := fun j hj => by
            rcases Nat.lt_or_ge j i with h | h
            · exact hmt.out j h
            · obtain rfl : j = i := by omega
              rw [hqi, hx0, heq]
          have HRB2 : Hid (∀ m, RB w ((wr.drewN m).setCell ⟨w.heap.size, 1, none⟩ (.int .i64 ((qi : Int) + 1))) (some ⟨b, off, none⟩) n c (qi + 1) body2 x (left - x) vb2) := fun m =>
            (HRBD.out m).set 1 _ (by simp [rdC])
          have HCB2 : Hid (∀ m v j, ((wr.drewN m).setCell ⟨w.heap.size, 1, none⟩ v).cell? ⟨gB, j, none⟩ = (#[.int .u8 13, .int .u8 10] : Array Value)[j]?) := fun m v j =>
            (World.cell?_of_block (Below.heap_setCell (wr.drewN m) ⟨w.heap.size, 1, none⟩ v gB (show gB ≠ w.heap.size by omega))).trans (hcb.out j)
          clear HMORE HBAD HNEXT hcc hx0 heq hmt
          go_wp2_with fail
          go_quiet (fail)
          go_wp2_with fail
          go_quiet (fail)
          go_wp2_with fail
          go_roundw
          case rel => exact ⟨i + 1, qi + 1, by omega, by go_num, by omega, by omega, hmt2, HRB2.out _, fun j => HCB2.out _ _ j⟩
          case measure => simp [intOf]; omega
    · obtain rfl : i = 2 := by omega
      have HP2 := Lib.hid (HNEXT.out (end_next hmt.out) (by omega) wr (by rw [hqi]; exact hrb.out))
      clear HMORE HBAD HNEXT hmt
      go_wp2_with fail
      go_ret
      exact HP2.out
end Go.Proofs.YtonlfplloenfcaaGreatDoor
namespace Go.Proofs.YtonlfplloenfcaaGreatDoor
open Go.RowKit Go.Shelf

theorem eqin_func (d : Nat) (f : Fn) (r c : Array Value) (w : World) : (Op.equalIn (d + 1) 135 (.func f r c) .nilFunc).run Tryz.prog w = .ok false w := by
  simp [Op.equalIn, run_underlying Tryz.underlying135]
theorem eqin_nil (d : Nat) (w : World) : (Op.equalIn (d + 1) 135 .nilFunc .nilFunc).run Tryz.prog w = .ok true w := by
  simp [Op.equalIn, run_underlying Tryz.underlying135]
theorem eq_func (f : Fn) (r c : Array Value) (w : World) : (Op.equal 135 (.func f r c) .nilFunc).run Tryz.prog w = .ok false w := eqin_func 9999 f r c w
theorem eq_nilf (w : World) : (Op.equal 135 .nilFunc .nilFunc).run Tryz.prog w = .ok true w := eqin_nil 9999 w
theorem neq_func (f : Fn) (r c : Array Value) (w : World) : (binOp .neq 135 (.func f r c) .nilFunc).run Tryz.prog w = .ok (.bool true) w := by
  simp only [binOp]
  simp [eq_func, Result.andThen]
theorem neq_nilf (w : World) : (binOp .neq 135 .nilFunc .nilFunc).run Tryz.prog w = .ok (.bool false) w := by
  simp only [binOp]
  simp [eq_nilf, Result.andThen]
/-- How much is still to be done. -/
def rankV (n g : Nat) (v : Value) (W : World) : Nat := match v with
  | .nilFunc => n - atOf g W
  | _ => n - atOf g W + 1
theorem rankV_eq {w W : World} {A : Option Addr} {n c k all now left : Nat} {l body : List UInt8} {ans : ChunkA} {st : St} {e : Int} {d : Bool} {vb : Value} (h : RI w W A n c l ans st k body all now e d left vb) : rankV n w.heap.size (stV w.heap.size st) W = St.rank n st k := by
  unfold rankV
  rw [atOf_eq h]
  cases st <;> rfl
theorem stop_end {l : List UInt8} {k all now : Nat} {body : List UInt8} {z : Int} {d : Bool} (h : Tells l (chunkA l) .stop k body all now z d) : (z ≠ 0 ∧ d = false ∧ chunkA l = .err z) ∨ (z = 0 ∧ d = true ∧ chunkA l = .done body (l.drop k)) ∨ (z = 0 ∧ d = false ∧ chunkA l = .more body) := by
  rcases h with ⟨h1, h2, h3⟩ | h | h
  · exact .inl ⟨by rcases h1 with rfl | rfl <;> decide, h2, h3⟩
  · exact .inr (.inl h)
  · exact .inr (.inr h)

set_option maxRecDepth 100000 in
set_option maxHeartbeats 4000000 in
theorem bchunked_any (A : Option Addr) (n c : Nat) (l : List UInt8) (w : World) (h : Lies w w.heap.size A n (Lib.byteCells l)) (hc : n ≤ c) (hn : n ≤ 2000000) (hm : MaxOk w) (hmg : maxG < w.heap.size) :
    Calls Tryz.prog 36 #[.slice A n c] w (ChunkPost l w) := by
  have hll : l.length = n := by simpa [Lib.byteCells] using h.1
  have hb1 : Below w.heap.size w (w.alloc (.cells #[.slice A n c, .int .i64 0, .slice none 0 0, .int .i64 65536, .int .i64 0, .int .i64 0, .bool false] 133)) := (Below.refl _ _).alloc (Nat.le_refl _) _
  have hri : RI w (w.alloc (.cells #[.slice A n c, .int .i64 0, .slice none 0 0, .int .i64 65536, .int .i64 0, .int .i64 0, .bool false] 133)) A n c l (chunkA l) .size 0 [] 0 0 0 false 65536 (.slice none 0 0) :=
    ⟨Blk.new w _ _, World.ownsRow_nil _ _ _ _, tells_start l, Nat.zero_le _, fun _ => rfl, hb1, Nat.le_refl _⟩
  have HL := Lib.hid (fun (W : World) (hb : Below w.heap.size w W) => h.below hb)
  have HSIZE := Lib.hid (fun (W : World) (k all now left : Nat) (body : List UInt8) (z : Int) (d : Bool) (vb : Value) (hr : RI w W A n c l (chunkA l) .size k body all now z d left vb) => bsize_any w W A n c k all now left l body (chunkA l) z d vb hr (h.below hr.bel) hc hn hm hmg)
  have HFIELDS := Lib.hid (fun (W : World) (k all now left : Nat) (body : List UInt8) (z : Int) (d : Bool) (vb : Value) (hr : RI w W A n c l (chunkA l) .fields k body all now z d left vb) => bfields_any w W A n c k all now left l body (chunkA l) z d vb hr (h.below hr.bel) hc hn hm hmg)
  have HCHUNK := Lib.hid (fun (W : World) (k all now left : Nat) (body : List UInt8) (z : Int) (d : Bool) (vb : Value) (hr : RI w W A n c l (chunkA l) .chunk k body all now z d left vb) => bchunk_any w W A n c k all now left l body (chunkA l) z d vb hr h hc hn)
  have HR0 := Lib.hid (bsize_any w _ A n c 0 0 0 65536 l [] (chunkA l) 0 false _ hri (h.below hb1) hc hn hm hmg)
  have HLL := Lib.hid hll
  clear h hm hri hb1 hll
  go_enter Tryz.func36, Tryz.ntmps36
  go_wp2_with fail
  refine (HR0.out).mono ?_
  rintro e w1 ⟨st, k, body, all, now, z, d, left, vb, rfl, hri, hrk⟩
  have HRI := Lib.hid hri
  obtain ⟨v0, hv0⟩ : ∃ v0, stV w.heap.size st = v0 := ⟨_, rfl⟩
  rw [hv0]
  have HV0 := Lib.hid hv0
  clear hri hrk HR0 hv0
  go_wp2_with fail
  go_loopw [7] (fun v wr => ∃ st k body all now z d left vb, v = stV w.heap.size st ∧ Hid (RI w wr A n c l (chunkA l) st k body all now z d left vb)) (fun v wr => rankV n w.heap.size v wr)
  case atStart => exact ⟨st, k, body, all, now, z, d, left, vb, HV0.out.symm, HRI⟩
  case round =>
    obtain ⟨st, k, body, all, now, z, d, left, vb, rfl, hri⟩ := hrel
    clear HRI HV0
    have hrank := rankV_eq hri.out
    cases st with
    | size =>
      have HS := Lib.hid (HSIZE.out wr k all now left body z d vb hri.out)
      have HRK := Lib.hid hrank
      clear hrank hri HSIZE HFIELDS HCHUNK
      have e1 : stV w.heap.size .size = .func (.func 111) #[.pointer (some ⟨w.heap.size, 0, none⟩)] #[] := rfl
      rw [e1]
      have hnf := neq_func (.func 111) #[.pointer (some ⟨w.heap.size, 0, none⟩)] #[]
      go_wp2_with fail
      refine (HS.out).mono ?_
      rintro e w2 ⟨st2, k2, body2, all2, now2, z2, d2, left2, vb2, rfl, hri2, hrk2⟩
      have HRI2 := Lib.hid hri2
      obtain ⟨v2, hv2⟩ : ∃ v2, stV w.heap.size st2 = v2 := ⟨_, rfl⟩
      rw [hv2]
      have HV2 := Lib.hid hv2
      clear hri2 hv2
      go_wp2_with fail
      go_roundw
      case rel => exact ⟨st2, k2, body2, all2, now2, z2, d2, left2, vb2, HV2.out.symm, HRI2⟩
      case measure =>
        have h1 := rankV_eq HRI2.out
        rw [HV2.out] at h1
        have h2 := HRK.out
        rw [e1] at h2
        omega
    | chunk =>
      have HS := Lib.hid (HCHUNK.out wr k all now left body z d vb hri.out)
      have HRK := Lib.hid hrank
      clear hrank hri HSIZE HFIELDS HCHUNK
      have e1 : stV w.heap.size .chunk = .func (.func 180) #[.pointer (some ⟨w.heap.size, 0, none⟩)] #[] := rfl
      rw [e1]
      have hnf := neq_func (.func 180) #[.pointer (some ⟨w.heap.size, 0, none⟩)] #[]
      go_wp2_with fail
      refine (HS.out).mono ?_
      rintro e w2 ⟨st2, k2, body2, all2, now2, z2, d2, left2, vb2, rfl, hri2, hrk2⟩
      have HRI2 := Lib.hid hri2
      obtain ⟨v2, hv2⟩ : ∃ v2, stV w.heap.size st2 = v2 := ⟨_, rfl⟩
      rw [hv2]
      have HV2 := Lib.hid hv2
      clear hri2 hv2
      go_wp2_with fail
      go_roundw
      case rel => exact ⟨st2, k2, body2, all2, now2, z2, d2, left2, vb2, HV2.out.symm, HRI2⟩
      case measure =>
        have h1 := rankV_eq HRI2.out
        rw [HV2.out] at h1
        have h2 := HRK.out
        rw [e1] at h2
        omega
    | fields =>
      have HS := Lib.hid (HFIELDS.out wr k all now left body z d vb hri.out)
      have HRK := Lib.hid hrank
      clear hrank hri HSIZE HFIELDS HCHUNK
      have e1 : stV w.heap.size .fields = .func (.func 179) #[.pointer (some ⟨w.heap.size, 0, none⟩)] #[] := rfl
      rw [e1]
      have hnf := neq_func (.func 179) #[.pointer (some ⟨w.heap.size, 0, none⟩)] #[]
      go_wp2_with fail
      refine (HS.out).mono ?_
      rintro e w2 ⟨st2, k2, body2, all2, now2, z2, d2, left2, vb2, rfl, hri2, hrk2⟩
      have HRI2 := Lib.hid hri2
      obtain ⟨v2, hv2⟩ : ∃ v2, stV w.heap.size st2 = v2 := ⟨_, rfl⟩
      rw [hv2]
      have HV2 := Lib.hid hv2
      clear hri2 hv2
      go_wp2_with fail
      go_roundw
      case rel => exact ⟨st2, k2, body2, all2, now2, z2, d2, left2, vb2, HV2.out.symm, HRI2⟩
      case measure =>
        have h1 := rankV_eq HRI2.out
        rw [HV2.out] at h1
        have h2 := HRK.out
        rw [e1] at h2
        omega
    | stop =>
      have HT := Lib.hid (stop_end hri.out.tells)
      have c1 := hri.out.blk.cell 1
      have c2 := hri.out.blk.cell 2
      have c5 := hri.out.blk.cell 5
      have c6 := hri.out.blk.cell 6
      simp [rdC] at c1 c2 c5 c6
      have HO := Lib.hid hri.out.own
      have HB := Lib.hid hri.out.bel
      have HK := Lib.hid hri.out.kle
      clear hrank hri HSIZE HFIELDS HCHUNK
      have e1 : stV w.heap.size .stop = .nilFunc := rfl
      rw [e1]
      have hnf := neq_nilf
      rcases HT.out with ⟨h1, rfl, h3⟩ | ⟨rfl, rfl, h3⟩ | ⟨rfl, rfl, h3⟩
      · have dz : ((z : Int) == 0) = false := beq_eq_false_iff_ne.2 h1
        have HP := Lib.hid (fun (X : World) (hX : Below w.heap.size w X) => post_err h3 hX)
        clear HT h3 h1
        go_wp2_with fail
        go_quiet (fail)
        go_wp2_with fail
        refine bodyPost_ret (results_tmp4 rfl _ _ _) rfl ?_
        exact HP.out _ (below_drewN HB.out _)
      · have HP := Lib.hid (fun (X : World) (hX : Below wr.heap.size wr X) => post_done (by rw [HLL.out]; exact HK.out) h3 (own_below HO.out hX) (HB.out.trans (hX.mono HB.out.size)))
        clear HT h3
        go_wp2_with fail
        go_quiet (fail)
        go_wp2_with fail
        refine bodyPost_ret (results_tmp4 rfl _ _ _) rfl ?_
        exact HP.out _ (below_drewN (Below.refl _ _) _)
      · have HP := Lib.hid (post_more h3 HO.out HB.out)
        rw [HLL.out] at HP
        clear HT h3
        go_wp2_with fail
        refine bodyPost_ret (results_tmp4 rfl _ _ _) rfl ?_
        exact HP.out
end Go.Proofs.YtonlfplloenfcaaGreatDoor
namespace Go.Proofs.YtonlfplloenfcaaGreatDoor
open Go.RowKit

theorem chunkB_len : ∀ (f all : Nat) (r : List UInt8), (ansB (chunkG f all r)).length ≤ r.length
  | 0, _, _ => by simp [chunkG, ansB]
  | f + 1, all, r => by
    have hpre : ∀ (p : List UInt8) (a : ChunkA), (ansB (a.pre p)).length ≤ p.length + (ansB a).length := fun p a => by
      cases a <;> simp [ChunkA.pre, ansB]
    unfold chunkG
    split
    · simp [ansB]
    · simp [ansB]
    · rename_i m hm
      have h1 := (line_spec hm).1
      split
      · split
        · have : ∀ a : TrailA, ansB a.chunk = [] := fun a => by cases a <;> rfl
          rw [this]
          simp
        · split
          · simp [ansB]
          · split
            · simp [ansB]
            · simp only [ansB, List.length_take, List.length_drop]
              omega
            · rename_i q hq
              have h2 := end_len hq
              have h3 := hpre ((r.drop (m + 2)).take (sizeN (r.take m))) (chunkG f (all + sizeN (r.take m)) q)
              have h4 := chunkB_len f (all + sizeN (r.take m)) q
              have h5 := congrArg List.length h2
              simp only [List.length_drop, List.length_cons, List.length_take] at h3 h5
              omega
      · simp [ansB]
theorem chunkA_len (l : List UInt8) : (ansB (chunkA l)).length ≤ l.length := chunkB_len _ _ _

set_option maxRecDepth 100000 in
theorem bodieschunks_any (A : Option Addr) (n c : Nat) (l : List UInt8) (w : World) (hc : n ≤ c) (h : Lies w w.heap.size A n (Lib.byteCells l)) (hn : n ≤ 140737488355328) (hp : PowTab w) (hg : powG < w.heap.size) (hm : MaxOk w) (hmg : maxG < w.heap.size) :
    Calls Tryz.prog 5 #[.slice A n c] w fun e w' => e = .returned (.bool true) ∧ Below w.heap.size w w' := by
  have H := Lib.hid h
  have HP := Lib.hid hp
  have HM := Lib.hid hm
  have hll : l.length = n := by simpa [Lib.byteCells] using h.1
  clear h hp hm
  by_cases hbig : 200000 < n
  · go_enter Tryz.func5, Tryz.ntmps5
    go_wp2_with fail
    go_ret
    exact ⟨rfl, Below.refl _ _⟩
  · go_enter Tryz.func5, Tryz.ntmps5
    go_wp2_with fail
    refine (twinb_any A n c l w H.out (by omega)).mono ?_
    rintro e w2 ⟨rfl, ht, hb2⟩
    obtain ⟨hrt, hm1⟩ := twinb_read hll ht
    have HTW := Lib.hid ht
    have RT := Lib.hid hrt
    have M1 := Lib.hid hm1
    have B2 := Lib.hid hb2
    have hz2 : w.heap.size ≤ w2.heap.size := hb2.size
    clear ht hrt hm1 hb2
    go_wp2_with fail
    have hO := chunkA_len l
    refine (bchunked_any _ n (n + 1) l w2 RT.out (by omega) (by omega) (HM.out.below B2.out hmg) (Nat.lt_of_lt_of_le hmg hz2)).mono ?_
    rintro e w3 ⟨va, rfl, hoa, hb3⟩
    obtain ⟨Aa, ca, rfl⟩ := own_form hoa
    have OA := Lib.hid hoa
    have X3 := Lib.hid hb3
    have hz3 : w2.heap.size ≤ w3.heap.size := hb3.size
    have B3 := Lib.hid (B2.out.trans (hb3.mono hz2))
    have RT3 := Lib.hid ((RT.out.below hb3).more hz3)
    clear hoa hb3
    go_wp2_with fail
    refine (bchunked_any _ n (n + 1) l w3 RT3.out (by omega) (by omega) (HM.out.below B3.out hmg) (Nat.lt_of_lt_of_le hmg B3.out.size)).mono ?_
    rintro e w4 ⟨vb, rfl, hob, hb4⟩
    obtain ⟨Ab, cb, rfl⟩ := own_form hob
    have OB := Lib.hid hob
    have X4 := Lib.hid hb4
    have hz4 : w3.heap.size ≤ w4.heap.size := hb4.size
    have B4 := Lib.hid (B3.out.trans (hb4.mono (by omega)))
    clear hob hb4
    go_wp2_with fail
    refine (r13chunked_any A n c l w4 ((H.out.below B4.out).more (by omega)) hc (by omega)).mono ?_
    rintro e w5 ⟨vr, rfl, hor, hb5⟩
    obtain ⟨Ar, cr, rfl⟩ := own_form hor
    have OR := Lib.hid hor
    have X5 := Lib.hid hb5
    have hz5 : w4.heap.size ≤ w5.heap.size := hb5.size
    have B5 := Lib.hid (B4.out.trans (hb5.mono (by omega)))
    clear hor hb5
    go_wp2_with fail
    have hlr : Lies w5 w5.heap.size Ar (ansB (chunkA l)).length (Lib.byteCells (ansB (chunkA l))) := Lies.of_own OR.out
    have hla : Lies w5 w5.heap.size Aa (ansB (chunkA l)).length (Lib.byteCells (ansB (chunkA l))) := (((Lies.of_own OA.out).below X4.out).more hz4 |>.below X5.out).more hz5
    have hlb : Lies w5 w5.heap.size Ab (ansB (chunkA l)).length (Lib.byteCells (ansB (chunkA l))) := ((Lies.of_own OB.out).below X5.out).more hz5
    have HLR := Lib.hid hlr
    have HLA := Lib.hid hla
    have HLB := Lib.hid hlb
    clear hlr hla hlb
    generalize hN : (ansB (chunkA l)).length = N at *
    refine (samebytes_any Aa Ar N ca cr w5.heap.size (ansB (chunkA l)) w5 HLA.out HLR.out (by omega)).mono ?_
    rintro e w6 ⟨rfl, q6, rfl⟩
    go_wp2_with fail
    refine (samebytes_any Ab Ar N cb cr w5.heap.size (ansB (chunkA l)) (w5.drewN q6) HLB.out HLR.out (by omega)).mono ?_
    rintro e w6 ⟨rfl, q7, rfl⟩
    have X35 : Below w2.heap.size w2 ((w5.drewN q6).drewN q7) := below_drewN (below_drewN (X3.out.trans ((X4.out.mono hz3).trans (X5.out.mono (by omega)))) q6) q7
    have B6 : Below w.heap.size w ((w5.drewN q6).drewN q7) := below_drewN (below_drewN B5.out q6) q7
    have rt6 : Lies ((w5.drewN q6).drewN q7) w5.heap.size (some ⟨w.heap.size, 0, none⟩) n (Lib.byteCells l) := (RT.out.below X35).more (by omega)
    have rl6 : Lies ((w5.drewN q6).drewN q7) w5.heap.size A n (Lib.byteCells l) := (H.out.below B6).more (by omega)
    have hgt : w.heap.size < w2.heap.size := (HTW.out.lt _ rfl).2
    have m6 : ((w5.drewN q6).drewN q7).cell? ⟨w.heap.size, n, none⟩ = some (.int .u8 77) := (X35.cell (p := ⟨w.heap.size, n, none⟩) hgt).trans M1.out
    have X56 : Below w5.heap.size w5 ((w5.drewN q6).drewN q7) := below_drewN (below_drewN (Below.refl _ _) q6) q7
    have LB := Lib.hid (leftbytes_any w.heap.size A n c l ((w5.drewN q6).drewN q7) rt6 rl6 hn m6)
    have XX := Lib.hid X35
    have BB := Lib.hid B6
    have X57 := Lib.hid X56
    clear X35 B6 rt6 rl6 m6 X56
    generalize (w5.drewN q6).drewN q7 = w6 at *
    go_wp2_with fail
    refine LB.out.mono ?_
    rintro e w7 ⟨rfl, hb7⟩
    have hz6 : w5.heap.size ≤ w6.heap.size := X57.out.size
    have hz7 : w6.heap.size ≤ w7.heap.size := hb7.size
    have B7 := Lib.hid (BB.out.trans (hb7.mono (by omega)))
    have X7 := Lib.hid (XX.out.trans (hb7.mono (by omega)))
    have Y7 := Lib.hid (X57.out.trans (hb7.mono hz6))
    clear hb7
    go_wp2_with fail
    have hot : w7.ownsRow w.heap.size 5 1 (.slice (some ⟨w.heap.size, 0, none⟩) n (n + 1)) n (Lib.byteCells l) := own_below (own_cutb (k := 1) (by rw [Lib.byteCells_length, hll]) HTW.out) X7.out
    have hoa7 : w7.ownsRow w.heap.size 5 1 (.slice Aa N ca) N (Lib.byteCells (ansB (chunkA l))) := own_below (own_below (own_below (ownsRow_base OA.out hz2) X4.out) X5.out) Y7.out
    have hob7 : w7.ownsRow w.heap.size 5 1 (.slice Ab N cb) N (Lib.byteCells (ansB (chunkA l))) := own_below (own_below (ownsRow_base OB.out (by omega)) X5.out) Y7.out
    have hbk := Blk.new w7 42 #[.int .i64 0, .slice none 0 0, .slice none 0 0, .slice none 0 0, .slice none 0 0, .slice none 0 0, .slice none 0 0, .slice none 0 0, .slice none 0 0]
    have hal : Below w7.heap.size w7 (w7.alloc (.cells #[.int .i64 0, .slice none 0 0, .slice none 0 0, .slice none 0 0, .slice none 0 0, .slice none 0 0, .slice none 0 0, .slice none 0 0, .slice none 0 0] 42)) := (Below.refl _ _).alloc (Nat.le_refl _) _
    have T8 := Lib.hid (own_below hot hal)
    have A8 := Lib.hid (own_below hoa7 hal)
    have C8 := Lib.hid (own_below hob7 hal)
    have h7n : w.heap.size ≤ w7.heap.size := by omega
    have L8 := Lib.hid (B7.out.trans (hal.mono h7n))
    clear hot hoa7 hob7 hal
    have hf1 : ∀ b, (Value.slice (some ⟨w.heap.size, 0, none⟩) n (n + 1)).ownBlock = some b → (Value.slice Aa N ca).ownBlock ≠ some b := fun b h1 h2 => by
      have h3 := (OA.out.lt b h2).1
      simp [Value.ownBlock] at h1
      omega
    have hf2 : ∀ b, (Value.slice (some ⟨w.heap.size, 0, none⟩) n (n + 1)).ownBlock = some b → (Value.slice Ab N cb).ownBlock ≠ some b := fun b h1 h2 => by
      have h3 := (OB.out.lt b h2).1
      simp [Value.ownBlock] at h1
      omega
    have hf3 : ∀ b, (Value.slice Aa N ca).ownBlock = some b → (Value.slice Ab N cb).ownBlock ≠ some b := fun b h1 h2 => by
      have h3 := (OA.out.lt b h1).2
      have h4 := (OB.out.lt b h2).1
      omega
    have FR := Lib.hid (And.intro hf1 (And.intro hf2 hf3))
    clear hf1 hf2 hf3
    generalize w7.alloc (.cells #[.int .i64 0, .slice none 0 0, .slice none 0 0, .slice none 0 0, .slice none 0 0, .slice none 0 0, .slice none 0 0, .slice none 0 0, .slice none 0 0] 42) = W8 at *
    generalize w7.heap.size = g at *
    refine (addbyte_ok w.heap.size g 0 (.slice none 0 0) (.slice none 0 0) (.slice none 0 0) [] _ n (n + 1) _ W8 (by omega) (by simp) h7n hbk (Kind.nil rfl) T8.out).mono ?_
    rintro e w9 ⟨rfl, v1, g9, k9, l9, y9⟩
    have G9 := Lib.hid g9
    have K9 := Lib.hid k9
    have L9 := Lib.hid (L8.out.trans l9)
    have A9 := Lib.hid (own_tys A8.out y9 (by decide))
    have C9 := Lib.hid (own_tys C8.out y9 (by decide))
    clear g9 k9 l9 y9 hbk
    go_wp2_with fail
    refine (addbyte_ok w.heap.size g (0 + 1) v1 (.slice none 0 0) (.slice none 0 0) _ _ N ca _ w9 (by omega) (by simp) h7n G9.out K9.out A9.out).mono ?_
    rintro e w10 ⟨rfl, v2, g10, k10, l10, y10⟩
    have G10 := Lib.hid g10
    have K10 := Lib.hid k10
    have L10 := Lib.hid (L9.out.trans l10)
    have C10 := Lib.hid (own_tys C9.out y10 (by decide))
    clear g10 k10 l10 y10
    go_wp2_with fail
    refine (addbyte_ok w.heap.size g (0 + 1 + 1) v2 (.slice none 0 0) (.slice none 0 0) _ _ N cb _ w10 (by omega) (by simp) h7n G10.out K10.out C10.out).mono ?_
    rintro e w11 ⟨rfl, v3, g11, k11, l11, y11⟩
    have G11 := Lib.hid g11
    have K11 := Lib.hid k11
    have L11 := Lib.hid (L10.out.trans l11)
    clear g11 k11 l11 y11
    go_wp2_with fail
    refine (apart_any w.heap.size g _ v3 (.slice none 0 0) (.slice none 0 0) _ [] [] w11 hg L11.out.size (HP.out.below L11.out hg) (by simp) (by simp) (by simp) G11.out K11.out (Kind.nil rfl) (Kind.nil rfl) ?_ Far.nil Far.nil ?_ Nums.nil Nums.nil).mono ?_
    · refine Far.push (Far.push (Far.push Far.nil (fun j hj => by simp at hj)) (fun j hj b hb => ?_)) (fun j hj b hb => ?_)
      · obtain rfl : j = 0 := by simp at hj; omega
        exact FR.out.1 b hb
      · obtain rfl | rfl : j = 0 ∨ j = 1 := by simp at hj; omega
        · exact FR.out.2.1 b hb
        · exact FR.out.2.2 b hb
    · exact ((Nums.nil.push (by simp only [lenOf]; omega) (by omega)).push (by simp only [lenOf]; omega) (by omega)).push (by simp only [lenOf]; omega) (by omega)
    rintro e w12 ⟨rfl, l12⟩
    have L12 := Lib.hid (L11.out.trans l12)
    clear l12
    go_wp2_with fail
    go_ret
    exact ⟨rfl, L12.out⟩
end Go.Proofs.YtonlfplloenfcaaGreatDoor
