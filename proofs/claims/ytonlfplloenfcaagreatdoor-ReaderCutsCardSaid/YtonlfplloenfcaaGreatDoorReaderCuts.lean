/-
  ReaderCuts: the walk.
-/
import Derived.Test.YtonlfplloenfcaaGreatDoorRdIEtc
import Derived.Test.YtonlfplloenfcaaGreatDoorEndSpecEtc
namespace Go.Proofs.YtonlfplloenfcaaGreatDoor
open Go.RowKit

theorem fin_of {mt : ByteArray} {l P : List UInt8} {st : RSt} {sum : Int} (h : CutI mt l P st sum) (hl : l.length < 60000) : ∀ s f x k, st = .fin s f x k → fsum f ≤ 100000 ∧ f.length ≤ 256 ∧ x.length ≤ 60000 := by
  rintro s f x k rfl
  obtain ⟨n, hd, _⟩ := h
  have h1 := look_f.1 n s f x k hd
  have h2 := look_x hd
  omega
theorem putR_bad {mt : ByteArray} {st : RSt} {b : List UInt8} {e : Int} (hb : ∀ e, st ≠ .bad e) (h : (putR mt st b).1 = .bad e) : (putR mt st b).2.1 = 0 ∧ (putR mt st b).2.2 = e ∧ e ≠ 0 := by
  cases st with
  | bad z => exact absurd rfl (hb z)
  | fin s f x k => cases h
  | on l =>
    cases hk : lookA mt (l ++ b) with
    | wait => rw [putR_wait hk] at h; cases h
    | opn n s f b => rw [putR_opn hk] at h; cases h
    | err z =>
      rw [putR_err hk] at h ⊢
      injection h with h
      subst h
      exact ⟨rfl, rfl, err_ne hk⟩
    | done n s f x k => rw [putR_done hk] at h; cases h
theorem cut_step {mt : ByteArray} {l P x : List UInt8} {st : RSt} {S : Int} (r : List UInt8) (hl : l = P ++ x ++ r) (hn : l.length < 60000) (h : CutI mt l P st S) (hb : ∀ e, st ≠ .bad e) (h0 : 0 ≤ S) (h1 : S ≤ 60000) :
    CutI mt l (P ++ x) (putR mt st x).1 (S + (putR mt st x).2.1) ∧ 0 ≤ S + (putR mt st x).2.1 ∧ S + (putR mt st x).2.1 ≤ 60000 ∧ (((putR mt st x).2.2 = 0 ∧ ∀ e, (putR mt st x).1 ≠ .bad e) ∨ ((putR mt st x).2.2 ≠ 0 ∧ (putR mt st x).1 = .bad (putR mt st x).2.2)) := by
  obtain ⟨g1, g2⟩ := cut_put r hl (by omega) h hb
  refine ⟨g1, ?_⟩
  have hPx : (P ++ x).length ≤ l.length := by
    have h9 := congrArg List.length hl
    rw [List.length_append] at h9
    omega
  cases hk : (putR mt st x).1 with
  | bad e =>
    obtain ⟨e1, e2, e3⟩ := putR_bad hb hk
    rw [e1, e2]
    exact ⟨by omega, by omega, .inr ⟨e3, rfl⟩⟩
  | on L =>
    rw [hk] at g1 g2
    obtain ⟨rfl, _, e1⟩ := g1
    rw [e1]
    exact ⟨by omega, by omega, .inl ⟨g2.2 (fun e h => by cases h), fun e h => by cases h⟩⟩
  | fin s f b k =>
    rw [hk] at g1 g2
    obtain ⟨n, hd, e1⟩ := g1
    have := look_done_le (by omega) hd
    rw [e1]
    exact ⟨by omega, by omega, .inl ⟨g2.2 (fun e h => by cases h), fun e h => by cases h⟩⟩
set_option maxRecDepth 100000 in
set_option maxHeartbeats 4000000 in
theorem readercuts_any (mt : ByteArray) (A A2 : Option Addr) (n c n2 c2 : Nat) (q : Bool) (l : List UInt8) (u : List Nat) (w : World) (hs : mt.size ≤ 140737488355328) (hc : n ≤ c) (h : Lies w w.heap.size A n (Lib.byteCells l)) (hn : n ≤ 140737488355328)
    (h2 : Lies w w.heap.size A2 n2 (ucells u)) (hn2 : n2 ≤ 140737488355328) (hu : ∀ x ∈ u, x < 65536)
    (hm : MaxOk w) (hmg : maxG < w.heap.size) (he : ErrOk w) (heg : errG < w.heap.size) :
    Calls Tryz.prog 20 #[.agg #[.string mt, .slice A n c, .slice A2 n2 c2, .bool q]] w fun e w' => e = .returned (.bool true) ∧ Below w.heap.size w w' := by
  have hll : l.length = n := by simpa [Lib.byteCells] using h.1
  have hul : u.length = n2 := by simpa [ucells] using h2.1
  have H := Lib.hid h
  have H2 := Lib.hid h2
  have HU := Lib.hid hu
  have HLL := Lib.hid hll
  have HUL := Lib.hid hul
  have HM := Lib.hid (fun (W : World) (hb : Below w.heap.size w W) => (And.intro (hm.below hb hmg) (Nat.lt_of_lt_of_le hmg hb.size)))
  have HE := Lib.hid (fun (W : World) (hb : Below w.heap.size w W) => (And.intro (he.below hb heg) (Nat.lt_of_lt_of_le heg hb.size)))
  have HA := Lib.hid (fun (W : World) (hb : Below w.heap.size w W) => alive20_any W (hm.below hb hmg) (Nat.lt_of_lt_of_le hmg hb.size) (he.below hb heg) (Nat.lt_of_lt_of_le heg hb.size))
  have hk0 := Blk.new w 86 #[.string mt, .slice A n c, .slice A2 n2 c2, .bool q]
  have hB0 : Below w.heap.size w (w.alloc (.cells #[.string mt, .slice A n c, .slice A2 n2 c2, .bool q] 86)) := (Below.refl _ _).alloc (Nat.le_refl _) _
  have K0 := Lib.hid hk0
  have B0 := Lib.hid hB0
  have hkl := hk0.lt
  have HGR := Lib.hid (great20_any mt A A2 n c n2 c2 q (w.alloc (.cells #[.string mt, .slice A n c, .slice A2 n2 c2, .bool q] 86)) hn hn2)
  clear hk0 hB0 h h2 hm he hll hul hu
  go_enter Tryz.func20, Tryz.ntmps20
  go_wp2_with fail
  generalize w.alloc (.cells #[.string mt, .slice A n c, .slice A2 n2 c2, .bool q] 86) = W0 at *
  refine (HGR.out).mono ?_
  rintro e w1 ⟨rfl, hb1⟩
  have B1 := Lib.hid (B0.out.trans (hb1.mono B0.out.size))
  have K1 := Lib.hid (K0.out.below hb1 hkl)
  clear hb1 K0 B0 HGR hkl
  by_cases hgr : 20000 < n ∨ 100 < n2
  · have hd : (decide (20000 < n) || decide (100 < n2)) = true := by simpa using hgr
    rw [hd]
    go_wp2_with fail
    refine (HA.out w1 B1.out).mono ?_
    rintro e w2 ⟨rfl, hb2⟩
    have B2 := Lib.hid (B1.out.trans (hb2.mono B1.out.size))
    clear hb2
    go_wp2_with fail
    go_ret
    exact ⟨rfl, B2.out⟩
  have hd : (decide (20000 < n) || decide (100 < n2)) = false := by simpa using hgr
  rw [hd]
  have hn' : n ≤ 20000 := by omega
  have hn2' : n2 ≤ 100 := by omega
  clear hd hgr
  have a0 := K1.out.cell 0
  have a1 := K1.out.cell 1
  simp at a0 a1
  cases htk : tokenB mt.data.toList with
  | false =>
    have HG := Lib.hid (got_no mt A n c w1 hs htk)
    go_wp2_with fail
    refine (HG.out).mono ?_
    rintro e w2 ⟨rfl, hb2⟩
    have hal : Below w2.heap.size w2 (w2.alloc (.cells #[.string ⟨#[]⟩, .string ⟨#[]⟩, .int .i64 0, .slice none 0 0, .slice none 0 0] 25)) := (Below.refl _ _).alloc (Nat.le_refl _) _
    have B2 := Lib.hid (B1.out.trans ((hb2.trans (hal.mono hb2.size)).mono B1.out.size))
    have K2 := Lib.hid ((K1.out.below hb2 K1.out.lt).below hal (K1.out.below hb2 K1.out.lt).lt)
    have HN := Lib.hid (fun W => rdnew_any mt W hs)
    have b0 := K2.out.cell 0
    simp at b0
    clear hb2 hal HG K1 B1 a0 a1
    go_wp2_with fail
    refine (HN.out _).mono ?_
    rintro e w3 ⟨hb3, hor⟩
    rcases hor with ⟨_, rfl⟩ | ⟨h, _⟩
    · have B3 := Lib.hid (B2.out.trans (hb3.mono B2.out.size))
      clear hb3 HN B2 K2 b0
      go_wp2_with fail
      refine (HA.out w3 B3.out).mono ?_
      rintro e w4 ⟨rfl, hb4⟩
      have B4 := Lib.hid (B3.out.trans (hb4.mono B3.out.size))
      clear hb4
      go_wp2_with fail
      go_ret
      exact ⟨rfl, B4.out⟩
    · rw [htk] at h
      cases h
  | true =>
    have HG := Lib.hid (got_yes mt A n c l w1 hs htk ((H.out.below B1.out).more B1.out.size) (by omega) (HM.out _ B1.out).1 (HM.out _ B1.out).2 (HE.out _ B1.out).1 (HE.out _ B1.out).2)
    go_wp2_with fail
    refine (HG.out).mono ?_
    rintro e w2 ⟨hb2, C1, C2, s, f, x, k, d, rfl, hgm⟩
    obtain ⟨r1, hr1⟩ : ∃ r1, (putR mt (.on []) l).2.1 = r1 := ⟨_, rfl⟩
    obtain ⟨r2, hr2⟩ : ∃ r2, (putR mt (.on []) l).2.2 = r2 := ⟨_, rfl⟩
    rw [hr1, hr2]
    have HR := Lib.hid (And.intro hr1 hr2)
    have hal : Below w2.heap.size w2 (w2.alloc (.cells #[.string ⟨#[]⟩, .string ⟨#[]⟩, .int .i64 s, .slice C1 f.length f.length, .slice C2 x.length x.length] 25)) := (Below.refl _ _).alloc (Nat.le_refl _) _
    have hkm := Blk.new w2 25 #[.string ⟨#[]⟩, .string ⟨#[]⟩, .int .i64 s, .slice C1 f.length f.length, .slice C2 x.length x.length]
    have B3 := Lib.hid (B1.out.trans ((hb2.trans (hal.mono hb2.size)).mono B1.out.size))
    have hk2 := K1.out.below hb2 K1.out.lt
    have K3 := Lib.hid (hk2.below hal hk2.lt)
    have M3 := Lib.hid hkm
    have G3 := Lib.hid (hgm.below hal)
    have HN := Lib.hid (fun W => rdnew_any mt W hs)
    have b0 := K3.out.cell 0
    simp at b0
    have hmw : w.heap.size ≤ w2.heap.size := Nat.le_trans B1.out.size hb2.size
    clear hb2 hal hkm hk2 hgm HG K1 B1 a0 a1 hr1 hr2
    go_wp2_with fail
    generalize w2.alloc (.cells #[.string ⟨#[]⟩, .string ⟨#[]⟩, .int .i64 s, .slice C1 f.length f.length, .slice C2 x.length x.length] 25) = W3 at *
    refine (HN.out W3).mono ?_
    rintro e w4 ⟨hb4, hor⟩
    rcases hor with ⟨h, _⟩ | ⟨_, p, rfl, hpg, hkp⟩
    · rw [htk] at h
      cases h
    have B4 := Lib.hid (B3.out.trans (hb4.mono B3.out.size))
    have hst0 : RdSt w4 W3.heap.size p mt (.on []) := ⟨_, on_start hkp⟩
    have X4 := Lib.hid hb4
    have HST := Lib.hid hst0
    have k1 := (K3.out.below hb4 K3.out.lt).cell 1
    simp at k1
    have hmg3 := (HM.out _ B3.out).2
    have heg3 := (HE.out _ B3.out).2
    clear hb4 hkp hst0 HN b0
    go_wp2_with fail
    go_loopw [10, 11, 12, 13] (fun rest sum g i wr => ∃ (j : Nat) (P r : List UInt8) (st : RSt) (S G : Int) (R : Option Addr) (m cc : Nat), j ≤ n2 + 1 ∧ rest = .slice R m cc ∧ sum = .int .i64 S ∧ g = .int .i64 G ∧ i = .int .i64 j ∧ m ≤ cc ∧ m ≤ n ∧ (j = n2 + 1 → m = 0) ∧ 0 ≤ S ∧ S ≤ 60000 ∧ Hid (l = P ++ r) ∧
      Hid (Lies wr W3.heap.size R m (Lib.byteCells r)) ∧ Hid (CutI mt l P st S) ∧ Hid (RdSt wr W3.heap.size p mt st) ∧ Hid (Below W3.heap.size W3 wr) ∧ Hid ((G = 0 ∧ ∀ e, st ≠ .bad e) ∨ (G ≠ 0 ∧ st = .bad G))) (fun _ _ _ i _ => n2 + 1 - (intOf i).toNat)
    case atStart =>
      exact ⟨0, [], l, .on [], 0, 0, A, n, c, by omega, rfl, rfl, rfl, by go_num, hc, Nat.le_refl _, fun h => by omega, by omega, by omega, rfl, ((H.out.below B3.out).more B3.out.size).below X4.out, cut_start mt l, HST.out, X4.out, .inl ⟨rfl, fun e h => by cases h⟩⟩
    case round =>
      obtain ⟨j, P, r, st, S, G, R, m, cc, hj, rfl, rfl, rfl, rfl, hmc, hmn, hj0, hS0, hS1, HPR, HL, HC, HS, HX, HG⟩ := hrel
      have KK := K3.out.below HX.out K3.out.lt
      have q2 := KK.cell 2
      simp at q2
      have hrl : r.length = m := by simpa [Lib.byteCells] using HL.out.1
      have hX := B3.out.trans (HX.out.mono B3.out.size)
      have BW := Lib.hid hX
      have hzx := HX.out.size
      clear KK hX
      by_cases hgo : j ≤ n2 ∧ G = 0
      · obtain ⟨hj2, rfl⟩ := hgo
        have hnb : ∀ e, st ≠ .bad e := by
          rcases HG.out with ⟨_, h⟩ | ⟨h, _⟩
          · exact h
          · exact absurd rfl h
        have hd : decide ((j : Int) ≤ (n2 : Int)) = true := decide_eq_true (by omega)
        have hPL : P.length + m = n := by
          have h9 := congrArg List.length HPR.out
          rw [List.length_append, HLL.out, hrl] at h9
          omega
        have hput : ∀ v, v ≤ m → (∃ st' S' k' G', Calls Tryz.prog 59 #[.pointer (some ⟨p, 0, none⟩), .slice R v cc] wr (fun e w' => e = .returned (.tuple #[.int .i64 k', .int .i64 G']) ∧ Below W3.heap.size wr w' ∧ RdSt w' W3.heap.size p mt st') ∧
            S + k' = S' ∧ 0 ≤ S' ∧ S' ≤ 60000 ∧ CutI mt l (P ++ r.take v) st' S' ∧ ((G' = 0 ∧ ∀ e, st' ≠ .bad e) ∨ (G' ≠ 0 ∧ st' = .bad G'))) := fun v hv => by
          have hsp : l = P ++ r.take v ++ r.drop v := by rw [List.append_assoc, List.take_append_drop]; exact HPR.out
          obtain ⟨g1, g2, g3, g4⟩ := cut_step (r.drop v) hsp (by rw [HLL.out]; omega) HC.out hnb hS0 hS1
          refine ⟨_, _, _, _, rdput_st p wr W3.heap.size mt st (r.take v) R v cc 20000 HS.out hnb (fun L hL => ?_) (by omega) ((lies_cut HL.out hv).more hzx) (fun h0 g o e => ?_) hzx (HM.out _ BW.out).1 hmg3 (HE.out _ BW.out).1 heg3 hpg, rfl, g2, g3, g1, g4⟩
          · have hc9 := HC.out
            rw [hL] at hc9
            obtain ⟨rfl, _⟩ := hc9
            omega
          · obtain ⟨b9, o9, e9, h9, _⟩ := HL.out.2 (by omega)
            rw [e] at e9
            injection e9 with e9
            injection e9 with e9 _
            omega
        have HPUT := Lib.hid hput
        have HNB := Lib.hid hnb
        clear hput hnb
        have HFIN : Hid (∀ v S' k' G' st' w5, v ≤ m → (j = n2 → v = m) → S + k' = S' → 0 ≤ S' → S' ≤ 60000 → CutI mt l (P ++ r.take v) st' S' → ((G' = 0 ∧ ∀ e, st' ≠ .bad e) ∨ (G' ≠ 0 ∧ st' = .bad G')) → Below W3.heap.size wr w5 → RdSt w5 W3.heap.size p mt st' → ∃ (j' : Nat) (P r : List UInt8) (st : RSt) (S G : Int) (R' : Option Addr) (m' cc' : Nat), j' ≤ n2 + 1 ∧ Value.slice (if cc = v then R else Option.map (fun a => a.add v) R) (m - v) (cc - v) = .slice R' m' cc' ∧ Value.int .i64 S' = .int .i64 S ∧ Value.int .i64 G' = .int .i64 G ∧ Value.int .i64 ((j : Int) + 1) = .int .i64 j' ∧ m' ≤ cc' ∧ m' ≤ n ∧ (j' = n2 + 1 → m' = 0) ∧ 0 ≤ S ∧ S ≤ 60000 ∧ Hid (l = P ++ r) ∧
            Hid (Lies w5 W3.heap.size R' m' (Lib.byteCells r)) ∧ Hid (CutI mt l P st S) ∧ Hid (RdSt w5 W3.heap.size p mt st) ∧ Hid (Below W3.heap.size W3 w5) ∧ Hid ((G = 0 ∧ ∀ e, st ≠ .bad e) ∨ (G ≠ 0 ∧ st = .bad G))) := fun v S' k' G' st' w5 hv hjv e1 e2 e3 e4 e5 e6 e7 =>
          ⟨j + 1, P ++ r.take v, r.drop v, st', S', G', _, _, _, by omega, rfl, rfl, rfl, rfl, by omega, by omega, fun h => (by have := hjv (by omega); omega), e2, e3, by
            show l = _
            rw [List.append_assoc, List.take_append_drop]
            exact HPR.out, (lies_drop HL.out hv hmc).below e6, e4, e7, HX.out.trans e6, e5⟩
        by_cases hjn : j < n2
        · have hd2 : decide ((j : Int) < (n2 : Int)) = true := decide_eq_true (by omega)
          obtain ⟨b, off, uu, rfl, hbb, huu, hcc⟩ := H2.out.at_ hjn
          obtain ⟨y, hy⟩ : ∃ y, u[j]? = some y := ⟨u[j]'(by rw [HUL.out]; exact hjn), List.getElem?_eq_getElem (by rw [HUL.out]; exact hjn)⟩
          have hux : uu = .int .u16 (y : Int) := by
            unfold ucells at huu
            rw [List.getElem?_map, hy] at huu
            exact (Option.some.inj huu).symm
          subst hux
          have hy2 := HU.out y (List.mem_of_getElem? hy)
          have hc1 := (BW.out.cell (p := ⟨b, off + j, none⟩) hbb).trans hcc
          obtain ⟨v, hv⟩ : ∃ v, min m y = v := ⟨_, rfl⟩
          have hvm : v ≤ m := by omega
          have hmin : min (m : Int) (y : Int) = (v : Int) := by omega
          obtain ⟨st', S', k', G', HP, e1, e2, e3, e4, e5⟩ := HPUT.out v hvm
          have HPP := Lib.hid HP
          have hw : IntKind.i64.wrap (S + k') = S' := by rw [e1]; exact Go.IntWalk.i64_in _ ⟨by omega, by omega⟩
          have HE4 := Lib.hid e4
          have HE5 := Lib.hid e5
          clear huu hcc hy hv HP HPUT e4 e5
          go_wp2_with fail
          refine (HPP.out).mono ?_
          rintro e w5 ⟨rfl, hb5, hst5⟩
          have HB5 := Lib.hid hb5
          have HS5 := Lib.hid hst5
          clear hb5 hst5 HPP hc1
          go_wp2_with fail
          go_roundw
          case rel => exact HFIN.out v S' k' G' st' w5 hvm (fun h => by omega) e1 e2 e3 HE4.out HE5.out HB5.out HS5.out
          case measure => simp [intOf]; omega
        · have hd2 : decide ((j : Int) < (n2 : Int)) = false := decide_eq_false (by omega)
          obtain ⟨st', S', k', G', HP, e1, e2, e3, e4, e5⟩ := HPUT.out m (Nat.le_refl _)
          have HPP := Lib.hid HP
          have hw : IntKind.i64.wrap (S + k') = S' := by rw [e1]; exact Go.IntWalk.i64_in _ ⟨by omega, by omega⟩
          have HE4 := Lib.hid e4
          have HE5 := Lib.hid e5
          clear HP HPUT e4 e5
          go_wp2_with fail
          refine (HPP.out).mono ?_
          rintro e w5 ⟨rfl, hb5, hst5⟩
          have HB5 := Lib.hid hb5
          have HS5 := Lib.hid hst5
          clear hb5 hst5 HPP
          go_wp2_with fail
          go_roundw
          case rel =>
            have h9 := HFIN.out m S' k' G' st' w5 (Nat.le_refl _) (fun h => rfl) e1 e2 e3 HE4.out HE5.out HB5.out HS5.out
            rw [Nat.sub_self] at h9
            exact h9
          case measure => simp [intOf]; omega
      · obtain ⟨s', f', x', k', d', hdn⟩ := rddone_st mt wr W3.heap.size p st HS.out (fin_of HC.out (by rw [HLL.out]; omega)) (HM.out _ BW.out).1 (HM.out _ BW.out).2
        have HDN := Lib.hid hdn
        clear hdn
        by_cases hG : G = 0
        · subst hG
          have hj2 : j = n2 + 1 := by
            rcases Nat.lt_or_ge n2 j with h | h
            · omega
            · exact absurd ⟨h, rfl⟩ hgo
          subst hj2
          have hnb : ∀ e, st ≠ .bad e := by
            rcases HG.out with ⟨_, h⟩ | ⟨h, _⟩
            · exact h
            · exact absurd rfl h
          have hm0 : m = 0 := hj0 rfl
          have hPl : P = l := by
            have h9 := HPR.out
            have : r = [] := List.length_eq_zero_iff.1 (by omega)
            rw [this, List.append_nil] at h9
            exact h9.symm
          have hca := HC.out
          rw [hPl] at hca
          have hpu := (cut_all hca).2 hnb
          have hr12 := HR.out
          rw [hpu] at hr12
          obtain ⟨rfl, rfl⟩ : S = r1 ∧ 0 = r2 := hr12
          have hgm := G3.out
          rw [hpu] at hgm
          have GG := Lib.hid (hgm.below HX.out)
          have MM := Lib.hid (M3.out.below HX.out M3.out.lt)
          clear hpu hgm hca hnb hPl HG HC HS HPR HL
          go_wp2_with fail
          refine (HDN.out).mono ?_
          rintro e w5 ⟨D1, D2, rfl, hb5, hgm5, _, _⟩
          have hal6 : Below w5.heap.size w5 (w5.alloc (.cells #[.string ⟨#[]⟩, .string ⟨#[]⟩, .int .i64 s', .slice D1 f'.length f'.length, .slice D2 x'.length x'.length] 25)) := (Below.refl _ _).alloc (Nat.le_refl _) _
          have hkn := Blk.new w5 25 #[.string ⟨#[]⟩, .string ⟨#[]⟩, .int .i64 s', .slice D1 f'.length f'.length, .slice D2 x'.length x'.length]
          have hb6 := hb5.trans (hal6.mono hb5.size)
          have B6 := Lib.hid (BW.out.trans (hb6.mono BW.out.size))
          have g1 := GG.out.below hb6
          have g2 := hgm5.below hal6
          obtain ⟨rfl, rfl, rfl, rfl, rfl⟩ := gotm_eq g1 g2
          have mm := MM.out.below hb6 MM.out.lt
          have HSM := Lib.hid (samem_any ⟨#[]⟩ ⟨#[]⟩ s C1 D1 C2 D2 f.length f.length f.length x.length x.length x.length _ f x _ (Nat.le_refl _) g1.1 g2.1 (by have := g1.2.2.1; omega) g1.2.1 g2.2.1 (by have := g1.2.2.2.1; omega))
          have u0 := mm.cell 0
          have u1 := mm.cell 1
          have u2 := mm.cell 2
          have u3 := mm.cell 3
          have u4 := mm.cell 4
          have v0 := hkn.cell 0
          have v1 := hkn.cell 1
          have v2 := hkn.cell 2
          have v3 := hkn.cell 3
          have v4 := hkn.cell 4
          simp at u0 u1 u2 u3 u4 v0 v1 v2 v3 v4
          have e1 : (S == S) = true := beq_iff_eq.2 rfl
          have e2 : (k == k) = true := beq_iff_eq.2 rfl
          have e3 : (d == d) = true := beq_iff_eq.2 rfl
          clear hb5 hal6 hkn hb6 g1 g2 mm HDN GG MM
          go_wp2_with fail
          refine (HSM.out).mono ?_
          rintro e w7 ⟨rfl, hb7⟩
          have B7 := Lib.hid (B6.out.trans (hb7.mono B6.out.size))
          clear hb7 HSM u0 u1 u2 u3 u4 v0 v1 v2 v3 v4
          go_wp2_with fail
          refine (HA.out w7 B7.out).mono ?_
          rintro e w8 ⟨rfl, hb8⟩
          have B8 := Lib.hid (B7.out.trans (hb8.mono B7.out.size))
          clear hb8
          go_wp2_with fail
          go_ret
          exact ⟨rfl, B8.out⟩
        · have hbad : st = .bad G := by
            rcases HG.out with ⟨h, _⟩ | ⟨_, h⟩
            · exact absurd h hG
            · exact h
          subst hbad
          have hca : CutI mt l l (.bad G) S := HC.out
          have hpu := (cut_all hca).1 G rfl
          have hr12 := HR.out
          rw [hpu] at hr12
          obtain ⟨rfl, rfl⟩ : 0 = r1 ∧ G = r2 := hr12
          have hg0 : (G == 0) = false := beq_eq_false_iff_ne.2 hG
          have hg1 : (G != 0) = true := bne_iff_ne.2 hG
          have hg2 : (G == G) = true := beq_iff_eq.2 rfl
          have HDD : Hid (∀ W D1 D2, GotM W (.bad G) D1 D2 s' f' x' k' d' → d' = false) := fun W D1 D2 h => by
            obtain ⟨_, _, _, _, h⟩ := h
            rcases h with ⟨_, h⟩ | ⟨h, _⟩
            · cases h
            · exact h
          clear hpu hca HG HC HS HPR HL
          by_cases hjj : j ≤ n2
          · have hd2 : decide ((j : Int) ≤ (n2 : Int)) = true := decide_eq_true (by omega)
            go_wp2_with fail
            refine (HDN.out).mono ?_
            rintro e w5 ⟨D1, D2, rfl, hb5, hgm5, _, _⟩
            obtain rfl := HDD.out _ _ _ hgm5
            have hal6 : Below w5.heap.size w5 (w5.alloc (.cells #[.string ⟨#[]⟩, .string ⟨#[]⟩, .int .i64 s', .slice D1 f'.length f'.length, .slice D2 x'.length x'.length] 25)) := (Below.refl _ _).alloc (Nat.le_refl _) _
            have B6 := Lib.hid (BW.out.trans ((hb5.trans (hal6.mono hb5.size)).mono BW.out.size))
            clear hb5 hal6 hgm5 HDN HDD
            go_wp2_with fail
            refine (HA.out _ B6.out).mono ?_
            rintro e w8 ⟨rfl, hb8⟩
            have B8 := Lib.hid (B6.out.trans (hb8.mono B6.out.size))
            clear hb8
            go_wp2_with fail
            go_ret
            exact ⟨rfl, B8.out⟩
          · have hd2 : decide ((j : Int) ≤ (n2 : Int)) = false := decide_eq_false (by omega)
            go_wp2_with fail
            refine (HDN.out).mono ?_
            rintro e w5 ⟨D1, D2, rfl, hb5, hgm5, _, _⟩
            obtain rfl := HDD.out _ _ _ hgm5
            have hal6 : Below w5.heap.size w5 (w5.alloc (.cells #[.string ⟨#[]⟩, .string ⟨#[]⟩, .int .i64 s', .slice D1 f'.length f'.length, .slice D2 x'.length x'.length] 25)) := (Below.refl _ _).alloc (Nat.le_refl _) _
            have B6 := Lib.hid (BW.out.trans ((hb5.trans (hal6.mono hb5.size)).mono BW.out.size))
            clear hb5 hal6 hgm5 HDN HDD
            go_wp2_with fail
            refine (HA.out _ B6.out).mono ?_
            rintro e w8 ⟨rfl, hb8⟩
            have B8 := Lib.hid (B6.out.trans (hb8.mono B6.out.size))
            clear hb8
            go_wp2_with fail
            go_ret
            exact ⟨rfl, B8.out⟩
end Go.Proofs.YtonlfplloenfcaaGreatDoor
