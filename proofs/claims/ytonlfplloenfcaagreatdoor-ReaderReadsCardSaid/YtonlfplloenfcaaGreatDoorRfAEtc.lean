/-
  footmanref20: New; keeps.
  footmanref20: look, up to the end of the heads; how the body ends.
  footmanref20: Put, End and Done on any reader of the document's, with the blocks it stands in.
  footmanref20: End on any reader of the document's.
  footmanref20: Done on any reader of the document's.
-/
import Derived.Test.YtonlfplloenfcaaGreatDoorRSplitEtc
import Derived.Test.YtonlfplloenfcaaGreatDoorANumberEtc
import Derived.Test.YtonlfplloenfcaaGreatDoorRefStatusEtc
import Derived.Test.YtonlfplloenfcaaGreatDoorRdIEtc
import Derived.Test.YtonlfplloenfcaaGreatDoorNamesEtc
import Derived.Test.YtonlfplloenfcaaGreatDoorRdPEtc
namespace Go.Proofs.YtonlfplloenfcaaGreatDoor
open Go.RowKit

/-- A reader's cells, of the document's. -/
def rfC (mt : ByteArray) (vb : Value) (e : Int) (m1 m2 : ByteArray) (ms : Int) (vf vd : Value) (keep done : Bool) : Array Value :=
  #[.string mt, vb, .int .i64 e, .string m1, .string m2, .int .i64 ms, vf, vd, .bool keep, .bool done]
set_option maxRecDepth 100000 in
theorem rfnew_any (mt : ByteArray) (w : World) (hs : mt.size ≤ 140737488355328) :
    Calls Tryz.prog 58 #[.string mt] w fun e w' => Below w.heap.size w w' ∧
      ((tokenB mt.data.toList = false ∧ e = .returned (.tuple #[.pointer none, .int .i64 1])) ∨ (tokenB mt.data.toList = true ∧ ∃ p, e = .returned (.tuple #[.pointer (some ⟨p, 0, none⟩), .int .i64 0]) ∧ w.heap.size ≤ p ∧
        Blk w' p 162 (rfC mt (.slice none 0 0) 0 ⟨#[]⟩ ⟨#[]⟩ 0 (.slice none 0 0) (.slice none 0 0) false false))) := by
  have HT := Lib.hid (rtoken_any mt w hs)
  obtain ⟨q, hq⟩ : ∃ q, tokenB mt.data.toList = q := ⟨_, rfl⟩
  rw [hq] at HT ⊢
  clear hq
  go_enter Tryz.func58, Tryz.ntmps58
  go_wp2_with fail
  refine (HT.out).mono ?_
  rintro e w1 ⟨rfl, rfl⟩
  clear HT
  cases q with
  | false =>
    go_wp2_with fail
    go_ret2
    exact ⟨Below.refl _ _, rfl⟩
  | true =>
    go_wp2_with fail
    go_ret2
    exact ⟨(Below.refl _ _).alloc (Nat.le_refl _) _, w.heap.size, rfl, Nat.le_refl _, Blk.new w _ _⟩
theorem closeP_any (s : ByteArray) : closeP s = (splitT 44 s).any isClose := rfl
set_option maxRecDepth 100000 in
set_option maxHeartbeats 1000000 in
theorem rfkeeps_any (s1 s2 : ByteArray) (st : Int) (A A2 : Option Addr) (n c n2 c2 : Nat) (fs : List Fd) (w : World) (h : FRead w w.heap.size A n fs) (hn : n ≤ 100000) (hfs : ∀ f ∈ fs, f.1.size ≤ 1000000 ∧ f.2.size ≤ 1000000) :
    Calls Tryz.prog 207 #[.agg #[.string s1, .string s2, .int .i64 st, .slice A n c, .slice A2 n2 c2]] w fun e w' => e = .returned (.bool (keepB fs)) ∧ Below w.heap.size w w' := by
  have hk0 := Blk.new w 25 #[.string s1, .string s2, .int .i64 st, .slice A n c, .slice A2 n2 c2]
  have hB0 : Below w.heap.size w (w.alloc (.cells #[.string s1, .string s2, .int .i64 st, .slice A n c, .slice A2 n2 c2] 25)) := (Below.refl _ _).alloc (Nat.le_refl _) _
  have HF1 := Lib.hid (fun (W : World) (hb : Below w.heap.size w W) => rfind_any A n c fs connB W ((h.below hb).more hb.size) hn (by decide) (fun f hf => by have := (hfs f hf).1; omega))
  have hs1 : ∀ x ∈ findB fs connB, x.size ≤ 1000000 := findB_size fun f hf => (hfs f hf).2
  have hl1 := findB_len fs connB n
  rw [List.take_of_length_le (by rw [h.1]; exact Nat.le_refl _)] at hl1
  have hK : keepB fs = !((findB fs connB).any closeP) := rfl
  have K0 := Lib.hid hk0
  have B0 := Lib.hid hB0
  have HKB := Lib.hid hK
  obtain ⟨C, hC⟩ : ∃ C, findB fs connB = C := ⟨_, rfl⟩
  have hcb : connB = ⟨#[99, 111, 110, 110, 101, 99, 116, 105, 111, 110]⟩ := rfl
  rw [hC] at hs1 hl1 HKB HF1
  rw [hcb] at HF1
  obtain ⟨N, hN⟩ : ∃ N, C.length = N := ⟨_, rfl⟩
  rw [hN] at hl1 HF1
  have HN := Lib.hid hN
  have HS := Lib.hid hs1
  have HSM := Lib.hid (fun (x : ByteArray) (W : World) (hx : x.size ≤ 1000000) => rSame_any x ⟨#[99, 108, 111, 115, 101]⟩ W (by omega) (by decide))
  clear h hfs hk0 hB0 hs1 hK hC hcb hN
  go_enter Tryz.func207, Tryz.ntmps207
  go_wp2_with fail
  generalize w.alloc (.cells #[.string s1, .string s2, .int .i64 st, .slice A n c, .slice A2 n2 c2] 25) = W0 at *
  have a3 := K0.out.cell 3
  simp at a3
  have HF := Lib.hid (HF1.out W0 B0.out)
  clear HF1 K0
  go_wp2_with fail
  refine (HF.out).mono ?_
  rintro e w1 ⟨⟨v1, rfl, ho1⟩, hb1⟩
  obtain ⟨A1, c1, rfl⟩ := own_form ho1
  have B1 := Lib.hid (B0.out.trans (hb1.mono B0.out.size))
  have L1 := Lib.hid (Lies.of_own ho1)
  clear ho1 hb1 HF a3 B0
  go_wp2_with fail
  go_loopw [4] (fun i wr => ∃ k : Nat, k ≤ N ∧ i = .int .i64 k ∧ Hid ((C.take k).any closeP = false) ∧ Hid (Below w1.heap.size w1 wr)) (fun i _ => N - (intOf i).toNat)
  case atStart => exact ⟨0, Nat.zero_le _, rfl, by simp [Hid], Below.refl _ _⟩
  case round =>
    obtain ⟨k, hk, rfl, hp, HB⟩ := hrel
    by_cases hlt : k < N
    · obtain ⟨b, off, u, rfl, hbb, hu, hc⟩ := L1.out.at_ hlt
      obtain ⟨x, hx⟩ : ∃ x, C[k]? = some x := ⟨C[k]'(by rw [HN.out]; exact hlt), List.getElem?_eq_getElem (by rw [HN.out]; exact hlt)⟩
      have hux : u = .string x := by rw [List.getElem?_map, hx] at hu; exact (Option.some.inj hu).symm
      subst hux
      have hc1 := (HB.out.cell (p := ⟨b, off + k, none⟩) hbb).trans hc
      have hsz := HS.out x (List.mem_of_getElem? hx)
      have htk : C.take (k + 1) = C.take k ++ [x] := by rw [List.take_add_one, hx]; rfl
      have hmem := List.mem_of_getElem? hx
      have HSP := Lib.hid (rsplit_any x 44 wr (by omega))
      obtain ⟨D, hD⟩ : ∃ D, splitT 44 x = D := ⟨_, rfl⟩
      have hds : ∀ y ∈ D, y.size ≤ 1000000 := fun y hy => by
        rw [← hD] at hy
        have := sizes_splitT 44 x y hy
        omega
      have hdl : D.length ≤ 1000001 := by
        have h1 := congrArg List.length (splitT_data 44 x)
        rw [List.length_map, List.length_map, cutC_len, hD] at h1
        have h2 : x.data.toList.count 44 ≤ x.data.toList.length := List.count_le_length
        have h3 : x.data.toList.length = x.size := rfl
        omega
      have hcl : closeP x = D.any isClose := by rw [closeP_any, hD]
      rw [hD] at HSP
      obtain ⟨M, hM⟩ : ∃ M, D.length = M := ⟨_, rfl⟩
      rw [hM] at HSP hdl
      have HM := Lib.hid hM
      have HDS := Lib.hid hds
      have HT := Lib.hid (fun (h : D.any isClose = false) => (show (C.take (k + 1)).any closeP = false by rw [htk, List.any_append, hp.out]; simp [hcl, h]))
      have HTT := Lib.hid (fun (h : D.any isClose = true) => (show C.any closeP = true from List.any_eq_true.2 ⟨x, hmem, by rw [hcl]; exact h⟩))
      clear hu hc hx htk hmem hsz hD hds hcl hM
      go_wp2_with fail
      refine (HSP.out).mono ?_
      rintro e w2 ⟨⟨v2, rfl, ho2⟩, hb2⟩
      obtain ⟨A3, c3, rfl⟩ := own_form ho2
      have HB2 := Lib.hid (HB.out.trans (hb2.mono HB.out.size))
      have L2 := Lib.hid (Lies.of_own ho2)
      clear ho2 hb2 HSP hc1
      go_wp2_with fail
      go_loopw [6] (fun i wi => ∃ j : Nat, j ≤ M ∧ i = .int .i64 j ∧ Hid ((D.take j).any isClose = false) ∧ Hid (Below w2.heap.size w2 wi)) (fun i _ => M - (intOf i).toNat)
      case atStart => exact ⟨0, Nat.zero_le _, rfl, by simp [Hid], Below.refl _ _⟩
      case round =>
        obtain ⟨j, hj, rfl, hpj, HBI⟩ := hrel
        have HB3 := Lib.hid (HB2.out.trans (HBI.out.mono HB2.out.size))
        by_cases hlj : j < M
        · obtain ⟨b2, off2, u2, rfl, hbb2, hu2, hc2⟩ := L2.out.at_ hlj
          obtain ⟨y, hy⟩ : ∃ y, D[j]? = some y := ⟨D[j]'(by rw [HM.out]; exact hlj), List.getElem?_eq_getElem (by rw [HM.out]; exact hlj)⟩
          have huy : u2 = .string y := by rw [List.getElem?_map, hy] at hu2; exact (Option.some.inj hu2).symm
          subst huy
          have hcj := (HBI.out.cell (p := ⟨b2, off2 + j, none⟩) hbb2).trans hc2
          have hsy := HDS.out y (List.mem_of_getElem? hy)
          have htj : D.take (j + 1) = D.take j ++ [y] := by rw [List.take_add_one, hy]; rfl
          have hmy := List.mem_of_getElem? hy
          have hSM := HSM.out y wr hsy
          have hic : sameB y.data.toList (⟨#[99, 108, 111, 115, 101]⟩ : ByteArray).data.toList = isClose y := rfl
          rw [hic] at hSM
          have HQ := Lib.hid hSM
          cases ho : isClose y with
          | false =>
            have HV := Lib.hid (show (D.take (j + 1)).any isClose = false by rw [htj, List.any_append, hpj.out]; simp [ho])
            rw [ho] at HQ
            clear hu2 hc2 hy htj hmy hsy hSM hic ho
            go_wp2_with fail
            refine (HQ.out).mono ?_
            rintro e w3 ⟨rfl, hb3⟩
            have HB4 := Lib.hid (HBI.out.trans (hb3.mono HBI.out.size))
            clear hb3 hcj HQ
            go_wp2_with fail
            go_roundw
            case rel => exact ⟨j + 1, by omega, by go_num, HV, HB4⟩
            case measure => simp [intOf]; omega
          | true =>
            have HV := Lib.hid (HTT.out (List.any_eq_true.2 ⟨y, hmy, ho⟩))
            rw [ho] at HQ
            clear hu2 hc2 hy htj hmy hsy hSM hic ho
            go_wp2_with fail
            refine (HQ.out).mono ?_
            rintro e w3 ⟨rfl, hb3⟩
            have HB4 := Lib.hid (HB3.out.trans (hb3.mono HB3.out.size))
            clear hb3 hcj HQ
            go_wp2_with fail
            go_ret
            exact ⟨ret_bool (by rw [HKB.out, HV.out]; rfl), B1.out.trans (HB4.out.mono B1.out.size)⟩
        · obtain rfl : j = M := by omega
          have hf : D.any isClose = false := by
            have h := hpj.out
            rwa [List.take_of_length_le (by rw [HM.out]; exact Nat.le_refl _)] at h
          have HV := Lib.hid (HT.out hf)
          clear hf
          go_wp2_with fail
          go_roundw
          case rel => exact ⟨k + 1, by omega, by go_num, HV, HB3⟩
          case measure => simp [intOf]; omega
    · obtain rfl : k = N := by omega
      have hf : C.any closeP = false := by
        have h := hp.out
        rwa [List.take_of_length_le (by rw [HN.out]; exact Nat.le_refl _)] at h
      have HV := Lib.hid hf
      clear hf
      go_wp2_with fail
      go_ret
      exact ⟨ret_bool (by rw [HKB.out, HV.out]; rfl), B1.out.trans (HB.out.mono B1.out.size)⟩
end Go.Proofs.YtonlfplloenfcaaGreatDoor
namespace Go.Proofs.YtonlfplloenfcaaGreatDoor
open Go.RowKit

section
variable {mt : ByteArray} {a : Nat} {s : Int} {f : List Fd} {r : List UInt8}
theorem bodyA_err {z1 z2 z3 : Int} (hz : howM mt s f = (z1, z2, z3)) (h3 : z3 ≠ 0) : bodyA mt a s f r = .err z3 := by
  unfold bodyA
  rw [hz, if_pos h3]
theorem bodyA_none {z2 : Int} (hz : howM mt s f = (0, z2, 0)) : bodyA mt a s f r = .done a s f [] (keepB f) := by
  unfold bodyA
  rw [hz, if_neg (by simp), if_pos rfl]
theorem bodyA_len {m : Nat} (hz : howM mt s f = (1, (m : Int), 0)) : bodyA mt a s f r = if m ≤ r.length then .done (a + m) s f (r.take m) (keepB f) else .wait := by
  unfold bodyA
  rw [hz, if_neg (by simp), if_neg (by simp), if_pos rfl, Int.toNat_natCast]
theorem bodyA_chunks (hz : howM mt s f = (2, 0, 0)) : bodyA mt a s f r = (match chunkA r with
    | .err e => .err e
    | .more _ => .wait
    | .done b q => .done (a + (r.length - q.length)) s f b (keepB f)) := by
  unfold bodyA
  rw [hz, if_neg (by decide), if_neg (by decide), if_neg (by decide), if_pos rfl]
  cases chunkA r <;> rfl
theorem bodyA_rest (hz : howM mt s f = (3, 0, 0)) (hr : r.length ≤ 65536) : bodyA mt a s f r = .opn (a + r.length) s f r := by
  unfold bodyA
  rw [hz, if_neg (by decide), if_neg (by decide), if_neg (by decide), if_neg (by decide), if_neg (by omega)]
end
/-- The reader's cells, when it reads; what look leaves. -/
def rf0 (mt : ByteArray) (vb : Value) (e : Int) : Array Value := rfC mt vb e ⟨#[]⟩ ⟨#[]⟩ 0 (.slice none 0 0) (.slice none 0 0) false false
def LkPost (p : Nat) (w : World) (mt : ByteArray) (vb : Value) (L : List UInt8) (ended : Bool) (e : Ending) (w' : World) : Prop :=
  Keep (fun q => q = p) w w' ∧
   ((∃ z, lookA mt L = .err z ∧ e = .returned (.int .i64 0) ∧ Blk w' p 162 (rf0 mt vb z)) ∨
    ((lookA mt L = .wait ∨ (ended = false ∧ ∃ n s f x, lookA mt L = .opn n s f x)) ∧ e = .returned (.int .i64 0) ∧ Blk w' p 162 (rf0 mt vb 0)) ∨
    (∃ n s f x k, (lookA mt L = .done n s f x k ∨ (ended = true ∧ k = false ∧ lookA mt L = .opn n s f x)) ∧ e = .returned (.int .i64 ((n : Nat) : Int)) ∧
      ∃ vf vd, Blk w' p 162 (rfC mt vb 0 ⟨#[]⟩ ⟨#[]⟩ s vf vd k true) ∧ w'.ownsRow w.heap.size 63 2 vf f.length (fcells f) ∧ w'.ownsRow w.heap.size 5 1 vd x.length (Lib.byteCells x)))
/-- What is known at the end of the body's reading. -/
def LkMid (mt : ByteArray) (L : List UInt8) (s : Int) (f : List Fd) (kind : Int) (ended : Bool) (N : Nat) (xb : List UInt8) (wh : Bool) : Prop :=
  (wh = false ∧ (lookA mt L = .wait ∨ (ended = false ∧ ∃ n s f x, lookA mt L = .opn n s f x))) ∨
  (wh = true ∧ ((kind ≠ 3 ∧ lookA mt L = .done N s f xb (keepB f)) ∨ (kind = 3 ∧ ended = true ∧ lookA mt L = .opn N s f xb)))

theorem set_rf {w : World} {p : Nat} {mt : ByteArray} {vb vf vd : Value} {e ms : Int} {m1 m2 : ByteArray} {kp dn : Bool} (hk : Blk w p 162 (rfC mt vb e m1 m2 ms vf vd kp dn)) (x1 x2 : ByteArray) (s : Int) (v1 v2 : Value) :
    ∃ W, ((((w.setCell ⟨p, 3, none⟩ (.string x1)).setCell ⟨p, 4, none⟩ (.string x2)).setCell ⟨p, 5, none⟩ (.int .i64 s)).setCell ⟨p, 6, none⟩ v1).setCell ⟨p, 7, none⟩ v2 = W ∧ Blk W p 162 (rfC mt vb e x1 x2 s v1 v2 kp dn) ∧ Keep (fun q => q = p) w W := by
  refine ⟨_, rfl, ?_, ?_⟩
  · have h := ((((hk.set_ 3 (.string x1)).set_ 4 (.string x2)).set_ 5 (.int .i64 s)).set_ 6 v1).set_ 7 v2
    simpa [rfC] using h
  · exact Keep.setCell (p := ⟨p, 7, none⟩) (Keep.setCell (p := ⟨p, 6, none⟩) (Keep.setCell (p := ⟨p, 5, none⟩) (Keep.setCell (p := ⟨p, 4, none⟩) (Keep.setCell (p := ⟨p, 3, none⟩) (Keep.refl (fun q => q = p) w) rfl _) rfl _) rfl _) rfl _) rfl _
theorem ak_ne {w : World} {B n c K p : Nat} {A : Option Addr} {xs : List Value} (h : Lies w B A n xs) (hn : 0 < n) (hA : 0 < n → ∀ g o, A = some ⟨g, o, none⟩ → g ≠ p) : ∀ g o, (if c = K then A else Option.map (fun a => a.add K) A) = some ⟨g, o, none⟩ → g ≠ p := by
  obtain ⟨b, o', rfl, _⟩ := h.2 hn
  intro g o e
  have h9 := hA hn b o' rfl
  split at e
  · injection e with e
    injection e with e _
    omega
  · simp only [Option.map_some, Addr.add_lit] at e
    injection e with e
    injection e with e _
    omega

set_option maxRecDepth 100000 in
set_option maxHeartbeats 4000000 in
theorem rflook_any (p : Nat) (w : World) (mt : ByteArray) (A : Option Addr) (n c : Nat) (L : List UInt8) (ended : Bool) (hk : Blk w p 162 (rf0 mt (.slice A n c) 0))
    (h : Lies w w.heap.size A n (Lib.byteCells L)) (hA : 0 < n → ∀ g o, A = some ⟨g, o, none⟩ → g ≠ p) (hc : n ≤ c) (hn : n < 60000) :
    Calls Tryz.prog 142 #[.pointer (some ⟨p, 0, none⟩), .bool ended] w (LkPost p w mt (.slice A n c) L ended) := by
  have hll : L.length = n := by simpa [Lib.byteCells] using h.1
  have hal : Below w.heap.size w (w.alloc (.cells #[.string ⟨#[]⟩, .string ⟨#[]⟩, .int .i64 0, .slice none 0 0, .slice none 0 0] 25)) := (Below.refl _ _).alloc (Nat.le_refl _) _
  have hM0 := Blk.new w 25 #[.string ⟨#[]⟩, .string ⟨#[]⟩, .int .i64 0, .slice none 0 0, .slice none 0 0]
  have HK := Lib.hid hk
  have H := Lib.hid h
  have HNA := Lib.hid hA
  have HLL := Lib.hid hll
  have HAL := Lib.hid hal
  have HM0 := Lib.hid hM0
  have hpl := hk.lt
  clear hk h hll hal hM0 hA
  go_enter Tryz.func142, Tryz.ntmps142
  go_wp2_with fail
  generalize w.alloc (.cells #[.string ⟨#[]⟩, .string ⟨#[]⟩, .int .i64 0, .slice none 0 0, .slice none 0 0] 25) = W0 at *
  go_loopw [5] (fun a wr => ∃ k : Nat, k ≤ n ∧ a = .int .i64 (k : Int) ∧ Hid (headA 0 L = headA k (L.drop k)) ∧ Hid (Below w.heap.size w wr) ∧ ∃ s1 s2 st v1, Hid (Blk wr w.heap.size 25 #[.string s1, .string s2, .int .i64 st, v1, .slice none 0 0])) (fun a _ => n - (intOf a).toNat)
  case atStart => exact ⟨0, Nat.zero_le _, rfl, rfl, HAL, _, _, _, _, HM0⟩
  case round =>
    obtain ⟨k, hkn, rfl, HH, HB, s1, s2, st, v1, HMB⟩ := hrel
    have KR := HK.out.below HB.out hpl
    have c1 := KR.cell 1
    simp [rf0, rfC] at c1
    have hzr := HB.out.size
    have hg0 := rgetm_any (if c = k then A else Option.map (fun a => a.add k) A) (n - k) (c - k) (L.drop k) wr ((lies_drop ((H.out.below HB.out).more hzr) hkn hc)) (by omega) (by omega)
    obtain ⟨Ak, hAk⟩ : ∃ Ak, (if c = k then A else Option.map (fun a => a.add k) A) = Ak := ⟨_, rfl⟩
    rw [hAk] at hg0
    have HG := Lib.hid hg0
    have HKR := Lib.hid KR
    clear KR hg0
    go_wp2_with fail
    refine (HG.out).mono ?_
    rintro e w2 ⟨⟨va, rfl, hoa⟩, hb2⟩
    obtain ⟨Aa, ca, rfl⟩ := own_form hoa
    have hMr := HMB.out.below hb2 HMB.out.lt
    have hx2 := Blk.new w2 25 #[.string (gM statusK (L.drop k)), .string (gT statusK (L.drop k)), .int .i64 (gS statusK (L.drop k)), .slice Aa (gF statusK (L.drop k)).length ca, .slice none 0 0]
    have hal2 : Below w2.heap.size w2 (w2.alloc (.cells #[.string (gM statusK (L.drop k)), .string (gT statusK (L.drop k)), .int .i64 (gS statusK (L.drop k)), .slice Aa (gF statusK (L.drop k)).length ca, .slice none 0 0] 25)) := (Below.refl _ _).alloc (Nat.le_refl _) _
    have hzM := HMB.out.lt
    have X2 := Lib.hid hx2
    have B2 := Lib.hid (HB.out.trans ((hb2.trans (hal2.mono hb2.size)).mono HB.out.size))
    have R2 := Lib.hid ((HKR.out.below hb2 HKR.out.lt).below hal2 (HKR.out.below hb2 HKR.out.lt).lt)
    have M2 := Lib.hid (hMr.below hal2 hMr.lt)
    have O2 := Lib.hid (own_below (ownsRow_base hoa hzr) hal2)
    clear hb2 hoa hMr hx2 hal2 HG c1
    go_upto_region 4 with fail
    generalize w2.alloc (.cells #[.string (gM statusK (L.drop k)), .string (gT statusK (L.drop k)), .int .i64 (gS statusK (L.drop k)), .slice Aa (gF statusK (L.drop k)).length ca, .slice none 0 0] 25) = W2 at *
    generalize w2.heap.size = gx at *
    by_cases h7 : gE statusK (L.drop k) = 7
    · have hd : (gE statusK (L.drop k) == 7) = true := beq_iff_eq.2 h7
      have HZ := Lib.hid (lookA_short (mt := mt) (HH.out.trans (headA_short h7)))
      go_wp2_with fail
      go_ret
      exact ⟨Keep.of_below B2.out, .inr (.inl ⟨.inl HZ.out, rfl, R2.out⟩)⟩
    have hd : (gE statusK (L.drop k) == 7) = false := beq_eq_false_iff_ne.2 h7
    by_cases h0 : gE statusK (L.drop k) = 0
    · have hd2 : (gE statusK (L.drop k) == 0) = true := beq_iff_eq.2 h0
      have hd3 : (gE statusK (L.drop k) != 0) = false := by unfold bne; rw [hd2]; rfl
      obtain ⟨hq4, hql, hqn⟩ := gN_pos h0 (by rw [List.length_drop, HLL.out]; omega)
      obtain ⟨q, hqq⟩ : ∃ q, (gN statusK (L.drop k)).toNat = q := ⟨_, rfl⟩
      rw [hqq] at hq4 hql hqn
      rw [List.length_drop, HLL.out] at hql
      have HQN := Lib.hid hqn
      rw [hqn]
      obtain ⟨W5, hW5, hk5, ht5, hbel5, hs5⟩ := set_five M2.out (.string (gM statusK (L.drop k))) (.string (gT statusK (L.drop k))) (.int .i64 (gS statusK (L.drop k))) (.slice Aa (gF statusK (L.drop k)).length ca) (.slice none 0 0)
      have HW5 := Lib.hid hW5
      have B5 := Lib.hid (B2.out.trans (hbel5 _ (Nat.le_refl _)))
      have R5 := Lib.hid (R2.out.below (hbel5 _ (Nat.le_refl _)) hpl)
      have M5 := Lib.hid hk5
      have O5 := Lib.hid (own_tys O2.out ht5 (by decide))
      have x0 := X2.out.cell 0
      have x1 := X2.out.cell 1
      have x2 := X2.out.cell 2
      have x3 := X2.out.cell 3
      have x4 := X2.out.cell 4
      have m0 := M2.out.cell 0
      have m1 := M2.out.cell 1
      have m2 := M2.out.cell 2
      have m3 := M2.out.cell 3
      have m4 := M2.out.cell 4
      have f0 := M2.out.frozen 0
      have f1 := M2.out.frozen 1
      have f2 := M2.out.frozen 2
      have f3 := M2.out.frozen 3
      have f4 := M2.out.frozen 4
      have y2 := hk5.cell 2
      simp at x0 x1 x2 x3 x4 m0 m1 m2 m3 m4 y2
      clear hqn hqq hW5 hk5 ht5 hbel5 hs5
      go_upto_region 11 with fail
      rw [HW5.out]
      clear x0 x1 x2 x3 x4 m0 m1 m2 m3 m4 f0 f1 f2 f3 f4
      by_cases hs : gS statusK (L.drop k) < 200
      · have hd4 : decide ((200 : Int) ≤ gS statusK (L.drop k)) = false := decide_eq_false (by omega)
        have HN2 : Hid (headA 0 L = headA (k + q) (L.drop (k + q))) := by
          have h1 := headA_next (a := k) h0 hs (by rw [List.length_drop, HLL.out]; omega)
          rw [HQN.out, Int.toNat_natCast, List.drop_drop] at h1
          exact Lib.hid (HH.out.trans h1)
        go_wp2_with fail
        go_roundw
        case rel => exact ⟨k + q, by omega, by go_num, HN2, B5, _, _, _, _, M5⟩
        case measure => simp [intOf]; omega
      · have hd4 : decide ((200 : Int) ≤ gS statusK (L.drop k)) = true := decide_eq_true (by omega)
        have hfin : headA 0 L = .fin (k + q) (gS statusK (L.drop k)) (gF statusK (L.drop k)) := by
          rw [HH.out, headA_fin h0 hs, HQN.out, Int.toNat_natCast]
        have HLK := Lib.hid (lookA_fin (mt := mt) hfin)
        have hFz := gF_len statusK (L.drop k)
        have hFs := gF_sum statusK (L.drop k)
        have hsr := gS_range (L.drop k)
        rw [List.length_drop, HLL.out] at hFs
        have hfd : ∀ f ∈ gF statusK (L.drop k), f.1.size ≤ 1000000 ∧ f.2.size ≤ 1000000 := by
          intro x hx
          obtain ⟨j, hj⟩ := List.mem_iff_getElem?.1 hx
          have e1 := fsum_succ (gF statusK (L.drop k)) j x hj
          have e2 := fsum_le (gF statusK (L.drop k)) (j + 1)
          omega
        have HFS := Lib.hid hfd
        clear hfin hfd y2 HH
        generalize gS statusK (L.drop k) = S at *
        generalize gF statusK (L.drop k) = F at *
        generalize gM statusK (L.drop k) = S1 at *
        generalize gT statusK (L.drop k) = S2 at *
        have hKn : k + q ≤ n := by omega
        obtain ⟨K, hK⟩ : ∃ K, k + q = K := ⟨_, rfl⟩
        have hKi : (k : Int) + (q : Int) = (K : Int) := by omega
        rw [hK] at HLK hKn
        have hKc : (K : Int) ≤ (c : Int) := by omega
        have c0 := R5.out.cell 0
        have c1 := R5.out.cell 1
        have b0 := M5.out.cell 0
        have b1 := M5.out.cell 1
        have b2 := M5.out.cell 2
        have b3 := M5.out.cell 3
        have b4 := M5.out.cell 4
        simp [rf0, rfC] at c0 c1 b0 b1 b2 b3 b4
        have HH := Lib.hid (rhow_any mt S1 S2 S Aa none F.length ca 0 0 F W5.drew (fread_own rfl O5.out) (by omega) HFS.out)
        obtain ⟨⟨z1, z2, z3⟩, hz⟩ : ∃ z, howM mt S F = z := ⟨_, rfl⟩
        have hsix := howM_six mt S F
        rw [hz] at hsix HH
        have HZ := Lib.hid hz
        have HSIX := Lib.hid hsix
        clear hz hsix hd hd2 hd3 h7 h0 hs hql hq4 hK
        go_upto_region 12 with fail
        go_cut [5, 10, 11, 12] from 20 (fun s5 s10 s11 s12 wx => s5 = .int .i64 (K : Int) ∧ s10 = .int .i64 z1 ∧ s11 = .int .i64 z2 ∧ s12 = .int .i64 z3 ∧ Hid (Below W5.heap.size W5 wx))
        case first =>
          have hlv : lenV .i64 (z1, z2, z3) = .tuple #[.int .i64 z1, .int .i64 z2, .int .i64 z3] := rfl
          go_region_with ((go_at_call 43; refine (HH.out).mono ?_; rintro e w5 ⟨rfl, hb5⟩))
          all_goals
            go_wp2_with fail
            go_meet
            exact ⟨rfl, rfl, rfl, rfl, below_undrew hb5⟩
        case rest =>
        obtain ⟨rfl, rfl, rfl, rfl, hb6⟩ := hcut
        have B6 := Lib.hid (B5.out.trans (hb6.out.mono B5.out.size))
        have R6 := Lib.hid (R5.out.below hb6.out R5.out.lt)
        have M6 := Lib.hid (M5.out.below hb6.out M5.out.lt)
        have O6 := Lib.hid (own_below O5.out hb6.out)
        clear HH c0 c1 b0 b1 b2 b3 b4 hb6 R5 M5 O5 B5 HW5 X2 M2 R2 O2 B2 HMB HKR HB hAk hKi hkn
        have r1 := R6.out.cell 1
        have r2 := R6.out.cell 2
        have g2 := R6.out.frozen 2
        simp [rf0, rfC] at r1 r2
        by_cases h3 : z3 = 0
        · subst h3
          have HLR := Lib.hid (lies_drop ((H.out.below B6.out).more B6.out.size) hKn hc)
          obtain ⟨AK, hAK⟩ : ∃ AK, (if c = K then A else Option.map (fun a => a.add K) A) = AK := ⟨_, rfl⟩
          have HAN := Lib.hid (fun (hx : 0 < n - K) => ak_ne (c := c) (K := K) H.out (show 0 < n by omega) HNA.out)
          rw [hAK] at HLR HAN
          have hlr : (L.drop K).length = n - K := by rw [List.length_drop, HLL.out]
          have hgt : decide ((65536 : Int) < ((n - K : Nat) : Int)) = false := decide_eq_false (by omega)
          go_upto_block 2 with fail
          go_cut [5, 14, 15] from 58 (fun s5 s14 s15 wx => ∃ (N : Nat) (Ab : Option Addr) (cb : Nat) (xb : List UInt8) (wh : Bool), s5 = .int .i64 (N : Int) ∧ s14 = .slice Ab xb.length cb ∧ s15 = .bool wh ∧ N ≤ 200000 ∧ xb.length ≤ 60000 ∧ Hid (LkMid mt L S F z1 ended N xb wh) ∧ Hid (Lies wx wx.heap.size Ab xb.length (Lib.byteCells xb)) ∧ Hid (Below wc.heap.size wc wx) ∧ Hid (0 < xb.length → ∀ g o, Ab = some ⟨g, o, none⟩ → g ≠ p))
          case first =>
            rcases HSIX.out with h | h | h | h | h | ⟨m, hm6, h⟩
            · obtain ⟨rfl, rfl, _⟩ := three_eq h
              have HE := Lib.hid (HLK.out.trans (bodyA_none HZ.out))
              clear h HSIX HZ HLK
              go_wp2_with fail
              go_meet
              exact ⟨K, none, 0, [], true, rfl, rfl, rfl, by omega, by simp, .inr ⟨rfl, .inl ⟨by decide, HE.out⟩⟩, ⟨rfl, fun h => absurd h (by simp)⟩, Below.refl _ _, fun h => absurd h (by simp)⟩
            · obtain ⟨rfl, rfl, _⟩ := three_eq h
              have HE := Lib.hid (HLK.out.trans (bodyA_rest HZ.out (by omega)))
              clear h HSIX HZ HLK
              go_wp2_with fail
              go_meet
              have he := HE.out
              rw [hlr, show K + (n - K) = n by omega] at he
              refine ⟨n, AK, c - K, L.drop K, ended, rfl, by rw [hlr], rfl, by omega, by omega, ?_, by rw [hlr]; exact HLR, Below.refl _ _, fun h => HAN.out (by rw [hlr] at h; exact h)⟩
              cases ended with
              | true => exact .inr ⟨rfl, .inr ⟨rfl, rfl, he⟩⟩
              | false => exact .inl ⟨rfl, .inr ⟨rfl, _, _, _, _, he⟩⟩
            · obtain ⟨rfl, rfl, _⟩ := three_eq h
              have hlen := chunkA_len (L.drop K)
              rw [hlr] at hlen
              have HC := Lib.hid (r13chunked_any AK (n - K) (c - K) (L.drop K) wc HLR.out (by omega) (by omega))
              obtain ⟨a, ha⟩ : ∃ a, chunkA (L.drop K) = a := ⟨_, rfl⟩
              have HAA := Lib.hid ha
              have hlk2 := HLK.out.trans (bodyA_chunks HZ.out)
              rw [ha] at hlen hlk2
              have HLK2 := Lib.hid hlk2
              clear ha hlk2 h HSIX HZ HLK
              go_wp2_with fail
              refine (HC.out).mono ?_
              rintro e w7 ⟨vb, rfl, ho7, hb7⟩
              obtain ⟨A7, c7, rfl⟩ := own_form ho7
              rw [hlr, HAA.out]
              rw [HAA.out] at ho7
              have B7 := Lib.hid (B6.out.trans (hb7.mono B6.out.size))
              have R7 := Lib.hid (R6.out.below hb7 R6.out.lt)
              have r7 := R7.out.cell 2
              have g7 := R7.out.frozen 2
              simp [rf0, rfC] at r7
              have O7 := Lib.hid ho7
              have C7 := Lib.hid hb7
              have hpc := R6.out.lt
              have HP7 := Lib.hid (fun z => (by have h2 := R7.out.set_ 2 (.int .i64 z); simpa [rf0, rfC] using h2 : Blk (w7.setCell ⟨p, 2, none⟩ (.int .i64 z)) p 162 (rf0 mt (.slice A n c) z)))
              clear ho7 hb7 HC r1 r2 g2
              cases a with
              | err z =>
                have HE := Lib.hid (show lookA mt L = .err z from HLK2.out)
                rw [show ansE (.err z) = z from rfl, show ((ansN (n - K) (.err z) : Nat) : Int) = 0 from rfl, show ansD (.err z) = false from rfl, show (ansB (.err z)).length = 0 from rfl]
                rcases chunkA_err HAA.out with rfl | rfl
                all_goals
                  clear HAA HLK2 O7
                  go_wp2_with fail
                  go_ret
                  exact ⟨Keep.setCell (X := fun q => q = p) (p := ⟨p, 2, none⟩) (Keep.of_below B7.out) rfl _, .inl ⟨_, HE.out, rfl, HP7.out _⟩⟩
              | more b =>
                have HE := Lib.hid (show lookA mt L = .wait from HLK2.out)
                rw [show ansE (.more b) = 0 from rfl, show ((ansN (n - K) (.more b) : Nat) : Int) = ((n - K : Nat) : Int) from rfl, show ansD (.more b) = false from rfl, show (ansB (.more b)).length = b.length from rfl]
                have O8 : Hid (w7.ownsRow wc.heap.size 5 1 (.slice A7 b.length c7) b.length (Lib.byteCells b)) := O7
                have hlb : b.length ≤ n - K := hlen
                have hd8 : decide ((65536 : Int) < (b.length : Int)) = false := decide_eq_false (by omega)
                clear HAA HLK2 O7 hlen
                go_wp2_with fail
                go_meet
                exact ⟨K + (n - K), A7, c7, b, false, by simp, rfl, rfl, by omega, by omega, .inl ⟨rfl, .inl HE.out⟩, Lies.of_own O8.out, C7, fun _ g o e => by have := (O8.out.lt g (by rw [e]; rfl)).1; omega⟩
              | done b q =>
                have hq := chunk_len _ _ _ _ _ (show chunkG ((L.drop K).length + 1) 0 (L.drop K) = .done b q from HAA.out)
                rw [hlr] at hq
                have he : lookA mt L = .done (K + ((L.drop K).length - q.length)) S F b (keepB F) := HLK2.out
                rw [hlr] at he
                have HE := Lib.hid he
                rw [show ansE (.done b q) = 0 from rfl, show ((ansN (n - K) (.done b q) : Nat) : Int) = ((n - K - q.length : Nat) : Int) from rfl, show ansD (.done b q) = true from rfl, show (ansB (.done b q)).length = b.length from rfl]
                have O8 : Hid (w7.ownsRow wc.heap.size 5 1 (.slice A7 b.length c7) b.length (Lib.byteCells b)) := O7
                have hlb : b.length ≤ n - K := hlen
                have hd8 : decide ((65536 : Int) < (b.length : Int)) = false := decide_eq_false (by omega)
                obtain ⟨y, hy⟩ : ∃ y, n - K - q.length = y := ⟨_, rfl⟩
                rw [hy] at HE ⊢
                have hyn : y ≤ n := by omega
                clear HAA HLK2 O7 hlen he hq hy
                go_wp2_with fail
                go_meet
                exact ⟨K + y, A7, c7, b, true, by simp, rfl, rfl, by omega, by omega, .inr ⟨rfl, .inl ⟨by decide, HE.out⟩⟩, Lies.of_own O8.out, C7, fun _ g o e => by have := (O8.out.lt g (by rw [e]; rfl)).1; omega⟩
            · exact absurd (three_eq h).2.2 (by decide)
            · exact absurd (three_eq h).2.2 (by decide)
            · obtain ⟨rfl, rfl, _⟩ := three_eq h
              have he := HLK.out.trans (bodyA_len HZ.out)
              rw [hlr] at he
              have HE := Lib.hid he
              have hd8 : decide ((65536 : Int) < (m : Int)) = false := decide_eq_false (by omega)
              clear h HSIX HZ HLK he
              by_cases hm : m ≤ n - K
              · have hd9 : decide ((m : Int) ≤ ((n - K : Nat) : Int)) = true := decide_eq_true (by omega)
                go_wp2_with fail
                go_meet
                have he := HE.out
                rw [if_pos hm] at he
                have hml : ((L.drop K).take m).length = m := by rw [List.length_take, hlr]; omega
                exact ⟨K + m, AK, c - K, (L.drop K).take m, true, by simp, by rw [hml], rfl, by omega, by omega, .inr ⟨rfl, .inl ⟨by decide, he⟩⟩, by rw [hml]; exact lies_cut HLR.out hm, Below.refl _ _, fun h => HAN.out (by omega)⟩
              · have hd9 : decide ((m : Int) ≤ ((n - K : Nat) : Int)) = false := decide_eq_false (by omega)
                go_wp2_with fail
                go_meet
                have he := HE.out
                rw [if_neg hm] at he
                exact ⟨K, none, 0, [], false, rfl, rfl, rfl, by omega, by simp, .inl ⟨rfl, .inl he⟩, ⟨rfl, fun h => absurd h (by simp)⟩, Below.refl _ _, fun h => absurd h (by simp)⟩
          case rest =>
          obtain ⟨N, Ab, cb, xb, wh, rfl, rfl, rfl, hN, hxb, HMID, HLX, BW, HAN2⟩ := hcut
          have B8 := Lib.hid (B6.out.trans (BW.out.mono B6.out.size))
          have R8 := Lib.hid (R6.out.below BW.out R6.out.lt)
          have M8 := Lib.hid (M6.out.below BW.out M6.out.lt)
          have O8 := Lib.hid (own_below O6.out BW.out)
          clear R6 M6 O6 r1 r2 g2 HLR BW HLK HSIX HAN B6 HZ
          cases wh with
          | false =>
            go_wp2_with fail
            go_ret
            rcases HMID.out with ⟨_, h⟩ | ⟨h, _⟩
            · exact ⟨Keep.of_below B8.out, .inr (.inl ⟨h, rfl, R8.out⟩)⟩
            · cases h
          | true =>
            have t9 := R8.out.cell 9
            have g9 := R8.out.frozen 9
            simp [rf0, rfC] at t9
            have hwp : w.heap.size ≠ p := by omega
            have hk9 : Blk (wc.setCell ⟨p, 9, none⟩ (.bool true)) p 162 (rfC mt (.slice A n c) 0 ⟨#[]⟩ ⟨#[]⟩ 0 (.slice none 0 0) (.slice none 0 0) false true) := by
              have h2 := R8.out.set_ 9 (.bool true)
              simpa [rf0, rfC] using h2
            have hkp9 : Keep (fun q => q = p) wc (wc.setCell ⟨p, 9, none⟩ (.bool true)) := Keep.setCell (p := ⟨p, 9, none⟩) (Keep.refl (fun q => q = p) wc) rfl _
            have K9 := Lib.hid ((Keep.of_below (X := fun q => q = p) B8.out).trans hkp9)
            have M9 := Lib.hid (M8.out.keep hkp9 hwp)
            have O9 := Lib.hid (own_keepX O8.out hkp9 (fun g hg e => by have := (O8.out.lt g hg).1; omega))
            have L9 := Lib.hid ((lies_keep hkp9 HLX.out HAN2.out).more hkp9.size)
            have R9 := Lib.hid hk9
            have hz9 : w.heap.size ≤ (wc.setCell ⟨p, 9, none⟩ (.bool true)).heap.size := K9.out.size
            clear hk9 hkp9 R8 M8 O8 HLX HAN2 B8
            go_upto_region 50 with fail
            clear t9 g9
            generalize wc.setCell ⟨p, 9, none⟩ (.bool true) = W9 at *
            obtain ⟨i0, hi, hi0, hi1, hi2⟩ := info_parts infoU
            obtain ⟨i1, hf, hf0, hf1, hf2⟩ := info_parts infoF
            have HRF := Lib.hid (fun (W : World) (hb : Below W9.heap.size W9 W) => fread_reads (fread_own rfl (own_below O9.out hb)))
            have HRB := Lib.hid (fun (W : World) (hb : Below W9.heap.size W9 W) => ((L9.out.below hb).more hb.size).reads)
            have HCS := Lib.hid (fun (W : World) (hb : Below W9.heap.size W9 W) => (by
              have hw := M9.out.below hb M9.out.lt
              have k2 := hw.cell 2
              have k3 := hw.cell 3
              simp at k2 k3
              exact ⟨k2, k3⟩ : W.cell? ⟨w.heap.size, 2, none⟩ = some (.int .i64 S) ∧ W.cell? ⟨w.heap.size, 3, none⟩ = some (.slice Aa F.length ca)))
            have HCP := Lib.hid (fun (W : World) (hb : Below W9.heap.size W9 W) => R9.out.below hb R9.out.lt)
            go_cut [] from 133 (fun wx => ∃ A1 c1 A2 c2, Hid (Blk wx p 162 (rfC mt (.slice A n c) 0 ⟨#[]⟩ ⟨#[]⟩ S (.slice A1 F.length c1) (.slice A2 xb.length c2) false true)) ∧ Hid (wx.ownsRow w.heap.size 63 2 (.slice A1 F.length c1) F.length (fcells F)) ∧ Hid (wx.ownsRow w.heap.size 5 1 (.slice A2 xb.length c2) xb.length (Lib.byteCells xb)) ∧ Hid (Keep (fun q => q = p) w wx) ∧
              Hid (Blk wx w.heap.size 25 #[.string S1, .string S2, .int .i64 S, .slice Aa F.length ca, .slice none 0 0]) ∧ Hid (wx.ownsRow w.heap.size 63 2 (.slice Aa F.length ca) F.length (fcells F)))
            case first =>
              have V0 : Below W9.heap.size W9 W9.drew := (Below.refl _ W9).drew
              obtain ⟨k2, k3⟩ := HCS.out W9.drew V0
              go_region_law (first
                | (refine step_append_any _ rfl _ _ 22 rfl W9.heap.size 63 i1 _ 2 32 Tryz.underlying22 hf hf0 hf1 hf2 rfl (by decide) (Value.slice none 0 0) 0 [] rfl (World.ownsRow_nil _ _ _ _) _ Aa F.length ca (fcells F) rfl (HRF.out _ VB) (fcells_one F) (by unfold maxLen; omega) (by omega) VB.size ?_; intro vz wz ownz gz _; rw [Nat.zero_add, List.nil_append] at ownz; have VZ := VB.grown gz VB.size (fun j hj => by cases hj); have OB := own_kept PB gz (fun b _ e => by cases e); have OF := ownz; obtain ⟨k2, k3⟩ := HCS.out wz VZ; obtain ⟨A1, c1, rfl⟩ := own_form OF; have PZ := HCP.out wz VZ; have p3 := PZ.cell 3; have p4 := PZ.cell 4; have p5 := PZ.cell 5; have p6 := PZ.cell 6; have p7 := PZ.cell 7; have q3 := PZ.frozen 3; have q4 := PZ.frozen 4; have q5 := PZ.frozen 5; have q6 := PZ.frozen 6; have q7 := PZ.frozen 7; simp [rfC] at p3 p4 p5 p6 p7; clear ownz gz)
                | (refine step_append_any _ rfl _ _ 23 rfl W9.heap.size 5 i0 _ 1 1 Tryz.underlying23 hi hi0 hi1 hi2 rfl (by decide) (Value.slice none 0 0) 0 [] rfl (World.ownsRow_nil _ _ _ _) _ Ab xb.length cb (Lib.byteCells xb) rfl (HRB.out _ VF) (cells_one xb) (by unfold maxLen; omega) (by omega) VF.size ?_; intro vz wz ownz gz _; rw [Nat.zero_add, List.nil_append] at ownz; have VZ := VF.grown gz VF.size (fun j hj => by cases hj); have OF := own_kept PF gz (fun b _ e => by cases e); have OB := ownz; obtain ⟨k2, k3⟩ := HCS.out wz VZ; obtain ⟨A2, c2, rfl⟩ := own_form OB; have PZ := HCP.out wz VZ; have p3 := PZ.cell 3; have p4 := PZ.cell 4; have p5 := PZ.cell 5; have p6 := PZ.cell 6; have p7 := PZ.cell 7; have q3 := PZ.frozen 3; have q4 := PZ.frozen 4; have q5 := PZ.frozen 5; have q6 := PZ.frozen 6; have q7 := PZ.frozen 7; simp [rfC] at p3 p4 p5 p6 p7; clear ownz gz)
                | (refine step_append_any _ rfl _ _ 22 rfl W9.heap.size 63 i1 _ 2 32 Tryz.underlying22 hf hf0 hf1 hf2 rfl (by decide) (Value.slice none 0 0) 0 [] rfl (World.ownsRow_nil _ _ _ _) _ Aa F.length ca (fcells F) rfl (HRF.out _ V0) (fcells_one F) (by unfold maxLen; omega) (by omega) V0.size ?_; intro vf wf ownf gf _; rw [Nat.zero_add, List.nil_append] at ownf; have VF := V0.grown gf V0.size (fun j hj => by cases hj); have PF := ownf; obtain ⟨k2, k3⟩ := HCS.out wf VF; obtain ⟨A1, c1, rfl⟩ := own_form PF; clear ownf gf)
                | (refine step_append_any _ rfl _ _ 23 rfl W9.heap.size 5 i0 _ 1 1 Tryz.underlying23 hi hi0 hi1 hi2 rfl (by decide) (Value.slice none 0 0) 0 [] rfl (World.ownsRow_nil _ _ _ _) _ Ab xb.length cb (Lib.byteCells xb) rfl (HRB.out _ V0) (cells_one xb) (by unfold maxLen; omega) (by omega) V0.size ?_; intro vf wf ownf gf _; rw [Nat.zero_add, List.nil_append] at ownf; have VB := V0.grown gf V0.size (fun j hj => by cases hj); have PB := ownf; obtain ⟨k2, k3⟩ := HCS.out wf VB; obtain ⟨A2, c2, rfl⟩ := own_form PB; clear ownf gf))
              all_goals
                go_wp2_with fail
                go_meet
                obtain ⟨W5, hW5, hk5, hp5⟩ := set_rf PZ ⟨#[]⟩ ⟨#[]⟩ S (.slice A1 F.length c1) (.slice A2 xb.length c2)
                rw [hW5]
                exact ⟨A1, c1, A2, c2, hk5, own_keepX (ownsRow_base OF hz9) hp5 (fun g hg e => by have := (OF.lt g hg).1; omega), own_keepX (ownsRow_base OB hz9) hp5 (fun g hg e => by have := (OB.lt g hg).1; omega), (K9.out.trans (Keep.of_below VZ)).trans hp5,
                  (M9.out.below VZ M9.out.lt).keep hp5 hwp, own_keepX (own_below O9.out VZ) hp5 (fun g hg e => by have := (O9.out.lt g hg).1; omega)⟩
            case rest =>
            obtain ⟨A1, c1, A2, c2, RX, OFX, OBX, KX, MX, OX⟩ := hcut
            clear HRF HRB HCS HCP K9 M9 O9 L9 R9
            have x0 := MX.out.cell 0
            have x1 := MX.out.cell 1
            have x2 := MX.out.cell 2
            have x3 := MX.out.cell 3
            have x4 := MX.out.cell 4
            have y8 := RX.out.cell 8
            have f8 := RX.out.frozen 8
            simp [rfC] at x0 x1 x2 x3 x4 y8
            have hfin : ∀ (W : World) (kk : Bool), Below wc.heap.size wc W → (lookA mt L = .done N S F xb kk ∨ (ended = true ∧ kk = false ∧ lookA mt L = .opn N S F xb)) → LkPost p w mt (.slice A n c) L ended (.returned (.int .i64 ((N : Nat) : Int))) (W.setCell ⟨p, 8, none⟩ (.bool kk)) := fun W kk hb hl => by
              have hs : Keep (fun q => q = p) W (W.setCell ⟨p, 8, none⟩ (.bool kk)) := Keep.setCell (p := ⟨p, 8, none⟩) (Keep.refl (fun q => q = p) W) rfl _
              have h2 := (RX.out.below hb RX.out.lt).set_ 8 (.bool kk)
              exact ⟨(KX.out.trans (Keep.of_below hb)).trans hs, .inr (.inr ⟨N, S, F, xb, kk, hl, rfl, _, _, by simpa [rfC] using h2, own_keepX (own_below OFX.out hb) hs (fun g hg e => by have := (OFX.out.lt g hg).1; omega), own_keepX (own_below OBX.out hb) hs (fun g hg e => by have := (OBX.out.lt g hg).1; omega)⟩)⟩
            have HFIN := Lib.hid hfin
            have HY8 := Lib.hid (fun (W : World) (hb : Below wc.heap.size wc W) => (by
              have hw := RX.out.below hb RX.out.lt
              have k8 := hw.cell 8
              simp [rfC] at k8
              exact ⟨k8, hw.frozen 8⟩ : W.cell? ⟨p, 8, none⟩ = some (.bool false) ∧ W.frozen? ⟨p, 8, none⟩ = false))
            have HKP := Lib.hid (rfkeeps_any S1 S2 S Aa none F.length ca 0 0 F wc (fread_own rfl OX.out) (by omega) HFS.out)
            clear hfin RX OFX OBX KX MX OX
            rcases HMID.out with ⟨h, _⟩ | ⟨_, ⟨hk3, hl⟩ | ⟨rfl, rfl, hl⟩⟩
            · cases h
            · have hne : (z1 == 3) = false := beq_eq_false_iff_ne.2 hk3
              have hne2 : (z1 != 3) = true := by unfold bne; rw [hne]; rfl
              have HL := Lib.hid hl
              clear hk3 hl HMID
              go_wp2_with fail
              refine (HKP.out).mono ?_
              rintro e w10 ⟨rfl, hb10⟩
              obtain ⟨k8, g8⟩ := HY8.out w10 hb10
              have HB10 := Lib.hid hb10
              obtain ⟨kk, hkk⟩ : ∃ kk, keepB F = kk := ⟨_, rfl⟩
              have HKK := Lib.hid hkk
              rw [hkk]
              clear hb10 HKP y8 f8 x0 x1 x2 x3 x4 hkk
              go_wp2_with fail
              go_ret
              exact HFIN.out w10 kk HB10.out (.inl (by rw [← HKK.out]; exact HL.out))
            · have HL := Lib.hid hl
              clear hl HMID HKP
              go_wp2_with fail
              go_ret
              exact HFIN.out wc false (Below.refl _ _) (.inr (by refine ⟨?_, ?_, HL.out⟩ <;> simp))
        · have hzz : (z3 == 0) = false := beq_eq_false_iff_ne.2 h3
          have hzn : (z3 != 0) = true := by unfold bne; rw [hzz]; rfl
          have HE := Lib.hid (HLK.out.trans (bodyA_err HZ.out h3))
          clear h3 HSIX HZ HLK
          go_wp2_with fail
          go_ret
          have h2 := R6.out.set_ 2 (.int .i64 z3)
          exact ⟨Keep.setCell (X := fun q => q = p) (p := ⟨p, 2, none⟩) (Keep.of_below B6.out) rfl _, .inl ⟨z3, HE.out, rfl, by simpa [rf0, rfC] using h2⟩⟩
    · have hd2 : (gE statusK (L.drop k) == 0) = false := beq_eq_false_iff_ne.2 h0
      have hd3 : (gE statusK (L.drop k) != 0) = true := by unfold bne; rw [hd2]; rfl
      have HZ := Lib.hid (lookA_err (mt := mt) (HH.out.trans (headA_err h7 h0)))
      have c2 := R2.out.cell 2
      have f2 := R2.out.frozen 2
      simp [rf0, rfC] at c2
      clear h7 h0
      generalize gE statusK (L.drop k) = z at *
      go_wp2_with fail
      go_ret
      have h2 := R2.out.set_ 2 (.int .i64 z)
      exact ⟨Keep.setCell (X := fun q => q = p) (p := ⟨p, 2, none⟩) (Keep.of_below B2.out) rfl _, .inl ⟨z, HZ.out, rfl, by simpa [rf0, rfC] using h2⟩⟩
end Go.Proofs.YtonlfplloenfcaaGreatDoor
namespace Go.Proofs.YtonlfplloenfcaaGreatDoor
open Go.RowKit

def RfStP (w : World) (base p : Nat) (mt : ByteArray) (P : Nat → Prop) : RSt → Prop
  | .on L => ∃ vb, Blk w p 162 (rf0 mt vb 0) ∧ w.ownsRow base 5 1 vb L.length (Lib.byteCells L) ∧ (∀ g, vb.ownBlock = some g → P g) ∧ (lookA mt L = .wait ∨ ∃ n s f x, lookA mt L = .opn n s f x)
  | .bad z => ∃ vb, Blk w p 162 (rf0 mt vb z)
  | .fin s f x k => ∃ vb vf vd, Blk w p 162 (rfC mt vb 0 ⟨#[]⟩ ⟨#[]⟩ s vf vd k true) ∧ w.ownsRow base 63 2 vf f.length (fcells f) ∧ w.ownsRow base 5 1 vd x.length (Lib.byteCells x) ∧ (∀ g, vf.ownBlock = some g → P g) ∧ (∀ g, vd.ownBlock = some g → P g)
theorem RfStP.keepX {X : Nat → Prop} {w w' : World} {base p : Nat} {mt : ByteArray} {P : Nat → Prop} {st : RSt} (h : RfStP w base p mt P st) (hk : Keep X w w') (hx : ∀ q, X q → ¬ P q) (hp : P p) : RfStP w' base p mt P st := by
  have hxp : ¬ X p := fun e => hx p e hp
  cases st with
  | on L =>
    obtain ⟨vb, h1, h2, h3, h4⟩ := h
    exact ⟨vb, h1.keep hk hxp, own_keepX h2 hk (fun g e hx' => hx g hx' (h3 g e)), h3, h4⟩
  | bad z =>
    obtain ⟨vb, h1⟩ := h
    exact ⟨vb, h1.keep hk hxp⟩
  | fin s f x k =>
    obtain ⟨vb, vf, vd, h1, h2, h3, h4, h5⟩ := h
    exact ⟨vb, vf, vd, h1.keep hk hxp, own_keepX h2 hk (fun g e hx' => hx g hx' (h4 g e)), own_keepX h3 hk (fun g e hx' => hx g hx' (h5 g e)), h4, h5⟩
theorem RfStP.mono {w : World} {base p : Nat} {mt : ByteArray} {P Q : Nat → Prop} {st : RSt} (h : RfStP w base p mt P st) (hq : ∀ q, q < w.heap.size → P q → Q q) : RfStP w base p mt Q st := by
  cases st with
  | on L =>
    obtain ⟨vb, h1, h2, h3, h4⟩ := h
    exact ⟨vb, h1, h2, fun g e => hq g (h2.lt g e).2 (h3 g e), h4⟩
  | bad z => exact h
  | fin s f x k =>
    obtain ⟨vb, vf, vd, h1, h2, h3, h4, h5⟩ := h
    exact ⟨vb, vf, vd, h1, h2, h3, fun g e => hq g (h2.lt g e).2 (h4 g e), fun g e => hq g (h3.lt g e).2 (h5 g e)⟩
theorem rf_start {w : World} {base p : Nat} {mt : ByteArray} {P : Nat → Prop} (hk : Blk w p 162 (rfC mt (.slice none 0 0) 0 ⟨#[]⟩ ⟨#[]⟩ 0 (.slice none 0 0) (.slice none 0 0) false false)) : RfStP w base p mt P (.on []) :=
  ⟨_, hk, World.ownsRow_nil _ _ _ _, fun g e => (by cases e), .inl (look_start mt)⟩

set_option maxRecDepth 100000 in
theorem rfput_ended (p : Nat) (w : World) (A : Option Addr) (n c : Nat) (mt : ByteArray) (vb vf vd : Value) (e0 ms : Int) (m1 m2 : ByteArray) (kp dn : Bool) (hk : Blk w p 162 (rfC mt vb e0 m1 m2 ms vf vd kp dn)) (hd : e0 ≠ 0 ∨ (e0 = 0 ∧ dn = true)) :
    Calls Tryz.prog 62 #[.pointer (some ⟨p, 0, none⟩), .slice A n c] w fun e w' => e = .returned (.tuple #[.int .i64 0, .int .i64 e0]) ∧ ∃ q, w' = w.drewN q := by
  have c2 := hk.cell 2
  have c9 := hk.cell 9
  simp [rfC] at c2 c9
  clear hk
  rcases hd with hz | ⟨rfl, rfl⟩
  · have hzz : (e0 == 0) = false := beq_eq_false_iff_ne.2 hz
    have hzn : (e0 != 0) = true := by unfold bne; rw [hzz]; rfl
    go_enter Tryz.func62, Tryz.ntmps62
    go_wp2_with fail
    go_quiet (fail)
    go_wp2_with fail
    go_ret2
    exact ⟨rfl, _, rfl⟩
  · go_enter Tryz.func62, Tryz.ntmps62
    go_wp2_with fail
    go_quiet (fail)
    go_wp2_with fail
    go_ret2
    exact ⟨rfl, _, rfl⟩
set_option maxRecDepth 100000 in
set_option maxHeartbeats 1000000 in
theorem rfput_on (p : Nat) (w : World) (base : Nat) (mt : ByteArray) (L b : List UInt8) (vb : Value) (A : Option Addr) (n c : Nat) (P : Nat → Prop)
    (hk : Blk w p 162 (rf0 mt vb 0)) (hown : w.ownsRow base 5 1 vb L.length (Lib.byteCells L)) (hv : ∀ g, vb.ownBlock = some g → P g) (hp : P p) (hP : ∀ g, w.heap.size ≤ g → P g)
    (h : Lies w w.heap.size A n (Lib.byteCells b)) (hn : L.length + n < 60000) (hbase : base ≤ w.heap.size) :
    Calls Tryz.prog 62 #[.pointer (some ⟨p, 0, none⟩), .slice A n c] w fun e w' => e = .returned (.tuple #[.int .i64 (putR mt (.on L) b).2.1, .int .i64 (putR mt (.on L) b).2.2]) ∧ Keep P w w' ∧ RfStP w' base p mt P (putR mt (.on L) b).1 := by
  have hll : b.length = n := by simpa [Lib.byteCells] using h.1
  have hnp : ∀ g, vb.ownBlock = some g → ¬ g = p := fun g e => by
    obtain ⟨cs, e1⟩ := own_heap hown e
    rintro rfl
    rw [hk.heap] at e1
    injection e1 with e1
    injection e1 with _ e2
    exact absurd e2 (by decide)
  have hlt := hown.lt
  obtain ⟨Av, cv, rfl⟩ := own_form hown
  obtain ⟨i0, hi, hz0, hz1', hz2'⟩ := info_parts infoU
  have c1 := hk.cell 1
  have c2 := hk.cell 2
  have c9 := hk.cell 9
  have f1 := hk.frozen 1
  simp [rf0, rfC] at c1 c2 c9
  have hpl := hk.lt
  have HK := Lib.hid hk
  have HO := Lib.hid hown
  have HR := Lib.hid h.reads
  have HV := Lib.hid hv
  have HP := Lib.hid hP
  have HNP := Lib.hid hnp
  have HLL := Lib.hid hll
  have HLT := Lib.hid hlt
  clear hk hown h hv hP hnp hll hlt
  go_enter Tryz.func62, Tryz.ntmps62
  go_wp2_with (at_builtin; refine wpList_append_any _ rfl _ _ 23 rfl base 5 i0 _ 1 1 Tryz.underlying23 hi hz0 hz1' hz2' rfl (by decide) (Value.slice Av L.length cv) L.length (Lib.byteCells L) rfl HO.out w.heap.size A n c (Lib.byteCells b) rfl HR.out (cells_one b) (by unfold maxLen; omega) (by omega) hbase ?_; intro v2 w2 hown2 hg2 hor2; obtain ⟨A2, cc2, rfl⟩ := own_form hown2; have hK2 := HK.out.keep (Keep.of_grown hg2) (fun e => HNP.out p e.symm rfl); have K2 := Lib.hid hK2; have d1 := hK2.cell 1; have g1 := hK2.frozen 1; simp [rf0, rfC] at d1; have HO2 := Lib.hid hown2; have HG2 := Lib.hid (And.intro hg2 hor2); clear hown2 hg2 hor2 hK2)
  have hLl : (L ++ b).length = L.length + n := by rw [List.length_append, HLL.out]
  have hk3 : Blk (w2.setCell ⟨p, 1, none⟩ (.slice A2 (L.length + n) cc2)) p 162 (rf0 mt (.slice A2 (L.length + n) cc2) 0) := by
    have := K2.out.set_ 1 (.slice A2 (L.length + n) cc2)
    simpa [rf0, rfC] using this
  have hkp : Keep (fun q => q = p) w2 (w2.setCell ⟨p, 1, none⟩ (.slice A2 (L.length + n) cc2)) := Keep.setCell (p := ⟨p, 1, none⟩) (Keep.refl (fun q => q = p) w2) rfl _
  have hor : ∀ g, (Value.slice A2 (L.length + n) cc2).ownBlock = some g → (Value.slice Av L.length cv).ownBlock = some g ∨ w.heap.size = g := fun g hg => HG2.out.2.elim (fun e => .inl (e ▸ hg)) (fun e => .inr (by rw [hg] at e; injection e with e; exact e.symm))
  have hn3 : ∀ g, (Value.slice A2 (L.length + n) cc2).ownBlock = some g → ¬ g = p := fun g hg => by
    rcases hor g hg with e | e
    · exact HNP.out g e
    · omega
  have hv3 : ∀ g, (Value.slice A2 (L.length + n) cc2).ownBlock = some g → P g := fun g hg => by
    rcases hor g hg with e | e
    · exact HV.out g e
    · exact HP.out g (by omega)
  have ho3 := own_keepX HO2.out hkp hn3
  have hK3 : Keep P w (w2.setCell ⟨p, 1, none⟩ (.slice A2 (L.length + n) cc2)) := ((Keep.of_grown HG2.out.1).mono (fun q e => HV.out q e.symm)).trans (hkp.mono (fun q e => e ▸ hp))
  rw [← hLl, ← bc_append] at ho3
  rw [← hLl] at hk3 hn3 hv3 hK3 ⊢
  clear hkp hor K2 d1 g1 HO2 HG2 HO HR c1 c2 c9 f1 HK
  generalize w2.setCell ⟨p, 1, none⟩ (.slice A2 (L ++ b).length cc2) = W3 at *
  have HLK := Lib.hid (rflook_any p W3 mt A2 (L ++ b).length cc2 (L ++ b) false hk3 (Lies.of_own ho3) (fun _ g o e => hn3 g (by rw [e]; rfl)) (own_cap ho3) (by omega))
  have HK3 := Lib.hid hK3
  have HO3 := Lib.hid (And.intro ho3 (And.intro hn3 hv3))
  have hz3 := hK3.size
  clear hk3 ho3 hn3 hv3 hK3
  go_wp2_with fail
  refine (HLK.out).mono ?_
  rintro e w4 ⟨hk4, hcase⟩
  have K4 := Lib.hid (HK3.out.trans (hk4.mono (fun q e => e ▸ hp)))
  have O4 := Lib.hid (own_keepX HO3.out.1 hk4 HO3.out.2.1)
  clear HLK hk4
  rcases hcase with ⟨z, hlk, rfl, hb⟩ | ⟨hlk, rfl, hb⟩ | ⟨nn, s, f, x, k, hlk, rfl, vf, vd, hb, hf, hx⟩
  · have c2 := hb.cell 2
    simp [rf0, rfC] at c2
    have hz := err_ne hlk
    have hzz : (z == 0) = false := beq_eq_false_iff_ne.2 hz
    have hzn : (z != 0) = true := by unfold bne; rw [hzz]; rfl
    have HPU := Lib.hid (putR_err hlk)
    have HB := Lib.hid hb
    clear hb hlk hz
    go_wp2_with fail
    go_quiet (fail)
    go_wp2_with fail
    go_ret2
    rw [HPU.out]
    exact ⟨rfl, K4.out.drewN _, _, HB.out.drewN _⟩
  · have c2 := hb.cell 2
    have c9 := hb.cell 9
    simp [rf0, rfC] at c2 c9
    have hpu : putR mt (.on L) b = (.on (L ++ b), (b.length : Int), 0) := by
      rcases hlk with h | ⟨_, _, _, _, _, h⟩
      · exact putR_wait h
      · exact putR_opn h
    have hlk2 : lookA mt (L ++ b) = .wait ∨ ∃ n s f x, lookA mt (L ++ b) = .opn n s f x := hlk.imp id (fun h => h.2)
    have HPU := Lib.hid hpu
    have HB := Lib.hid hb
    have HL2 := Lib.hid hlk2
    clear hb hlk hlk2 hpu
    go_wp2_with fail
    go_ret2
    rw [HPU.out]
    exact ⟨by rw [HLL.out]; rfl, K4.out, _, HB.out, O4.out, HO3.out.2.2, HL2.out⟩
  · have c2 := hb.cell 2
    have c9 := hb.cell 9
    simp [rfC] at c2 c9
    have hlk2 : lookA mt (L ++ b) = .done nn s f x k := by
      rcases hlk with h | ⟨h, _⟩
      · exact h
      · cases h
    have hnn := look_done_le (mt := mt) (by omega) hlk2
    have HPU := Lib.hid (putR_done hlk2)
    have HB := Lib.hid hb
    have HF := Lib.hid (And.intro hf hx)
    clear hb hlk hlk2 hf hx
    go_wp2_with fail
    go_ret2
    rw [HPU.out]
    exact ⟨rfl, K4.out, _, vf, vd, HB.out, ownsRow_base HF.out.1 (Nat.le_trans hbase hz3), ownsRow_base HF.out.2 (Nat.le_trans hbase hz3), fun g e => HP.out g (Nat.le_trans hz3 (HF.out.1.lt g e).1), fun g e => HP.out g (Nat.le_trans hz3 (HF.out.2.lt g e).1)⟩
/-- Put on any reader. -/
theorem rfput_stP (p : Nat) (w : World) (base : Nat) (mt : ByteArray) (st : RSt) (b : List UInt8) (A : Option Addr) (n c : Nat) (P : Nat → Prop) (hst : RfStP w base p mt P st) (hz : ∀ z, st = .bad z → z ≠ 0) (hL : ∀ L, st = .on L → L.length + n < 60000)
    (h : Lies w w.heap.size A n (Lib.byteCells b)) (hbase : base ≤ w.heap.size) (hP : ∀ g, w.heap.size ≤ g → P g) (hp : P p) :
    Calls Tryz.prog 62 #[.pointer (some ⟨p, 0, none⟩), .slice A n c] w fun e w' => e = .returned (.tuple #[.int .i64 (putR mt st b).2.1, .int .i64 (putR mt st b).2.2]) ∧ Keep P w w' ∧ RfStP w' base p mt P (putR mt st b).1 := by
  cases st with
  | bad z =>
    have hst' := hst
    obtain ⟨vb, hk⟩ := hst
    refine (rfput_ended p w A n c mt vb _ _ z 0 _ _ false false hk (.inl (hz z rfl))).mono ?_
    rintro e w' ⟨h1, q, rfl⟩
    exact ⟨h1, (Keep.refl _ w).drewN q, hst'⟩
  | on L =>
    obtain ⟨vb, h1, h2, h3, h4⟩ := hst
    exact rfput_on p w base mt L b vb A n c P h1 h2 h3 hp hP h (hL L rfl) hbase
  | fin s f x k =>
    have hst' := hst
    obtain ⟨vb, vf, vd, hk, _⟩ := hst
    refine (rfput_ended p w A n c mt vb vf vd 0 s _ _ k true hk (.inr ⟨rfl, rfl⟩)).mono ?_
    rintro e w' ⟨h1, q, rfl⟩
    exact ⟨h1, (Keep.refl _ w).drewN q, hst'⟩
end Go.Proofs.YtonlfplloenfcaaGreatDoor
namespace Go.Proofs.YtonlfplloenfcaaGreatDoor
open Go.RowKit

set_option maxRecDepth 100000 in
theorem rfend_ended (p : Nat) (w : World) (mt : ByteArray) (vb vf vd : Value) (e0 ms : Int) (m1 m2 : ByteArray) (kp dn : Bool) (hk : Blk w p 162 (rfC mt vb e0 m1 m2 ms vf vd kp dn)) (hd : e0 ≠ 0 ∨ (e0 = 0 ∧ dn = true)) :
    Calls Tryz.prog 64 #[.pointer (some ⟨p, 0, none⟩)] w fun e w' => e = .returned (.int .i64 e0) ∧ w = w' := by
  have c2 := hk.cell 2
  have c9 := hk.cell 9
  simp [rfC] at c2 c9
  clear hk
  rcases hd with hz | ⟨rfl, rfl⟩
  · have hzz : (e0 == 0) = false := beq_eq_false_iff_ne.2 hz
    have hzn : (e0 != 0) = true := by unfold bne; rw [hzz]; rfl
    go_enter Tryz.func64, Tryz.ntmps64
    go_wp2_with fail
    go_ret
    exact ⟨rfl, rfl⟩
  · go_enter Tryz.func64, Tryz.ntmps64
    go_wp2_with fail
    go_ret
    exact ⟨rfl, rfl⟩
set_option maxRecDepth 100000 in
set_option maxHeartbeats 1000000 in
theorem rfend_on (p : Nat) (w : World) (base : Nat) (mt : ByteArray) (L : List UInt8) (vb : Value) (P : Nat → Prop)
    (hk : Blk w p 162 (rf0 mt vb 0)) (hown : w.ownsRow base 5 1 vb L.length (Lib.byteCells L)) (hlk0 : lookA mt L = .wait ∨ ∃ n s f x, lookA mt L = .opn n s f x) (hp : P p) (hP : ∀ g, w.heap.size ≤ g → P g)
    (hn : L.length < 60000) (hbase : base ≤ w.heap.size) :
    Calls Tryz.prog 64 #[.pointer (some ⟨p, 0, none⟩)] w fun e w' => e = .returned (.int .i64 (endR mt (.on L)).2) ∧ Keep P w w' ∧ RfStP w' base p mt P (endR mt (.on L)).1 := by
  have hnp : ∀ g, vb.ownBlock = some g → ¬ g = p := fun g e => by
    obtain ⟨cs, e1⟩ := own_heap hown e
    rintro rfl
    rw [hk.heap] at e1
    injection e1 with e1
    injection e1 with _ e2
    exact absurd e2 (by decide)
  obtain ⟨Av, cv, rfl⟩ := own_form hown
  have c2 := hk.cell 2
  have c9 := hk.cell 9
  simp [rf0, rfC] at c2 c9
  have HLK := Lib.hid (rflook_any p w mt Av L.length cv L true hk (Lies.of_own hown) (fun _ g o e => hnp g (by rw [e]; rfl)) (own_cap hown) (by omega))
  have HP := Lib.hid hP
  have HL0 := Lib.hid hlk0
  clear hk hown hP hlk0 hnp
  go_enter Tryz.func64, Tryz.ntmps64
  go_wp2_with fail
  refine (HLK.out).mono ?_
  rintro e w4 ⟨hk4, hcase⟩
  have K4 := Lib.hid (hk4.mono (Y := P) (fun q e => e ▸ hp))
  have hz4 := hk4.size
  clear HLK hk4 c2 c9
  rcases hcase with ⟨z, hlk, rfl, hb⟩ | ⟨hlk, rfl, hb⟩ | ⟨nn, s, f, x, k, hlk, rfl, vf, vd, hb, hf, hx⟩
  · rcases HL0.out with h | ⟨_, _, _, _, h⟩
    · rw [h] at hlk; cases hlk
    · rw [h] at hlk; cases hlk
  · have hw : lookA mt L = .wait := hlk.elim id (fun h => by cases h.1)
    have HEN := Lib.hid (endR_no (mt := mt) (l := L) (fun n s f x e => by rw [hw] at e; cases e))
    have c2 := hb.cell 2
    have c9 := hb.cell 9
    have f2 := hb.frozen 2
    simp [rf0, rfC] at c2 c9
    have HB := Lib.hid hb
    clear hb hlk hw
    go_wp2_with fail
    go_ret
    have h2 := HB.out.set_ 2 (.int .i64 10)
    rw [HEN.out]
    exact ⟨rfl, K4.out.setCell (p := ⟨p, 2, none⟩) hp _, _, by simpa [rf0, rfC] using h2⟩
  · have ho : k = false ∧ lookA mt L = .opn nn s f x := by
      rcases hlk with h | ⟨_, h1, h2⟩
      · rcases HL0.out with h' | ⟨_, _, _, _, h'⟩
        · rw [h'] at h; cases h
        · rw [h'] at h; cases h
      · exact ⟨h1, h2⟩
    obtain ⟨rfl, ho⟩ := ho
    have HEN := Lib.hid (endR_opn ho)
    have c2 := hb.cell 2
    have c9 := hb.cell 9
    simp [rfC] at c2 c9
    have HB := Lib.hid hb
    have HF := Lib.hid (And.intro hf hx)
    clear hb hlk ho hf hx
    go_wp2_with fail
    go_ret
    rw [HEN.out]
    exact ⟨rfl, K4.out, _, vf, vd, HB.out, ownsRow_base HF.out.1 hbase, ownsRow_base HF.out.2 hbase, fun g e => HP.out g (HF.out.1.lt g e).1, fun g e => HP.out g (HF.out.2.lt g e).1⟩
/-- End on any reader. -/
theorem rfend_stP (p : Nat) (w : World) (base : Nat) (mt : ByteArray) (st : RSt) (P : Nat → Prop) (hst : RfStP w base p mt P st) (hz : ∀ z, st = .bad z → z ≠ 0) (hL : ∀ L, st = .on L → L.length < 60000) (hbase : base ≤ w.heap.size) (hP : ∀ g, w.heap.size ≤ g → P g) (hp : P p) :
    Calls Tryz.prog 64 #[.pointer (some ⟨p, 0, none⟩)] w fun e w' => e = .returned (.int .i64 (endR mt st).2) ∧ Keep P w w' ∧ RfStP w' base p mt P (endR mt st).1 := by
  cases st with
  | bad z =>
    have hst' := hst
    obtain ⟨vb, hk⟩ := hst
    refine (rfend_ended p w mt vb _ _ z 0 _ _ false false hk (.inl (hz z rfl))).mono ?_
    rintro e w' ⟨h1, rfl⟩
    exact ⟨h1, Keep.refl _ _, hst'⟩
  | on L =>
    obtain ⟨vb, h1, h2, h3, h4⟩ := hst
    exact rfend_on p w base mt L vb P h1 h2 h4 hp hP (hL L rfl) hbase
  | fin s f x k =>
    have hst' := hst
    obtain ⟨vb, vf, vd, hk, _⟩ := hst
    refine (rfend_ended p w mt vb vf vd 0 s _ _ k true hk (.inr ⟨rfl, rfl⟩)).mono ?_
    rintro e w' ⟨h1, rfl⟩
    exact ⟨h1, Keep.refl _ _, hst'⟩
end Go.Proofs.YtonlfplloenfcaaGreatDoor
namespace Go.Proofs.YtonlfplloenfcaaGreatDoor
open Go.RowKit

set_option maxRecDepth 100000 in
theorem rfdone_not (p : Nat) (w : World) (mt : ByteArray) (vb vf vd : Value) (e0 ms : Int) (m1 m2 : ByteArray) (kp : Bool) (hk : Blk w p 162 (rfC mt vb e0 m1 m2 ms vf vd kp false)) :
    Calls Tryz.prog 143 #[.pointer (some ⟨p, 0, none⟩)] w fun e w' => e = .returned (.tuple #[.agg #[.string ⟨#[]⟩, .string ⟨#[]⟩, .int .i64 0, .slice none 0 0, .slice none 0 0], .bool false, .bool false]) ∧ Below w.heap.size w w' := by
  have hal : Below w.heap.size w (w.alloc (.cells #[.string ⟨#[]⟩, .string ⟨#[]⟩, .int .i64 0, .slice none 0 0, .slice none 0 0] 25)) := (Below.refl _ _).alloc (Nat.le_refl _) _
  have hg := Blk.new w 25 #[.string ⟨#[]⟩, .string ⟨#[]⟩, .int .i64 0, .slice none 0 0, .slice none 0 0]
  have HK := Lib.hid (hk.below hal hk.lt)
  have HAL := Lib.hid hal
  have HG := Lib.hid hg
  clear hk hal hg
  go_enter Tryz.func143, Tryz.ntmps143
  go_upto_region 1 with fail
  generalize w.alloc (.cells #[.string ⟨#[]⟩, .string ⟨#[]⟩, .int .i64 0, .slice none 0 0, .slice none 0 0] 25) = W0 at *
  have c9 := HK.out.cell 9
  have d0 := HG.out.cell 0
  have d1 := HG.out.cell 1
  have d2 := HG.out.cell 2
  have d3 := HG.out.cell 3
  have d4 := HG.out.cell 4
  have e0 := HG.out.frozen 0
  have e1 := HG.out.frozen 1
  have e2 := HG.out.frozen 2
  have e3 := HG.out.frozen 3
  have e4 := HG.out.frozen 4
  simp [rfC] at c9 d0 d1 d2 d3 d4
  obtain ⟨W5, hW5, hk5, ht5, hbel5, _⟩ := set_five HG.out (.string ⟨#[]⟩) (.string ⟨#[]⟩) (.int .i64 0) (.slice none 0 0) (.slice none 0 0)
  have HE := Lib.hid (And.intro hW5 (And.intro hk5 (HAL.out.trans (hbel5 w.heap.size (Nat.le_refl _)))))
  clear hW5 hk5 ht5 hbel5
  go_wp2_with fail
  rw [HE.out.1]
  refine bodyPost_ret (results_row_tmp2 rfl _ _ w.heap.size 25 _ (0, 0) _ rfl HE.out.2.1 Tryz.underlying25 rfl infoM) rfl ?_
  exact ⟨rfl, HE.out.2.2⟩
set_option maxRecDepth 100000 in
set_option maxHeartbeats 4000000 in
theorem rfdone_fin (p : Nat) (w : World) (base : Nat) (mt : ByteArray) (vb vf vd : Value) (s : Int) (f : List Fd) (x : List UInt8) (k : Bool) (hk : Blk w p 162 (rfC mt vb 0 ⟨#[]⟩ ⟨#[]⟩ s vf vd k true)) (hf : w.ownsRow base 63 2 vf f.length (fcells f)) (hx : w.ownsRow base 5 1 vd x.length (Lib.byteCells x)) (hf2 : f.length ≤ 256) (hx2 : x.length ≤ 60000) :
    Calls Tryz.prog 143 #[.pointer (some ⟨p, 0, none⟩)] w fun e w' => ∃ A1 A2 c1 c2, e = .returned (.tuple #[.agg #[.string ⟨#[]⟩, .string ⟨#[]⟩, .int .i64 s, .slice A1 f.length c1, .slice A2 x.length c2], .bool k, .bool true]) ∧ Below w.heap.size w w' ∧
      FRead w' w'.heap.size A1 f.length f ∧ Lies w' w'.heap.size A2 x.length (Lib.byteCells x) ∧ AtLeast w.heap.size A1 ∧ AtLeast w.heap.size A2 := by
  obtain ⟨Af, cf, rfl⟩ := own_form hf
  obtain ⟨Ax, cx, rfl⟩ := own_form hx
  have hal : Below w.heap.size w (w.alloc (.cells #[.string ⟨#[]⟩, .string ⟨#[]⟩, .int .i64 0, .slice none 0 0, .slice none 0 0] 25)) := (Below.refl _ _).alloc (Nat.le_refl _) _
  have hg := Blk.new w 25 #[.string ⟨#[]⟩, .string ⟨#[]⟩, .int .i64 0, .slice none 0 0, .slice none 0 0]
  have HK := Lib.hid (hk.below hal hk.lt)
  have HRF := Lib.hid (fun (W : World) (hb : Below w.heap.size w W) => fread_reads (fread_own rfl (own_below hf hb)))
  have HRB := Lib.hid (fun (W : World) (hb : Below w.heap.size w W) => (Lies.of_own (own_below hx hb)).reads)
  have HCS := Lib.hid (fun (W : World) (hb : Below w.heap.size w W) => (by
    have hw := hk.below hb hk.lt
    have k5 := hw.cell 5
    have k6 := hw.cell 6
    have k7 := hw.cell 7
    have k8 := hw.cell 8
    simp [rfC] at k5 k6 k7 k8
    exact ⟨k5, k6, k7, k8⟩ : W.cell? ⟨p, 5, none⟩ = some (.int .i64 s) ∧ W.cell? ⟨p, 6, none⟩ = some (.slice Af f.length cf) ∧ W.cell? ⟨p, 7, none⟩ = some (.slice Ax x.length cx) ∧ W.cell? ⟨p, 8, none⟩ = some (.bool k)))
  have HAL := Lib.hid hal
  have HG := Lib.hid hg
  clear hk hf hx hal hg
  go_enter Tryz.func143, Tryz.ntmps143
  go_upto_region 1 with fail
  generalize w.alloc (.cells #[.string ⟨#[]⟩, .string ⟨#[]⟩, .int .i64 0, .slice none 0 0, .slice none 0 0] 25) = W0 at *
  have c9 := HK.out.cell 9
  simp [rfC] at c9
  go_upto_region 3 with fail
  clear c9
  obtain ⟨i0, hi, hi0, hi1, hi2⟩ := info_parts infoU
  obtain ⟨i1, hq, hq0, hq1, hq2⟩ := info_parts infoF
  have hwz : w.heap.size ≤ W0.heap.size := HAL.out.size
  have hgl := HG.out.lt
  go_cut [3, 4] from 11 (fun s3 s4 wx => s3 = .bool k ∧ s4 = .bool true ∧ ∃ A1 c1 A2 c2, Hid (Blk wx w.heap.size 25 #[.string ⟨#[]⟩, .string ⟨#[]⟩, .int .i64 s, .slice A1 f.length c1, .slice A2 x.length c2]) ∧ Hid (Below w.heap.size w wx) ∧ Hid (FRead wx wx.heap.size A1 f.length f) ∧ Hid (Lies wx wx.heap.size A2 x.length (Lib.byteCells x)) ∧ Hid (AtLeast w.heap.size A1) ∧ Hid (AtLeast w.heap.size A2))
  case first =>
    have B0d : Below w.heap.size w W0.drew := HAL.out.drew
    have Gd := HG.out.drew
    have hS0 := HCS.out W0.drew B0d
    go_region_held3 (fun W => W.cell? ⟨p, 5, none⟩ = some (.int .i64 s) ∧ W.cell? ⟨p, 6, none⟩ = some (.slice Af f.length cf) ∧ W.cell? ⟨p, 7, none⟩ = some (.slice Ax x.length cx) ∧ W.cell? ⟨p, 8, none⟩ = some (.bool k))
      (first | go_keep | exact HCS.out _ (by assumption) | exact HCS.out _ (Below.setCell (p := ⟨w.heap.size, 4, none⟩) (Below.setCell (p := ⟨w.heap.size, 3, none⟩) (Below.setCell (p := ⟨w.heap.size, 2, none⟩) (Below.setCell (p := ⟨w.heap.size, 1, none⟩) (Below.setCell (p := ⟨w.heap.size, 0, none⟩) (by assumption) (Nat.le_refl _) _) (Nat.le_refl _) _) (Nat.le_refl _) _) (Nat.le_refl _) _) (Nat.le_refl _) _))
      (first
        | ((refine step_append_any _ rfl _ _ 22 rfl w.heap.size 63 i1 _ 2 32 Tryz.underlying22 hq hq0 hq1 hq2 rfl (by decide) (Value.slice none 0 0) 0 [] rfl (World.ownsRow_nil _ _ _ _) _ Af f.length cf (fcells f) rfl (HRF.out _ VB) (fcells_one f) (by unfold maxLen; omega) (by omega) VB.size ?_); intro vz wz ownz gz _; rw [Nat.zero_add, List.nil_append] at ownz; have VZ := VB.grown gz VB.size (fun j hj => by cases hj); have OB := own_kept PB gz (fun b _ e => by cases e); have OF := ownz; have GG := GB.grown gz (fun e => by cases e); obtain ⟨A1, c1, rfl⟩ := own_form OF; have d0 := GG.cell 0; have d1 := GG.cell 1; have d2 := GG.cell 2; have d3 := GG.cell 3; have d4 := GG.cell 4; have e0 := GG.frozen 0; have e1 := GG.frozen 1; have e2 := GG.frozen 2; have e3 := GG.frozen 3; have e4 := GG.frozen 4; simp at d0 d1 d2 d3 d4; clear ownz gz)
        | ((refine step_append_any _ rfl _ _ 23 rfl w.heap.size 5 i0 _ 1 1 Tryz.underlying23 hi hi0 hi1 hi2 rfl (by decide) (Value.slice none 0 0) 0 [] rfl (World.ownsRow_nil _ _ _ _) _ Ax x.length cx (Lib.byteCells x) rfl (HRB.out _ VF) (cells_one x) (by unfold maxLen; omega) (by omega) VF.size ?_); intro vz wz ownz gz _; rw [Nat.zero_add, List.nil_append] at ownz; have VZ := VF.grown gz VF.size (fun j hj => by cases hj); have OF := own_kept PF gz (fun b _ e => by cases e); have OB := ownz; have GG := GF.grown gz (fun e => by cases e); obtain ⟨A2, c2, rfl⟩ := own_form OB; have d0 := GG.cell 0; have d1 := GG.cell 1; have d2 := GG.cell 2; have d3 := GG.cell 3; have d4 := GG.cell 4; have e0 := GG.frozen 0; have e1 := GG.frozen 1; have e2 := GG.frozen 2; have e3 := GG.frozen 3; have e4 := GG.frozen 4; simp at d0 d1 d2 d3 d4; clear ownz gz)
        | ((refine step_append_any _ rfl _ _ 22 rfl w.heap.size 63 i1 _ 2 32 Tryz.underlying22 hq hq0 hq1 hq2 rfl (by decide) (Value.slice none 0 0) 0 [] rfl (World.ownsRow_nil _ _ _ _) _ Af f.length cf (fcells f) rfl (HRF.out _ B0d) (fcells_one f) (by unfold maxLen; omega) (by omega) B0d.size ?_); intro vf wf ownf gf _; rw [Nat.zero_add, List.nil_append] at ownf; have VF := B0d.grown gf B0d.size (fun j hj => by cases hj); have PF := ownf; have GF := Gd.grown gf (fun e => by cases e); obtain ⟨A1, c1, rfl⟩ := own_form PF; clear ownf gf)
        | ((refine step_append_any _ rfl _ _ 23 rfl w.heap.size 5 i0 _ 1 1 Tryz.underlying23 hi hi0 hi1 hi2 rfl (by decide) (Value.slice none 0 0) 0 [] rfl (World.ownsRow_nil _ _ _ _) _ Ax x.length cx (Lib.byteCells x) rfl (HRB.out _ B0d) (cells_one x) (by unfold maxLen; omega) (by omega) B0d.size ?_); intro vf wf ownf gf _; rw [Nat.zero_add, List.nil_append] at ownf; have VB := B0d.grown gf B0d.size (fun j hj => by cases hj); have PB := ownf; have GB := Gd.grown gf (fun e => by cases e); obtain ⟨A2, c2, rfl⟩ := own_form PB; clear ownf gf))
    all_goals
      go_wp2_with fail
      go_meet
      obtain ⟨W5, hW5, hk5, ht5, hbel5, _⟩ := set_five GG (.string ⟨#[]⟩) (.string ⟨#[]⟩) (.int .i64 s) (.slice A1 f.length c1) (.slice A2 x.length c2)
      rw [hW5]
      exact ⟨rfl, rfl, A1, c1, A2, c2, hk5, VZ.trans (hbel5 w.heap.size (Nat.le_refl _)), fread_own rfl (own_tys OF ht5 (by decide)), Lies.of_own (own_tys OB ht5 (by decide)), fun g o e => (OF.lt g (by rw [e]; rfl)).1, fun g o e => (OB.lt g (by rw [e]; rfl)).1⟩
  case rest =>
  obtain ⟨rfl, rfl, A1, c1, A2, c2, GX, BX, FX, LX, T1, T2⟩ := hcut
  go_wp2_with fail
  refine bodyPost_ret (results_row_tmp2 rfl _ _ w.heap.size 25 _ (0, 0) _ rfl GX.out Tryz.underlying25 rfl infoM) rfl ?_
  exact ⟨A1, A2, c1, c2, rfl, BX.out, FX.out, LX.out, T1.out, T2.out⟩
/-- Done on any reader. -/
theorem rfdone_st (mt : ByteArray) (w : World) (base p : Nat) (P : Nat → Prop) (st : RSt) (hst : RfStP w base p mt P st) (hbd : ∀ s f x k, st = .fin s f x k → fsum f ≤ 100000 ∧ f.length ≤ 256 ∧ x.length ≤ 60000) :
    ∃ s f x k d, Calls Tryz.prog 143 #[.pointer (some ⟨p, 0, none⟩)] w (fun e w' => ∃ A1 A2 c1 c2, e = .returned (.tuple #[.agg #[.string ⟨#[]⟩, .string ⟨#[]⟩, .int .i64 s, .slice A1 (List.length f) c1, .slice A2 (List.length x) c2], .bool k, .bool d]) ∧ Below w.heap.size w w' ∧ GotM w' st A1 A2 s f x k d ∧ AtLeast w.heap.size A1 ∧ AtLeast w.heap.size A2) := by
  have hno : ∀ (vb vf vd : Value) (e0 ms : Int) (m1 m2 : ByteArray) (kp : Bool), Blk w p 162 (rfC mt vb e0 m1 m2 ms vf vd kp false) → (∀ s f x k, st ≠ .fin s f x k) → ∃ s f x k d, Calls Tryz.prog 143 #[.pointer (some ⟨p, 0, none⟩)] w (fun e w' => ∃ A1 A2 c1 c2, e = .returned (.tuple #[.agg #[.string ⟨#[]⟩, .string ⟨#[]⟩, .int .i64 s, .slice A1 (List.length f) c1, .slice A2 (List.length x) c2], .bool k, .bool d]) ∧ Below w.heap.size w w' ∧ GotM w' st A1 A2 s f x k d ∧ AtLeast w.heap.size A1 ∧ AtLeast w.heap.size A2) := fun vb vf vd e0 ms m1 m2 kp hk hx =>
    ⟨0, [], [], false, false, (rfdone_not p w mt vb vf vd e0 ms m1 m2 kp hk).mono fun e w' ⟨h1, h2⟩ => ⟨none, none, 0, 0, h1, h2, ⟨⟨rfl, fun h => absurd h (by simp)⟩, ⟨rfl, fun h => absurd h (by simp)⟩, by simp, by simp, Or.inr ⟨rfl, rfl, rfl, rfl, rfl, hx⟩⟩, (fun g o e => by cases e), (fun g o e => by cases e)⟩⟩
  cases st with
  | on L =>
    obtain ⟨vb, hk, _⟩ := hst
    exact hno _ _ _ _ _ _ _ _ hk (fun s f x k e => by cases e)
  | bad z =>
    obtain ⟨vb, hk⟩ := hst
    exact hno _ _ _ _ _ _ _ _ hk (fun s f x k e => by cases e)
  | fin s f x k =>
    obtain ⟨vb, vf, vd, hk, h1, h2, _⟩ := hst
    obtain ⟨_, b2, b3⟩ := hbd s f x k rfl
    refine ⟨s, f, x, k, true, (rfdone_fin p w base mt vb vf vd s f x k hk h1 h2 b2 b3).mono ?_⟩
    rintro e w' ⟨A1, A2, c1, c2, h1, h2, h3, h4, h5⟩
    exact ⟨A1, A2, c1, c2, h1, h2, ⟨h3, h4, b2, b3, Or.inl ⟨rfl, rfl⟩⟩, h5⟩
end Go.Proofs.YtonlfplloenfcaaGreatDoor
