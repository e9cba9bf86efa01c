/-
  heads.Put.
  footmanref12.fields: of a head's lines but the first.
-/
import Derived.Test.YtonlfplloenfcaaGreatDoorContainsEtc
import Derived.Test.YtonlfplloenfcaaGreatDoorBuf
import Derived.Lib.SmallJoins
import Derived.Lib.OthersKept
import Derived.Test.YtonlfplloenfcaaGreatDoorRefLineEtc
import Derived.Test.YtonlfplloenfcaaGreatDoorNamesEtc
import Derived.Test.YtonlfplloenfcaaGreatDoorFindEtc
import Derived.Test.YtonlfplloenfcaaGreatDoorReflEtc
import Derived.Maps.AppendAt
namespace Go.Proofs.YtonlfplloenfcaaGreatDoor
open Go.RowKit

def HPutPost (m t : ByteArray) (fs : List Fd) (w : World) (e : Ending) (w' : World) : Prop :=
  ∃ v, e = .returned (.tuple #[v, .int .i64 (headE m t fs)]) ∧ w'.ownsRow w.heap.size 5 1 v (headO m t fs).length (Lib.byteCells (headO m t fs)) ∧ Below w.heap.size w w'
theorem put_none {m t : ByteArray} {fs : List Fd} {z : Int} {w w' : World} (h : headE m t fs = z ∧ headO m t fs = []) (hb : Below w.heap.size w w') : HPutPost m t fs w (.returned (.tuple #[.slice none 0 0, .int .i64 z])) w' :=
  ⟨_, by rw [h.1], by rw [h.2]; exact World.ownsRow_nil _ _ _ _, hb⟩
def askB (s1 s2 : ByteArray) : ByteArray := s1 ++ ⟨#[32]⟩ ++ s2 ++ ⟨#[32]⟩ ++ ⟨#[72, 84, 84, 80, 47, 49, 46, 49]⟩ ++ ⟨#[13, 10]⟩
theorem askB_data (s1 s2 : ByteArray) : (askB s1 s2).data.toList = askT s1 s2 := by
  unfold askB askT
  simp only [Go.Joins.data_append, List.append_assoc]
  rfl
theorem askB_size (s1 s2 : ByteArray) : (askB s1 s2).size = (askT s1 s2).length := by rw [← askB_data]; rfl
def fieldB (f : Fd) : ByteArray := f.1 ++ ⟨#[58, 32]⟩ ++ f.2 ++ ⟨#[13, 10]⟩
theorem fieldB_data (f : Fd) : (fieldB f).data.toList = fieldT f := by
  unfold fieldB fieldT
  simp only [Go.Joins.data_append, List.append_assoc]
theorem fieldB_size (f : Fd) : (fieldB f).size = (fieldT f).length := by rw [← fieldB_data]; rfl
theorem fieldsT_sum (fs : List Fd) : (fieldsT fs).length ≤ 2 * fsum fs := by
  induction fs with
  | nil => simp [fieldsT]
  | cons f r ih =>
    have e : fsum (f :: r) = (2 + f.1.size + f.2.size) + fsum r := by simp [fsum]
    have e2 : fieldsT (f :: r) = fieldT f ++ fieldsT r := by simp [fieldsT]
    rw [e, e2, List.length_append, fieldT_len]
    omega
theorem put_some {m t : ByteArray} {fs : List Fd} {v : Value} {w w' : World} (h : headE m t fs = 0 ∧ headO m t fs = headT m t fs) (hr : w'.ownsRow w.heap.size 5 1 v (Lib.byteCells (headT m t fs)).length (Lib.byteCells (headT m t fs))) (hb : Below w.heap.size w w') : HPutPost m t fs w (.returned (.tuple #[v, .int .i64 0])) w' :=
  ⟨v, by rw [h.1], by rw [h.2]; rw [Lib.byteCells_length] at hr; exact hr, hb⟩
set_option maxRecDepth 100000 in
theorem hput_any (s1 s2 : ByteArray) (st : Int) (A A2 : Option Addr) (n c n2 c2 : Nat) (fs : List Fd) (w : World) (h : FRead w w.heap.size A n fs) (hs : FSmall fs) (hsum : s1.size + s2.size + fsum fs ≤ 200010) :
   Calls Tryz.prog 24 #[.agg #[.string s1, .string s2, .int .i64 st, .slice A n c, .slice A2 n2 c2]] w (HPutPost s1 s2 fs w) := by
  have hT := fun W => token_any s1 W (by omega)
  have hG := fun W => (target_any s2 W (by omega)).mono fun e w' h => (⟨h.1, below_of_drewN h.2⟩ : e = .returned (.bool (targB s2.data.toList)) ∧ Below W.heap.size W w')
  have hnl : n ≤ 140737488355328 := by
    have h1 : ∀ l : List Fd, 2 * l.length ≤ fsum l := by
      intro l
      induction l with
      | nil => simp
      | cons x r ih =>
        have e : fsum (x :: r) = (2 + x.1.size + x.2.size) + fsum r := by simp [fsum]
        rw [e, List.length_cons]; omega
    have := h1 fs
    have := h.1
    omega
  have hC := fun W (hb : Below w.heap.size w W) => contains_any A n c fs W ((FRead.below h hb).more hb.size) hs hnl
  have HT := Lib.hid hT
  have HG := Lib.hid hG
  have HC := Lib.hid hC
  have H := Lib.hid h
  have HS := Lib.hid hs
  clear hT hG hC h hs
  have hk0 := Blk.new w 25 #[.string s1, .string s2, .int .i64 st, .slice A n c, .slice A2 n2 c2]
  have hB0 : Below w.heap.size w (w.alloc (.cells #[.string s1, .string s2, .int .i64 st, .slice A n c, .slice A2 n2 c2] 25)) := (Below.refl _ _).alloc (Nat.le_refl _) _
  have K0 := Lib.hid hk0
  have B0 := Lib.hid hB0
  clear hk0 hB0
  cases htk : tokenB s1.data.toList
  · have HE := Lib.hid (headE_arg (m := s1) (t := s2) (fs := fs) (by rw [htk]; rfl))
    rw [htk] at HT
    clear htk
    go_enter Tryz.func24, Tryz.ntmps24
    go_wp2_with fail
    refine (HT.out _).mono ?_
    rintro e w1 ⟨rfl, hb1⟩
    have hB1 := B0.out.trans (hb1.mono B0.out.size)
    clear hb1
    go_wp2_with fail
    go_ret2
    exact put_none HE.out hB1
  · rw [htk] at HT
    have HTK := Lib.hid htk
    clear htk
    cases htg : targB s2.data.toList
    · have HE := Lib.hid (headE_arg (m := s1) (t := s2) (fs := fs) (by rw [htg, HTK.out]; rfl))
      rw [htg] at HG
      clear htg
      go_enter Tryz.func24, Tryz.ntmps24
      go_wp2_with fail
      refine (HT.out _).mono ?_
      rintro e w1 ⟨rfl, hb1⟩
      have hB1 := B0.out.trans (hb1.mono B0.out.size)
      have c1 := (K0.out.below hb1 K0.out.lt).cell 1
      simp at c1
      clear hb1
      go_wp2_with fail
      refine (HG.out _).mono ?_
      rintro e w2 ⟨rfl, hb2⟩
      have hB2 := hB1.trans (hb2.mono hB1.size)
      clear hb2
      go_wp2_with fail
      go_ret2
      exact put_none HE.out hB2
    · rw [htg] at HG
      have HTG := Lib.hid htg
      clear htg
      cases han : fs.any oddF
      · rw [han] at HC
        have hbad : (!tokenB s1.data.toList || !targB s2.data.toList || fs.any oddF) = false := by rw [han, HTG.out, HTK.out]; rfl
        have HBAD := Lib.hid hbad
        clear han hbad
        have head : ∀ (R : Ending → World → Prop), True := fun _ => trivial
        clear head
        by_cases hmany : 256 < n
        · have HE := Lib.hid (headE_many HBAD.out (by rw [H.out.1]; exact hmany))
          go_enter Tryz.func24, Tryz.ntmps24
          go_wp2_with fail
          refine (HT.out _).mono ?_
          rintro e w1 ⟨rfl, hb1⟩
          have hB1 := B0.out.trans (hb1.mono B0.out.size)
          have K1 := Lib.hid (K0.out.below hb1 K0.out.lt)
          have c1 := K1.out.cell 1
          simp at c1
          clear hb1
          go_wp2_with fail
          refine (HG.out _).mono ?_
          rintro e w2 ⟨rfl, hb2⟩
          have hB2 := hB1.trans (hb2.mono hB1.size)
          have K2 := Lib.hid (K1.out.below hb2 K1.out.lt)
          have c3 := K2.out.cell 3
          simp at c3
          clear hb2 c1
          go_wp2_with fail
          refine (HC.out _ hB2).mono ?_
          rintro e w3 ⟨rfl, hb3⟩
          have hB3 := hB2.trans (hb3.mono hB2.size)
          have d3 := (K2.out.below hb3 K2.out.lt).cell 3
          simp at d3
          clear hb3 c3
          go_wp2_with fail
          go_ret2
          exact put_none HE.out hB3
        · have HN := Lib.hid hmany
          have hmany2 : ¬ (256 : Int) < (n : Int) := by omega
          have hmany3 : decide ((256 : Int) < (n : Int)) = false := decide_eq_false hmany2
          clear hmany
          go_enter Tryz.func24, Tryz.ntmps24
          go_wp2_with fail
          refine (HT.out _).mono ?_
          rintro e w1 ⟨rfl, hb1⟩
          have hB1 := B0.out.trans (hb1.mono B0.out.size)
          have K1 := Lib.hid (K0.out.below hb1 K0.out.lt)
          have c1 := K1.out.cell 1
          simp at c1
          clear hb1
          go_wp2_with fail
          refine (HG.out _).mono ?_
          rintro e w2 ⟨rfl, hb2⟩
          have hB2 := hB1.trans (hb2.mono hB1.size)
          have K2 := Lib.hid (K1.out.below hb2 K1.out.lt)
          have c3 := K2.out.cell 3
          simp at c3
          clear hb2 c1
          go_wp2_with fail
          refine (HC.out _ hB2).mono ?_
          rintro e w3 ⟨rfl, hb3⟩
          have hB3 := hB2.trans (hb3.mono hB2.size)
          have K3 := Lib.hid (K2.out.below hb3 K2.out.lt)
          have B3 := Lib.hid hB3
          have d3 := K3.out.cell 3
          have K4 := Lib.hid (K3.out.alloc (.cells #[.slice none 0 0, .int .i64 0, .int .i8 0] 114))
          have d0 := K4.out.cell 0
          have d1 := K4.out.cell 1
          simp at d0 d1 d3
          clear hb3 c3 hB1 hB2 hB3
          have hA := askB_data s1 s2
          have hAz := askT_len s1 s2
          have hfresh := Lib.fresh_isBuffer 114 5 w3
          have HA := Lib.hid hA
          have HAZ := Lib.hid hAz
          have hws := Lib.hid (Tryz.Buffer_WriteString_k w3.heap.size w3.heap.size [] (askB s1 s2) _ hfresh (by simp) (by simp) (by have := askB_size s1 s2; rw [this, hAz]; simp; omega))
          have HAB := Lib.hid (show askB s1 s2 = s1 ++ ⟨#[32]⟩ ++ s2 ++ ⟨#[32]⟩ ++ ⟨#[72, 84, 84, 80, 47, 49, 46, 49]⟩ ++ ⟨#[13, 10]⟩ from rfl)
          clear hA hAz hfresh
          go_wp2_with fail
          rw [← HAB.out]
          refine hws.out.mono ?_
          clear hws
          rintro e w5 ⟨rfl, hbuf, hb5, _⟩
          rw [HA.out, List.nil_append] at hbuf
          have hw3 : w.heap.size ≤ w3.heap.size := B3.out.size
          have hw3b : w.heap.size < w3.heap.size := K3.out.lt
          have hB5 : Below w3.heap.size w3 w5 := ((Below.refl _ _).alloc (Nat.le_refl _) _).trans hb5
          have e3 := (K3.out.below hB5 hw3b).cell 3
          simp at e3
          have BUF := Lib.hid hbuf
          have B5 := Lib.hid hB5
          clear hbuf hb5 hB5 d0 d1 d3
          have hcells := H.out.2
          have HLN := Lib.hid H.out.1
          go_wp2_with fail
          go_loopw [41] (fun i wr => ∃ k : Nat, k ≤ n ∧ i = .int .i64 k ∧ Hid (Lib.IsBuffer 114 5 w3.heap.size w3.heap.size (Lib.byteCells (askT s1 s2 ++ fieldsT (fs.take k))) wr) ∧ Hid (Below w3.heap.size w3 wr)) (fun i _ => n - (intOf i).toNat)
          case atStart => exact ⟨0, Nat.zero_le _, rfl, by simpa [fieldsT, Hid] using BUF.out, B5.out⟩
          case round =>
            obtain ⟨k, hk, rfl, hbuf, hb⟩ := hrel
            clear e3
            by_cases hlt : k < n
            · obtain ⟨b, off, rfl, hbb, hc⟩ := hcells (by omega)
              obtain ⟨f, hf⟩ : ∃ f, fs[k]? = some f := ⟨fs[k]'(by rw [HLN.out]; exact hlt), List.getElem?_eq_getElem (by rw [HLN.out]; exact hlt)⟩
              have hBw := B3.out.trans (hb.out.mono hw3)
              have hc1 := (hBw.cell (p := ⟨b, off + k * 2, none⟩) hbb).trans (hc k f hf).1
              have hc2 := (hBw.cell (p := ⟨b, off + k * 2 + 1, none⟩) hbb).trans (hc k f hf).2
              have hzr : w3.heap.size ≤ wr.heap.size := hb.out.size
              have hfz := fieldT_len f
              have hfb : 2 + f.1.size + f.2.size ≤ fsum fs := by
                have e1 := fsum_succ fs k f hf
                have e2 := fsum_le fs (k + 1)
                omega
              have hfb1 : f.1.size ≤ 200010 := by omega
              have hfb2 : f.2.size ≤ 200010 := by omega
              have hst := fieldsT_succ fs k f hf
              have hle : (fieldsT (fs.take (k + 1))).length ≤ 2 * 200010 := by
                have h1 := fieldsT_le fs (k + 1)
                have h2 := fieldsT_sum fs
                omega
              have hal : Below wr.heap.size wr (wr.alloc (.cells #[.string f.1, .string f.2] 63)) := (Below.refl _ _).alloc (Nat.le_refl _) _
              have hbuf1 := buf_below hbuf.out hal
              have hlim : (Lib.byteCells (askT s1 s2 ++ fieldsT (fs.take k))).length + (fieldB f).size ≤ 140737488355328 := by
                rw [Lib.byteCells_length, List.length_append, fieldB_size]
                rw [hst, List.length_append] at hle
                have := HAZ.out
                omega
              have hws := Lib.hid (Tryz.Buffer_WriteString_k w3.heap.size w3.heap.size _ (fieldB f) _ hbuf1 (by simp; omega) (Lib.byteCells_one _) hlim)
              have hjoin : Lib.byteCells (askT s1 s2 ++ fieldsT (fs.take k)) ++ Lib.byteCells (fieldB f).data.toList = Lib.byteCells (askT s1 s2 ++ fieldsT (fs.take (k + 1))) := by
                rw [← Lib.byteCells_append, fieldB_data, hst, List.append_assoc]
              have HJ := Lib.hid hjoin
              have HFB := Lib.hid (show fieldB f = f.1 ++ ⟨#[58, 32]⟩ ++ f.2 ++ ⟨#[13, 10]⟩ from rfl)
              clear hc hf hcells hst hle hfz hfb hlim hjoin hbuf hbuf1 hBw hal
              obtain ⟨f1, f2⟩ := f
              simp only at hc1 hc2 hfb1 hfb2
              go_wp2_with fail
              rw [← HFB.out]
              refine hws.out.mono ?_
              clear hws
              rintro e w6 ⟨rfl, hbuf6, hb6, _⟩
              rw [HJ.out] at hbuf6
              have hb7 : Below w3.heap.size w3 w6 := (hb.out.alloc hzr _).trans hb6
              have BUF6 := Lib.hid hbuf6
              have B7 := Lib.hid hb7
              clear hbuf6 hb6 hb7 hc1 hc2
              go_wp2_with fail
              go_roundw
              case rel => exact ⟨k + 1, by omega, by go_num, BUF6.out, B7.out⟩
              case measure => simp [intOf]; omega
            · obtain rfl : k = n := by omega
              clear hcells
              rw [List.take_of_length_le (by rw [HLN.out]; exact Nat.le_refl _)] at hbuf
              have hle := fieldsT_sum fs
              have hl1 : (Lib.byteCells (askT s1 s2 ++ fieldsT fs)).length ≤ 600012 := by
                rw [Lib.byteCells_length, List.length_append]
                have := HAZ.out
                omega
              have hzr : w3.heap.size ≤ wr.heap.size := hb.out.size
              have hws := Lib.hid (Tryz.Buffer_WriteString_k w3.heap.size w3.heap.size _ ⟨#[13, 10]⟩ _ hbuf.out hzr (Lib.byteCells_one _) (by show _ + 2 ≤ _; omega))
              have hjoin : Lib.byteCells (askT s1 s2 ++ fieldsT fs) ++ Lib.byteCells (⟨#[13, 10]⟩ : ByteArray).data.toList = Lib.byteCells (headT s1 s2 fs) := (Lib.byteCells_append _ _).symm
              have HJ := Lib.hid hjoin
              have HL1 := Lib.hid hl1
              clear hjoin hle hl1 hbuf
              go_wp2_with fail
              refine hws.out.mono ?_
              clear hws
              rintro e w6 ⟨rfl, hbuf6, hb6, _⟩
              rw [HJ.out] at hbuf6
              have hb7 : Below w3.heap.size w3 w6 := hb.out.trans hb6
              have BUF6 := Lib.hid hbuf6
              have B7 := Lib.hid hb7
              have hlen := Lib.hid (Tryz.Buffer_Len w3.heap.size w3.heap.size _ w6 hbuf6)
              clear hbuf6 hb6 hb7
              go_wp2_with fail
              refine hlen.out.mono ?_
              rintro e w7 ⟨rfl, q7, rfl⟩
              rw [Lib.byteCells_length]
              have hBf : Below w.heap.size w (w6.drewN q7) := below_drewN (B3.out.trans (B7.out.mono hw3)) q7
              by_cases hl : 65536 < (headT s1 s2 fs).length
              · have HE := Lib.hid (headE_long HBAD.out (by rw [H.out.1]; have := HN.out; omega) hl)
                have hl2 : (65536 : Int) < ((headT s1 s2 fs).length : Int) := by omega
                have HBF := Lib.hid hBf
                clear hl hBf hlen
                generalize (headT s1 s2 fs).length = L at *
                go_wp2_with fail
                go_ret2
                exact put_none HE.out HBF.out
              · have HE := Lib.hid (headE_ok HBAD.out (by rw [H.out.1]; have := HN.out; omega) (by omega : (headT s1 s2 fs).length ≤ 65536))
                have hl2 : ¬ (65536 : Int) < ((headT s1 s2 fs).length : Int) := by omega
                have hby := Lib.hid (Tryz.Buffer_Bytes w3.heap.size w3.heap.size _ (w6.drewN q7) (buf_below BUF6.out (below_drewN (Below.refl _ _) q7)))
                have HBF := Lib.hid hBf
                clear hl hBf hlen
                generalize hL : (headT s1 s2 fs).length = L at *
                have HLL := Lib.hid hL
                clear hL
                go_wp2_with fail
                refine hby.out.mono ?_
                rintro e w8 ⟨v, rfl, hrow, q8, rfl⟩
                rw [World.drewN_drewN] at hrow
                have HR := Lib.hid hrow
                clear hrow hby
                go_wp2_with fail
                go_ret2
                exact put_some HE.out (ownsRow_base HR.out hw3) (below_drewN (B3.out.trans (B7.out.mono hw3)) _)
      · have HE := Lib.hid (headE_arg (m := s1) (t := s2) (fs := fs) (by rw [han]; simp))
        rw [han] at HC
        clear han
        go_enter Tryz.func24, Tryz.ntmps24
        go_wp2_with fail
        refine (HT.out _).mono ?_
        rintro e w1 ⟨rfl, hb1⟩
        have hB1 := B0.out.trans (hb1.mono B0.out.size)
        have K1 := Lib.hid (K0.out.below hb1 K0.out.lt)
        have c1 := K1.out.cell 1
        simp at c1
        clear hb1
        go_wp2_with fail
        refine (HG.out _).mono ?_
        rintro e w2 ⟨rfl, hb2⟩
        have hB2 := hB1.trans (hb2.mono hB1.size)
        have K2 := Lib.hid (K1.out.below hb2 K1.out.lt)
        have c3 := K2.out.cell 3
        simp at c3
        clear hb2
        go_wp2_with fail
        refine (HC.out _ hB2).mono ?_
        rintro e w3 ⟨rfl, hb3⟩
        have hB3 := hB2.trans (hb3.mono hB2.size)
        clear hb3
        go_wp2_with fail
        go_ret2
        exact put_none HE.out hB3
end Go.Proofs.YtonlfplloenfcaaGreatDoor
namespace Go.Proofs.YtonlfplloenfcaaGreatDoor
open Go.RowKit
attribute [local go_sem] Oper.semAt_some

theorem two_at {W : World} {h : Nat} (hsz : W.heap.size = h) (x y : Value) (t : TypeId) : ∀ (j : Nat) (u : Value), [x, y][j]? = some u → (W.alloc (.cells #[x, y] t)).cell? ((⟨h, 0, none⟩ : Addr).add j) = some u := by
  subst hsz
  exact two_new W t x y

set_option maxRecDepth 100000 in
theorem rfields_any (A : Option Addr) (n c : Nat) (l0 : List UInt8) (ls : List (List UInt8)) (w : World) (h : Lies w w.heap.size A n (strL (l0 :: ls))) (hn : n ≤ 65537) (hsz : ∀ x ∈ ls, x.length ≤ 65536) :
    Calls Tryz.prog 110 #[.slice A n c] w fun e w' => (∃ v, e = .returned (.tuple #[v, .int .i64 (fieldsE ls)]) ∧ w'.ownsRow w.heap.size 63 2 v (fieldsF ls).length (fcells (fieldsF ls))) ∧ Below w.heap.size w w' := by
  obtain ⟨i0, hi, hz0, hz1, hz2⟩ := info_parts infoF
  have hlen : ls.length + 1 = n := by have := h.1; simpa [strL] using this
  obtain ⟨E, hE⟩ : ∃ E, E = fieldsE ls := ⟨_, rfl⟩
  obtain ⟨F, hF⟩ : ∃ F, F = fieldsF ls := ⟨_, rfl⟩
  rw [← hE, ← hF]
  have HE := Lib.hid hE
  have HF := Lib.hid hF
  clear hE hF
  go_enter Tryz.func110, Tryz.ntmps110
  go_wp2_with fail
  go_loopw [4, 5] (fun v i wr => ∃ j : Nat, j ≤ ls.length ∧ i = .int .i64 ((j + 1 : Nat) : Int) ∧ Hid ((ls.take j).all fieldOK = true) ∧ wr.ownsRow w.heap.size 63 2 v j (fcells ((ls.take j).map fieldOf)) ∧ Below w.heap.size w wr)
    (fun _ i _ => n - (intOf i).toNat)
  case atStart => exact ⟨0, Nat.zero_le _, rfl, by simp [Hid], World.ownsRow_nil _ _ _ _, Below.refl _ _⟩
  case round =>
    obtain ⟨j, hj, rfl, hp, hown, hb⟩ := hrel
    by_cases hlt : j < ls.length
    · obtain ⟨x, hx⟩ : ∃ x, ls[j]? = some x := ⟨ls[j], List.getElem?_eq_getElem hlt⟩
      obtain ⟨b, off, rfl, hbb, hcc⟩ := h.2 (by omega)
      have hc := (hb.cell (p := ⟨b, off + (j + 1), none⟩) hbb).trans (hcc (j + 1) (.string ⟨x.toArray⟩) (by
        unfold strL
        rw [List.map_cons, List.getElem?_cons_succ, List.getElem?_map, hx]
        rfl))
      have hxz := hsz x (List.mem_of_getElem? hx)
      have hL := fun W => rline_any ⟨x.toArray⟩ W (by simp only [ByteArray.size, List.size_toArray]; omega)
      have hxl : (⟨x.toArray⟩ : ByteArray).data.toList = x := by simp
      simp only at hL
      have HO := Lib.hid hown
      have HX := Lib.hid hx
      have HL := Lib.hid hL
      have HB := Lib.hid hb
      clear hcc hown hx hL hb h hxl
      cases hok : fieldOK x
      · have hE : E = 8 := HE.out.trans (fieldsE_bad HX.out hok)
        have hF : F = [] := HF.out.trans (fieldsF_bad (by rw [fieldsE_bad HX.out hok]; decide))
        subst hF
        subst hE
        have hV : lineV x = .agg #[.string ⟨#[]⟩, .string ⟨#[]⟩] := by unfold lineV; rw [hok]; rfl
        rw [hok, hV] at HL
        clear hok hV
        go_wp2_with fail
        refine (HL.out _).mono ?_
        rintro e w1 ⟨rfl, hb1⟩
        have HB1 := Lib.hid ((HB.out.trans (hb1.mono HB.out.size)).alloc (Nat.le_trans HB.out.size hb1.size) (.cells #[.string ⟨#[]⟩, .string ⟨#[]⟩] 63))
        clear hb1
        go_wp2_with fail
        go_ret2
        exact ⟨⟨_, rfl, World.ownsRow_nil _ _ _ _⟩, HB1.out⟩
      · have hV : lineV x = .agg #[.string (fieldOf x).1, .string (fieldOf x).2] := by unfold lineV; rw [hok]; rfl
        have hm := map_take HX.out
        have hall := all_take HX.out hp.out hok
        have hpr : fieldOf x = ((fieldOf x).1, (fieldOf x).2) := rfl
        rw [hpr] at hm
        rw [hok, hV] at HL
        generalize (fieldOf x).1 = a at *
        generalize (fieldOf x).2 = bb at *
        have hfc : fcells ((ls.take (j + 1)).map fieldOf) = fcells ((ls.take j).map fieldOf) ++ [.string a, .string bb] := by rw [hm, fcells_snoc]
        have HFC := Lib.hid hfc
        have HALL := Lib.hid hall
        clear hok hm hall hpr hV hfc hp
        go_wp2_with fail
        refine (HL.out _).mono ?_
        rintro e w1 ⟨rfl, hb1⟩
        have hbx : Below w1.heap.size w1 (w1.alloc (.cells #[.string a, .string bb] 63)) := (Below.refl _ w1).alloc (Nat.le_refl _) _
        have HO1 := Lib.hid (own_below (own_below HO.out hb1) hbx)
        have hb0 := HB.out.trans (hb1.mono HB.out.size)
        have hb1' := hb0.trans (hbx.mono hb0.size)
        have hzx : (w1.alloc (.cells #[.string a, .string bb] 63)).heap.size = w1.heap.size + 1 := by simp
        have HBX := Lib.hid hb1'
        have HZX := Lib.hid hzx
        have hlw : w.heap.size ≤ w1.heap.size := hb0.size
        clear hb1 hbx hb0 hb1' hzx
        go_wp2_with (at_builtin; refine wpList_append_own _ rfl _ _ 22 rfl w.heap.size 63 i0 _ 2 32 Tryz.underlying22 hi hz0 hz1 hz2 rfl (by decide) _ _ _ rfl (HO1.out.alloc _) ⟨w1.heap.size + 1, 0, none⟩ 1 1 [.string a, .string bb] rfl rfl (two_at HZX.out _ _ _) (by simp [Value.oneCell']) (by unfold maxLen; omega) (by omega) (by simp; omega) ?_; intro v2 w2 hown2 hg2 _)
        have hb4 : Below w.heap.size w w2 := (HBX.out.alloc HBX.out.size _).grown hg2 (by simp; omega) (fun j hj => ((HO1.out).lt j hj).1)
        go_roundw
        case rel => exact ⟨j + 1, by omega, by go_num, HALL.out, by rw [HFC.out]; exact hown2, hb4⟩
        case measure => simp [intOf]; omega
    · obtain rfl : j = ls.length := by omega
      rw [List.take_of_length_le (Nat.le_refl _)] at hown hp
      have hE : fieldsE ls = (if 256 < ls.length then 3 else 0) := by unfold fieldsE; rw [if_pos hp.out]
      have hlm : (ls.map fieldOf).length = ls.length := by simp
      by_cases h256 : 256 < ls.length
      · rw [if_pos h256] at hE
        have hE8 : E = 3 := HE.out.trans hE
        have hF : F = [] := HF.out.trans (fieldsF_bad (by rw [hE]; decide))
        subst hF
        subst hE8
        obtain ⟨A2, c2, rfl⟩ := own_form hown
        clear hE hp hlm h
        go_wp2_with fail
        go_ret2
        exact ⟨⟨_, rfl, World.ownsRow_nil _ _ _ _⟩, hb⟩
      · rw [if_neg h256] at hE
        have hE8 : E = 0 := HE.out.trans hE
        have hF : F = ls.map fieldOf := HF.out.trans (by unfold fieldsF; rw [if_pos hE])
        have hFl : F.length = ls.length := by rw [hF, hlm]
        rw [← hF, ← hFl] at hown
        subst hE8
        obtain ⟨A2, c2, rfl⟩ := own_form hown
        have HO := Lib.hid hown
        have h257 : ¬ 256 < F.length := by omega
        clear hE hF hp hlm hown h hFl HF
        go_wp2_with fail
        go_ret2
        exact ⟨⟨_, rfl, HO.out⟩, hb⟩
end Go.Proofs.YtonlfplloenfcaaGreatDoor
