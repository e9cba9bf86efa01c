/-
  bodies: a reader's size, and how it fails.
  bodies: a reader's fields.
-/
import Derived.Test.YtonlfplloenfcaaGreatDoorKGetEtc
import Derived.Test.YtonlfplloenfcaaGreatDoorHeldEtc
import Derived.Test.YtonlfplloenfcaaGreatDoorHexParse
import Derived.Test.YtonlfplloenfcaaGreatDoorShelfB
import Derived.Test.YtonlfplloenfcaaGreatDoorTysEtc
import Derived.Test.YtonlfplloenfcaaGreatDoorGrowpEtc
import Derived.Test.YtonlfplloenfcaaGreatDoorToken
import Derived.Scope
import Derived.WalkMore
import Derived.ScopeJumps
namespace Go.Proofs.YtonlfplloenfcaaGreatDoor
open Go.RowKit Go.Shelf
attribute [local go_sem] Oper.semAt_some

/-- A state, as a value. -/
def stV (g : Nat) : St → Value
  | .size => .func (.func 111) #[.pointer (some ⟨g, 0, none⟩)] #[]
  | .chunk => .func (.func 180) #[.pointer (some ⟨g, 0, none⟩)] #[]
  | .fields => .func (.func 179) #[.pointer (some ⟨g, 0, none⟩)] #[]
  | .stop => .nilFunc
/-- The reader in its block, the first one that was made behind w. -/
structure RI (w W : World) (A : Option Addr) (n c : Nat) (l : List UInt8) (ans : ChunkA) (st : St) (k : Nat) (body : List UInt8) (all now : Nat) (e : Int) (d : Bool) (left : Nat) (vb : Value) : Prop where
  blk : Blk W w.heap.size 133 (rdC A n c k vb left now e d)
  own : W.ownsRow w.heap.size 5 1 vb body.length (Lib.byteCells body)
  tells : Tells l ans st k body all now e d
  kle : k ≤ n
  sum : st = .size ∨ st = .chunk → left + all = 65536
  bel : Below w.heap.size w W
  len : body.length ≤ k
/-- What a state leaves. -/
def StepPost (w : World) (A : Option Addr) (n c : Nat) (l : List UInt8) (ans : ChunkA) (r : Nat) (e : Ending) (w' : World) : Prop :=
  ∃ st k body all now z d left vb, e = .returned (stV w.heap.size st) ∧ RI w w' A n c l ans st k body all now z d left vb ∧ St.rank n st k < r

set_option maxRecDepth 100000 in
theorem fails_any (g : Nat) (z : Int) (cs : Array Value) (w : World) (hg : Blk w g 133 cs) (hz : cs.size = 7) :
    Calls Tryz.prog 177 #[.pointer (some ⟨g, 0, none⟩), .int .i64 z] w fun e w' => e = .returned .nilFunc ∧ w' = w.setCell ⟨g, 5, none⟩ (.int .i64 z) := by
  have c5 := hg.cell 5
  rw [Array.getElem?_eq_getElem (by omega)] at c5
  have f5 := hg.frozen 5
  generalize cs[5] = v5 at c5
  clear hg hz
  go_enter Tryz.func177, Tryz.ntmps177
  go_wp2_with fail
  go_ret
  exact ⟨rfl, rfl⟩
section
variable {w W W1 : World} {A : Option Addr} {n c k k' all all' now now' left left' : Nat} {l body : List UInt8} {ans : ChunkA} {st st' : St} {e e' : Int} {d d' : Bool} {vb : Value}
theorem RI.step (h : RI w W A n c l ans st k body all now e d left vb) (hB : Below W.heap.size W W1) : RI w W1 A n c l ans st k body all now e d left vb :=
  ⟨h.blk.below hB h.blk.lt, own_below h.own hB, h.tells, h.kle, h.sum, h.bel.trans (hB.mono h.bel.size), h.len⟩
theorem RI.set (h : RI w W A n c l ans st k body all now e d left vb) (i : Nat) (v : Value) (hcs : (rdC A n c k vb left now e d).setIfInBounds i v = rdC A n c k' vb left' now' e' d') (ht : Tells l ans st' k' body all' now' e' d') (hk : k' ≤ n) (hs : st' = .size ∨ st' = .chunk → left' + all' = 65536) (hlen : body.length ≤ k') :
    RI w (W.setCell ⟨w.heap.size, i, none⟩ v) A n c l ans st' k' body all' now' e' d' left' vb :=
  ⟨by rw [← hcs]; exact h.blk.set_ i v, own_tys h.own ((Tys.refl [133] W).setCell (p := ⟨w.heap.size, i, none⟩) h.blk (by simp) v) (by decide), ht, hk, hs, h.bel.setCell (p := ⟨w.heap.size, i, none⟩) (Nat.le_refl _) v, hlen⟩
theorem RI.as (h : RI w W A n c l ans st k body all now e d left vb) (ht : Tells l ans st' k body all' now e d) (hs : st' = .size ∨ st' = .chunk → left + all' = 65536) : RI w W A n c l ans st' k body all' now e d left vb :=
  ⟨h.blk, h.own, ht, h.kle, hs, h.bel, h.len⟩
end
theorem stop_sum {p : Prop} : (St.stop = .size ∨ St.stop = .chunk) → p := fun h => by rcases h with h | h <;> cases h
theorem fields_sum {p : Prop} : (St.fields = .size ∨ St.fields = .chunk) → p := fun h => by rcases h with h | h <;> cases h
def hexSet : List UInt8 := [48, 49, 50, 51, 52, 53, 54, 55, 56, 57, 97, 98, 99, 100, 101, 102, 65, 66, 67, 68, 69, 70]
theorem hexSet_eq : (fun x : UInt8 => hexSet.contains x) = hexOK := by
  funext x
  have h := all_bytes (p := fun x => hexSet.contains x == hexOK x) (by decide +kernel) x
  simpa using h
theorem take_while (p : UInt8 → Bool) (l : List UInt8) : l.take (l.length - (l.dropWhile p).length) = l.takeWhile p := by
  have h : l.takeWhile p ++ l.dropWhile p = l := List.takeWhile_append_dropWhile
  have h2 : l.length = (l.takeWhile p).length + (l.dropWhile p).length := by rw [← List.length_append, h]
  have h3 := List.take_left (l₁ := l.takeWhile p) (l₂ := l.dropWhile p)
  rw [h] at h3
  rw [show l.length - (l.dropWhile p).length = (l.takeWhile p).length by omega]
  exact h3
theorem empty_of (x : ByteArray) : x.toList.isEmpty = decide (x.size = 0) := by
  rw [← decide_eq_emptyBytes]
  rw [Bool.eq_iff_iff, decide_eq_true_iff, decide_eq_true_iff]
  constructor
  · intro h
    rw [h]
    rfl
  · intro h
    exact bytes_ext (by rw [bytes_nil x h]; rfl)

set_option maxRecDepth 100000 in
set_option maxHeartbeats 2000000 in
theorem bsize_any (w W : World) (A : Option Addr) (n c k all now left : Nat) (l body : List UInt8) (ans : ChunkA) (z : Int) (d : Bool) (vb : Value) (h : RI w W A n c l ans .size k body all now z d left vb) (hl : Lies W w.heap.size A n (Lib.byteCells l)) (hc : n ≤ c) (hn : n ≤ 2000000) (hm : MaxOk w) (hmg : maxG < w.heap.size) :
    Calls Tryz.prog 111 #[.pointer (some ⟨w.heap.size, 0, none⟩)] W (StepPost w A n c l ans (St.rank n .size k)) := by
  obtain ⟨rfl, rfl, _⟩ := id h.tells
  have hll : l.length = n := by simpa [Lib.byteCells] using hl.1
  have HLN := Lib.hid (bline_any A n c k vb left now w.heap.size l W h.blk hl hc hn h.kle (hm.below h.bel hmg) (Nat.lt_of_lt_of_le hmg h.bel.size))
  have HR := Lib.hid h
  have HLL := Lib.hid hll
  have hsum := h.sum (.inl rfl)
  have hlen := h.len
  clear h hl hm hll
  go_enter Tryz.func111, Tryz.ntmps111
  go_wp2_with fail
  refine (HLN.out).mono ?_
  rintro e1 w1 ⟨W1, hB1, hm1⟩
  have R1 := Lib.hid (HR.out.step hB1)
  clear hB1 HLN
  cases hla : lineA (l.drop k) with
  | limit =>
    rw [hla] at hm1
    obtain ⟨rfl, rfl⟩ := hm1
    have HP : Hid (StepPost w A n c l ans (St.rank n .size k) (.returned .nilFunc) (W1.setCell ⟨w.heap.size, 5, none⟩ (.int .i64 3))) :=
      ⟨.stop, k, body, all, now, 3, false, left, vb, rfl, R1.out.set 5 (.int .i64 3) rfl (size_limit R1.out.tells hla k) R1.out.kle stop_sum R1.out.len, by simp [St.rank]⟩
    clear R1 HR hla
    go_wp2_with fail
    go_ret
    exact HP.out
  | short =>
    rw [hla] at hm1
    obtain ⟨rfl, rfl⟩ := hm1
    have HP : Hid (StepPost w A n c l ans (St.rank n .size k) (.returned .nilFunc) w1) :=
      ⟨.stop, k, body, all, now, 0, false, left, vb, rfl, R1.out.as (size_short R1.out.tells hla) stop_sum, by simp [St.rank]⟩
    clear R1 HR hla
    go_wp2_with fail
    go_ret
    exact HP.out
  | line m =>
    rw [hla] at hm1
    obtain ⟨rfl, rfl⟩ := hm1
    have hle := (line_spec hla).1
    have hdl : (l.drop k).length = n - k := by rw [List.length_drop, HLL.out]
    rw [hdl] at hle
    have HRk := R1.out.kle
    obtain ⟨L, hL⟩ : ∃ L, (l.drop k).take m = L := ⟨_, rfl⟩
    have hLm : L.length = m := by rw [← hL, List.length_take, hdl, Nat.min_eq_left (by omega)]
    rw [hL]
    have HLA := Lib.hid hla
    have HL := Lib.hid hL
    -- the reader, one line further
    have KB : Hid (Blk (W1.setCell ⟨w.heap.size, 1, none⟩ (.int .i64 ((k + m + 2 : Nat) : Int))) w.heap.size 133 (rdC A n c (k + m + 2) vb left now 0 false)) := R1.out.blk.set_ 1 _
    have OB : Hid ((W1.setCell ⟨w.heap.size, 1, none⟩ (.int .i64 ((k + m + 2 : Nat) : Int))).ownsRow w.heap.size 5 1 vb body.length (Lib.byteCells body)) := own_tys R1.out.own ((Tys.refl [133] W1).setCell (p := ⟨w.heap.size, 1, none⟩) R1.out.blk (by simp) _) (by decide)
    have BB : Hid (Below w.heap.size w (W1.setCell ⟨w.heap.size, 1, none⟩ (.int .i64 ((k + m + 2 : Nat) : Int)))) := R1.out.bel.setCell (p := ⟨w.heap.size, 1, none⟩) (Nat.le_refl _) _
    have HT := Lib.hid HR.out.tells
    generalize W1.setCell ⟨w.heap.size, 1, none⟩ (.int .i64 ((k + m + 2 : Nat) : Int)) = W2 at *
    clear R1 HR hla hL hdl
    obtain ⟨s, hs⟩ : ∃ s : ByteArray, (⟨L.toArray⟩ : ByteArray) = s := ⟨_, rfl⟩
    have hsL : s.data.toList = L := by rw [← hs]
    have hsz : s.size = m := by rw [← hLm, ← hsL]; rfl
    rw [hs]
    have HSL := Lib.hid hsL
    clear hs hsL
    have HTL := Lib.hid (fun W => Tryz.strings_TrimLeft s ⟨#[48, 49, 50, 51, 52, 53, 54, 55, 56, 57, 97, 98, 99, 100, 101, 102, 65, 66, 67, 68, 69, 70]⟩ W (by decide) (ascii_of_all (by decide)))
    have hm6 := (line_spec HLA.out).2.1
    go_wp2_with fail
    refine (HTL.out _).mono ?_
    rintro e w3 ⟨rfl, hb3⟩
    obtain ⟨Wd, hWd⟩ : ∃ Wd : ByteArray, (⟨(Lib.trimLeftS s.data.toList (⟨#[48, 49, 50, 51, 52, 53, 54, 55, 56, 57, 97, 98, 99, 100, 101, 102, 65, 66, 67, 68, 69, 70]⟩ : ByteArray).data.toList).toArray⟩ : ByteArray) = Wd := ⟨_, rfl⟩
    rw [hWd]
    have hWdL : Wd.data.toList = L.dropWhile hexOK := by
      rw [← hWd, ← hexSet_eq, HSL.out]
      rfl
    have hWz : Wd.size ≤ s.size := by
      have h1 : Wd.data.toList.length = Wd.size := rfl
      have h2 : s.data.toList.length = s.size := rfl
      rw [← h1, ← h2, hWdL, HSL.out]
      exact (List.dropWhile_sublist _).length_le
    have HWL := Lib.hid hWdL
    have B3 := Lib.hid (BB.out.trans (hb3.mono BB.out.size))
    have K3 := Lib.hid (KB.out.below hb3 KB.out.lt)
    have O3 := Lib.hid (own_below OB.out hb3)
    clear hWd hWdL hb3 HTL KB OB BB
    have HTL2 := Lib.hid (fun W => Tryz.strings_TrimLeft Wd ⟨#[32, 9]⟩ W (by decide) (ascii_of_all (by decide)))
    go_wp2_with fail
    obtain ⟨D, hD⟩ : ∃ D, s.extract 0 (m - Wd.size) = D := ⟨_, rfl⟩
    rw [hD]
    have hDL : D.data.toList = sizeD L := by
      have h1 : Wd.size = (L.dropWhile hexOK).length := by rw [← HWL.out]; rfl
      rw [← hD, Lib.extract_data, Nat.sub_zero, List.drop_zero, HSL.out, h1, ← hLm]
      exact take_while hexOK L
    have HDL := Lib.hid hDL
    clear hD hDL
    refine (HTL2.out _).mono ?_
    rintro e w4 ⟨rfl, hb4⟩
    obtain ⟨V, hV⟩ : ∃ V : ByteArray, (⟨(Lib.trimLeftS Wd.data.toList (⟨#[32, 9]⟩ : ByteArray).data.toList).toArray⟩ : ByteArray) = V := ⟨_, rfl⟩
    rw [hV]
    have hVL : V.data.toList = sizeW L := by
      rw [← hV, HWL.out]
      show (List.dropWhile (fun x => [32, 9].contains x) (L.dropWhile hexOK)) = _
      rw [blank_eq]
      rfl
    have HVL := Lib.hid hVL
    have B4 := Lib.hid (B3.out.trans (hb4.mono B3.out.size))
    have K4 := Lib.hid (K3.out.below hb4 K3.out.lt)
    have O4 := Lib.hid (own_below O3.out hb4)
    clear hV hVL hb4 HTL2 K3 O3 B3 HWL
    have hDz : D.size = (sizeD L).length := by rw [← HDL.out]; rfl
    have hVz : V.size = (sizeW L).length := by rw [← HVL.out]; rfl
    have HC := Lib.hid (fun W => bcontrol_any s W (by omega))
    have HBADX : Hid (∀ (X : World), Below w4.heap.size w4 X → sizeOK L = false → StepPost w A n c l ans (St.rank n .size k) (.returned .nilFunc) (X.setCell ⟨w.heap.size, 5, none⟩ (.int .i64 9))) := fun X hX hno => by
      have hr : RI w X A n c l ans .stop (k + m + 2) body all now 0 false left vb → True := fun _ => trivial
      refine ⟨.stop, k + m + 2, body, all, now, 9, false, left, vb, rfl, ⟨?_, ?_, size_bad HT.out HLA.out (by rw [HL.out]; exact hno) _, by omega, stop_sum, ?_, by omega⟩, by simp [St.rank]; omega⟩
      · exact (K4.out.below hX K4.out.lt).set_ 5 _
      · exact own_tys (own_below O4.out hX) ((Tys.refl [133] X).setCell (p := ⟨w.heap.size, 5, none⟩) (K4.out.below hX K4.out.lt) (by simp) _) (by decide)
      · exact (B4.out.trans (hX.mono B4.out.size)).setCell (p := ⟨w.heap.size, 5, none⟩) (Nat.le_refl _) _
    have HF := Lib.hid (fun (X : World) (hX : Below w4.heap.size w4 X) => fails_any w.heap.size 9 _ X (K4.out.below hX K4.out.lt) rfl)
    by_cases hd0 : D.size = 0
    · have e1 : D.toList.isEmpty = true := by rw [empty_of]; exact decide_eq_true hd0
      have hno : sizeOK L = false := by unfold sizeOK; rw [← hDz, hd0]; rfl
      have HP := Lib.hid (HBADX.out w4 (Below.refl _ _) hno)
      clear hno hDz hVz
      go_wp2_with fail
      refine (HF.out w4 (Below.refl _ _)).mono ?_
      rintro e w5 ⟨rfl, rfl⟩
      go_wp2_with fail
      go_ret
      exact HP.out
    have e1 : D.toList.isEmpty = false := by rw [empty_of]; exact decide_eq_false hd0
    by_cases hd16 : 16 < D.size
    · have e2 : decide ((16 : Int) < (D.size : Int)) = true := decide_eq_true (by omega)
      have hno : sizeOK L = false := by unfold sizeOK; rw [← hDz, decide_eq_false (show ¬ D.size ≤ 16 by omega)]; simp
      have HP := Lib.hid (HBADX.out w4 (Below.refl _ _) hno)
      clear hno hDz hVz
      go_wp2_with fail
      refine (HF.out w4 (Below.refl _ _)).mono ?_
      rintro e w5 ⟨rfl, rfl⟩
      go_wp2_with fail
      go_ret
      exact HP.out
    have e2 : decide ((16 : Int) < (D.size : Int)) = false := decide_eq_false (by omega)
    have hW : (V.toList.isEmpty = true ∧ ((sizeW L).isEmpty || (sizeW L).headD 0 == 59) = true) ∨
        (V.toList.isEmpty = false ∧ ∃ _ : 0 < V.size, ((V[0].toNat : Int) != 59) = false ∧ ((sizeW L).isEmpty || (sizeW L).headD 0 == 59) = true) ∨
        (V.toList.isEmpty = false ∧ ∃ _ : 0 < V.size, ((V[0].toNat : Int) != 59) = true ∧ sizeOK L = false) := by
      rcases Nat.eq_zero_or_pos V.size with hv0 | hv0
      · refine .inl ⟨by rw [empty_of]; exact decide_eq_true hv0, ?_⟩
        rw [hv0] at hVz
        rw [List.eq_nil_of_length_eq_zero hVz.symm]
        rfl
      · have hcons : sizeW L = V[0] :: (V.extract 1 V.size).data.toList := by rw [← HVL.out]; exact bytes_cons V hv0
        have hem : V.toList.isEmpty = false := by rw [empty_of]; exact decide_eq_false (by omega)
        by_cases h59 : V[0] = 59
        · refine .inr (.inl ⟨hem, hv0, by rw [h59]; rfl, ?_⟩)
          rw [hcons, h59]
          rfl
        · refine .inr (.inr ⟨hem, hv0, ?_, ?_⟩)
          · rw [bne_iff_ne]
            intro h
            exact h59 (UInt8.toNat_inj.1 (by show V[0].toNat = 59; omega))
          · unfold sizeOK
            have : (V[0] == 59) = false := beq_eq_false_iff_ne.2 h59
            rw [hcons]
            simp [this]
    clear hVz
    rcases hW with ⟨e3, hok⟩ | ⟨e3, hv, e4, hok⟩ | ⟨e3, hv, e4, hno⟩
    rotate_left 2
    · have HP := Lib.hid (HBADX.out w4 (Below.refl _ _) hno)
      clear hno hDz
      go_wp2_with fail
      refine (HF.out w4 (Below.refl _ _)).mono ?_
      rintro e w5 ⟨rfl, rfl⟩
      go_wp2_with fail
      go_ret
      exact HP.out
    all_goals
      have hsok : sizeOK L = plainB L := by
        unfold sizeOK
        rw [← hDz, decide_eq_true (show 1 ≤ D.size by omega), decide_eq_true (show D.size ≤ 16 by omega), hok]
        simp
      have HSOK := Lib.hid hsok
      clear hok hsok
      go_wp2_with fail
      refine (HC.out w4).mono ?_
      rintro e w5 ⟨rfl, q, rfl⟩
      rw [HSL.out]
      have hb5 : Below w4.heap.size w4 (w4.drewN q) := below_drewN (Below.refl _ _) q
      generalize w4.drewN q = w5 at *
      have Hb5 := Lib.hid hb5
      clear hb5
      cases hpl : plainB L with
      | false =>
        have HP := Lib.hid (HBADX.out w5 Hb5.out (HSOK.out.trans hpl))
        clear hpl hDz
        go_wp2_with fail
        refine (HF.out w5 Hb5.out).mono ?_
        rintro e w6 ⟨rfl, rfl⟩
        go_wp2_with fail
        go_ret
        exact HP.out
      | true =>
        have hgood : sizeOK ((l.drop k).take m) = true := by rw [HL.out, HSOK.out, hpl]
        have HGOOD := Lib.hid hgood
        have HPH := Lib.hid (phex_any D (by omega) (by omega) (by rw [HDL.out]; exact List.all_takeWhile) w5)
        clear hpl hgood HBADX HF HC
        obtain ⟨N, hN⟩ : ∃ N, sizeN ((l.drop k).take m) = N := ⟨_, rfl⟩
        have hDN : hexN D.data.toList = N := by rw [HDL.out, ← hN, HL.out]; rfl
        rw [hDN] at HPH
        have HN := Lib.hid hN
        clear hDN hN HDL
        go_wp2_with fail
        refine (HPH.out).mono ?_
        rintro e w6 ⟨rfl, hb6⟩
        have hb46 := Hb5.out.trans (hb6.mono Hb5.out.size)
        have B6 := Lib.hid (B4.out.trans (hb46.mono B4.out.size))
        have K6 := Lib.hid (K4.out.below hb46 K4.out.lt)
        have O6 := Lib.hid (own_below O4.out hb46)
        clear hb6 hb46 HPH
        have c3 := K6.out.cell 3
        have c4 := K6.out.cell 4
        simp [rdC] at c3 c4
        have f4 := K6.out.frozen 4
        by_cases hbig : left < N
        · have d1 : decide ((left : Int) < (N : Int)) = true := decide_eq_true (by omega)
          have HF2 := Lib.hid (fails_any w.heap.size 3 _ w6 K6.out rfl)
          have HP : Hid (StepPost w A n c l ans (St.rank n .size k) (.returned .nilFunc) (w6.setCell ⟨w.heap.size, 5, none⟩ (.int .i64 3))) := by
            refine ⟨.stop, k + m + 2, body, all, now, 3, false, left, vb, rfl, ⟨K6.out.set_ 5 _, own_tys O6.out ((Tys.refl [133] w6).setCell (p := ⟨w.heap.size, 5, none⟩) K6.out (by simp) _) (by decide), size_great HT.out HLA.out HGOOD.out (by rw [HN.out]; omega) (by omega) _, by omega, stop_sum, B6.out.setCell (p := ⟨w.heap.size, 5, none⟩) (Nat.le_refl _) _, by omega⟩, by simp [St.rank]; omega⟩
          go_wp2_with fail
          refine (HF2.out).mono ?_
          rintro e w7 ⟨rfl, rfl⟩
          go_wp2_with fail
          go_ret
          exact HP.out
        have d1 : decide ((left : Int) < (N : Int)) = false := decide_eq_false (by omega)
        by_cases hz : N = 0
        · subst hz
          have HP : Hid (StepPost w A n c l ans (St.rank n .size k) (.returned (stV w.heap.size .fields)) w6) := by
            refine ⟨.fields, k + m + 2, body, all, now, 0, false, left, vb, rfl, ⟨K6.out, O6.out, size_zero HT.out HLA.out HGOOD.out HN.out all, by omega, fields_sum, B6.out, by omega⟩, by simp [St.rank]; omega⟩
          go_wp2_with fail
          go_ret
          exact HP.out
        · have d2 : ((N : Int) == 0) = false := beq_eq_false_iff_ne.2 (by omega)
          have HP : Hid (StepPost w A n c l ans (St.rank n .size k) (.returned (stV w.heap.size .chunk)) (w6.setCell ⟨w.heap.size, 4, none⟩ (.int .i64 (N : Int)))) := by
            have ht := size_next HT.out HLA.out HGOOD.out (by rw [HN.out]; exact hz) (by rw [HN.out]; omega)
            rw [HN.out] at ht
            refine ⟨.chunk, k + m + 2, body, all, N, 0, false, left, vb, rfl, ⟨K6.out.set_ 4 _, own_tys O6.out ((Tys.refl [133] w6).setCell (p := ⟨w.heap.size, 4, none⟩) K6.out (by simp) _) (by decide), ht, by omega, fun _ => hsum, B6.out.setCell (p := ⟨w.heap.size, 4, none⟩) (Nat.le_refl _) _, by omega⟩, by simp [St.rank]; omega⟩
          go_wp2_with fail
          go_ret
          exact HP.out
end Go.Proofs.YtonlfplloenfcaaGreatDoor
namespace Go.Proofs.YtonlfplloenfcaaGreatDoor
open Go.RowKit Go.Shelf

theorem wp_scope_once {P : Program} {a : Act} {w : World} {Q : Exit → Act → World → Prop} {x : Code} (l : Nat) (J : Act → World → Prop) (μ : Act → World → Nat) (h0 : J a w)
    (pass : ∀ a w, J a w → x.wp P (Exit.jump l (fun a' w' => J a' w' ∧ μ a' w' < μ a w) Q) a w) : (Code.scope ((Code.label l).seq x)).wp P Q a w :=
  wp_scope_jumps (rest := Code.skip.seq x) l J μ (by simp [findLabel]) (wp_seq (wp_label (wp_mono (pass a w h0) fun e a' w' h => by
    cases e with
    | goto l' => exact ⟨h.1, h.2.1⟩
    | normal => exact h
    | exit id => exact h
    | ret => exact h
    | panic ch => exact h
    | outgrown => exact h))) fun a w h => wp_seq (wp_skip (pass a w h))
/-- How far the reader has come. -/
def atOf (g : Nat) (w : World) : Nat := match w.cell? ⟨g, 1, none⟩ with
  | some (.int _ q) => q.toNat
  | _ => 0
theorem atOf_eq {w W : World} {A : Option Addr} {n c k all now left : Nat} {l body : List UInt8} {ans : ChunkA} {st : St} {e : Int} {d : Bool} {vb : Value} (h : RI w W A n c l ans st k body all now e d left vb) : atOf w.heap.size W = k := by
  have := h.blk.cell 1
  unfold atOf
  rw [this]
  simp [rdC]

set_option maxRecDepth 100000 in
set_option maxHeartbeats 4000000 in
theorem bfields_any (w W : World) (A : Option Addr) (n c k0 all now left : Nat) (l body : List UInt8) (ans : ChunkA) (z : Int) (d : Bool) (vb : Value) (h : RI w W A n c l ans .fields k0 body all now z d left vb) (hl : Lies W w.heap.size A n (Lib.byteCells l)) (hc : n ≤ c) (hn : n ≤ 2000000) (hm : MaxOk w) (hmg : maxG < w.heap.size) :
    Calls Tryz.prog 179 #[.pointer (some ⟨w.heap.size, 0, none⟩)] W (StepPost w A n c l ans (St.rank n .fields k0)) := by
  obtain ⟨rfl, rfl, _⟩ := id h.tells
  have hll : l.length = n := by simpa [Lib.byteCells] using hl.1
  have HL := Lib.hid (hl.below (show Below w.heap.size W W from Below.refl _ _))
  have HLW := Lib.hid (fun (X : World) (hb : Below w.heap.size w X) => (show Lies X w.heap.size A n (Lib.byteCells l) from (hl.keep fun p hp => (h.bel.cell hp).symm ▸ rfl : Lies w w.heap.size A n (Lib.byteCells l)).below hb))
  have HR := Lib.hid h
  have HLL := Lib.hid hll
  have HM := Lib.hid hm
  clear h hl hm hll
  go_enter Tryz.func179, Tryz.ntmps179
  go_wp2_with fail
  refine wp_scope_once 0 (fun a' w' => (∃ u1 u2 u3 u4 u5 u6 u7 u8 u9 u10 u11 u12 u13 u14 u15 u16 u17 u18 u19 u20 u21 u22 u23 u24 u25 u26 u27 u28 u29 u30 u31 u32 u33 u34 u35 u36 u37 u38 u39 : Value, a' = { tmps := #[.pointer (some ⟨w.heap.size, 0, none⟩), u1, u2, u3, u4, u5, u6, u7, u8, u9, u10, u11, u12, u13, u14, u15, u16, u17, u18, u19, u20, u21, u22, u23, u24, u25, u26, u27, u28, u29, u30, u31, u32, u33, u34, u35, u36, u37, u38, u39], defers := [] }) ∧ ∃ k, k0 ≤ k ∧ Hid (RI w w' A n c l ans .fields k body all now 0 false left vb)) (fun _ w' => n + 1 - atOf w.heap.size w') ?_ ?_
  · exact ⟨⟨_, _, _, _, _, _, _, _, _, _, _, _, _, _, _, _, _, _, _, _, _, _, _, _, _, _, _, _, _, _, _, _, _, _, _, _, _, _, _, rfl⟩, k0, Nat.le_refl _, HR⟩
  · rintro a' W0 ⟨⟨u1, u2, u3, u4, u5, u6, u7, u8, u9, u10, u11, u12, u13, u14, u15, u16, u17, u18, u19, u20, u21, u22, u23, u24, u25, u26, u27, u28, u29, u30, u31, u32, u33, u34, u35, u36, u37, u38, u39, rfl⟩, k, hk0, hR⟩
    clear HR
    have hlen := hR.out.len
    have HAT : Hid (atOf w.heap.size W0 = k) := atOf_eq hR.out
    have HLN := Lib.hid (bline_any A n c k vb left now w.heap.size l W0 hR.out.blk (HLW.out W0 hR.out.bel) hc hn hR.out.kle (HM.out.below hR.out.bel hmg) (Nat.lt_of_lt_of_le hmg hR.out.bel.size))
    go_wp2_with fail
    refine (HLN.out).mono ?_
    rintro e1 w1 ⟨W1, hB1, hm1⟩
    have R1 := Lib.hid (hR.out.step hB1)
    clear hB1 HLN
    cases hla : lineA (l.drop k) with
    | limit =>
      rw [hla] at hm1
      obtain ⟨rfl, rfl⟩ := hm1
      have HP : Hid (StepPost w A n c l ans (St.rank n .fields k0) (.returned .nilFunc) (W1.setCell ⟨w.heap.size, 5, none⟩ (.int .i64 3))) :=
        ⟨.stop, k, body, all, now, 3, false, left, vb, rfl, R1.out.set 5 (.int .i64 3) rfl (fields_limit R1.out.tells hla k) R1.out.kle stop_sum R1.out.len, by simp [St.rank]; omega⟩
      clear R1 hR hla
      go_wp2_with fail
      simp only [Exit.jump]
      go_ret
      exact HP.out
    | short =>
      rw [hla] at hm1
      obtain ⟨rfl, rfl⟩ := hm1
      have HP : Hid (StepPost w A n c l ans (St.rank n .fields k0) (.returned .nilFunc) w1) :=
        ⟨.stop, k, body, all, now, 0, false, left, vb, rfl, R1.out.as (fields_short R1.out.tells hla) stop_sum, by simp [St.rank]; omega⟩
      clear R1 hR hla
      go_wp2_with fail
      simp only [Exit.jump]
      go_ret
      exact HP.out
    | line m =>
      rw [hla] at hm1
      obtain ⟨rfl, rfl⟩ := hm1
      have hle := (line_spec hla).1
      have hm6 := (line_spec hla).2.1
      have hdl : (l.drop k).length = n - k := by rw [List.length_drop, HLL.out]
      rw [hdl] at hle
      have HRk := R1.out.kle
      obtain ⟨L, hL⟩ : ∃ L, (l.drop k).take m = L := ⟨_, rfl⟩
      have hLm : L.length = m := by rw [← hL, List.length_take, hdl, Nat.min_eq_left (by omega)]
      rw [hL]
      have HLA := Lib.hid hla
      have HL2 := Lib.hid hL
      have KB : Hid (Blk (W1.setCell ⟨w.heap.size, 1, none⟩ (.int .i64 ((k + m + 2 : Nat) : Int))) w.heap.size 133 (rdC A n c (k + m + 2) vb left now 0 false)) := R1.out.blk.set_ 1 _
      have OB : Hid ((W1.setCell ⟨w.heap.size, 1, none⟩ (.int .i64 ((k + m + 2 : Nat) : Int))).ownsRow w.heap.size 5 1 vb body.length (Lib.byteCells body)) := own_tys R1.out.own ((Tys.refl [133] W1).setCell (p := ⟨w.heap.size, 1, none⟩) R1.out.blk (by simp) _) (by decide)
      have BB : Hid (Below w.heap.size w (W1.setCell ⟨w.heap.size, 1, none⟩ (.int .i64 ((k + m + 2 : Nat) : Int)))) := R1.out.bel.setCell (p := ⟨w.heap.size, 1, none⟩) (Nat.le_refl _) _
      have HT := Lib.hid hR.out.tells
      generalize W1.setCell ⟨w.heap.size, 1, none⟩ (.int .i64 ((k + m + 2 : Nat) : Int)) = W2 at *
      clear R1 hR hla hL hdl
      obtain ⟨s, hs⟩ : ∃ s : ByteArray, (⟨L.toArray⟩ : ByteArray) = s := ⟨_, rfl⟩
      have hsL : s.data.toList = L := by rw [← hs]
      have hsz : s.size = m := by rw [← hLm, ← hsL]; rfl
      rw [hs]
      have HSL := Lib.hid hsL
      clear hs hsL
      by_cases hm0 : m = 0
      · have e1 : s.toList.isEmpty = true := by rw [empty_of]; exact decide_eq_true (by omega)
        have f6 := KB.out.frozen 6
        have c6 := KB.out.cell 6
        simp [rdC] at c6
        subst hm0
        have HP : Hid (StepPost w A n c l ans (St.rank n .fields k0) (.returned .nilFunc) (W2.setCell ⟨w.heap.size, 6, none⟩ (.bool true))) :=
          ⟨.stop, k + 2, body, all, now, 0, true, left, vb, rfl, ⟨KB.out.set_ 6 _, own_tys OB.out ((Tys.refl [133] W2).setCell (p := ⟨w.heap.size, 6, none⟩) KB.out (by simp) _) (by decide), fields_end HT.out HLA.out, by omega, stop_sum, BB.out.setCell (p := ⟨w.heap.size, 6, none⟩) (Nat.le_refl _) _, by omega⟩, by simp [St.rank]; omega⟩
        clear hsz
        go_wp2_with fail
        simp only [Exit.jump]
        go_ret
        exact HP.out
      have e1 : s.toList.isEmpty = false := by rw [empty_of]; exact decide_eq_false (by omega)
      obtain ⟨mm, hmm⟩ := HM.out.below BB.out hmg
      have hC := Tryz.strings_Cut s ⟨#[58]⟩ mm W2 (by omega) hmm
      obtain ⟨⟨ca, cb, f⟩, hcf⟩ : ∃ z, Lib.cut s.data.toList (⟨#[58]⟩ : ByteArray).data.toList = z := ⟨_, rfl⟩
      rw [hcf] at hC
      rw [HSL.out] at hcf
      replace hcf : Lib.cut L [58] = (ca, cb, f) := hcf
      obtain ⟨hfo, -⟩ := cut_field hcf
      have hcl := cut_le1 L [58]
      rw [hcf] at hcl
      simp only at hC hcl
      have HC := Lib.hid hC
      have HFO := Lib.hid hfo
      clear hC hcf hfo hmm
      go_wp2_with fail
      refine (HC.out).mono ?_
      rintro e w3 ⟨rfl, q, rfl⟩
      have hb3 : Below W2.heap.size W2 (W2.drewN q) := below_drewN (Below.refl _ _) q
      generalize W2.drewN q = w3 at *
      have Hb3 := Lib.hid hb3
      clear hb3 HC
      have K3 := Lib.hid (KB.out.below Hb3.out KB.out.lt)
      have O3 := Lib.hid (own_below OB.out Hb3.out)
      have B3 := Lib.hid (BB.out.trans (Hb3.out.mono BB.out.size))
      clear Hb3 KB OB BB
      have HBADX : Hid (∀ (X : World), Below w3.heap.size w3 X → fieldOK L = false → StepPost w A n c l ans (St.rank n .fields k0) (.returned .nilFunc) (X.setCell ⟨w.heap.size, 5, none⟩ (.int .i64 9))) := fun X hX hno => by
        refine ⟨.stop, k + m + 2, body, all, now, 9, false, left, vb, rfl, ⟨?_, ?_, fields_bad HT.out HLA.out hm0 (by rw [HL2.out]; exact hno) _, by omega, stop_sum, ?_, by omega⟩, by simp [St.rank]; omega⟩
        · exact (K3.out.below hX K3.out.lt).set_ 5 _
        · exact own_tys (own_below O3.out hX) ((Tys.refl [133] X).setCell (p := ⟨w.heap.size, 5, none⟩) (K3.out.below hX K3.out.lt) (by simp) _) (by decide)
        · exact (B3.out.trans (hX.mono B3.out.size)).setCell (p := ⟨w.heap.size, 5, none⟩) (Nat.le_refl _) _
      have HF := Lib.hid (fun (X : World) (hX : Below w3.heap.size w3 X) => fails_any w.heap.size 9 _ X (K3.out.below hX K3.out.lt) rfl)
      have HGO : Hid (∀ (X : World), Below w3.heap.size w3 X → fieldOK L = true → RI w X A n c l ans .fields (k + m + 2) body all now 0 false left vb) := fun X hX hyes =>
        ⟨K3.out.below hX K3.out.lt, own_below O3.out hX, fields_next HT.out HLA.out hm0 (by rw [HL2.out]; exact hyes), by omega, fields_sum, B3.out.trans (hX.mono B3.out.size), by omega⟩
      have hca : (⟨ca.toArray⟩ : ByteArray).size ≤ 140737488355328 := by simp only [ByteArray.size, List.size_toArray]; omega
      have hcb : (⟨cb.toArray⟩ : ByteArray).size ≤ 140737488355328 := by simp only [ByteArray.size, List.size_toArray]; omega
      have HTK := Lib.hid (fun W => token_any ⟨ca.toArray⟩ W hca)
      have HCT := Lib.hid (fun W => bcontrol_any ⟨cb.toArray⟩ W hcb)
      cases f with
      | false =>
        have HP := Lib.hid (HBADX.out w3 (Below.refl _ _) HFO.out)
        clear hsz
        go_wp2_with fail
        refine (HF.out w3 (Below.refl _ _)).mono ?_
        rintro e w4 ⟨rfl, rfl⟩
        go_wp2_with fail
        simp only [Exit.jump]
        go_ret
        exact HP.out
      | true =>
      go_wp2_with fail
      refine (HTK.out w3).mono ?_
      rintro e w4 ⟨rfl, hb4⟩
      have Hb4 := Lib.hid hb4
      clear hb4 HTK
      cases htok : tokenB ca with
      | false =>
        have HP := Lib.hid (HBADX.out w4 Hb4.out (by rw [HFO.out, htok]; rfl))
        clear hsz htok
        go_wp2_with fail
        refine (HF.out w4 Hb4.out).mono ?_
        rintro e w5 ⟨rfl, rfl⟩
        go_wp2_with fail
        simp only [Exit.jump]
        go_ret
        exact HP.out
      | true =>
      have HTOK := Lib.hid htok
      clear htok
      go_wp2_with fail
      refine (HCT.out w4).mono ?_
      rintro e w5 ⟨rfl, q2, rfl⟩
      have hb5 : Below w3.heap.size w3 (w4.drewN q2) := below_drewN Hb4.out q2
      generalize w4.drewN q2 = w5 at *
      have Hb5 := Lib.hid hb5
      clear hb5 HCT
      cases hpl : plainB cb with
      | false =>
        have HP := Lib.hid (HBADX.out w5 Hb5.out (by rw [HFO.out, HTOK.out, hpl]; rfl))
        clear hsz hpl
        go_wp2_with fail
        refine (HF.out w5 Hb5.out).mono ?_
        rintro e w6 ⟨rfl, rfl⟩
        go_wp2_with fail
        simp only [Exit.jump]
        go_ret
        exact HP.out
      | true =>
        have hri := HGO.out w5 Hb5.out (by rw [HFO.out, HTOK.out, hpl]; rfl)
        have HRI := Lib.hid hri
        clear hri hpl hsz
        go_wp2_with fail
        go_step3
        refine ⟨rfl, ⟨⟨_, _, _, _, _, _, _, _, _, _, _, _, _, _, _, _, _, _, _, _, _, _, _, _, _, _, _, _, _, _, _, _, _, _, _, _, _, _, _, rfl⟩, k + m + 2, by omega, HRI⟩, ?_⟩
        rw [HAT.out, atOf_eq HRI.out]
        omega
end Go.Proofs.YtonlfplloenfcaaGreatDoor
