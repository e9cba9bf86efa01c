/-
  ReaderReads: which blocks each of the two readers and the book stand in, told by one colouring of all blocks.
  footmanlaw20.same: what both readers tell; it goes into the book.
  ReaderReads: the walk.
-/
import Derived.Test.YtonlfplloenfcaaGreatDoorRdPEtc
import Derived.Test.YtonlfplloenfcaaGreatDoorRfAEtc
import Derived.Test.YtonlfplloenfcaaGreatDoorLookCEtc
import Derived.Test.YtonlfplloenfcaaGreatDoorEndSpecEtc
import Derived.Test.YtonlfplloenfcaaGreatDoorRdIEtc
namespace Go.Proofs.YtonlfplloenfcaaGreatDoor
open Go.RowKit

def recol (N c : Nat) (col : Nat → Nat) : Nat → Nat := fun q => if q < N then col q else c
theorem recol_lt {N c : Nat} {col : Nat → Nat} {q : Nat} (h : q < N) : recol N c col q = col q := if_pos h
theorem recol_ge {N c : Nat} {col : Nat → Nat} {q : Nat} (h : N ≤ q) : recol N c col q = c := if_neg (by omega)
/-- Both readers and the book, at a colouring. -/
structure ColI (w : World) (base p pm g nb : Nat) (mt : ByteArray) (s1 s2 : RSt) (col : Nat → Nat) : Prop where
  rd : RdStP w base p mt (fun q => col q = 1) s1
  rf : RfStP w base pm mt (fun q => col q = 2) s2
  bk : C.BkOk w base g nb (fun q => col q = 3) (fun q => col q = 4)
  cp : col p = 1
  cm : col pm = 2
  cg : col g = 3
  lp : p < w.heap.size
  lm : pm < w.heap.size
  lg : g < w.heap.size
  low : ∀ q, q < base → col q = 0
  hb : base ≤ w.heap.size
variable {w w' : World} {base p pm g nb : Nat} {mt : ByteArray} {s1 s2 : RSt} {col : Nat → Nat}
theorem ColI.recol (h : ColI w base p pm g nb mt s1 s2 col) (c : Nat) : ColI w base p pm g nb mt s1 s2 (recol w.heap.size c col) :=
  ⟨h.rd.mono (fun _ hq e => (recol_lt hq).trans e), h.rf.mono (fun _ hq e => (recol_lt hq).trans e), h.bk.mono (fun _ hq e => (recol_lt hq).trans e) (fun _ hq e => (recol_lt hq).trans e),
    (recol_lt h.lp).trans h.cp, (recol_lt h.lm).trans h.cm, (recol_lt h.lg).trans h.cg, h.lp, h.lm, h.lg, fun q hq => (recol_lt (Nat.lt_of_lt_of_le hq h.hb)).trans (h.low q hq), h.hb⟩
theorem ColI.below (h : ColI w base p pm g nb mt s1 s2 col) (hb : Below w.heap.size w w') : ColI w' base p pm g nb mt s1 s2 col :=
  have hk : Keep (fun _ => False) w w' := Keep.of_below hb
  ⟨h.rd.keepX hk (fun _ e => e.elim) h.cp, h.rf.keepX hk (fun _ e => e.elim) h.cm, h.bk.keepX hk (fun _ e => e.elim) (fun _ e => e.elim), h.cp, h.cm, h.cg,
    Nat.lt_of_lt_of_le h.lp hb.size, Nat.lt_of_lt_of_le h.lm hb.size, Nat.lt_of_lt_of_le h.lg hb.size, h.low, Nat.le_trans h.hb hb.size⟩
theorem ColI.put1 {s3 : RSt} (h : ColI w base p pm g nb mt s1 s2 col) (hk : Keep (fun q => col q = 1) w w') (hr : RdStP w' base p mt (fun q => col q = 1) s3) : ColI w' base p pm g nb mt s3 s2 col :=
  ⟨hr, h.rf.keepX hk (fun _ e e' => by rw [e] at e'; omega) h.cm, h.bk.keepX hk (fun _ e e' => by rw [e] at e'; omega) (fun _ e e' => by rw [e] at e'; omega), h.cp, h.cm, h.cg,
    Nat.lt_of_lt_of_le h.lp hk.size, Nat.lt_of_lt_of_le h.lm hk.size, Nat.lt_of_lt_of_le h.lg hk.size, h.low, Nat.le_trans h.hb hk.size⟩
theorem ColI.put2 {s3 : RSt} (h : ColI w base p pm g nb mt s1 s2 col) (hk : Keep (fun q => col q = 2) w w') (hr : RfStP w' base pm mt (fun q => col q = 2) s3) : ColI w' base p pm g nb mt s1 s3 col :=
  ⟨h.rd.keepX hk (fun _ e e' => by rw [e] at e'; omega) h.cp, hr, h.bk.keepX hk (fun _ e e' => by rw [e] at e'; omega) (fun _ e e' => by rw [e] at e'; omega), h.cp, h.cm, h.cg,
    Nat.lt_of_lt_of_le h.lp hk.size, Nat.lt_of_lt_of_le h.lm hk.size, Nat.lt_of_lt_of_le h.lg hk.size, h.low, Nat.le_trans h.hb hk.size⟩
theorem ColI.keepBelow (h : ColI w base p pm g nb mt s1 s2 col) {c : Nat} (hc : c ≠ 0) (hk : Keep (fun q => col q = c) w w') : Below base w w' :=
  hk.below h.hb fun q e => by
    rcases Nat.lt_or_ge q base with h9 | h9
    · have := h.low q h9
      omega
    · exact h9
/-- What the book does: new colours. -/
theorem ColI.book {nb2 : Nat} {D R : Nat → Prop} {col2 : Nat → Nat} (h : ColI w base p pm g nb mt s1 s2 col) (hk : Keep (fun q => col q = 3) w w') (hb : C.BkOk w' base g nb2 D R)
    (hD : ∀ q, D q → col2 q = 3) (hR : ∀ q, q < w'.heap.size → R q → col2 q = 4) (hcol : ∀ q, q < w.heap.size → (col q = 1 ∨ col q = 2 ∨ col q = 3 ∨ col q = 0) → col2 q = col q) (hthree : ∀ q, col q = 3 → col2 q ≠ 1 ∧ col2 q ≠ 2) :
    ColI w' base p pm g nb2 mt s1 s2 col2 :=
  ⟨(h.rd.mono (Q := fun q => col2 q = 1) (fun q hq e => (hcol q hq (.inl e)).trans e)).keepX hk (fun q e => (hthree q e).1) ((hcol p h.lp (.inl h.cp)).trans h.cp),
    (h.rf.mono (Q := fun q => col2 q = 2) (fun q hq e => (hcol q hq (.inr (.inl e))).trans e)).keepX hk (fun q e => (hthree q e).2) ((hcol pm h.lm (.inr (.inl h.cm))).trans h.cm),
    hb.mono (fun q _ e => hD q e) hR, (hcol p h.lp (.inl h.cp)).trans h.cp, (hcol pm h.lm (.inr (.inl h.cm))).trans h.cm, (hcol g h.lg (.inr (.inr (.inl h.cg)))).trans h.cg,
    Nat.lt_of_lt_of_le h.lp hk.size, Nat.lt_of_lt_of_le h.lm hk.size, Nat.lt_of_lt_of_le h.lg hk.size, fun q hq => (hcol q (Nat.lt_of_lt_of_le hq h.hb) (.inr (.inr (.inr (h.low q hq))))).trans (h.low q hq), Nat.le_trans h.hb hk.size⟩
/-- A list of bytes goes into the book. -/
theorem ColI.bytes {nb2 : Nat} {V : Value} (h : ColI w base p pm g nb mt s1 s2 col) (hk : Keep (fun q => col q = 3) w w') (hb : C.BkOk w' base g nb2 (fun q => col q = 3 ∨ w.heap.size ≤ q) (fun q => col q = 4 ∨ V.ownBlock = some q))
    (h5 : ∀ q, V.ownBlock = some q → col q = 5 ∧ q < w.heap.size) (h4 : ∀ q, w.heap.size ≤ q → col q ≠ 4 ∧ col q ≠ 3) : ∃ c2, ColI w' base p pm g nb2 mt s1 s2 c2 := by
  refine ⟨fun q => if q < w.heap.size then (if col q = 5 then 4 else col q) else 3, h.book hk hb (fun q e => ?_) (fun q _ e => ?_) (fun q hq e => ?_) (fun q e => ?_)⟩
  · rcases Nat.lt_or_ge q w.heap.size with hq | hq
    · have e3 : col q = 3 := e.elim id (fun e => by omega)
      show (if q < w.heap.size then (if col q = 5 then 4 else col q) else 3) = 3
      rw [if_pos hq, e3]
      rfl
    · show (if q < w.heap.size then (if col q = 5 then 4 else col q) else 3) = 3
      rw [if_neg (by omega)]
  · show (if q < w.heap.size then (if col q = 5 then 4 else col q) else 3) = 4
    rcases e with e | e
    · have hq : q < w.heap.size := by
        rcases Nat.lt_or_ge q w.heap.size with hq | hq
        · exact hq
        · exact absurd e (h4 q hq).1
      rw [if_pos hq, e]
      rfl
    · obtain ⟨e5, hq⟩ := h5 q e
      rw [if_pos hq, if_pos e5]
  · show (if q < w.heap.size then (if col q = 5 then 4 else col q) else 3) = col q
    rw [if_pos hq, if_neg (by omega)]
  · show (if q < w.heap.size then (if col q = 5 then 4 else col q) else 3) ≠ 1 ∧ (if q < w.heap.size then (if col q = 5 then 4 else col q) else 3) ≠ 2
    rw [e]
    split <;> simp
/-- What is told goes into the book. -/
theorem ColI.same {nb2 M : Nat} (h : ColI w base p pm g nb mt s1 s2 col) (hM : w.heap.size ≤ M) (hk : Keep (fun q => col q = 3 ∧ q < w.heap.size) w w')
    (hb : C.BkOk w' base g nb2 (fun q => (col q = 3 ∧ q < w.heap.size) ∨ M ≤ q) (fun q => (col q = 4 ∧ q < w.heap.size) ∨ (w.heap.size ≤ q ∧ q < M))) : ∃ c2, ColI w' base p pm g nb2 mt s1 s2 c2 := by
  refine ⟨fun q => if q < w.heap.size then col q else if q < M then 4 else 3, h.book (hk.mono (fun q e => e.1)) hb (fun q e => ?_) (fun q _ e => ?_) (fun q hq e => ?_) (fun q e => ?_)⟩
  · show (if q < w.heap.size then col q else if q < M then 4 else 3) = 3
    rcases e with ⟨e, hq⟩ | hq
    · rw [if_pos hq, e]
    · rw [if_neg (by omega), if_neg (by omega)]
  · show (if q < w.heap.size then col q else if q < M then 4 else 3) = 4
    rcases e with ⟨e, hq⟩ | ⟨h1, h2⟩
    · rw [if_pos hq, e]
    · rw [if_neg (by omega), if_pos h2]
  · show (if q < w.heap.size then col q else if q < M then 4 else 3) = col q
    rw [if_pos hq]
  · show (if q < w.heap.size then col q else if q < M then 4 else 3) ≠ 1 ∧ (if q < w.heap.size then col q else if q < M then 4 else 3) ≠ 2
    rw [e]
    split
    · simp
    · split <;> simp
/-- The first colouring. -/
theorem ColI.start (hr : Blk w p 160 (rrC mt (.slice none 0 0) 0 0 (nxHead p) ⟨#[]⟩ ⟨#[]⟩ 0 (.slice none 0 0) (.slice none 0 0) 0 0 0 0)) (hm : Blk w pm 162 (rfC mt (.slice none 0 0) 0 ⟨#[]⟩ ⟨#[]⟩ 0 (.slice none 0 0) (.slice none 0 0) false false))
    (hg : Blk w g 42 (C.bookC 0 (.slice none 0 0) (.slice none 0 0))) (h1 : base ≤ p) (h2 : p < pm) (h3 : pm < g) : ∃ c, ColI w base p pm g 0 mt (.on []) (.on []) c :=
  ⟨fun q => if q = p then 1 else if q = pm then 2 else if q = g then 3 else 0, st_startP hr, rf_start hm, C.BkOk.start hg (by rw [if_neg (by omega), if_neg (by omega), if_pos rfl]), if_pos rfl, by rw [if_neg (by omega), if_pos rfl], by rw [if_neg (by omega), if_neg (by omega), if_pos rfl],
    hr.lt, hm.lt, hg.lt, fun q hq => by rw [if_neg (by omega), if_neg (by omega), if_neg (by omega)], by have := hr.lt; omega⟩
/-- Book.Apart on such a book. -/
theorem bkapart_ok (Bs g nb : Nat) (D R : Nat → Prop) (w : World) (hBs : powG < Bs) (hBw : Bs ≤ w.heap.size) (hpow : PowTab w) (hnb : nb ≤ 100000) (h : C.BkOk w Bs g nb D R) :
    Calls Tryz.prog 30 #[.pointer (some ⟨g, 0, none⟩)] w fun e w' => e = .returned (.bool true) ∧ Below Bs w w' := by
  obtain ⟨vb, vf, hb, hf, h1, h2, h3, f1, f2, n1, n2, l1, l2, _⟩ := h
  exact C.apart_any Bs g (.int .i64 (nb : Nat)) vb (.slice none 0 0) vf hb [] hf w hBs hBw hpow (by omega) (by simp) (by omega) h1 h2 (C.Kind.nil rfl) h3 f1 C.Far.nil f2 n1 C.Nums.nil n2
end Go.Proofs.YtonlfplloenfcaaGreatDoor
namespace Go.Proofs.YtonlfplloenfcaaGreatDoor
open Go.RowKit

set_option maxRecDepth 100000 in
set_option maxHeartbeats 1000000 in
theorem same20_any (p pm g nb : Nat) (w : World) (base : Nat) (mt : ByteArray) (st : RSt) (Q D R : Nat → Prop) (hr : RdSt w base p mt st) (hrf : RfStP w base pm mt Q st) (hpm : Q pm) (hbk : C.BkOk w base g nb D R) (hnb : nb ≤ 9000) (hbg : base ≤ g) (hbw : base ≤ w.heap.size)
    (hbd : ∀ s f x k, st = .fin s f x k → fsum f ≤ 100000 ∧ f.length ≤ 256 ∧ x.length ≤ 60000) (hm : MaxOk w) (hmg : maxG < w.heap.size) :
    Calls Tryz.prog 63 #[.pointer (some ⟨p, 0, none⟩), .pointer (some ⟨pm, 0, none⟩), .pointer (some ⟨g, 0, none⟩)] w fun e w' => e = .returned (.bool true) ∧ ∃ M, w.heap.size ≤ M ∧ Keep D w w' ∧ C.BkOk w' base g (nb + 2) (fun q => D q ∨ M ≤ q) (fun q => R q ∨ (w.heap.size ≤ q ∧ q < M)) := by
  obtain ⟨s, f, x, k, d, h1⟩ := rddone_own mt w base p st hr hbd hm hmg
  have H1 := Lib.hid h1
  have HRF := Lib.hid hrf
  have HBK := Lib.hid hbk
  have HBD := Lib.hid hbd
  clear hr hrf hbk hm h1 hbd
  go_enter Tryz.func63, Tryz.ntmps63
  go_wp2_with fail
  refine (H1.out).mono ?_
  rintro e w1 ⟨A1, A2, c1, c2, rfl, hb1, hg1, hf1, hx1⟩
  have hal1 : Below w1.heap.size w1 (w1.alloc (.cells #[.string ⟨#[]⟩, .string ⟨#[]⟩, .int .i64 s, .slice A1 f.length f.length, .slice A2 x.length x.length] 25)) := (Below.refl _ _).alloc (Nat.le_refl _) _
  have hka := Blk.new w1 25 #[.string ⟨#[]⟩, .string ⟨#[]⟩, .int .i64 s, .slice A1 f.length f.length, .slice A2 x.length x.length]
  have hb1' := hb1.trans (hal1.mono hb1.size)
  have KA := Lib.hid hka
  have B1 := Lib.hid hb1'
  have G1 := Lib.hid (hg1.below hal1)
  have F1 := Lib.hid (own_below hf1 hal1)
  have X1 := Lib.hid (own_below hx1 hal1)
  have RF1 := Lib.hid (HRF.out.keepX (X := fun _ => False) (Keep.of_below hb1') (fun q e => e.elim) hpm)
  have hz1 := hb1.size
  clear hb1 hg1 hf1 hx1 hal1 hka hb1' H1 HRF
  go_wp2_with fail
  have hk1 := Lib.hid (rfl : w1.heap.size = w1.heap.size)
  have hz1' : w1.heap.size < (w1.alloc (.cells #[.string ⟨#[]⟩, .string ⟨#[]⟩, .int .i64 s, .slice A1 f.length f.length, .slice A2 x.length x.length] 25)).heap.size := by simp
  generalize w1.alloc (.cells #[.string ⟨#[]⟩, .string ⟨#[]⟩, .int .i64 s, .slice A1 f.length f.length, .slice A2 x.length x.length] 25) = W1 at *
  generalize w1.heap.size = ga at *
  obtain ⟨s', f', x', k', d', h2⟩ := rfdone_st mt W1 base pm Q st RF1.out HBD.out
  have H2 := Lib.hid h2
  clear h2 RF1
  refine (H2.out).mono ?_
  rintro e w2 ⟨E1, E2, e1, e2, rfl, hb2, hg2, ht1, ht2⟩
  obtain ⟨rfl, rfl, rfl, rfl, rfl⟩ := gotm_eq G1.out hg2
  have hal2 : Below w2.heap.size w2 (w2.alloc (.cells #[.string ⟨#[]⟩, .string ⟨#[]⟩, .int .i64 s, .slice E1 f.length e1, .slice E2 x.length e2] 25)) := (Below.refl _ _).alloc (Nat.le_refl _) _
  have hkb := Blk.new w2 25 #[.string ⟨#[]⟩, .string ⟨#[]⟩, .int .i64 s, .slice E1 f.length e1, .slice E2 x.length e2]
  have hb2' := hb2.trans (hal2.mono hb2.size)
  have KA2 := Lib.hid (KA.out.below hb2' KA.out.lt)
  have KB2 := Lib.hid hkb
  have B2 := Lib.hid (B1.out.trans (hb2'.mono B1.out.size))
  have GA2 := Lib.hid (G1.out.below hb2')
  have GB2 := Lib.hid (hg2.below hal2)
  have F2 := Lib.hid (own_below F1.out hb2')
  have X2 := Lib.hid (own_below X1.out hb2')
  have HT := Lib.hid (And.intro ht1 ht2)
  have hz2 : W1.heap.size ≤ w2.heap.size := hb2.size
  have hwz1 : w.heap.size ≤ W1.heap.size := B1.out.size
  clear hb2 hg2 ht1 ht2 hal2 hkb hb2' H2 KA B1 G1 F1 X1
  go_upto_region 3 with fail
  have hz2' : w2.heap.size < (w2.alloc (.cells #[.string ⟨#[]⟩, .string ⟨#[]⟩, .int .i64 s, .slice E1 f.length e1, .slice E2 x.length e2] 25)).heap.size := by simp
  generalize w2.alloc (.cells #[.string ⟨#[]⟩, .string ⟨#[]⟩, .int .i64 s, .slice E1 f.length e1, .slice E2 x.length e2] 25) = W2 at *
  generalize w2.heap.size = gb at *
  have a0 := KA2.out.cell 0
  have a1 := KA2.out.cell 1
  have a2 := KA2.out.cell 2
  have a3 := KA2.out.cell 3
  have a4 := KA2.out.cell 4
  simp at a0 a1 a2 a3 a4
  have hgl := GA2.out.2.2.1
  have hgx := GA2.out.2.2.2.1
  have HBM := Lib.hid (C.bkmessage_ok base g nb (fun q => D q ∧ q < w.heap.size) (fun q => R q ∧ q < w.heap.size) ⟨#[]⟩ ⟨#[]⟩ s A1 A2 f.length f.length x.length x.length (fcells f) (Lib.byteCells x) W2 hnb hbg
    ((HBK.out.mono (D' := fun q => D q ∧ q < w.heap.size) (R' := fun q => R q ∧ q < w.heap.size) (fun q h e => ⟨e, h⟩) (fun q h e => ⟨e, h⟩)).keepX (X := fun _ => False) (Keep.of_below B2.out) (fun _ e => e.elim) (fun _ e => e.elim))
    (C.own2.clip (ownsRow_base F2.out hbw)) (C.own2.clip (ownsRow_base X2.out hbw)) (by omega) (by omega) (fun q e h => by have := ((C.own2.clip F2.out).lt q e).1; omega) (fun q e => ⟨fun h => (by have := ((C.own2.clip X2.out).lt q e).1; omega), fun h => (by have := ((C.own2.clip X2.out).lt q e).1; omega)⟩))
  go_wp2_with fail
  refine (HBM.out).mono ?_
  rintro e w3 ⟨rfl, hbk3, hk3⟩
  have KA3 := KA2.out.keep hk3 (fun e => by have := e.2; omega)
  have KB3 := KB2.out.keep hk3 (fun e => by have := e.2; omega)
  have b0 := KA3.cell 0
  have b1 := KA3.cell 1
  have b2 := KA3.cell 2
  have b3 := KA3.cell 3
  have b4 := KA3.cell 4
  have d0 := KB3.cell 0
  have d1 := KB3.cell 1
  have d2 := KB3.cell 2
  have d3 := KB3.cell 3
  have d4 := KB3.cell 4
  simp at b0 b1 b2 b3 b4 d0 d1 d2 d3 d4
  have HSM := Lib.hid (samem_any ⟨#[]⟩ ⟨#[]⟩ s A1 E1 A2 E2 f.length f.length e1 x.length x.length e2 W2.heap.size f x w3 hk3.size
    (fread_keepX GA2.out.1 hk3 (Nat.le_refl _) (fun q o e h => by have := (F2.out.lt q (by rw [e]; rfl)).1; have := h.2; omega)) (fread_keepX GB2.out.1 hk3 (Nat.le_refl _) (fun q o e h => by have := HT.out.1 q o e; have := h.2; omega)) (by omega)
    (GA2.out.2.1.keepX hk3 (Nat.le_refl _) (fun q o e h => by have := (X2.out.lt q (by rw [e]; rfl)).1; have := h.2; omega)) (GB2.out.2.1.keepX hk3 (Nat.le_refl _) (fun q o e h => by have := HT.out.2 q o e; have := h.2; omega)) (by omega))
  have HB3 := Lib.hid (And.intro hbk3 hk3)
  have ek : (k == k) = true := beq_iff_eq.2 rfl
  have ed : (d == d) = true := beq_iff_eq.2 rfl
  have hfx := fun q (e : (Value.slice A1 f.length f.length).ownBlock = some q) => (C.own2.clip F2.out).lt q e
  have hxx := fun q (e : (Value.slice A2 x.length x.length).ownBlock = some q) => (C.own2.clip X2.out).lt q e
  have HFX := Lib.hid (And.intro hfx hxx)
  clear KA3 KB3 hbk3 hk3 a0 a1 a2 a3 a4 HBM hfx hxx
  go_wp2_with fail
  refine (HSM.out).mono ?_
  rintro e w4 ⟨rfl, hb4⟩
  have HB4 := Lib.hid hb4
  clear hb4 HSM b0 b1 b2 b3 b4 d0 d1 d2 d3 d4
  go_wp2_with fail
  go_ret
  refine ⟨rfl, W2.heap.size, B2.out.size, ((Keep.of_below B2.out).trans (HB3.out.2.mono (fun q e => e.1))).trans (Keep.of_below HB4.out), ?_⟩
  refine (HB3.out.1.keepX (X := fun _ => False) (Keep.of_below HB4.out) (fun _ e => e.elim) (fun _ e => e.elim)).mono (fun q _ e => e.imp (fun e => e.1) id) (fun q _ e => ?_)
  rcases e with e | e | e
  · exact .inl e.1
  · exact .inr (HFX.out.1 q e)
  · exact .inr (HFX.out.2 q e)
end Go.Proofs.YtonlfplloenfcaaGreatDoor
namespace Go.Proofs.YtonlfplloenfcaaGreatDoor
open Go.RowKit

set_option maxRecDepth 100000 in
set_option maxHeartbeats 4000000 in
theorem readerreads_any (mt : ByteArray) (A A2 : Option Addr) (n c n2 c2 : Nat) (q : Bool) (l : List UInt8) (u : List Nat) (w : World) (hs : mt.size ≤ 140737488355328) (hc : n ≤ c) (h : Lies w w.heap.size A n (Lib.byteCells l)) (hn : n ≤ 140737488355328)
    (h2 : Lies w w.heap.size A2 n2 (ucells u)) (hn2 : n2 ≤ 140737488355328) (hu : ∀ x ∈ u, x < 65536)
    (hp : PowTab w) (hpg : powG < w.heap.size) (hm : MaxOk w) (hmg : maxG < w.heap.size) (he : ErrOk w) (heg : errG < w.heap.size) :
    Calls Tryz.prog 19 #[.agg #[.string mt, .slice A n c, .slice A2 n2 c2, .bool q]] w fun e w' => e = .returned (.bool true) ∧ Below w.heap.size w w' := by
  have hll : l.length = n := by simpa [Lib.byteCells] using h.1
  have hul : u.length = n2 := by simpa [ucells] using h2.1
  have H := Lib.hid h
  have H2 := Lib.hid h2
  have HU := Lib.hid hu
  have HLL := Lib.hid hll
  have HUL := Lib.hid hul
  have HPW := Lib.hid (fun (W : World) (hb : Below w.heap.size w W) => (And.intro (hp.below hb hpg) (Nat.lt_of_lt_of_le hpg hb.size)))
  have HM := Lib.hid (fun (W : World) (hb : Below w.heap.size w W) => (And.intro (hm.below hb hmg) (Nat.lt_of_lt_of_le hmg hb.size)))
  have HE := Lib.hid (fun (W : World) (hb : Below w.heap.size w W) => (And.intro (he.below hb heg) (Nat.lt_of_lt_of_le heg hb.size)))
  have HA := Lib.hid (fun (W : World) (hb : Below w.heap.size w W) => alive20_any W (hm.below hb hmg) (Nat.lt_of_lt_of_le hmg hb.size) (he.below hb heg) (Nat.lt_of_lt_of_le heg hb.size))
  have hk0 := Blk.new w 86 #[.string mt, .slice A n c, .slice A2 n2 c2, .bool q]
  have hB0 : Below w.heap.size w (w.alloc (.cells #[.string mt, .slice A n c, .slice A2 n2 c2, .bool q] 86)) := (Below.refl _ _).alloc (Nat.le_refl _) _
  have K0 := Lib.hid hk0
  have B0 := Lib.hid hB0
  have hkl := hk0.lt
  have HGR := Lib.hid (great20_any mt A A2 n c n2 c2 q (w.alloc (.cells #[.string mt, .slice A n c, .slice A2 n2 c2, .bool q] 86)) hn hn2)
  clear hk0 hB0 h h2 hp hm he hll hul hu
  go_enter Tryz.func19, Tryz.ntmps19
  go_wp2_with fail
  generalize w.alloc (.cells #[.string mt, .slice A n c, .slice A2 n2 c2, .bool q] 86) = W0 at *
  refine (HGR.out).mono ?_
  rintro e w1 ⟨rfl, hb1⟩
  have B1 := Lib.hid (B0.out.trans (hb1.mono B0.out.size))
  have K1 := Lib.hid (K0.out.below hb1 hkl)
  clear hb1 K0 B0 HGR hkl
  by_cases hgr : 20000 < n ∨ 100 < n2
  · have hd : (decide (20000 < n) || decide (100 < n2)) = true := by simpa using hgr
    rw [hd]
    go_wp2_with fail
    refine (HA.out w1 B1.out).mono ?_
    rintro e w2 ⟨rfl, hb2⟩
    have B2 := Lib.hid (B1.out.trans (hb2.mono B1.out.size))
    clear hb2
    go_wp2_with fail
    go_ret
    exact ⟨rfl, B2.out⟩
  have hd : (decide (20000 < n) || decide (100 < n2)) = false := by simpa using hgr
  rw [hd]
  have hn' : n ≤ 20000 := by omega
  have hn2' : n2 ≤ 100 := by omega
  clear hd hgr
  have a0 := K1.out.cell 0
  have a1 := K1.out.cell 1
  simp at a0 a1
  have HN := Lib.hid (rdnew_any mt w1 hs)
  have HRN := Lib.hid (fun W => rfnew_any mt W hs)
  go_wp2_with fail
  refine (HN.out).mono ?_
  rintro e w2 ⟨hb2, hor⟩
  cases htk : tokenB mt.data.toList with
  | false =>
    rcases hor with ⟨_, rfl⟩ | ⟨h, _⟩
    · have B2 := Lib.hid (B1.out.trans (hb2.mono B1.out.size))
      have k0 := (K1.out.below hb2 K1.out.lt).cell 0
      simp at k0
      clear hb2 HN a0 a1
      go_wp2_with fail
      refine (HRN.out w2).mono ?_
      rintro e w3 ⟨hb3, hor⟩
      rcases hor with ⟨_, rfl⟩ | ⟨h, _⟩
      · have B3 := Lib.hid (B2.out.trans (hb3.mono B2.out.size))
        clear hb3 HRN B2 k0
        go_wp2_with fail
        refine (rdput_nil none 0 0 w3).mono ?_
        rintro e w4 ⟨rfl, rfl⟩
        go_wp2_with fail
        refine (rddone_nil w3).mono ?_
        rintro e w5 ⟨rfl, hb5⟩
        have B5 := Lib.hid (B3.out.trans (hb5.mono B3.out.size))
        clear hb5
        go_wp2_with fail
        have hal5 : Below w5.heap.size w5 (w5.alloc (.cells #[.string ⟨#[]⟩, .string ⟨#[]⟩, .int .i64 0, .slice none 0 0, .slice none 0 0] 25)) := (Below.refl _ _).alloc (Nat.le_refl _) _
        have B6 := Lib.hid (B5.out.trans (hal5.mono B5.out.size))
        clear hal5 B5
        refine (rdend_nil _).mono ?_
        rintro e w6 ⟨rfl, rfl⟩
        go_wp2_with fail
        refine (HA.out _ B6.out).mono ?_
        rintro e w7 ⟨rfl, hb7⟩
        have B7 := Lib.hid (B6.out.trans (hb7.mono B6.out.size))
        clear hb7
        go_wp2_with fail
        go_ret
        exact ⟨rfl, B7.out⟩
      · rw [htk] at h
        cases h
    · rw [htk] at h
      cases h
  | true =>
    rcases hor with ⟨h, _⟩ | ⟨_, p, rfl, hpg1, hkp⟩
    · rw [htk] at h
      cases h
    have X2 := Lib.hid hb2
    have k0 := (K1.out.below hb2 K1.out.lt).cell 0
    simp at k0
    have hpl := hkp.lt
    have HKP := Lib.hid hkp
    have hz12 := hb2.size
    clear hb2 HN a0 a1 hkp
    go_wp2_with fail
    refine (HRN.out w2).mono ?_
    rintro e w3 ⟨hb3, hor⟩
    rcases hor with ⟨h, _⟩ | ⟨_, pm, rfl, hpg2, hkm⟩
    · rw [htk] at h
      cases h
    have X3 := Lib.hid (X2.out.trans (hb3.mono hz12))
    have KP3 := Lib.hid (HKP.out.below hb3 hpl)
    have KM3 := Lib.hid hkm
    have hml := hkm.lt
    have hz13 := X3.out.size
    have k1 := (K1.out.below X3.out K1.out.lt).cell 1
    simp at k1
    clear hb3 HRN hkm X2 HKP k0
    go_upto_region 13 with fail
    have hal3 : Below w3.heap.size w3 (w3.alloc (.cells #[.int .i64 0, .slice none 0 0, .slice none 0 0, .slice none 0 0, .slice none 0 0, .slice none 0 0, .slice none 0 0, .slice none 0 0, .slice none 0 0] 42)) := (Below.refl _ _).alloc (Nat.le_refl _) _
    have hkb := Blk.new w3 42 #[.int .i64 0, .slice none 0 0, .slice none 0 0, .slice none 0 0, .slice none 0 0, .slice none 0 0, .slice none 0 0, .slice none 0 0, .slice none 0 0]
    have hX4 := X3.out.trans (hal3.mono hz13)
    obtain ⟨col0, hcol0⟩ := ColI.start (base := w1.heap.size) (KP3.out.below hal3 KP3.out.lt) (KM3.out.below hal3 KM3.out.lt) hkb hpg1 (by omega) hml
    have HC0 := Lib.hid hcol0
    have X4 := Lib.hid hX4
    clear hal3 hkb hX4 hcol0 KP3 KM3 X3 k1
    have hbg : w1.heap.size ≤ w3.heap.size := hz13
    have hmg1 := (HM.out _ B1.out).2
    have heg1 := (HE.out _ B1.out).2
    have hpg1' := (HPW.out _ B1.out).2
    generalize w3.alloc (.cells #[.int .i64 0, .slice none 0 0, .slice none 0 0, .slice none 0 0, .slice none 0 0, .slice none 0 0, .slice none 0 0, .slice none 0 0, .slice none 0 0] 42) = W4 at *
    generalize w3.heap.size = g at *
    go_wp2_with fail
    go_loopw [12, 14] (fun rest i wr => ∃ (j : Nat) (P r : List UInt8) (st : RSt) (col : Nat → Nat) (R : Option Addr) (m cc : Nat), j ≤ n2 + 1 ∧ rest = .slice R m cc ∧ i = .int .i64 j ∧ m ≤ cc ∧ P.length + m = n ∧ Hid (l = P ++ r) ∧ Hid (Lies wr w1.heap.size R m (Lib.byteCells r)) ∧ Hid (ColI wr w1.heap.size p pm g (3 * j) mt st st col) ∧ Hid (StB P.length st) ∧ Hid (Below w1.heap.size w1 wr)) (fun _ i _ => n2 + 1 - (intOf i).toNat)
    case atStart => exact ⟨0, [], l, .on [], col0, A, n, c, by omega, rfl, by go_num, hc, by simp, rfl, (H.out.below (B1.out.trans (X4.out.mono B1.out.size))).more B1.out.size, HC0.out, stB_start, X4.out⟩
    case round =>
      obtain ⟨j, P, r, st, col, R, m, cc, hj, rfl, rfl, hmc, hPm, HPR, HL, HI, HS, HX⟩ := hrel
      have KK := K1.out.below HX.out K1.out.lt
      have q2 := KK.cell 2
      have q3 := KK.cell 3
      simp at q2 q3
      have hrl : r.length = m := by simpa [Lib.byteCells] using HL.out.1
      have hzx := HX.out.size
      have BW := Lib.hid (B1.out.trans (HX.out.mono B1.out.size))
      clear KK HC0 X4
      by_cases hjn1 : j ≤ n2
      · have hd : decide ((j : Int) ≤ (n2 : Int)) = true := decide_eq_true (by omega)
        go_upto_if 88 with fail
        go_cut [15] from 75 to 139 (fun s15 wx => ∃ v : Nat, v ≤ m ∧ s15 = .int .i64 (v : Int) ∧ wr = wx)
        case first =>
          by_cases hjn : j < n2
          · have hd2 : decide ((j : Int) < (n2 : Int)) = true := decide_eq_true (by omega)
            obtain ⟨b, off, uu, rfl, hbb, huu, hcc⟩ := H2.out.at_ hjn
            obtain ⟨y, hy⟩ : ∃ y, u[j]? = some y := ⟨u[j]'(by rw [HUL.out]; exact hjn), List.getElem?_eq_getElem (by rw [HUL.out]; exact hjn)⟩
            have hux : uu = .int .u16 (y : Int) := by
              unfold ucells at huu
              rw [List.getElem?_map, hy] at huu
              exact (Option.some.inj huu).symm
            subst hux
            have hc1 := (BW.out.cell (p := ⟨b, off + j, none⟩) hbb).trans hcc
            obtain ⟨v, hv⟩ : ∃ v, min m y = v := ⟨_, rfl⟩
            have hvm : v ≤ m := by omega
            have hy2 := HU.out y (List.mem_of_getElem? hy)
            have hmin : min (m : Int) (y : Int) = (v : Int) := by omega
            clear huu hcc hy hv
            go_wp2_with fail
            go_meet
            exact ⟨v, hvm, rfl, rfl⟩
          · have hd2 : decide ((j : Int) < (n2 : Int)) = false := decide_eq_false (by omega)
            go_wp2_with fail
            go_meet
            exact ⟨m, Nat.le_refl _, rfl, rfl⟩
        case rest =>
        obtain ⟨v, hv, rfl, rfl⟩ := hcut
        clear q2 q3
        have hvl : (r.take v).length = v := by rw [List.length_take]; omega
        have HTB := Lib.hid (twinb_any R v cc (r.take v) wr ((lies_cut HL.out hv).more hzx) (by omega))
        go_wp2_with fail
        refine (HTB.out).mono ?_
        rintro e w5 ⟨rfl, ho5, hb5⟩
        have hgl5 := ho5.lt wr.heap.size rfl
        obtain ⟨c1, I5, f1, f1b⟩ : ∃ c1, ColI w5 w1.heap.size p pm g (3 * j) mt st st c1 ∧ (∀ q, w5.heap.size ≤ q → c1 q = 1) ∧ c1 wr.heap.size = 5 := ⟨_, ((HI.out.recol 5).below hb5).recol 1, fun q hq => recol_ge hq, by rw [recol_lt hgl5.2]; exact recol_ge (Nat.le_refl _)⟩
        have BX5 := Lib.hid (hb5.mono hzx)
        have BW5 := Lib.hid (BW.out.trans (BX5.out.mono B1.out.size))
        have HPUT := Lib.hid (rdput_stP p w5 w1.heap.size mt st (r.take v) (some ⟨wr.heap.size, 0, none⟩) v (v + 1) (fun q => c1 q = 1) I5.rd HS.out.2.1 (fun L hL => by have := HS.out.1 L hL; omega) (twinb_read hvl ho5).1 (fun _ g' o e => by
          injection e with e
          injection e with e _
          have := HI.out.lp
          omega) I5.hb (HM.out _ BW5.out).1 hmg1 (HE.out _ BW5.out).1 heg1 hpg1 f1 I5.cp)
        obtain ⟨k1, hk1⟩ : ∃ x, (putR mt st (r.take v)).2.1 = x := ⟨_, rfl⟩
        obtain ⟨k2, hk2⟩ : ∃ x, (putR mt st (r.take v)).2.2 = x := ⟨_, rfl⟩
        obtain ⟨st1, hst1⟩ : ∃ x, (putR mt st (r.take v)).1 = x := ⟨_, rfl⟩
        have hs1 := stB_put (mt := mt) (b := r.take v) HS.out (by rw [hvl]; omega)
        rw [hst1, hvl] at hs1
        have HS1 := Lib.hid hs1
        rw [hk1, hk2, hst1] at HPUT
        have HEQ := Lib.hid (And.intro hk1 (And.intro hk2 hst1))
        have O5 := Lib.hid ho5
        have HI5 := Lib.hid I5
        have F1 := Lib.hid (And.intro f1 f1b)
        clear ho5 hb5 I5 f1 f1b hs1 hk1 hk2 hst1 HTB
        go_wp2_with fail
        refine (HPUT.out).mono ?_
        rintro e w6 ⟨rfl, hk6, hr6⟩
        have hz56 := hk6.size
        obtain ⟨c2, I6, f2, f2b⟩ : ∃ c2, ColI w6 w1.heap.size p pm g (3 * j) mt st1 st c2 ∧ (∀ q, w6.heap.size ≤ q → c2 q = 2) ∧ c2 wr.heap.size = 5 := ⟨_, (HI5.out.put1 hk6 hr6).recol 2, fun q hq => recol_ge hq, by rw [recol_lt (Nat.lt_of_lt_of_le hgl5.2 hz56)]; exact F1.out.2⟩
        have BX6 := Lib.hid (BX5.out.trans (HI5.out.keepBelow (by decide) hk6))
        have O6 := Lib.hid (own_keepX O5.out hk6 (fun q e h => by
          obtain rfl : wr.heap.size = q := by simpa [Value.ownBlock] using e
          have := F1.out.2
          omega))
        have HFP := Lib.hid (rfput_stP pm w6 w1.heap.size mt st (r.take v) R v cc (fun q => c2 q = 2) I6.rf HS.out.2.1 (fun L hL => by have := HS.out.1 L hL; omega) ((lies_cut (HL.out.below BX6.out) hv).more (Nat.le_trans hzx BX6.out.size)) I6.hb f2 I6.cm)
        rw [HEQ.out.1, HEQ.out.2.1, HEQ.out.2.2] at HFP
        have HI6 := Lib.hid I6
        have F2 := Lib.hid (And.intro f2 f2b)
        clear hk6 hr6 I6 f2 f2b HPUT HI5 O5 F1
        go_wp2_with fail
        refine (HFP.out).mono ?_
        rintro e w7 ⟨rfl, hk7, hr7⟩
        have hz67 := hk7.size
        have HI7 := Lib.hid (HI6.out.put2 hk7 hr7)
        have BX7 := Lib.hid (BX6.out.trans (HI6.out.keepBelow (by decide) hk7))
        have O7 := Lib.hid (own_keepX O6.out hk7 (fun q e h => by
          obtain rfl : wr.heap.size = q := by simpa [Value.ownBlock] using e
          have := F2.out.2
          omega))
        obtain ⟨hl7, hm7⟩ := twinb_read hvl O7.out
        have HLB := Lib.hid (leftbytes_any wr.heap.size R v cc (r.take v) w7 hl7 ((lies_cut (HL.out.below BX7.out) hv).more (Nat.le_trans hzx BX7.out.size)) (by omega) hm7)
        have ek1 : (k1 != k1) = false := by simp
        have ek2 : (k2 != k2) = false := by simp
        clear hk7 hr7 hl7 hm7 HFP HI6 O6
        go_wp2_with fail
        refine (HLB.out).mono ?_
        rintro e w8 ⟨rfl, hb8⟩
        have hz78 := hb8.size
        have HI8 := Lib.hid (HI7.out.below hb8)
        have BX8 := Lib.hid (BX7.out.trans (hb8.mono (Nat.le_trans hzx BX7.out.size)))
        have O8 := Lib.hid (own_below O7.out hb8)
        have F8 := Lib.hid (fun q (hq : w8.heap.size ≤ q) => (by have := F2.out.1 q (by omega); omega : c2 q ≠ 4 ∧ c2 q ≠ 3))
        have HBK := Lib.hid (C.bkbytes_ok w1.heap.size g (3 * j) (fun q => c2 q = 3) (fun q => c2 q = 4) (some ⟨wr.heap.size, 0, none⟩) v (v + 1) (Lib.byteCells (r.take v)) w8 (by omega) hbg HI8.out.bk (.inl (ownsRow_base (own_cutb (by rw [Lib.byteCells_length, hvl]) O8.out) hzx)) (by omega) (fun q e h => by
          obtain rfl : wr.heap.size = q := by simpa [Value.ownBlock] using e
          have := F2.out.2
          omega))
        obtain ⟨R', hR'⟩ : ∃ R', (if cc = v then R else Option.map (fun a => a.add v) R) = R' := ⟨_, rfl⟩
        have HRR := Lib.hid hR'
        clear hb8 HLB HI7 O7 ek1 ek2
        go_wp2_with fail
        refine (HBK.out).mono ?_
        rintro e w9 ⟨rfl, hbk9, hk9, _⟩
        have hz89 := hk9.size
        obtain ⟨c4, I9⟩ := HI8.out.bytes hk9 hbk9 (fun q e => by
          obtain rfl : wr.heap.size = q := by simpa [Value.ownBlock] using e
          exact ⟨F2.out.2, by omega⟩) F8.out
        have BX9 := Lib.hid (BX8.out.trans (HI8.out.keepBelow (c := 3) (by decide) hk9))
        have BW9 := Lib.hid (BW.out.trans (BX9.out.mono B1.out.size))
        have HSA := Lib.hid (same20_any p pm g (3 * j + 1) w9 w1.heap.size mt st1 (fun q => c4 q = 2) (fun q => c4 q = 3 ∧ q < w9.heap.size) (fun q => c4 q = 4 ∧ q < w9.heap.size) I9.rd.st I9.rf I9.cm (I9.bk.mono (fun q h e => ⟨e, h⟩) (fun q h e => ⟨e, h⟩)) (by omega) hbg I9.hb HS1.out.2.2 (HM.out _ BW9.out).1 (HM.out _ BW9.out).2)
        have HI9 := Lib.hid I9
        clear hbk9 hk9 I9 HBK HI8 O8 F8 F2
        go_wp2_with fail
        refine (HSA.out).mono ?_
        rintro e w10 ⟨rfl, M, hM, hk10, hbk10⟩
        obtain ⟨c5, I10⟩ := HI9.out.same hM hk10 hbk10
        have BX10 := Lib.hid (BX9.out.trans (HI9.out.keepBelow (c := 3) (by decide) (hk10.mono (fun q e => e.1))))
        have HI10 := Lib.hid I10
        clear hk10 hbk10 I10 HSA HI9
        go_wp2_with fail
        go_roundw
        case rel =>
          refine ⟨j + 1, P ++ r.take v, r.drop v, st1, c5, _, _, _, by omega, rfl, by go_num, by omega, by rw [List.length_append, hvl]; omega, ?_, ?_, HI10.out, ?_, HX.out.trans BX10.out⟩
          · show l = _
            rw [List.append_assoc, List.take_append_drop]
            exact HPR.out
          · have h9 := lies_drop (cap := cc) (HL.out.below BX10.out) hv hmc
            rw [HRR.out] at h9
            exact h9
          · have h9 := HS1.out
            show StB (P ++ r.take v).length st1
            rw [List.length_append, hvl]
            exact h9
        case measure => simp [intOf]; omega
      · have hd : decide ((j : Int) ≤ (n2 : Int)) = false := decide_eq_false (by omega)
        go_upto_region 28 with fail
        go_cut [154] from 140 (fun s wx => s = .bool false ∧ ∃ (nb : Nat) (st : RSt) (col : Nat → Nat), nb ≤ 1000 ∧ Hid (ColI wx w1.heap.size p pm g nb mt st st col) ∧ Hid (Below w1.heap.size w1 wx))
        case first =>
          cases q with
          | false =>
            go_wp2_with fail
            go_meet
            exact ⟨rfl, 3 * j, st, col, by omega, HI, HX⟩
          | true =>
            obtain ⟨c1, I1, f1⟩ : ∃ c1, ColI wr w1.heap.size p pm g (3 * j) mt st st c1 ∧ ∀ q, wr.heap.size ≤ q → c1 q = 1 := ⟨_, HI.out.recol 1, fun q hq => recol_ge hq⟩
            have HEN := Lib.hid (rdend_stP p wr w1.heap.size mt st (fun q => c1 q = 1) I1.rd HS.out.2.1 (fun L hL => by have := HS.out.1 L hL; omega) I1.hb f1 I1.cp)
            obtain ⟨z, hz⟩ : ∃ z, (endR mt st).2 = z := ⟨_, rfl⟩
            obtain ⟨st1, hst1⟩ : ∃ x, (endR mt st).1 = x := ⟨_, rfl⟩
            have hs1 := stB_end (mt := mt) HS.out (by omega)
            rw [hst1] at hs1
            rw [hz, hst1] at HEN
            have HS1 := Lib.hid hs1
            have HEQ := Lib.hid (And.intro hz hst1)
            have HI1 := Lib.hid I1
            clear I1 f1 hs1 hz hst1
            go_wp2_with fail
            refine (HEN.out).mono ?_
            rintro e w5 ⟨rfl, hk5, hr5⟩
            obtain ⟨c2, I2, f2⟩ : ∃ c2, ColI w5 w1.heap.size p pm g (3 * j) mt st1 st c2 ∧ ∀ q, w5.heap.size ≤ q → c2 q = 2 := ⟨_, (HI1.out.put1 hk5 hr5).recol 2, fun q hq => recol_ge hq⟩
            have BX5 := Lib.hid (HI1.out.keepBelow (by decide) hk5)
            have HEF := Lib.hid (rfend_stP pm w5 w1.heap.size mt st (fun q => c2 q = 2) I2.rf HS.out.2.1 (fun L hL => by have := HS.out.1 L hL; omega) I2.hb f2 I2.cm)
            rw [HEQ.out.1, HEQ.out.2] at HEF
            have HI2 := Lib.hid I2
            clear hk5 hr5 I2 f2 HEN HI1
            go_wp2_with fail
            refine (HEF.out).mono ?_
            rintro e w6 ⟨rfl, hk6, hr6⟩
            have I3 := HI2.out.put2 hk6 hr6
            have BX6 := Lib.hid (BX5.out.trans (HI2.out.keepBelow (by decide) hk6))
            have BW6 := Lib.hid (BW.out.trans (BX6.out.mono B1.out.size))
            have HSA := Lib.hid (same20_any p pm g (3 * j) w6 w1.heap.size mt st1 (fun q => c2 q = 2) (fun q => c2 q = 3 ∧ q < w6.heap.size) (fun q => c2 q = 4 ∧ q < w6.heap.size) I3.rd.st I3.rf I3.cm (I3.bk.mono (fun q h e => ⟨e, h⟩) (fun q h e => ⟨e, h⟩)) (by omega) hbg I3.hb HS1.out.2.2 (HM.out _ BW6.out).1 (HM.out _ BW6.out).2)
            have ez : (z != z) = false := by simp
            have HI3 := Lib.hid I3
            clear hk6 hr6 I3 HEF HI2
            go_wp2_with fail
            refine (HSA.out).mono ?_
            rintro e w7 ⟨rfl, M, hM, hk7, hbk7⟩
            obtain ⟨c3, I4⟩ := HI3.out.same hM hk7 hbk7
            have BX7 := Lib.hid (BX6.out.trans (HI3.out.keepBelow (c := 3) (by decide) (hk7.mono (fun q e => e.1))))
            have HI4 := Lib.hid I4
            clear hk7 hbk7 I4 HSA HI3
            go_wp2_with fail
            go_meet
            exact ⟨rfl, 3 * j + 2, st1, c3, by omega, HI4, HX.out.trans BX7.out⟩
        case rest =>
        obtain ⟨rfl, nb, st', col', hnb, HI', HX'⟩ := hcut
        have BW' := Lib.hid (B1.out.trans (HX'.out.mono B1.out.size))
        have HAP := Lib.hid (bkapart_ok w1.heap.size g nb _ _ wc hpg1' HI'.out.hb (HPW.out _ BW'.out).1 (by omega) HI'.out.bk)
        clear q2 q3 HI HS HL
        go_wp2_with fail
        refine (HAP.out).mono ?_
        rintro e w20 ⟨rfl, hb20⟩
        have B20 := Lib.hid (BW'.out.trans (hb20.mono B1.out.size))
        clear hb20 HAP
        go_wp2_with fail
        refine (HA.out _ B20.out).mono ?_
        rintro e w21 ⟨rfl, hb21⟩
        have B21 := Lib.hid (B20.out.trans (hb21.mono B20.out.size))
        clear hb21
        go_wp2_with fail
        go_ret
        exact ⟨rfl, B21.out⟩
end Go.Proofs.YtonlfplloenfcaaGreatDoor
