/-
  Book.Apart: lists that share no memory are told to be apart. (Written by apart.py.)
-/
import Derived.Test.YtonlfplloenfcaaGreatDoorKind
import Derived.Test.YtonlfplloenfcaaGreatDoorNoneEtc
import Derived.Test.YtonlfplloenfcaaGreatDoorGrowByteEtc
import Derived.Test.YtonlfplloenfcaaGreatDoorLookByteEtc
namespace Go.Proofs.YtonlfplloenfcaaGreatDoor
open Go.RowKit

theorem fillbyte_ok (Bs g : Nat) (cs : Array Value) (v : Value) (hs : List (Value × Nat)) (w : World) (hBs : powG < Bs) (hBw : Bs ≤ w.heap.size) (ht : PowTab w) (hN : hs.length ≤ 100000)
    (hB : Blk w g 42 cs) (hv : cs[1]? = some v) (h : Kind w Bs 5 174 1 v hs false mkByte) (hf : Far hs) (hnm : Nums hs) :
    Calls Tryz.prog 82 #[.pointer (some ⟨g, 0, none⟩)] w fun e w' => e = .returned (.tuple #[]) ∧ Kind w' Bs 5 174 1 v hs true mkByte ∧ Below Bs w w' ∧ Tys [5] w w' := by
  by_cases hne : hs = []
  · subst hne
    obtain ⟨A, c, rfl⟩ := h.form
    refine (fillbyte_none g c A cs w hB hv).mono ?_
    rintro e w' ⟨rfl, rfl⟩
    exact ⟨rfl, ⟨h.1, fun j hj => by simp at hj⟩, Below.refl _ _, Tys.refl _ _⟩
  · obtain ⟨ga, cap, rfl, hga, hA⟩ := h.arr hne
    refine (fillbyte_any Bs g ga hs.length cap (hl hs) (hn hs) (hm hs) cs w hN hBs hBw ht hB hv hA (fun j hj => h.2 j hj) hnm hf).mono ?_
    rintro e w' ⟨rfl, h1, h2, h3⟩
    exact ⟨rfl, ⟨own_tys h.1 h3 (by decide), h1⟩, h2, h3⟩
theorem growbyte_ok (Bs g : Nat) (cs : Array Value) (v : Value) (hs : List (Value × Nat)) (w : World) (hBs : powG < Bs) (hBw : Bs ≤ w.heap.size) (ht : PowTab w) (hN : hs.length ≤ 100000)
    (hB : Blk w g 42 cs) (hv : cs[1]? = some v) (h : Kind w Bs 5 174 1 v hs true mkByte) (hf : Far hs) (hnm : Nums hs) :
    Calls Tryz.prog 90 #[.pointer (some ⟨g, 0, none⟩)] w fun e w' => e = .returned (.tuple #[]) ∧ KindLong w' Bs 5 174 1 v hs mkByte ∧ Below Bs w w' ∧ Tys [5, 174] w w' := by
  by_cases hne : hs = []
  · subst hne
    obtain ⟨A, c, rfl⟩ := h.form
    refine (growbyte_none g c A cs w hB hv).mono ?_
    rintro e w' ⟨rfl, rfl⟩
    exact ⟨rfl, ⟨⟨_, _, rfl⟩, .inl rfl⟩, Below.refl _ _, Tys.refl _ _⟩
  · obtain ⟨ga, cap, rfl, hga, hA⟩ := h.arr hne
    refine (growbyte_any Bs g ga hs.length cap (hl hs) (hn hs) (hm hs) cs w hN hBs hBw hga ht hB hv hA (fun j hj => h.2 j hj) hnm hf).mono ?_
    rintro e w' ⟨rfl, ⟨L, h1, h4⟩, h2, h3⟩
    exact ⟨rfl, ⟨⟨_, _, rfl⟩, .inr ⟨ga, cap, L, rfl, h1, h4⟩⟩, h2, h3⟩
theorem lookbyte_ok (Bs g : Nat) (cs : Array Value) (v : Value) (hs : List (Value × Nat)) (w : World) (hBs : powG < Bs) (hBw : Bs ≤ w.heap.size) (ht : PowTab w) (hN : hs.length ≤ 100000)
    (hB : Blk w g 42 cs) (hv : cs[1]? = some v) (h : KindLong w Bs 5 174 1 v hs mkByte) (hsl : ∀ j, j < hs.length → ∃ A c, hl hs j = .slice A (hn hs j) c) (hnm : Nums hs) :
    Calls Tryz.prog 98 #[.pointer (some ⟨g, 0, none⟩)] w fun e w' => e = .returned (.bool true) ∧ Below w.heap.size w w' := by
  rcases h.2 with rfl | ⟨ga, cap, L, rfl, hA, hR⟩
  · obtain ⟨⟨A, c, rfl⟩, _⟩ := h
    refine (lookbyte_none g c A cs w hB hv).mono ?_
    rintro e w' ⟨rfl, rfl⟩
    exact ⟨rfl, Below.refl _ _⟩
  · exact lookbyte_any Bs g ga hs.length cap (hl hs) L (hn hs) (hm hs) cs w hN hBs hBw ht hB hv hA hR hnm hsl

theorem filltext_ok (Bs g : Nat) (cs : Array Value) (v : Value) (hs : List (Value × Nat)) (w : World) (hBs : powG < Bs) (hBw : Bs ≤ w.heap.size) (ht : PowTab w) (hN : hs.length ≤ 100000)
    (hB : Blk w g 42 cs) (hv : cs[3]? = some v) (h : Kind w Bs 9 179 1 v hs false mkText) (hf : Far hs) (hnm : Nums hs) :
    Calls Tryz.prog 84 #[.pointer (some ⟨g, 0, none⟩)] w fun e w' => e = .returned (.tuple #[]) ∧ Kind w' Bs 9 179 1 v hs true mkText ∧ Below Bs w w' ∧ Tys [9] w w' := by
  by_cases hne : hs = []
  · subst hne
    obtain ⟨A, c, rfl⟩ := h.form
    refine (filltext_none g c A cs w hB hv).mono ?_
    rintro e w' ⟨rfl, rfl⟩
    exact ⟨rfl, ⟨h.1, fun j hj => by simp at hj⟩, Below.refl _ _, Tys.refl _ _⟩
  · obtain ⟨ga, cap, rfl, hga, hA⟩ := h.arr hne
    refine (filltext_any Bs g ga hs.length cap (hl hs) (hn hs) (hm hs) cs w hN hBs hBw ht hB hv hA (fun j hj => h.2 j hj) hnm hf).mono ?_
    rintro e w' ⟨rfl, h1, h2, h3⟩
    exact ⟨rfl, ⟨own_tys h.1 h3 (by decide), h1⟩, h2, h3⟩
theorem growtext_ok (Bs g : Nat) (cs : Array Value) (v : Value) (hs : List (Value × Nat)) (w : World) (hBs : powG < Bs) (hBw : Bs ≤ w.heap.size) (ht : PowTab w) (hN : hs.length ≤ 100000)
    (hB : Blk w g 42 cs) (hv : cs[3]? = some v) (h : Kind w Bs 9 179 1 v hs true mkText) (hf : Far hs) (hnm : Nums hs) :
    Calls Tryz.prog 92 #[.pointer (some ⟨g, 0, none⟩)] w fun e w' => e = .returned (.tuple #[]) ∧ KindLong w' Bs 9 179 1 v hs mkText ∧ Below Bs w w' ∧ Tys [9, 179] w w' := by
  by_cases hne : hs = []
  · subst hne
    obtain ⟨A, c, rfl⟩ := h.form
    refine (growtext_none g c A cs w hB hv).mono ?_
    rintro e w' ⟨rfl, rfl⟩
    exact ⟨rfl, ⟨⟨_, _, rfl⟩, .inl rfl⟩, Below.refl _ _, Tys.refl _ _⟩
  · obtain ⟨ga, cap, rfl, hga, hA⟩ := h.arr hne
    refine (growtext_any Bs g ga hs.length cap (hl hs) (hn hs) (hm hs) cs w hN hBs hBw hga ht hB hv hA (fun j hj => h.2 j hj) hnm hf).mono ?_
    rintro e w' ⟨rfl, ⟨L, h1, h4⟩, h2, h3⟩
    exact ⟨rfl, ⟨⟨_, _, rfl⟩, .inr ⟨ga, cap, L, rfl, h1, h4⟩⟩, h2, h3⟩
theorem looktext_ok (Bs g : Nat) (cs : Array Value) (v : Value) (hs : List (Value × Nat)) (w : World) (hBs : powG < Bs) (hBw : Bs ≤ w.heap.size) (ht : PowTab w) (hN : hs.length ≤ 100000)
    (hB : Blk w g 42 cs) (hv : cs[3]? = some v) (h : KindLong w Bs 9 179 1 v hs mkText) (hsl : ∀ j, j < hs.length → ∃ A c, hl hs j = .slice A (hn hs j) c) (hnm : Nums hs) :
    Calls Tryz.prog 100 #[.pointer (some ⟨g, 0, none⟩)] w fun e w' => e = .returned (.bool true) ∧ Below w.heap.size w w' := by
  rcases h.2 with rfl | ⟨ga, cap, L, rfl, hA, hR⟩
  · obtain ⟨⟨A, c, rfl⟩, _⟩ := h
    refine (looktext_none g c A cs w hB hv).mono ?_
    rintro e w' ⟨rfl, rfl⟩
    exact ⟨rfl, Below.refl _ _⟩
  · exact looktext_any Bs g ga hs.length cap (hl hs) L (hn hs) (hm hs) cs w hN hBs hBw ht hB hv hA hR hnm hsl

theorem fillfield_ok (Bs g : Nat) (cs : Array Value) (v : Value) (hs : List (Value × Nat)) (w : World) (hBs : powG < Bs) (hBw : Bs ≤ w.heap.size) (ht : PowTab w) (hN : hs.length ≤ 100000)
    (hB : Blk w g 42 cs) (hv : cs[4]? = some v) (h : Kind w Bs 63 181 2 v hs false mkField) (hf : Far hs) (hnm : Nums hs) :
    Calls Tryz.prog 85 #[.pointer (some ⟨g, 0, none⟩)] w fun e w' => e = .returned (.tuple #[]) ∧ Kind w' Bs 63 181 2 v hs true mkField ∧ Below Bs w w' ∧ Tys [63] w w' := by
  by_cases hne : hs = []
  · subst hne
    obtain ⟨A, c, rfl⟩ := h.form
    refine (fillfield_none g c A cs w hB hv).mono ?_
    rintro e w' ⟨rfl, rfl⟩
    exact ⟨rfl, ⟨h.1, fun j hj => by simp at hj⟩, Below.refl _ _, Tys.refl _ _⟩
  · obtain ⟨ga, cap, rfl, hga, hA⟩ := h.arr hne
    refine (fillfield_any Bs g ga hs.length cap (hl hs) (hn hs) (hm hs) cs w hN hBs hBw ht hB hv hA (fun j hj => h.2 j hj) hnm hf).mono ?_
    rintro e w' ⟨rfl, h1, h2, h3⟩
    exact ⟨rfl, ⟨own_tys h.1 h3 (by decide), h1⟩, h2, h3⟩
theorem growfield_ok (Bs g : Nat) (cs : Array Value) (v : Value) (hs : List (Value × Nat)) (w : World) (hBs : powG < Bs) (hBw : Bs ≤ w.heap.size) (ht : PowTab w) (hN : hs.length ≤ 100000)
    (hB : Blk w g 42 cs) (hv : cs[4]? = some v) (h : Kind w Bs 63 181 2 v hs true mkField) (hf : Far hs) (hnm : Nums hs) :
    Calls Tryz.prog 93 #[.pointer (some ⟨g, 0, none⟩)] w fun e w' => e = .returned (.tuple #[]) ∧ KindLong w' Bs 63 181 2 v hs mkField ∧ Below Bs w w' ∧ Tys [63, 181] w w' := by
  by_cases hne : hs = []
  · subst hne
    obtain ⟨A, c, rfl⟩ := h.form
    refine (growfield_none g c A cs w hB hv).mono ?_
    rintro e w' ⟨rfl, rfl⟩
    exact ⟨rfl, ⟨⟨_, _, rfl⟩, .inl rfl⟩, Below.refl _ _, Tys.refl _ _⟩
  · obtain ⟨ga, cap, rfl, hga, hA⟩ := h.arr hne
    refine (growfield_any Bs g ga hs.length cap (hl hs) (hn hs) (hm hs) cs w hN hBs hBw hga ht hB hv hA (fun j hj => h.2 j hj) hnm hf).mono ?_
    rintro e w' ⟨rfl, ⟨L, h1, h4⟩, h2, h3⟩
    exact ⟨rfl, ⟨⟨_, _, rfl⟩, .inr ⟨ga, cap, L, rfl, h1, h4⟩⟩, h2, h3⟩
theorem lookfield_ok (Bs g : Nat) (cs : Array Value) (v : Value) (hs : List (Value × Nat)) (w : World) (hBs : powG < Bs) (hBw : Bs ≤ w.heap.size) (ht : PowTab w) (hN : hs.length ≤ 100000)
    (hB : Blk w g 42 cs) (hv : cs[4]? = some v) (h : KindLong w Bs 63 181 2 v hs mkField) (hsl : ∀ j, j < hs.length → ∃ A c, hl hs j = .slice A (hn hs j) c) (hnm : Nums hs) :
    Calls Tryz.prog 101 #[.pointer (some ⟨g, 0, none⟩)] w fun e w' => e = .returned (.bool true) ∧ Below w.heap.size w w' := by
  rcases h.2 with rfl | ⟨ga, cap, L, rfl, hA, hR⟩
  · obtain ⟨⟨A, c, rfl⟩, _⟩ := h
    refine (lookfield_none g c A cs w hB hv).mono ?_
    rintro e w' ⟨rfl, rfl⟩
    exact ⟨rfl, Below.refl _ _⟩
  · exact lookfield_any Bs g ga hs.length cap (hl hs) L (hn hs) (hm hs) cs w hN hBs hBw ht hB hv hA hR hnm hsl

set_option maxHeartbeats 1000000 in
theorem apart_any (Bs g : Nat) (nb vb vt vf : Value) (hb ht hf : List (Value × Nat)) (w : World) (hBs : powG < Bs) (hBw : Bs ≤ w.heap.size) (hpow : PowTab w) (lb : hb.length ≤ 100000) (lt : ht.length ≤ 100000) (lf : hf.length ≤ 100000)
    (hB : Blk w g 42 #[nb, vb, .slice none 0 0, vt, vf, .slice none 0 0, .slice none 0 0, .slice none 0 0, .slice none 0 0])
    (kb : Kind w Bs 5 174 1 vb hb false mkByte) (kt : Kind w Bs 9 179 1 vt ht false mkText) (kf : Kind w Bs 63 181 2 vf hf false mkField) (fb : Far hb) (ft : Far ht) (ff : Far hf) (mb : Nums hb) (mt : Nums ht) (mf : Nums hf) :
    Calls Tryz.prog 30 #[.pointer (some ⟨g, 0, none⟩)] w fun e w' => e = .returned (.bool true) ∧ Below Bs w w' := by
  have sb := kb.slices
  have st := kt.slices
  have sf := kf.slices
  have HB := Lib.hid hB
  have KB0 := Lib.hid kb
  have KT0 := Lib.hid kt
  have KF0 := Lib.hid kf
  have L0 := Lib.hid (Below.refl Bs w)
  have P0 := Lib.hid hpow
  have FB := Lib.hid fb
  have FT := Lib.hid ft
  have FF := Lib.hid ff
  have MB := Lib.hid mb
  have MT := Lib.hid mt
  have MF := Lib.hid mf
  have SB := Lib.hid sb
  have ST := Lib.hid st
  have SF := Lib.hid sf
  clear hB kb kt kf hpow fb ft ff mb mt mf sb st sf
  go_enter Tryz.func30, Tryz.ntmps30
  go_wp2_with fail
  refine (fillbyte_ok Bs g _ _ hb _ hBs (Nat.le_trans hBw L0.out.size) P0.out lb HB.out (by rfl) KB0.out FB.out MB.out).mono ?_
  rintro e w1 ⟨rfl, q0, q1, q2⟩
  have L1 := Lib.hid (L0.out.trans q1)
  have P1 := Lib.hid (P0.out.below q1 hBs)
  have B1 := Lib.hid (blk_tys HB.out q2 (by decide))
  have KB1 := Lib.hid q0
  have KT1 := Lib.hid (KT0.out.tys q2 (by decide) (by decide))
  have KF1 := Lib.hid (KF0.out.tys q2 (by decide) (by decide))
  clear q0 q1 q2 P0 HB KB0 KT0 KF0 L0
  go_wp2_with fail
  refine (fillint_none g 0 none _ _ B1.out (by rfl)).mono ?_
  rintro e w2 ⟨rfl, rfl⟩
  go_wp2_with fail
  refine (filltext_ok Bs g _ _ ht _ hBs (Nat.le_trans hBw L1.out.size) P1.out lt B1.out (by rfl) KT1.out FT.out MT.out).mono ?_
  rintro e w3 ⟨rfl, q0, q1, q2⟩
  have L3 := Lib.hid (L1.out.trans q1)
  have P3 := Lib.hid (P1.out.below q1 hBs)
  have B3 := Lib.hid (blk_tys B1.out q2 (by decide))
  have KB3 := Lib.hid (KB1.out.tys q2 (by decide) (by decide))
  have KT3 := Lib.hid q0
  have KF3 := Lib.hid (KF1.out.tys q2 (by decide) (by decide))
  clear q0 q1 q2 P1 B1 KB1 KT1 KF1 L1
  go_wp2_with fail
  refine (fillfield_ok Bs g _ _ hf _ hBs (Nat.le_trans hBw L3.out.size) P3.out lf B3.out (by rfl) KF3.out FF.out MF.out).mono ?_
  rintro e w4 ⟨rfl, q0, q1, q2⟩
  have L4 := Lib.hid (L3.out.trans q1)
  have P4 := Lib.hid (P3.out.below q1 hBs)
  have B4 := Lib.hid (blk_tys B3.out q2 (by decide))
  have KB4 := Lib.hid (KB3.out.tys q2 (by decide) (by decide))
  have KT4 := Lib.hid (KT3.out.tys q2 (by decide) (by decide))
  have KF4 := Lib.hid q0
  clear q0 q1 q2 P3 B3 KB3 KT3 KF3 L3
  go_wp2_with fail
  refine (fillcookie_none g 0 none _ _ B4.out (by rfl)).mono ?_
  rintro e w5 ⟨rfl, rfl⟩
  go_wp2_with fail
  refine (fillsealed_none g 0 none _ _ B4.out (by rfl)).mono ?_
  rintro e w6 ⟨rfl, rfl⟩
  go_wp2_with fail
  refine (fillchange_none g 0 none _ _ B4.out (by rfl)).mono ?_
  rintro e w7 ⟨rfl, rfl⟩
  go_wp2_with fail
  refine (fillmessage_none g 0 none _ _ B4.out (by rfl)).mono ?_
  rintro e w8 ⟨rfl, rfl⟩
  go_wp2_with fail
  refine (growbyte_ok Bs g _ _ hb _ hBs (Nat.le_trans hBw L4.out.size) P4.out lb B4.out (by rfl) KB4.out FB.out MB.out).mono ?_
  rintro e w9 ⟨rfl, q0, q1, q2⟩
  have L9 := Lib.hid (L4.out.trans q1)
  have P9 := Lib.hid (P4.out.below q1 hBs)
  have B9 := Lib.hid (blk_tys B4.out q2 (by decide))
  have KB9 := Lib.hid q0
  have KT9 := Lib.hid (KT4.out.tys q2 (by decide) (by decide))
  have KF9 := Lib.hid (KF4.out.tys q2 (by decide) (by decide))
  clear q0 q1 q2 P4 B4 KB4 KT4 KF4 L4
  go_wp2_with fail
  refine (growint_none g 0 none _ _ B9.out (by rfl)).mono ?_
  rintro e w10 ⟨rfl, rfl⟩
  go_wp2_with fail
  refine (growtext_ok Bs g _ _ ht _ hBs (Nat.le_trans hBw L9.out.size) P9.out lt B9.out (by rfl) KT9.out FT.out MT.out).mono ?_
  rintro e w11 ⟨rfl, q0, q1, q2⟩
  have L11 := Lib.hid (L9.out.trans q1)
  have P11 := Lib.hid (P9.out.below q1 hBs)
  have B11 := Lib.hid (blk_tys B9.out q2 (by decide))
  have KB11 := Lib.hid (KB9.out.tys q2 (by decide) (by decide))
  have KT11 := Lib.hid q0
  have KF11 := Lib.hid (KF9.out.tys q2 (by decide) (by decide))
  clear q0 q1 q2 P9 B9 KB9 KT9 KF9 L9
  go_wp2_with fail
  refine (growfield_ok Bs g _ _ hf _ hBs (Nat.le_trans hBw L11.out.size) P11.out lf B11.out (by rfl) KF11.out FF.out MF.out).mono ?_
  rintro e w12 ⟨rfl, q0, q1, q2⟩
  have L12 := Lib.hid (L11.out.trans q1)
  have P12 := Lib.hid (P11.out.below q1 hBs)
  have B12 := Lib.hid (blk_tys B11.out q2 (by decide))
  have KB12 := Lib.hid (KB11.out.tys q2 (by decide) (by decide))
  have KT12 := Lib.hid (KT11.out.tys q2 (by decide) (by decide))
  have KF12 := Lib.hid q0
  clear q0 q1 q2 P11 B11 KB11 KT11 KF11 L11
  go_wp2_with fail
  refine (growcookie_none g 0 none _ _ B12.out (by rfl)).mono ?_
  rintro e w13 ⟨rfl, rfl⟩
  go_wp2_with fail
  refine (growsealed_none g 0 none _ _ B12.out (by rfl)).mono ?_
  rintro e w14 ⟨rfl, rfl⟩
  go_wp2_with fail
  refine (growchange_none g 0 none _ _ B12.out (by rfl)).mono ?_
  rintro e w15 ⟨rfl, rfl⟩
  go_wp2_with fail
  refine (growmessage_none g 0 none _ _ B12.out (by rfl)).mono ?_
  rintro e w16 ⟨rfl, rfl⟩
  go_wp2_with fail
  refine (lookbyte_ok Bs g _ _ hb _ hBs (Nat.le_trans hBw L12.out.size) P12.out lb B12.out (by rfl) KB12.out SB.out MB.out).mono ?_
  rintro e w17 ⟨rfl, q1⟩
  have L17 := Lib.hid (L12.out.trans (q1.mono (Nat.le_trans hBw L12.out.size)))
  have P17 := Lib.hid (P12.out.below q1 (Nat.lt_of_lt_of_le hBs (Nat.le_trans hBw L12.out.size)))
  have B17 := Lib.hid (B12.out.below q1 B12.out.lt)
  have KB17 := Lib.hid (KB12.out.below q1)
  have KT17 := Lib.hid (KT12.out.below q1)
  have KF17 := Lib.hid (KF12.out.below q1)
  clear q1 P12 B12 KB12 KT12 KF12 L12
  go_wp2_with fail
  refine (lookint_none g 0 none _ _ B17.out (by rfl)).mono ?_
  rintro e w18 ⟨rfl, rfl⟩
  go_wp2_with fail
  refine (looktext_ok Bs g _ _ ht _ hBs (Nat.le_trans hBw L17.out.size) P17.out lt B17.out (by rfl) KT17.out ST.out MT.out).mono ?_
  rintro e w19 ⟨rfl, q1⟩
  have L19 := Lib.hid (L17.out.trans (q1.mono (Nat.le_trans hBw L17.out.size)))
  have P19 := Lib.hid (P17.out.below q1 (Nat.lt_of_lt_of_le hBs (Nat.le_trans hBw L17.out.size)))
  have B19 := Lib.hid (B17.out.below q1 B17.out.lt)
  have KB19 := Lib.hid (KB17.out.below q1)
  have KT19 := Lib.hid (KT17.out.below q1)
  have KF19 := Lib.hid (KF17.out.below q1)
  clear q1 P17 B17 KB17 KT17 KF17 L17
  go_wp2_with fail
  refine (lookfield_ok Bs g _ _ hf _ hBs (Nat.le_trans hBw L19.out.size) P19.out lf B19.out (by rfl) KF19.out SF.out MF.out).mono ?_
  rintro e w20 ⟨rfl, q1⟩
  have L20 := Lib.hid (L19.out.trans (q1.mono (Nat.le_trans hBw L19.out.size)))
  have P20 := Lib.hid (P19.out.below q1 (Nat.lt_of_lt_of_le hBs (Nat.le_trans hBw L19.out.size)))
  have B20 := Lib.hid (B19.out.below q1 B19.out.lt)
  have KB20 := Lib.hid (KB19.out.below q1)
  have KT20 := Lib.hid (KT19.out.below q1)
  have KF20 := Lib.hid (KF19.out.below q1)
  clear q1 P19 B19 KB19 KT19 KF19 L19
  go_wp2_with fail
  refine (lookcookie_none g 0 none _ _ B20.out (by rfl)).mono ?_
  rintro e w21 ⟨rfl, rfl⟩
  go_wp2_with fail
  refine (looksealed_none g 0 none _ _ B20.out (by rfl)).mono ?_
  rintro e w22 ⟨rfl, rfl⟩
  go_wp2_with fail
  refine (lookchange_none g 0 none _ _ B20.out (by rfl)).mono ?_
  rintro e w23 ⟨rfl, rfl⟩
  go_wp2_with fail
  refine (lookmessage_none g 0 none _ _ B20.out (by rfl)).mono ?_
  rintro e w24 ⟨rfl, rfl⟩
  go_wp2_with fail
  go_ret
  exact ⟨rfl, L20.out⟩
end Go.Proofs.YtonlfplloenfcaaGreatDoor
