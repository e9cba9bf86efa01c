/-
  bodies: a reader's line.
  heads.Get: a response's head.
-/
import Derived.Test.YtonlfplloenfcaaGreatDoorKGet
import Derived.Test.YtonlfplloenfcaaGreatDoorCutTEtc
import Derived.Test.YtonlfplloenfcaaGreatDoorResponse
namespace Go.Proofs.YtonlfplloenfcaaGreatDoor
open Go.RowKit Go.Shelf
attribute [local go_sem] Oper.semAt_some

/-- The reader's parts. -/
def rdC (A : Option Addr) (n c k : Nat) (vb : Value) (left now : Nat) (e : Int) (d : Bool) : Array Value := #[.slice A n c, .int .i64 (k : Int), vb, .int .i64 (left : Int), .int .i64 (now : Int), .int .i64 e, .bool d]
/-- What a line leaves of the reader in block g. -/
def LinePost (k g : Nat) (l : List UInt8) (w : World) (e : Ending) (w' : World) : Prop :=
  ∃ W, Below w.heap.size w W ∧ match lineA (l.drop k) with
    | .limit => e = .returned (.tuple #[.string ⟨#[]⟩, .bool false]) ∧ w' = W.setCell ⟨g, 5, none⟩ (.int .i64 3)
    | .short => e = .returned (.tuple #[.string ⟨#[]⟩, .bool false]) ∧ w' = W
    | .line m => e = .returned (.tuple #[.string ⟨((l.drop k).take m).toArray⟩, .bool true]) ∧ w' = W.setCell ⟨g, 1, none⟩ (.int .i64 ((k + m + 2 : Nat) : Int))
theorem index_short {r : List UInt8} (h : r.length < 2) : Lib.index r [13, 10] = -1 := Lib.index_none fun j _ => by
  cases h3 : Lib.occAt r [13, 10] j
  · rfl
  · have := eol_lt ((occ_eol r j).1 h3)
    omega
/-- bytes.Index, of an end of a line. -/
theorem index_two {A : Option Addr} {m cap B X : Nat} {r : List UInt8} {W : World} (h : Reads W X 1 A m (Lib.byteCells r)) (hc : m ≤ cap) (hm : m ≤ 2000000) (h0 : W.cell? ⟨B, 0, none⟩ = some (.int .u8 13)) (h1 : W.cell? ⟨B, 1, none⟩ = some (.int .u8 10)) (hM : MaxOk W) :
    Calls Tryz.prog 171 #[.slice A m cap, .slice (some ⟨B, 0, none⟩) 2 2] W fun e w' => e = .returned (.int .i64 (Lib.index r [13, 10])) ∧ ∃ q, w' = W.drewN q := by
  have hl : r.length = m := by simpa [Lib.byteCells] using h.1
  by_cases h2 : m < 2
  · rw [index_short (by omega)]
    refine (Any.bytes_Index_longer Tryz.lays185 A (some ⟨B, 0, none⟩) m cap 2 2 W (by decide) h2 (by decide)).mono ?_
    rintro e w' ⟨rfl, rfl⟩
    exact ⟨rfl, 0, rfl⟩
  · obtain ⟨mx, hmx⟩ := hM
    obtain ⟨ad, rfl, _, hcell⟩ := h.2 (by omega)
    have hI := Tryz.bytes_Index_at ad ⟨B, 0, none⟩ m cap 2 2 (r.map fun x => (x.toNat : Int)) [13, 10] mx W (by simpa using hl) rfl
      (by intro x hx; obtain ⟨y, _, rfl⟩ := List.mem_map.1 hx; have := y.toNat_lt; exact ⟨by omega, by omega⟩) (by decide)
      (fun i hi => by
        have e1 : (r.map fun x => (x.toNat : Int))[i]? = some ((r[i]'(by omega)).toNat : Int) := by
          rw [List.getElem?_map, List.getElem?_eq_getElem (by omega)]
          rfl
        have h3 := hcell i (.int .u8 ((r[i]'(by omega)).toNat : Int)) (by
          unfold Lib.byteCells
          rw [List.getElem?_map, List.getElem?_eq_getElem (by omega)]
          rfl)
        rw [List.getD, e1]
        simpa using h3)
      (fun i hi => by
        match i, hi with
        | 0, _ => exact h0
        | 1, _ => exact h1) hc (by omega) (by omega) hmx
    rw [bytesOf_nums] at hI
    exact hI

set_option maxRecDepth 100000 in
set_option maxHeartbeats 800000 in
theorem bline_any (A : Option Addr) (n c k : Nat) (vb : Value) (left now g : Nat) (l : List UInt8) (w : World) (hg : Blk w g 133 (rdC A n c k vb left now 0 false)) (h : Lies w g A n (Lib.byteCells l)) (hc : n ≤ c) (hn : n ≤ 2000000) (hk : k ≤ n) (hm : MaxOk w) (hmg : maxG < w.heap.size) :
    Calls Tryz.prog 175 #[.pointer (some ⟨g, 0, none⟩)] w (LinePost k g l w) := by
  have hl : l.length = n := by simpa [Lib.byteCells] using h.1
  have c0 := hg.cell 0
  have c1 := hg.cell 1
  simp [rdC] at c0 c1
  have hgl : g ≤ w.heap.size := Nat.le_of_lt hg.lt
  have HG := Lib.hid hg
  have HM := Lib.hid hm
  have HL := Lib.hid h
  clear hg hm h
  go_enter Tryz.func175, Tryz.ntmps175
  go_wp2_with fail
  go_quiet (fail)
  have hb0 := below_drewN (Below.refl w.heap.size w) nq
  have hz0 : (w.drewN nq).heap.size = w.heap.size := rfl
  generalize w.drewN nq = W0 at *
  have HZ0 := Lib.hid hz0
  clear hz0
  obtain ⟨A1, hA1⟩ : ∃ A1, (if c = k then A else Option.map (fun x => x.add k) A) = A1 := ⟨_, rfl⟩
  rw [hA1]
  have hr1 : Reads W0 g 1 A1 (n - k) (Lib.byteCells (l.drop k)) := by
    have := ((HL.out.below (hb0.mono hgl)).reads).cut (k := k) (cap := c) hk hc
    rw [Nat.mul_one, hA1] at this
    have e : (Lib.byteCells l).drop k = Lib.byteCells (l.drop k) := by unfold Lib.byteCells; rw [List.map_drop]
    rw [e] at this
    exact this
  clear hA1 c0 c1
  have kB := Blk.new W0 5 #[.int .u8 13, .int .u8 10]
  have hcv := run_same_conv Tryz.underlying23 Tryz.underlying5 kB 2 2
  have hsz : (#[.int .u8 13, .int .u8 10] : Array Value).size = 2 := rfl
  rw [hsz] at hcv
  go_wp2_with fail
  obtain ⟨W1, hW1⟩ : ∃ W1, frozenW (W0.alloc (.cells #[.int .u8 13, .int .u8 10] 5)) W0.heap.size 2 = W1 := ⟨_, rfl⟩
  have hb1 : Below w.heap.size w W1 := by
    rw [← hW1]
    exact frozenW_below (hb0.alloc (by rw [HZ0.out]; exact Nat.le_refl _) _) (by rw [HZ0.out]; exact Nat.le_refl _) _
  have hc4 : ∀ j, W1.cell? ⟨W0.heap.size, j, none⟩ = (#[.int .u8 13, .int .u8 10] : Array Value)[j]? := fun j => by
    rw [← hW1]; exact cell_of_row _ _ _ _ _ _ (frozenW_heap kB)
  have hr2 : Reads W1 g 1 A1 (n - k) (Lib.byteCells (l.drop k)) := by
    rw [← hW1]
    exact hr1.below (frozenW_below ((Below.refl _ _).alloc (by rw [HZ0.out]; exact hgl) _) (by rw [HZ0.out]; exact hgl) _)
  rw [hW1]
  have HI := Lib.hid (index_two (cap := c - k) hr2 (by omega) (by omega) (hc4 0) (hc4 1) (HM.out.below hb1 hmg))
  clear hW1 hcv kB hc4 hsz hb0 hr1
  refine (HI.out).mono ?_
  rintro e w2 ⟨rfl, q, rfl⟩
  have B2 := Lib.hid (below_drewN hb1 q)
  have R2 := Lib.hid (hr2.drewN q)
  have K2 := Lib.hid (HG.out.below B2.out HG.out.lt)
  generalize W1.drewN q = W2 at *
  clear HI hb1 hr2
  have f1 := K2.out.frozen 1
  have f5 := K2.out.frozen 5
  have c1 := K2.out.cell 1
  have c5 := K2.out.cell 5
  simp [rdC] at c1 c5
  have hrl : (l.drop k).length = n - k := by rw [List.length_drop, hl]
  have HRL := Lib.hid hrl
  clear hrl
  rcases Lib.index_spec (l.drop k) [13, 10] with ⟨h1, h2⟩ | ⟨i, h1, h2, h3, h4⟩
  · rw [h1]
    clear h2
    by_cases hg : 65537 < n - k
    · have hla : lineA (l.drop k) = .limit := by
        unfold lineA
        rw [h1, if_neg (by omega), if_pos (by rw [HRL.out]; exact hg)]
      have HLA := Lib.hid hla
      have d1 : decide ((65537 : Int) < ((n - k : Nat) : Int)) = true := decide_eq_true (by omega)
      clear hla h1
      go_wp2_with fail
      go_ret2
      exact ⟨W2, B2.out, by rw [HLA.out]; exact ⟨rfl, rfl⟩⟩
    · have hla : lineA (l.drop k) = .short := by
        unfold lineA
        rw [h1, if_neg (by omega), if_neg (by rw [HRL.out]; exact hg)]
      have HLA := Lib.hid hla
      have d1 : decide ((65537 : Int) < ((n - k : Nat) : Int)) = false := decide_eq_false (by omega)
      clear hla h1
      go_wp2_with fail
      go_ret2
      exact ⟨W2, B2.out, by rw [HLA.out]; exact ⟨rfl, rfl⟩⟩
  · rw [h1]
    have h5 := eol_lt ((occ_eol _ i).1 h3)
    rw [HRL.out] at h5
    clear h2 h3 h4
    by_cases hg : 65536 < i
    · have hla : lineA (l.drop k) = .limit := by
        unfold lineA
        rw [h1, if_pos (by omega), Int.toNat_natCast, if_pos hg]
      have HLA := Lib.hid hla
      have d1 : decide ((65536 : Int) < (i : Int)) = true := decide_eq_true (by omega)
      clear hla h1
      go_wp2_with fail
      go_ret2
      exact ⟨W2, B2.out, by rw [HLA.out]; exact ⟨rfl, rfl⟩⟩
    · have hla : lineA (l.drop k) = .line i := by
        unfold lineA
        rw [h1, if_pos (by omega), Int.toNat_natCast, if_neg hg]
      have HLA := Lib.hid hla
      have d1 : decide ((65536 : Int) < (i : Int)) = false := decide_eq_false (by omega)
      have d2 : decide ((i : Int) < 0) = false := decide_eq_false (by omega)
      clear hla h1
      obtain ⟨ad, rfl, hbb, hcell⟩ := R2.out.2 (by omega)
      have hcv : ∀ (v : Value) (cap : Nat), (convert 23 9 (.slice (some ad) i cap)).run Tryz.prog (W2.setCell ⟨g, 1, none⟩ v) = .ok (.string ⟨((l.drop k).take i).toArray⟩) (W2.setCell ⟨g, 1, none⟩ v) := fun v cap => by
        have hlen : ((l.drop k).take i).length = i := by rw [List.length_take, HRL.out, Nat.min_eq_left (by omega)]
        have := run_convert_bytes_back (P := Tryz.prog) (W2.setCell ⟨g, 1, none⟩ v) 23 9 5 ad cap ((l.drop k).take i) Tryz.underlying23 Tryz.underlying5 Tryz.underlying9 (fun j hj => by
          rw [hlen] at hj
          have hne : (ad.add j).block < g := by rw [block_of_add]; exact hbb
          refine (((Below.refl g W2).setCell (p := ⟨g, 1, none⟩) (Nat.le_refl _) v).cell hne).trans ?_
          refine hcell j _ ?_
          unfold Lib.byteCells
          rw [List.getElem?_map, List.getElem?_eq_getElem (show j < (l.drop k).length by rw [HRL.out]; omega)]
          simp)
        rwa [hlen] at this
      clear hcell
      go_wp2_with fail
      go_ret2
      exact ⟨W2, B2.out, by rw [HLA.out]; exact ⟨rfl, by rw [show ((k + i + 2 : Nat) : Int) = (k : Int) + ((i : Int) + 2) by omega]⟩⟩
end Go.Proofs.YtonlfplloenfcaaGreatDoor
namespace Go.Proofs.YtonlfplloenfcaaGreatDoor
open Go.RowKit
attribute [local go_sem] Oper.semAt_some

theorem enters_response : ∀ args w, (callFunc 115 args).run Tryz.prog w = .ok (.enter 115 args) w := enters_of Tryz.func115 (by kernel_rfl) rfl
end Go.Proofs.YtonlfplloenfcaaGreatDoor
