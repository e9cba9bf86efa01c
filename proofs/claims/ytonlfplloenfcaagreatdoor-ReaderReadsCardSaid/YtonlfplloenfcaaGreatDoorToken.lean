/-
  ascii.Token: which bytes may be in a token.
-/
import Derived.Test.YtonlfplloenfcaaGreatDoorResultsEtc
import Derived.Outline
import Derived.Laws.Rows
import Derived.Laws.Tables
import Derived.Laws.CopyRow
import Derived.Great.BuildSlice
import Derived.Lib.AsciiSet
namespace Go.Proofs.YtonlfplloenfcaaGreatDoor
open Go.RowKit

def signL : List Int := [33, 35, 36, 37, 38, 39, 42, 43, 45, 46, 94, 95, 96, 124, 126, 48, 49, 50, 51, 52, 53, 54, 55, 56, 57, 65, 66, 67, 68, 69, 70, 71, 72, 73, 74, 75, 76, 77, 78, 79, 80, 81, 82, 83, 84, 85, 86, 87, 88, 89, 90, 97, 98, 99, 100, 101, 102, 103, 104, 105, 106, 107, 108, 109, 110, 111, 112, 113, 114, 115, 116, 117, 118, 119, 120, 121, 122]
theorem sign_cells : (signL.map (Value.int .u8)).toArray = (Lib.byteCells signB).toArray := by kernel_rfl
theorem zero256 : Tryz.zeroCells166 = Lib.setCells [] := by kernel_rfl
theorem info256 : (Tryz.prog.info? 166).map (·.size) = some 256 := by kernel_rfl

/-- A row of bytes with the mark that a conversion lays behind its end: its cells are as they were. -/
def frozenW (w : World) (g n : Nat) : World := w.freeze ⟨g, n, none⟩ 1
theorem frozenW_heap {w : World} {g n : Nat} {t : TypeId} {cs : Array Value} (h : Blk w g t cs) : (frozenW w g n).heap[g]? = some (.cells cs t (n, n + 1)) := by
  unfold Blk at h
  simp [frozenW, World.freeze, Array.getElem?_modify, h]
theorem frozenW_other {w : World} {g n k : Nat} (hk : k ≠ g) : (frozenW w g n).heap[k]? = w.heap[k]? := by
  simp [frozenW, World.freeze, Array.getElem?_modify]
  exact fun e => absurd e.symm hk
theorem frozenW_below {B : Nat} {a w : World} (h : Below B a w) {g : Nat} (hg : B ≤ g) (n : Nat) : Below B a (frozenW w g n) := Lib.below_freeze h (p := ⟨g, n, none⟩) hg 1
theorem run_same_conv {P : Program} {w : World} {t e : TypeId} {g : Nat} {cs : Array Value} (ht : P.underlying t = some (.slice e)) (he : P.underlying e = some (.int .u8)) (h : Blk w g e cs) (n c : Nat) :
    (convert t t (.slice (some ⟨g, 0, none⟩) n c)).run P w = .ok (.slice (some ⟨g, 0, none⟩) n c) (frozenW w g cs.size) := by
  unfold Blk at h
  have hsh : w.shape? g = some (e, cs.size) := by simp [World.shape?, h]
  simp [convert, run_underlying ht, run_underlying he, markStringish, hsh, Result.andThen, frozenW]

set_option maxRecDepth 100000 in
theorem signs_any (w : World) :
   Calls Tryz.prog 144 #[] w fun e w' => e = .returned (.agg (Lib.setCells signB)) ∧ Below w.heap.size w w' := by
  go_enter Tryz.func144, Tryz.ntmps144
  go_wp2_with (refine wpList_buildFlat rfl 23 5 77 _ rfl .u8 signL Tryz.underlying23 (by kernel_rfl) (by kernel_rfl) rfl (by decide) (by decide) (by kernel_rfl) ?_)
  rw [sign_cells]
  rw [zero256]
  have hb1 := (Blk.new w 166 (Lib.setCells [])).alloc (.cells (Lib.byteCells signB).toArray 5)
  have hb2 := Blk.new (w.alloc (.cells (Lib.setCells []) 166)) 5 (Lib.byteCells signB).toArray
  rw [World.size_alloc] at hb2
  have hbel : Below w.heap.size w ((w.alloc (.cells (Lib.setCells []) 166)).alloc (.cells (Lib.byteCells signB).toArray 5)) := ((Below.refl _ _).alloc (Nat.le_refl _) _).alloc (by simp) _
  generalize (w.alloc (.cells (Lib.setCells []) 166)).alloc (.cells (Lib.byteCells signB).toArray 5) = W0 at *
  have hcv := run_same_conv Tryz.underlying23 Tryz.underlying5 hb2 77 77
  have hlen : signB.length = 77 := by decide
  have HL := Lib.hid hlen
  generalize hsb : signB = sb at *
  have HSB := Lib.hid hsb
  clear hlen hsb
  have hc2 : ∀ k, (frozenW W0 (w.heap.size + 1) (Lib.byteCells sb).toArray.size).cell? ⟨w.heap.size + 1, k, none⟩ = (Lib.byteCells sb)[k]? := fun k => by
    rw [cell_of_row _ _ _ _ _ _ (frozenW_heap hb2)]; simp
  have hb1 : Blk (frozenW W0 (w.heap.size + 1) (Lib.byteCells sb).toArray.size) w.heap.size 166 (Lib.setCells []) := (frozenW_other (by omega)).trans hb1
  have hbel := frozenW_below hbel (show w.heap.size ≤ w.heap.size + 1 by omega) (Lib.byteCells sb).toArray.size
  clear hb2
  generalize frozenW W0 (w.heap.size + 1) (Lib.byteCells sb).toArray.size = W1 at *
  simp only [hcv, Result.andThen]
  rw [Oper.upon_value]
  go_wp2_with fail
  clear hcv
  go_loopw [6] (fun i wr => ∃ k : Nat, k ≤ 77 ∧ i = .int .i64 k ∧ Blk wr w.heap.size 166 (Lib.setCells (sb.take k)) ∧ (∀ k, wr.cell? ⟨w.heap.size + 1, k, none⟩ = (Lib.byteCells sb)[k]?) ∧ Below w.heap.size w wr) (fun i _ => 77 - (intOf i).toNat)
  case atStart => exact ⟨0, by omega, rfl, by simpa using hb1, hc2, hbel⟩
  case round =>
    obtain ⟨k, hk, rfl, h1, h2, hb⟩ := hrel
    clear hb1 hc2 hbel
    by_cases hlt : k < 77
    · obtain ⟨x, hx⟩ : ∃ x, sb[k]? = some x := ⟨_, List.getElem?_eq_getElem (by rw [HL.out]; exact hlt)⟩
      have c1 : wr.cell? ⟨w.heap.size + 1, k, none⟩ = some (.int .u8 (x.toNat : Int)) := by rw [h2]; simp [Lib.byteCells, hx]
      have c2 : wr.cell? ⟨w.heap.size, x.toNat, none⟩ = some (.bool ((sb.take k).contains x)) := by rw [h1.cell]; exact Lib.setCells_at _ _
      have f2 := h1.frozen x.toNat
      have hx256 := x.toNat_lt
      have H1 := Lib.hid h1
      have H2 := Lib.hid h2
      have HX := Lib.hid hx
      clear h1 h2 hx
      generalize (sb.take k).contains x = bb at *
      obtain ⟨z, hz⟩ : ∃ z, z = x.toNat := ⟨_, rfl⟩
      rw [← hz] at c1 c2 f2 hx256
      have HZ := Lib.hid hz
      clear hz
      go_wp2_with fail
      go_roundw
      case rel =>
        refine ⟨k + 1, by omega, by go_num, ?_, fun j => ?_, hb.setCell (Nat.le_refl _) _⟩
        · have e : sb.take (k + 1) = sb.take k ++ [x] := by rw [List.take_add_one, HX.out]; rfl
          rw [e, Lib.setCells_snoc, ← HZ.out]
          exact H1.out.set_ z _
        · rw [World.cell?_setCell_other _ _ _ _ (fun e => by injection e with e _; omega)]
          exact H2.out j
      case measure => simp [intOf]; omega
    · obtain rfl : k = 77 := by omega
      rw [List.take_of_length_le (by rw [HL.out]; exact Nat.le_refl _)] at h1
      have hsz := Lib.setCells_size sb
      have hone := Lib.setCells_one sb
      generalize hcs : Lib.setCells sb = cs at *
      have HCS := Lib.hid hcs
      clear hcs
      have hrow := setRow_self wr w.heap.size cs 166 (0, 0) h1
      have H1 := Lib.hid h1
      go_wp2_with (first
        | (refine wpList_load_row rfl 166 _ rfl w.heap.size rfl 166 cs (0, 0) _ H1.out Tryz.underlying166 rfl (by rw [hsz]; exact info256) ?_)
        | (refine wpList_store_row rfl 166 _ _ rfl w.heap.size cs rfl rfl 166 cs H1.out (by rw [hsz]; exact info256) rfl hone ?_))
      rw [hrow]
      exact bodyPost_ret (results_cell_row rfl _ _ w.heap.size 166 cs (0, 0) _ rfl H1.out Tryz.underlying166 rfl (by rw [hsz]; exact info256)) rfl ⟨by rw [← HCS.out, ← HSB.out], hb⟩

theorem all_bytes_at (s : ByteArray) (k : Nat) (h : k < s.size) : s.data.toList.getD k 0 = s[k] := by
  have e : s.data.toList[k]? = some s[k] := List.getElem?_eq_getElem (by simpa using h)
  simp [List.getD, e]
set_option maxRecDepth 100000 in
theorem token_any (s : ByteArray) (w : World) (hs : s.size ≤ 140737488355328) :
   Calls Tryz.prog 68 #[.string s] w fun e w' => e = .returned (.bool (tokenB s.data.toList)) ∧ Below w.heap.size w w' := by
  have hcv := fun W => Lib.run_convert_string_bytes (P := Tryz.prog) W 9 23 5 s Tryz.underlying9 Tryz.underlying23 Tryz.underlying5
  have hsz := Lib.setCells_size signB
  have hone := Lib.setCells_one signB
  have hat : ∀ x : UInt8, (Lib.setCells signB)[x.toNat]? = some (.bool (signOK x)) := fun x => Lib.setCells_at _ _
  go_enter Tryz.func68, Tryz.ntmps68
  generalize hcs : Lib.setCells signB = cs at *
  have HCS := Lib.hid hcs
  have HAT := Lib.hid hat
  have HSZ := Lib.hid hsz
  have HONE := Lib.hid hone
  clear hcs hat hsz hone
  go_wp2_with fail
  refine (signs_any _).mono ?_
  rintro e w1 ⟨rfl, hb1⟩
  rw [HCS.out]
  go_wp2_with (refine wpList_store_row rfl 166 _ _ rfl w1.heap.size cs rfl rfl 166 _ (Blk.new w1 _ _) (by rw [HSZ.out]; exact info256) (by rw [HSZ.out]; rfl) HONE.out ?_)
  have hW : ∃ W, (w1.alloc (.cells Tryz.zeroCells166 166)).setRow w1.heap.size cs = W ∧ Blk W w1.heap.size 166 cs ∧ Below w.heap.size w W ∧ W.heap.size = w1.heap.size + 1 := by
    refine ⟨_, rfl, setRow_heap _ _ _ _ _ _ (Blk.new w1 _ _), ?_, by simp⟩
    exact (hb1.alloc hb1.size _).grown (row := some w1.heap.size) ⟨rfl, rfl, rfl, by simp, fun k _ hk => setRow_other _ _ _ _ (fun e => hk (by rw [e]))⟩ (by have := hb1.size; simp; omega) (fun k e => by cases e; exact hb1.size)
  obtain ⟨W, hW, hbk, hbW, hzW⟩ := hW
  rw [hW]
  clear hW
  go_wp2_with fail
  have hlw := hbk.lt
  have hw0 : Below W.heap.size W (Lib.bytesWorld W 5 s) := bytesWorld_below _ _ _
  have hc0 : ∀ j, j < s.size → (Lib.bytesWorld W 5 s).cell? ⟨w1.heap.size + 1, j, none⟩ = some (.int .u8 ((s.data.toList.getD j 0).toNat : Int)) := fun j hj => by rw [← hzW]; exact Lib.bytesWorld_cell W _ s j hj
  have hbk0 := hbk.below hw0 hlw
  have hB0 := hbW.trans (hw0.mono hbW.size)
  have HC0 := Lib.hid hc0
  generalize Lib.bytesWorld W 5 s = W0 at *
  generalize hcap : grownCap W s.size 0 5 = cap at *
  clear hcv hcap hc0 hw0 hbk hbW hzW hlw
  go_loopw [10] (fun i wr => ∃ k : Nat, k ≤ s.size ∧ i = .int .i64 k ∧ Hid ((s.data.toList.take k).all signOK = true) ∧ ∃ q, wr = W0.drewN q) (fun i _ => s.size - (intOf i).toNat)
  case atStart => exact ⟨0, Nat.zero_le _, rfl, by simp [Hid], 0, rfl⟩
  case round =>
    obtain ⟨k, hk, rfl, hp, q, rfl⟩ := hrel
    by_cases hlt : k < s.size
    · have c1 := HC0.out k hlt
      rw [all_bytes_at s k hlt] at c1
      have c2 := (hbk0.cell s[k].toNat).trans (HAT.out s[k])
      have hx256 := s[k].toNat_lt
      have good : signOK s[k] = true → Hid ((s.data.toList.take (k + 1)).all signOK = true) := fun h => all_step hlt hp.out h
      have badc : signOK s[k] = false → tokenB s.data.toList = false := fun h => by unfold tokenB; rw [all_fail hlt h]; rfl
      have HG := Lib.hid good
      have HB := Lib.hid badc
      have HK := Lib.hid hbk0
      clear good badc hbk0
      generalize s[k] = x at *
      obtain ⟨z, hz⟩ : ∃ z, z = x.toNat := ⟨_, rfl⟩
      rw [← hz] at c1 c2 hx256
      clear hz
      cases hsg : signOK x
      · rw [hsg] at c2
        have hv := HB.out hsg
        have HV := Lib.hid hv
        clear hv hsg
        go_wp2_with fail
        go_ret
        exact ⟨ret_bool (by rw [HV.out]), below_drewN hB0 _⟩
      · rw [hsg] at c2
        have hv := HG.out hsg
        have HV := Lib.hid hv
        clear hv hsg
        go_wp2_with fail
        go_roundw
        case rel => exact ⟨k + 1, by omega, by go_num, HV.out, _, rfl⟩
        case measure => simp [intOf]; omega
    · obtain rfl : k = s.size := by omega
      have h : s.data.toList.all signOK = true := by
        have h := hp.out
        rwa [List.take_of_length_le (by simp)] at h
      have hf : tokenB s.data.toList = (!s.data.toList.isEmpty) := by unfold tokenB; rw [h]; rfl
      have HF := Lib.hid hf
      clear hf h
      go_wp2_with fail
      go_ret
      refine ⟨ret_bool ?_, below_drewN hB0 _⟩
      rw [HF.out, Go.ByteArray.toList_eq]
end Go.Proofs.YtonlfplloenfcaaGreatDoor
