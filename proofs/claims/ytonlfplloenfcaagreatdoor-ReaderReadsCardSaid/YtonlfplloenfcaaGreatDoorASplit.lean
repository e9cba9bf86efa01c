/-
  ascii.Split, ascii.Number.
-/
import Derived.Test.YtonlfplloenfcaaGreatDoorCutTEtc
import Derived.Test.YtonlfplloenfcaaGreatDoorOddEtc
import Derived.Test.YtonlfplloenfcaaGreatDoorShelfB
import Derived.Test.YtonlfplloenfcaaGreatDoorWordEtc
namespace Go.Proofs.YtonlfplloenfcaaGreatDoor
open Go.RowKit

theorem blk_lies {w : World} {g : Nat} {t : TypeId} {cs : List Value} (h : Blk w g t cs.toArray) : Lies w w.heap.size (some ⟨g, 0, none⟩) cs.length cs :=
  ⟨rfl, fun _ => ⟨g, 0, rfl, h.lt, fun j u hu => by rw [Nat.zero_add, h.cell]; simpa using hu⟩⟩
set_option maxRecDepth 100000 in
theorem asplit_any (s : ByteArray) (c : UInt8) (w : World) (hs : s.size ≤ 140000000) (hm : MaxOk w) (hmg : maxG < w.heap.size) :
    Calls Tryz.prog 117 #[.string s, .int .u8 (c.toNat : Int)] w fun e w' => (∃ A cp, e = .returned (.slice A (splitT c s).length cp) ∧ Lies w' w'.heap.size A (splitT c s).length ((splitT c s).map Value.string)) ∧ Below w.heap.size w w' := by
  have hB : Below w.heap.size w (w.alloc (.cells #[.int .u8 (c.toNat : Int)] 5)) := (Below.refl _ _).alloc (Nat.le_refl _) _
  have hkb := Blk.new w 5 #[.int .u8 (c.toNat : Int)]
  have hcv : (convert 23 9 (.slice (some ⟨w.heap.size, 0, none⟩) 1 1)).run Tryz.prog (w.alloc (.cells #[.int .u8 (c.toNat : Int)] 5)) = .ok (.string ⟨#[c]⟩) (w.alloc (.cells #[.int .u8 (c.toNat : Int)] 5)) := by
    exact run_convert_bytes_back (P := Tryz.prog) _ 23 9 5 ⟨w.heap.size, 0, none⟩ 1 [c] Tryz.underlying23 Tryz.underlying5 Tryz.underlying9 (fun j hj => by
      have : j = 0 := by simpa using hj
      subst this
      rw [Addr.add_lit, hkb.cell]
      rfl)
  obtain ⟨m, hmm⟩ := hm.below hB hmg
  have HSP := Lib.hid (Tryz.strings_Split s ⟨#[c]⟩ m (w.alloc (.cells #[.int .u8 (c.toNat : Int)] 5)) (by omega) hmm (Nat.le_refl _))
  have hT := fun (x : ByteArray) (hx : x.size ≤ 140737488355328) W => trim_any x W hx
  have HT := Lib.hid hT
  have HB := Lib.hid hB
  have hlen := splitL_len c s
  have HEQ := Lib.hid (splitT_eq c s)
  clear hT hB hkb hmm hm
  go_enter Tryz.func117, Tryz.ntmps117
  go_wp2_with fail
  refine (HSP.out).mono ?_
  rintro e w1 ⟨rfl, rfl⟩
  have hsz := splitL_sizes c s
  have HL : Lib.splitB ⟨#[c]⟩ 0 (Lib.countB s ⟨#[c]⟩) s = splitL c s := rfl
  rw [HL, ← hlen]
  clear HL hcv HSP
  obtain ⟨L, hL⟩ : ∃ L, splitL c s = L := ⟨_, rfl⟩
  rw [hL] at hsz hlen HEQ ⊢
  have hN : L.length ≤ 140000001 := by
    have h1 := congrArg List.length (splitC_cut s c)
    rw [List.length_map, cutC_len] at h1
    have h2 : (Lib.splitB ⟨#[c]⟩ 0 (Lib.countB s ⟨#[c]⟩) s) = L := hL
    rw [h2] at h1
    have h3 := List.count_le_length (a := c) (l := s.data.toList)
    have h4 : s.data.toList.length = s.size := rfl
    omega
  clear hL hlen
  obtain ⟨N, hNe⟩ : ∃ N, L.length = N := ⟨_, rfl⟩
  have HN := Lib.hid hNe
  rw [hNe] at hN ⊢
  have HSZ := Lib.hid hsz
  obtain ⟨w1, hw1⟩ : ∃ w1, w.alloc (.cells #[.int .u8 (c.toNat : Int)] 5) = w1 := ⟨_, rfl⟩
  rw [hw1] at HB ⊢
  have hk0 : Blk (w1.alloc (.cells (cellsAt L 0) 9)) w1.heap.size 9 (cellsAt L 0) := Blk.new w1 9 _
  have hb0 : Below w.heap.size w (w1.alloc (.cells (cellsAt L 0) 9)) := HB.out.alloc HB.out.size _
  rw [← cellsAt_zero L]
  obtain ⟨w2, hw2⟩ : ∃ w2, w1.alloc (.cells (cellsAt L 0) 9) = w2 := ⟨_, rfl⟩
  rw [hw2] at hk0 hb0 ⊢
  have hG : w.heap.size ≤ w1.heap.size := HB.out.size
  obtain ⟨G, hGe⟩ : ∃ G, w1.heap.size = G := ⟨_, rfl⟩
  rw [hGe] at hk0 hG ⊢
  clear hw1 hw2 hGe hNe hsz
  have K0 := Lib.hid hk0
  have B0 := Lib.hid hb0
  clear hk0 hb0
  go_wp2_with fail
  go_loopw [15] (fun i wr => ∃ k : Nat, k ≤ N ∧ i = .int .i64 k ∧ Hid (Blk wr G 9 (cellsAt L k)) ∧ Hid (Below w.heap.size w wr)) (fun i _ => N - (intOf i).toNat)
  case atStart => exact ⟨0, Nat.zero_le _, rfl, K0, B0⟩
  case round =>
    clear K0 B0
    obtain ⟨k, hk, rfl, HK, HBr⟩ := hrel
    by_cases hlt : k < N
    · obtain ⟨x, hx⟩ : ∃ x, L[k]? = some x := ⟨L[k]'(by rw [HN.out]; exact hlt), List.getElem?_eq_getElem (by rw [HN.out]; exact hlt)⟩
      have hxs := HSZ.out x (List.mem_of_getElem? hx)
      have c1 := HK.out.cell k
      rw [cellsAt_get L k x hx] at c1
      have hst := cellsAt_step L k x hx
      have HST := Lib.hid hst
      clear hx hst
      go_wp2_with fail
      refine (HT.out x (by omega) wr).mono ?_
      rintro e w3 ⟨rfl, hb3⟩
      have K3 := Lib.hid (HK.out.below hb3 HK.out.lt)
      have B3 := Lib.hid (HBr.out.trans (hb3.mono HBr.out.size))
      have f3 := K3.out.frozen k
      have c3 := K3.out.cell k
      have ht : trimB x = ⟨(trimmed x.data.toList).toArray⟩ := rfl
      rw [← ht]
      have K4 := Lib.hid (K3.out.set_ k (.string (trimB x)))
      have B4 : Hid (Below w.heap.size w (w3.setCell ⟨G, k, none⟩ (.string (trimB x)))) := Lib.hid (B3.out.trans ((Below.refl _ _).setCell (p := ⟨G, k, none⟩) hG _))
      rw [HST.out] at K4
      clear c1 hb3 ht
      have hcs : (cellsAt L k)[k]? = some (cellsAt L k)[k]! := by
        rw [getElem!_def]
        have : k < (cellsAt L k).size := by rw [cellsAt_size, HN.out]; exact hlt
        rw [Array.getElem?_eq_getElem this]
      rw [hcs] at c3
      go_wp2_with fail
      go_roundw
      case rel => exact ⟨k + 1, by omega, by go_num, K4, B4⟩
      case measure => simp [intOf]; omega
    · obtain rfl : k = N := by omega
      have hc := cellsAt_all L k (by rw [HN.out]; exact Nat.le_refl _)
      have HC := Lib.hid hc
      have hl9 : (splitT c s).length = k := by rw [HEQ.out, List.length_map, HN.out]
      have hLI : Lies wr wr.heap.size (some ⟨G, 0, none⟩) k ((splitT c s).map Value.string) := by
        have h1 : Blk wr G 9 (((splitT c s).map Value.string).toArray) := by
          rw [HEQ.out, ← HC.out]; exact HK.out
        have h2 := blk_lies h1
        rw [List.length_map, hl9] at h2
        exact h2
      have HLI := Lib.hid hLI
      have HL9 := Lib.hid hl9
      clear hc hLI hl9
      go_wp2_with fail
      go_ret
      refine ⟨⟨some ⟨G, 0, none⟩, k, by rw [HL9.out]; rfl, ?_⟩, HBr.out⟩
      rw [HL9.out]
      exact HLI.out
end Go.Proofs.YtonlfplloenfcaaGreatDoor
