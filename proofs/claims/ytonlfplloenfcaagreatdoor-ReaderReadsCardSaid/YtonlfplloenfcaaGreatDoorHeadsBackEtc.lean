/-
  HeadsBack: the walk.
  bodies.Chunked: a body by its chunks.
-/
import Derived.Test.YtonlfplloenfcaaGreatDoorBFieldsEtc
import Derived.Test.YtonlfplloenfcaaGreatDoorHeadSpec
import Derived.Test.YtonlfplloenfcaaGreatDoorLinesEtc
import Derived.Test.YtonlfplloenfcaaGreatDoorANumberEtc
namespace Go.Proofs.YtonlfplloenfcaaGreatDoor
open Go.RowKit

theorem lies_cut {w : World} {B n k : Nat} {A : Option Addr} {l : List UInt8} (h : Lies w B A n (Lib.byteCells l)) (hk : k ≤ n) : Lies w B A k (Lib.byteCells (l.take k)) := by
  have hl : l.length = n := by simpa [Lib.byteCells] using h.1
  refine ⟨by simp [Lib.byteCells]; omega, fun h0 => ?_⟩
  obtain ⟨b, o, e, hb, hc⟩ := h.2 (by omega)
  refine ⟨b, o, e, hb, fun j u hu => hc j u ?_⟩
  unfold Lib.byteCells at hu ⊢
  rw [List.map_take, List.getElem?_take] at hu
  split at hu
  · exact hu
  · cases hu
end Go.Proofs.YtonlfplloenfcaaGreatDoor
namespace Go.Proofs.YtonlfplloenfcaaGreatDoor
open Go.RowKit Go.Shelf

theorem eqin_func (d : Nat) (f : Fn) (r c : Array Value) (w : World) : (Op.equalIn (d + 1) 135 (.func f r c) .nilFunc).run Tryz.prog w = .ok false w := by
  simp [Op.equalIn, run_underlying Tryz.underlying135]
theorem eqin_nil (d : Nat) (w : World) : (Op.equalIn (d + 1) 135 .nilFunc .nilFunc).run Tryz.prog w = .ok true w := by
  simp [Op.equalIn, run_underlying Tryz.underlying135]
theorem eq_func (f : Fn) (r c : Array Value) (w : World) : (Op.equal 135 (.func f r c) .nilFunc).run Tryz.prog w = .ok false w := eqin_func 9999 f r c w
theorem eq_nilf (w : World) : (Op.equal 135 .nilFunc .nilFunc).run Tryz.prog w = .ok true w := eqin_nil 9999 w
theorem neq_func (f : Fn) (r c : Array Value) (w : World) : (binOp .neq 135 (.func f r c) .nilFunc).run Tryz.prog w = .ok (.bool true) w := by
  simp only [binOp]
  simp [eq_func, Result.andThen]
theorem neq_nilf (w : World) : (binOp .neq 135 .nilFunc .nilFunc).run Tryz.prog w = .ok (.bool false) w := by
  simp only [binOp]
  simp [eq_nilf, Result.andThen]
/-- How much is still to be done. -/
def rankV (n g : Nat) (v : Value) (W : World) : Nat := match v with
  | .nilFunc => n - atOf g W
  | _ => n - atOf g W + 1
theorem rankV_eq {w W : World} {A : Option Addr} {n c k all now left : Nat} {l body : List UInt8} {ans : ChunkA} {st : St} {e : Int} {d : Bool} {vb : Value} (h : RI w W A n c l ans st k body all now e d left vb) : rankV n w.heap.size (stV w.heap.size st) W = St.rank n st k := by
  unfold rankV
  rw [atOf_eq h]
  cases st <;> rfl
theorem stop_end {l : List UInt8} {k all now : Nat} {body : List UInt8} {z : Int} {d : Bool} (h : Tells l (chunkA l) .stop k body all now z d) : (z ≠ 0 ∧ d = false ∧ chunkA l = .err z) ∨ (z = 0 ∧ d = true ∧ chunkA l = .done body (l.drop k)) ∨ (z = 0 ∧ d = false ∧ chunkA l = .more body) := by
  rcases h with ⟨h1, h2, h3⟩ | h | h
  · exact .inl ⟨by rcases h1 with rfl | rfl <;> decide, h2, h3⟩
  · exact .inr (.inl h)
  · exact .inr (.inr h)

set_option maxRecDepth 100000 in
set_option maxHeartbeats 4000000 in
theorem bchunked_any (A : Option Addr) (n c : Nat) (l : List UInt8) (w : World) (h : Lies w w.heap.size A n (Lib.byteCells l)) (hc : n ≤ c) (hn : n ≤ 2000000) (hm : MaxOk w) (hmg : maxG < w.heap.size) :
    Calls Tryz.prog 36 #[.slice A n c] w (ChunkPost l w) := by
  have hll : l.length = n := by simpa [Lib.byteCells] using h.1
  have hb1 : Below w.heap.size w (w.alloc (.cells #[.slice A n c, .int .i64 0, .slice none 0 0, .int .i64 65536, .int .i64 0, .int .i64 0, .bool false] 133)) := (Below.refl _ _).alloc (Nat.le_refl _) _
  have hri : RI w (w.alloc (.cells #[.slice A n c, .int .i64 0, .slice none 0 0, .int .i64 65536, .int .i64 0, .int .i64 0, .bool false] 133)) A n c l (chunkA l) .size 0 [] 0 0 0 false 65536 (.slice none 0 0) :=
    ⟨Blk.new w _ _, World.ownsRow_nil _ _ _ _, tells_start l, Nat.zero_le _, fun _ => rfl, hb1, Nat.le_refl _⟩
  have HL := Lib.hid (fun (W : World) (hb : Below w.heap.size w W) => h.below hb)
  have HSIZE := Lib.hid (fun (W : World) (k all now left : Nat) (body : List UInt8) (z : Int) (d : Bool) (vb : Value) (hr : RI w W A n c l (chunkA l) .size k body all now z d left vb) => bsize_any w W A n c k all now left l body (chunkA l) z d vb hr (h.below hr.bel) hc hn hm hmg)
  have HFIELDS := Lib.hid (fun (W : World) (k all now left : Nat) (body : List UInt8) (z : Int) (d : Bool) (vb : Value) (hr : RI w W A n c l (chunkA l) .fields k body all now z d left vb) => bfields_any w W A n c k all now left l body (chunkA l) z d vb hr (h.below hr.bel) hc hn hm hmg)
  have HCHUNK := Lib.hid (fun (W : World) (k all now left : Nat) (body : List UInt8) (z : Int) (d : Bool) (vb : Value) (hr : RI w W A n c l (chunkA l) .chunk k body all now z d left vb) => bchunk_any w W A n c k all now left l body (chunkA l) z d vb hr h hc hn)
  have HR0 := Lib.hid (bsize_any w _ A n c 0 0 0 65536 l [] (chunkA l) 0 false _ hri (h.below hb1) hc hn hm hmg)
  have HLL := Lib.hid hll
  clear h hm hri hb1 hll
  go_enter Tryz.func36, Tryz.ntmps36
  go_wp2_with fail
  refine (HR0.out).mono ?_
  rintro e w1 ⟨st, k, body, all, now, z, d, left, vb, rfl, hri, hrk⟩
  have HRI := Lib.hid hri
  obtain ⟨v0, hv0⟩ : ∃ v0, stV w.heap.size st = v0 := ⟨_, rfl⟩
  rw [hv0]
  have HV0 := Lib.hid hv0
  clear hri hrk HR0 hv0
  go_wp2_with fail
  go_loopw [7] (fun v wr => ∃ st k body all now z d left vb, v = stV w.heap.size st ∧ Hid (RI w wr A n c l (chunkA l) st k body all now z d left vb)) (fun v wr => rankV n w.heap.size v wr)
  case atStart => exact ⟨st, k, body, all, now, z, d, left, vb, HV0.out.symm, HRI⟩
  case round =>
    obtain ⟨st, k, body, all, now, z, d, left, vb, rfl, hri⟩ := hrel
    clear HRI HV0
    have hrank := rankV_eq hri.out
    cases st with
    | size =>
      have HS := Lib.hid (HSIZE.out wr k all now left body z d vb hri.out)
      have HRK := Lib.hid hrank
      clear hrank hri HSIZE HFIELDS HCHUNK
      have e1 : stV w.heap.size .size = .func (.func 111) #[.pointer (some ⟨w.heap.size, 0, none⟩)] #[] := rfl
      rw [e1]
      have hnf := neq_func (.func 111) #[.pointer (some ⟨w.heap.size, 0, none⟩)] #[]
      go_wp2_with fail
      refine (HS.out).mono ?_
      rintro e w2 ⟨st2, k2, body2, all2, now2, z2, d2, left2, vb2, rfl, hri2, hrk2⟩
      have HRI2 := Lib.hid hri2
      obtain ⟨v2, hv2⟩ : ∃ v2, stV w.heap.size st2 = v2 := ⟨_, rfl⟩
      rw [hv2]
      have HV2 := Lib.hid hv2
      clear hri2 hv2
      go_wp2_with fail
      go_roundw
      case rel => exact ⟨st2, k2, body2, all2, now2, z2, d2, left2, vb2, HV2.out.symm, HRI2⟩
      case measure =>
        have h1 := rankV_eq HRI2.out
        rw [HV2.out] at h1
        have h2 := HRK.out
        rw [e1] at h2
        omega
    | chunk =>
      have HS := Lib.hid (HCHUNK.out wr k all now left body z d vb hri.out)
      have HRK := Lib.hid hrank
      clear hrank hri HSIZE HFIELDS HCHUNK
      have e1 : stV w.heap.size .chunk = .func (.func 180) #[.pointer (some ⟨w.heap.size, 0, none⟩)] #[] := rfl
      rw [e1]
      have hnf := neq_func (.func 180) #[.pointer (some ⟨w.heap.size, 0, none⟩)] #[]
      go_wp2_with fail
      refine (HS.out).mono ?_
      rintro e w2 ⟨st2, k2, body2, all2, now2, z2, d2, left2, vb2, rfl, hri2, hrk2⟩
      have HRI2 := Lib.hid hri2
      obtain ⟨v2, hv2⟩ : ∃ v2, stV w.heap.size st2 = v2 := ⟨_, rfl⟩
      rw [hv2]
      have HV2 := Lib.hid hv2
      clear hri2 hv2
      go_wp2_with fail
      go_roundw
      case rel => exact ⟨st2, k2, body2, all2, now2, z2, d2, left2, vb2, HV2.out.symm, HRI2⟩
      case measure =>
        have h1 := rankV_eq HRI2.out
        rw [HV2.out] at h1
        have h2 := HRK.out
        rw [e1] at h2
        omega
    | fields =>
      have HS := Lib.hid (HFIELDS.out wr k all now left body z d vb hri.out)
      have HRK := Lib.hid hrank
      clear hrank hri HSIZE HFIELDS HCHUNK
      have e1 : stV w.heap.size .fields = .func (.func 179) #[.pointer (some ⟨w.heap.size, 0, none⟩)] #[] := rfl
      rw [e1]
      have hnf := neq_func (.func 179) #[.pointer (some ⟨w.heap.size, 0, none⟩)] #[]
      go_wp2_with fail
      refine (HS.out).mono ?_
      rintro e w2 ⟨st2, k2, body2, all2, now2, z2, d2, left2, vb2, rfl, hri2, hrk2⟩
      have HRI2 := Lib.hid hri2
      obtain ⟨v2, hv2⟩ : ∃ v2, stV w.heap.size st2 = v2 := ⟨_, rfl⟩
      rw [hv2]
      have HV2 := Lib.hid hv2
      clear hri2 hv2
      go_wp2_with fail
      go_roundw
      case rel => exact ⟨st2, k2, body2, all2, now2, z2, d2, left2, vb2, HV2.out.symm, HRI2⟩
      case measure =>
        have h1 := rankV_eq HRI2.out
        rw [HV2.out] at h1
        have h2 := HRK.out
        rw [e1] at h2
        omega
    | stop =>
      have HT := Lib.hid (stop_end hri.out.tells)
      have c1 := hri.out.blk.cell 1
      have c2 := hri.out.blk.cell 2
      have c5 := hri.out.blk.cell 5
      have c6 := hri.out.blk.cell 6
      simp [rdC] at c1 c2 c5 c6
      have HO := Lib.hid hri.out.own
      have HB := Lib.hid hri.out.bel
      have HK := Lib.hid hri.out.kle
      clear hrank hri HSIZE HFIELDS HCHUNK
      have e1 : stV w.heap.size .stop = .nilFunc := rfl
      rw [e1]
      have hnf := neq_nilf
      rcases HT.out with ⟨h1, rfl, h3⟩ | ⟨rfl, rfl, h3⟩ | ⟨rfl, rfl, h3⟩
      · have dz : ((z : Int) == 0) = false := beq_eq_false_iff_ne.2 h1
        have HP := Lib.hid (fun (X : World) (hX : Below w.heap.size w X) => post_err h3 hX)
        clear HT h3 h1
        go_wp2_with fail
        go_quiet (fail)
        go_wp2_with fail
        refine bodyPost_ret (results_tmp4 rfl _ _ _) rfl ?_
        exact HP.out _ (below_drewN HB.out _)
      · have HP := Lib.hid (fun (X : World) (hX : Below wr.heap.size wr X) => post_done (by rw [HLL.out]; exact HK.out) h3 (own_below HO.out hX) (HB.out.trans (hX.mono HB.out.size)))
        clear HT h3
        go_wp2_with fail
        go_quiet (fail)
        go_wp2_with fail
        refine bodyPost_ret (results_tmp4 rfl _ _ _) rfl ?_
        exact HP.out _ (below_drewN (Below.refl _ _) _)
      · have HP := Lib.hid (post_more h3 HO.out HB.out)
        rw [HLL.out] at HP
        clear HT h3
        go_wp2_with fail
        refine bodyPost_ret (results_tmp4 rfl _ _ _) rfl ?_
        exact HP.out
end Go.Proofs.YtonlfplloenfcaaGreatDoor
