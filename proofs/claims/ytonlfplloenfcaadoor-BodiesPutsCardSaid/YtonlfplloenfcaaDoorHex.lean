/-
  The numeral of a number above 0, at base 16: the library's way and the document's.
-/
import Derived.Test.YtonlfplloenfcaaDoorAscii
import Derived.WalkSmall
import Derived.Deep.RegionWith
namespace Go.Proofs.YtonlfplloenfcaaDoor
open Go.RowKit

theorem tz64 (w : World) (h : w.cell? ⟨4, 15, none⟩ = some (.int .u8 4)) : Calls Tryd.prog 135 #[.int .u64 16] w fun e w' => e = .returned (.int .i64 4) ∧ w = w' := by
  have hx : IntKind.u64.wrap (bits BinOp.and IntKind.u64 16 (IntKind.u64.wrap (-16)) * 285870213051353865) / 288230376151711744 = 15 := by decide +kernel
  go_enter Tryd.func135, Tryd.ntmps135
  go_wp2_with fail
  go_ret
  exact ⟨rfl, rfl⟩
theorem tz16 (w : World) (h : w.cell? ⟨4, 15, none⟩ = some (.int .u8 4)) :
   Calls Tryd.prog 115 #[.int .u64 16] w fun e w' => e = .returned (.int .i64 4) ∧ w = w' := by
  go_enter Tryd.func115, Tryd.ntmps115
  go_wp2_with fail
  refine (tz64 w h).mono ?_
  rintro e w' ⟨rfl, rfl⟩
  go_wp2_with fail
  go_ret
  exact ⟨rfl, rfl⟩
theorem pow16 (w : World) :
   Calls Tryd.prog 114 #[.int .i64 16] w fun e w' => e = .returned (.bool true) ∧ w = w' := by
  have hx : bits BinOp.and IntKind.i64 16 15 = 0 := by decide +kernel
  go_enter Tryd.func114, Tryd.ntmps114
  go_wp2_with fail
  go_ret
  exact ⟨rfl, rfl⟩

def hexd (n : Nat) : UInt8 := if n < 10 then (48 + n).toUInt8 else (87 + n).toUInt8
def hexB (n : Nat) : List UInt8 := if n < 16 then [hexd n] else hexB (n / 16) ++ [hexd (n % 16)]
theorem and15 (u : Nat) (h : u ≤ 65536) : bits .and .u64 (u : Int) 15 = ((u % 16 : Nat) : Int) := by
  have := bits_and_u64_nat u 15 (by omega) (by omega)
  rw [show ((15 : Nat) : Int) = 15 from rfl] at this
  rw [this]
  exact congrArg _ (Nat.and_two_pow_sub_one_eq_mod u 4)
theorem cell_alloc_some {w : World} {p : Addr} {v : Value} (h : w.cell? p = some v) (o : Obj) : (w.alloc o).cell? p = some v := by
  rcases Nat.lt_or_ge p.block w.heap.size with hlt | hge
  · rw [World.cell?_alloc_lt w o p hlt]; exact h
  · simp [World.cell?, Array.getElem?_eq_none hge] at h
def hexTab : ByteArray := ⟨#[48, 49, 50, 51, 52, 53, 54, 55, 56, 57, 97, 98, 99, 100, 101, 102, 103, 104, 105, 106, 107, 108, 109, 110, 111, 112, 113, 114, 115, 116, 117, 118, 119, 120, 121, 122]⟩
theorem dig_fin : ∀ y : Fin 16, hexTab[y.val]'(Nat.lt_of_lt_of_le y.isLt (by decide)) = hexd y.val := by decide +kernel
theorem dig_at (y : Nat) (hy : y < 16) (h2 : y < hexTab.size) : hexTab[y]'h2 = hexd y := dig_fin ⟨y, hy⟩
theorem hexB_big {x : Nat} (h : 16 ≤ x) : hexB x = hexB (x / 16) ++ [hexd (x % 16)] := by
  rw [hexB, if_neg (by omega)]
theorem hexB_small {x : Nat} (h : x < 16) : hexB x = [hexd x] := by
  rw [hexB, if_pos h]
/-- A digit more ahead of those that stand. -/
theorem tail_set {cs : Array Value} {k : Nat} {tl : List UInt8} (hsz : cs.size = 65) (hk : k + tl.length = 65) (h1 : 1 ≤ k) (htl : ∀ j (hj : j < tl.length), cs[k + j]? = some (.int .u8 (tl[j].toNat : Int))) (d : UInt8) :
    ∀ j (hj : j < (d :: tl).length), (cs.setIfInBounds (k - 1) (.int .u8 (d.toNat : Int)))[k - 1 + j]? = some (.int .u8 ((d :: tl)[j].toNat : Int)) := by
  intro j hj
  cases j with
  | zero => simp [Array.getElem?_setIfInBounds]; omega
  | succ j =>
    have h2 := htl j (by simpa using hj)
    rw [Array.getElem?_setIfInBounds, if_neg (by omega), show k - 1 + (j + 1) = k + j by omega]
    simpa using h2
theorem zero65 : Tryd.zeroCells158 = Array.replicate 65 (.int .u8 0) := by kernel_rfl

set_option maxRecDepth 100000 in
theorem fbits (n : Nat) (h1 : 1 ≤ n) (hn : n ≤ 65536) (w : World) (h : w.cell? ⟨4, 15, none⟩ = some (.int .u8 4)) :
   Calls Tryd.prog 98 #[.slice none 0 0, .int .u64 (n : Int), .int .i64 16, .bool false, .bool false] w fun e w' => e = .returned (.tuple #[.slice none 0 0, .string ⟨(hexB n).toArray⟩]) ∧ Below w.heap.size w w' := by
  go_enter Tryd.func98, Tryd.ntmps98
  go_wp2_with fail
  refine (pow16 _).mono ?_
  rintro e w1 ⟨rfl, rfl⟩
  go_wp2_with fail
  refine (tz16 _ (cell_alloc_some h _)).mono ?_
  rintro e w1 ⟨rfl, rfl⟩
  have hblk := Blk.new w 158 Tryd.zeroCells158
  have hbel : Below w.heap.size w (w.alloc (.cells Tryd.zeroCells158 158)) := (Below.refl _ _).alloc (Nat.le_refl _) _
  rw [zero65] at hblk hbel ⊢
  generalize w.alloc _ = W0 at *
  go_wp2_with fail
  go_loopw [1, 13] (fun u i wr => ∃ (x k : Nat) (tl : List UInt8) (cs : Array Value), u = .int .u64 (x : Int) ∧ i = .int .i64 (k : Int) ∧ 1 ≤ x ∧ k + tl.length = 65 ∧ tl.length ≤ 4 ∧ x < 16 ^ (5 - tl.length) ∧ x ≤ 65536 ∧ Hid (hexB n = hexB x ++ tl) ∧
      Blk wr w.heap.size 158 cs ∧ cs.size = 65 ∧ (∀ j (hj : j < tl.length), cs[k + j]? = some (.int .u8 (tl[j].toNat : Int))) ∧ Below w.heap.size w wr)
    (fun u _ _ => (intOf u).toNat)
  case atStart =>
    exact ⟨n, 65, [], _, rfl, rfl, h1, rfl, by simp, by simp; omega, hn, by simp [Hid], hblk, by simp, fun j hj => by simp at hj, hbel⟩
  case round =>
    obtain ⟨x, k, tl, cs, rfl, rfl, hx1, hk, hl4, hx5, hx6, hhex, hB, hsz, htl, hb⟩ := hrel
    clear hblk hbel
    have hfz : wr.frozen? ⟨w.heap.size, k - 1, none⟩ = false := hB.frozen _
    obtain ⟨v0, hcell⟩ : ∃ v0, wr.cell? ⟨w.heap.size, k - 1, none⟩ = some v0 := ⟨_, (hB.cell _).trans (Array.getElem?_eq_getElem (by omega))⟩
    have HT := Lib.hid htl
    by_cases hlt : 16 ≤ x
    · have hand := and15 x hx6
      have hy : x % 16 < 16 := Nat.mod_lt _ (by omega)
      have HY := Lib.hid (hexB_big hlt)
      generalize x % 16 = y at *
      have hdg : ∀ h2, (⟨#[48, 49, 50, 51, 52, 53, 54, 55, 56, 57, 97, 98, 99, 100, 101, 102, 103, 104, 105, 106, 107, 108, 109, 110, 111, 112, 113, 114, 115, 116, 117, 118, 119, 120, 121, 122]⟩ : ByteArray)[y]'h2 = hexd y := fun h2 => dig_at y hy h2
      have HB := Lib.hid hB
      clear hB htl
      go_wp2_with fail
      go_roundw
      case rel =>
        have hl3 : tl.length ≠ 4 := by
          intro e
          rw [e] at hx5
          simp at hx5
          omega
        refine ⟨x / 16, k - 1, hexd y :: tl, _, by simp, by simp; omega, by omega, by simp; omega, by simp; omega, ?_, by omega, ?_, HB.out.set_ (k - 1) _, by simpa using hsz, tail_set hsz hk (by omega) HT.out _, hb.setCell (Nat.le_refl _) _⟩
        · refine Nat.div_lt_of_lt_mul ?_
          rw [show (5 - tl.length) = (5 - (hexd y :: tl).length) + 1 by simp; omega, Nat.pow_succ, Nat.mul_comm] at hx5
          exact hx5
        · unfold Hid at hhex ⊢
          rw [hhex, HY.out]
          simp
      case measure => simp [intOf]; omega
    · have hx16 : x < 16 := by omega
      have hdg : ∀ h2, (⟨#[48, 49, 50, 51, 52, 53, 54, 55, 56, 57, 97, 98, 99, 100, 101, 102, 103, 104, 105, 106, 107, 108, 109, 110, 111, 112, 113, 114, 115, 116, 117, 118, 119, 120, 121, 122]⟩ : ByteArray)[x]'h2 = hexd x := fun h2 => dig_at x hx16 h2
      have hB2 := hB.set_ (k - 1) (.int .u8 ((hexd x).toNat : Int))
      have ht2 := tail_set hsz hk (by omega) HT.out (hexd x)
      have hb2 := hb.setCell (p := ⟨w.heap.size, k - 1, none⟩) (Nat.le_refl _) (.int .u8 ((hexd x).toNat : Int))
      have hcv : ∀ cap, (convert 24 9 (.slice (some ⟨w.heap.size, k - 1, none⟩) (65 - (k - 1)) cap)).run Tryd.prog (wr.setCell ⟨w.heap.size, k - 1, none⟩ (.int .u8 ((hexd x).toNat : Int))) = .ok (.string ⟨(hexd x :: tl).toArray⟩) (wr.setCell ⟨w.heap.size, k - 1, none⟩ (.int .u8 ((hexd x).toNat : Int))) := fun cap => by
        rw [show 65 - (k - 1) = (hexd x :: tl).length by simp; omega]
        exact run_convert_bytes_back _ 24 9 5 ⟨w.heap.size, k - 1, none⟩ cap (hexd x :: tl) Tryd.underlying24 Tryd.underlying5 Tryd.underlying9 fun j hj => by rw [Addr.add_lit, hB2.cell]; exact ht2 j hj
      have hsl : ∀ W : World, (Instr.sliceAt 158 (.pointer (some ⟨w.heap.size, 0, none⟩)) (some (.int .i64 ((k : Int) - 1))) none none).run Tryd.prog W = .ok (.slice (some ⟨w.heap.size, k - 1, none⟩) (65 - (k - 1)) (65 - (k - 1))) W := fun W => by
        have hal : Tryd.prog.arrayLen 158 = 65 := by simp [Program.arrayLen, Tryd.underlying158]
        have hel : Tryd.prog.elem 158 = 5 := by simp [Program.elem, Tryd.underlying158]
        rw [run_sliceAt_array_l W 158 ⟨w.heap.size, 0, none⟩ (by rw [hal, hel]; exact Tryd.underlying158) .i64 ((k : Int) - 1) (by omega) (by rw [hal]; omega), hal, hel]
        have e1 : ((k : Int) - 1).toNat = k - 1 := by omega
        simp [slicedAt, e1, Tryd.sizeOf5, Addr.add_lit]
        omega
      have HE := Lib.hid (hexB_small hx16)
      clear hB htl hB2 ht2
      have HB2 := Lib.hid hb2
      clear hb2
      go_wp2_with fail
      go_ret2
      refine ⟨?_, HB2.out⟩
      unfold Hid at hhex
      rw [hhex, HE.out]
      rfl
theorem fmt16 (n : Nat) (h1 : 1 ≤ n) (hn : n ≤ 65536) (w : World) (h : w.cell? ⟨4, 15, none⟩ = some (.int .u8 4)) :
   Calls Tryd.prog 82 #[.int .i64 (n : Int), .int .i64 16] w fun e w' => e = .returned (.string ⟨(hexB n).toArray⟩) ∧ Below w.heap.size w w' := by
  go_enter Tryd.func82, Tryd.ntmps82
  go_wp2_with fail
  refine (fbits n h1 hn _ h).mono ?_
  rintro e w1 ⟨rfl, hb⟩
  go_wp2_with fail
  go_ret
  exact ⟨rfl, hb⟩
theorem format16 (n : Nat) (h1 : 1 ≤ n) (hn : n ≤ 65536) (w : World) (h : w.cell? ⟨4, 15, none⟩ = some (.int .u8 4)) :
   Calls Tryd.prog 54 #[.int .i64 (n : Int), .int .i64 16] w fun e w' => e = .returned (.string ⟨(hexB n).toArray⟩) ∧ Below w.heap.size w w' := by
  go_enter Tryd.func54, Tryd.ntmps54
  go_wp2_with fail
  refine (fmt16 n h1 hn _ h).mono ?_
  rintro e w1 ⟨rfl, hb⟩
  go_wp2_with fail
  go_ret
  exact ⟨rfl, hb⟩
def hexS : ByteArray := ⟨#[48, 49, 50, 51, 52, 53, 54, 55, 56, 57, 97, 98, 99, 100, 101, 102]⟩
theorem hexs_fin : ∀ y : Fin 16, hexS.extract y.val (y.val + 1) = ⟨#[hexd y.val]⟩ := by decide +kernel
theorem hexs_at (y : Nat) (hy : y < 16) : hexS.extract y (y + 1) = ⟨#[hexd y]⟩ := hexs_fin ⟨y, hy⟩
theorem hexB_len : ∀ (k x : Nat), x < 16 ^ (k + 1) → (hexB x).length ≤ k + 1
  | 0, x, h => by rw [hexB_small (by simpa using h)]; simp
  | k + 1, x, h => by
    by_cases hx : x < 16
    · rw [hexB_small hx]; simp
    · rw [hexB_big (by omega)]
      have := hexB_len k (x / 16) (Nat.div_lt_of_lt_mul (by rw [Nat.pow_succ, Nat.mul_comm] at h; exact h))
      simp; omega
set_option maxRecDepth 100000 in
theorem refhex (n : Nat) (h1 : 1 ≤ n) (hn : n ≤ 65536) (w : World) :
   Calls Tryd.prog 57 #[.int .i64 (n : Int)] w fun e w' => e = .returned (.string ⟨(hexB n).toArray⟩) ∧ w = w' := by
  go_enter Tryd.func57, Tryd.ntmps57
  go_wp2_with fail
  go_loop [0, 3] (fun u i => ∃ (x : Nat) (tl : List UInt8), u = .int .i64 (x : Int) ∧ i = .string ⟨tl.toArray⟩ ∧ x ≤ 65536 ∧ tl.length ≤ 5 ∧ Hid (hexB n = (if x = 0 then [] else hexB x) ++ tl) ∧ Hid (1 ≤ x → tl.length + (hexB x).length ≤ 5))
    (fun u _ => (intOf u).toNat)
  case atStart =>
    refine ⟨n, [], rfl, rfl, hn, by simp, ?_, ?_⟩
    · rw [if_neg (by omega)]; simp [Hid]
    · intro _
      have := hexB_len 4 n (by omega)
      simpa using this
  case round =>
    obtain ⟨x, tl, rfl, rfl, hx6, hl5, hhex, hlen⟩ := hrel
    by_cases hlt : 1 ≤ x
    · have hy : x % 16 < 16 := Nat.mod_lt _ (by omega)
      have HL := Lib.hid hlen
      go_wp2_with fail
      go_round
      case rel =>
        refine ⟨x / 16, hexd (x % 16) :: tl, by simp, ?_, by omega, ?_, ?_, ?_⟩
        · refine congrArg Value.string ?_
          show hexS.extract (x % 16) (x % 16 + 1) ++ _ = _
          rw [hexs_at _ hy]
          apply ByteArray.ext
          simp
        · have := hlen hlt
          by_cases e : x < 16
          · rw [hexB_small e] at this; simp at this ⊢; omega
          · rw [hexB_big (by omega)] at this; simp at this ⊢; omega
        · unfold Hid at hhex ⊢
          rw [hhex, if_neg (by omega)]
          by_cases e : x < 16
          · rw [if_pos (by omega), hexB_small e, Nat.mod_eq_of_lt e]; simp
          · rw [if_neg (by omega), hexB_big (by omega)]; simp
        · intro h16
          have := hlen hlt
          rw [hexB_big (by omega)] at this
          simp at this ⊢
          omega
      case measure => simp [intOf]; omega
    · obtain rfl : x = 0 := by omega
      go_wp2_with fail
      go_ret
      refine ⟨?_, rfl⟩
      unfold Hid at hhex
      rw [hhex]
      rfl
end Go.Proofs.YtonlfplloenfcaaDoor
