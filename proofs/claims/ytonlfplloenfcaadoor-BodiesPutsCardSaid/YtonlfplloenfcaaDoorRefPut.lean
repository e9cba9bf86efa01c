/-
  The document's way to put a body by chunks.
-/
import Derived.Test.YtonlfplloenfcaaDoorPutB
import Derived.Lib.AppendStr
namespace Go.Proofs.YtonlfplloenfcaaDoor
open Go.RowKit

theorem below_own {B base n size : Nat} {e : TypeId} {w0 W W' : World} {v : Value} {xs : List Value} (hb : Below B w0 W) (hown : W.ownsRow base e size v n xs) (hg : W.grownBy W' v.ownBlock) (hB : B ≤ base) (h0 : B ≤ w0.heap.size) : Below B w0 W' := by
  refine hb.grown hg (by have := hb.size; omega) (fun k hk => ?_)
  rcases hown.2 with ⟨rfl, _⟩ | ⟨g, cap, cur, rfl, hbg, _⟩
  · simp [Value.ownBlock] at hk
  · simp [Value.ownBlock] at hk; subst hk; omega
theorem cells_at {w : World} {b off a m n : Nat} {l : List UInt8} (hl : l.length = n) (h : a + m ≤ n) (hsrc : ∀ (j : Nat) (u : Value), (Lib.byteCells l)[j]? = some u → w.cell? ⟨b, off + j, none⟩ = some u) :
    Lies w (b + 1) (some ⟨b, off + a, none⟩) m (Lib.byteCells ((l.drop a).take m)) := by
  refine ⟨by rw [Lib.byteCells_length, List.length_take, List.length_drop]; omega, fun _ => ⟨b, off + a, rfl, by omega, fun j v hv => ?_⟩⟩
  rw [Nat.add_assoc]
  refine hsrc (a + j) v ?_
  unfold Lib.byteCells at hv ⊢
  rw [List.map_take, List.map_drop, List.getElem?_take] at hv
  split at hv
  · rw [List.getElem?_drop] at hv; exact hv
  · cases hv
theorem two_new (w : World) (t : TypeId) (x y : Value) : ∀ (j : Nat) (u : Value), [x, y][j]? = some u → (w.alloc (.cells #[x, y] t)).cell? ((⟨w.heap.size, 0, none⟩ : Addr).add j) = some u := by
  intro j u hu
  rw [Addr.add_lit, Nat.zero_add, cell_alloc_at]
  simpa using hu

theorem Lies.reads {w : World} {B n : Nat} {A : Option Addr} {xs : List Value} (h : Lies w B A n xs) : Reads w B 1 A n xs :=
  ⟨by rw [Nat.mul_one]; exact h.1, fun hn => by
    obtain ⟨b, off, e, hb, hc⟩ := h.2 hn
    exact ⟨_, e, hb, fun j u hu => by rw [Addr.add_lit]; exact hc j u hu⟩⟩
theorem reads_new (w : World) (t : TypeId) (x y : Value) : Reads (w.alloc (.cells #[x, y] t)) (w.heap.size + 1) 1 (some ⟨w.heap.size, 0, none⟩) 2 [x, y] :=
  ⟨rfl, fun _ => ⟨_, rfl, by simp, two_new w t x y⟩⟩
theorem range_flat (f : Nat → List UInt8) (k : Nat) : (List.range (k + 1)).flatMap f = (List.range k).flatMap f ++ f k := by
  rw [List.range_succ, List.flatMap_append]; simp

theorem own_bytes {w : World} {base n : Nat} {e : TypeId} {v : Value} {xs : List Value} (L : List UInt8) (h : w.ownsRow base e 1 v n xs) (hx : xs = Lib.byteCells L) : w.ownsRow base e 1 v L.length (Lib.byteCells L) := by
  have h1 := h.1
  rw [hx, Lib.byteCells_length, Nat.mul_one] at h1
  rw [h1, ← hx]
  exact h

set_option maxRecDepth 100000 in
theorem refput_ok (A : Option Addr) (n cap size : Nat) (l : List UInt8) (w : World) (hcap : n ≤ cap) (hL : Lies w w.heap.size A n (Lib.byteCells l)) (hn : n ≤ 65536) (hs1 : 1 ≤ size) (hs2 : size ≤ 65536) :
    Calls Tryd.prog 18 #[.slice A n cap, .int .i64 (size : Int)] w fun e w' => ∃ v m, e = .returned (.tuple #[v, .int .i64 0]) ∧ n ≤ m * size ∧ (m = 0 ∨ (m - 1) * size < n) ∧
      w'.ownsRow w.heap.size 5 1 v ((List.range m).flatMap (chunkT size l) ++ [48, 13, 10, 13, 10]).length (Lib.byteCells ((List.range m).flatMap (chunkT size l) ++ [48, 13, 10, 13, 10])) ∧ Below w.heap.size w w' := by
  obtain ⟨i0, hi, hz0, hz1, hz2⟩ := info_parts infoB
  have hll : l.length = n := by simpa [Lib.byteCells] using hL.1
  have HL := Lib.hid hL
  clear hL
  go_enter Tryd.func18, Tryd.ntmps18
  go_wp2_with fail
  go_loopw [6, 7] (fun v i wr => ∃ k a : Nat, i = .int .i64 (a : Int) ∧ Hid (a = k * size) ∧ a < n + size ∧ (k = 0 ∨ Hid ((k - 1) * size < n)) ∧ k ≤ n ∧ wr.ownsRow w.heap.size 5 1 v ((List.range k).flatMap (chunkT size l)).length (Lib.byteCells ((List.range k).flatMap (chunkT size l))) ∧ Below w.heap.size w wr)
    (fun _ i _ => n + size - (intOf i).toNat)
  case atStart => exact ⟨0, 0, rfl, by simp [Hid], by omega, .inl rfl, Nat.zero_le _, World.ownsRow_nil _ _ _ _, Below.refl _ _⟩
  case round =>
    obtain ⟨k, a, rfl, ha, han, hk0, hkn, hown, hb⟩ := hrel
    obtain ⟨Av, cv, rfl⟩ := own_form hown
    have hfl : ((List.range k).flatMap (chunkT size l)).length ≤ k * 70000 := by
      have := flat_len (chunkT size l) 70000 (fun x => chunkT_len size l x hs2) (List.range k)
      rwa [List.length_range] at this
    have hfl2 : ((List.range k).flatMap (chunkT size l)).length ≤ 6000000000 := by omega
    have HFL := Lib.hid hfl2
    clear hfl hfl2
    by_cases hlt : a < n
    · obtain ⟨b, off, rfl, hbw, hsrc⟩ := HL.out.2 (by omega)
      obtain ⟨m, hm⟩ : ∃ m, m = min size (n - a) := ⟨_, rfl⟩
      have hparts : chunkT size l k = hexB m ++ [13, 10] ++ (l.drop a).take m ++ [13, 10] := by
        unfold chunkT
        unfold Hid at ha
        rw [hll, ← ha, ← hm]
        have e : (l.drop a).take size = (l.drop a).take m := by
          rw [hm, List.take_eq_take_iff, List.length_drop, hll]
          omega
        rw [e]
      have hhl : (hexB m).length ≤ 5 := hexB_len 4 m (by omega)
      have hm1 : 1 ≤ m := by omega
      have hm2 : m ≤ 65536 := by omega
      have hpl : ((l.drop a).take m).length = m := by rw [List.length_take, List.length_drop]; omega
      have hlies := (cells_at hll (show a + m ≤ n by omega) hsrc).more (show b + 1 ≤ w.heap.size by omega)
      have hadd := fun V => run_string_add_lists (P := Tryd.prog) V (hexB m) [13, 10] (by omega) (by simp)
      have hF := fun V => Lib.hid (refhex m hm1 hm2 V)
      generalize hexB m = hx at *
      generalize (l.drop a).take m = part at *
      have HX := Lib.hid hparts
      have HP := Lib.hid hlies
      have HO := Lib.hid hown
      have HA := Lib.hid (And.intro ha hk0)
      clear hparts hlies hsrc hown ha hk0
      have hmin : (min ((a : Int) + (size : Int)) (n : Int)).toNat - a = m := by omega
      have HC := Lib.hid (range_flat (chunkT size l) k)
      generalize (List.range k).flatMap (chunkT size l) = C at *
      clear hm
      have hC6 : C.length ≤ 6000000000 := HFL.out
      obtain ⟨S, hS, hSs⟩ : ∃ S : ByteArray, S = ⟨(hx ++ [13, 10]).toArray⟩ ∧ S.size = hx.length + 2 := ⟨_, rfl, by simp [ByteArray.size]⟩
      rw [← hS] at hadd
      have HS := Lib.hid hS
      clear hS
      have HN1 := Lib.hid (show C.length + (hx.length + 2) ≤ 6000000100 by omega)
      have hml : (7000000000 : Nat) ≤ maxLen := by unfold maxLen; omega
      go_wp2_with fail
      refine (hF _).out.mono ?_
      rintro e w1 ⟨rfl, rfl⟩
      go_wp2_with (first
        | (at_builtin; refine Lib.wpList_append_own_string _ rfl _ _ 24 9 rfl w.heap.size 5 i0 Tryd.underlying24 Tryd.underlying9 hi hz0 hz1 hz2 _ C.length _ rfl HO.out S rfl (by omega) (by omega) hb.size ?_; intro v1 w2 ho1 hg1 _; obtain ⟨A1, c1, rfl⟩ := own_form ho1; have hb1 := below_own hb HO.out hg1 (Nat.le_refl _) (Nat.le_refl _); rw [hSs] at ho1 ⊢; have hn1b := HN1.out; generalize C.length + (hx.length + 2) = n1 at ho1 hn1b ⊢)
        | (at_builtin; refine wpList_append_any _ rfl _ _ 24 rfl w.heap.size 5 i0 _ 1 1 Tryd.underlying24 hi hz0 hz1 hz2 rfl (by decide) _ n1 _ rfl ho1 w.heap.size (some ⟨b, off + a, none⟩) m _ (Lib.byteCells part) rfl (HP.out.below hb1).reads (Lib.byteCells_one _) (by omega) (by omega) hb1.size ?_; intro v2 w3 ho2 hg2 _; obtain ⟨A2, c2, rfl⟩ := own_form ho2; have hb2 := below_own hb1 ho1 hg2 (Nat.le_refl _) (Nat.le_refl _))
        | (at_builtin; refine wpList_append_any _ rfl _ _ 24 rfl w.heap.size 5 i0 _ 1 1 Tryd.underlying24 hi hz0 hz1 hz2 rfl (by decide) _ (n1 + m) _ rfl (ho2.alloc _) _ (some ⟨w3.heap.size, 0, none⟩) 2 _ _ rfl (reads_new w3 _ _ _) (by simp [Value.oneCell']) (by omega) (by omega) (by have := hb2.size; simp; omega) ?_; intro v3 w4 ho3 hg3 _; obtain ⟨A3, c3, rfl⟩ := own_form ho3; have hb3 := below_own (hb2.alloc hb2.size _) (ho2.alloc _) hg3 (Nat.le_refl _) (Nat.le_refl _)))
      have hA := HA.out
      unfold Hid at hA
      have hk1 : k ≤ k * size := Nat.le_mul_of_pos_right k hs1
      go_roundw
      case rel =>
        refine ⟨k + 1, a + size, by go_num, ?_, by omega, .inr ?_, by omega, ?_, hb3⟩
        · show a + size = (k + 1) * size
          rw [Nat.succ_mul, hA.1]
        · show (k + 1 - 1) * size < n
          rw [Nat.add_sub_cancel]; omega
        · rw [HC.out, HX.out]
          refine own_bytes _ ho3 ?_
          rw [HS.out]
          simp [Lib.byteCells, Lib.strCells]
      case measure => simp [intOf]; omega
    · generalize hC : (List.range k).flatMap (chunkT size l) = C at *
      have HC := Lib.hid hC
      have hC6 : C.length ≤ 6000000000 := HFL.out
      have hml : (7000000000 : Nat) ≤ maxLen := by unfold maxLen; omega
      have HO := Lib.hid hown
      clear hown hC
      go_wp2_with (at_builtin; refine Lib.wpList_append_own_string _ rfl _ _ 24 9 rfl w.heap.size 5 i0 Tryd.underlying24 Tryd.underlying9 hi hz0 hz1 hz2 _ C.length _ rfl HO.out ⟨#[48, 13, 10, 13, 10]⟩ rfl (by show C.length + 5 ≤ _; omega) (by show C.length + 5 ≤ _; omega) hb.size ?_; intro v1 w2 ho1 hg1 _)
      go_ret2
      have hb1 := below_own hb HO.out hg1 (Nat.le_refl _) (Nat.le_refl _)
      refine ⟨v1, k, rfl, by unfold Hid at ha; omega, hk0, ?_, hb1⟩
      rw [HC.out]
      refine own_bytes _ ho1 ?_
      rw [Lib.byteCells_append]
      rfl
end Go.Proofs.YtonlfplloenfcaaDoor
