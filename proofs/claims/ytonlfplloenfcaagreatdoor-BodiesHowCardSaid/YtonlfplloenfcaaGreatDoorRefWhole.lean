/-
  footmanref12.whole: where a head ends.
-/
import Derived.Test.YtonlfplloenfcaaGreatDoorFindEtc
import Derived.Test.YtonlfplloenfcaaGreatDoorPutSpecEtc
import Derived.Lib.QuietBelow
namespace Go.Proofs.YtonlfplloenfcaaGreatDoor
open Go.RowKit
attribute [local go_sem] Oper.semAt_some

theorem four_dec (l : List UInt8) (k : Nat) (h : k + 3 < l.length) : fourAt l k ↔ (l[k].toNat = 13 ∧ l[k + 1].toNat = 10 ∧ l[k + 2].toNat = 13 ∧ l[k + 3].toNat = 10) := by
  unfold fourAt
  rw [List.getElem?_eq_getElem (by omega), List.getElem?_eq_getElem (by omega), List.getElem?_eq_getElem (by omega), List.getElem?_eq_getElem (by omega)]
  simp only [Option.some.injEq, ← UInt8.toNat_inj]
  exact Iff.rfl

set_option maxRecDepth 100000 in
theorem rwhole_any (A : Option Addr) (n c B : Nat) (l : List UInt8) (w : World) (h : Lies w B A n (Lib.byteCells l)) (hn : n ≤ 140737488355328) :
    Calls Tryz.prog 173 #[.slice A n c] w fun e w' => e = .returned (.int .i64 (if 0 ≤ Lib.index l headEnd then Lib.index l headEnd + 4 else -1)) ∧ w' = w := by
  have hl : l.length = n := by simpa [Lib.byteCells] using h.1
  obtain ⟨z, hz⟩ : ∃ z : Int, z = (if 0 ≤ Lib.index l headEnd then Lib.index l headEnd + 4 else -1) := ⟨_, rfl⟩
  rw [← hz]
  have HZ := Lib.hid hz
  clear hz
  go_enter Tryz.func173, Tryz.ntmps173
  go_wp2_with fail
  go_loopw [3] (fun i wr => ∃ k : Nat, k ≤ n ∧ i = .int .i64 k ∧ Hid (∀ j, j < k → ¬ fourAt l j) ∧ wr = w)
    (fun i _ => n - (intOf i).toNat)
  case atStart => exact ⟨0, Nat.zero_le _, rfl, fun j hj => by omega, rfl⟩
  case round =>
    obtain ⟨k, hk, rfl, hp, hw⟩ := hrel
    subst hw
    by_cases hlt : k + 3 < n
    · have hat : ∀ j, k + j < n → (Lib.byteCells l)[k + j]? = some (.int .u8 ((l[k + j]?.getD 0).toNat : Int)) := fun j hj => by
        unfold Lib.byteCells
        rw [List.getElem?_map, List.getElem?_eq_getElem (by omega)]
        rfl
      obtain ⟨b, off, u0, rfl, hbb, hu0, hc0⟩ := h.at_ (k := k) (by omega)
      have hcc := (h.2 (by omega))
      obtain ⟨b', off', e', hbb', hc⟩ := hcc
      obtain ⟨rfl, rfl⟩ : b = b' ∧ off = off' := by injection e' with e'; injection e' with e1 e2; exact ⟨e1, e2⟩
      have c0 := hc (k + 0) _ (hat 0 (by omega))
      have c1 := hc (k + 1) _ (hat 1 (by omega))
      have c2 := hc (k + 2) _ (hat 2 (by omega))
      have c3 := hc (k + 3) _ (hat 3 (by omega))
      have hfour := four_dec l k (by omega)
      simp only [Nat.add_zero] at c0
      obtain ⟨x0, hx0⟩ : ∃ x, x = (l[k + 0]?.getD 0) := ⟨_, rfl⟩
      obtain ⟨x1, hx1⟩ : ∃ x, x = (l[k + 1]?.getD 0) := ⟨_, rfl⟩
      obtain ⟨x2, hx2⟩ : ∃ x, x = (l[k + 2]?.getD 0) := ⟨_, rfl⟩
      obtain ⟨x3, hx3⟩ : ∃ x, x = (l[k + 3]?.getD 0) := ⟨_, rfl⟩
      rw [List.getElem?_eq_getElem (by omega)] at hx0 hx1 hx2 hx3
      simp only [Nat.add_zero, Option.getD_some] at hx0 hx1 hx2 hx3 
      rw [List.getElem?_eq_getElem (by omega), Option.getD_some] at c0 c1 c2 c3
      rw [← hx0, ← hx1, ← hx2, ← hx3] at hfour
      rw [← hx0] at c0
      rw [← hx1] at c1
      rw [← hx2] at c2
      rw [← hx3] at c3
      clear hx0 hx1 hx2 hx3 hat hu0 hc0 hc
      have HFOUR := Lib.hid hfour
      have HST := Lib.hid hp
      clear hfour h
      have miss : (x0.toNat : Int) ≠ 13 ∨ (x1.toNat : Int) ≠ 10 ∨ (x2.toNat : Int) ≠ 13 ∨ (x3.toNat : Int) ≠ 10 → ∀ j, j < k + 1 → ¬ fourAt l j := by
        intro hm j hj
        by_cases hjk : j < k
        · exact HST.out.out j hjk
        · obtain rfl : j = k := by omega
          intro hf
          have := HFOUR.out.1 hf
          omega
      have hit : (x0.toNat : Int) = 13 → (x1.toNat : Int) = 10 → (x2.toNat : Int) = 13 → (x3.toNat : Int) = 10 → Lib.index l headEnd = (k : Int) := fun h0 h1 h2 h3 => four_first (HFOUR.out.2 ⟨by omega, by omega, by omega, by omega⟩) HST.out.out
      have MISS := Lib.hid miss
      have HIT := Lib.hid hit
      clear miss hit HFOUR HST hp
      cases e0 : ((x0.toNat : Int) == 13)
      · go_wp2_with fail
        go_roundw
        case rel => exact ⟨k + 1, by omega, by go_num, MISS.out (.inl (by simpa using e0)), by first | rfl | trivial⟩
        case measure => simp [intOf]; omega
      · cases e1 : ((x1.toNat : Int) == 10)
        · go_wp2_with fail
          go_roundw
          case rel => exact ⟨k + 1, by omega, by go_num, MISS.out (.inr (.inl (by simpa using e1))), by first | rfl | trivial⟩
          case measure => simp [intOf]; omega
        · cases e2 : ((x2.toNat : Int) == 13)
          · go_wp2_with fail
            go_roundw
            case rel => exact ⟨k + 1, by omega, by go_num, MISS.out (.inr (.inr (.inl (by simpa using e2)))), by first | rfl | trivial⟩
            case measure => simp [intOf]; omega
          · cases e3 : ((x3.toNat : Int) == 10)
            · go_wp2_with fail
              go_roundw
              case rel => exact ⟨k + 1, by omega, by go_num, MISS.out (.inr (.inr (.inr (by simpa using e3)))), by first | rfl | trivial⟩
              case measure => simp [intOf]; omega
            · have hidx := HIT.out (by simpa using e0) (by simpa using e1) (by simpa using e2) (by simpa using e3)
              have HIDX := Lib.hid hidx
              clear hidx
              go_wp2_with fail
              go_ret
              refine ⟨ret_int ?_, rfl⟩
              rw [HZ.out, HIDX.out, if_pos (by omega)]
    · have hnone : Lib.index l headEnd = -1 := four_none fun j hj => hp.out j (by omega)
      have HN := Lib.hid hnone
      clear hnone hp h
      go_wp2_with fail
      go_ret
      refine ⟨ret_int ?_, rfl⟩
      rw [HZ.out, HN.out, if_neg (by omega)]
end Go.Proofs.YtonlfplloenfcaaGreatDoor
