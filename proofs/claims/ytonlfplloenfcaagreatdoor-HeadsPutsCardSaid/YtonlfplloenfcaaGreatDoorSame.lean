/-
  SameTexts, LeftFields, Beyond, at what makes them true.
-/
import Derived.Test.YtonlfplloenfcaaGreatDoorFields
namespace Go.Proofs.YtonlfplloenfcaaGreatDoor
open Go.RowKit

set_option maxRecDepth 100000 in
theorem sametexts_any (A A2 : Option Addr) (n c c2 B : Nat) (ss : List ByteArray) (w : World) (h1 : Lies w B A n (ss.map Value.string)) (h2 : Lies w B A2 n (ss.map Value.string)) (hn : n ≤ 140737488355328) :
   Calls Tryz.prog 49 #[.slice A n c, .slice A2 n c2] w fun e w' => e = .returned (.bool true) ∧ ∃ q, w' = w.drewN q := by
  have H1 := Lib.hid h1
  have H2 := Lib.hid h2
  clear h1 h2
  go_enter Tryz.func49, Tryz.ntmps49
  go_wp2_with fail
  go_loopw [5] (fun i wr => ∃ k : Nat, k ≤ n ∧ i = .int .i64 k ∧ ∃ q, wr = w.drewN q) (fun i _ => n - (intOf i).toNat)
  case atStart => exact ⟨0, Nat.zero_le _, rfl, 0, rfl⟩
  case round =>
    obtain ⟨k, hk, rfl, q, rfl⟩ := hrel
    by_cases hlt : k < n
    · obtain ⟨b1, o1, u1, rfl, _, e1, c1⟩ := H1.out.at_ hlt
      obtain ⟨b2, o2, u2, rfl, _, e2, c2'⟩ := H2.out.at_ hlt
      rw [e1] at e2
      obtain rfl : u1 = u2 := by simpa using e2
      obtain ⟨x, hx⟩ : ∃ x, u1 = .string x := by
        rw [List.getElem?_map] at e1
        cases h : ss[k]? with
        | none => simp [h] at e1
        | some x => exact ⟨x, by simpa [h] using e1.symm⟩
      subst hx
      clear e1 e2
      go_wp2_with fail
      go_quiet (fail)
      go_wp2_with fail
      go_roundw
      case rel => exact ⟨k + 1, by omega, by go_num, _, rfl⟩
      case measure => simp [intOf]; omega
    · go_wp2_with fail
      go_ret
      exact ⟨rfl, _, rfl⟩
set_option maxRecDepth 100000 in
theorem leftfields_any (g : Nat) (A2 : Option Addr) (n c2 : Nat) (fs : List Fd) (w : World) (h1 : FRead w w.heap.size (some ⟨g, 0, none⟩) n fs) (h2 : FRead w w.heap.size A2 n fs) (hn : n ≤ 140737488355328)
     (hs1 : w.cell? ⟨g, n * 2, none⟩ = some (.string ⟨#[115, 112, 97, 114, 101]⟩)) (hs2 : w.cell? ⟨g, n * 2 + 1, none⟩ = some (.string ⟨#[]⟩)) :
   Calls Tryz.prog 79 #[.slice (some ⟨g, 0, none⟩) n (n + 1), .slice A2 n c2] w fun e w' => e = .returned (.bool true) ∧ Below w.heap.size w w' := by
  have hd : decide ((n : Int) + 1 ≤ (n : Int)) = false := decide_eq_false (by omega)
  have H1 := Lib.hid h1
  have H2 := Lib.hid h2
  clear h1 h2
  go_enter Tryz.func79, Tryz.ntmps79
  go_wp2_with fail
  go_loopw [5] (fun i wr => ∃ k : Nat, k ≤ n ∧ i = .int .i64 k ∧ ∃ q, wr = w.drewN q) (fun i _ => n - (intOf i).toNat)
  case atStart => exact ⟨0, Nat.zero_le _, rfl, 0, rfl⟩
  case round =>
    obtain ⟨k, hk, rfl, q, rfl⟩ := hrel
    by_cases hlt : k < n
    · obtain ⟨hl1, hc1⟩ := H1.out
      obtain ⟨b1, o1, e1, _, hc1⟩ := hc1 (by omega)
      obtain ⟨hl2, hc2⟩ := H2.out
      obtain ⟨b2, o2, rfl, _, hc2⟩ := hc2 (by omega)
      obtain ⟨f, hf⟩ : ∃ f, fs[k]? = some f := ⟨fs[k]'(by omega), List.getElem?_eq_getElem (by omega)⟩
      have c1 := (hc1 k f hf).1
      have c2 := (hc1 k f hf).2
      have c3 := (hc2 k f hf).1
      have c4 := (hc2 k f hf).2
      injection e1 with e1
      injection e1 with e1 e2 _
      subst e1
      subst e2
      rw [Nat.zero_add] at c1 c2
      clear hc1 hc2 hl1 hl2 hf
      obtain ⟨f1, f2⟩ := f
      simp only at c1 c2 c3 c4
      go_wp2_with fail
      go_quiet (fail)
      go_wp2_with fail
      go_roundw
      case rel => exact ⟨k + 1, by omega, by go_num, _, rfl⟩
      case measure => simp [intOf]; omega
    · obtain rfl : k = n := by omega
      obtain ⟨W, hs3, hs4, hbW, hW⟩ : ∃ W : World, W.cell? ⟨g, k * 2, none⟩ = some (.string ⟨#[115, 112, 97, 114, 101]⟩) ∧ W.cell? ⟨g, k * 2 + 1, none⟩ = some (.string ⟨#[]⟩) ∧ Below w.heap.size w W ∧ w.drewN q = W :=
        ⟨w.drewN q, hs1, hs2, below_drewN (Below.refl _ _) _, rfl⟩
      rw [hW]
      clear hW hs1 hs2
      go_wp2_with fail
      go_ret
      exact ⟨rfl, hbW.alloc hbW.size _⟩
theorem beyond_any (A : Option Addr) (n c : Nat) (xs : List Nat) (w : World) (h : Lies w w.heap.size A n (xs.map fun (x : Nat) => Value.int .i64 (x : Int))) (hx : ∀ x ∈ xs, x ≤ 140737488355328) (hn : n ≤ 100) :
   Calls Tryz.prog 41 #[.slice A n c] w fun e w' => e = .returned (.bool (decide (1048576 < xs.sum))) ∧ w = w' := by
  have H := Lib.hid h
  have HX := Lib.hid hx
  clear h hx
  go_enter Tryz.func41, Tryz.ntmps41
  go_wp2_with fail
  go_loop [3, 4] (fun s i => ∃ k m : Nat, k ≤ n ∧ i = .int .i64 k ∧ s = .int .i64 m ∧ m ≤ 1048576 ∧ Hid (m = (xs.take k).sum)) (fun _ i => n - (intOf i).toNat)
  case atStart => exact ⟨0, 0, Nat.zero_le _, rfl, rfl, by omega, by simp [Hid]⟩
  case round =>
    obtain ⟨k, m, hk, rfl, rfl, hm, hms⟩ := hrel
    by_cases hlt : k < n
    · obtain ⟨b1, o1, u1, rfl, _, e1, c1⟩ := H.out.at_ hlt
      obtain ⟨x, hx, rfl⟩ : ∃ x : Nat, xs[k]? = some x ∧ u1 = .int .i64 (x : Int) := by
        rw [List.getElem?_map] at e1
        cases h : xs[k]? with
        | none => simp [h] at e1
        | some x => exact ⟨x, rfl, by simpa [h] using e1.symm⟩
      have hxb := HX.out x (List.mem_of_getElem? hx)
      have hsum : (xs.take (k + 1)).sum = (xs.take k).sum + x := by rw [List.take_add_one, hx]; simp
      have hle : (xs.take (k + 1)).sum ≤ xs.sum := by
        conv => rhs; rw [← List.take_append_drop (k + 1) xs]
        rw [List.sum_append]; omega
      have HS := Lib.hid hsum
      have HLE := Lib.hid hle
      clear hsum hle hx e1
      by_cases hbig : m + x ≤ 1048576
      · go_wp2_with fail
        go_round
        case rel => exact ⟨k + 1, m + x, by omega, by go_num, by go_num, hbig, by have := hms.out; have := HS.out; unfold Hid; omega⟩
        case measure => simp [intOf]; omega
      · go_wp2_with fail
        go_ret
        exact ⟨ret_bool (decide_eq_true (by have := hms.out; have := HS.out; have := HLE.out; omega)).symm, rfl⟩
    · obtain rfl : k = n := by omega
      go_wp2_with fail
      go_ret
      refine ⟨ret_bool ?_, rfl⟩
      have := hms.out
      have hl : xs.length = k := by simpa using H.out.1
      rw [List.take_of_length_le (by omega)] at this
      exact (decide_eq_false (by omega)).symm
end Go.Proofs.YtonlfplloenfcaaGreatDoor
