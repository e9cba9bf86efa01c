/-
  Both ways to put a body by chunks, at any size: one answer.
-/
import Derived.Test.YtonlfplloenfcaaGreatDoorRefPut
namespace Go.Proofs.YtonlfplloenfcaaGreatDoor
open Go.RowKit Go.Shelf
attribute [local go_sem] Oper.semAt_some

def putErr (size : Int) (n : Nat) : Int := if size < 1 ∨ 65536 < size then 1 else if 65536 < n then 3 else 0
def putOut (size : Int) (l : List UInt8) : List UInt8 :=
  if putErr size l.length = 0 then (List.range ((l.length + size.toNat - 1) / size.toNat)).flatMap (chunkT size.toNat l) ++ [48, 13, 10, 13, 10] else []
theorem rounds_is {n s m : Nat} (hs : 1 ≤ s) (h1 : n ≤ m * s) (h2 : m = 0 ∨ (m - 1) * s < n) : m = (n + s - 1) / s := by
  refine (Nat.div_eq_of_lt_le ?_ ?_).symm
  · rcases h2 with rfl | h2
    · omega
    · cases m with
      | zero => omega
      | succ m => rw [Nat.succ_mul]; rw [Nat.add_sub_cancel] at h2; omega
  · rw [Nat.succ_mul]; omega
theorem put_size (A : Option Addr) (n cap : Nat) (size : Int) (w : World) (h : size < 1 ∨ 65536 < size) :
    CallsIn Fence.wide 9 Tryz.prog 51 #[.slice A n cap, .int .i64 size] w fun e w' => e = .returned (.tuple #[.slice none 0 0, .int .i64 1]) ∧ w = w' := by
  refine callsIn_of_wp Tryz.func51 rfl trivial ?_ rfl
  simp only [Tryz.ntmps51, List.size_toArray, List.length_cons, List.length_nil, Nat.reduceAdd, Nat.reduceSub, Array.replicate_succ, Array.replicate_zero, List.push_toArray, List.append_toArray, List.nil_append, List.cons_append]
  have hd : (decide (size < 1) || decide (65536 < size)) = true := by rcases h with h | h <;> simp [h]
  rcases h with h | h
  · gi_wp2_with fail
    refine bodyPost_ret (results_tmp2 (h := rfl) _ _ _) rfl ?_
    exact ⟨rfl, rfl⟩
  · have h1 : ¬ size < 1 := by omega
    gi_wp2_with fail
    refine bodyPost_ret (results_tmp2 (h := rfl) _ _ _) rfl ?_
    exact ⟨rfl, rfl⟩
theorem put_long (A : Option Addr) (n cap : Nat) (size : Int) (w : World) (h1 : 1 ≤ size) (h2 : size ≤ 65536) (h : 65536 < n) :
    CallsIn Fence.wide 9 Tryz.prog 51 #[.slice A n cap, .int .i64 size] w fun e w' => e = .returned (.tuple #[.slice none 0 0, .int .i64 3]) ∧ w = w' := by
  refine callsIn_of_wp Tryz.func51 rfl trivial ?_ rfl
  simp only [Tryz.ntmps51, List.size_toArray, List.length_cons, List.length_nil, Nat.reduceAdd, Nat.reduceSub, Array.replicate_succ, Array.replicate_zero, List.push_toArray, List.append_toArray, List.nil_append, List.cons_append]
  have h3 : ¬ size < 1 := by omega
  have h4 : ¬ 65536 < size := by omega
  gi_wp2_with fail
  refine bodyPost_ret (results_tmp2 (h := rfl) _ _ _) rfl ?_
  exact ⟨rfl, rfl⟩
theorem putOut_bad {size : Int} {l : List UInt8} (h : putErr size l.length ≠ 0) : putOut size l = [] := by unfold putOut; rw [if_neg h]
theorem put_any (A : Option Addr) (n cap : Nat) (size : Int) (l : List UInt8) (w : World) (hcap : n ≤ cap) (hL : Lies w w.heap.size A n (Lib.byteCells l)) (ht : tab64 w) (hg : 8 < w.heap.size) :
    Calls Tryz.prog 51 #[.slice A n cap, .int .i64 size] w fun e w' => ∃ v, e = .returned (.tuple #[v, .int .i64 (putErr size n)]) ∧
      w'.ownsRow w.heap.size 5 1 v (putOut size l).length (Lib.byteCells (putOut size l)) ∧ Below w.heap.size w w' := by
  have hll : l.length = n := by simpa [Lib.byteCells] using hL.1
  refine (callsIn_wide (n := 9)).1 ?_
  by_cases h1 : size < 1 ∨ 65536 < size
  · have he : putErr size n = 1 := by unfold putErr; rw [if_pos h1]
    refine (put_size A n cap size w h1).mono ?_
    rintro e w' ⟨rfl, rfl⟩
    refine ⟨_, by rw [he], ?_, Below.refl _ _⟩
    rw [putOut_bad (by rw [hll, he]; decide)]
    exact World.ownsRow_nil _ _ _ _
  · by_cases h2 : 65536 < n
    · have he : putErr size n = 3 := by unfold putErr; rw [if_neg h1, if_pos h2]
      refine (put_long A n cap size w (by omega) (by omega) h2).mono ?_
      rintro e w' ⟨rfl, rfl⟩
      refine ⟨_, by rw [he], ?_, Below.refl _ _⟩
      rw [putOut_bad (by rw [hll, he]; decide)]
      exact World.ownsRow_nil _ _ _ _
    · have he : putErr size n = 0 := by unfold putErr; rw [if_neg h1, if_neg h2]
      obtain ⟨s, rfl⟩ : ∃ s : Nat, size = (s : Int) := ⟨size.toNat, by omega⟩
      refine (put_ok A n cap s l w hcap hL (by omega) (by omega) (by omega) ht hg).mono ?_
      rintro e w' ⟨v, m, rfl, h3, h4, hown, hb⟩
      have hm := rounds_is (by omega) h3 h4
      refine ⟨v, by rw [he], ?_, hb⟩
      unfold putOut
      rw [if_pos (by rw [hll, he]), Int.toNat_natCast, hll, ← hm]
      exact hown
theorem chunkT_len2 (size : Nat) (l : List UInt8) (k : Nat) (hs : size ≤ 65536) : (chunkT size l k).length ≤ 9 + min size (l.length - k * size) := by
  have h1 := hexB_len 4 (min size (l.length - k * size)) (by omega)
  have h2 : ((l.drop (k * size)).take size).length = min size (l.length - k * size) := by rw [List.length_take, List.length_drop]
  simp only [chunkT, List.length_append, List.length_cons, List.length_nil]
  omega
theorem flat_len2 (size : Nat) (l : List UInt8) (hs : size ≤ 65536) : ∀ k, ((List.range k).flatMap (chunkT size l)).length ≤ 9 * k + min (k * size) l.length
  | 0 => by simp
  | k + 1 => by
    have h1 := flat_len2 size l hs k
    have h2 := chunkT_len2 size l k hs
    have e : (k + 1) * size = k * size + size := Nat.succ_mul k size
    rw [range_flat, List.length_append, e]
    omega
theorem putOut_len (size : Int) (l : List UInt8) : (putOut size l).length ≤ 1000000 := by
  unfold putOut
  split
  · rename_i h
    have h1 : ¬ (size < 1 ∨ 65536 < size) := by intro h1; unfold putErr at h; rw [if_pos h1] at h; cases h
    have h2 : ¬ 65536 < l.length := by intro h2; unfold putErr at h; rw [if_neg h1, if_pos h2] at h; cases h
    have h3 := flat_len2 size.toNat l (by omega) ((l.length + size.toNat - 1) / size.toNat)
    have h4 : (l.length + size.toNat - 1) / size.toNat ≤ 65537 := by
      refine Nat.div_le_of_le_mul ?_
      have : size.toNat * 65537 = size.toNat * 65536 + size.toNat := by rw [Nat.mul_succ]
      have : 65536 ≤ size.toNat * 65536 := Nat.le_mul_of_pos_left _ (by omega)
      omega
    rw [List.length_append]
    simp only [List.length_cons, List.length_nil]
    generalize (l.length + size.toNat - 1) / size.toNat = k at *
    generalize k * size.toNat = y at *
    omega
  · simp
end Go.Proofs.YtonlfplloenfcaaGreatDoor

