/-
  A code that is "chunked", whatever its letters' size: byte by byte; no program stands here.
  BodiesLength's messages: how their bodies end, in plain words: no program stands here.
-/
import Derived.Test.YtonlfplloenfcaaGreatDoorNoneT
import Derived.Test.YtonlfplloenfcaaGreatDoorLengthSpec
import Derived.Test.YtonlfplloenfcaaGreatDoorNamesEtc
namespace Go.Proofs.YtonlfplloenfcaaGreatDoor
open Go.RowKit

def chL : List UInt8 := [99, 104, 117, 110, 107, 101, 100]
def okC (x y : UInt8) : Bool := (bits .or .u8 (x.toNat : Int) 32 == (y.toNat : Int)) && decide ((65 : Int) ≤ (x.toNat : Int))
def codeQ (L : List UInt8) (k : Nat) : Bool := decide (L.length = 7) && (List.range k).all fun j => okC (L.getD j 0) (chL.getD j 0)
theorem okC_fin : ∀ x : Fin 256, ∀ y ∈ chL, okC (UInt8.ofNat x.val) y = (lowB (UInt8.ofNat x.val) == y) := by decide +kernel
theorem okC_low (x y : UInt8) (h : y ∈ chL) : okC x y = (lowB x == y) := by
  have := okC_fin ⟨x.toNat, x.toNat_lt⟩ y h
  simpa using this
theorem codeQ_full (L : List UInt8) (h : L.length = 7) : codeQ L 7 = sameB L chB.data.toList := by
  match L, h with
  | [a, b, c, d, e, f, g], _ =>
    have h1 : sameB [a, b, c, d, e, f, g] chB.data.toList = ([lowB a, lowB b, lowB c, lowB d, lowB e, lowB f, lowB g] == chL) := rfl
    have h2 : codeQ [a, b, c, d, e, f, g] 7 = (okC a 99 && (okC b 104 && (okC c 117 && (okC d 110 && (okC e 107 && (okC f 101 && (okC g 100 && true))))))) := by
      unfold codeQ
      rfl
    rw [h1, h2, okC_low a 99 (by decide), okC_low b 104 (by decide), okC_low c 117 (by decide), okC_low d 110 (by decide), okC_low e 107 (by decide), okC_low f 101 (by decide), okC_low g 100 (by decide)]
    rfl
theorem codeQ_other (L : List UInt8) (h : L.length ≠ 7) : sameB L chB.data.toList = false := by
  cases hs : sameB L chB.data.toList with
  | false => rfl
  | true =>
    unfold sameB at hs
    have := congrArg List.length (beq_iff_eq.1 hs)
    unfold lower at this
    rw [List.length_map, List.length_map] at this
    exact absurd this h
theorem codeQ_succ (L : List UInt8) (k : Nat) : codeQ L (k + 1) = (codeQ L k && okC (L.getD k 0) (chL.getD k 0)) := by
  unfold codeQ
  rw [List.range_succ, List.all_append]
  simp [Bool.and_assoc]
theorem codeQ_down (L : List UInt8) : ∀ (d k : Nat), codeQ L k = false → codeQ L (k + d) = false
  | 0, _, h => h
  | d + 1, k, h => by
    rw [← Nat.add_assoc, codeQ_succ, codeQ_down L d k h]
    rfl
theorem codeQ_no (L : List UInt8) (k : Nat) (hk : k ≤ L.length) (h : codeQ L k = false) : sameB L chB.data.toList = false := by
  by_cases h7 : L.length = 7
  · rw [← codeQ_full L h7]
    have := codeQ_down L (7 - k) k h
    rwa [show k + (7 - k) = 7 by omega] at this
  · exact codeQ_other L h7
theorem codeQ_end (L : List UInt8) : codeQ L L.length = sameB L chB.data.toList := by
  by_cases h7 : L.length = 7
  · rw [h7]
    exact codeQ_full L h7
  · rw [codeQ_other L h7]
    unfold codeQ
    rw [decide_eq_false h7]
    rfl
def teS : ByteArray := ⟨#[116, 114, 97, 110, 115, 102, 101, 114, 45, 101, 110, 99, 111, 100, 105, 110, 103]⟩
theorem both_none {m : ByteArray} (h : (m.data.toList == [72, 69, 65, 68]) = false) : howNone m 200 = false := by
  unfold howNone
  rw [h]
  rfl
theorem same_tt : sameB teB.data.toList teB.data.toList = true := by decide +kernel
theorem same_ct : sameB clB.data.toList teB.data.toList = false := by decide +kernel
theorem same_cc : sameB clB.data.toList clB.data.toList = true := by decide +kernel
theorem same_tc : sameB teB.data.toList clB.data.toList = false := by decide +kernel
theorem same_st : sameB teS.data.toList teB.data.toList = true := by decide +kernel
theorem same_sc : sameB teS.data.toList clB.data.toList = false := by decide +kernel
theorem howM_codes {m : ByteArray} {fs : List Fd} {c s : List ByteArray} (h : howNone m 200 = false) (h1 : findB fs teB = c) (h2 : findB fs clB = s) : howM m 200 fs = howA c s (chFirst c) := by
  unfold howM
  rw [if_neg (by rw [h]; decide), h1, h2]
theorem both_one (m code length : ByteArray) (h : howNone m 200 = false) : howM m 200 [(teB, code), (clB, length)] = (0, 0, 9) := by
  rw [howM_codes h (c := [code]) (s := [length]) (by simp [findB, same_tt, same_ct]) (by simp [findB, same_cc, same_tc])]
  exact howA_bad (by simp) (by rintro ⟨h1, _⟩; cases h1)
theorem both_two (m code : ByteArray) (h : howNone m 200 = false) : howM m 200 [(teB, code), (teS, chB)] = (0, 0, 9) := by
  rw [howM_codes h (c := [code, chB]) (s := []) (by simp [findB, same_tt, same_st]) (by simp [findB, same_sc, same_tc])]
  exact howA_bad (by simp) (by rintro ⟨_, h1, _⟩; cases h1)
theorem both_three (m code : ByteArray) (h : howNone m 200 = false) : howM m 200 [(teB, code)] = if sameB code.data.toList chB.data.toList then (2, 0, 0) else (0, 0, 9) := by
  rw [howM_codes h (c := [code]) (s := []) (by simp [findB, same_tt]) (by simp [findB, same_tc])]
  have hc : chFirst [code] = sameB code.data.toList chB.data.toList := rfl
  rw [hc]
  cases hs : sameB code.data.toList chB.data.toList with
  | true => exact howA_chunks rfl rfl rfl
  | false => exact howA_bad (by simp) (by rintro ⟨_, _, h1⟩; cases h1)
theorem one_sum (a b : ByteArray) : fsum [(a, b)] = 2 + a.size + b.size := by simp [fsum]
theorem two_sum (a b c d : ByteArray) : fsum [(a, b), (c, d)] = (2 + a.size + b.size) + (2 + c.size + d.size) := by simp [fsum]
theorem two_small {a b c d : ByteArray} (h1 : a.size ≤ 1048576) (h2 : b.size ≤ 1048576) (h3 : c.size ≤ 1048576) (h4 : d.size ≤ 1048576) : ∀ f ∈ [(a, b), (c, d)], f.1.size ≤ 1048576 ∧ f.2.size ≤ 1048576 := by
  intro f hf
  rcases List.mem_cons.1 hf with rfl | hf
  · exact ⟨h1, h2⟩
  · rw [List.mem_singleton.1 hf]
    exact ⟨h3, h4⟩
theorem one_small {a b : ByteArray} (h1 : a.size ≤ 1048576) (h2 : b.size ≤ 1048576) : ∀ f ∈ [(a, b)], f.1.size ≤ 1048576 ∧ f.2.size ≤ 1048576 := by
  intro f hf
  rw [List.mem_singleton.1 hf]
  exact ⟨h1, h2⟩
end Go.Proofs.YtonlfplloenfcaaGreatDoor
namespace Go.Proofs.YtonlfplloenfcaaGreatDoor

def clX : ByteArray := ⟨#[99, 111, 110, 116, 101, 110, 116, 45, 76, 69, 78, 71, 84, 72]⟩
def strT (l : List UInt8) : ByteArray := ⟨l.toArray⟩
def lenFs (n t : Nat) : List Fd := List.replicate t (clX, strT (decT n)) ++ [(clB, strT (allT (decT n) t))]
def lenFs2 (n t o : Nat) : List Fd := lenFs n t ++ [(clB, strT (decT o))]
theorem same_xt : sameB clX.data.toList teB.data.toList = false := by decide +kernel
theorem same_xc : sameB clX.data.toList clB.data.toList = true := by decide +kernel
theorem find_rep_t (d : ByteArray) : ∀ t : Nat, findB (List.replicate t (clX, d)) teB = []
  | 0 => rfl
  | t + 1 => by
    have ih := find_rep_t d t
    unfold findB at ih ⊢
    rw [List.replicate_succ, List.filter_cons]
    simp only [same_xt]
    exact ih
theorem find_rep_c (d : ByteArray) : ∀ t : Nat, findB (List.replicate t (clX, d)) clB = List.replicate t d
  | 0 => rfl
  | t + 1 => by
    have ih := find_rep_c d t
    unfold findB at ih ⊢
    rw [List.replicate_succ, List.filter_cons]
    simp only [same_xc]
    rw [if_pos trivial, List.map_cons, ih, List.replicate_succ]
theorem get_none : howNone ⟨#[71, 69, 84]⟩ 200 = false := by decide +kernel
theorem find_one_t (d : ByteArray) : findB [(clB, d)] teB = [] := by simp [findB, same_ct]
theorem find_one_c (d : ByteArray) : findB [(clB, d)] clB = [d] := by simp [findB, same_cc]
theorem len_m (n t : Nat) : howM ⟨#[71, 69, 84]⟩ 200 (lenFs n t) = if n ≤ 65536 then (1, (n : Int), 0) else (0, 0, 3) := by
  have h1 : findB (lenFs n t) teB = [] := by
    unfold lenFs
    rw [findB_append, find_rep_t, find_one_t]
    rfl
  have h2 : findB (lenFs n t) clB = List.replicate t (strT (decT n)) ++ [strT (allT (decT n) t)] := by
    unfold lenFs
    rw [findB_append, find_rep_c, find_one_c]
  rw [howM_codes get_none h1 h2, howA_len rfl (by simp)]
  have h3 : (List.replicate t (strT (decT n)) ++ [strT (allT (decT n) t)]).map (·.data.toList) = List.replicate t (decT n) ++ [allT (decT n) t] := by
    rw [List.map_append, List.map_replicate]
    rfl
  rw [h3]
  exact len_told n t
theorem len_m2 (n t o : Nat) : howM ⟨#[71, 69, 84]⟩ 200 (lenFs2 n t o) = if o = n then (if n ≤ 65536 then (1, (n : Int), 0) else (0, 0, 3)) else (0, 0, 9) := by
  have h1 : findB (lenFs2 n t o) teB = [] := by
    unfold lenFs2 lenFs
    rw [findB_append, findB_append, find_rep_t, find_one_t, find_one_t]
    rfl
  have h2 : findB (lenFs2 n t o) clB = List.replicate t (strT (decT n)) ++ [strT (allT (decT n) t)] ++ [strT (decT o)] := by
    unfold lenFs2 lenFs
    rw [findB_append, findB_append, find_rep_c, find_one_c, find_one_c]
  rw [howM_codes get_none h1 h2, howA_len rfl (by simp)]
  have h3 : (List.replicate t (strT (decT n)) ++ [strT (allT (decT n) t)] ++ [strT (decT o)]).map (·.data.toList) = List.replicate t (decT n) ++ [allT (decT n) t] ++ [decT o] := by
    rw [List.map_append, List.map_append, List.map_replicate]
    rfl
  rw [h3]
  exact len_other n t o
theorem fsum_append (a b : List Fd) : fsum (a ++ b) = fsum a + fsum b := by simp [fsum]
theorem fsum_rep (f : Fd) : ∀ t : Nat, fsum (List.replicate t f) = t * (2 + f.1.size + f.2.size)
  | 0 => by simp [fsum]
  | t + 1 => by
    have ih := fsum_rep f t
    rw [List.replicate_succ, show f :: List.replicate t f = [f] ++ List.replicate t f from rfl, fsum_append, ih, Nat.succ_mul]
    simp [fsum]
    omega
theorem sep_len (k : Nat) : (sepB k).length ≤ 5 := by
  match k with
  | 0 => decide
  | 1 => decide
  | k + 2 => exact Nat.le_of_eq rfl
theorem allT_len (s : List UInt8) : ∀ t : Nat, (allT s t).length ≤ (t + 1) * s.length + 5 * t
  | 0 => by simp [allT]
  | t + 1 => by
    have ih := allT_len s t
    have := sep_len (t % 3)
    unfold allT
    rw [List.length_append, List.length_append, Nat.succ_mul (t + 1) s.length]
    omega
end Go.Proofs.YtonlfplloenfcaaGreatDoor
