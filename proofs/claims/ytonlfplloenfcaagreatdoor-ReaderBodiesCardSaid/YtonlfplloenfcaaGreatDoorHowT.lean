/-
  How a body ends: in plain words.
-/
import Derived.Test.YtonlfplloenfcaaGreatDoorLenTEtc
import Derived.Test.YtonlfplloenfcaaGreatDoorFindEtc
namespace Go.Proofs.YtonlfplloenfcaaGreatDoor
open Go.RowKit

def teB : ByteArray := ⟨#[84, 114, 97, 110, 115, 102, 101, 114, 45, 69, 110, 99, 111, 100, 105, 110, 103]⟩
def clB : ByteArray := ⟨#[67, 111, 110, 116, 101, 110, 116, 45, 76, 101, 110, 103, 116, 104]⟩
def chB : ByteArray := ⟨#[99, 104, 117, 110, 107, 101, 100]⟩
def howNone (m : ByteArray) (st : Int) : Bool := (m.data.toList == [72, 69, 65, 68]) || (decide (100 ≤ st) && decide (st ≤ 199)) || st == 204 || st == 304
def chFirst (codes : List ByteArray) : Bool := sameB (codes.headD ⟨#[]⟩).data.toList chB.data.toList
def howM (m : ByteArray) (st : Int) (fs : List Fd) : Int × Int × Int := if howNone m st then (0, 0, 0) else howA (findB fs teB) (findB fs clB) (chFirst (findB fs teB))
def lenV (k : IntKind) (r : Int × Int × Int) : Value := .tuple #[.int k r.1, .int .i64 r.2.1, .int .i64 r.2.2]
theorem howA_close {codes sizes : List ByteArray} {ch : Bool} (h1 : codes.length = 0) (h2 : sizes.length = 0) : howA codes sizes ch = (3, 0, 0) := by
  unfold howA
  rw [if_pos (by omega)]
theorem howA_chunks {codes sizes : List ByteArray} {ch : Bool} (h1 : codes.length = 1) (h2 : sizes.length = 0) (h3 : ch = true) : howA codes sizes ch = (2, 0, 0) := by
  unfold howA
  rw [if_neg (by omega), if_pos ⟨h2, h1, h3⟩]
theorem howA_bad {codes sizes : List ByteArray} {ch : Bool} (h1 : 0 < codes.length) (h2 : ¬ (sizes.length = 0 ∧ codes.length = 1 ∧ ch = true)) : howA codes sizes ch = (0, 0, 9) := by
  unfold howA
  rw [if_neg (by omega), if_neg h2, if_pos h1]
theorem howA_len {codes sizes : List ByteArray} {ch : Bool} (h1 : codes.length = 0) (h2 : 0 < sizes.length) : howA codes sizes ch = lenA (partsA (sizes.map (·.data.toList))) := by
  unfold howA
  rw [if_neg (by omega), if_neg (by omega), if_neg (by omega)]
theorem findB_size {fs : List Fd} {s : ByteArray} {B : Nat} (h : ∀ f ∈ fs, f.2.size ≤ B) : ∀ x ∈ findB fs s, x.size ≤ B := by
  intro x hx
  unfold findB at hx
  obtain ⟨f, hf, rfl⟩ := List.mem_map.1 hx
  exact h f (List.mem_filter.1 hf).1
end Go.Proofs.YtonlfplloenfcaaGreatDoor
