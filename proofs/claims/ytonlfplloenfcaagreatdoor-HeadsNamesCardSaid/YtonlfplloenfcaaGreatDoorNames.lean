/-
  HeadsNames: what the walk needs in plain words.
-/
import Derived.Test.YtonlfplloenfcaaGreatDoorSameEtc
import Derived.Test.YtonlfplloenfcaaGreatDoorTwinEtc
import Derived.Test.YtonlfplloenfcaaGreatDoorSpec
namespace Go.Proofs.YtonlfplloenfcaaGreatDoor
open Go.RowKit

theorem findB_append (a b : List Fd) (s : ByteArray) : findB (a ++ b) s = findB a s ++ findB b s := by
  unfold findB
  rw [List.filter_append, List.map_append]
theorem lower_lower (l : List UInt8) : lower (lower l) = lower l := by
  unfold lower
  rw [List.map_map]
  refine List.map_congr_left fun x _ => ?_
  have h := all_bytes (p := fun x => lowB (lowB x) == lowB x) (by decide +kernel) x
  simpa using h
theorem findB_lower (b : List Fd) (s : ByteArray) : findB b ⟨(s.data.toList.map lowB).toArray⟩ = findB b s := by
  unfold findB
  congr 1
  refine List.filter_congr fun f _ => ?_
  show sameB _ (lower s.data.toList) = _
  unfold sameB
  rw [lower_lower]
/-- The hit at a field stands at its place among all. -/
theorem findB_at (fs : List Fd) (s : ByteArray) (k : Nat) (f : Fd) (h : fs[k]? = some f) (hs : sameB f.1.data.toList s.data.toList = true) : (findB fs s)[(findB (fs.take k) s).length]? = some f.2 := by
  have h1 := findB_hit fs s k f h hs
  have h2 : findB fs s = findB (fs.take (k + 1)) s ++ findB (fs.drop (k + 1)) s := by rw [← findB_append, List.take_append_drop]
  rw [h2, h1, List.append_assoc, List.getElem?_append_right (Nat.le_refl _)]
  simp
theorem fread_reads {w : World} {B n : Nat} {A : Option Addr} {fs : List Fd} (h : FRead w B A n fs) : Reads w B 2 A n (fcells fs) := by
  refine ⟨by rw [fcells_len, h.1], fun hn => ?_⟩
  obtain ⟨b, off, rfl, hb, hc⟩ := h.2 hn
  refine ⟨_, rfl, hb, fun j u hu => ?_⟩
  rw [Addr.add_lit]
  have hj : j < fs.length * 2 := by
    have := (List.getElem?_eq_some_iff.1 hu).1
    rw [fcells_len] at this
    exact this
  have hi : j / 2 < fs.length := by omega
  have hf : fs[j / 2]? = some fs[j / 2] := List.getElem?_eq_getElem hi
  have h1 := fcells_at fs [] (j / 2) _ hf
  have h2 := hc (j / 2) _ hf
  rw [List.append_nil] at h1
  generalize fs[j / 2] = f at *
  rcases Nat.mod_two_eq_zero_or_one j with h0 | h0
  · have e : j / 2 * 2 = j := by omega
    rw [e] at h1 h2
    rw [h1.1] at hu
    injection hu with hu
    rw [← hu]
    exact h2.1
  · have e : j / 2 * 2 + 1 = j := by omega
    rw [e] at h1
    rw [h1.2] at hu
    injection hu with hu
    rw [← hu, show off + j = off + j / 2 * 2 + 1 by omega]
    exact h2.2
theorem fcells_append (a b : List Fd) : fcells (a ++ b) = fcells a ++ fcells b := by
  unfold fcells
  rw [List.flatMap_append]
theorem fcells_one (fs : List Fd) : ∀ u ∈ fcells fs, u.oneCell' = true := by
  intro u hu
  unfold fcells at hu
  obtain ⟨f, _, h⟩ := List.mem_flatMap.1 hu
  simp at h
  rcases h with rfl | rfl <;> rfl
end Go.Proofs.YtonlfplloenfcaaGreatDoor
