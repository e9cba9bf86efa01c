/-
  Arguments of this seat's laws, opened: a list of bytes; a world that holds the library's tables and errors.
-/
import Derived.Test.YtonlfplloenfcaaGreatDoorOddEtc
import Derived.Test.YtonlfplloenfcaaGreatDoorFindEtc
namespace Go.Proofs.YtonlfplloenfcaaGreatDoor
open Go.ChangeShapes Go.WideShapes Go.ChangeAt Go.RowKit Go.Deep
open Go.ChangeMaps (open_string shut_string)

/-- The settled world's size: the new blocks' first number. -/
noncomputable def low : Nat := (World.holding Tryz.prog default ⟨#[], #[], []⟩).heap.size
def putCells (vs : List Value) : Obj → Obj
  | .cells _ t frozen => .cells vs.toArray t frozen
  | o => o
def tab32s : List Int := [0, 1, 28, 2, 29, 14, 24, 3, 30, 22, 20, 15, 25, 17, 4, 8, 31, 27, 13, 23, 21, 19, 16, 7, 26, 12, 18, 6, 11, 5, 10, 9]
def tab64s : List Int := [0, 1, 56, 2, 57, 49, 28, 3, 61, 58, 42, 50, 38, 29, 17, 4, 62, 47, 59, 36, 45, 43, 51, 22, 53, 39, 33, 30, 24, 18, 12, 5, 63, 55, 48, 27, 60, 41, 37, 16, 46, 35, 44, 21, 52, 32, 23, 11, 54, 26, 40, 15, 34, 20, 31, 10, 25, 14, 19, 9, 13, 8, 7, 6]
/-- A WORLD THAT HOLDS THE TABLES AND THE LIBRARY's THREE ERRORS. -/
noncomputable def laidWorld (os : Os) : World :=
  let w0 := World.holding Tryz.prog os ⟨#[.cells #[.string ⟨#[98, 121, 116, 101, 115, 46, 66, 117, 102, 102, 101, 114, 58, 32, 116, 111, 111, 32, 108, 97, 114, 103, 101]⟩] 290, .cells #[.string ⟨#[118, 97, 108, 117, 101, 32, 111, 117, 116, 32, 111, 102, 32, 114, 97, 110, 103, 101]⟩] 290, .cells #[.string ⟨#[105, 110, 118, 97, 108, 105, 100, 32, 115, 121, 110, 116, 97, 120]⟩] 290], #[], []⟩
  { w0 with heap := (((((w0.heap.modify 2 (putCells (Lib.pow10Tab.map fun z => .int .u64 z))).modify 7 (putCells (tab32s.map fun z => .int .u8 z))).modify 8
      (putCells (tab64s.map fun z => .int .u8 z))).modify 0 (putCells [.iface 288 (.pointer (some ⟨low, 0, none⟩))])).modify 4 (putCells [.iface 288 (.pointer (some ⟨low + 1, 0, none⟩))])).modify 3 (putCells [.iface 288 (.pointer (some ⟨low + 2, 0, none⟩))]) }
/-- THE TABLE OF deBruijn64, out of any row that lists it. -/
theorem tab64_of {l : List (String × DataW Unit)} {W : World} (h : laidMetH Tryz.prog l W) (he : l.filter (fun x => x.1 == "math/bits.deBruijn64tab") = [("math/bits.deBruijn64tab", Rows.laid_math_bits_deBruijn64tab)]) : W.cell? ⟨8, 15, none⟩ = some (.int .u8 4) := by
  have h2 := h.filter (fun x => x.1 == "math/bits.deBruijn64tab")
  rw [he] at h2
  have ht : Lib.TabIs Tryz.prog W "math/bits.deBruijn64tab" .u8 tab64s := Lib.tabIs_of_head (rest := []) (g := 8) (by kernel_rfl) (by kernel_rfl) Tryz.underlying292 Tryz.underlying5 (by kernel_rfl) (by kernel_rfl) h2
  exact ht.cell (by kernel_rfl) 15 (by decide)
theorem cell_lt {W : World} {b o : Nat} {v : Value} (h : W.cell? ⟨b, o, none⟩ = some v) : b < W.heap.size := by
  rcases Nat.lt_or_ge b W.heap.size with h2 | h2
  · exact h2
  · simp [World.cell?, Array.getElem?_eq_none h2] at h
section
variable {H : Type} {enc : TypeId × Value → H} {w : World}
/-- A LIST OF BYTES THAT READS AS DATA. -/
theorem open_byte_list {fuel : Nat} {A : Option Addr} {n c : Nat} {x : DataW H × List MemPlace} (h : DataW.trod enc Tryz.prog w 0 (fun _ => true) true fuel 23 [.slice A n c] = some x)
    (hlt : ∀ p ∈ x.2, p.block < w.heap.size) (hz : ∀ k ∈ x.1.weights Tryz.prog 23, k ≤ reachBytes) :
    n ≤ c ∧ ∃ l : List UInt8, Lies w w.heap.size A n (Lib.byteCells l) ∧ n ≤ 140737488355328 := by
  rcases open_slice Tryz.underlying23 h with ⟨hcs, hx⟩ | ⟨a, len, cap, m, k, D, Pl, hcs, _, hl, hm, hmm, hx, hf⟩
  · simp only [List.cons.injEq, Value.slice.injEq, and_true] at hcs
    obtain ⟨rfl, rfl, rfl⟩ := hcs
    exact ⟨Nat.le_refl _, [], ⟨rfl, fun h => absurd h (by omega)⟩, by omega⟩
  · simp only [List.cons.injEq, Value.slice.injEq, and_true] at hcs
    obtain ⟨rfl, rfl, rfl⟩ := hcs
    simp only [if_true] at hmm
    subst hmm
    have hC : Tryz.prog.cellsOf 5 = 1 := by kernel_rfl
    have hBy : Tryz.prog.bytesOf 5 = 1 := by kernel_rfl
    rw [hC] at hf hx
    have key : ∀ i, ∃ z : UInt8, i < m → w.cell? (a.add i) = some (.int .u8 (z.toNat : Int)) := by
      intro i
      by_cases hi : i < m
      · obtain ⟨cs', h1, h2⟩ := hf i hi
        rw [Nat.mul_one] at h1
        obtain ⟨z, e1, _, hw⟩ := DataW.trod_int Tryz.underlying5 h2
        subst e1
        obtain ⟨_, _, hat⟩ := World.cells?_some h1
        have h3 := hat 0 (by omega)
        simp at h3
        have hz0 : 0 ≤ z ∧ z ≤ 255 := by
          have hw2 : IntKind.u8.min ≤ z ∧ z ≤ IntKind.u8.max := by simpa [Lit.wf] using hw
          exact hw2
        refine ⟨UInt8.ofNat z.toNat, fun _ => ?_⟩
        have e2 : ((UInt8.ofNat z.toNat).toNat : Int) = z := by simp; omega
        rw [e2]
        simpa [Addr.add] using h3
      · exact ⟨0, fun h => absurd h hi⟩
    obtain ⟨f, hk⟩ : ∃ f : Nat → UInt8, ∀ i, i < m → w.cell? (a.add i) = some (.int .u8 ((f i).toNat : Int)) := ⟨fun i => Classical.choose (key i), fun i => Classical.choose_spec (key i)⟩
    have hz1 : (n + (m - n)) * 1 ≤ reachBytes := by
      refine hz _ ?_
      rw [hx]
      unfold DataW.weights
      rw [Tryz.underlying23]
      simp only [List.length_map, List.length_range, hBy]
      exact List.mem_cons_self
    have hr := reach_le hz1
    refine ⟨hl, (List.range n).map f, ⟨by simp [Lib.byteCells], fun hn => ?_⟩, by omega⟩
    obtain ⟨b, off, spot⟩ := a
    have h0 := hk 0 (by omega)
    have hspot : spot = none := by simpa [Addr.add] using World.cell?_spot h0
    subst hspot
    refine ⟨b, off, rfl, ?_, fun j u hu => ?_⟩
    · refine hlt (.cell b off) ?_
      rw [hx]
      exact List.mem_append_left _ (by simp only [MemPlace.row, List.mem_map, List.mem_range]; exact ⟨0, by simp; omega, by simp⟩)
    · obtain ⟨z, hz2, rfl⟩ := bytes_at hu
      have hj : j < n := by have := (List.getElem?_eq_some_iff.1 hz2).1; simpa using this
      have hz3 : z = f j := by simpa [hj] using hz2.symm
      subst hz3
      have := hk j (by omega)
      rwa [addr_add] at this
end
end Go.Proofs.YtonlfplloenfcaaGreatDoor
