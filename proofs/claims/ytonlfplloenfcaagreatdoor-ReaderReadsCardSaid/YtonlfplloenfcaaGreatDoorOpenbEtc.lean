/-
  Arguments of this seat's laws, opened: a list of bytes; a world that holds the library's tables and errors.
  Arguments of this seat's laws, opened: a message; a world that holds all of the library's tables and errors.
  The library's variable of the longest text: some number, in every world that a claim speaks of.
  The library's error of a number that is none: some error, in every world that a claim speaks of which lists it.
  Arguments of layer 20's laws, opened: a reading; a body.
-/
import Derived.Test.YtonlfplloenfcaaGreatDoorOddEtc
import Derived.Test.YtonlfplloenfcaaGreatDoorFindEtc
import Derived.Lib.SmallJoins
import Derived.Test.YtonlfplloenfcaaGreatDoorWordEtc
import Derived.Shelf.Vars
import Derived.Test.YtonlfplloenfcaaGreatDoorResponse
import Derived.LaidLaws
import Derived.Test.YtonlfplloenfcaaGreatDoorRdIEtc
namespace Go.Proofs.YtonlfplloenfcaaGreatDoor
open Go.ChangeShapes Go.WideShapes Go.ChangeAt Go.RowKit Go.Deep
open Go.ChangeMaps (open_string shut_string)

/-- The settled world's size: the new blocks' first number. -/
noncomputable def low : Nat := (World.holding Tryz.prog default ⟨#[], #[], []⟩).heap.size
def putCells (vs : List Value) : Obj → Obj
  | .cells _ t frozen => .cells vs.toArray t frozen
  | o => o
def tab32s : List Int := [0, 1, 28, 2, 29, 14, 24, 3, 30, 22, 20, 15, 25, 17, 4, 8, 31, 27, 13, 23, 21, 19, 16, 7, 26, 12, 18, 6, 11, 5, 10, 9]
def tab64s : List Int := [0, 1, 56, 2, 57, 49, 28, 3, 61, 58, 42, 50, 38, 29, 17, 4, 62, 47, 59, 36, 45, 43, 51, 22, 53, 39, 33, 30, 24, 18, 12, 5, 63, 55, 48, 27, 60, 41, 37, 16, 46, 35, 44, 21, 52, 32, 23, 11, 54, 26, 40, 15, 34, 20, 31, 10, 25, 14, 19, 9, 13, 8, 7, 6]
/-- A WORLD THAT HOLDS THE TABLES AND THE LIBRARY's THREE ERRORS. -/
noncomputable def laidWorld (os : Os) : World :=
  let w0 := World.holding Tryz.prog os ⟨#[.cells #[.string ⟨#[98, 121, 116, 101, 115, 46, 66, 117, 102, 102, 101, 114, 58, 32, 116, 111, 111, 32, 108, 97, 114, 103, 101]⟩] 290, .cells #[.string ⟨#[118, 97, 108, 117, 101, 32, 111, 117, 116, 32, 111, 102, 32, 114, 97, 110, 103, 101]⟩] 290, .cells #[.string ⟨#[105, 110, 118, 97, 108, 105, 100, 32, 115, 121, 110, 116, 97, 120]⟩] 290], #[], []⟩
  { w0 with heap := (((((w0.heap.modify 2 (putCells (Lib.pow10Tab.map fun z => .int .u64 z))).modify 7 (putCells (tab32s.map fun z => .int .u8 z))).modify 8
      (putCells (tab64s.map fun z => .int .u8 z))).modify 0 (putCells [.iface 288 (.pointer (some ⟨low, 0, none⟩))])).modify 4 (putCells [.iface 288 (.pointer (some ⟨low + 1, 0, none⟩))])).modify 3 (putCells [.iface 288 (.pointer (some ⟨low + 2, 0, none⟩))]) }
theorem cell_lt {W : World} {b o : Nat} {v : Value} (h : W.cell? ⟨b, o, none⟩ = some v) : b < W.heap.size := by
  rcases Nat.lt_or_ge b W.heap.size with h2 | h2
  · exact h2
  · simp [World.cell?, Array.getElem?_eq_none h2] at h
section
variable {H : Type} {enc : TypeId × Value → H} {w : World}
/-- A LIST OF BYTES THAT READS AS DATA. -/
theorem open_byte_list {fuel : Nat} {A : Option Addr} {n c : Nat} {x : DataW H × List MemPlace} (h : DataW.trod enc Tryz.prog w 0 (fun _ => true) true fuel 23 [.slice A n c] = some x)
    (hlt : ∀ p ∈ x.2, p.block < w.heap.size) (hz : ∀ k ∈ x.1.weights Tryz.prog 23, k ≤ reachBytes) :
    n ≤ c ∧ ∃ l : List UInt8, Lies w w.heap.size A n (Lib.byteCells l) ∧ n ≤ 140737488355328 := by
  rcases open_slice Tryz.underlying23 h with ⟨hcs, hx⟩ | ⟨a, len, cap, m, k, D, Pl, hcs, _, hl, hm, hmm, hx, hf⟩
  · simp only [List.cons.injEq, Value.slice.injEq, and_true] at hcs
    obtain ⟨rfl, rfl, rfl⟩ := hcs
    exact ⟨Nat.le_refl _, [], ⟨rfl, fun h => absurd h (by omega)⟩, by omega⟩
  · simp only [List.cons.injEq, Value.slice.injEq, and_true] at hcs
    obtain ⟨rfl, rfl, rfl⟩ := hcs
    simp only [if_true] at hmm
    subst hmm
    have hC : Tryz.prog.cellsOf 5 = 1 := by kernel_rfl
    have hBy : Tryz.prog.bytesOf 5 = 1 := by kernel_rfl
    rw [hC] at hf hx
    have key : ∀ i, ∃ z : UInt8, i < m → w.cell? (a.add i) = some (.int .u8 (z.toNat : Int)) := by
      intro i
      by_cases hi : i < m
      · obtain ⟨cs', h1, h2⟩ := hf i hi
        rw [Nat.mul_one] at h1
        obtain ⟨z, e1, _, hw⟩ := DataW.trod_int Tryz.underlying5 h2
        subst e1
        obtain ⟨_, _, hat⟩ := World.cells?_some h1
        have h3 := hat 0 (by omega)
        simp at h3
        have hz0 : 0 ≤ z ∧ z ≤ 255 := by
          have hw2 : IntKind.u8.min ≤ z ∧ z ≤ IntKind.u8.max := by simpa [Lit.wf] using hw
          exact hw2
        refine ⟨UInt8.ofNat z.toNat, fun _ => ?_⟩
        have e2 : ((UInt8.ofNat z.toNat).toNat : Int) = z := by simp; omega
        rw [e2]
        simpa [Addr.add] using h3
      · exact ⟨0, fun h => absurd h hi⟩
    obtain ⟨f, hk⟩ : ∃ f : Nat → UInt8, ∀ i, i < m → w.cell? (a.add i) = some (.int .u8 ((f i).toNat : Int)) := ⟨fun i => Classical.choose (key i), fun i => Classical.choose_spec (key i)⟩
    have hz1 : (n + (m - n)) * 1 ≤ reachBytes := by
      refine hz _ ?_
      rw [hx]
      unfold DataW.weights
      rw [Tryz.underlying23]
      simp only [List.length_map, List.length_range, hBy]
      exact List.mem_cons_self
    have hr := reach_le hz1
    refine ⟨hl, (List.range n).map f, ⟨by simp [Lib.byteCells], fun hn => ?_⟩, by omega⟩
    obtain ⟨b, off, spot⟩ := a
    have h0 := hk 0 (by omega)
    have hspot : spot = none := by simpa [Addr.add] using World.cell?_spot h0
    subst hspot
    refine ⟨b, off, rfl, ?_, fun j u hu => ?_⟩
    · refine hlt (.cell b off) ?_
      rw [hx]
      exact List.mem_append_left _ (by simp only [MemPlace.row, List.mem_map, List.mem_range]; exact ⟨0, by simp; omega, by simp⟩)
    · obtain ⟨z, hz2, rfl⟩ := bytes_at hu
      have hj : j < n := by have := (List.getElem?_eq_some_iff.1 hz2).1; simpa using this
      have hz3 : z = f j := by simpa [hj] using hz2.symm
      subst hz3
      have := hk j (by omega)
      rwa [addr_add] at this
end
end Go.Proofs.YtonlfplloenfcaaGreatDoor
namespace Go.Proofs.YtonlfplloenfcaaGreatDoor
open Go.Joins Go.ChangeShapes Go.WideShapes Go.ChangeAt Go.RowKit Go.Deep
open Go.ChangeMaps (open_string shut_string)

section
variable {H : Type} {enc : TypeId × Value → H} {P : Program} {w : World} {base : Nat} {spare : Nat → Bool} {held : Bool}
end

section
variable {H : Type} {enc : TypeId × Value → H} {w : World}
end

def lit1 : DataW Unit → List Value
  | .lit (.int k n) => [.int k n]
  | _ => []
def lit2 : DataW Unit → List Value
  | .agg l => l.flatMap lit1
  | d => lit1 d
def litsOf : DataW Unit → List Value
  | .agg l => l.flatMap lit2
  | d => lit1 d
/-- A WORLD THAT HOLDS ALL OF THEM. -/
noncomputable def laidAll (os : Os) : World :=
  { laidWorld os with heap := ((laidWorld os).heap.modify 6 (putCells (litsOf Rows.laid_unicode_utf8_acceptRanges))).modify 5 (putCells (litsOf Rows.laid_unicode_utf8_first)) }
end Go.Proofs.YtonlfplloenfcaaGreatDoor
namespace Go.Proofs.YtonlfplloenfcaaGreatDoor
open Go.RowKit

theorem max_of {W : World} (h : W.ShapedOpen Tryz.prog) : MaxOk W := Go.Proofs.cell_of_shapedOpen_int (zero := #[.int .i64 0]) (t := 3) h (of_decide_eq_true (by kernel_rfl)) (by kernel_rfl) rfl (by kernel_rfl) (by kernel_rfl) Tryz.underlying3
theorem maxG_lt {W : World} (h : MaxOk W) : maxG < W.heap.size := by
  obtain ⟨m, hm⟩ := h
  exact cell_lt hm
end Go.Proofs.YtonlfplloenfcaaGreatDoor
namespace Go.Proofs.YtonlfplloenfcaaGreatDoor
open Go.RowKit

theorem err_of {l : List (String × DataW Unit)} {W : World} (h : laidMetH Tryz.prog l W) (he : l.filter (fun x => x.1 == "strconv.ErrSyntax") = [("strconv.ErrSyntax", Rows.laid_strconv_ErrSyntax)]) : ErrOk W := by
  have h2 := h.filter (fun x => x.1 == "strconv.ErrSyntax")
  rw [he] at h2
  obtain ⟨ps, ⟨g0, t0, cs0, f0, p0, q0, hg0, ht0, hv0, hd0, _, e0⟩, _, hrows⟩ := (laidMetH_iff.1 h2).1
  obtain rfl := Option.some.inj (errG_is.symm.trans hg0)
  have ht : (Tryz.prog.globals[errG]?).map (·.type) = some 116 := by kernel_rfl
  obtain rfl := Option.some.inj (ht.symm.trans ht0)
  obtain ⟨f1, u, v, hcs, hn, h1⟩ := iface_of_trod Tryz.underlying116 hd0
  unfold World.var? at hv0
  rw [errG_is] at hv0
  have hv1 : (match W.heap[errG]? with | some (.cells cs _ _) => some cs | _ => none) = some cs0 := hv0
  cases hh : W.heap[errG]? with
  | none => rw [hh] at hv1; cases hv1
  | some o =>
    rw [hh] at hv1
    cases o with
    | cells cs t f =>
      injection hv1 with hv1
      subst hv1
      have e : cs = #[.iface u v] := by cases cs; simp_all
      exact ⟨u, v, t, f, by rw [hh, e]⟩
    | _ => cases hv1
theorem errG_lt {W : World} (h : ErrOk W) : errG < W.heap.size := by
  obtain ⟨tp, p, t, f, h⟩ := h
  exact (Array.getElem?_eq_some_iff.1 h).1
end Go.Proofs.YtonlfplloenfcaaGreatDoor
namespace Go.Proofs.YtonlfplloenfcaaGreatDoor
open Go.Joins Go.ChangeShapes Go.WideShapes Go.ChangeAt Go.RowKit Go.Deep
open Go.ChangeMaps (open_string shut_string)

theorem ucells_at {u : List Nat} {j : Nat} {v : Value} (h : (ucells u)[j]? = some v) : ∃ x, u[j]? = some x ∧ v = .int .u16 (x : Int) := by
  unfold ucells at h
  rw [List.getElem?_map] at h
  cases hx : u[j]? with
  | none => rw [hx] at h; cases h
  | some x => rw [hx] at h; exact ⟨x, rfl, (Option.some.inj h).symm⟩
section
variable {H : Type} {enc : TypeId × Value → H} {w : World}
/-- A LIST OF SMALL NUMBERS THAT READS AS DATA. -/
theorem open_u16_list {fuel : Nat} {A : Option Addr} {n c : Nat} {x : DataW H × List MemPlace} (h : DataW.trod enc Tryz.prog w 0 (fun _ => true) true fuel 84 [.slice A n c] = some x)
    (hlt : ∀ p ∈ x.2, p.block < w.heap.size) (hz : ∀ k ∈ x.1.weights Tryz.prog 84, k ≤ reachBytes) :
    ∃ u : List Nat, Lies w w.heap.size A n (ucells u) ∧ (∀ y ∈ u, y < 65536) ∧ n ≤ 140737488355328 := by
  rcases open_slice Tryz.underlying84 h with ⟨hcs, hx⟩ | ⟨a, len, cap, m, k, D, Pl, hcs, _, hl, hm, hmm, hx, hf⟩
  · simp only [List.cons.injEq, Value.slice.injEq, and_true] at hcs
    obtain ⟨rfl, rfl, rfl⟩ := hcs
    exact ⟨[], ⟨rfl, fun h => absurd h (by omega)⟩, fun y hy => (by cases hy), by omega⟩
  · simp only [List.cons.injEq, Value.slice.injEq, and_true] at hcs
    obtain ⟨rfl, rfl, rfl⟩ := hcs
    simp only [if_true] at hmm
    subst hmm
    have hC : Tryz.prog.cellsOf 60 = 1 := by kernel_rfl
    have hBy : Tryz.prog.bytesOf 60 = 2 := by kernel_rfl
    rw [hC] at hf hx
    have key : ∀ i, ∃ z : Nat, z < 65536 ∧ (i < m → w.cell? (a.add i) = some (.int .u16 (z : Int))) := by
      intro i
      by_cases hi : i < m
      · obtain ⟨cs', h1, h2⟩ := hf i hi
        rw [Nat.mul_one] at h1
        obtain ⟨z, e1, _, hw⟩ := DataW.trod_int Tryz.underlying60 h2
        subst e1
        obtain ⟨_, _, hat⟩ := World.cells?_some h1
        have h3 := hat 0 (by omega)
        simp at h3
        have hz0 : 0 ≤ z ∧ z ≤ 65535 := by
          have hw2 : IntKind.u16.min ≤ z ∧ z ≤ IntKind.u16.max := by simpa [Lit.wf] using hw
          exact hw2
        refine ⟨z.toNat, by omega, fun _ => ?_⟩
        have e2 : ((z.toNat : Nat) : Int) = z := by omega
        rw [e2]
        simpa [Addr.add] using h3
      · exact ⟨0, by omega, fun h => absurd h hi⟩
    obtain ⟨f, hk⟩ : ∃ f : Nat → Nat, ∀ i, f i < 65536 ∧ (i < m → w.cell? (a.add i) = some (.int .u16 ((f i : Nat) : Int))) := ⟨fun i => Classical.choose (key i), fun i => Classical.choose_spec (key i)⟩
    have hz1 : (n + (m - n)) * 2 ≤ reachBytes := by
      refine hz _ ?_
      rw [hx]
      unfold DataW.weights
      rw [Tryz.underlying84]
      simp only [List.length_map, List.length_range, hBy]
      exact List.mem_cons_self
    have hr := reach_le hz1
    refine ⟨(List.range n).map f, ⟨by simp [ucells], fun hn => ?_⟩, fun y hy => ?_, by omega⟩
    · obtain ⟨b, off, spot⟩ := a
      have h0 := (hk 0).2 (by omega)
      have hspot : spot = none := by simpa [Addr.add] using World.cell?_spot h0
      subst hspot
      refine ⟨b, off, rfl, ?_, fun j u hu => ?_⟩
      · refine hlt (.cell b off) ?_
        rw [hx]
        exact List.mem_append_left _ (by simp only [MemPlace.row, List.mem_map, List.mem_range]; exact ⟨0, by simp; omega, by simp⟩)
      · obtain ⟨z, hz2, rfl⟩ := ucells_at hu
        have hj : j < n := by have := (List.getElem?_eq_some_iff.1 hz2).1; simpa using this
        have hz3 : z = f j := by simpa [hj] using hz2.symm
        subst hz3
        have := (hk j).2 (by omega)
        rwa [addr_add] at this
    · obtain ⟨i, _, rfl⟩ := List.mem_map.1 hy
      exact (hk i).1
set_option maxRecDepth 100000 in
theorem open_reading {b0 : Nat} {v : Value} {d : DataW H} {p : List MemPlace} (hv : Value.okWide Tryz.prog w .any b0 86 v) (h : DataW.Trod enc Tryz.prog w 0 (fun _ => true) true 86 v d p)
    (hlt : ∀ x ∈ p, x.block < w.heap.size) (hz : ∀ k ∈ d.weights Tryz.prog 86, k ≤ reachBytes) :
    ∃ mt A A2 n c n2 c2 q l u, v = .agg #[.string mt, .slice A n c, .slice A2 n2 c2, .bool q] ∧ mt.size ≤ 140737488355328 ∧ n ≤ c ∧ Lies w w.heap.size A n (Lib.byteCells l) ∧ n ≤ 140737488355328 ∧ Lies w w.heap.size A2 n2 (ucells u) ∧ (∀ y ∈ u, y < 65536) ∧ n2 ≤ 140737488355328 := by
  have hu : Tryz.prog.underlying 86 = _ := Tryz.underlying86
  obtain ⟨v0, v1, v2, v3, y0, y1, y2, y3, k, rfl, rfl, rfl, h0, h1, h2, h3⟩ := open_agg4 hu (by kernel_rfl) (by kernel_rfl) hv h
  obtain ⟨s1, e0, rfl, _⟩ := DataW.trod_string Tryz.underlying9 h0
  obtain ⟨q, e3, rfl⟩ := DataW.trod_bool Tryz.underlying4 h3
  simp only [List.cons.injEq, and_true] at e0 e3
  subst e0; subst e3
  obtain ⟨A, n, c, rfl⟩ : ∃ A n c, v1 = .slice A n c := by
    rcases open_slice Tryz.underlying23 h1 with ⟨hcs, _⟩ | ⟨a, len, cap, m, q, D, Pl, hcs, _⟩
    · simp only [List.cons.injEq, and_true] at hcs; exact ⟨_, _, _, hcs⟩
    · simp only [List.cons.injEq, and_true] at hcs; exact ⟨_, _, _, hcs⟩
  obtain ⟨A2, n2, c2, rfl⟩ : ∃ A n c, v2 = .slice A n c := by
    rcases open_slice Tryz.underlying84 h2 with ⟨hcs, _⟩ | ⟨a, len, cap, m, q, D, Pl, hcs, _⟩
    · simp only [List.cons.injEq, and_true] at hcs; exact ⟨_, _, _, hcs⟩
    · simp only [List.cons.injEq, and_true] at hcs; exact ⟨_, _, _, hcs⟩
  have hw : ∀ k, (k ∈ (DataW.lit (.string s1.data.toList) : DataW H).weights Tryz.prog 9 ∨ k ∈ y1.1.weights Tryz.prog 23 ∨ k ∈ y2.1.weights Tryz.prog 84) → k ≤ reachBytes := by
    intro k hk
    refine hz k ?_
    unfold DataW.weights
    rw [hu]
    simp only [List.map_cons, List.map_nil, DataW.weightsEach, List.mem_append]
    rcases hk with hk | hk | hk
    · exact .inl hk
    · exact .inr (.inl hk)
    · exact .inr (.inr (.inl hk))
  obtain ⟨hc, l, hL, hn⟩ := open_byte_list (x := y1) h1 (fun x hx => hlt x (by simp [hx])) (fun k hk => hw k (.inr (.inl hk)))
  obtain ⟨u, hL2, hu2, hn2⟩ := open_u16_list (x := y2) h2 (fun x hx => hlt x (by simp [hx])) (fun k hk => hw k (.inr (.inr hk)))
  refine ⟨s1, A, A2, n, c, n2, c2, q, l, u, rfl, ?_, hc, hL, hn, hL2, hu2, hn2⟩
  refine reach_size (hw _ (.inl ?_))
  unfold DataW.weights
  simp
end
end Go.Proofs.YtonlfplloenfcaaGreatDoor
