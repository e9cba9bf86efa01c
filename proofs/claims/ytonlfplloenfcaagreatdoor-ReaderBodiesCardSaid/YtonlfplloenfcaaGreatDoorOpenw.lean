/-
  Arguments of this seat's laws, opened: a message; a world that holds all of the library's tables and errors.
-/
import Derived.Test.YtonlfplloenfcaaGreatDoorOpenb
import Derived.Lib.SmallJoins
namespace Go.Proofs.YtonlfplloenfcaaGreatDoor
open Go.Joins Go.ChangeShapes Go.WideShapes Go.ChangeAt Go.RowKit Go.Deep
open Go.ChangeMaps (open_string shut_string)

section
variable {H : Type} {enc : TypeId × Value → H} {P : Program} {w : World} {base : Nat} {spare : Nat → Bool} {held : Bool}
theorem open_agg5 {r : Reach} {b0 : Nat} {t : TypeId} {f0 f1 f2 f3 f4 : Field} {v : Value} {d : DataW H} {p : List MemPlace} (hs : P.underlying t = some (.struct #[f0, f1, f2, f3, f4])) (hone : oneCellFields P #[f0, f1, f2, f3, f4] = true) (hC : P.cellsOf t = 5)
    (hv : Value.okWide P w r b0 t v) (h : DataW.Trod enc P w base spare held t v d p) :
    ∃ (v0 v1 v2 v3 v4 : Value) (y0 y1 y2 y3 y4 : DataW H × List MemPlace) (n : Nat), v = .agg #[v0, v1, v2, v3, v4] ∧ d = .agg [y0.1, y1.1, y2.1, y3.1, y4.1] ∧ p = y0.2 ++ (y1.2 ++ (y2.2 ++ (y3.2 ++ y4.2))) ∧
      DataW.trod enc P w base spare held n f0.type [v0] = some y0 ∧ DataW.trod enc P w base spare held n f1.type [v1] = some y1 ∧ DataW.trod enc P w base spare held n f2.type [v2] = some y2 ∧ DataW.trod enc P w base spare held n f3.type [v3] = some y3 ∧ DataW.trod enc P w base spare held n f4.type [v4] = some y4 := by
  obtain ⟨cs, rfl, hsz⟩ := okWide_struct hs hv
  obtain ⟨l⟩ := cs
  match l, hsz.trans hC with
  | [c0, c1, c2, c3, c4], _ =>
    obtain ⟨fuel, hf⟩ := h
    obtain ⟨xs, n, _, hx, _, hlen, hg⟩ := DataW.trod_struct hs hf
    obtain ⟨o0, k0⟩ := hone_of hone 0 f0 rfl
    obtain ⟨o1, k1⟩ := hone_of hone 1 f1 rfl
    obtain ⟨o2, k2⟩ := hone_of hone 2 f2 rfl
    obtain ⟨o3, k3⟩ := hone_of hone 3 f3 rfl
    obtain ⟨o4, k4⟩ := hone_of hone 4 f4 rfl
    match xs, hlen with
    | [y0, y1, y2, y3, y4], _ =>
      simp only [Prod.mk.injEq] at hx
      exact ⟨c0, c1, c2, c3, c4, y0, y1, y2, y3, y4, n, rfl, by simpa using hx.1, by simpa using hx.2, by simpa [Value.cells, o0, k0] using hg 0 f0 rfl, by simpa [Value.cells, o1, k1] using hg 1 f1 rfl, by simpa [Value.cells, o2, k2] using hg 2 f2 rfl, by simpa [Value.cells, o3, k3] using hg 3 f3 rfl, by simpa [Value.cells, o4, k4] using hg 4 f4 rfl⟩
end

/-- A message that reads as data. -/
structure MsgIs (w : World) (v : Value) (s1 s2 : ByteArray) (st : Int) (A A2 : Option Addr) (n c n2 c2 : Nat) (fs : List Fd) (l : List UInt8) : Prop where
  val : v = .agg #[.string s1, .string s2, .int .i64 st, .slice A n c, .slice A2 n2 c2]
  fld : FRead w w.heap.size A n fs
  small : FSmall fs
  num : n ≤ 140737488355328
  cap : n2 ≤ c2
  bytes : Lies w w.heap.size A2 n2 (Lib.byteCells l)
  num2 : n2 ≤ 140737488355328
  size1 : s1.size ≤ 140737488355328
  size2 : s2.size ≤ 140737488355328
  stat : (Lit.int .i64 st).wf = true
section
variable {H : Type} {enc : TypeId × Value → H} {w : World}
set_option maxRecDepth 100000 in
theorem open_message {b0 : Nat} {v : Value} {d : DataW H} {p : List MemPlace} (hv : Value.okWide Tryz.prog w .any b0 25 v) (h : DataW.Trod enc Tryz.prog w 0 (fun _ => true) true 25 v d p)
    (hlt : ∀ x ∈ p, x.block < w.heap.size) (hz : ∀ k ∈ d.weights Tryz.prog 25, k ≤ reachBytes) :
    ∃ s1 s2 st A A2 n c n2 c2 fs l, MsgIs w v s1 s2 st A A2 n c n2 c2 fs l := by
  have hu : Tryz.prog.underlying 25 = _ := Tryz.underlying25
  obtain ⟨v0, v1, v2, v3, v4, y0, y1, y2, y3, y4, k, rfl, rfl, rfl, h0, h1, h2, h3, h4⟩ := open_agg5 hu (by kernel_rfl) (by kernel_rfl) hv h
  obtain ⟨s1, e0, rfl, _⟩ := DataW.trod_string Tryz.underlying9 h0
  obtain ⟨s2, e1, rfl, _⟩ := DataW.trod_string Tryz.underlying9 h1
  obtain ⟨st, e2, rfl, hwst⟩ := DataW.trod_int Tryz.underlying3 h2
  simp only [List.cons.injEq, and_true] at e0 e1 e2
  subst e0; subst e1; subst e2
  obtain ⟨A, n, c, rfl⟩ : ∃ A n c, v3 = .slice A n c := by
    rcases open_slice Tryz.underlying22 h3 with ⟨hcs, _⟩ | ⟨a, len, cap, m, q, D, Pl, hcs, _⟩
    · simp only [List.cons.injEq, and_true] at hcs; exact ⟨_, _, _, hcs⟩
    · simp only [List.cons.injEq, and_true] at hcs; exact ⟨_, _, _, hcs⟩
  obtain ⟨A2, n2, c2, rfl⟩ : ∃ A n c, v4 = .slice A n c := by
    rcases open_slice Tryz.underlying23 h4 with ⟨hcs, _⟩ | ⟨a, len, cap, m, q, D, Pl, hcs, _⟩
    · simp only [List.cons.injEq, and_true] at hcs; exact ⟨_, _, _, hcs⟩
    · simp only [List.cons.injEq, and_true] at hcs; exact ⟨_, _, _, hcs⟩
  have hw : ∀ k, (k ∈ (DataW.lit (.string s1.data.toList) : DataW H).weights Tryz.prog 9 ∨ k ∈ (DataW.lit (.string s2.data.toList) : DataW H).weights Tryz.prog 9 ∨ k ∈ y3.1.weights Tryz.prog 22 ∨ k ∈ y4.1.weights Tryz.prog 23) → k ≤ reachBytes := by
    intro k hk
    refine hz k ?_
    unfold DataW.weights
    rw [hu]
    simp only [List.map_cons, List.map_nil, DataW.weightsEach, List.mem_append]
    rcases hk with hk | hk | hk | hk
    · exact .inl hk
    · exact .inr (.inl hk)
    · exact .inr (.inr (.inr (.inl hk)))
    · exact .inr (.inr (.inr (.inr (.inl hk))))
  obtain ⟨fs, hF, hS, hn⟩ := open_fields (x := y3) h3 (fun x hx => hlt x (by simp [hx])) (fun k hk => hw k (.inr (.inr (.inl hk))))
  obtain ⟨hc, l, hL, hn2⟩ := open_byte_list (x := y4) h4 (fun x hx => hlt x (by simp [hx])) (fun k hk => hw k (.inr (.inr (.inr hk))))
  refine ⟨s1, s2, st, A, A2, n, c, n2, c2, fs, l, rfl, hF, hS, hn, hc, hL, hn2, ?_, ?_, hwst⟩
  · refine reach_size (hw _ (.inl ?_))
    unfold DataW.weights
    simp
  · refine reach_size (hw _ (.inr (.inl ?_)))
    unfold DataW.weights
    simp
end

def lit1 : DataW Unit → List Value
  | .lit (.int k n) => [.int k n]
  | _ => []
def lit2 : DataW Unit → List Value
  | .agg l => l.flatMap lit1
  | d => lit1 d
def litsOf : DataW Unit → List Value
  | .agg l => l.flatMap lit2
  | d => lit1 d
/-- A WORLD THAT HOLDS ALL OF THEM. -/
noncomputable def laidAll (os : Os) : World :=
  { laidWorld os with heap := ((laidWorld os).heap.modify 6 (putCells (litsOf Rows.laid_unicode_utf8_acceptRanges))).modify 5 (putCells (litsOf Rows.laid_unicode_utf8_first)) }
end Go.Proofs.YtonlfplloenfcaaGreatDoor
