/-
  What the reading of a head answers.
-/
import Derived.Test.YtonlfplloenfcaaGreatDoorPutSpecEtc
import Derived.Test.YtonlfplloenfcaaGreatDoorHeldEtc
namespace Go.Proofs.YtonlfplloenfcaaGreatDoor
open Go.RowKit

/-- What a head's lines but the first answer. -/
def fieldsE (ls : List (List UInt8)) : Int := if ls.all fieldOK then (if 256 < ls.length then 3 else 0) else 8
def fieldsF (ls : List (List UInt8)) : List Fd := if fieldsE ls = 0 then ls.map fieldOf else []

theorem fieldsE_bad {ls : List (List UInt8)} {k : Nat} {x : List UInt8} (h : ls[k]? = some x) (hx : fieldOK x = false) : fieldsE ls = 8 := by
  unfold fieldsE
  rw [if_neg]
  intro hc
  have := List.all_eq_true.1 hc x (List.mem_of_getElem? h)
  rw [hx] at this
  cases this
theorem fieldsF_bad {ls : List (List UInt8)} (h : fieldsE ls ≠ 0) : fieldsF ls = [] := by unfold fieldsF; rw [if_neg h]
theorem fcells_snoc (fs : List Fd) (f : Fd) : fcells (fs ++ [f]) = fcells fs ++ [.string f.1, .string f.2] := by unfold fcells; rw [List.flatMap_append]; rfl
theorem all_take {ls : List (List UInt8)} {k : Nat} {x : List UInt8} (h : ls[k]? = some x) (ha : (ls.take k).all fieldOK = true) (hx : fieldOK x = true) : (ls.take (k + 1)).all fieldOK = true := by
  rw [List.take_add_one, h, List.all_append, ha]
  simp [hx]
theorem map_take {ls : List (List UInt8)} {k : Nat} {x : List UInt8} (h : ls[k]? = some x) : (ls.take (k + 1)).map fieldOf = (ls.take k).map fieldOf ++ [fieldOf x] := by
  rw [List.take_add_one, h, List.map_append]
  rfl

/-- How a head's first line is read. -/
structure Asks where
  ok : List UInt8 → Bool
  m : List UInt8 → ByteArray
  t : List UInt8 → ByteArray
  s : List UInt8 → Int
def askK : Asks := ⟨askOK, fun l => ⟨(askM l).toArray⟩, fun l => ⟨(askTo l).toArray⟩, fun _ => 0⟩
def statusK : Asks := ⟨statusOK, fun _ => ⟨#[]⟩, fun _ => ⟨#[]⟩, fun l => (statusV l : Int)⟩
def firstL (l : List UInt8) : List UInt8 := (headLines l).headD []
def gE (K : Asks) (l : List UInt8) : Int := readE K.ok l
def gM (K : Asks) (l : List UInt8) : ByteArray := if gE K l = 0 then K.m (firstL l) else ⟨#[]⟩
def gT (K : Asks) (l : List UInt8) : ByteArray := if gE K l = 0 then K.t (firstL l) else ⟨#[]⟩
def gS (K : Asks) (l : List UInt8) : Int := if gE K l = 0 then K.s (firstL l) else 0
def gN (K : Asks) (l : List UInt8) : Int := if gE K l = 0 then endAt l + 4 else 0
def gF (K : Asks) (l : List UInt8) : List Fd := if gE K l = 0 then readF l else []
def ReadPost (K : Asks) (l : List UInt8) (w : World) (e : Ending) (w' : World) : Prop :=
  (∃ v, e = .returned (.tuple #[.agg #[.string (gM K l), .string (gT K l), .int .i64 (gS K l), v, .slice none 0 0], .int .i64 (gN K l), .int .i64 (gE K l)]) ∧
    w'.ownsRow w.heap.size 63 2 v (gF K l).length (fcells (gF K l))) ∧ Below w.heap.size w w'
theorem g_short {K : Asks} {l : List UInt8} (h : endAt l < 0) : gE K l = (if 65536 ≤ l.length then 3 else 7) := by
  unfold gE readE
  rw [if_pos h]
theorem g_first {K : Asks} {l : List UInt8} (h : 0 ≤ endAt l) (hk : K.ok (firstL l) = false) : gE K l = 8 := by
  unfold gE readE
  unfold firstL at hk
  rw [if_neg (by omega), hk]
  rfl
theorem g_fields {K : Asks} {l : List UInt8} (h : 0 ≤ endAt l) (hk : K.ok (firstL l) = true) : gE K l = fieldsE (headLines l).tail := by
  unfold gE readE fieldsE
  unfold firstL at hk
  rw [if_neg (by omega), hk]
  cases ha : (headLines l).tail.all fieldOK
  · rfl
  · rfl
theorem g_fieldsF {K : Asks} {l : List UInt8} (h : 0 ≤ endAt l) (hk : K.ok (firstL l) = true) : gF K l = fieldsF (headLines l).tail := by
  unfold gF fieldsF
  rw [g_fields h hk]
  rfl
theorem read_none {K : Asks} {l : List UInt8} {w w' : World} {E : Int} (h : gE K l = E) (h0 : E ≠ 0) (hb : Below w.heap.size w w') :
    ReadPost K l w (.returned (.tuple #[.agg #[.string ⟨#[]⟩, .string ⟨#[]⟩, .int .i64 0, .slice none 0 0, .slice none 0 0], .int .i64 0, .int .i64 E])) w' := by
  have hn : ¬ gE K l = 0 := by rw [h]; exact h0
  refine ⟨⟨.slice none 0 0, ?_, ?_⟩, hb⟩
  · unfold gM gT gS gN
    rw [if_neg hn, if_neg hn, if_neg hn, if_neg hn, h]
  · unfold gF
    rw [if_neg hn]
    exact World.ownsRow_nil _ _ _ _
theorem read_some {K : Asks} {l : List UInt8} {w w' : World} {v : Value} {s1 s2 : ByteArray} {st n : Int} (h : gE K l = 0) (h1 : s1 = K.m (firstL l)) (h2 : s2 = K.t (firstL l)) (h3 : st = K.s (firstL l)) (hn : n = endAt l + 4)
    (ho : w'.ownsRow w.heap.size 63 2 v (gF K l).length (fcells (gF K l))) (hb : Below w.heap.size w w') :
    ReadPost K l w (.returned (.tuple #[.agg #[.string s1, .string s2, .int .i64 st, v, .slice none 0 0], .int .i64 n, .int .i64 0])) w' := by
  refine ⟨⟨v, ?_, ho⟩, hb⟩
  unfold gM gT gS gN
  rw [if_pos h, if_pos h, if_pos h, if_pos h, h, h1, h2, h3, hn]
theorem lines_ne (l : List UInt8) : ∃ x r, headLines l = x :: r ∧ firstL l = x ∧ (headLines l).tail = r := by
  unfold firstL
  match h : headLines l, splitB_ne (l.take (endAt l).toNat) with
  | [], h0 => exact absurd h h0
  | x :: r, _ => exact ⟨x, r, rfl, rfl, rfl⟩
end Go.Proofs.YtonlfplloenfcaaGreatDoor
