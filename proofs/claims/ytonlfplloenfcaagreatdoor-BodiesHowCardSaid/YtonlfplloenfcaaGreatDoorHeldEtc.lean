/-
  Book: a row of lists that are held. Plain facts, over any program.
  footmanref01.Digit, Blank, sign, Token.
  footmanref01.Lower, Same.
  Slices of fields: their cells; TwinFields, LeftFields, great.
-/
import Derived.Test.YtonlfplloenfcaaGreatDoorResultsEtc
import Derived.WalkSmall
namespace Go.Proofs.YtonlfplloenfcaaGreatDoor
open Go.RowKit

/-- N lists are held in block ga: of each the list, the longer one, its number. -/
def ArrIs (w : World) (H : TypeId) (ga N : Nat) (l lg : Nat → Value) (m : Nat → Nat) : Prop :=
  ∃ cur, w.heap[ga]? = some (.cells cur H (0, 0)) ∧ ∀ j, j < N → cur[j * 3]? = some (l j) ∧ cur[j * 3 + 1]? = some (lg j) ∧ cur[j * 3 + 2]? = some (.int .i64 (m j))
section
variable {w w' : World} {H : TypeId} {ga N : Nat} {l lg : Nat → Value} {m : Nat → Nat}
theorem ArrIs.at_ (h : ArrIs w H ga N l lg m) {j : Nat} (hj : j < N) : w.cell? ⟨ga, j * 3, none⟩ = some (l j) ∧ w.cell? ⟨ga, j * 3 + 1, none⟩ = some (lg j) ∧ w.cell? ⟨ga, j * 3 + 2, none⟩ = some (.int .i64 (m j)) := by
  obtain ⟨cur, hg, hc⟩ := h
  obtain ⟨h1, h2, h3⟩ := hc j hj
  exact ⟨(cell_of_row _ _ _ _ _ _ hg).trans h1, (cell_of_row _ _ _ _ _ _ hg).trans h2, (cell_of_row _ _ _ _ _ _ hg).trans h3⟩
theorem ArrIs.frozen (h : ArrIs w H ga N l lg m) (j : Nat) : w.frozen? ⟨ga, j, none⟩ = false := by
  obtain ⟨cur, hg, _⟩ := h
  exact Blk.frozen (t := H) (cs := cur) hg j
theorem ArrIs.lt (h : ArrIs w H ga N l lg m) : ga < w.heap.size := by
  obtain ⟨cur, hg, _⟩ := h
  exact Blk.lt (t := H) (cs := cur) hg
theorem ArrIs.heap (h : ArrIs w H ga N l lg m) : ∃ cur, w.heap[ga]? = some (.cells cur H (0, 0)) := ⟨h.choose, h.choose_spec.1⟩
theorem ArrIs.same (h : ArrIs w H ga N l lg m) (hs : w'.heap[ga]? = w.heap[ga]?) : ArrIs w' H ga N l lg m := by
  obtain ⟨cur, hg, hc⟩ := h
  exact ⟨cur, hs.trans hg, hc⟩
theorem ArrIs.tys {es : List TypeId} (h : ArrIs w H ga N l lg m) (ht : Tys es w w') (he : H ∉ es) : ArrIs w' H ga N l lg m := by
  obtain ⟨cur, hg, hc⟩ := h
  exact ⟨cur, blk_tys (cs := cur) hg ht he, hc⟩
theorem ArrIs.setLong (h : ArrIs w H ga N l lg m) (i : Nat) (v : Value) : ArrIs (w.setCell ⟨ga, i * 3 + 1, none⟩ v) H ga N l (fun j => if j = i then v else lg j) m := by
  obtain ⟨cur, hg, hc⟩ := h
  refine ⟨cur.setIfInBounds (i * 3 + 1) v, Blk.set_ (t := H) (cs := cur) hg _ _, fun j hj => ?_⟩
  obtain ⟨h1, h2, h3⟩ := hc j hj
  refine ⟨?_, ?_, ?_⟩
  · rw [Array.getElem?_setIfInBounds, if_neg (by omega)]; exact h1
  · rw [Array.getElem?_setIfInBounds]
    by_cases e : j = i
    · subst e
      have hlt : j * 3 + 1 < cur.size := (Array.getElem?_eq_some_iff.1 h2).1
      rw [if_pos rfl, if_pos hlt]
      simp
    · rw [if_neg (by omega)]; simpa [e] using h2
  · rw [Array.getElem?_setIfInBounds, if_neg (by omega)]; exact h3
end
/-- What is held of a list: its cells as three. -/
def hcells : List (Value × Nat) → List Value
  | [] => []
  | (v, m) :: r => v :: .slice none 0 0 :: .int .i64 (m : Int) :: hcells r
theorem hcells_append : ∀ (a b : List (Value × Nat)), hcells (a ++ b) = hcells a ++ hcells b
  | [], b => rfl
  | (v, m) :: r, b => by simp [hcells, hcells_append r b]
theorem hcells_at : ∀ (hs : List (Value × Nat)) (j : Nat) (v : Value) (m : Nat), hs[j]? = some (v, m) → (hcells hs)[j * 3]? = some v ∧ (hcells hs)[j * 3 + 1]? = some (.slice none 0 0) ∧ (hcells hs)[j * 3 + 2]? = some (.int .i64 (m : Int))
  | [], j, v, m, h => by simp at h
  | (v', m') :: r, 0, v, m, h => by
    simp at h
    obtain ⟨rfl, rfl⟩ := h
    simp [hcells]
  | (v', m') :: r, j + 1, v, m, h => by
    have ih := hcells_at r j v m (by simpa using h)
    have e0 : (j + 1) * 3 = (j * 3) + 3 := by omega
    refine ⟨?_, ?_, ?_⟩
    · rw [e0]; simpa [hcells] using ih.1
    · rw [show (j + 1) * 3 + 1 = (j * 3 + 1) + 3 by omega]; simpa [hcells] using ih.2.1
    · rw [show (j + 1) * 3 + 2 = (j * 3 + 2) + 3 by omega]; simpa [hcells] using ih.2.2
/-- An owned row of lists that are held, as 'ArrIs'. -/
theorem ArrIs.of_own {w : World} {Bs H ga cap : Nat} {hs : List (Value × Nat)} (h : w.ownsRow Bs H 3 (.slice (some ⟨ga, 0, none⟩) hs.length cap) hs.length (hcells hs)) :
    ArrIs w H ga hs.length (fun j => (hs.getD j (.slice none 0 0, 0)).1) (fun _ => .slice none 0 0) (fun j => (hs.getD j (.slice none 0 0, 0)).2) := by
  rcases h.2 with ⟨h2, _⟩ | ⟨g', cap', cur, hv, _, hh, hnc, hcm, hcs, htake⟩
  · simp at h2
  · simp only [Value.slice.injEq, Option.some.injEq, Addr.mk.injEq, and_true, true_and] at hv
    obtain ⟨rfl, rfl⟩ := hv
    refine ⟨cur, hh, fun j hj => ?_⟩
    obtain ⟨⟨v, m⟩, hj2⟩ : ∃ p, hs[j]? = some p := ⟨hs[j]'hj, List.getElem?_eq_getElem hj⟩
    obtain ⟨h1, h2, h3⟩ := hcells_at hs j v m hj2
    have get : ∀ q u, q < hs.length * 3 → (hcells hs)[q]? = some u → cur[q]? = some u := by
      intro q u hq hu
      rw [← htake, List.getElem?_take, if_pos hq] at hu
      simpa using hu
    have e : hs.getD j (.slice none 0 0, 0) = (v, m) := by simp [List.getD, hj2]
    simp only [e]
    exact ⟨get _ _ (by omega) h1, get _ _ (by omega) h2, get _ _ (by omega) h3⟩

/-- A row of the call's own, its first k elements marked. -/
def Row (w : World) (Bs : Nat) (E : TypeId) (sz : Nat) (v : Value) (n k : Nat) (mk : Nat → Value) : Prop := ∃ xs, w.ownsRow Bs E sz v n xs ∧ ∀ i, i < k * sz → xs[i]? = some (mk i)
section
variable {w w' : World} {Bs : Nat} {E : TypeId} {sz : Nat} {v : Value} {n k : Nat} {mk : Nat → Value}
theorem Row.own (h : Row w Bs E sz v n k mk) : ∃ xs, w.ownsRow Bs E sz v n xs := ⟨h.choose, h.choose_spec.1⟩
theorem Row.of_own {xs : List Value} (h : w.ownsRow Bs E sz v n xs) : Row w Bs E sz v n 0 mk := ⟨xs, h, fun i hi => by omega⟩
theorem Row.tys {es : List TypeId} (h : Row w Bs E sz v n k mk) (ht : Tys es w w') (he : E ∉ es) : Row w' Bs E sz v n k mk := by
  obtain ⟨xs, h1, h2⟩ := h
  exact ⟨xs, own_tys h1 ht he, h2⟩
theorem Row.below (h : Row w Bs E sz v n k mk) (hb : Below w.heap.size w w') : Row w' Bs E sz v n k mk := by
  obtain ⟨xs, h1, h2⟩ := h
  exact ⟨xs, own_below h1 hb, h2⟩
theorem Row.kept {row : Option Nat} (h : Row w Bs E sz v n k mk) (hg : w.grownBy w' row) (hne : v.ownBlock = none ∨ v.ownBlock ≠ row) : Row w' Bs E sz v n k mk := by
  obtain ⟨xs, h1, h2⟩ := h
  exact ⟨xs, h1.kept hg hne, h2⟩
theorem Row.form (h : Row w Bs E sz v n k mk) (hn : 0 < n) : ∃ b cap, v = .slice (some ⟨b, 0, none⟩) n cap ∧ Bs ≤ b ∧ b < w.heap.size ∧ (∃ cur, w.heap[b]? = some (.cells cur E (0, 0))) ∧ n ≤ cap := by
  obtain ⟨xs, h1, _⟩ := h
  rcases h1.2 with ⟨_, h0⟩ | ⟨g, cap, cur, rfl, hb, hh, hnc, _⟩
  · omega
  · exact ⟨g, cap, rfl, hb, (Array.getElem?_eq_some_iff.1 hh).1, ⟨cur, hh⟩, hnc⟩
theorem Row.cell {b cap : Nat} (h : Row w Bs E sz (.slice (some ⟨b, 0, none⟩) n cap) n k mk) {j : Nat} (hj : j < k * sz) (hk : k ≤ n) : w.cell? ⟨b, j, none⟩ = some (mk j) := by
  obtain ⟨xs, h1, h2⟩ := h
  rw [h1.cellAt j (Nat.lt_of_lt_of_le hj (Nat.mul_le_mul_right _ hk)), h2 j hj]
theorem Row.some_ {b cap : Nat} (h : Row w Bs E sz (.slice (some ⟨b, 0, none⟩) n cap) n k mk) {j : Nat} (hj : j < n * sz) : ∃ u, w.cell? ⟨b, j, none⟩ = some u := by
  obtain ⟨xs, h1, _⟩ := h
  rw [h1.cellAt j hj]
  exact ⟨xs[j]'(by rw [h1.1]; exact hj), List.getElem?_eq_getElem _⟩
theorem Row.free {b cap : Nat} (h : Row w Bs E sz (.slice (some ⟨b, 0, none⟩) n cap) n k mk) (j : Nat) : w.frozen? ⟨b, j, none⟩ = false := by
  obtain ⟨xs, h1, _⟩ := h
  exact h1.frozenAt j
theorem Row.set1 {b cap : Nat} (h : Row w Bs E 1 (.slice (some ⟨b, 0, none⟩) n cap) n k mk) (hk : k < n) : Row (w.setCell ⟨b, k, none⟩ (mk k)) Bs E 1 (.slice (some ⟨b, 0, none⟩) n cap) n (k + 1) mk := by
  obtain ⟨xs, h1, h2⟩ := h
  refine ⟨_, (h1.stored k (mk k)).1, fun i hi => ?_⟩
  have hl := h1.1
  rw [List.getElem?_set]
  by_cases e : k = i
  · subst e
    rw [if_pos rfl, if_pos (by omega)]
  · rw [if_neg e]
    exact h2 i (by omega)
theorem Row.set2 {b cap : Nat} (h : Row w Bs E 2 (.slice (some ⟨b, 0, none⟩) n cap) n k mk) (hk : k < n) :
    Row ((w.setCell ⟨b, k * 2, none⟩ (mk (k * 2))).setCell ⟨b, k * 2 + 1, none⟩ (mk (k * 2 + 1))) Bs E 2 (.slice (some ⟨b, 0, none⟩) n cap) n (k + 1) mk := by
  obtain ⟨xs, h1, h2⟩ := h
  refine ⟨_, ((h1.stored (k * 2) (mk (k * 2))).1.stored (k * 2 + 1) (mk (k * 2 + 1))).1, fun i hi => ?_⟩
  have hl := h1.1
  rw [List.getElem?_set, List.getElem?_set]
  by_cases e : k * 2 + 1 = i
  · subst e
    rw [if_pos rfl, if_pos (by simp; omega)]
  · rw [if_neg e]
    by_cases e2 : k * 2 = i
    · subst e2
      rw [if_pos rfl, if_pos (by omega)]
    · rw [if_neg e2]
      exact h2 i (by omega)
end
end Go.Proofs.YtonlfplloenfcaaGreatDoor
namespace Go.Proofs.YtonlfplloenfcaaGreatDoor
open Go.RowKit

def digI (c : UInt8) : Bool := decide (48 ≤ (c.toNat : Int) ∧ (c.toNat : Int) ≤ 57)
def blankI (c : UInt8) : Bool := decide ((c.toNat : Int) = 32 ∨ (c.toNat : Int) = 9)
def tokI (c : UInt8) : Bool := decide ((48 ≤ (c.toNat : Int) ∧ (c.toNat : Int) ≤ 57) ∨ (97 ≤ (c.toNat : Int) ∧ (c.toNat : Int) ≤ 122) ∨ (65 ≤ (c.toNat : Int) ∧ (c.toNat : Int) ≤ 90) ∨
  (c.toNat : Int) = 33 ∨ (c.toNat : Int) = 35 ∨ (c.toNat : Int) = 36 ∨ (c.toNat : Int) = 37 ∨ (c.toNat : Int) = 38 ∨ (c.toNat : Int) = 39 ∨ (c.toNat : Int) = 42 ∨ (c.toNat : Int) = 43 ∨ (c.toNat : Int) = 45 ∨ (c.toNat : Int) = 46 ∨
  (c.toNat : Int) = 94 ∨ (c.toNat : Int) = 95 ∨ (c.toNat : Int) = 96 ∨ (c.toNat : Int) = 124 ∨ (c.toNat : Int) = 126)
theorem digI_eq (x : UInt8) : digI x = digB x := by
  have h := all_bytes (p := fun x => digI x == digB x) (by decide +kernel) x
  simpa using h
theorem blankI_eq (x : UInt8) : blankI x = blankB x := by
  have h := all_bytes (p := fun x => blankI x == blankB x) (by decide +kernel) x
  simpa using h
theorem tokI_eq (x : UInt8) : tokI x = signOK x := by
  have h := all_bytes (p := fun x => tokI x == signOK x) (by decide +kernel) x
  simpa using h
theorem dig_int (c : UInt8) (w : World) : Calls Tryz.prog 184 #[.int .u8 (c.toNat : Int)] w fun e w' => e = .returned (.bool (digI c)) ∧ w = w' := by
  go_enter Tryz.func184, Tryz.ntmps184
  go_wp2
  all_goals go_ret
  all_goals refine ⟨ret_bool ?_, rfl⟩
  all_goals unfold digI
  · simp [*]
  · exact (decide_eq_false (by omega)).symm
theorem dig_any (c : UInt8) (w : World) : Calls Tryz.prog 184 #[.int .u8 (c.toNat : Int)] w fun e w' => e = .returned (.bool (digB c)) ∧ w = w' := by
  rw [← digI_eq]; exact dig_int c w
theorem blank_any (c : UInt8) (w : World) : Calls Tryz.prog 151 #[.int .u8 (c.toNat : Int)] w fun e w' => e = .returned (.bool (blankB c)) ∧ w = w' := by
  rw [← blankI_eq]
  go_enter Tryz.func151, Tryz.ntmps151
  go_wp2
  all_goals go_ret
  all_goals refine ⟨ret_bool ?_, rfl⟩
  all_goals unfold blankI
  · simp [*]
  · rw [Bool.eq_iff_iff]; simp
theorem sign_any (c : UInt8) (w : World) : Calls Tryz.prog 150 #[.int .u8 (c.toNat : Int)] w fun e w' => e = .returned (.bool (signOK c)) ∧ w = w' := by
  rw [← tokI_eq]
  go_enter Tryz.func150, Tryz.ntmps150
  go_wp2_with (go_at_call 184; refine (dig_int _ _).mono ?_; rintro e w' ⟨rfl, rfl⟩)
  all_goals go_ret
  all_goals refine ⟨ret_bool ?_, rfl⟩
  all_goals simp only [digI, beq_iff_eq, beq_eq_false_iff_ne, ne_eq, decide_eq_true_eq] at *
  all_goals unfold tokI
  all_goals first | exact (decide_eq_true (by omega)).symm | exact (decide_eq_false (by omega)).symm
set_option maxRecDepth 100000 in
theorem rtoken_any (s : ByteArray) (w : World) (hs : s.size ≤ 140737488355328) :
   Calls Tryz.prog 75 #[.string s] w fun e w' => e = .returned (.bool (tokenB s.data.toList)) ∧ w = w' := by
  go_enter Tryz.func75, Tryz.ntmps75
  go_wp2_with fail
  go_loop [3] (fun i => ∃ k : Nat, k ≤ s.size ∧ i = .int .i64 k ∧ Hid ((s.data.toList.take k).all signOK = true)) (fun i => s.size - (intOf i).toNat)
  case atStart => exact ⟨0, Nat.zero_le _, rfl, by simp [Hid]⟩
  case round =>
    obtain ⟨k, hk, rfl, hp⟩ := hrel
    by_cases hlt : k < s.size
    · have good : signOK s[k] = true → Hid ((s.data.toList.take (k + 1)).all signOK = true) := fun h => all_step hlt hp.out h
      have badc : signOK s[k] = false → tokenB s.data.toList = false := fun h => by unfold tokenB; rw [all_fail hlt h]; rfl
      have HG := Lib.hid good
      have HB := Lib.hid badc
      clear good badc
      cases hsg : signOK s[k]
      · have hv := HB.out hsg
        have HV := Lib.hid hv
        have HS := Lib.hid hsg
        clear hv hsg
        go_wp2_with fail
        refine (sign_any _ _).mono ?_
        rintro e w' ⟨rfl, rfl⟩
        rw [HS.out]
        go_wp2_with fail
        go_ret
        exact ⟨ret_bool (by rw [HV.out]), rfl⟩
      · have hv := HG.out hsg
        have HV := Lib.hid hv
        have HS := Lib.hid hsg
        clear hv hsg
        go_wp2_with fail
        refine (sign_any _ _).mono ?_
        rintro e w' ⟨rfl, rfl⟩
        rw [HS.out]
        go_wp2_with fail
        go_round
        case rel => exact ⟨k + 1, by omega, by go_num, HV.out⟩
        case measure => simp [intOf]; omega
    · obtain rfl : k = s.size := by omega
      have h : s.data.toList.all signOK = true := by
        have h := hp.out
        rwa [List.take_of_length_le (by simp)] at h
      have hf : tokenB s.data.toList = (!s.data.toList.isEmpty) := by unfold tokenB; rw [h]; rfl
      have he : s.data.toList.isEmpty = decide (s.size = 0) := by
        rw [Bool.eq_iff_iff, List.isEmpty_iff, decide_eq_true_iff, ← List.length_eq_zero_iff]
        exact Iff.rfl
      have HF := Lib.hid hf
      have HE := Lib.hid he
      clear hf h he
      go_wp2_with fail
      go_ret
      refine ⟨ret_bool ?_, rfl⟩
      rw [HF.out, HE.out, Bool.eq_iff_iff, Bool.not_eq_true', decide_eq_true_iff, decide_eq_false_iff_not]
      omega
end Go.Proofs.YtonlfplloenfcaaGreatDoor
namespace Go.Proofs.YtonlfplloenfcaaGreatDoor
open Go.RowKit

theorem lowB_add (c : UInt8) (h1 : (65 : Int) ≤ (c.toNat : Int)) (h2 : (c.toNat : Int) ≤ 90) : (c.toNat : Int) + 32 = ((lowB c).toNat : Int) := by
  rw [lowB, if_pos (by rw [UInt8.le_iff_toNat_le, UInt8.le_iff_toNat_le]; exact ⟨by simp; omega, by simp; omega⟩), UInt8.toNat_add]
  simp; omega
set_option maxRecDepth 100000 in
theorem rLower_any (s : ByteArray) (w : World) (hs : s.size ≤ 1048576) :
   Calls Tryz.prog 196 #[.string s] w fun e w' => e = .returned (.string ⟨(s.data.toList.map lowB).toArray⟩) ∧ Below w.heap.size w w' := by
  have hcv := fun W => Lib.run_convert_string_bytes (P := Tryz.prog) W 9 23 5 s Tryz.underlying9 Tryz.underlying23 Tryz.underlying5
  go_enter Tryz.func196, Tryz.ntmps196
  go_wp2_with fail
  have hw0 : Below w.heap.size w (Lib.bytesWorld w 5 s) := bytesWorld_below _ _ _
  have hc0 : ∀ j, j < s.size → (Lib.bytesWorld w 5 s).cell? ⟨w.heap.size, j, none⟩ = some (.int .u8 ((s.data.toList.getD j 0).toNat : Int)) := fun j hj => Lib.bytesWorld_cell w _ s j hj
  have hf0 : ∀ j, j < s.size → (Lib.bytesWorld w 5 s).frozen? ⟨w.heap.size, j, none⟩ = false := fun j hj => bytesWorld_frozen w _ s j hj
  generalize Lib.bytesWorld w 5 s = W0 at *
  generalize hcap : grownCap w s.size 0 5 = cap at *
  clear hcv hcap
  go_loopw [4] (fun i wr => ∃ k : Nat, k ≤ s.size ∧ i = .int .i64 k ∧ Below w.heap.size w wr ∧ ByteAt wr w.heap.size s.size (fun j => if j < k then lowB (s.data.toList.getD j 0) else s.data.toList.getD j 0))
    (fun i _ => s.size - (intOf i).toNat)
  case atStart => exact ⟨0, Nat.zero_le _, rfl, hw0, fun j hj => ⟨by simpa using hc0 j hj, hf0 j hj⟩⟩
  case round =>
    obtain ⟨k, hk, rfl, hb, hrow⟩ := hrel
    by_cases hlt : k < s.size
    · have hc := (hrow k hlt).1
      have hf := (hrow k hlt).2
      simp only [Nat.lt_irrefl, if_false] at hc
      have HR := Lib.hid hrow
      clear hrow hc0 hf0
      generalize hx : s.data.toList.getD k 0 = x at *
      have HX := Lib.hid hx
      clear hx
      have hx1 := x.toNat_lt
      have key : ∀ u : UInt8, u = lowB x → ByteAt (wr.setCell ⟨w.heap.size, k, none⟩ (.int .u8 (u.toNat : Int))) w.heap.size s.size (fun j => if j < k + 1 then lowB (s.data.toList.getD j 0) else s.data.toList.getD j 0) := by
        rintro u rfl
        refine ((HR.out).set k (lowB x)).congr fun j hj => ?_
        rw [← HX.out]
        by_cases e : j = k
        · subst e; rw [if_pos rfl, if_pos (by omega)]
        · rw [if_neg e]
          by_cases e2 : j < k
          · rw [if_pos e2, if_pos (by omega)]
          · rw [if_neg e2, if_neg (by omega)]
      have key2 : lowB x = x → ByteAt wr w.heap.size s.size (fun j => if j < k + 1 then lowB (s.data.toList.getD j 0) else s.data.toList.getD j 0) := by
        intro hl
        refine (HR.out).congr fun j hj => ?_
        by_cases e : j = k
        · subst e; rw [if_neg (by omega), if_pos (by omega), HX.out, hl]
        · by_cases e2 : j < k
          · rw [if_pos e2, if_pos (by omega)]
          · rw [if_neg e2, if_neg (by omega)]
      have K1 := Lib.hid key
      have K2 := Lib.hid key2
      clear key key2
      by_cases hb1 : (65 : Int) ≤ (x.toNat : Int)
      · by_cases hb2 : (x.toNat : Int) ≤ 90
        · go_wp2_with fail
          go_roundw
          case rel => exact ⟨k + 1, by omega, by go_num, hb.setCell (Nat.le_refl _) _, by rw [lowB_add x hb1 hb2]; exact K1.out _ rfl⟩
          case measure => simp [intOf]; omega
        · go_wp2_with fail
          go_roundw
          case rel => exact ⟨k + 1, by omega, by go_num, hb, K2.out (lowB_miss x (.inr (by omega)))⟩
          case measure => simp [intOf]; omega
      · go_wp2_with fail
        go_roundw
        case rel => exact ⟨k + 1, by omega, by go_num, hb, K2.out (lowB_miss x (.inl (by omega)))⟩
        case measure => simp [intOf]; omega
    · obtain rfl : k = s.size := by omega
      have hcv := run_bytes_back (P := Tryz.prog) (src := 23) (dst := 9) (cap := cap) Tryz.underlying23 Tryz.underlying5 Tryz.underlying9 hrow (s.data.toList.map lowB) (by simp) (fun j hj => by
        have : j < s.data.toList.length := by simpa using hj
        have h2 : j < s.size := by simpa using this
        simp [h2, List.getD])
      clear hrow hc0 hf0
      go_wp2_with fail
      go_ret
      exact ⟨rfl, hb⟩
theorem rSame_any (s t : ByteArray) (w : World) (hs : s.size ≤ 1048576) (ht : t.size ≤ 1048576) :
   Calls Tryz.prog 124 #[.string s, .string t] w fun e w' => e = .returned (.bool (sameB s.data.toList t.data.toList)) ∧ Below w.heap.size w w' := by
  go_enter Tryz.func124, Tryz.ntmps124
  go_wp2_with (go_at_call 196; refine (rLower_any _ _ (by omega)).mono ?_; rintro e w' ⟨rfl, hb⟩)
  go_ret
  rename_i w1 hb1
  exact ⟨rfl, hb1.trans (hb.mono hb1.size)⟩
end Go.Proofs.YtonlfplloenfcaaGreatDoor
namespace Go.Proofs.YtonlfplloenfcaaGreatDoor
open Go.RowKit

abbrev Fd := ByteArray × ByteArray
/-- A slice of fields that reads as a list, nil let in. -/
def FRead (w : World) (B : Nat) (A : Option Addr) (n : Nat) (fs : List Fd) : Prop :=
  fs.length = n ∧ (0 < n → ∃ b off, A = some ⟨b, off, none⟩ ∧ b < B ∧ ∀ i f, fs[i]? = some f → w.cell? ⟨b, off + i * 2, none⟩ = some (.string f.1) ∧ w.cell? ⟨b, off + i * 2 + 1, none⟩ = some (.string f.2))
def fsum (fs : List Fd) : Nat := (fs.map fun f => 2 + f.1.size + f.2.size).sum
theorem fsum_succ (fs : List Fd) (k : Nat) (f : Fd) (h : fs[k]? = some f) : fsum (fs.take (k + 1)) = fsum (fs.take k) + (2 + f.1.size + f.2.size) := by
  unfold fsum
  rw [List.take_add_one, h]
  simp
theorem fsum_le (fs : List Fd) (k : Nat) : fsum (fs.take k) ≤ fsum fs := by
  unfold fsum
  conv => rhs; rw [← List.take_append_drop k fs]
  rw [List.map_append, List.sum_append]
  omega
/-- Is it more than is gone through? -/
def bigB (m : Nat) (fs : List Fd) : Bool := decide (200000 < m + fsum fs)
def FSmall (fs : List Fd) : Prop := ∀ f ∈ fs, f.1.size ≤ 140737488355328 ∧ f.2.size ≤ 140737488355328

set_option maxRecDepth 100000 in
theorem great_any (s1 s2 : ByteArray) (st : Int) (A A2 : Option Addr) (n c n2 c2 : Nat) (fs : List Fd) (w : World) (h : FRead w w.heap.size A n fs) (hs : FSmall fs) (h1 : s1.size ≤ 140737488355328) (h2 : s2.size ≤ 140737488355328) (h3 : n2 ≤ 140737488355328) (h4 : n ≤ 140737488355328) :
   Calls Tryz.prog 22 #[.agg #[.string s1, .string s2, .int .i64 st, .slice A n c, .slice A2 n2 c2]] w fun e w' => e = .returned (.bool (bigB (s1.size + s2.size + n2) fs)) ∧ Below w.heap.size w w' := by
  obtain ⟨hlen, hcells⟩ := h
  have HL := Lib.hid hlen
  have HS := Lib.hid hs
  clear hlen hs
  go_enter Tryz.func22, Tryz.ntmps22
  go_wp2
  go_loopw [3, 4] (fun v i wr => ∃ k m : Nat, k ≤ n ∧ i = .int .i64 k ∧ v = .int .i64 m ∧ Hid (m = s1.size + s2.size + n2 + fsum (fs.take k)) ∧ m ≤ 844424930131968 ∧
      (∃ q, wr = (w.alloc (.cells #[.string s1, .string s2, .int .i64 st, .slice A n c, .slice A2 n2 c2] 25)).drewN q)) (fun _ i _ => n - (intOf i).toNat)
  case atStart => exact ⟨0, s1.size + s2.size + n2, Nat.zero_le _, rfl, by go_num, by simp [Hid, fsum], by omega, 0, rfl⟩
  case round =>
    obtain ⟨k, m, hk, rfl, rfl, hm, hmb, q, rfl⟩ := hrel
    by_cases hlt : k < n
    · by_cases hm2 : m ≤ 200000
      · obtain ⟨b, off, rfl, hb, hc⟩ := hcells (by omega)
        obtain ⟨f, hf⟩ : ∃ f, fs[k]? = some f := ⟨fs[k]'(by rw [HL.out]; exact hlt), List.getElem?_eq_getElem (by rw [HL.out]; exact hlt)⟩
        have hc1 := (hc k f hf).1
        have hc2 := (hc k f hf).2
        have hsz := HS.out f (List.mem_of_getElem? hf)
        have hsz1 := hsz.1
        have hsz2 := hsz.2
        have HF := Lib.hid hf
        have HC := Lib.hid hc
        clear hf hc hsz hcells
        obtain ⟨f1, f2⟩ := f
        simp only at hc1 hc2 hsz1 hsz2
        go_wp2
        go_quiet (fail)
        go_wp2
        go_roundw
        case rel =>
          refine ⟨k + 1, m + (2 + f1.size + f2.size), by omega, by go_num, by go_num, ?_, by omega, _, rfl⟩
          have e := fsum_succ fs k _ HF.out
          have := hm.out
          unfold Hid
          simp only at e
          omega
        case measure => simp [intOf]; omega
      · have hm3 : (200000 : Int) < (m : Int) := by omega
        clear hcells
        go_wp2
        go_ret
        refine ⟨ret_bool ?_, ?_⟩
        · have := hm.out
          have := fsum_le fs k
          unfold bigB
          exact (decide_eq_true (by omega)).symm
        · exact below_drewN ((Below.refl _ _).alloc (Nat.le_refl _) _) _
    · obtain rfl : k = n := by omega
      clear hcells
      go_wp2
      go_ret
      refine ⟨ret_bool ?_, ?_⟩
      · have := hm.out
        rw [List.take_of_length_le (by rw [HL.out]; exact Nat.le_refl _)] at this
        unfold bigB
        rw [← this]
        rw [Bool.eq_iff_iff, decide_eq_true_iff, decide_eq_true_iff]
        omega
      · exact below_drewN ((Below.refl _ _).alloc (Nat.le_refl _) _) _

theorem infoF : (Tryz.prog.info? 63).map (fun i => (i.zero, i.size, i.bytes)) = some (some (.agg #[.string ⟨#[]⟩, .string ⟨#[]⟩]), 2, 32) := by kernel_rfl
theorem infoS : (Tryz.prog.info? 9).map (fun i => (i.zero, i.size, i.bytes)) = some (some (.string ⟨#[]⟩), 1, 16) := by kernel_rfl
def fcells (fs : List Fd) : List Value := fs.flatMap fun f => [.string f.1, .string f.2]
theorem fcells_succ (fs : List Fd) (k : Nat) (f : Fd) (h : fs[k]? = some f) : fcells (fs.take (k + 1)) = fcells (fs.take k) ++ [.string f.1, .string f.2] := by
  unfold fcells
  rw [List.take_add_one, h]
  simp
set_option maxRecDepth 100000 in
theorem twinf_any (A : Option Addr) (n c : Nat) (fs : List Fd) (w : World) (h : FRead w w.heap.size A n fs) (hn : n ≤ 100000) :
   Calls Tryz.prog 67 #[.slice A n c] w fun e w' => e = .returned (.slice (some ⟨w.heap.size, 0, none⟩) n (n + 1)) ∧
     w'.ownsRow w.heap.size 63 2 (.slice (some ⟨w.heap.size, 0, none⟩) (n + 1) (n + 1)) (n + 1) (fcells fs ++ [.string ⟨#[115, 112, 97, 114, 101]⟩, .string ⟨#[]⟩]) ∧ Below w.heap.size w w' := by
  obtain ⟨i0, hi, hz0, hz1, hz2⟩ := info_parts infoF
  obtain ⟨hlen, hcells⟩ := h
  have HL := Lib.hid hlen
  clear hlen
  go_enter Tryz.func67, Tryz.ntmps67
  go_wp2_with (at_make; refine wpList_make_own _ rfl _ _ 22 rfl w.heap.size 63 i0 _ 2 Tryz.underlying22 hi hz0 hz1 _ _ _ (n + 1) rfl rfl (by omega) (by rw [hz2]; omega) (by unfold maxLen; omega) (Nat.le_refl _) ?_; intro w1 hown1 hg1)
  have hb1 : Below w.heap.size w w1 := (Below.refl _ _).grown hg1 (Nat.le_refl _) (by intro k hk; cases hk)
  clear hg1
  go_loopw [3, 4] (fun t i wr => ∃ k : Nat, k ≤ n ∧ i = .int .i64 k ∧ t = .slice (some ⟨w.heap.size, 0, none⟩) k (n + 1) ∧ wr.ownsRow w.heap.size 63 2 (.slice (some ⟨w.heap.size, 0, none⟩) k (n + 1)) k (fcells (fs.take k)) ∧ Below w.heap.size w wr)
    (fun _ i _ => n - (intOf i).toNat)
  case atStart => exact ⟨0, Nat.zero_le _, rfl, rfl, by simpa [fcells] using hown1, hb1⟩
  case round =>
    obtain ⟨k, hk, rfl, rfl, hown, hb⟩ := hrel
    clear hown1 hb1
    by_cases hlt : k < n
    · obtain ⟨b, off, rfl, hbb, hc⟩ := hcells (by omega)
      obtain ⟨f, hf⟩ : ∃ f, fs[k]? = some f := ⟨fs[k]'(by rw [HL.out]; exact hlt), List.getElem?_eq_getElem (by rw [HL.out]; exact hlt)⟩
      have hc1 := (hb.cell (p := ⟨b, off + k * 2, none⟩) hbb).trans (hc k f hf).1
      have hc2 := (hb.cell (p := ⟨b, off + k * 2 + 1, none⟩) hbb).trans (hc k f hf).2
      have HF := Lib.hid hf
      clear hf hc hcells
      obtain ⟨f1, f2⟩ := f
      simp only at hc1 hc2
      go_wp2_with (at_builtin; refine wpList_append_fits _ rfl _ _ 22 rfl w.heap.size 63 i0 2 Tryz.underlying22 hi hz1 w.heap.size k (n + 1) _ rfl (hown.alloc _) ⟨wr.heap.size, 0, none⟩ 1 1 [.string f1, .string f2] rfl rfl (cell_two_new _ _ _ _) (by simp [Value.oneCell']) (by omega) ?_; intro w2 hown2 hg2)
      have hb2 : Below w.heap.size w w2 := (hb.alloc hb.size _).grown hg2 (by have := hb.size; simp; omega) (by intro j hj; cases hj; exact Nat.le_refl _)
      rw [← fcells_succ fs k _ HF.out] at hown2
      go_roundw
      case rel => exact ⟨k + 1, by omega, by go_num, rfl, hown2, hb2⟩
      case measure => simp [intOf]; omega
    · obtain rfl : k = n := by omega
      clear hcells
      rw [List.take_of_length_le (by rw [HL.out]; exact Nat.le_refl _)] at hown
      go_wp2_with (at_builtin; refine wpList_append_fits _ rfl _ _ 22 rfl w.heap.size 63 i0 2 Tryz.underlying22 hi hz1 w.heap.size k (k + 1) _ rfl (hown.alloc _) ⟨wr.heap.size, 0, none⟩ 1 1 [.string ⟨#[115, 112, 97, 114, 101]⟩, .string ⟨#[]⟩] rfl rfl (cell_two_new _ _ _ _) (by simp [Value.oneCell']) (by omega) ?_; intro w2 hown2 hg2)
      go_ret
      exact ⟨rfl, hown2, (hb.alloc hb.size _).grown hg2 (by have := hb.size; simp; omega) (by intro j hj; cases hj; exact Nat.le_refl _)⟩
end Go.Proofs.YtonlfplloenfcaaGreatDoor
