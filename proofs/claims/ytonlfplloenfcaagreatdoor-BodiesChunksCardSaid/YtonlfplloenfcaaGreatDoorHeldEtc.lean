/-
  Book: a row of lists that are held. Plain facts, over any program.
  footmanref01.Digit, Blank, sign, Token.
  bodies.control: has a text a control byte?
-/
import Derived.Test.YtonlfplloenfcaaGreatDoorTysEtc
namespace Go.Proofs.YtonlfplloenfcaaGreatDoor
open Go.RowKit

/-- N lists are held in block ga: of each the list, the longer one, its number. -/
def ArrIs (w : World) (H : TypeId) (ga N : Nat) (l lg : Nat → Value) (m : Nat → Nat) : Prop :=
  ∃ cur, w.heap[ga]? = some (.cells cur H (0, 0)) ∧ ∀ j, j < N → cur[j * 3]? = some (l j) ∧ cur[j * 3 + 1]? = some (lg j) ∧ cur[j * 3 + 2]? = some (.int .i64 (m j))
section
variable {w w' : World} {H : TypeId} {ga N : Nat} {l lg : Nat → Value} {m : Nat → Nat}
theorem ArrIs.at_ (h : ArrIs w H ga N l lg m) {j : Nat} (hj : j < N) : w.cell? ⟨ga, j * 3, none⟩ = some (l j) ∧ w.cell? ⟨ga, j * 3 + 1, none⟩ = some (lg j) ∧ w.cell? ⟨ga, j * 3 + 2, none⟩ = some (.int .i64 (m j)) := by
  obtain ⟨cur, hg, hc⟩ := h
  obtain ⟨h1, h2, h3⟩ := hc j hj
  exact ⟨(cell_of_row _ _ _ _ _ _ hg).trans h1, (cell_of_row _ _ _ _ _ _ hg).trans h2, (cell_of_row _ _ _ _ _ _ hg).trans h3⟩
theorem ArrIs.frozen (h : ArrIs w H ga N l lg m) (j : Nat) : w.frozen? ⟨ga, j, none⟩ = false := by
  obtain ⟨cur, hg, _⟩ := h
  exact Blk.frozen (t := H) (cs := cur) hg j
theorem ArrIs.lt (h : ArrIs w H ga N l lg m) : ga < w.heap.size := by
  obtain ⟨cur, hg, _⟩ := h
  exact Blk.lt (t := H) (cs := cur) hg
theorem ArrIs.heap (h : ArrIs w H ga N l lg m) : ∃ cur, w.heap[ga]? = some (.cells cur H (0, 0)) := ⟨h.choose, h.choose_spec.1⟩
theorem ArrIs.same (h : ArrIs w H ga N l lg m) (hs : w'.heap[ga]? = w.heap[ga]?) : ArrIs w' H ga N l lg m := by
  obtain ⟨cur, hg, hc⟩ := h
  exact ⟨cur, hs.trans hg, hc⟩
theorem ArrIs.tys {es : List TypeId} (h : ArrIs w H ga N l lg m) (ht : Tys es w w') (he : H ∉ es) : ArrIs w' H ga N l lg m := by
  obtain ⟨cur, hg, hc⟩ := h
  exact ⟨cur, blk_tys (cs := cur) hg ht he, hc⟩
theorem ArrIs.setLong (h : ArrIs w H ga N l lg m) (i : Nat) (v : Value) : ArrIs (w.setCell ⟨ga, i * 3 + 1, none⟩ v) H ga N l (fun j => if j = i then v else lg j) m := by
  obtain ⟨cur, hg, hc⟩ := h
  refine ⟨cur.setIfInBounds (i * 3 + 1) v, Blk.set_ (t := H) (cs := cur) hg _ _, fun j hj => ?_⟩
  obtain ⟨h1, h2, h3⟩ := hc j hj
  refine ⟨?_, ?_, ?_⟩
  · rw [Array.getElem?_setIfInBounds, if_neg (by omega)]; exact h1
  · rw [Array.getElem?_setIfInBounds]
    by_cases e : j = i
    · subst e
      have hlt : j * 3 + 1 < cur.size := (Array.getElem?_eq_some_iff.1 h2).1
      rw [if_pos rfl, if_pos hlt]
      simp
    · rw [if_neg (by omega)]; simpa [e] using h2
  · rw [Array.getElem?_setIfInBounds, if_neg (by omega)]; exact h3
end
/-- What is held of a list: its cells as three. -/
def hcells : List (Value × Nat) → List Value
  | [] => []
  | (v, m) :: r => v :: .slice none 0 0 :: .int .i64 (m : Int) :: hcells r
theorem hcells_append : ∀ (a b : List (Value × Nat)), hcells (a ++ b) = hcells a ++ hcells b
  | [], b => rfl
  | (v, m) :: r, b => by simp [hcells, hcells_append r b]
theorem hcells_at : ∀ (hs : List (Value × Nat)) (j : Nat) (v : Value) (m : Nat), hs[j]? = some (v, m) → (hcells hs)[j * 3]? = some v ∧ (hcells hs)[j * 3 + 1]? = some (.slice none 0 0) ∧ (hcells hs)[j * 3 + 2]? = some (.int .i64 (m : Int))
  | [], j, v, m, h => by simp at h
  | (v', m') :: r, 0, v, m, h => by
    simp at h
    obtain ⟨rfl, rfl⟩ := h
    simp [hcells]
  | (v', m') :: r, j + 1, v, m, h => by
    have ih := hcells_at r j v m (by simpa using h)
    have e0 : (j + 1) * 3 = (j * 3) + 3 := by omega
    refine ⟨?_, ?_, ?_⟩
    · rw [e0]; simpa [hcells] using ih.1
    · rw [show (j + 1) * 3 + 1 = (j * 3 + 1) + 3 by omega]; simpa [hcells] using ih.2.1
    · rw [show (j + 1) * 3 + 2 = (j * 3 + 2) + 3 by omega]; simpa [hcells] using ih.2.2
/-- An owned row of lists that are held, as 'ArrIs'. -/
theorem ArrIs.of_own {w : World} {Bs H ga cap : Nat} {hs : List (Value × Nat)} (h : w.ownsRow Bs H 3 (.slice (some ⟨ga, 0, none⟩) hs.length cap) hs.length (hcells hs)) :
    ArrIs w H ga hs.length (fun j => (hs.getD j (.slice none 0 0, 0)).1) (fun _ => .slice none 0 0) (fun j => (hs.getD j (.slice none 0 0, 0)).2) := by
  rcases h.2 with ⟨h2, _⟩ | ⟨g', cap', cur, hv, _, hh, hnc, hcm, hcs, htake⟩
  · simp at h2
  · simp only [Value.slice.injEq, Option.some.injEq, Addr.mk.injEq, and_true, true_and] at hv
    obtain ⟨rfl, rfl⟩ := hv
    refine ⟨cur, hh, fun j hj => ?_⟩
    obtain ⟨⟨v, m⟩, hj2⟩ : ∃ p, hs[j]? = some p := ⟨hs[j]'hj, List.getElem?_eq_getElem hj⟩
    obtain ⟨h1, h2, h3⟩ := hcells_at hs j v m hj2
    have get : ∀ q u, q < hs.length * 3 → (hcells hs)[q]? = some u → cur[q]? = some u := by
      intro q u hq hu
      rw [← htake, List.getElem?_take, if_pos hq] at hu
      simpa using hu
    have e : hs.getD j (.slice none 0 0, 0) = (v, m) := by simp [List.getD, hj2]
    simp only [e]
    exact ⟨get _ _ (by omega) h1, get _ _ (by omega) h2, get _ _ (by omega) h3⟩

/-- A row of the call's own, its first k elements marked. -/
def Row (w : World) (Bs : Nat) (E : TypeId) (sz : Nat) (v : Value) (n k : Nat) (mk : Nat → Value) : Prop := ∃ xs, w.ownsRow Bs E sz v n xs ∧ ∀ i, i < k * sz → xs[i]? = some (mk i)
section
variable {w w' : World} {Bs : Nat} {E : TypeId} {sz : Nat} {v : Value} {n k : Nat} {mk : Nat → Value}
theorem Row.own (h : Row w Bs E sz v n k mk) : ∃ xs, w.ownsRow Bs E sz v n xs := ⟨h.choose, h.choose_spec.1⟩
theorem Row.of_own {xs : List Value} (h : w.ownsRow Bs E sz v n xs) : Row w Bs E sz v n 0 mk := ⟨xs, h, fun i hi => by omega⟩
theorem Row.tys {es : List TypeId} (h : Row w Bs E sz v n k mk) (ht : Tys es w w') (he : E ∉ es) : Row w' Bs E sz v n k mk := by
  obtain ⟨xs, h1, h2⟩ := h
  exact ⟨xs, own_tys h1 ht he, h2⟩
theorem Row.below (h : Row w Bs E sz v n k mk) (hb : Below w.heap.size w w') : Row w' Bs E sz v n k mk := by
  obtain ⟨xs, h1, h2⟩ := h
  exact ⟨xs, own_below h1 hb, h2⟩
theorem Row.kept {row : Option Nat} (h : Row w Bs E sz v n k mk) (hg : w.grownBy w' row) (hne : v.ownBlock = none ∨ v.ownBlock ≠ row) : Row w' Bs E sz v n k mk := by
  obtain ⟨xs, h1, h2⟩ := h
  exact ⟨xs, h1.kept hg hne, h2⟩
theorem Row.form (h : Row w Bs E sz v n k mk) (hn : 0 < n) : ∃ b cap, v = .slice (some ⟨b, 0, none⟩) n cap ∧ Bs ≤ b ∧ b < w.heap.size ∧ (∃ cur, w.heap[b]? = some (.cells cur E (0, 0))) ∧ n ≤ cap := by
  obtain ⟨xs, h1, _⟩ := h
  rcases h1.2 with ⟨_, h0⟩ | ⟨g, cap, cur, rfl, hb, hh, hnc, _⟩
  · omega
  · exact ⟨g, cap, rfl, hb, (Array.getElem?_eq_some_iff.1 hh).1, ⟨cur, hh⟩, hnc⟩
theorem Row.cell {b cap : Nat} (h : Row w Bs E sz (.slice (some ⟨b, 0, none⟩) n cap) n k mk) {j : Nat} (hj : j < k * sz) (hk : k ≤ n) : w.cell? ⟨b, j, none⟩ = some (mk j) := by
  obtain ⟨xs, h1, h2⟩ := h
  rw [h1.cellAt j (Nat.lt_of_lt_of_le hj (Nat.mul_le_mul_right _ hk)), h2 j hj]
theorem Row.some_ {b cap : Nat} (h : Row w Bs E sz (.slice (some ⟨b, 0, none⟩) n cap) n k mk) {j : Nat} (hj : j < n * sz) : ∃ u, w.cell? ⟨b, j, none⟩ = some u := by
  obtain ⟨xs, h1, _⟩ := h
  rw [h1.cellAt j hj]
  exact ⟨xs[j]'(by rw [h1.1]; exact hj), List.getElem?_eq_getElem _⟩
theorem Row.free {b cap : Nat} (h : Row w Bs E sz (.slice (some ⟨b, 0, none⟩) n cap) n k mk) (j : Nat) : w.frozen? ⟨b, j, none⟩ = false := by
  obtain ⟨xs, h1, _⟩ := h
  exact h1.frozenAt j
theorem Row.set1 {b cap : Nat} (h : Row w Bs E 1 (.slice (some ⟨b, 0, none⟩) n cap) n k mk) (hk : k < n) : Row (w.setCell ⟨b, k, none⟩ (mk k)) Bs E 1 (.slice (some ⟨b, 0, none⟩) n cap) n (k + 1) mk := by
  obtain ⟨xs, h1, h2⟩ := h
  refine ⟨_, (h1.stored k (mk k)).1, fun i hi => ?_⟩
  have hl := h1.1
  rw [List.getElem?_set]
  by_cases e : k = i
  · subst e
    rw [if_pos rfl, if_pos (by omega)]
  · rw [if_neg e]
    exact h2 i (by omega)
theorem Row.set2 {b cap : Nat} (h : Row w Bs E 2 (.slice (some ⟨b, 0, none⟩) n cap) n k mk) (hk : k < n) :
    Row ((w.setCell ⟨b, k * 2, none⟩ (mk (k * 2))).setCell ⟨b, k * 2 + 1, none⟩ (mk (k * 2 + 1))) Bs E 2 (.slice (some ⟨b, 0, none⟩) n cap) n (k + 1) mk := by
  obtain ⟨xs, h1, h2⟩ := h
  refine ⟨_, ((h1.stored (k * 2) (mk (k * 2))).1.stored (k * 2 + 1) (mk (k * 2 + 1))).1, fun i hi => ?_⟩
  have hl := h1.1
  rw [List.getElem?_set, List.getElem?_set]
  by_cases e : k * 2 + 1 = i
  · subst e
    rw [if_pos rfl, if_pos (by simp; omega)]
  · rw [if_neg e]
    by_cases e2 : k * 2 = i
    · subst e2
      rw [if_pos rfl, if_pos (by omega)]
    · rw [if_neg e2]
      exact h2 i (by omega)
end
end Go.Proofs.YtonlfplloenfcaaGreatDoor
namespace Go.Proofs.YtonlfplloenfcaaGreatDoor
open Go.RowKit

def digI (c : UInt8) : Bool := decide (48 ≤ (c.toNat : Int) ∧ (c.toNat : Int) ≤ 57)
def blankI (c : UInt8) : Bool := decide ((c.toNat : Int) = 32 ∨ (c.toNat : Int) = 9)
def tokI (c : UInt8) : Bool := decide ((48 ≤ (c.toNat : Int) ∧ (c.toNat : Int) ≤ 57) ∨ (97 ≤ (c.toNat : Int) ∧ (c.toNat : Int) ≤ 122) ∨ (65 ≤ (c.toNat : Int) ∧ (c.toNat : Int) ≤ 90) ∨
  (c.toNat : Int) = 33 ∨ (c.toNat : Int) = 35 ∨ (c.toNat : Int) = 36 ∨ (c.toNat : Int) = 37 ∨ (c.toNat : Int) = 38 ∨ (c.toNat : Int) = 39 ∨ (c.toNat : Int) = 42 ∨ (c.toNat : Int) = 43 ∨ (c.toNat : Int) = 45 ∨ (c.toNat : Int) = 46 ∨
  (c.toNat : Int) = 94 ∨ (c.toNat : Int) = 95 ∨ (c.toNat : Int) = 96 ∨ (c.toNat : Int) = 124 ∨ (c.toNat : Int) = 126)
theorem digI_eq (x : UInt8) : digI x = digB x := by
  have h := all_bytes (p := fun x => digI x == digB x) (by decide +kernel) x
  simpa using h
theorem blankI_eq (x : UInt8) : blankI x = blankB x := by
  have h := all_bytes (p := fun x => blankI x == blankB x) (by decide +kernel) x
  simpa using h
theorem tokI_eq (x : UInt8) : tokI x = signOK x := by
  have h := all_bytes (p := fun x => tokI x == signOK x) (by decide +kernel) x
  simpa using h
theorem dig_int (c : UInt8) (w : World) : Calls Tryz.prog 184 #[.int .u8 (c.toNat : Int)] w fun e w' => e = .returned (.bool (digI c)) ∧ w = w' := by
  go_enter Tryz.func184, Tryz.ntmps184
  go_wp2
  all_goals go_ret
  all_goals refine ⟨ret_bool ?_, rfl⟩
  all_goals unfold digI
  · simp [*]
  · exact (decide_eq_false (by omega)).symm
theorem dig_any (c : UInt8) (w : World) : Calls Tryz.prog 184 #[.int .u8 (c.toNat : Int)] w fun e w' => e = .returned (.bool (digB c)) ∧ w = w' := by
  rw [← digI_eq]; exact dig_int c w
theorem blank_any (c : UInt8) (w : World) : Calls Tryz.prog 151 #[.int .u8 (c.toNat : Int)] w fun e w' => e = .returned (.bool (blankB c)) ∧ w = w' := by
  rw [← blankI_eq]
  go_enter Tryz.func151, Tryz.ntmps151
  go_wp2
  all_goals go_ret
  all_goals refine ⟨ret_bool ?_, rfl⟩
  all_goals unfold blankI
  · simp [*]
  · rw [Bool.eq_iff_iff]; simp
theorem sign_any (c : UInt8) (w : World) : Calls Tryz.prog 150 #[.int .u8 (c.toNat : Int)] w fun e w' => e = .returned (.bool (signOK c)) ∧ w = w' := by
  rw [← tokI_eq]
  go_enter Tryz.func150, Tryz.ntmps150
  go_wp2_with (go_at_call 184; refine (dig_int _ _).mono ?_; rintro e w' ⟨rfl, rfl⟩)
  all_goals go_ret
  all_goals refine ⟨ret_bool ?_, rfl⟩
  all_goals simp only [digI, beq_iff_eq, beq_eq_false_iff_ne, ne_eq, decide_eq_true_eq] at *
  all_goals unfold tokI
  all_goals first | exact (decide_eq_true (by omega)).symm | exact (decide_eq_false (by omega)).symm
set_option maxRecDepth 100000 in
theorem rtoken_any (s : ByteArray) (w : World) (hs : s.size ≤ 140737488355328) :
   Calls Tryz.prog 75 #[.string s] w fun e w' => e = .returned (.bool (tokenB s.data.toList)) ∧ w = w' := by
  go_enter Tryz.func75, Tryz.ntmps75
  go_wp2_with fail
  go_loop [3] (fun i => ∃ k : Nat, k ≤ s.size ∧ i = .int .i64 k ∧ Hid ((s.data.toList.take k).all signOK = true)) (fun i => s.size - (intOf i).toNat)
  case atStart => exact ⟨0, Nat.zero_le _, rfl, by simp [Hid]⟩
  case round =>
    obtain ⟨k, hk, rfl, hp⟩ := hrel
    by_cases hlt : k < s.size
    · have good : signOK s[k] = true → Hid ((s.data.toList.take (k + 1)).all signOK = true) := fun h => all_step hlt hp.out h
      have badc : signOK s[k] = false → tokenB s.data.toList = false := fun h => by unfold tokenB; rw [all_fail hlt h]; rfl
      have HG := Lib.hid good
      have HB := Lib.hid badc
      clear good badc
      cases hsg : signOK s[k]
      · have hv := HB.out hsg
        have HV := Lib.hid hv
        have HS := Lib.hid hsg
        clear hv hsg
        go_wp2_with fail
        refine (sign_any _ _).mono ?_
        rintro e w' ⟨rfl, rfl⟩
        rw [HS.out]
        go_wp2_with fail
        go_ret
        exact ⟨ret_bool (by rw [HV.out]), rfl⟩
      · have hv := HG.out hsg
        have HV := Lib.hid hv
        have HS := Lib.hid hsg
        clear hv hsg
        go_wp2_with fail
        refine (sign_any _ _).mono ?_
        rintro e w' ⟨rfl, rfl⟩
        rw [HS.out]
        go_wp2_with fail
        go_round
        case rel => exact ⟨k + 1, by omega, by go_num, HV.out⟩
        case measure => simp [intOf]; omega
    · obtain rfl : k = s.size := by omega
      have h : s.data.toList.all signOK = true := by
        have h := hp.out
        rwa [List.take_of_length_le (by simp)] at h
      have hf : tokenB s.data.toList = (!s.data.toList.isEmpty) := by unfold tokenB; rw [h]; rfl
      have he : s.data.toList.isEmpty = decide (s.size = 0) := by
        rw [Bool.eq_iff_iff, List.isEmpty_iff, decide_eq_true_iff, ← List.length_eq_zero_iff]
        exact Iff.rfl
      have HF := Lib.hid hf
      have HE := Lib.hid he
      clear hf h he
      go_wp2_with fail
      go_ret
      refine ⟨ret_bool ?_, rfl⟩
      rw [HF.out, HE.out, Bool.eq_iff_iff, Bool.not_eq_true', decide_eq_true_iff, decide_eq_false_iff_not]
      omega
end Go.Proofs.YtonlfplloenfcaaGreatDoor
namespace Go.Proofs.YtonlfplloenfcaaGreatDoor
open Go.RowKit

set_option maxRecDepth 100000 in
theorem bcontrol_any (s : ByteArray) (w : World) (hs : s.size ≤ 140737488355328) :
   Calls Tryz.prog 176 #[.string s] w fun e w' => e = .returned (.bool (!plainB s.data.toList)) ∧ ∃ q, w' = w.drewN q := by
  go_enter Tryz.func176, Tryz.ntmps176
  go_wp2_with fail
  go_loopw [6] (fun i wr => ∃ k : Nat, k ≤ s.size ∧ i = .int .i64 k ∧ Hid (plainB (s.data.toList.take k) = true) ∧ ∃ q, wr = w.drewN q) (fun i _ => s.size - (intOf i).toNat)
  case atStart => exact ⟨0, Nat.zero_le _, rfl, by simp [Hid, plainB], 0, rfl⟩
  case round =>
    obtain ⟨k, hk, rfl, hp, q, rfl⟩ := hrel
    by_cases hlt : k < s.size
    · have hx := ctrl_iff s[k]
      have good : ctrlOK s[k] = true → Hid (plainB (s.data.toList.take (k + 1)) = true) := fun h => all_step hlt hp.out h
      have badc : ctrlOK s[k] = false → plainB s.data.toList = false := fun h => all_fail hlt h
      have HX := Lib.hid hx
      have HG := Lib.hid good
      have HB := Lib.hid badc
      clear hx good badc
      by_cases h3 : (s[k].toNat : Int) = 127
      · have b0 : ¬ (s[k].toNat : Int) < 32 := by omega
        have b1 : decide ((s[k].toNat : Int) < 32) = false := decide_eq_false b0
        have b2 : ((s[k].toNat : Int) == 127) = true := by simp [h3]
        have hv := HB.out (by rw [HX.out, b2]; simp)
        have HV := Lib.hid hv
        clear hv h3
        go_wp2
        go_ret
        exact ⟨by rw [HV.out]; rfl, _, rfl⟩
      · have b2 : ((s[k].toNat : Int) == 127) = false := by simp [h3]
        by_cases h1 : (s[k].toNat : Int) < 32
        · have b4 : decide ((s[k].toNat : Int) < 32) = true := decide_eq_true h1
          by_cases h2 : (s[k].toNat : Int) = 9
          · have b1 : ((s[k].toNat : Int) != 9) = false := by simp [h2]
            have hv := HG.out (by rw [HX.out, b1, b2]; simp)
            have HV := Lib.hid hv
            clear hv h2 h3
            go_wp2
            go_roundw
            case rel => exact ⟨k + 1, by omega, by go_num, HV.out, _, rfl⟩
            case measure => simp [intOf]; omega
          · have b1 : ((s[k].toNat : Int) != 9) = true := by simp [h2]
            have hv := HB.out (by rw [HX.out, b1, b2, b4]; simp)
            have HV := Lib.hid hv
            clear hv h2 h3
            go_wp2
            go_ret
            exact ⟨by rw [HV.out]; rfl, _, rfl⟩
        · have b1 : decide ((s[k].toNat : Int) < 32) = false := decide_eq_false h1
          have hv := HG.out (by rw [HX.out, b1, b2]; simp)
          have HV := Lib.hid hv
          clear hv h3
          go_wp2
          go_roundw
          case rel => exact ⟨k + 1, by omega, by go_num, HV.out, _, rfl⟩
          case measure => simp [intOf]; omega
    · obtain rfl : k = s.size := by omega
      have hf : plainB s.data.toList = true := by
        have h := hp.out
        rwa [List.take_of_length_le (by simp)] at h
      have HF := Lib.hid hf
      clear hf
      go_wp2
      go_ret
      exact ⟨by rw [HF.out]; rfl, _, rfl⟩
end Go.Proofs.YtonlfplloenfcaaGreatDoor
