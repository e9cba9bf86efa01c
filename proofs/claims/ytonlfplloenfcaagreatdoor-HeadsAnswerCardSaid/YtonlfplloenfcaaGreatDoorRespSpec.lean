/-
  A response's first line, as the program asks it, in plain words: no program stands here.
-/
import Derived.Test.YtonlfplloenfcaaGreatDoorBackSpecEtc
import Derived.Lib.AtoiTie
namespace Go.Proofs.YtonlfplloenfcaaGreatDoor

theorem trimS_nil (l cs : List UInt8) : (Lib.trimS l cs = []) ↔ ∀ x ∈ l, cs.contains x = true := by
  unfold Lib.trimS Lib.trimLeftS Lib.trimRightS
  rw [dropWhile_nil]
  constructor
  · intro h x hx
    by_cases h2 : l.reverse.dropWhile (fun x => cs.contains x) = []
    · exact (dropWhile_nil _ _).1 h2 x (List.mem_reverse.2 hx)
    · cases h3 : l.reverse.dropWhile (fun x => cs.contains x) with
      | nil => exact absurd h3 h2
      | cons y r =>
        have h4 : cs.contains y = true := h y (by rw [h3]; simp)
        have h5 : ¬ cs.contains y = true := by
          have := List.head?_dropWhile_not (fun x => cs.contains x) l.reverse
          rw [h3] at this
          simpa using this
        exact absurd h4 h5
  · intro h x hx
    have := (List.dropWhile_sublist _).mem (List.mem_reverse.1 hx)
    exact h x (List.mem_reverse.1 this)
def digsB : List UInt8 := [48, 49, 50, 51, 52, 53, 54, 55, 56, 57]
theorem digs_eq (x : UInt8) : digsB.contains x = digB x := by
  have h := all_bytes (p := fun x => digsB.contains x == digB x) (by decide +kernel) x
  simpa using h
theorem one_eq (x : UInt8) : ([48, 49] : List UInt8).contains x = (x == 48 || x == 49) := by
  have h := all_bytes (p := fun x => ([48, 49] : List UInt8).contains x == (x == 48 || x == 49)) (by decide +kernel) x
  simpa using h
theorem trim_one (x : UInt8) : (Lib.trimS [x] [48, 49]).isEmpty = (x == 48 || x == 49) := by
  rw [← one_eq, Bool.eq_iff_iff, List.isEmpty_iff, trimS_nil]
  simp
theorem trim_digs (l : List UInt8) : (Lib.trimS l digsB).isEmpty = l.all digB := by
  rw [Bool.eq_iff_iff, List.isEmpty_iff, trimS_nil, List.all_eq_true]
  exact ⟨fun h x hx => by rw [← digs_eq]; exact h x hx, fun h x hx => by rw [digs_eq]; exact h x hx⟩
theorem atoi_fin : ∀ a b c : Fin 10, Lib.atoi [UInt8.ofNat (48 + a.val), UInt8.ofNat (48 + b.val), UInt8.ofNat (48 + c.val)] = some ((100 * a.val + 10 * b.val + c.val : Nat) : Int) := by decide +kernel
theorem dig_form (x : UInt8) (h : digB x = true) : ∃ a : Fin 10, x = UInt8.ofNat (48 + a.val) ∧ x.toNat = 48 + a.val := by
  unfold digB at h
  simp only [Bool.and_eq_true, decide_eq_true_eq, UInt8.le_iff_toNat_le] at h
  have x48 : (48 : UInt8).toNat = 48 := rfl
  have x57 : (57 : UInt8).toNat = 57 := rfl
  refine ⟨⟨x.toNat - 48, by omega⟩, ?_, by show x.toNat = 48 + (x.toNat - 48); omega⟩
  show x = UInt8.ofNat (48 + (x.toNat - 48))
  rw [show 48 + (x.toNat - 48) = x.toNat by omega]
  simp
theorem atoi_three {a b c : UInt8} (ha : digB a = true) (hb : digB b = true) (hc : digB c = true) :
    Lib.atoi [a, b, c] = some ((100 * (a.toNat - 48) + 10 * (b.toNat - 48) + (c.toNat - 48) : Nat) : Int) := by
  obtain ⟨a', ea, na⟩ := dig_form a ha
  obtain ⟨b', eb, nb⟩ := dig_form b hb
  obtain ⟨c', ec, nc⟩ := dig_form c hc
  rw [na, nb, nc, ea, eb, ec, atoi_fin]
  congr 1
  omega
theorem atoi_all {l : List UInt8} {v : Int} (hl : l.length ≤ 18) (h : Lib.atoi l = some v) : Lib.atoiAll l = .ok v := by
  rw [Lib.atoiAll_short l hl, h]
  rfl
/-- The tests that the program makes, of a line that is long enough. -/
theorem status_asks {l : List UInt8} (h : 12 ≤ l.length) : statusOK l = (Lib.hasPrefix l httpB && ((l.getD 7 0 == 48 || l.getD 7 0 == 49) && (l.getD 8 0 == 32 && (plainB l &&
    ((digB (l.getD 9 0) && (digB (l.getD 10 0) && digB (l.getD 11 0))) && (l.getD 9 0 != 48 && (decide (l.length = 12) || l.getD 12 0 == 32))))))) := by
  rw [status_long h, prefix_take]
  have e : httpB.length = 7 := rfl
  rw [e]
  generalize (l.take 7 == httpB) = a
  generalize (l.getD 7 0 == 48 || l.getD 7 0 == 49) = b
  generalize (l.getD 8 0 == 32) = c
  generalize (digB (l.getD 9 0) && (digB (l.getD 10 0) && digB (l.getD 11 0))) = d
  generalize (l.getD 9 0 != 48) = f
  generalize (decide (l.length = 12) || l.getD 12 0 == 32) = g
  generalize plainB l = p
  cases a <;> cases b <;> cases c <;> cases d <;> cases f <;> cases g <;> cases p <;> rfl
theorem first_digit {a b c : UInt8} (ha : digB a = true) (hb : digB b = true) (hc : digB c = true) : (a != 48) = decide (100 ≤ 100 * (a.toNat - 48) + 10 * (b.toNat - 48) + (c.toNat - 48)) := by
  obtain ⟨a', ea, na⟩ := dig_form a ha
  obtain ⟨b', eb, nb⟩ := dig_form b hb
  obtain ⟨c', ec, nc⟩ := dig_form c hc
  have hb' := b'.isLt
  have hc' := c'.isLt
  rw [Bool.eq_iff_iff, bne_iff_ne, decide_eq_true_iff, na, nb, nc]
  constructor
  · intro h
    have : a'.val ≠ 0 := fun h0 => h (by rw [ea, h0]; rfl)
    omega
  · intro h e
    rw [e] at na
    have : (48 : UInt8).toNat = 48 := rfl
    omega
end Go.Proofs.YtonlfplloenfcaaGreatDoor
