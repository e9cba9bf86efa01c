/-
  Tokens, targets, control bytes, trimming, in plain words: no program stands here.
-/
import Derived.Lib.SlTrimSet
namespace Go.Proofs.YtonlfplloenfcaaGreatDoor
def signB : List UInt8 := [33, 35, 36, 37, 38, 39, 42, 43, 45, 46, 94, 95, 96, 124, 126, 48, 49, 50, 51, 52, 53, 54, 55, 56, 57, 65, 66, 67, 68, 69, 70, 71, 72, 73, 74, 75, 76, 77, 78, 79, 80, 81, 82, 83, 84, 85, 86, 87, 88, 89, 90, 97, 98, 99, 100, 101, 102, 103, 104, 105, 106, 107, 108, 109, 110, 111, 112, 113, 114, 115, 116, 117, 118, 119, 120, 121, 122]
/-- A fact on every byte, from the kernel's look at all. -/
theorem all_bytes {p : UInt8 → Bool} (h : (List.range 256).all (fun n => p (UInt8.ofNat n)) = true) (x : UInt8) : p x = true := by
  have h1 := List.all_eq_true.1 h x.toNat (List.mem_range.2 x.toNat_lt)
  simpa using h1
def digB (x : UInt8) : Bool := 48 ≤ x && x ≤ 57
def signOK (x : UInt8) : Bool := signB.contains x
theorem signOK_eq (x : UInt8) : signOK x = (digB x || (97 ≤ x && x ≤ 122) || (65 ≤ x && x ≤ 90) || [33, 35, 36, 37, 38, 39, 42, 43, 45, 46, 94, 95, 96, 124, 126].contains x) := by
  have h := all_bytes (p := fun x => signOK x == (digB x || (97 ≤ x && x ≤ 122) || (65 ≤ x && x ≤ 90) || [33, 35, 36, 37, 38, 39, 42, 43, 45, 46, 94, 95, 96, 124, 126].contains x)) (by decide +kernel) x
  simpa using h
/-- May a text be a token? -/
def tokenB (l : List UInt8) : Bool := l.all signOK && !l.isEmpty
/-- Has a text a control byte? -/
def ctrlOK (x : UInt8) : Bool := !(x < 32 && x != 9 || x == 127)
def plainB (l : List UInt8) : Bool := l.all ctrlOK
/-- May a text be a target? -/
def targOK (x : UInt8) : Bool := 33 ≤ x && x ≤ 126
def targB (l : List UInt8) : Bool := l.all targOK && !l.isEmpty
def blankB (x : UInt8) : Bool := x == 32 || x == 9
def trimmed (l : List UInt8) : List UInt8 := Lib.trimS l [32, 9]
theorem blank_eq : (fun x : UInt8 => [32, 9].contains x) = blankB := by
  funext x
  have h := all_bytes (p := fun x => [32, 9].contains x == blankB x) (by decide +kernel) x
  simpa using h

section
variable {α : Type} (p : α → Bool)
theorem dropWhile_nil : ∀ l : List α, l.dropWhile p = [] ↔ ∀ x ∈ l, p x = true
  | [] => by simp
  | x :: r => by
    cases hx : p x
    · simp [List.dropWhile, hx]
    · simp [List.dropWhile, hx, dropWhile_nil r]
/-- The two ends may be cut in either order. -/
theorem dropWhile_ends (l : List α) : (l.reverse.dropWhile p).reverse.dropWhile p = ((l.dropWhile p).reverse.dropWhile p).reverse := by
  by_cases h : l.all p
  · have h1 : l.dropWhile p = [] := by
      rw [dropWhile_nil]; exact List.all_eq_true.1 h
    have h2 : l.reverse.dropWhile p = [] := by
      rw [dropWhile_nil]; intro x hx; exact List.all_eq_true.1 h x (List.mem_reverse.1 hx)
    simp [h1, h2]
  · induction l with
    | nil => simp at h
    | cons x r ih =>
      cases hx : p x
      · have e1 : (x :: r).dropWhile p = x :: r := by simp [List.dropWhile, hx]
        rw [e1]
        have e2 : ((x :: r).reverse.dropWhile p).reverse = x :: (r.reverse.dropWhile p).reverse := by
          rw [List.reverse_cons, List.dropWhile_append]
          split
          · rename_i h3
            have : r.reverse.dropWhile p = [] := by simpa using h3
            simp [this, List.dropWhile, hx]
          · simp
        rw [e2]
        simp [List.dropWhile, hx]
      · have hr : ¬ r.all p = true := by
          intro h2
          apply h
          simp [hx]
          simpa using h2
        have e1 : (x :: r).dropWhile p = r.dropWhile p := by simp [List.dropWhile, hx]
        rw [e1, ← ih hr]
        have hne : ¬ (r.reverse.dropWhile p).isEmpty := by
          intro h2
          apply hr
          have h3 : r.reverse.dropWhile p = [] := by simpa using h2
          rw [dropWhile_nil] at h3
          exact List.all_eq_true.2 fun y hy => h3 y (List.mem_reverse.2 hy)
        have e2 : ((x :: r).reverse.dropWhile p).reverse = x :: (r.reverse.dropWhile p).reverse := by
          rw [List.reverse_cons, List.dropWhile_append, if_neg (by simpa using hne)]
          simp
        rw [e2]
        simp [List.dropWhile, hx]
end
/-- From the left, then from the right. -/
theorem trimmed_eq (l : List UInt8) : trimmed l = ((l.dropWhile blankB).reverse.dropWhile blankB).reverse := by
  unfold trimmed Lib.trimS Lib.trimLeftS Lib.trimRightS
  rw [show (fun x : UInt8 => ([32, 9] : List UInt8).contains x) = blankB from blank_eq]
  exact dropWhile_ends blankB l
end Go.Proofs.YtonlfplloenfcaaGreatDoor
