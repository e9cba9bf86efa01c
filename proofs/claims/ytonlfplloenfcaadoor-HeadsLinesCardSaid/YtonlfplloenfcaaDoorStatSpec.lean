/-
  A response's first line, test by test, in plain words: no program stands here.
-/
import Derived.Test.YtonlfplloenfcaaDoorPutSpecEtc
import Derived.Lib.Bytes2
namespace Go.Proofs.YtonlfplloenfcaaDoor

theorem byte_eq (x : UInt8) (k : Fin 256) : (((x.toNat : Int)) == ((k.val : Nat) : Int)) = (x == UInt8.ofNat k.val) := by
  rw [Bool.eq_iff_iff, beq_iff_eq, beq_iff_eq]
  constructor
  · intro h
    have h2 : x.toNat = k.val := by omega
    rw [← h2]; simp
  · intro h
    rw [h, UInt8.toNat_ofNat']
    have := k.isLt
    omega
theorem byte_48 (x : UInt8) : (x == 48) = ((x.toNat : Int) == 48) := (byte_eq x ⟨48, by decide⟩).symm
theorem byte_49 (x : UInt8) : (x == 49) = ((x.toNat : Int) == 49) := (byte_eq x ⟨49, by decide⟩).symm
theorem byte_32 (x : UInt8) : (x == 32) = ((x.toNat : Int) == 32) := (byte_eq x ⟨32, by decide⟩).symm
theorem getD_byte (s : ByteArray) (k : Nat) (h : k < s.size) : s.data.toList.getD k 0 = s[k] := by
  unfold List.getD
  rw [List.getElem?_eq_getElem (by simpa using h)]
  rfl
theorem prefix_take (l p : List UInt8) : Lib.hasPrefix l p = (l.take p.length == p) := by
  unfold Lib.hasPrefix
  rw [Bool.eq_iff_iff, List.isPrefixOf_iff_prefix, beq_iff_eq]
  exact ⟨fun h => (List.prefix_iff_eq_take.1 h).symm, fun h => List.prefix_iff_eq_take.2 h.symm⟩
theorem status_short {l : List UInt8} (h : l.length < 12) : statusOK l = false := by
  unfold statusOK
  rw [decide_eq_false (show ¬ 12 ≤ l.length by omega)]
  simp
theorem status_long {l : List UInt8} (h : 12 ≤ l.length) : statusOK l = ((l.take 7 == httpB) && ((l.getD 7 0 == 48 || l.getD 7 0 == 49) && (l.getD 8 0 == 32 && (l.getD 9 0 != 48 &&
    ((digB (l.getD 9 0) && (digB (l.getD 10 0) && digB (l.getD 11 0))) && ((decide (l.length = 12) || l.getD 12 0 == 32) && plainB l)))))) := by
  unfold statusOK
  rw [prefix_take, decide_eq_true h]
  have e : httpB.length = 7 := rfl
  rw [e]
  generalize (l.take 7 == httpB) = a
  generalize (l.getD 7 0 == 48 || l.getD 7 0 == 49) = b
  generalize (l.getD 8 0 == 32) = c
  generalize digB (l.getD 9 0) = d1
  generalize digB (l.getD 10 0) = d2
  generalize digB (l.getD 11 0) = d3
  generalize (l.getD 9 0 != 48) = f
  generalize ((decide (l.length = 12) || l.getD 12 0 == 32) && plainB l) = g
  cases a <;> cases b <;> cases c <;> cases d1 <;> cases d2 <;> cases d3 <;> cases f <;> cases g <;> rfl
theorem statusV_no {l : List UInt8} (h : statusOK l = false) : statusV l = 0 := by
  unfold statusV
  rw [if_neg (by rw [h]; decide)]
/-- The number of the digits from a place on. -/
def numF (l : List UInt8) (j : Nat) : Nat := ((l.drop 9).take j).foldl (fun n x => 10 * n + (x.toNat - 48)) 0
theorem numF_succ {l : List UInt8} {j : Nat} {x : UInt8} (h : l[9 + j]? = some x) : numF l (j + 1) = 10 * numF l j + (x.toNat - 48) := by
  unfold numF
  rw [List.take_add_one, List.getElem?_drop, h, List.foldl_append]
  rfl
theorem numF_le {l : List UInt8} : ∀ (j : Nat), (∀ k, k < j → ∃ x, l[9 + k]? = some x ∧ digB x = true) → numF l j < 10 ^ j
  | 0, _ => by simp [numF]
  | j + 1, h => by
    obtain ⟨x, hx, hd⟩ := h j (by omega)
    have ih := numF_le j (fun k hk => h k (by omega))
    rw [numF_succ hx, Nat.pow_succ]
    unfold digB at hd
    simp only [Bool.and_eq_true, decide_eq_true_eq, UInt8.le_iff_toNat_le] at hd
    have h57 : (57 : UInt8).toNat = 57 := rfl
    omega
theorem statusV_yes {l : List UInt8} (h : statusOK l = true) (hl : 12 ≤ l.length) : statusV l = numF l 3 := by
  unfold statusV
  rw [if_pos h]
  have g : ∀ k, k < l.length → l[k]? = some (l.getD k 0) := fun k hk => by
    unfold List.getD
    rw [List.getElem?_eq_getElem hk]
    rfl
  have e0 : numF l 0 = 0 := by simp [numF]
  have e1 := numF_succ (l := l) (j := 0) (g 9 (by omega))
  have e2 := numF_succ (l := l) (j := 1) (g 10 (by omega))
  have e3 := numF_succ (l := l) (j := 2) (g 11 (by omega))
  rw [e0] at e1
  rw [e3, e2, e1]
  omega
end Go.Proofs.YtonlfplloenfcaaDoor

