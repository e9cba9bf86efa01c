/-
  Heads, what their putting answers, in plain words: no program stands here.
-/
import Derived.Test.YtonlfplloenfcaaGreatDoorSpec
namespace Go.Proofs.YtonlfplloenfcaaGreatDoor
/-- May a field not be put? -/
def oddF (f : ByteArray × ByteArray) : Bool := !tokenB f.1.data.toList || (!plainB f.2.data.toList || trimmed f.2.data.toList != f.2.data.toList)
def fieldT (f : ByteArray × ByteArray) : List UInt8 := f.1.data.toList ++ [58, 32] ++ f.2.data.toList ++ [13, 10]
def fieldsT (fs : List (ByteArray × ByteArray)) : List UInt8 := fs.flatMap fieldT
def askT (m t : ByteArray) : List UInt8 := m.data.toList ++ [32] ++ t.data.toList ++ [32, 72, 84, 84, 80, 47, 49, 46, 49, 13, 10]
/-- A request's head. -/
def headT (m t : ByteArray) (fs : List (ByteArray × ByteArray)) : List UInt8 := askT m t ++ fieldsT fs ++ [13, 10]
def headE (m t : ByteArray) (fs : List (ByteArray × ByteArray)) : Int :=
  if !tokenB m.data.toList || !targB t.data.toList || fs.any oddF then 1 else if 256 < fs.length then 3 else if 65536 < (headT m t fs).length then 3 else 0
def headO (m t : ByteArray) (fs : List (ByteArray × ByteArray)) : List UInt8 := if headE m t fs = 0 then headT m t fs else []
theorem fieldsT_succ (fs : List (ByteArray × ByteArray)) (k : Nat) (f : ByteArray × ByteArray) (h : fs[k]? = some f) : fieldsT (fs.take (k + 1)) = fieldsT (fs.take k) ++ fieldT f := by
  unfold fieldsT
  rw [List.take_add_one, h]
  simp
theorem fieldsT_le (fs : List (ByteArray × ByteArray)) (k : Nat) : (fieldsT (fs.take k)).length ≤ (fieldsT fs).length := by
  unfold fieldsT
  conv => rhs; rw [← List.take_append_drop k fs]
  rw [List.flatMap_append, List.length_append]
  omega
theorem fieldT_len (f : ByteArray × ByteArray) : (fieldT f).length = f.1.size + f.2.size + 4 := by
  have e1 : f.1.size = f.1.data.toList.length := rfl
  have e2 : f.2.size = f.2.data.toList.length := rfl
  unfold fieldT
  simp only [List.length_append, List.length_cons, List.length_nil]
  omega
theorem askT_len (m t : ByteArray) : (askT m t).length = m.size + t.size + 12 := by
  have e1 : m.size = m.data.toList.length := rfl
  have e2 : t.size = t.data.toList.length := rfl
  unfold askT
  simp only [List.length_append, List.length_cons, List.length_nil]
  omega
theorem headT_len (m t : ByteArray) (fs : List (ByteArray × ByteArray)) : (headT m t fs).length = (askT m t).length + (fieldsT fs).length + 2 := by
  unfold headT
  simp only [List.length_append, List.length_cons, List.length_nil]
theorem headE_arg {m t : ByteArray} {fs : List (ByteArray × ByteArray)} (h : (!tokenB m.data.toList || !targB t.data.toList || fs.any oddF) = true) : headE m t fs = 1 ∧ headO m t fs = [] := by
  unfold headO headE
  rw [if_pos h]
  exact ⟨rfl, rfl⟩
theorem headE_many {m t : ByteArray} {fs : List (ByteArray × ByteArray)} (h : (!tokenB m.data.toList || !targB t.data.toList || fs.any oddF) = false) (hn : 256 < fs.length) : headE m t fs = 3 ∧ headO m t fs = [] := by
  unfold headO headE
  rw [if_neg (by simp [h]), if_pos hn]
  exact ⟨rfl, rfl⟩
theorem headE_long {m t : ByteArray} {fs : List (ByteArray × ByteArray)} (h : (!tokenB m.data.toList || !targB t.data.toList || fs.any oddF) = false) (hn : fs.length ≤ 256) (hl : 65536 < (headT m t fs).length) : headE m t fs = 3 ∧ headO m t fs = [] := by
  unfold headO headE
  rw [if_neg (by simp [h]), if_neg (by omega), if_pos hl]
  exact ⟨rfl, rfl⟩
theorem headE_ok {m t : ByteArray} {fs : List (ByteArray × ByteArray)} (h : (!tokenB m.data.toList || !targB t.data.toList || fs.any oddF) = false) (hn : fs.length ≤ 256) (hl : (headT m t fs).length ≤ 65536) : headE m t fs = 0 ∧ headO m t fs = headT m t fs := by
  unfold headO headE
  rw [if_neg (by simp [h]), if_neg (by omega), if_neg (by omega)]
  exact ⟨rfl, rfl⟩
theorem headE_cases (m t : ByteArray) (fs : List (ByteArray × ByteArray)) : headE m t fs = 0 ∨ headE m t fs = 1 ∨ headE m t fs = 3 := by
  unfold headE
  split
  · exact .inr (.inl rfl)
  · split
    · exact .inr (.inr rfl)
    · split
      · exact .inr (.inr rfl)
      · exact .inl rfl
end Go.Proofs.YtonlfplloenfcaaGreatDoor
