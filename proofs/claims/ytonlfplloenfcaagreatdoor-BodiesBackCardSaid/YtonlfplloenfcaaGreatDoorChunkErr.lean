/-
  How bytes by chunks are refused, in plain words: no program stands here.
-/
import Derived.Test.YtonlfplloenfcaaGreatDoorChunkStEtc
namespace Go.Proofs.YtonlfplloenfcaaGreatDoor

theorem trail_err : ∀ (f : Nat) (r : List UInt8) (z : Int), trailG f r = .err z → z = 3 ∨ z = 9
  | 0, _, _, h => by cases h
  | f + 1, r, z, h => by
    unfold trailG at h
    split at h
    · injection h with h; exact .inl h.symm
    · cases h
    · split at h
      · cases h
      · split at h
        · exact trail_err f _ z h
        · injection h with h; exact .inr h.symm
theorem chunkG_err : ∀ (f all : Nat) (r : List UInt8) (z : Int), chunkG f all r = .err z → z = 3 ∨ z = 9
  | 0, _, _, _, h => by cases h
  | f + 1, all, r, z, h => by
    unfold chunkG at h
    split at h
    · injection h with h; exact .inl h.symm
    · cases h
    · split at h
      · split at h
        · revert h
          cases ht : trailG f _ with
          | err e => intro h; injection h with h; rw [h] at ht; exact trail_err f _ z ht
          | more => intro h; cases h
          | done q => intro h; cases h
        · split at h
          · injection h with h; exact .inl h.symm
          · split at h
            · injection h with h; exact .inr h.symm
            · cases h
            · revert h
              cases hc : chunkG f _ _ with
              | err e => intro h; injection h with h; rw [h] at hc; exact chunkG_err f _ _ z hc
              | more b => intro h; cases h
              | done b q => intro h; cases h
      · injection h with h; exact .inr h.symm
theorem chunkA_err {r : List UInt8} {z : Int} (h : chunkA r = .err z) : z = 3 ∨ z = 9 := chunkG_err _ _ _ _ h
theorem chunkB_len : ∀ (f all : Nat) (r : List UInt8), (ansB (chunkG f all r)).length ≤ r.length
  | 0, _, _ => by simp [chunkG, ansB]
  | f + 1, all, r => by
    have hpre : ∀ (p : List UInt8) (a : ChunkA), (ansB (a.pre p)).length ≤ p.length + (ansB a).length := fun p a => by
      cases a <;> simp [ChunkA.pre, ansB]
    unfold chunkG
    split
    · simp [ansB]
    · simp [ansB]
    · rename_i m hm
      have h1 := (line_spec hm).1
      split
      · split
        · have : ∀ a : TrailA, ansB a.chunk = [] := fun a => by cases a <;> rfl
          rw [this]
          simp
        · split
          · simp [ansB]
          · split
            · simp [ansB]
            · simp only [ansB, List.length_take, List.length_drop]
              omega
            · rename_i q hq
              have h2 := end_len hq
              have h3 := hpre ((r.drop (m + 2)).take (sizeN (r.take m))) (chunkG f (all + sizeN (r.take m)) q)
              have h4 := chunkB_len f (all + sizeN (r.take m)) q
              have h5 := congrArg List.length h2
              simp only [List.length_drop, List.length_cons, List.length_take] at h3 h5
              omega
      · simp [ansB]
theorem chunkA_len (l : List UInt8) : (ansB (chunkA l)).length ≤ l.length := chunkB_len _ _ _

end Go.Proofs.YtonlfplloenfcaaGreatDoor
