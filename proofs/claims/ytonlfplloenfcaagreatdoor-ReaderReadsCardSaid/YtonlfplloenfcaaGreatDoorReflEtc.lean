/-
  footmanref01.Lower, Same.
  Slices of fields: their cells; TwinFields, LeftFields, great.
-/
import Derived.Test.YtonlfplloenfcaaGreatDoorResultsEtc
import Derived.WalkSmall
namespace Go.Proofs.YtonlfplloenfcaaGreatDoor
open Go.RowKit

theorem lowB_add (c : UInt8) (h1 : (65 : Int) ≤ (c.toNat : Int)) (h2 : (c.toNat : Int) ≤ 90) : (c.toNat : Int) + 32 = ((lowB c).toNat : Int) := by
  rw [lowB, if_pos (by rw [UInt8.le_iff_toNat_le, UInt8.le_iff_toNat_le]; exact ⟨by simp; omega, by simp; omega⟩), UInt8.toNat_add]
  simp; omega
set_option maxRecDepth 100000 in
theorem rLower_any (s : ByteArray) (w : World) (hs : s.size ≤ 1048576) :
   Calls Tryz.prog 196 #[.string s] w fun e w' => e = .returned (.string ⟨(s.data.toList.map lowB).toArray⟩) ∧ Below w.heap.size w w' := by
  have hcv := fun W => Lib.run_convert_string_bytes (P := Tryz.prog) W 9 23 5 s Tryz.underlying9 Tryz.underlying23 Tryz.underlying5
  go_enter Tryz.func196, Tryz.ntmps196
  go_wp2_with fail
  have hw0 : Below w.heap.size w (Lib.bytesWorld w 5 s) := bytesWorld_below _ _ _
  have hc0 : ∀ j, j < s.size → (Lib.bytesWorld w 5 s).cell? ⟨w.heap.size, j, none⟩ = some (.int .u8 ((s.data.toList.getD j 0).toNat : Int)) := fun j hj => Lib.bytesWorld_cell w _ s j hj
  have hf0 : ∀ j, j < s.size → (Lib.bytesWorld w 5 s).frozen? ⟨w.heap.size, j, none⟩ = false := fun j hj => bytesWorld_frozen w _ s j hj
  generalize Lib.bytesWorld w 5 s = W0 at *
  generalize hcap : grownCap w s.size 0 5 = cap at *
  clear hcv hcap
  go_loopw [4] (fun i wr => ∃ k : Nat, k ≤ s.size ∧ i = .int .i64 k ∧ Below w.heap.size w wr ∧ ByteAt wr w.heap.size s.size (fun j => if j < k then lowB (s.data.toList.getD j 0) else s.data.toList.getD j 0))
    (fun i _ => s.size - (intOf i).toNat)
  case atStart => exact ⟨0, Nat.zero_le _, rfl, hw0, fun j hj => ⟨by simpa using hc0 j hj, hf0 j hj⟩⟩
  case round =>
    obtain ⟨k, hk, rfl, hb, hrow⟩ := hrel
    by_cases hlt : k < s.size
    · have hc := (hrow k hlt).1
      have hf := (hrow k hlt).2
      simp only [Nat.lt_irrefl, if_false] at hc
      have HR := Lib.hid hrow
      clear hrow hc0 hf0
      generalize hx : s.data.toList.getD k 0 = x at *
      have HX := Lib.hid hx
      clear hx
      have hx1 := x.toNat_lt
      have key : ∀ u : UInt8, u = lowB x → ByteAt (wr.setCell ⟨w.heap.size, k, none⟩ (.int .u8 (u.toNat : Int))) w.heap.size s.size (fun j => if j < k + 1 then lowB (s.data.toList.getD j 0) else s.data.toList.getD j 0) := by
        rintro u rfl
        refine ((HR.out).set k (lowB x)).congr fun j hj => ?_
        rw [← HX.out]
        by_cases e : j = k
        · subst e; rw [if_pos rfl, if_pos (by omega)]
        · rw [if_neg e]
          by_cases e2 : j < k
          · rw [if_pos e2, if_pos (by omega)]
          · rw [if_neg e2, if_neg (by omega)]
      have key2 : lowB x = x → ByteAt wr w.heap.size s.size (fun j => if j < k + 1 then lowB (s.data.toList.getD j 0) else s.data.toList.getD j 0) := by
        intro hl
        refine (HR.out).congr fun j hj => ?_
        by_cases e : j = k
        · subst e; rw [if_neg (by omega), if_pos (by omega), HX.out, hl]
        · by_cases e2 : j < k
          · rw [if_pos e2, if_pos (by omega)]
          · rw [if_neg e2, if_neg (by omega)]
      have K1 := Lib.hid key
      have K2 := Lib.hid key2
      clear key key2
      by_cases hb1 : (65 : Int) ≤ (x.toNat : Int)
      · by_cases hb2 : (x.toNat : Int) ≤ 90
        · go_wp2_with fail
          go_roundw
          case rel => exact ⟨k + 1, by omega, by go_num, hb.setCell (Nat.le_refl _) _, by rw [lowB_add x hb1 hb2]; exact K1.out _ rfl⟩
          case measure => simp [intOf]; omega
        · go_wp2_with fail
          go_roundw
          case rel => exact ⟨k + 1, by omega, by go_num, hb, K2.out (lowB_miss x (.inr (by omega)))⟩
          case measure => simp [intOf]; omega
      · go_wp2_with fail
        go_roundw
        case rel => exact ⟨k + 1, by omega, by go_num, hb, K2.out (lowB_miss x (.inl (by omega)))⟩
        case measure => simp [intOf]; omega
    · obtain rfl : k = s.size := by omega
      have hcv := run_bytes_back (P := Tryz.prog) (src := 23) (dst := 9) (cap := cap) Tryz.underlying23 Tryz.underlying5 Tryz.underlying9 hrow (s.data.toList.map lowB) (by simp) (fun j hj => by
        have : j < s.data.toList.length := by simpa using hj
        have h2 : j < s.size := by simpa using this
        simp [h2, List.getD])
      clear hrow hc0 hf0
      go_wp2_with fail
      go_ret
      exact ⟨rfl, hb⟩
theorem rSame_any (s t : ByteArray) (w : World) (hs : s.size ≤ 1048576) (ht : t.size ≤ 1048576) :
   Calls Tryz.prog 124 #[.string s, .string t] w fun e w' => e = .returned (.bool (sameB s.data.toList t.data.toList)) ∧ Below w.heap.size w w' := by
  go_enter Tryz.func124, Tryz.ntmps124
  go_wp2_with (go_at_call 196; refine (rLower_any _ _ (by omega)).mono ?_; rintro e w' ⟨rfl, hb⟩)
  go_ret
  rename_i w1 hb1
  exact ⟨rfl, hb1.trans (hb.mono hb1.size)⟩
end Go.Proofs.YtonlfplloenfcaaGreatDoor
namespace Go.Proofs.YtonlfplloenfcaaGreatDoor
open Go.RowKit

abbrev Fd := ByteArray × ByteArray
/-- A slice of fields that reads as a list, nil let in. -/
def FRead (w : World) (B : Nat) (A : Option Addr) (n : Nat) (fs : List Fd) : Prop :=
  fs.length = n ∧ (0 < n → ∃ b off, A = some ⟨b, off, none⟩ ∧ b < B ∧ ∀ i f, fs[i]? = some f → w.cell? ⟨b, off + i * 2, none⟩ = some (.string f.1) ∧ w.cell? ⟨b, off + i * 2 + 1, none⟩ = some (.string f.2))
def fsum (fs : List Fd) : Nat := (fs.map fun f => 2 + f.1.size + f.2.size).sum
theorem fsum_succ (fs : List Fd) (k : Nat) (f : Fd) (h : fs[k]? = some f) : fsum (fs.take (k + 1)) = fsum (fs.take k) + (2 + f.1.size + f.2.size) := by
  unfold fsum
  rw [List.take_add_one, h]
  simp
theorem fsum_le (fs : List Fd) (k : Nat) : fsum (fs.take k) ≤ fsum fs := by
  unfold fsum
  conv => rhs; rw [← List.take_append_drop k fs]
  rw [List.map_append, List.sum_append]
  omega
theorem infoF : (Tryz.prog.info? 63).map (fun i => (i.zero, i.size, i.bytes)) = some (some (.agg #[.string ⟨#[]⟩, .string ⟨#[]⟩]), 2, 32) := by kernel_rfl
theorem infoS : (Tryz.prog.info? 9).map (fun i => (i.zero, i.size, i.bytes)) = some (some (.string ⟨#[]⟩), 1, 16) := by kernel_rfl
def fcells (fs : List Fd) : List Value := fs.flatMap fun f => [.string f.1, .string f.2]
end Go.Proofs.YtonlfplloenfcaaGreatDoor
