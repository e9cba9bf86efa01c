/-
  The walks of package ascii.
-/
import Derived.Test.YtonlfplloenfcaaGreatDoorProg
import Derived.Test.YtonlfplloenfcaaGreatDoorMem
import Derived.WalkLawsBesides
import Derived.WalkSpells
import Derived.IntWalk
import Derived.Lib.Hide
import Derived.Deep.QuietTactic
import Derived.BigQuiet
import Derived.Outline
import Derived.Lib.UnsafeStr
import Derived.Lib.ConvBytes
namespace Go.Proofs.YtonlfplloenfcaaGreatDoor
open Go.RowKit

def lowB (c : UInt8) : UInt8 := if 65 ≤ c ∧ c ≤ 90 then c + 32 else c
theorem or32 : ∀ n : Fin 256, 65 ≤ n.val → n.val ≤ 90 → bits .or .u8 (n.val : Int) 32 = (n.val : Int) + 32 := by decide +kernel
theorem lowB_hit (c : UInt8) (h1 : (65 : Int) ≤ (c.toNat : Int)) (h2 : (c.toNat : Int) ≤ 90) : bits .or .u8 (c.toNat : Int) 32 = ((lowB c).toNat : Int) := by
  have h := or32 ⟨c.toNat, c.toNat_lt⟩ (by show 65 ≤ c.toNat; omega) (by show c.toNat ≤ 90; omega)
  simp only at h
  rw [h, lowB, if_pos (by rw [UInt8.le_iff_toNat_le, UInt8.le_iff_toNat_le]; exact ⟨by simp; omega, by simp; omega⟩), UInt8.toNat_add]
  simp; omega
theorem lowB_miss (c : UInt8) (h : (c.toNat : Int) < 65 ∨ (90 : Int) < (c.toNat : Int)) : lowB c = c := by
  rw [lowB, if_neg]
  rw [UInt8.le_iff_toNat_le, UInt8.le_iff_toNat_le]
  simp; omega
theorem low1 (c : UInt8) (w : World) : Calls Tryz.prog 128 #[.int .u8 (c.toNat : Int)] w fun e w' => e = .returned (.int .u8 ((lowB c).toNat : Int)) ∧ w = w' := by
  go_enter Tryz.func128, Tryz.ntmps128
  go_wp2
  all_goals go_ret
  · exact ⟨ret_int (lowB_hit c (by assumption) (by assumption)), rfl⟩
  · exact ⟨ret_int (by rw [lowB_miss c (.inr (by assumption))]), rfl⟩
  · exact ⟨ret_int (by rw [lowB_miss c (.inl (by assumption))]), rfl⟩

theorem bytesWorld_below (w : World) (e : TypeId) (s : ByteArray) : Below w.heap.size w (Lib.bytesWorld w e s) :=
  ⟨by simp [Lib.bytesWorld, World.freeze, World.alloc, World.drew, -World.alloc_eq, -World.drew_eq], by simp [Lib.bytesWorld, World.freeze, World.alloc, World.drew, -World.alloc_eq, -World.drew_eq], by simp [Lib.bytesWorld, World.freeze, World.alloc, World.drew, -World.alloc_eq, -World.drew_eq], by rw [Lib.bytesWorld_size]; omega, fun k hk => Lib.bytesWorld_at_old w e s k hk⟩
theorem bytesWorld_frozen (w : World) (e : TypeId) (s : ByteArray) (j : Nat) (hj : j < s.size) : (Lib.bytesWorld w e s).frozen? ⟨w.heap.size, j, none⟩ = false := by
  simp [World.frozen?, Lib.bytesWorld_at_new, Lib.bytesCells]
  intro h
  have : s.data.size = s.size := rfl
  omega

/-- The bytes of a row, cell by cell. -/
def ByteAt (w : World) (B : Nat) (n : Nat) (f : Nat → UInt8) : Prop := ∀ j, j < n → w.cell? ⟨B, j, none⟩ = some (.int .u8 ((f j).toNat : Int)) ∧ w.frozen? ⟨B, j, none⟩ = false

theorem ByteAt.set {w : World} {B n : Nat} {f : Nat → UInt8} (h : ByteAt w B n f) (k : Nat) (u : UInt8) : ByteAt (w.setCell ⟨B, k, none⟩ (.int .u8 (u.toNat : Int))) B n (fun j => if j = k then u else f j) := by
  intro j hj
  obtain ⟨h1, h2⟩ := h j hj
  refine ⟨?_, by rw [World.frozen?_setCell]; exact h2⟩
  by_cases e : j = k
  · subst e
    show _ = some (Value.int .u8 ((if j = j then u else f j).toNat : Int))
    rw [if_pos rfl]
    exact World.cell?_setCell_same' _ _ _ (by rw [h1]; rfl)
  · show _ = some (Value.int .u8 ((if j = k then u else f j).toNat : Int))
    rw [if_neg e, World.cell?_setCell_other _ _ _ _ (fun he => e (by injection he with _ h2; exact h2.symm))]
    exact h1
theorem run_bytes_back {P : Program} {w : World} {src dst e : TypeId} {B n cap : Nat} {f : Nat → UInt8} (hs : P.underlying src = some (.slice e)) (he : P.underlying e = some (.int .u8)) (hd : P.underlying dst = some .string)
    (h : ByteAt w B n f) (l : List UInt8) (hl : l.length = n) (hf : ∀ j (hj : j < l.length), l[j] = f j) :
    (convert src dst (.slice (some ⟨B, 0, none⟩) n cap)).run P w = .ok (.string ⟨l.toArray⟩) w := by
  subst hl
  exact run_convert_bytes_back w src dst e ⟨B, 0, none⟩ cap l hs he hd fun j hj => by rw [Addr.add_lit, Nat.zero_add, (h j hj).1, hf j hj]
theorem ByteAt.congr {w : World} {B n : Nat} {f g : Nat → UInt8} (h : ByteAt w B n f) (e : ∀ j, j < n → f j = g j) : ByteAt w B n g := fun j hj => by rw [← e j hj]; exact h j hj

set_option maxRecDepth 100000 in
theorem each_low (s : ByteArray) (w : World) (hs : s.size ≤ 1048576) :
   Calls Tryz.prog 127 #[.string s, .func (.func 128) #[] #[]] w fun e w' => e = .returned (.string ⟨(s.data.toList.map lowB).toArray⟩) ∧ Below w.heap.size w w' := by
  have hcv := fun W => Lib.run_convert_string_bytes (P := Tryz.prog) W 9 23 5 s Tryz.underlying9 Tryz.underlying23 Tryz.underlying5
  go_enter Tryz.func127, Tryz.ntmps127
  go_wp2
  have hw0 : Below w.heap.size w (Lib.bytesWorld w 5 s) := bytesWorld_below _ _ _
  have hc0 : ∀ j, j < s.size → (Lib.bytesWorld w 5 s).cell? ⟨w.heap.size, j, none⟩ = some (.int .u8 ((s.data.toList.getD j 0).toNat : Int)) := fun j hj => Lib.bytesWorld_cell w _ s j hj
  have hf0 : ∀ j, j < s.size → (Lib.bytesWorld w 5 s).frozen? ⟨w.heap.size, j, none⟩ = false := fun j hj => bytesWorld_frozen w _ s j hj
  have hsz0 : w.heap.size < (Lib.bytesWorld w 5 s).heap.size := by rw [Lib.bytesWorld_size]; omega
  generalize Lib.bytesWorld w 5 s = W0 at *
  generalize hcap : grownCap w s.size 0 5 = cap at *
  clear hcv hcap
  go_loopw [12] (fun i wr => ∃ k : Nat, k ≤ s.size ∧ i = .int .i64 k ∧ Below w.heap.size w wr ∧ ByteAt wr w.heap.size s.size (fun j => if j < k then lowB (s.data.toList.getD j 0) else s.data.toList.getD j 0))
    (fun i _ => s.size - (intOf i).toNat)
  case atStart => exact ⟨0, Nat.zero_le _, rfl, hw0, fun j hj => ⟨by simpa using hc0 j hj, hf0 j hj⟩⟩
  case round =>
    obtain ⟨k, hk, rfl, hb, hrow⟩ := hrel
    by_cases hlt : k < s.size
    · have hc := (hrow k hlt).1
      have hf := (hrow k hlt).2
      simp only [Nat.lt_irrefl, if_false] at hc
      have HR := Lib.hid hrow
      clear hrow hc0 hf0
      generalize hx : s.data.toList.getD k 0 = x at *
      have HX := Lib.hid hx
      clear hx
      go_wp2_with (go_at_call 128; refine (low1 _ _).mono ?_; rintro e w' ⟨rfl, rfl⟩)
      go_roundw
      case rel =>
        refine ⟨k + 1, by omega, by go_num, hb.setCell (Nat.le_refl _) _, ((HR.out).set k (lowB x)).congr fun j hj => ?_⟩
        rw [← HX.out]
        by_cases e : j = k
        · subst e; rw [if_pos rfl, if_pos (by omega)]
        · rw [if_neg e]
          by_cases e2 : j < k
          · rw [if_pos e2, if_pos (by omega)]
          · rw [if_neg e2, if_neg (by omega)]
      case measure => simp [intOf]; omega
    · obtain rfl : k = s.size := by omega
      have hcv := run_bytes_back (P := Tryz.prog) (src := 23) (dst := 9) (cap := cap) Tryz.underlying23 Tryz.underlying5 Tryz.underlying9 hrow (s.data.toList.map lowB) (by simp) (fun j hj => by
        have : j < s.data.toList.length := by simpa using hj
        have h2 : j < s.size := by simpa using this
        simp [h2, List.getD])
      clear hrow hc0 hf0
      go_wp2
      go_ret
      exact ⟨rfl, hb⟩
theorem Lower_any (s : ByteArray) (w : World) (hs : s.size ≤ 1048576) :
   Calls Tryz.prog 48 #[.string s] w fun e w' => e = .returned (.string ⟨(s.data.toList.map lowB).toArray⟩) ∧ Below w.heap.size w w' := by
  go_enter Tryz.func48, Tryz.ntmps48
  go_wp2_with (go_at_call 127; refine (each_low _ _ hs).mono ?_; rintro e w' ⟨rfl, hb⟩)
  go_ret
  exact ⟨rfl, hb⟩

def lower (l : List UInt8) : List UInt8 := l.map lowB
def sameB (a b : List UInt8) : Bool := lower a == lower b
theorem Same_any (s t : ByteArray) (w : World) (hs : s.size ≤ 1048576) (ht : t.size ≤ 1048576) :
   Calls Tryz.prog 47 #[.string s, .string t] w fun e w' => e = .returned (.bool (sameB s.data.toList t.data.toList)) ∧ Below w.heap.size w w' := by
  by_cases hl : s.size = t.size
  · have hl1 : ((s.size : Int) == (t.size : Int)) = true := by simp [hl]
    have H := Lib.hid hl
    clear hl
    go_enter Tryz.func47, Tryz.ntmps47
    go_wp2_with (go_at_call 48; refine (Lower_any _ _ (by omega)).mono ?_; rintro e w' ⟨rfl, hb⟩)
    go_ret
    rename_i w1 hb1
    exact ⟨rfl, hb1.trans (hb.mono hb1.size)⟩
  · have hl1 : ((s.size : Int) == (t.size : Int)) = false := by simp; omega
    have hne : sameB s.data.toList t.data.toList = false := by
      simp only [sameB, beq_eq_false_iff_ne, ne_eq]
      intro h
      have := congrArg List.length h
      simp [lower] at this
      exact hl this
    have H := Lib.hid hl
    have HN := Lib.hid hne
    clear hl hne
    go_enter Tryz.func47, Tryz.ntmps47
    go_wp2_with (fail)
    go_ret
    exact ⟨ret_bool (HN.out).symm, Below.refl _ _⟩
end Go.Proofs.YtonlfplloenfcaaGreatDoor
