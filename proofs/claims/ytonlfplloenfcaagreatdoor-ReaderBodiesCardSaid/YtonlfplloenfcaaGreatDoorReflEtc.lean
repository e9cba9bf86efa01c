/-
  footmanref01.Lower, Same.
  Slices of fields: their cells; TwinFields, LeftFields, great.
  The numeral of a number above 0, at base 16: the library's way and the document's.
-/
import Derived.Test.YtonlfplloenfcaaGreatDoorResultsEtc
import Derived.WalkSmall
import Derived.Test.YtonlfplloenfcaaGreatDoorHexSpecEtc
import Derived.Deep.RegionWith
namespace Go.Proofs.YtonlfplloenfcaaGreatDoor
open Go.RowKit

theorem lowB_add (c : UInt8) (h1 : (65 : Int) ≤ (c.toNat : Int)) (h2 : (c.toNat : Int) ≤ 90) : (c.toNat : Int) + 32 = ((lowB c).toNat : Int) := by
  rw [lowB, if_pos (by rw [UInt8.le_iff_toNat_le, UInt8.le_iff_toNat_le]; exact ⟨by simp; omega, by simp; omega⟩), UInt8.toNat_add]
  simp; omega
set_option maxRecDepth 100000 in
theorem rLower_any (s : ByteArray) (w : World) (hs : s.size ≤ 1048576) :
   Calls Tryz.prog 196 #[.string s] w fun e w' => e = .returned (.string ⟨(s.data.toList.map lowB).toArray⟩) ∧ Below w.heap.size w w' := by
  have hcv := fun W => Lib.run_convert_string_bytes (P := Tryz.prog) W 9 23 5 s Tryz.underlying9 Tryz.underlying23 Tryz.underlying5
  go_enter Tryz.func196, Tryz.ntmps196
  go_wp2_with fail
  have hw0 : Below w.heap.size w (Lib.bytesWorld w 5 s) := bytesWorld_below _ _ _
  have hc0 : ∀ j, j < s.size → (Lib.bytesWorld w 5 s).cell? ⟨w.heap.size, j, none⟩ = some (.int .u8 ((s.data.toList.getD j 0).toNat : Int)) := fun j hj => Lib.bytesWorld_cell w _ s j hj
  have hf0 : ∀ j, j < s.size → (Lib.bytesWorld w 5 s).frozen? ⟨w.heap.size, j, none⟩ = false := fun j hj => bytesWorld_frozen w _ s j hj
  generalize Lib.bytesWorld w 5 s = W0 at *
  generalize hcap : grownCap w s.size 0 5 = cap at *
  clear hcv hcap
  go_loopw [4] (fun i wr => ∃ k : Nat, k ≤ s.size ∧ i = .int .i64 k ∧ Below w.heap.size w wr ∧ ByteAt wr w.heap.size s.size (fun j => if j < k then lowB (s.data.toList.getD j 0) else s.data.toList.getD j 0))
    (fun i _ => s.size - (intOf i).toNat)
  case atStart => exact ⟨0, Nat.zero_le _, rfl, hw0, fun j hj => ⟨by simpa using hc0 j hj, hf0 j hj⟩⟩
  case round =>
    obtain ⟨k, hk, rfl, hb, hrow⟩ := hrel
    by_cases hlt : k < s.size
    · have hc := (hrow k hlt).1
      have hf := (hrow k hlt).2
      simp only [Nat.lt_irrefl, if_false] at hc
      have HR := Lib.hid hrow
      clear hrow hc0 hf0
      generalize hx : s.data.toList.getD k 0 = x at *
      have HX := Lib.hid hx
      clear hx
      have hx1 := x.toNat_lt
      have key : ∀ u : UInt8, u = lowB x → ByteAt (wr.setCell ⟨w.heap.size, k, none⟩ (.int .u8 (u.toNat : Int))) w.heap.size s.size (fun j => if j < k + 1 then lowB (s.data.toList.getD j 0) else s.data.toList.getD j 0) := by
        rintro u rfl
        refine ((HR.out).set k (lowB x)).congr fun j hj => ?_
        rw [← HX.out]
        by_cases e : j = k
        · subst e; rw [if_pos rfl, if_pos (by omega)]
        · rw [if_neg e]
          by_cases e2 : j < k
          · rw [if_pos e2, if_pos (by omega)]
          · rw [if_neg e2, if_neg (by omega)]
      have key2 : lowB x = x → ByteAt wr w.heap.size s.size (fun j => if j < k + 1 then lowB (s.data.toList.getD j 0) else s.data.toList.getD j 0) := by
        intro hl
        refine (HR.out).congr fun j hj => ?_
        by_cases e : j = k
        · subst e; rw [if_neg (by omega), if_pos (by omega), HX.out, hl]
        · by_cases e2 : j < k
          · rw [if_pos e2, if_pos (by omega)]
          · rw [if_neg e2, if_neg (by omega)]
      have K1 := Lib.hid key
      have K2 := Lib.hid key2
      clear key key2
      by_cases hb1 : (65 : Int) ≤ (x.toNat : Int)
      · by_cases hb2 : (x.toNat : Int) ≤ 90
        · go_wp2_with fail
          go_roundw
          case rel => exact ⟨k + 1, by omega, by go_num, hb.setCell (Nat.le_refl _) _, by rw [lowB_add x hb1 hb2]; exact K1.out _ rfl⟩
          case measure => simp [intOf]; omega
        · go_wp2_with fail
          go_roundw
          case rel => exact ⟨k + 1, by omega, by go_num, hb, K2.out (lowB_miss x (.inr (by omega)))⟩
          case measure => simp [intOf]; omega
      · go_wp2_with fail
        go_roundw
        case rel => exact ⟨k + 1, by omega, by go_num, hb, K2.out (lowB_miss x (.inl (by omega)))⟩
        case measure => simp [intOf]; omega
    · obtain rfl : k = s.size := by omega
      have hcv := run_bytes_back (P := Tryz.prog) (src := 23) (dst := 9) (cap := cap) Tryz.underlying23 Tryz.underlying5 Tryz.underlying9 hrow (s.data.toList.map lowB) (by simp) (fun j hj => by
        have : j < s.data.toList.length := by simpa using hj
        have h2 : j < s.size := by simpa using this
        simp [h2, List.getD])
      clear hrow hc0 hf0
      go_wp2_with fail
      go_ret
      exact ⟨rfl, hb⟩
theorem rSame_any (s t : ByteArray) (w : World) (hs : s.size ≤ 1048576) (ht : t.size ≤ 1048576) :
   Calls Tryz.prog 124 #[.string s, .string t] w fun e w' => e = .returned (.bool (sameB s.data.toList t.data.toList)) ∧ Below w.heap.size w w' := by
  go_enter Tryz.func124, Tryz.ntmps124
  go_wp2_with (go_at_call 196; refine (rLower_any _ _ (by omega)).mono ?_; rintro e w' ⟨rfl, hb⟩)
  go_ret
  rename_i w1 hb1
  exact ⟨rfl, hb1.trans (hb.mono hb1.size)⟩
end Go.Proofs.YtonlfplloenfcaaGreatDoor
namespace Go.Proofs.YtonlfplloenfcaaGreatDoor
open Go.RowKit

abbrev Fd := ByteArray × ByteArray
/-- A slice of fields that reads as a list, nil let in. -/
def FRead (w : World) (B : Nat) (A : Option Addr) (n : Nat) (fs : List Fd) : Prop :=
  fs.length = n ∧ (0 < n → ∃ b off, A = some ⟨b, off, none⟩ ∧ b < B ∧ ∀ i f, fs[i]? = some f → w.cell? ⟨b, off + i * 2, none⟩ = some (.string f.1) ∧ w.cell? ⟨b, off + i * 2 + 1, none⟩ = some (.string f.2))
def fsum (fs : List Fd) : Nat := (fs.map fun f => 2 + f.1.size + f.2.size).sum
theorem fsum_succ (fs : List Fd) (k : Nat) (f : Fd) (h : fs[k]? = some f) : fsum (fs.take (k + 1)) = fsum (fs.take k) + (2 + f.1.size + f.2.size) := by
  unfold fsum
  rw [List.take_add_one, h]
  simp
theorem fsum_le (fs : List Fd) (k : Nat) : fsum (fs.take k) ≤ fsum fs := by
  unfold fsum
  conv => rhs; rw [← List.take_append_drop k fs]
  rw [List.map_append, List.sum_append]
  omega
/-- Is it more than is gone through? -/
def bigB (m : Nat) (fs : List Fd) : Bool := decide (200000 < m + fsum fs)
def FSmall (fs : List Fd) : Prop := ∀ f ∈ fs, f.1.size ≤ 140737488355328 ∧ f.2.size ≤ 140737488355328

set_option maxRecDepth 100000 in
theorem great_any (s1 s2 : ByteArray) (st : Int) (A A2 : Option Addr) (n c n2 c2 : Nat) (fs : List Fd) (w : World) (h : FRead w w.heap.size A n fs) (hs : FSmall fs) (h1 : s1.size ≤ 140737488355328) (h2 : s2.size ≤ 140737488355328) (h3 : n2 ≤ 140737488355328) (h4 : n ≤ 140737488355328) :
   Calls Tryz.prog 22 #[.agg #[.string s1, .string s2, .int .i64 st, .slice A n c, .slice A2 n2 c2]] w fun e w' => e = .returned (.bool (bigB (s1.size + s2.size + n2) fs)) ∧ Below w.heap.size w w' := by
  obtain ⟨hlen, hcells⟩ := h
  have HL := Lib.hid hlen
  have HS := Lib.hid hs
  clear hlen hs
  go_enter Tryz.func22, Tryz.ntmps22
  go_wp2
  go_loopw [3, 4] (fun v i wr => ∃ k m : Nat, k ≤ n ∧ i = .int .i64 k ∧ v = .int .i64 m ∧ Hid (m = s1.size + s2.size + n2 + fsum (fs.take k)) ∧ m ≤ 844424930131968 ∧
      (∃ q, wr = (w.alloc (.cells #[.string s1, .string s2, .int .i64 st, .slice A n c, .slice A2 n2 c2] 25)).drewN q)) (fun _ i _ => n - (intOf i).toNat)
  case atStart => exact ⟨0, s1.size + s2.size + n2, Nat.zero_le _, rfl, by go_num, by simp [Hid, fsum], by omega, 0, rfl⟩
  case round =>
    obtain ⟨k, m, hk, rfl, rfl, hm, hmb, q, rfl⟩ := hrel
    by_cases hlt : k < n
    · by_cases hm2 : m ≤ 200000
      · obtain ⟨b, off, rfl, hb, hc⟩ := hcells (by omega)
        obtain ⟨f, hf⟩ : ∃ f, fs[k]? = some f := ⟨fs[k]'(by rw [HL.out]; exact hlt), List.getElem?_eq_getElem (by rw [HL.out]; exact hlt)⟩
        have hc1 := (hc k f hf).1
        have hc2 := (hc k f hf).2
        have hsz := HS.out f (List.mem_of_getElem? hf)
        have hsz1 := hsz.1
        have hsz2 := hsz.2
        have HF := Lib.hid hf
        have HC := Lib.hid hc
        clear hf hc hsz hcells
        obtain ⟨f1, f2⟩ := f
        simp only at hc1 hc2 hsz1 hsz2
        go_wp2
        go_quiet (fail)
        go_wp2
        go_roundw
        case rel =>
          refine ⟨k + 1, m + (2 + f1.size + f2.size), by omega, by go_num, by go_num, ?_, by omega, _, rfl⟩
          have e := fsum_succ fs k _ HF.out
          have := hm.out
          unfold Hid
          simp only at e
          omega
        case measure => simp [intOf]; omega
      · have hm3 : (200000 : Int) < (m : Int) := by omega
        clear hcells
        go_wp2
        go_ret
        refine ⟨ret_bool ?_, ?_⟩
        · have := hm.out
          have := fsum_le fs k
          unfold bigB
          exact (decide_eq_true (by omega)).symm
        · exact below_drewN ((Below.refl _ _).alloc (Nat.le_refl _) _) _
    · obtain rfl : k = n := by omega
      clear hcells
      go_wp2
      go_ret
      refine ⟨ret_bool ?_, ?_⟩
      · have := hm.out
        rw [List.take_of_length_le (by rw [HL.out]; exact Nat.le_refl _)] at this
        unfold bigB
        rw [← this]
        rw [Bool.eq_iff_iff, decide_eq_true_iff, decide_eq_true_iff]
        omega
      · exact below_drewN ((Below.refl _ _).alloc (Nat.le_refl _) _) _

theorem infoF : (Tryz.prog.info? 63).map (fun i => (i.zero, i.size, i.bytes)) = some (some (.agg #[.string ⟨#[]⟩, .string ⟨#[]⟩]), 2, 32) := by kernel_rfl
theorem infoS : (Tryz.prog.info? 9).map (fun i => (i.zero, i.size, i.bytes)) = some (some (.string ⟨#[]⟩), 1, 16) := by kernel_rfl
def fcells (fs : List Fd) : List Value := fs.flatMap fun f => [.string f.1, .string f.2]
theorem fcells_succ (fs : List Fd) (k : Nat) (f : Fd) (h : fs[k]? = some f) : fcells (fs.take (k + 1)) = fcells (fs.take k) ++ [.string f.1, .string f.2] := by
  unfold fcells
  rw [List.take_add_one, h]
  simp
set_option maxRecDepth 100000 in
theorem twinf_any (A : Option Addr) (n c : Nat) (fs : List Fd) (w : World) (h : FRead w w.heap.size A n fs) (hn : n ≤ 100000) :
   Calls Tryz.prog 67 #[.slice A n c] w fun e w' => e = .returned (.slice (some ⟨w.heap.size, 0, none⟩) n (n + 1)) ∧
     w'.ownsRow w.heap.size 63 2 (.slice (some ⟨w.heap.size, 0, none⟩) (n + 1) (n + 1)) (n + 1) (fcells fs ++ [.string ⟨#[115, 112, 97, 114, 101]⟩, .string ⟨#[]⟩]) ∧ Below w.heap.size w w' := by
  obtain ⟨i0, hi, hz0, hz1, hz2⟩ := info_parts infoF
  obtain ⟨hlen, hcells⟩ := h
  have HL := Lib.hid hlen
  clear hlen
  go_enter Tryz.func67, Tryz.ntmps67
  go_wp2_with (at_make; refine wpList_make_own _ rfl _ _ 22 rfl w.heap.size 63 i0 _ 2 Tryz.underlying22 hi hz0 hz1 _ _ _ (n + 1) rfl rfl (by omega) (by rw [hz2]; omega) (by unfold maxLen; omega) (Nat.le_refl _) ?_; intro w1 hown1 hg1)
  have hb1 : Below w.heap.size w w1 := (Below.refl _ _).grown hg1 (Nat.le_refl _) (by intro k hk; cases hk)
  clear hg1
  go_loopw [3, 4] (fun t i wr => ∃ k : Nat, k ≤ n ∧ i = .int .i64 k ∧ t = .slice (some ⟨w.heap.size, 0, none⟩) k (n + 1) ∧ wr.ownsRow w.heap.size 63 2 (.slice (some ⟨w.heap.size, 0, none⟩) k (n + 1)) k (fcells (fs.take k)) ∧ Below w.heap.size w wr)
    (fun _ i _ => n - (intOf i).toNat)
  case atStart => exact ⟨0, Nat.zero_le _, rfl, rfl, by simpa [fcells] using hown1, hb1⟩
  case round =>
    obtain ⟨k, hk, rfl, rfl, hown, hb⟩ := hrel
    clear hown1 hb1
    by_cases hlt : k < n
    · obtain ⟨b, off, rfl, hbb, hc⟩ := hcells (by omega)
      obtain ⟨f, hf⟩ : ∃ f, fs[k]? = some f := ⟨fs[k]'(by rw [HL.out]; exact hlt), List.getElem?_eq_getElem (by rw [HL.out]; exact hlt)⟩
      have hc1 := (hb.cell (p := ⟨b, off + k * 2, none⟩) hbb).trans (hc k f hf).1
      have hc2 := (hb.cell (p := ⟨b, off + k * 2 + 1, none⟩) hbb).trans (hc k f hf).2
      have HF := Lib.hid hf
      clear hf hc hcells
      obtain ⟨f1, f2⟩ := f
      simp only at hc1 hc2
      go_wp2_with (at_builtin; refine wpList_append_fits _ rfl _ _ 22 rfl w.heap.size 63 i0 2 Tryz.underlying22 hi hz1 w.heap.size k (n + 1) _ rfl (hown.alloc _) ⟨wr.heap.size, 0, none⟩ 1 1 [.string f1, .string f2] rfl rfl (cell_two_new _ _ _ _) (by simp [Value.oneCell']) (by omega) ?_; intro w2 hown2 hg2)
      have hb2 : Below w.heap.size w w2 := (hb.alloc hb.size _).grown hg2 (by have := hb.size; simp; omega) (by intro j hj; cases hj; exact Nat.le_refl _)
      rw [← fcells_succ fs k _ HF.out] at hown2
      go_roundw
      case rel => exact ⟨k + 1, by omega, by go_num, rfl, hown2, hb2⟩
      case measure => simp [intOf]; omega
    · obtain rfl : k = n := by omega
      clear hcells
      rw [List.take_of_length_le (by rw [HL.out]; exact Nat.le_refl _)] at hown
      go_wp2_with (at_builtin; refine wpList_append_fits _ rfl _ _ 22 rfl w.heap.size 63 i0 2 Tryz.underlying22 hi hz1 w.heap.size k (k + 1) _ rfl (hown.alloc _) ⟨wr.heap.size, 0, none⟩ 1 1 [.string ⟨#[115, 112, 97, 114, 101]⟩, .string ⟨#[]⟩] rfl rfl (cell_two_new _ _ _ _) (by simp [Value.oneCell']) (by omega) ?_; intro w2 hown2 hg2)
      go_ret
      exact ⟨rfl, hown2, (hb.alloc hb.size _).grown hg2 (by have := hb.size; simp; omega) (by intro j hj; cases hj; exact Nat.le_refl _)⟩
end Go.Proofs.YtonlfplloenfcaaGreatDoor
namespace Go.Proofs.YtonlfplloenfcaaGreatDoor
open Go.RowKit

theorem tz64 (w : World) (h : w.cell? ⟨8, 15, none⟩ = some (.int .u8 4)) : Calls Tryz.prog 272 #[.int .u64 16] w fun e w' => e = .returned (.int .i64 4) ∧ w = w' := by
  have hx : IntKind.u64.wrap (bits BinOp.and IntKind.u64 16 (IntKind.u64.wrap (-16)) * 285870213051353865) / 288230376151711744 = 15 := by decide +kernel
  go_enter Tryz.func272, Tryz.ntmps272
  go_wp2_with fail
  go_ret
  exact ⟨rfl, rfl⟩
theorem tz16 (w : World) (h : w.cell? ⟨8, 15, none⟩ = some (.int .u8 4)) :
   Calls Tryz.prog 260 #[.int .u64 16] w fun e w' => e = .returned (.int .i64 4) ∧ w = w' := by
  go_enter Tryz.func260, Tryz.ntmps260
  go_wp2_with fail
  refine (tz64 w h).mono ?_
  rintro e w' ⟨rfl, rfl⟩
  go_wp2_with fail
  go_ret
  exact ⟨rfl, rfl⟩
theorem pow16 (w : World) :
   Calls Tryz.prog 259 #[.int .i64 16] w fun e w' => e = .returned (.bool true) ∧ w = w' := by
  have hx : bits BinOp.and IntKind.i64 16 15 = 0 := by decide +kernel
  go_enter Tryz.func259, Tryz.ntmps259
  go_wp2_with fail
  go_ret
  exact ⟨rfl, rfl⟩

theorem and15 (u : Nat) (h : u ≤ 65536) : bits .and .u64 (u : Int) 15 = ((u % 16 : Nat) : Int) := by
  have := bits_and_u64_nat u 15 (by omega) (by omega)
  rw [show ((15 : Nat) : Int) = 15 from rfl] at this
  rw [this]
  exact congrArg _ (Nat.and_two_pow_sub_one_eq_mod u 4)
theorem cell_alloc_some {w : World} {p : Addr} {v : Value} (h : w.cell? p = some v) (o : Obj) : (w.alloc o).cell? p = some v := by
  rcases Nat.lt_or_ge p.block w.heap.size with hlt | hge
  · rw [World.cell?_alloc_lt w o p hlt]; exact h
  · simp [World.cell?, Array.getElem?_eq_none hge] at h
def hexTab : ByteArray := ⟨#[48, 49, 50, 51, 52, 53, 54, 55, 56, 57, 97, 98, 99, 100, 101, 102, 103, 104, 105, 106, 107, 108, 109, 110, 111, 112, 113, 114, 115, 116, 117, 118, 119, 120, 121, 122]⟩
theorem dig_fin : ∀ y : Fin 16, hexTab[y.val]'(Nat.lt_of_lt_of_le y.isLt (by decide)) = hexd y.val := by decide +kernel
theorem dig_at (y : Nat) (hy : y < 16) (h2 : y < hexTab.size) : hexTab[y]'h2 = hexd y := dig_fin ⟨y, hy⟩
/-- A digit more ahead of those that stand. -/
theorem tail_set {cs : Array Value} {k : Nat} {tl : List UInt8} (hsz : cs.size = 65) (hk : k + tl.length = 65) (h1 : 1 ≤ k) (htl : ∀ j (hj : j < tl.length), cs[k + j]? = some (.int .u8 (tl[j].toNat : Int))) (d : UInt8) :
    ∀ j (hj : j < (d :: tl).length), (cs.setIfInBounds (k - 1) (.int .u8 (d.toNat : Int)))[k - 1 + j]? = some (.int .u8 ((d :: tl)[j].toNat : Int)) := by
  intro j hj
  cases j with
  | zero => simp [Array.getElem?_setIfInBounds]; omega
  | succ j =>
    have h2 := htl j (by simpa using hj)
    rw [Array.getElem?_setIfInBounds, if_neg (by omega), show k - 1 + (j + 1) = k + j by omega]
    simpa using h2
theorem zero65 : Tryz.zeroCells274 = Array.replicate 65 (.int .u8 0) := by kernel_rfl

set_option maxRecDepth 100000 in
theorem fbits (n : Nat) (h1 : 1 ≤ n) (hn : n ≤ 65536) (w : World) (h : w.cell? ⟨8, 15, none⟩ = some (.int .u8 4)) :
   Calls Tryz.prog 233 #[.slice none 0 0, .int .u64 (n : Int), .int .i64 16, .bool false, .bool false] w fun e w' => e = .returned (.tuple #[.slice none 0 0, .string ⟨(hexB n).toArray⟩]) ∧ Below w.heap.size w w' := by
  go_enter Tryz.func233, Tryz.ntmps233
  go_wp2_with fail
  refine (pow16 _).mono ?_
  rintro e w1 ⟨rfl, rfl⟩
  go_wp2_with fail
  refine (tz16 _ (cell_alloc_some h _)).mono ?_
  rintro e w1 ⟨rfl, rfl⟩
  have hblk := Blk.new w 274 Tryz.zeroCells274
  have hbel : Below w.heap.size w (w.alloc (.cells Tryz.zeroCells274 274)) := (Below.refl _ _).alloc (Nat.le_refl _) _
  rw [zero65] at hblk hbel ⊢
  generalize w.alloc _ = W0 at *
  go_wp2_with fail
  go_loopw [1, 13] (fun u i wr => ∃ (x k : Nat) (tl : List UInt8) (cs : Array Value), u = .int .u64 (x : Int) ∧ i = .int .i64 (k : Int) ∧ 1 ≤ x ∧ k + tl.length = 65 ∧ tl.length ≤ 4 ∧ x < 16 ^ (5 - tl.length) ∧ x ≤ 65536 ∧ Hid (hexB n = hexB x ++ tl) ∧
      Blk wr w.heap.size 274 cs ∧ cs.size = 65 ∧ (∀ j (hj : j < tl.length), cs[k + j]? = some (.int .u8 (tl[j].toNat : Int))) ∧ Below w.heap.size w wr)
    (fun u _ _ => (intOf u).toNat)
  case atStart =>
    exact ⟨n, 65, [], _, rfl, rfl, h1, rfl, by simp, by simp; omega, hn, by simp [Hid], hblk, by simp, fun j hj => by simp at hj, hbel⟩
  case round =>
    obtain ⟨x, k, tl, cs, rfl, rfl, hx1, hk, hl4, hx5, hx6, hhex, hB, hsz, htl, hb⟩ := hrel
    clear hblk hbel
    have hfz : wr.frozen? ⟨w.heap.size, k - 1, none⟩ = false := hB.frozen _
    obtain ⟨v0, hcell⟩ : ∃ v0, wr.cell? ⟨w.heap.size, k - 1, none⟩ = some v0 := ⟨_, (hB.cell _).trans (Array.getElem?_eq_getElem (by omega))⟩
    have HT := Lib.hid htl
    by_cases hlt : 16 ≤ x
    · have hand := and15 x hx6
      have hy : x % 16 < 16 := Nat.mod_lt _ (by omega)
      have HY := Lib.hid (hexB_big hlt)
      generalize x % 16 = y at *
      have hdg : ∀ h2, (⟨#[48, 49, 50, 51, 52, 53, 54, 55, 56, 57, 97, 98, 99, 100, 101, 102, 103, 104, 105, 106, 107, 108, 109, 110, 111, 112, 113, 114, 115, 116, 117, 118, 119, 120, 121, 122]⟩ : ByteArray)[y]'h2 = hexd y := fun h2 => dig_at y hy h2
      have HB := Lib.hid hB
      clear hB htl
      go_wp2_with fail
      go_roundw
      case rel =>
        have hl3 : tl.length ≠ 4 := by
          intro e
          rw [e] at hx5
          simp at hx5
          omega
        refine ⟨x / 16, k - 1, hexd y :: tl, _, by simp, by simp; omega, by omega, by simp; omega, by simp; omega, ?_, by omega, ?_, HB.out.set_ (k - 1) _, by simpa using hsz, tail_set hsz hk (by omega) HT.out _, hb.setCell (Nat.le_refl _) _⟩
        · refine Nat.div_lt_of_lt_mul ?_
          rw [show (5 - tl.length) = (5 - (hexd y :: tl).length) + 1 by simp; omega, Nat.pow_succ, Nat.mul_comm] at hx5
          exact hx5
        · unfold Hid at hhex ⊢
          rw [hhex, HY.out]
          simp
      case measure => simp [intOf]; omega
    · have hx16 : x < 16 := by omega
      have hdg : ∀ h2, (⟨#[48, 49, 50, 51, 52, 53, 54, 55, 56, 57, 97, 98, 99, 100, 101, 102, 103, 104, 105, 106, 107, 108, 109, 110, 111, 112, 113, 114, 115, 116, 117, 118, 119, 120, 121, 122]⟩ : ByteArray)[x]'h2 = hexd x := fun h2 => dig_at x hx16 h2
      have hB2 := hB.set_ (k - 1) (.int .u8 ((hexd x).toNat : Int))
      have ht2 := tail_set hsz hk (by omega) HT.out (hexd x)
      have hb2 := hb.setCell (p := ⟨w.heap.size, k - 1, none⟩) (Nat.le_refl _) (.int .u8 ((hexd x).toNat : Int))
      have hcv : ∀ cap, (convert 23 9 (.slice (some ⟨w.heap.size, k - 1, none⟩) (65 - (k - 1)) cap)).run Tryz.prog (wr.setCell ⟨w.heap.size, k - 1, none⟩ (.int .u8 ((hexd x).toNat : Int))) = .ok (.string ⟨(hexd x :: tl).toArray⟩) (wr.setCell ⟨w.heap.size, k - 1, none⟩ (.int .u8 ((hexd x).toNat : Int))) := fun cap => by
        rw [show 65 - (k - 1) = (hexd x :: tl).length by simp; omega]
        exact run_convert_bytes_back _ 23 9 5 ⟨w.heap.size, k - 1, none⟩ cap (hexd x :: tl) Tryz.underlying23 Tryz.underlying5 Tryz.underlying9 fun j hj => by rw [Addr.add_lit, hB2.cell]; exact ht2 j hj
      have hsl : ∀ W : World, (Instr.sliceAt 274 (.pointer (some ⟨w.heap.size, 0, none⟩)) (some (.int .i64 ((k : Int) - 1))) none none).run Tryz.prog W = .ok (.slice (some ⟨w.heap.size, k - 1, none⟩) (65 - (k - 1)) (65 - (k - 1))) W := fun W => by
        have hal : Tryz.prog.arrayLen 274 = 65 := by simp [Program.arrayLen, Tryz.underlying274]
        have hel : Tryz.prog.elem 274 = 5 := by simp [Program.elem, Tryz.underlying274]
        rw [run_sliceAt_array_l W 274 ⟨w.heap.size, 0, none⟩ (by rw [hal, hel]; exact Tryz.underlying274) .i64 ((k : Int) - 1) (by omega) (by rw [hal]; omega), hal, hel]
        have e1 : ((k : Int) - 1).toNat = k - 1 := by omega
        simp [slicedAt, e1, Tryz.sizeOf5, Addr.add_lit]
        omega
      have HE := Lib.hid (hexB_small hx16)
      clear hB htl hB2 ht2
      have HB2 := Lib.hid hb2
      clear hb2
      go_wp2_with fail
      go_ret2
      refine ⟨?_, HB2.out⟩
      unfold Hid at hhex
      rw [hhex, HE.out]
      rfl
theorem fmt16 (n : Nat) (h1 : 1 ≤ n) (hn : n ≤ 65536) (w : World) (h : w.cell? ⟨8, 15, none⟩ = some (.int .u8 4)) :
   Calls Tryz.prog 201 #[.int .i64 (n : Int), .int .i64 16] w fun e w' => e = .returned (.string ⟨(hexB n).toArray⟩) ∧ Below w.heap.size w w' := by
  go_enter Tryz.func201, Tryz.ntmps201
  go_wp2_with fail
  refine (fbits n h1 hn _ h).mono ?_
  rintro e w1 ⟨rfl, hb⟩
  go_wp2_with fail
  go_ret
  exact ⟨rfl, hb⟩
theorem format16 (n : Nat) (h1 : 1 ≤ n) (hn : n ≤ 65536) (w : World) (h : w.cell? ⟨8, 15, none⟩ = some (.int .u8 4)) :
   Calls Tryz.prog 131 #[.int .i64 (n : Int), .int .i64 16] w fun e w' => e = .returned (.string ⟨(hexB n).toArray⟩) ∧ Below w.heap.size w w' := by
  go_enter Tryz.func131, Tryz.ntmps131
  go_wp2_with fail
  refine (fmt16 n h1 hn _ h).mono ?_
  rintro e w1 ⟨rfl, hb⟩
  go_wp2_with fail
  go_ret
  exact ⟨rfl, hb⟩
def hexS : ByteArray := ⟨#[48, 49, 50, 51, 52, 53, 54, 55, 56, 57, 97, 98, 99, 100, 101, 102]⟩
theorem hexs_fin : ∀ y : Fin 16, hexS.extract y.val (y.val + 1) = ⟨#[hexd y.val]⟩ := by decide +kernel
theorem hexs_at (y : Nat) (hy : y < 16) : hexS.extract y (y + 1) = ⟨#[hexd y]⟩ := hexs_fin ⟨y, hy⟩
end Go.Proofs.YtonlfplloenfcaaGreatDoor
