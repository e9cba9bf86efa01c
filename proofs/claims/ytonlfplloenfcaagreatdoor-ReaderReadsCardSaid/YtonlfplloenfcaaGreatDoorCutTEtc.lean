/-
  Parts of a text, without blanks at their ends; numbers: in plain words.
  footmanref13.line: a line, and where it ends.
  footmanref12.get: a head's lines, and how many bytes it has.
-/
import Derived.Test.YtonlfplloenfcaaGreatDoorChunkStEtc
import Derived.Test.YtonlfplloenfcaaGreatDoorMoreSpecEtc
import Derived.Lib.SplitLaws
import Derived.Test.YtonlfplloenfcaaGreatDoorFindEtc
import Derived.Lib.QuietBelow
import Derived.Test.YtonlfplloenfcaaGreatDoorTwinEtc
import Derived.Test.YtonlfplloenfcaaGreatDoorNamesEtc
namespace Go.Proofs.YtonlfplloenfcaaGreatDoor
open Go.RowKit

def trimB (x : ByteArray) : ByteArray := ⟨(trimmed x.data.toList).toArray⟩
def splitT (c : UInt8) (s : ByteArray) : List ByteArray := (cutC c s.data.toList).map fun x => ⟨(trimmed x).toArray⟩
def splitL (c : UInt8) (s : ByteArray) : List ByteArray := Lib.splitB ⟨#[c]⟩ 0 (Lib.countB s ⟨#[c]⟩) s
theorem splitL_len (c : UInt8) (s : ByteArray) : (splitL c s).length = Lib.countB s ⟨#[c]⟩ + 1 := Lib.splitB_all _ (Nat.le_refl _) _ _ _ rfl
theorem splitT_eq (c : UInt8) (s : ByteArray) : splitT c s = (splitL c s).map trimB := by
  unfold splitT splitL
  rw [← splitC_cut, List.map_map]
  rfl
theorem splitT_data (c : UInt8) (s : ByteArray) : (splitT c s).map (·.data.toList) = (cutC c s.data.toList).map trimmed := by
  unfold splitT
  rw [List.map_map]
  exact List.map_congr_left fun x _ => by simp
theorem cutC_sizes (c : UInt8) : ∀ (l : List UInt8), ∀ x ∈ cutC c l, x.length ≤ l.length
  | [], x, h => by
    have : x = [] := by simpa [cutC] using h
    rw [this]; exact Nat.le_refl _
  | y :: r, x, h => by
    by_cases hy : y = c
    · subst hy
      rw [cutC_eq] at h
      rcases List.mem_cons.1 h with rfl | h
      · exact Nat.zero_le _
      · have := cutC_sizes y r x h
        rw [List.length_cons]; omega
    · obtain ⟨a, t, e⟩ := cutC_ne c r
      rw [cutC_cons r hy e] at h
      have hr := cutC_sizes c r
      rw [e] at hr
      rcases List.mem_cons.1 h with rfl | h
      · have := hr a List.mem_cons_self
        rw [List.length_cons, List.length_cons]; omega
      · have := hr x (List.mem_cons_of_mem _ h)
        rw [List.length_cons]; omega
theorem splitL_sizes (c : UInt8) (s : ByteArray) : ∀ x ∈ splitL c s, x.size ≤ s.size := by
  intro x hx
  have h1 : x.data.toList ∈ cutC c s.data.toList := by
    rw [← splitC_cut]
    exact List.mem_map_of_mem hx
  exact cutC_sizes c _ _ h1
theorem trimmed_le (l : List UInt8) : (trimmed l).length ≤ l.length := by
  rw [trimmed_eq, List.length_reverse]
  refine Nat.le_trans (List.dropWhile_sublist _).length_le ?_
  rw [List.length_reverse]
  exact (List.dropWhile_sublist _).length_le
theorem sizes_splitT (c : UInt8) (s : ByteArray) : ∀ x ∈ splitT c s, x.size ≤ s.size := by
  intro x hx
  rw [splitT_eq] at hx
  obtain ⟨y, hy, rfl⟩ := List.mem_map.1 hx
  refine Nat.le_trans ?_ (splitL_sizes c s y hy)
  show ((trimmed y.data.toList).toArray).size ≤ _
  rw [List.size_toArray]
  exact trimmed_le _
def cellsAt (L : List ByteArray) (k : Nat) : Array Value := (((L.take k).map trimB ++ L.drop k).map Value.string).toArray
theorem cellsAt_zero (L : List ByteArray) : cellsAt L 0 = (L.map Value.string).toArray := by simp [cellsAt]
theorem cellsAt_all (L : List ByteArray) (k : Nat) (h : L.length ≤ k) : cellsAt L k = ((L.map trimB).map Value.string).toArray := by
  unfold cellsAt
  rw [List.take_of_length_le h, List.drop_of_length_le h, List.append_nil]
theorem cellsAt_get (L : List ByteArray) (k : Nat) (x : ByteArray) (h : L[k]? = some x) : (cellsAt L k)[k]? = some (.string x) := by
  have hk := (List.getElem?_eq_some_iff.1 h).1
  unfold cellsAt
  rw [List.getElem?_toArray, List.getElem?_map, List.getElem?_append_right (by simp; omega), List.length_map, List.length_take, Nat.min_eq_left (Nat.le_of_lt hk), Nat.sub_self, List.getElem?_drop, Nat.add_zero, h]
  rfl
theorem cellsAt_size (L : List ByteArray) (k : Nat) : (cellsAt L k).size = L.length := by
  unfold cellsAt
  rw [List.size_toArray, List.length_map, List.length_append, List.length_map, ← List.length_append, List.take_append_drop]
theorem cellsAt_step (L : List ByteArray) (k : Nat) (x : ByteArray) (h : L[k]? = some x) : (cellsAt L k).setIfInBounds k (.string (trimB x)) = cellsAt L (k + 1) := by
  have hk := (List.getElem?_eq_some_iff.1 h).1
  apply Array.ext_getElem?
  intro j
  rw [Array.getElem?_setIfInBounds, cellsAt_size]
  unfold cellsAt
  rw [List.getElem?_toArray, List.getElem?_toArray, List.getElem?_map, List.getElem?_map]
  by_cases hj : k = j
  · subst hj
    rw [if_pos rfl, if_pos hk, List.getElem?_append_left (by simp; omega), List.getElem?_map, List.getElem?_take, if_pos (by omega), h]
    rfl
  · rw [if_neg hj]
    by_cases hl : j < k
    · rw [List.getElem?_append_left (by simp; omega), List.getElem?_append_left (by simp; omega), List.getElem?_map, List.getElem?_map, List.getElem?_take, List.getElem?_take, if_pos hl, if_pos (by omega)]
    · rw [List.getElem?_append_right (by simp; omega), List.getElem?_append_right (by simp; omega), List.length_map, List.length_take, List.length_map, List.length_take, List.getElem?_drop, List.getElem?_drop, Nat.min_eq_left (Nat.le_of_lt hk), Nat.min_eq_left hk]
      congr 2
      omega

/-- No byte is left: all are digits. -/
def tenB : List UInt8 := [48, 49, 50, 51, 52, 53, 54, 55, 56, 57]
theorem ten_dig (x : UInt8) : tenB.contains x = digB x := by
  have h1 := all_bytes (p := fun x => tenB.contains x == digB x) (by decide +kernel) x
  simpa using h1
theorem dropW_nil (p : UInt8 → Bool) : ∀ l : List UInt8, l.dropWhile p = [] ↔ ∀ x ∈ l, p x = true
  | [] => by simp
  | x :: r => by
    cases hx : p x
    · rw [List.dropWhile_cons_of_neg (by simp [hx])]
      simp [hx]
    · rw [List.dropWhile_cons_of_pos hx, dropW_nil p r]
      simp [hx]
theorem dropW_keeps (p : UInt8 → Bool) (x : UInt8) (hp : p x = false) : ∀ l : List UInt8, x ∈ l → x ∈ l.dropWhile p
  | [], h => h
  | y :: r, h => by
    cases hy : p y
    · rw [List.dropWhile_cons_of_neg (by simp [hy])]
      exact h
    · rw [List.dropWhile_cons_of_pos hy]
      rcases List.mem_cons.1 h with rfl | h
      · rw [hp] at hy; cases hy
      · exact dropW_keeps p x hp r h
theorem trim_ten (l : List UInt8) : (Lib.trimS l tenB).isEmpty = l.all digB := by
  have hd : (fun x : UInt8 => tenB.contains x) = digB := funext ten_dig
  rw [Bool.eq_iff_iff, List.isEmpty_iff]
  unfold Lib.trimS Lib.trimLeftS Lib.trimRightS
  rw [hd, dropW_nil, List.all_eq_true]
  constructor
  · intro h x hx
    cases hc : digB x
    · have := dropW_keeps digB x hc l.reverse (List.mem_reverse.2 hx)
      exact absurd (h x (List.mem_reverse.2 this)) (by rw [hc]; decide)
    · rfl
  · intro h x hx
    exact h x (List.mem_reverse.1 ((List.dropWhile_sublist _).subset (List.mem_reverse.1 hx)))

/-- A number. -/
def numB (s : List UInt8) (most : Nat) : Option Nat := if digitsOK s && decide (s.length ≤ 18) && decide (decN s ≤ most) then some (decN s) else none
def numV (s : List UInt8) (most : Nat) : Value := match numB s most with | some n => .tuple #[.int .i64 (n : Int), .bool true] | none => .tuple #[.int .i64 0, .bool false]
theorem numV_none {s : List UInt8} {most : Nat} (h : numB s most = none) : numV s most = .tuple #[.int .i64 0, .bool false] := by unfold numV; rw [h]
theorem numV_some {s : List UInt8} {most n : Nat} (h : numB s most = some n) : numV s most = .tuple #[.int .i64 (n : Int), .bool true] := by unfold numV; rw [h]
theorem decN_snoc (l : List UInt8) (x : UInt8) : decN (l ++ [x]) = 10 * decN l + (x.toNat - 48) := by
  unfold decN
  rw [List.foldl_append]
  rfl
theorem decN_eighteen {l : List UInt8} (h : l.all digB = true) (hl : l.length ≤ 18) : decN l < 1000000000000000000 := by
  have h1 := decN_lt h
  have h2 : 10 ^ l.length ≤ 10 ^ 18 := Nat.pow_le_pow_right (by decide) hl
  omega

/-- As the document splits. -/
def CutAt (c : UInt8) (l : List UInt8) (k fr : Nat) (D : List (List UInt8)) : Prop :=
  fr ≤ k ∧ (k ≤ l.length → cutC c l = D ++ cutC c (l.drop fr) ∧ ∀ j, fr ≤ j → j < k → l[j]? ≠ some c) ∧ (l.length < k → cutC c l = D)
theorem cutAt_zero (c : UInt8) (l : List UInt8) : CutAt c l 0 0 [] := ⟨Nat.le_refl _, fun _ => ⟨rfl, fun j _ h => by omega⟩, fun h => by omega⟩
theorem cutAt_over {c : UInt8} {l : List UInt8} {k fr : Nat} {D : List (List UInt8)} (h : CutAt c l k fr D) (hk : k < l.length) (hc : l[k]? ≠ some c) : CutAt c l (k + 1) fr D := by
  obtain ⟨h1, h2, h3⟩ := h
  obtain ⟨h4, h5⟩ := h2 (by omega)
  refine ⟨by omega, fun _ => ⟨h4, fun j hj1 hj2 => ?_⟩, fun h => by omega⟩
  by_cases hj : j = k
  · subst hj; exact hc
  · exact h5 j hj1 (by omega)
theorem cutAt_free {c : UInt8} {l : List UInt8} {k fr : Nat} (h : ∀ j, fr ≤ j → j < k → l[j]? ≠ some c) : ∀ x ∈ (l.take k).drop fr, x ≠ c := by
  intro x hx e
  subst e
  obtain ⟨j, hj⟩ := List.mem_iff_getElem?.1 hx
  rw [List.getElem?_drop, List.getElem?_take] at hj
  split at hj
  · exact h (fr + j) (by omega) (by assumption) hj
  · cases hj
theorem cutAt_hit {c : UInt8} {l : List UInt8} {k fr : Nat} {D : List (List UInt8)} (h : CutAt c l k fr D) (hk : k < l.length) (hc : l[k]? = some c) : CutAt c l (k + 1) (k + 1) (D ++ [(l.take k).drop fr]) := by
  obtain ⟨h1, h2, h3⟩ := h
  obtain ⟨h4, h5⟩ := h2 (by omega)
  have e : l.drop fr = (l.take k).drop fr ++ c :: l.drop (k + 1) := by
    conv => lhs; rw [← List.take_append_drop k l]
    rw [List.drop_append, List.length_take, Nat.min_eq_left (by omega), show fr - k = 0 by omega, List.drop_zero, List.drop_eq_getElem_cons hk]
    have := (List.getElem?_eq_some_iff.1 hc).2
    rw [this]
  refine ⟨Nat.le_refl _, fun _ => ⟨?_, fun j hj1 hj2 => by omega⟩, fun h => by omega⟩
  rw [h4, e, cutC_one c _ _ (cutAt_free h5), List.append_assoc]
  rfl
theorem cutAt_end {c : UInt8} {l : List UInt8} {fr : Nat} {D : List (List UInt8)} (h : CutAt c l l.length fr D) : CutAt c l (l.length + 1) (l.length + 1) (D ++ [(l.take l.length).drop fr]) := by
  obtain ⟨h1, h2, h3⟩ := h
  obtain ⟨h4, h5⟩ := h2 (Nat.le_refl _)
  have h6 := cutAt_free h5
  rw [List.take_length] at h6 ⊢
  refine ⟨Nat.le_refl _, fun h => by omega, fun _ => ?_⟩
  rw [h4, cutC_miss c _ h6]

/-- Digits without noughts ahead, as the document has it. -/
theorem bareR_nought (r : List UInt8) (h : r ≠ []) : bareR (48 :: r) = bareR r := by
  unfold bareR
  have e : bareS (48 :: r) = bareS r := by unfold bareS; rw [List.dropWhile_cons_of_pos rfl]
  rw [e]
  simp [h]
theorem bareR_one (x : UInt8) : bareR [x] = [x] := by
  unfold bareR bareS
  by_cases hx : x = 48
  · subst hx; rfl
  · rw [List.dropWhile_cons_of_neg (by simpa using hx)]
    simp
theorem bareR_head (x : UInt8) (r : List UInt8) (hx : x ≠ 48) : bareR (x :: r) = x :: r := by
  unfold bareR bareS
  rw [List.dropWhile_cons_of_neg (by simpa using hx)]
  simp
end Go.Proofs.YtonlfplloenfcaaGreatDoor
namespace Go.Proofs.YtonlfplloenfcaaGreatDoor
open Go.RowKit
attribute [local go_sem] Oper.semAt_some

/-- What a line from place k on is answered as. -/
def lineC (l : List UInt8) (k : Nat) : Value := match lineA (l.drop k) with
  | .limit => .tuple #[.string ⟨#[]⟩, .int .i64 0, .int .i64 3]
  | .short => .tuple #[.string ⟨#[]⟩, .int .i64 (-1), .int .i64 0]
  | .line n => .tuple #[.string ⟨((l.drop k).take n).toArray⟩, .int .i64 ((k + n + 2 : Nat) : Int), .int .i64 0]
theorem eol_dec (l : List UInt8) (k : Nat) (h : k + 1 < l.length) : eolAt l k ↔ (l[k].toNat = 13 ∧ l[k + 1].toNat = 10) := by
  unfold eolAt
  rw [List.getElem?_eq_getElem (by omega), List.getElem?_eq_getElem (by omega)]
  simp only [Option.some.injEq, ← UInt8.toNat_inj]
  exact Iff.rfl
theorem lineC_hit {l : List UInt8} {k i : Nat} (hk : k ≤ i) (h : eolAt l i) (hn : ∀ j, k ≤ j → j < i → ¬ eolAt l j) :
    lineC l k = if 65536 < i - k then .tuple #[.string ⟨#[]⟩, .int .i64 0, .int .i64 3] else .tuple #[.string ⟨((l.drop k).take (i - k)).toArray⟩, .int .i64 ((i + 2 : Nat) : Int), .int .i64 0] := by
  have h1 : eolAt (l.drop k) (i - k) := (eol_drop l k _).2 (by rw [Nat.add_sub_cancel' hk]; exact h)
  have h2 : ∀ j, j < i - k → ¬ eolAt (l.drop k) j := fun j hj hc => hn (k + j) (by omega) (by omega) ((eol_drop l k j).1 hc)
  unfold lineC
  split
  · rename_i h3
    rw [if_pos]
    rcases Nat.lt_or_ge 65536 (i - k) with h4 | h4
    · exact h4
    · rw [line_mk h4 h1 h2] at h3
      cases h3
  · rename_i h3
    exact absurd h1 ((line_short h3).1 _)
  · rename_i n h3
    rcases Nat.lt_or_ge 65536 (i - k) with h4 | h4
    · rw [line_far h4 h1 h2] at h3
      cases h3
    · rw [line_mk h4 h1 h2] at h3
      injection h3 with h3
      rw [if_neg (by omega), ← h3]
      have e : k + (i - k) + 2 = i + 2 := by omega
      rw [e]
theorem lineC_miss {l : List UInt8} {k : Nat} (hn : ∀ j, k ≤ j → ¬ eolAt l j) :
    lineC l k = if 65537 < l.length - k then .tuple #[.string ⟨#[]⟩, .int .i64 0, .int .i64 3] else .tuple #[.string ⟨#[]⟩, .int .i64 (-1), .int .i64 0] := by
  unfold lineC
  rw [line_no fun j hc => hn (k + j) (by omega) ((eol_drop l k j).1 hc), List.length_drop]
  by_cases h : 65537 < l.length - k
  · rw [if_pos h, if_pos h]
  · rw [if_neg h, if_neg h]

set_option maxRecDepth 100000 in
theorem r13line_any (A : Option Addr) (n c k0 : Nat) (l : List UInt8) (w : World) (h : Lies w w.heap.size A n (Lib.byteCells l)) (hc : n ≤ c) (hn : n ≤ 140737488355328) (hk0 : k0 ≤ n) :
    Calls Tryz.prog 112 #[.slice A n c, .int .i64 (k0 : Int)] w fun e w' => e = .returned (lineC l k0) ∧ w' = w := by
  have hl : l.length = n := by simpa [Lib.byteCells] using h.1
  obtain ⟨z, hz⟩ : ∃ z, z = lineC l k0 := ⟨_, rfl⟩
  rw [← hz]
  have HZ := Lib.hid hz
  clear hz
  go_enter Tryz.func112, Tryz.ntmps112
  go_wp2_with fail
  go_loopw [7] (fun i wr => ∃ k : Nat, k0 ≤ k ∧ k ≤ n ∧ i = .int .i64 k ∧ Hid (∀ j, k0 ≤ j → j < k → ¬ eolAt l j) ∧ wr = w)
    (fun i _ => n - (intOf i).toNat)
  case atStart => exact ⟨k0, Nat.le_refl _, hk0, rfl, fun j h1 h2 => by omega, rfl⟩
  case round =>
    obtain ⟨k, hkk, hk, rfl, hp, hw⟩ := hrel
    subst hw
    by_cases hlt : k + 1 < n
    · obtain ⟨b, off, rfl, hbb, hcc⟩ := h.2 (by omega)
      have hat : ∀ j (hj : j < l.length), wr.cell? ⟨b, off + j, none⟩ = some (.int .u8 (l[j].toNat : Int)) := fun j hj => by
        refine hcc j _ ?_
        unfold Lib.byteCells
        rw [List.getElem?_map, List.getElem?_eq_getElem hj]
        rfl
      have c0 := hat k (by omega)
      have c1 := hat (k + 1) (by omega)
      have he := eol_dec l k (by omega)
      have hcv : ∀ m, k0 + m ≤ n → ∀ cap, (convert 23 9 (.slice (some ⟨b, off + k0, none⟩) m cap)).run Tryz.prog wr = .ok (.string ⟨((l.drop k0).take m).toArray⟩) wr := fun m hm cap => by
        have hlen : ((l.drop k0).take m).length = m := by rw [List.length_take, List.length_drop, hl]; omega
        have := run_convert_bytes_back (P := Tryz.prog) wr 23 9 5 ⟨b, off + k0, none⟩ cap ((l.drop k0).take m) Tryz.underlying23 Tryz.underlying5 Tryz.underlying9 (fun j hj => by
          rw [Addr.add_lit, Nat.add_assoc]
          refine (hcc (k0 + j) _ ?_)
          unfold Lib.byteCells
          rw [hlen] at hj
          rw [List.getElem?_map, List.getElem?_eq_getElem (by omega)]
          simp)
        rwa [hlen] at this
      obtain ⟨x0, hx0⟩ : ∃ x, x = l[k] := ⟨_, rfl⟩
      obtain ⟨x1, hx1⟩ : ∃ x, x = l[k + 1] := ⟨_, rfl⟩
      rw [← hx0, ← hx1] at he
      rw [← hx0] at c0
      rw [← hx1] at c1
      have HE := Lib.hid he
      have HP := hp
      have HCV := Lib.hid (hcv (k - k0) (by omega) (c - k0))
      clear hx0 hx1 hat he hcv hp hcc h
      cases e0 : ((x0.toNat : Int) == 13)
      · have hs : Hid (∀ j, k0 ≤ j → j < k + 1 → ¬ eolAt l j) := fun j h1 h2 hcx => by
          rcases Nat.lt_or_ge j k with h3 | h3
          · exact HP.out j h1 h3 hcx
          · obtain rfl : j = k := by omega
            have := (HE.out.1 hcx).1
            simp at e0
            omega
        go_wp2_with fail
        go_roundw
        case rel => exact ⟨k + 1, by omega, by omega, by go_num, hs, by first | rfl | trivial⟩
        case measure => simp [intOf]; omega
      · cases e1 : ((x1.toNat : Int) == 10)
        · have hs : Hid (∀ j, k0 ≤ j → j < k + 1 → ¬ eolAt l j) := fun j h1 h2 hcx => by
            rcases Nat.lt_or_ge j k with h3 | h3
            · exact HP.out j h1 h3 hcx
            · obtain rfl : j = k := by omega
              have := (HE.out.1 hcx).2
              simp at e1
              omega
          go_wp2_with fail
          go_roundw
          case rel => exact ⟨k + 1, by omega, by omega, by go_num, hs, by first | rfl | trivial⟩
          case measure => simp [intOf]; omega
        · have hv := lineC_hit hkk (HE.out.2 ⟨by simp at e0; omega, by simp at e1; omega⟩) HP.out
          rw [← HZ.out] at hv
          have HV := Lib.hid hv
          clear hv
          by_cases hg : 65536 < k - k0
          · have hd : decide ((65536 : Int) < (k : Int) - (k0 : Int)) = true := decide_eq_true (by omega)
            have hz : z = .tuple #[.string ⟨#[]⟩, .int .i64 0, .int .i64 3] := by rw [HV.out, if_pos hg]
            subst hz
            clear HV HCV
            go_wp2_with fail
            go_ret3
            exact ⟨rfl, rfl⟩
          · have hd : decide ((65536 : Int) < (k : Int) - (k0 : Int)) = false := decide_eq_false (by omega)
            have hz : z = .tuple #[.string ⟨((l.drop k0).take (k - k0)).toArray⟩, .int .i64 ((k + 2 : Nat) : Int), .int .i64 0] := by rw [HV.out, if_neg hg]
            have HZ2 := Lib.hid hz
            have hcv := HCV.out
            clear HV HCV hz
            obtain ⟨ln, hln⟩ : ∃ ln, (l.drop k0).take (k - k0) = ln := ⟨_, rfl⟩
            rw [hln] at hcv
            have HLN := Lib.hid hln
            clear hln
            have e2 : ((k + 2 : Nat) : Int) = (k : Int) + 2 := by omega
            go_wp2_with fail
            go_ret3
            refine ⟨?_, rfl⟩
            rw [HZ2.out, HLN.out, e2]
            rfl
    · have hv := lineC_miss (l := l) (k := k0) fun j h1 hcx => by
        rcases Nat.lt_or_ge j k with h3 | h3
        · exact hp.out j h1 h3 hcx
        · have := eol_lt hcx
          omega
      rw [← HZ.out, hl] at hv
      have HV := Lib.hid hv
      clear hv hp h
      by_cases hg : 65537 < n - k0
      · have hd : decide ((65537 : Int) < (n : Int) - (k0 : Int)) = true := decide_eq_true (by omega)
        have hz : z = .tuple #[.string ⟨#[]⟩, .int .i64 0, .int .i64 3] := by rw [HV.out, if_pos hg]
        subst hz
        clear HV
        go_wp2_with fail
        go_ret3
        exact ⟨rfl, rfl⟩
      · have hd : decide ((65537 : Int) < (n : Int) - (k0 : Int)) = false := decide_eq_false (by omega)
        have hz : z = .tuple #[.string ⟨#[]⟩, .int .i64 (-1), .int .i64 0] := by rw [HV.out, if_neg hg]
        subst hz
        clear HV
        go_wp2_with fail
        go_ret3
        exact ⟨rfl, rfl⟩
end Go.Proofs.YtonlfplloenfcaaGreatDoor
namespace Go.Proofs.YtonlfplloenfcaaGreatDoor
open Go.RowKit
attribute [local go_sem] Oper.semAt_some

theorem Lies.cut {w : World} {B n m : Nat} {A : Option Addr} {l : List UInt8} (h : Lies w B A n (Lib.byteCells l)) (hm : m ≤ n) : Lies w B A m (Lib.byteCells (l.take m)) := by
  have hl : l.length = n := by simpa [Lib.byteCells] using h.1
  refine ⟨by simp [Lib.byteCells]; omega, fun h0 => ?_⟩
  obtain ⟨b, off, hA, hb, hc⟩ := h.2 (by omega)
  refine ⟨b, off, hA, hb, fun j u hj => hc j u ?_⟩
  unfold Lib.byteCells at hj ⊢
  rw [List.map_take, List.getElem?_take] at hj
  split at hj
  · exact hj
  · cases hj

set_option maxRecDepth 100000 in
theorem rget_any (A : Option Addr) (n c : Nat) (l : List UInt8) (w : World) (h : Lies w w.heap.size A n (Lib.byteCells l)) (hc : n ≤ c) (hn : n ≤ 200000) :
    Calls Tryz.prog 108 #[.slice A n c] w fun e w' =>
      (endAt l < 0 ∧ e = .returned (.tuple #[.slice none 0 0, .int .i64 0, .int .i64 (if 65536 ≤ l.length then 3 else 7)]) ∧ w' = w) ∨
      (0 ≤ endAt l ∧ (∃ v, e = .returned (.tuple #[v, .int .i64 (endAt l + 4), .int .i64 0]) ∧ w'.ownsRow w.heap.size 9 1 v (headLines l).length (strL (headLines l))) ∧ Below w.heap.size w w') := by
  have hl : l.length = n := by simpa [Lib.byteCells] using h.1
  have hW := rwhole_any A (min n 65536) c w.heap.size (l.take (min n 65536)) w (h.cut (by omega)) (by omega)
  have htk : l.take (min n 65536) = l.take 65536 := by
    rcases Nat.le_total n 65536 with h1 | h1
    · rw [Nat.min_eq_left h1, List.take_of_length_le (by omega), List.take_of_length_le (by omega)]
    · rw [Nat.min_eq_right h1]
  rw [htk] at hW
  have hval : (if 0 ≤ Lib.index (l.take 65536) headEnd then Lib.index (l.take 65536) headEnd + 4 else -1) = (if 0 ≤ endAt l then endAt l + 4 else (-1 : Int)) := rfl
  rw [hval] at hW
  clear hval htk
  by_cases hneg : 0 ≤ endAt l
  · obtain ⟨E, hE⟩ : ∃ E : Int, E = (if 65536 ≤ l.length then 3 else 7) := ⟨_, rfl⟩
    rw [← hE]
    clear hE
    obtain ⟨k, hk, hk1, hk2, hf, hfirst⟩ := endAt_spec l hneg
    rw [if_pos hneg, hk] at hW
    have hlk : headLines l = splitB ((l.take (k + 4)).take k) := by
      unfold headLines
      rw [hk, Int.toNat_natCast, List.take_take, Nat.min_eq_left (by omega)]
    have hf4 : fourAt (l.take (k + 4)) k := by
      unfold fourAt at hf ⊢
      rw [List.getElem?_take, List.getElem?_take, List.getElem?_take, List.getElem?_take, if_pos (by omega), if_pos (by omega), if_pos (by omega), if_pos (by omega)]
      exact hf
    have hR := rlines_any A (k + 4) c k (l.take (k + 4)) w (h.cut (by omega)) (by omega) rfl (by omega) hf4
    rw [← hlk] at hR
    have HR := Lib.hid hR
    have HK := Lib.hid hk
    have HN := Lib.hid hneg
    have hkn : k + 4 ≤ n := by omega
    have hkc : k + 4 ≤ c := by omega
    clear hf hf4 hfirst hlk hR hk hneg hk1 h
    rcases Nat.lt_or_ge 65536 n with hb | hb
    · rw [Nat.min_eq_right (by omega)] at hW
      have hc6 : 65536 ≤ c := by omega
      have HW := Lib.hid hW
      clear hW
      go_enter Tryz.func108, Tryz.ntmps108
      go_wp2_with fail
      refine (HW.out).mono ?_
      rintro e w1 ⟨rfl, rfl⟩
      go_wp2_with fail
      refine (HR.out).mono ?_
      rintro e w1 ⟨⟨v, rfl, hown⟩, hb1⟩
      go_wp2_with fail
      go_ret3
      exact .inr ⟨HN.out, ⟨v, by rw [HK.out]; rfl, hown⟩, hb1⟩
    · rw [Nat.min_eq_left (by omega)] at hW
      have HW := Lib.hid hW
      clear hW
      go_enter Tryz.func108, Tryz.ntmps108
      go_wp2_with fail
      refine (HW.out).mono ?_
      rintro e w1 ⟨rfl, rfl⟩
      go_wp2_with fail
      refine (HR.out).mono ?_
      rintro e w1 ⟨⟨v, rfl, hown⟩, hb1⟩
      go_wp2_with fail
      go_ret3
      exact .inr ⟨HN.out, ⟨v, by rw [HK.out]; rfl, hown⟩, hb1⟩
  · have hng : endAt l < 0 := by omega
    rw [if_neg hneg] at hW
    have HN := Lib.hid hng
    clear hng hneg h
    rcases Nat.lt_or_ge 65536 n with hb | hb
    · rw [Nat.min_eq_right (by omega)] at hW
      have hc6 : 65536 ≤ c := by omega
      have hb3 : (65536 : Int) ≤ (n : Int) := by omega
      have hE : (if 65536 ≤ l.length then 3 else 7 : Int) = 3 := by rw [if_pos (by omega)]
      rw [hE]
      have HW := Lib.hid hW
      clear hW hE
      go_enter Tryz.func108, Tryz.ntmps108
      go_wp2_with fail
      refine (HW.out).mono ?_
      rintro e w1 ⟨rfl, rfl⟩
      go_wp2_with fail
      go_ret3
      exact .inl ⟨HN.out, rfl, rfl⟩
    · rw [Nat.min_eq_left (by omega)] at hW
      rcases Nat.lt_or_ge n 65536 with hb2 | hb2
      · have hb3 : decide ((65536 : Int) ≤ (n : Int)) = false := decide_eq_false (by omega)
        have hb4 : ¬ (65536 : Int) ≤ (n : Int) := by omega
        have hb5 : (n : Int) < 65536 := by omega
        have hE : (if 65536 ≤ l.length then 3 else 7 : Int) = 7 := by rw [if_neg (by omega)]
        rw [hE]
        have HW := Lib.hid hW
        clear hW hE
        go_enter Tryz.func108, Tryz.ntmps108
        go_wp2_with fail
        refine (HW.out).mono ?_
        rintro e w1 ⟨rfl, rfl⟩
        go_wp2_with fail
        go_ret3
        exact .inl ⟨HN.out, rfl, rfl⟩
      · have hb3 : (65536 : Int) ≤ (n : Int) := by omega
        have hE : (if 65536 ≤ l.length then 3 else 7 : Int) = 3 := by rw [if_pos (by omega)]
        rw [hE]
        have HW := Lib.hid hW
        clear hW hE
        go_enter Tryz.func108, Tryz.ntmps108
        go_wp2_with fail
        refine (HW.out).mono ?_
        rintro e w1 ⟨rfl, rfl⟩
        go_wp2_with fail
        go_ret3
        exact .inl ⟨HN.out, rfl, rfl⟩
end Go.Proofs.YtonlfplloenfcaaGreatDoor
