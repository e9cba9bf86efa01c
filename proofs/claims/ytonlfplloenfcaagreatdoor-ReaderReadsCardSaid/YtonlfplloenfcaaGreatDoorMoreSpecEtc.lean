/-
  What the reading of a head answers at the texts that the outright statements make, in plain words: no program stands here.
  A response's first line, as the program asks it, in plain words: no program stands here.
  footmanref01.Trim.
-/
import Derived.Test.YtonlfplloenfcaaGreatDoorHeadSpec
import Derived.Test.YtonlfplloenfcaaGreatDoorLinesEtc
import Derived.Test.YtonlfplloenfcaaGreatDoorStatSpecEtc
import Derived.Lib.AtoiTie
import Derived.Lib.IndexBytes
namespace Go.Proofs.YtonlfplloenfcaaGreatDoor

/-- What stands behind a head that ends makes no difference. -/
theorem more_same (b r : List UInt8) (h : 0 ≤ endAt b) : endAt (b ++ r) = endAt b ∧ headLines (b ++ r) = headLines b := by
  obtain ⟨k, hk, h1, h2, hf, hn⟩ := endAt_spec b h
  have key : ∀ j, j ≤ k → (fourAt ((b ++ r).take 65536) j ↔ fourAt b j) := by
    intro j hj
    unfold fourAt
    rw [List.getElem?_take, List.getElem?_take, List.getElem?_take, List.getElem?_take, if_pos (by omega), if_pos (by omega), if_pos (by omega), if_pos (by omega),
      List.getElem?_append_left (by omega), List.getElem?_append_left (by omega), List.getElem?_append_left (by omega), List.getElem?_append_left (by omega)]
  have he : endAt (b ++ r) = k := by
    unfold endAt
    exact four_first ((key k (Nat.le_refl _)).2 hf) fun j hj hc => hn j hj ((key j (by omega)).1 hc)
  refine ⟨by rw [he, hk], ?_⟩
  unfold headLines
  rw [he, hk, Int.toNat_natCast, List.take_append_of_le_length (by omega)]
theorem readE_pos {ok : List UInt8 → Bool} {l : List UInt8} (h : 0 ≤ endAt l) : readE ok l = if !(ok ((headLines l).headD [])) || !((headLines l).tail.all fieldOK) then 8 else if 256 < (headLines l).tail.length then 3 else 0 := by
  unfold readE
  rw [if_neg (by omega)]
theorem more_read {ok : List UInt8 → Bool} {b : List UInt8} (r : List UInt8) (h : 0 ≤ endAt b) : readE ok (b ++ r) = readE ok b ∧ readF (b ++ r) = readF b ∧ (headLines (b ++ r)).headD [] = (headLines b).headD [] := by
  obtain ⟨h1, h2⟩ := more_same b r h
  rw [readE_pos h, readE_pos (by rw [h1]; exact h)]
  unfold readF
  rw [h2]
  exact ⟨rfl, rfl, rfl⟩
theorem end_of_read {ok : List UInt8 → Bool} {l : List UInt8} (h : readE ok l ≠ 7) (hl : l.length < 65536) : 0 ≤ endAt l := by
  rcases Int.lt_or_le (endAt l) 0 with h1 | h1
  · exact absurd (by unfold readE; rw [if_pos h1, if_neg (by omega)]) h
  · exact h1
theorem end_le (l : List UInt8) (h : 0 ≤ endAt l) : endAt l + 4 ≤ l.length := by
  obtain ⟨k, hk, h1, h2, hf, hn⟩ := endAt_spec l h
  omega
end Go.Proofs.YtonlfplloenfcaaGreatDoor
namespace Go.Proofs.YtonlfplloenfcaaGreatDoor

theorem trimS_nil (l cs : List UInt8) : (Lib.trimS l cs = []) ↔ ∀ x ∈ l, cs.contains x = true := by
  unfold Lib.trimS Lib.trimLeftS Lib.trimRightS
  rw [dropWhile_nil]
  constructor
  · intro h x hx
    by_cases h2 : l.reverse.dropWhile (fun x => cs.contains x) = []
    · exact (dropWhile_nil _ _).1 h2 x (List.mem_reverse.2 hx)
    · cases h3 : l.reverse.dropWhile (fun x => cs.contains x) with
      | nil => exact absurd h3 h2
      | cons y r =>
        have h4 : cs.contains y = true := h y (by rw [h3]; simp)
        have h5 : ¬ cs.contains y = true := by
          have := List.head?_dropWhile_not (fun x => cs.contains x) l.reverse
          rw [h3] at this
          simpa using this
        exact absurd h4 h5
  · intro h x hx
    have := (List.dropWhile_sublist _).mem (List.mem_reverse.1 hx)
    exact h x (List.mem_reverse.1 this)
def digsB : List UInt8 := [48, 49, 50, 51, 52, 53, 54, 55, 56, 57]
theorem digs_eq (x : UInt8) : digsB.contains x = digB x := by
  have h := all_bytes (p := fun x => digsB.contains x == digB x) (by decide +kernel) x
  simpa using h
theorem one_eq (x : UInt8) : ([48, 49] : List UInt8).contains x = (x == 48 || x == 49) := by
  have h := all_bytes (p := fun x => ([48, 49] : List UInt8).contains x == (x == 48 || x == 49)) (by decide +kernel) x
  simpa using h
theorem trim_one (x : UInt8) : (Lib.trimS [x] [48, 49]).isEmpty = (x == 48 || x == 49) := by
  rw [← one_eq, Bool.eq_iff_iff, List.isEmpty_iff, trimS_nil]
  simp
theorem trim_digs (l : List UInt8) : (Lib.trimS l digsB).isEmpty = l.all digB := by
  rw [Bool.eq_iff_iff, List.isEmpty_iff, trimS_nil, List.all_eq_true]
  exact ⟨fun h x hx => by rw [← digs_eq]; exact h x hx, fun h x hx => by rw [digs_eq]; exact h x hx⟩
theorem atoi_fin : ∀ a b c : Fin 10, Lib.atoi [UInt8.ofNat (48 + a.val), UInt8.ofNat (48 + b.val), UInt8.ofNat (48 + c.val)] = some ((100 * a.val + 10 * b.val + c.val : Nat) : Int) := by decide +kernel
theorem dig_form (x : UInt8) (h : digB x = true) : ∃ a : Fin 10, x = UInt8.ofNat (48 + a.val) ∧ x.toNat = 48 + a.val := by
  unfold digB at h
  simp only [Bool.and_eq_true, decide_eq_true_eq, UInt8.le_iff_toNat_le] at h
  have x48 : (48 : UInt8).toNat = 48 := rfl
  have x57 : (57 : UInt8).toNat = 57 := rfl
  refine ⟨⟨x.toNat - 48, by omega⟩, ?_, by show x.toNat = 48 + (x.toNat - 48); omega⟩
  show x = UInt8.ofNat (48 + (x.toNat - 48))
  rw [show 48 + (x.toNat - 48) = x.toNat by omega]
  simp
theorem atoi_three {a b c : UInt8} (ha : digB a = true) (hb : digB b = true) (hc : digB c = true) :
    Lib.atoi [a, b, c] = some ((100 * (a.toNat - 48) + 10 * (b.toNat - 48) + (c.toNat - 48) : Nat) : Int) := by
  obtain ⟨a', ea, na⟩ := dig_form a ha
  obtain ⟨b', eb, nb⟩ := dig_form b hb
  obtain ⟨c', ec, nc⟩ := dig_form c hc
  rw [na, nb, nc, ea, eb, ec, atoi_fin]
  congr 1
  omega
theorem atoi_all {l : List UInt8} {v : Int} (hl : l.length ≤ 18) (h : Lib.atoi l = some v) : Lib.atoiAll l = .ok v := by
  rw [Lib.atoiAll_short l hl, h]
  rfl
/-- The tests that the program makes, of a line that is long enough. -/
theorem status_asks {l : List UInt8} (h : 12 ≤ l.length) : statusOK l = (Lib.hasPrefix l httpB && ((l.getD 7 0 == 48 || l.getD 7 0 == 49) && (l.getD 8 0 == 32 && (plainB l &&
    ((digB (l.getD 9 0) && (digB (l.getD 10 0) && digB (l.getD 11 0))) && (l.getD 9 0 != 48 && (decide (l.length = 12) || l.getD 12 0 == 32))))))) := by
  rw [status_long h, prefix_take]
  have e : httpB.length = 7 := rfl
  rw [e]
  generalize (l.take 7 == httpB) = a
  generalize (l.getD 7 0 == 48 || l.getD 7 0 == 49) = b
  generalize (l.getD 8 0 == 32) = c
  generalize (digB (l.getD 9 0) && (digB (l.getD 10 0) && digB (l.getD 11 0))) = d
  generalize (l.getD 9 0 != 48) = f
  generalize (decide (l.length = 12) || l.getD 12 0 == 32) = g
  generalize plainB l = p
  cases a <;> cases b <;> cases c <;> cases d <;> cases f <;> cases g <;> cases p <;> rfl
theorem first_digit {a b c : UInt8} (ha : digB a = true) (hb : digB b = true) (hc : digB c = true) : (a != 48) = decide (100 ≤ 100 * (a.toNat - 48) + 10 * (b.toNat - 48) + (c.toNat - 48)) := by
  obtain ⟨a', ea, na⟩ := dig_form a ha
  obtain ⟨b', eb, nb⟩ := dig_form b hb
  obtain ⟨c', ec, nc⟩ := dig_form c hc
  have hb' := b'.isLt
  have hc' := c'.isLt
  rw [Bool.eq_iff_iff, bne_iff_ne, decide_eq_true_iff, na, nb, nc]
  constructor
  · intro h
    have : a'.val ≠ 0 := fun h0 => h (by rw [ea, h0]; rfl)
    omega
  · intro h e
    rw [e] at na
    have : (48 : UInt8).toNat = 48 := rfl
    omega
end Go.Proofs.YtonlfplloenfcaaGreatDoor
namespace Go.Proofs.YtonlfplloenfcaaGreatDoor
open Go.RowKit

theorem bytes_cons (t : ByteArray) (h : 0 < t.size) : t.data.toList = t[0] :: (t.extract 1 t.size).data.toList := by
  rw [Lib.extract_to_end]
  have e : t.data.toList[0]? = some t[0] := List.getElem?_eq_getElem (by simpa using h)
  cases hl : t.data.toList with
  | nil => rw [hl] at e; simp at e
  | cons x r => rw [hl] at e; simp at e; simp [e]
theorem bytes_snoc (t : ByteArray) (h : 0 < t.size) : t.data.toList = (t.extract 0 (t.size - 1)).data.toList ++ [t[t.size - 1]] := by
  have hl : t.data.toList.length = t.size := rfl
  rw [Lib.extract_data, Nat.sub_zero, List.drop_zero]
  have e : t.data.toList[t.size - 1]? = some t[t.size - 1] := List.getElem?_eq_getElem (by rw [hl]; omega)
  conv => lhs; rw [← List.take_append_drop (t.size - 1) t.data.toList]
  congr 1
  apply List.ext_getElem?
  intro j
  rw [List.getElem?_drop]
  match j with
  | 0 => simpa using e
  | j + 1 => rw [List.getElem?_eq_none (by rw [hl]; omega)]; rfl
theorem bytes_nil (t : ByteArray) (h : t.size = 0) : t.data.toList = [] := List.eq_nil_of_length_eq_zero h
theorem bytes_ext {a b : ByteArray} (h : a.data.toList = b.data.toList) : a = b := by
  obtain ⟨⟨a⟩⟩ := a
  obtain ⟨⟨b⟩⟩ := b
  simp only at h
  rw [h]
theorem bytes_mk (t : ByteArray) (l : List UInt8) (h : t.data.toList = l) : t = ⟨l.toArray⟩ := bytes_ext (by simp [h])
theorem extract_size_le (t : ByteArray) (a b : Nat) : (t.extract a b).size ≤ t.size := by
  have h := congrArg List.length (Lib.extract_data t a b)
  rw [List.length_take, List.length_drop] at h
  have e1 : (t.extract a b).data.toList.length = (t.extract a b).size := rfl
  have e2 : t.data.toList.length = t.size := rfl
  omega
theorem extract_size_one (t : ByteArray) (h : 0 < t.size) : (t.extract 1 t.size).size = t.size - 1 := by
  have h := congrArg List.length (Lib.extract_data t 1 t.size)
  rw [List.length_take, List.length_drop] at h
  have e1 : (t.extract 1 t.size).data.toList.length = (t.extract 1 t.size).size := rfl
  have e2 : t.data.toList.length = t.size := rfl
  omega
theorem extract_size_last (t : ByteArray) (h : 0 < t.size) : (t.extract 0 (t.size - 1)).size = t.size - 1 := by
  have h := congrArg List.length (Lib.extract_data t 0 (t.size - 1))
  rw [List.length_take, List.length_drop] at h
  have e1 : (t.extract 0 (t.size - 1)).data.toList.length = (t.extract 0 (t.size - 1)).size := rfl
  have e2 : t.data.toList.length = t.size := rfl
  omega

/-- Behind the first loop. -/
def TrimB (s t : ByteArray) : Prop := (t.data.toList.reverse.dropWhile blankB).reverse = trimmed s.data.toList
theorem trimB_start {s t : ByteArray} (h : t.data.toList.dropWhile blankB = s.data.toList.dropWhile blankB) (hn : t.data.toList.dropWhile blankB = t.data.toList) : TrimB s t := by
  unfold TrimB
  rw [trimmed_eq, ← h, hn]
theorem trimB_step {s t : ByteArray} (h : TrimB s t) (h0 : 0 < t.size) (hb : blankB t[t.size - 1] = true) : TrimB s (t.extract 0 (t.size - 1)) := by
  unfold TrimB at h ⊢
  rw [← h]
  conv => rhs; rw [bytes_snoc t h0]
  rw [List.reverse_append]
  simp [hb]
theorem trimB_done {s t : ByteArray} (h : TrimB s t) (hb : ∀ h0 : 0 < t.size, blankB t[t.size - 1] = false) : t = ⟨(trimmed s.data.toList).toArray⟩ := by
  refine bytes_mk t _ ?_
  unfold TrimB at h
  rw [← h]
  rcases Nat.eq_zero_or_pos t.size with h0 | h0
  · rw [bytes_nil t h0]; rfl
  · have hb := hb h0
    conv => rhs; rw [bytes_snoc t h0]
    conv => lhs; rw [bytes_snoc t h0]
    rw [List.reverse_append]
    simp [hb]

set_option maxRecDepth 100000 in
theorem rtrim_any (s : ByteArray) (w : World) (hs : s.size ≤ 140737488355328) :
   Calls Tryz.prog 78 #[.string s] w fun e w' => e = .returned (.string ⟨(trimmed s.data.toList).toArray⟩) ∧ ∃ q, w' = w.drewN q := by
  go_enter Tryz.func78, Tryz.ntmps78
  go_wp2_with fail
  go_loopw [0] (fun v wr => ∃ t : ByteArray, v = .string t ∧ t.size ≤ s.size ∧ Hid (t.data.toList.dropWhile blankB = s.data.toList.dropWhile blankB) ∧ ∃ q, wr = w.drewN q) (fun v _ => Lib.strSize v)
  case atStart => exact ⟨s, rfl, Nat.le_refl _, rfl, 0, rfl⟩
  case round =>
    obtain ⟨t, rfl, htz, ht, q, rfl⟩ := hrel
    by_cases h0 : 0 < t.size
    · have hcons := bytes_cons t h0
      cases hb : blankB t[0]
      · have hst : TrimB s t := trimB_start ht.out (by rw [hcons]; simp [List.dropWhile, hb])
        have HST := Lib.hid hst
        have HB := Lib.hid hb
        clear hb hst ht hcons
        go_wp2_with fail
        refine (blank_any _ _).mono ?_
        rintro e w' ⟨rfl, rfl⟩
        rw [HB.out]
        go_wp2_with fail
        go_loopw [0] (fun v wr => ∃ t : ByteArray, v = .string t ∧ t.size ≤ s.size ∧ Hid (TrimB s t) ∧ ∃ q, wr = w.drewN q) (fun v _ => Lib.strSize v)
        case atStart => exact ⟨t, rfl, htz, HST, _, rfl⟩
        case round =>
          clear htz HST
          clear q
          obtain ⟨t, rfl, htz, ht, q, rfl⟩ := hrel
          by_cases h0 : 0 < t.size
          · have hz1 := extract_size_last t h0
            have hix : (t.size : Int) - 1 = ((t.size - 1 : Nat) : Int) := by omega
            cases hb : blankB t[t.size - 1]
            · have hst := trimB_done ht.out (fun _ => hb)
              have HST := Lib.hid hst
              have HB := Lib.hid hb
              clear hb hst ht hz1
              go_wp2_with fail
              refine (blank_any _ _).mono ?_
              rintro e w' ⟨rfl, rfl⟩
              rw [HB.out]
              go_wp2_with fail
              go_ret
              exact ⟨ret_str HST.out, _, rfl⟩
            · have hst := trimB_step ht.out h0 hb
              have HST := Lib.hid hst
              have HB := Lib.hid hb
              have HZ := Lib.hid hz1
              clear hb hst ht hz1
              go_wp2_with fail
              refine (blank_any _ _).mono ?_
              rintro e w' ⟨rfl, rfl⟩
              rw [HB.out]
              go_wp2_with fail
              go_roundw
              case rel => exact ⟨_, rfl, by rw [HZ.out]; omega, HST, _, rfl⟩
              case measure => simp only [Lib.strSize_string]; rw [HZ.out]; omega
          · have hst := trimB_done ht.out (fun h => absurd h h0)
            have HST := Lib.hid hst
            clear hst ht
            go_wp2_with fail
            go_ret
            exact ⟨ret_str HST.out, _, rfl⟩
      · have hst : (t.extract 1 t.size).data.toList.dropWhile blankB = s.data.toList.dropWhile blankB := by
          rw [← ht.out, hcons]; simp [List.dropWhile, hb]
        have hz1 := extract_size_one t h0
        have HST := Lib.hid hst
        have HB := Lib.hid hb
        have HZ := Lib.hid hz1
        clear hb hst ht hcons hz1
        go_wp2_with fail
        refine (blank_any _ _).mono ?_
        rintro e w' ⟨rfl, rfl⟩
        rw [HB.out]
        go_wp2_with fail
        go_roundw
        case rel => exact ⟨_, rfl, by rw [HZ.out]; omega, HST.out, _, rfl⟩
        case measure => simp only [Lib.strSize_string]; rw [HZ.out]; omega
    · have h1 : t.size = 0 := by omega
      have hst : TrimB s t := trimB_start ht.out (by rw [bytes_nil t h1]; rfl)
      have HST := Lib.hid hst
      clear hst ht h1
      go_wp2_with fail
      go_loopw [0] (fun v wr => ∃ t : ByteArray, v = .string t ∧ t.size ≤ s.size ∧ Hid (TrimB s t) ∧ ∃ q, wr = w.drewN q) (fun v _ => Lib.strSize v)
      case atStart => exact ⟨t, rfl, htz, HST, _, rfl⟩
      case round =>
        clear htz HST
        clear q
        obtain ⟨t, rfl, htz, ht, q, rfl⟩ := hrel
        by_cases h0 : 0 < t.size
        · have hz1 := extract_size_last t h0
          have hix : (t.size : Int) - 1 = ((t.size - 1 : Nat) : Int) := by omega
          cases hb : blankB t[t.size - 1]
          · have hst := trimB_done ht.out (fun _ => hb)
            have HST := Lib.hid hst
            have HB := Lib.hid hb
            clear hb hst ht hz1
            go_wp2_with fail
            refine (blank_any _ _).mono ?_
            rintro e w' ⟨rfl, rfl⟩
            rw [HB.out]
            go_wp2_with fail
            go_ret
            exact ⟨ret_str HST.out, _, rfl⟩
          · have hst := trimB_step ht.out h0 hb
            have HST := Lib.hid hst
            have HB := Lib.hid hb
            have HZ := Lib.hid hz1
            clear hb hst ht hz1
            go_wp2_with fail
            refine (blank_any _ _).mono ?_
            rintro e w' ⟨rfl, rfl⟩
            rw [HB.out]
            go_wp2_with fail
            go_roundw
            case rel => exact ⟨_, rfl, by rw [HZ.out]; omega, HST, _, rfl⟩
            case measure => simp only [Lib.strSize_string]; rw [HZ.out]; omega
        · have hst := trimB_done ht.out (fun h => absurd h h0)
          have HST := Lib.hid hst
          clear hst ht
          go_wp2_with fail
          go_ret
          exact ⟨ret_str HST.out, _, rfl⟩
end Go.Proofs.YtonlfplloenfcaaGreatDoor
