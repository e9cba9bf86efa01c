/-
  footmanref01.Trim.
-/
import Derived.Test.YtonlfplloenfcaaGreatDoorRefTok
import Derived.Lib.IndexBytes
namespace Go.Proofs.YtonlfplloenfcaaGreatDoor
open Go.RowKit

theorem bytes_cons (t : ByteArray) (h : 0 < t.size) : t.data.toList = t[0] :: (t.extract 1 t.size).data.toList := by
  rw [Lib.extract_to_end]
  have e : t.data.toList[0]? = some t[0] := List.getElem?_eq_getElem (by simpa using h)
  cases hl : t.data.toList with
  | nil => rw [hl] at e; simp at e
  | cons x r => rw [hl] at e; simp at e; simp [e]
theorem bytes_snoc (t : ByteArray) (h : 0 < t.size) : t.data.toList = (t.extract 0 (t.size - 1)).data.toList ++ [t[t.size - 1]] := by
  have hl : t.data.toList.length = t.size := rfl
  rw [Lib.extract_data, Nat.sub_zero, List.drop_zero]
  have e : t.data.toList[t.size - 1]? = some t[t.size - 1] := List.getElem?_eq_getElem (by rw [hl]; omega)
  conv => lhs; rw [← List.take_append_drop (t.size - 1) t.data.toList]
  congr 1
  apply List.ext_getElem?
  intro j
  rw [List.getElem?_drop]
  match j with
  | 0 => simpa using e
  | j + 1 => rw [List.getElem?_eq_none (by rw [hl]; omega)]; rfl
theorem bytes_nil (t : ByteArray) (h : t.size = 0) : t.data.toList = [] := List.eq_nil_of_length_eq_zero h
theorem bytes_ext {a b : ByteArray} (h : a.data.toList = b.data.toList) : a = b := by
  obtain ⟨⟨a⟩⟩ := a
  obtain ⟨⟨b⟩⟩ := b
  simp only at h
  rw [h]
theorem bytes_mk (t : ByteArray) (l : List UInt8) (h : t.data.toList = l) : t = ⟨l.toArray⟩ := bytes_ext (by simp [h])
theorem extract_size_le (t : ByteArray) (a b : Nat) : (t.extract a b).size ≤ t.size := by
  have h := congrArg List.length (Lib.extract_data t a b)
  rw [List.length_take, List.length_drop] at h
  have e1 : (t.extract a b).data.toList.length = (t.extract a b).size := rfl
  have e2 : t.data.toList.length = t.size := rfl
  omega
theorem extract_size_one (t : ByteArray) (h : 0 < t.size) : (t.extract 1 t.size).size = t.size - 1 := by
  have h := congrArg List.length (Lib.extract_data t 1 t.size)
  rw [List.length_take, List.length_drop] at h
  have e1 : (t.extract 1 t.size).data.toList.length = (t.extract 1 t.size).size := rfl
  have e2 : t.data.toList.length = t.size := rfl
  omega
theorem extract_size_last (t : ByteArray) (h : 0 < t.size) : (t.extract 0 (t.size - 1)).size = t.size - 1 := by
  have h := congrArg List.length (Lib.extract_data t 0 (t.size - 1))
  rw [List.length_take, List.length_drop] at h
  have e1 : (t.extract 0 (t.size - 1)).data.toList.length = (t.extract 0 (t.size - 1)).size := rfl
  have e2 : t.data.toList.length = t.size := rfl
  omega

/-- Behind the first loop. -/
def TrimB (s t : ByteArray) : Prop := (t.data.toList.reverse.dropWhile blankB).reverse = trimmed s.data.toList
theorem trimB_start {s t : ByteArray} (h : t.data.toList.dropWhile blankB = s.data.toList.dropWhile blankB) (hn : t.data.toList.dropWhile blankB = t.data.toList) : TrimB s t := by
  unfold TrimB
  rw [trimmed_eq, ← h, hn]
theorem trimB_step {s t : ByteArray} (h : TrimB s t) (h0 : 0 < t.size) (hb : blankB t[t.size - 1] = true) : TrimB s (t.extract 0 (t.size - 1)) := by
  unfold TrimB at h ⊢
  rw [← h]
  conv => rhs; rw [bytes_snoc t h0]
  rw [List.reverse_append]
  simp [hb]
theorem trimB_done {s t : ByteArray} (h : TrimB s t) (hb : ∀ h0 : 0 < t.size, blankB t[t.size - 1] = false) : t = ⟨(trimmed s.data.toList).toArray⟩ := by
  refine bytes_mk t _ ?_
  unfold TrimB at h
  rw [← h]
  rcases Nat.eq_zero_or_pos t.size with h0 | h0
  · rw [bytes_nil t h0]; rfl
  · have hb := hb h0
    conv => rhs; rw [bytes_snoc t h0]
    conv => lhs; rw [bytes_snoc t h0]
    rw [List.reverse_append]
    simp [hb]

set_option maxRecDepth 100000 in
theorem rtrim_any (s : ByteArray) (w : World) (hs : s.size ≤ 140737488355328) :
   Calls Tryz.prog 78 #[.string s] w fun e w' => e = .returned (.string ⟨(trimmed s.data.toList).toArray⟩) ∧ ∃ q, w' = w.drewN q := by
  go_enter Tryz.func78, Tryz.ntmps78
  go_wp2_with fail
  go_loopw [0] (fun v wr => ∃ t : ByteArray, v = .string t ∧ t.size ≤ s.size ∧ Hid (t.data.toList.dropWhile blankB = s.data.toList.dropWhile blankB) ∧ ∃ q, wr = w.drewN q) (fun v _ => Lib.strSize v)
  case atStart => exact ⟨s, rfl, Nat.le_refl _, rfl, 0, rfl⟩
  case round =>
    obtain ⟨t, rfl, htz, ht, q, rfl⟩ := hrel
    by_cases h0 : 0 < t.size
    · have hcons := bytes_cons t h0
      cases hb : blankB t[0]
      · have hst : TrimB s t := trimB_start ht.out (by rw [hcons]; simp [List.dropWhile, hb])
        have HST := Lib.hid hst
        have HB := Lib.hid hb
        clear hb hst ht hcons
        go_wp2_with fail
        refine (blank_any _ _).mono ?_
        rintro e w' ⟨rfl, rfl⟩
        rw [HB.out]
        go_wp2_with fail
        go_loopw [0] (fun v wr => ∃ t : ByteArray, v = .string t ∧ t.size ≤ s.size ∧ Hid (TrimB s t) ∧ ∃ q, wr = w.drewN q) (fun v _ => Lib.strSize v)
        case atStart => exact ⟨t, rfl, htz, HST, _, rfl⟩
        case round =>
          clear htz HST
          clear q
          obtain ⟨t, rfl, htz, ht, q, rfl⟩ := hrel
          by_cases h0 : 0 < t.size
          · have hz1 := extract_size_last t h0
            have hix : (t.size : Int) - 1 = ((t.size - 1 : Nat) : Int) := by omega
            cases hb : blankB t[t.size - 1]
            · have hst := trimB_done ht.out (fun _ => hb)
              have HST := Lib.hid hst
              have HB := Lib.hid hb
              clear hb hst ht hz1
              go_wp2_with fail
              refine (blank_any _ _).mono ?_
              rintro e w' ⟨rfl, rfl⟩
              rw [HB.out]
              go_wp2_with fail
              go_ret
              exact ⟨ret_str HST.out, _, rfl⟩
            · have hst := trimB_step ht.out h0 hb
              have HST := Lib.hid hst
              have HB := Lib.hid hb
              have HZ := Lib.hid hz1
              clear hb hst ht hz1
              go_wp2_with fail
              refine (blank_any _ _).mono ?_
              rintro e w' ⟨rfl, rfl⟩
              rw [HB.out]
              go_wp2_with fail
              go_roundw
              case rel => exact ⟨_, rfl, by rw [HZ.out]; omega, HST, _, rfl⟩
              case measure => simp only [Lib.strSize_string]; rw [HZ.out]; omega
          · have hst := trimB_done ht.out (fun h => absurd h h0)
            have HST := Lib.hid hst
            clear hst ht
            go_wp2_with fail
            go_ret
            exact ⟨ret_str HST.out, _, rfl⟩
      · have hst : (t.extract 1 t.size).data.toList.dropWhile blankB = s.data.toList.dropWhile blankB := by
          rw [← ht.out, hcons]; simp [List.dropWhile, hb]
        have hz1 := extract_size_one t h0
        have HST := Lib.hid hst
        have HB := Lib.hid hb
        have HZ := Lib.hid hz1
        clear hb hst ht hcons hz1
        go_wp2_with fail
        refine (blank_any _ _).mono ?_
        rintro e w' ⟨rfl, rfl⟩
        rw [HB.out]
        go_wp2_with fail
        go_roundw
        case rel => exact ⟨_, rfl, by rw [HZ.out]; omega, HST.out, _, rfl⟩
        case measure => simp only [Lib.strSize_string]; rw [HZ.out]; omega
    · have h1 : t.size = 0 := by omega
      have hst : TrimB s t := trimB_start ht.out (by rw [bytes_nil t h1]; rfl)
      have HST := Lib.hid hst
      clear hst ht h1
      go_wp2_with fail
      go_loopw [0] (fun v wr => ∃ t : ByteArray, v = .string t ∧ t.size ≤ s.size ∧ Hid (TrimB s t) ∧ ∃ q, wr = w.drewN q) (fun v _ => Lib.strSize v)
      case atStart => exact ⟨t, rfl, htz, HST, _, rfl⟩
      case round =>
        clear htz HST
        clear q
        obtain ⟨t, rfl, htz, ht, q, rfl⟩ := hrel
        by_cases h0 : 0 < t.size
        · have hz1 := extract_size_last t h0
          have hix : (t.size : Int) - 1 = ((t.size - 1 : Nat) : Int) := by omega
          cases hb : blankB t[t.size - 1]
          · have hst := trimB_done ht.out (fun _ => hb)
            have HST := Lib.hid hst
            have HB := Lib.hid hb
            clear hb hst ht hz1
            go_wp2_with fail
            refine (blank_any _ _).mono ?_
            rintro e w' ⟨rfl, rfl⟩
            rw [HB.out]
            go_wp2_with fail
            go_ret
            exact ⟨ret_str HST.out, _, rfl⟩
          · have hst := trimB_step ht.out h0 hb
            have HST := Lib.hid hst
            have HB := Lib.hid hb
            have HZ := Lib.hid hz1
            clear hb hst ht hz1
            go_wp2_with fail
            refine (blank_any _ _).mono ?_
            rintro e w' ⟨rfl, rfl⟩
            rw [HB.out]
            go_wp2_with fail
            go_roundw
            case rel => exact ⟨_, rfl, by rw [HZ.out]; omega, HST, _, rfl⟩
            case measure => simp only [Lib.strSize_string]; rw [HZ.out]; omega
        · have hst := trimB_done ht.out (fun h => absurd h h0)
          have HST := Lib.hid hst
          clear hst ht
          go_wp2_with fail
          go_ret
          exact ⟨ret_str HST.out, _, rfl⟩
end Go.Proofs.YtonlfplloenfcaaGreatDoor
