/-
  HeadsLimit: the walk.
-/
import Derived.Test.YtonlfplloenfcaaGreatDoorHGetEtc
import Derived.Test.YtonlfplloenfcaaGreatDoorMoreSpec
import Derived.Test.YtonlfplloenfcaaGreatDoorChars
import Derived.Test.YtonlfplloenfcaaGreatDoorWord
import Derived.Test.YtonlfplloenfcaaGreatDoorRefHead
import Derived.Test.YtonlfplloenfcaaGreatDoorKind
import Derived.Lib.AppendStr
namespace Go.Proofs.YtonlfplloenfcaaGreatDoor
open Go.RowKit

def sliceLen : Value → Nat
  | .slice _ n _ => n
  | _ => 0
set_option maxRecDepth 100000 in
set_option maxHeartbeats 4000000 in
theorem headslimit_any (s : ByteArray) (z : Nat) (w : World) (hz : z < 4294967296) (hs : s.size ≤ 140737488355328) (hm : MaxOk w) (hmg : maxG < w.heap.size) (he : ErrOk w) (heg : errG < w.heap.size) :
    Calls Tryz.prog 12 #[.string s, .int .u32 (z : Int)] w fun e w' => e = .returned (.bool true) ∧ Below w.heap.size w w' := by
  have HM := Lib.hid hm
  have HE := Lib.hid he
  have HA := Lib.hid (fun (W : World) (hb : Below w.heap.size w W) => alive_any W (hm.below hb hmg) (Nat.lt_of_lt_of_le hmg hb.size) (he.below hb heg) (Nat.lt_of_lt_of_le heg hb.size))
  clear hm he
  obtain ⟨i0, hi, hz0, hz1, hz2⟩ := info_parts infoU
  go_enter Tryz.func12, Tryz.ntmps12
  go_wp2_with fail
  go_loopw [5] (fun i wr => ∃ k : Nat, k ≤ s.size ∧ i = .int .i64 k ∧ Hid (∀ x ∈ s.data.toList.take k, x ≠ 10) ∧ wr = w) (fun i _ => s.size - (intOf i).toNat)
  case atStart => exact ⟨0, Nat.zero_le _, rfl, by simp [Hid], rfl⟩
  case round =>
    obtain ⟨k, hk, rfl, hp, rfl⟩ := hrel
    by_cases hlt : k < s.size
    · by_cases h10 : s[k] = 10
      · have hd : ((s[k].toNat : Int) == 10) = true := by rw [h10]; rfl
        go_wp2_with fail
        refine (HA.out _ (Below.refl _ _)).mono ?_
        rintro e w1 ⟨rfl, hb1⟩
        go_wp2_with fail
        go_ret
        exact ⟨rfl, hb1⟩
      · have hd : ((s[k].toNat : Int) == 10) = false := by
          rw [beq_eq_false_iff_ne]
          intro e
          exact h10 (UInt8.toNat_inj.1 (by have h3 : (10 : UInt8).toNat = 10 := rfl; omega))
        have hp2 : Hid (∀ x ∈ s.data.toList.take (k + 1), x ≠ 10) := by
          rw [take_byte s k hlt]
          intro x hx
          rcases List.mem_append.1 hx with h | h
          · exact hp.out x h
          · rw [List.mem_singleton.1 h]; exact h10
        clear h10
        go_wp2_with fail
        go_roundw
        case rel => exact ⟨k + 1, by omega, by go_num, hp2, trivial⟩
        case measure => simp [intOf]; omega
    · obtain rfl : k = s.size := by omega
      have hall : Hid (∀ x ∈ s.data.toList, x ≠ 10) := by
        have := hp.out
        rw [List.take_of_length_le (by simp)] at this
        exact this
      by_cases h0 : s.size = 0
      · obtain rfl : s = ⟨#[]⟩ := by
          cases s with
          | mk d => congr; exact Array.eq_empty_of_size_eq_zero h0
        go_wp2_with fail
        refine (HA.out _ (Below.refl _ _)).mono ?_
        rintro e w1 ⟨rfl, hb1⟩
        go_wp2_with fail
        go_ret
        exact ⟨rfl, hb1⟩
      have hne : s.toList.isEmpty = false := by
        have h1 : s.toList.length = s.size := by rw [ByteArray.toList_eq]; simp
        cases h2 : s.toList with
        | nil => rw [h2] at h1; simp at h1; omega
        | cons x y => rfl
      by_cases hbig : 200000 < s.size
      · have hd : decide ((200000 : Int) < (s.size : Int)) = true := decide_eq_true (by omega)
        go_wp2_with fail
        refine (HA.out _ (Below.refl _ _)).mono ?_
        rintro e w1 ⟨rfl, hb1⟩
        go_wp2_with fail
        go_ret
        exact ⟨rfl, hb1⟩
      have hd : decide ((200000 : Int) < (s.size : Int)) = false := decide_eq_false (by omega)
      obtain ⟨k, hkk⟩ : ∃ k : Nat, z % 70000 = k := ⟨_, rfl⟩
      have hk7 : k < 70000 := by omega
      have hmod : ((z : Int) % 70000) = (k : Int) := by omega
      have hmod2 : ((z : Int).tmod 70000) = (k : Int) := by rw [Int.tmod_eq_emod_of_nonneg (by omega)]; exact hmod
      have HZ := Lib.hid (And.intro hz hkk)
      clear hkk hp
      obtain ⟨wo, rfl⟩ : ∃ wo : World, wo = wr := ⟨_, rfl⟩
      go_wp2_with fail
      clear hmod hmod2 hz
      go_loopw [7] (fun v w2 => ∃ L : List UInt8, w2.ownsRow wo.heap.size 5 1 v L.length (Lib.byteCells L) ∧ Hid (∀ x ∈ L, x ≠ 10) ∧ L.length ≤ 300000 ∧ Below wo.heap.size wo w2) (fun v _ => k - lenOf v)
      case atStart => exact ⟨[], World.ownsRow_nil _ _ _ _, by simp [Hid], by simp, Below.refl _ _⟩
      case round =>
        obtain ⟨L, hown, hL10, hl3, hb⟩ := hrel
        obtain ⟨n, hn⟩ : ∃ n, L.length = n := ⟨_, rfl⟩
        by_cases hlk : n < k
        · have hdk : decide ((n : Int) < (k : Int)) = true := decide_eq_true (by omega)
          obtain ⟨A, c, rfl⟩ := own_form hown
          have HO := Lib.hid hown
          have HB := Lib.hid hb
          rw [hn] at hl3
          have HN := Lib.hid hn
          clear hown hb
          rw [hn]
          go_wp2_with (at_builtin; refine Lib.wpList_append_own_string _ rfl _ _ 23 9 rfl wo.heap.size 5 i0 Tryz.underlying23 Tryz.underlying9 hi hz0 hz1 hz2 (.slice A n c) n (Lib.byteCells L) rfl (by have := HO.out; rw [HN.out] at this; exact this) s rfl (by unfold maxLen; omega) (by omega) HB.out.size ?_; intro v1 w2 ho1 hg1 _; have hb2 := below_own HB.out HO.out (by rw [HN.out]; exact hg1) (Nat.le_refl _) (Nat.le_refl _); have ho2 := own_bytes (L ++ s.data.toList) ho1 (by unfold Lib.byteCells; rw [List.map_append]; rfl))
          have hll : (L ++ s.data.toList).length = n + s.size := by rw [List.length_append, HN.out]; rfl
          obtain ⟨A1, c1, rfl⟩ := own_form ho2
          go_roundw
          case rel => exact ⟨L ++ s.data.toList, ho2, fun x hx => (List.mem_append.1 hx).elim (hL10.out x) (hall.out x), by omega, hb2⟩
          case measure => simp [lenOf]; omega
        · have hdk : decide ((n : Int) < (k : Int)) = false := decide_eq_false (by omega)
          obtain ⟨A, c, rfl⟩ := own_form hown
          have hA : n ≤ c ∧ ((A = none ∧ k = 0 ∧ n = 0 ∧ c = 0) ∨ ∃ g, A = some ⟨g, 0, none⟩) := by
            rcases hown.2 with ⟨h1, h0⟩ | ⟨g, cap, cur, h1, _, _, hnc, _⟩
            · injection h1 with h1 h2 h3
              exact ⟨by omega, .inl ⟨h1, by omega, by omega, h3⟩⟩
            · injection h1 with h1 h2 h3
              exact ⟨by omega, .inr ⟨g, h1⟩⟩
          obtain ⟨hnc, hA⟩ := hA
          rw [hn]
          have hLL : Hid (Lies wr wr.heap.size A n (Lib.byteCells L)) := Lib.hid (Lies.of_own (by rw [hn] at hown; exact hown))
          rcases hA with ⟨rfl, rfl, rfl, rfl⟩ | ⟨g, rfl⟩
          · have hw2 : decide ((65536 : Int) ≤ 0) = false := rfl
            have hlk : (L.take 0).length = 0 := by rw [List.length_take]; omega
            have hno : ∀ x ∈ L.take 0, x ≠ 10 := fun x hx => hL10.out x (List.mem_of_mem_take hx)
            have e1 : gE statusK (L.take 0) = 7 := by unfold gE; rw [read_none_end hno, hlk, if_neg (by omega)]
            have e2 : gE askK (L.take 0) = 7 := by unfold gE; rw [read_none_end hno, hlk, if_neg (by omega)]
            have HLI : Hid (Lies wr wr.heap.size none 0 (Lib.byteCells (L.take 0))) := Lib.hid ⟨by simp [Lib.byteCells], fun h => absurd h (by omega)⟩
            have BW := Lib.hid hb
            have HG := Lib.hid (hget_opt none 0 0 (L.take 0) wr HLI.out (Nat.le_refl 0) (by omega) (HM.out.below BW.out hmg) (Nat.lt_of_lt_of_le hmg BW.out.size) (HE.out.below BW.out heg) (Nat.lt_of_lt_of_le heg BW.out.size))
            have E1 := Lib.hid e1
            have E2 := Lib.hid e2
            have HOWN := Lib.hid hown
            clear e1 e2 hno hlk hb hown
            go_wp2_with fail
            refine (HG.out).mono ?_
            rintro e w2 ⟨⟨va, he2, hoa⟩, hb2⟩
            rw [E1.out] at he2
            obtain ⟨Aa, ca, rfl⟩ := own_form hoa
            subst he2
            have B2 := Lib.hid (BW.out.trans (hb2.mono BW.out.size))
            have L2 := Lib.hid ((HLI.out.below hb2).more hb2.size)
            have hal : Below w2.heap.size w2 (w2.alloc (.cells #[.string (gM statusK (L.take 0)), .string (gT statusK (L.take 0)), .int .i64 (gS statusK (L.take 0)), .slice Aa (gF statusK (L.take 0)).length ca, .slice none 0 0] 25)) := (Below.refl _ _).alloc (Nat.le_refl _) _
            have B3 := Lib.hid (B2.out.trans (hal.mono B2.out.size))
            have HR := Lib.hid (hrequest_opt none 0 0 (L.take 0) _ ((L2.out.below hal).more hal.size) (Nat.le_refl 0) (by omega) (HM.out.below B3.out hmg) (Nat.lt_of_lt_of_le hmg B3.out.size))
            clear hb2 hal hoa HG
            go_wp2_with fail
            refine (HR.out).mono ?_
            rintro e w3 ⟨⟨vb, he3, hob⟩, hb3⟩
            rw [E2.out] at he3
            obtain ⟨Ab, cb, rfl⟩ := own_form hob
            subst he3
            have B4 := Lib.hid (B3.out.trans (hb3.mono B3.out.size))
            have hal : Below w3.heap.size w3 (w3.alloc (.cells #[.string (gM askK (L.take 0)), .string (gT askK (L.take 0)), .int .i64 (gS askK (L.take 0)), .slice Ab (gF askK (L.take 0)).length cb, .slice none 0 0] 25)) := (Below.refl _ _).alloc (Nat.le_refl _) _
            have B5 := Lib.hid (B4.out.trans (hal.mono B4.out.size))
            clear hb3 hal hob HR
            go_wp2_with fail
            refine (HA.out _ B5.out).mono ?_
            rintro e w4 ⟨rfl, hb4⟩
            have B6 := Lib.hid (B5.out.trans (hb4.mono B5.out.size))
            clear hb4
            go_wp2_with fail
            go_ret
            exact ⟨rfl, B6.out⟩
          · have hkc : k ≤ c := by omega
            by_cases hw : 65536 ≤ k
            · have hw2 : decide ((65536 : Int) ≤ (k : Int)) = true := decide_eq_true (by omega)
              have hlk : (L.take k).length = k := by rw [List.length_take]; omega
              have hno : ∀ x ∈ L.take k, x ≠ 10 := fun x hx => hL10.out x (List.mem_of_mem_take hx)
              have e1 : gE statusK (L.take k) = 3 := by unfold gE; rw [read_none_end hno, hlk, if_pos hw]
              have e2 : gE askK (L.take k) = 3 := by unfold gE; rw [read_none_end hno, hlk, if_pos hw]
              have HLI : Hid (Lies wr wr.heap.size (some ⟨g, 0, none⟩) k (Lib.byteCells (L.take k))) := Lib.hid (hLL.out.cut (by omega))
              have BW := Lib.hid hb
              have HG := Lib.hid (hget_opt (some ⟨g, 0, none⟩) k c (L.take k) wr HLI.out hkc (by omega) (HM.out.below BW.out hmg) (Nat.lt_of_lt_of_le hmg BW.out.size) (HE.out.below BW.out heg) (Nat.lt_of_lt_of_le heg BW.out.size))
              have E1 := Lib.hid e1
              have E2 := Lib.hid e2
              have HOWN := Lib.hid hown
              clear e1 e2 hno hlk hb hown
              go_wp2_with fail
              refine (HG.out).mono ?_
              rintro e w2 ⟨⟨va, he2, hoa⟩, hb2⟩
              rw [E1.out] at he2
              obtain ⟨Aa, ca, rfl⟩ := own_form hoa
              subst he2
              have B2 := Lib.hid (BW.out.trans (hb2.mono BW.out.size))
              have L2 := Lib.hid ((HLI.out.below hb2).more hb2.size)
              have hal : Below w2.heap.size w2 (w2.alloc (.cells #[.string (gM statusK (L.take k)), .string (gT statusK (L.take k)), .int .i64 (gS statusK (L.take k)), .slice Aa (gF statusK (L.take k)).length ca, .slice none 0 0] 25)) := (Below.refl _ _).alloc (Nat.le_refl _) _
              have B3 := Lib.hid (B2.out.trans (hal.mono B2.out.size))
              have HR := Lib.hid (hrequest_opt (some ⟨g, 0, none⟩) k c (L.take k) _ ((L2.out.below hal).more hal.size) hkc (by omega) (HM.out.below B3.out hmg) (Nat.lt_of_lt_of_le hmg B3.out.size))
              clear hb2 hal hoa HG
              go_wp2_with fail
              refine (HR.out).mono ?_
              rintro e w3 ⟨⟨vb, he3, hob⟩, hb3⟩
              rw [E2.out] at he3
              obtain ⟨Ab, cb, rfl⟩ := own_form hob
              subst he3
              have B4 := Lib.hid (B3.out.trans (hb3.mono B3.out.size))
              have hal : Below w3.heap.size w3 (w3.alloc (.cells #[.string (gM askK (L.take k)), .string (gT askK (L.take k)), .int .i64 (gS askK (L.take k)), .slice Ab (gF askK (L.take k)).length cb, .slice none 0 0] 25)) := (Below.refl _ _).alloc (Nat.le_refl _) _
              have B5 := Lib.hid (B4.out.trans (hal.mono B4.out.size))
              clear hb3 hal hob HR
              go_wp2_with fail
              refine (HA.out _ B5.out).mono ?_
              rintro e w4 ⟨rfl, hb4⟩
              have B6 := Lib.hid (B5.out.trans (hb4.mono B5.out.size))
              clear hb4
              go_wp2_with fail
              go_ret
              exact ⟨rfl, B6.out⟩
            · have hw2 : decide ((65536 : Int) ≤ (k : Int)) = false := decide_eq_false (by omega)
              have hlk : (L.take k).length = k := by rw [List.length_take]; omega
              have hno : ∀ x ∈ L.take k, x ≠ 10 := fun x hx => hL10.out x (List.mem_of_mem_take hx)
              have e1 : gE statusK (L.take k) = 7 := by unfold gE; rw [read_none_end hno, hlk, if_neg (by omega)]
              have e2 : gE askK (L.take k) = 7 := by unfold gE; rw [read_none_end hno, hlk, if_neg (by omega)]
              have HLI : Hid (Lies wr wr.heap.size (some ⟨g, 0, none⟩) k (Lib.byteCells (L.take k))) := Lib.hid (hLL.out.cut (by omega))
              have BW := Lib.hid hb
              have HG := Lib.hid (hget_opt (some ⟨g, 0, none⟩) k c (L.take k) wr HLI.out hkc (by omega) (HM.out.below BW.out hmg) (Nat.lt_of_lt_of_le hmg BW.out.size) (HE.out.below BW.out heg) (Nat.lt_of_lt_of_le heg BW.out.size))
              have E1 := Lib.hid e1
              have E2 := Lib.hid e2
              have HOWN := Lib.hid hown
              clear e1 e2 hno hlk hb hown
              go_wp2_with fail
              refine (HG.out).mono ?_
              rintro e w2 ⟨⟨va, he2, hoa⟩, hb2⟩
              rw [E1.out] at he2
              obtain ⟨Aa, ca, rfl⟩ := own_form hoa
              subst he2
              have B2 := Lib.hid (BW.out.trans (hb2.mono BW.out.size))
              have L2 := Lib.hid ((HLI.out.below hb2).more hb2.size)
              have hal : Below w2.heap.size w2 (w2.alloc (.cells #[.string (gM statusK (L.take k)), .string (gT statusK (L.take k)), .int .i64 (gS statusK (L.take k)), .slice Aa (gF statusK (L.take k)).length ca, .slice none 0 0] 25)) := (Below.refl _ _).alloc (Nat.le_refl _) _
              have B3 := Lib.hid (B2.out.trans (hal.mono B2.out.size))
              have HR := Lib.hid (hrequest_opt (some ⟨g, 0, none⟩) k c (L.take k) _ ((L2.out.below hal).more hal.size) hkc (by omega) (HM.out.below B3.out hmg) (Nat.lt_of_lt_of_le hmg B3.out.size))
              clear hb2 hal hoa HG
              go_wp2_with fail
              refine (HR.out).mono ?_
              rintro e w3 ⟨⟨vb, he3, hob⟩, hb3⟩
              rw [E2.out] at he3
              obtain ⟨Ab, cb, rfl⟩ := own_form hob
              subst he3
              have B4 := Lib.hid (B3.out.trans (hb3.mono B3.out.size))
              have hal : Below w3.heap.size w3 (w3.alloc (.cells #[.string (gM askK (L.take k)), .string (gT askK (L.take k)), .int .i64 (gS askK (L.take k)), .slice Ab (gF askK (L.take k)).length cb, .slice none 0 0] 25)) := (Below.refl _ _).alloc (Nat.le_refl _) _
              have B5 := Lib.hid (B4.out.trans (hal.mono B4.out.size))
              clear hb3 hal hob HR
              go_wp2_with fail
              refine (HA.out _ B5.out).mono ?_
              rintro e w4 ⟨rfl, hb4⟩
              have B6 := Lib.hid (B5.out.trans (hb4.mono B5.out.size))
              clear hb4
              go_wp2_with fail
              go_ret
              exact ⟨rfl, B6.out⟩
end Go.Proofs.YtonlfplloenfcaaGreatDoor
