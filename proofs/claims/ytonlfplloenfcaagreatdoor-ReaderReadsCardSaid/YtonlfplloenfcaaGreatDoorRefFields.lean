/-
  footmanref12.fields: of a head's lines but the first.
-/
import Derived.Test.YtonlfplloenfcaaGreatDoorRefLine
import Derived.Test.YtonlfplloenfcaaGreatDoorNamesEtc
import Derived.Test.YtonlfplloenfcaaGreatDoorFindEtc
import Derived.Test.YtonlfplloenfcaaGreatDoorReflEtc
import Derived.Maps.AppendAt
namespace Go.Proofs.YtonlfplloenfcaaGreatDoor
open Go.RowKit
attribute [local go_sem] Oper.semAt_some

theorem two_at {W : World} {h : Nat} (hsz : W.heap.size = h) (x y : Value) (t : TypeId) : ∀ (j : Nat) (u : Value), [x, y][j]? = some u → (W.alloc (.cells #[x, y] t)).cell? ((⟨h, 0, none⟩ : Addr).add j) = some u := by
  subst hsz
  exact two_new W t x y

set_option maxRecDepth 100000 in
theorem rfields_any (A : Option Addr) (n c : Nat) (l0 : List UInt8) (ls : List (List UInt8)) (w : World) (h : Lies w w.heap.size A n (strL (l0 :: ls))) (hn : n ≤ 65537) (hsz : ∀ x ∈ ls, x.length ≤ 65536) :
    Calls Tryz.prog 110 #[.slice A n c] w fun e w' => (∃ v, e = .returned (.tuple #[v, .int .i64 (fieldsE ls)]) ∧ w'.ownsRow w.heap.size 63 2 v (fieldsF ls).length (fcells (fieldsF ls))) ∧ Below w.heap.size w w' := by
  obtain ⟨i0, hi, hz0, hz1, hz2⟩ := info_parts infoF
  have hlen : ls.length + 1 = n := by have := h.1; simpa [strL] using this
  obtain ⟨E, hE⟩ : ∃ E, E = fieldsE ls := ⟨_, rfl⟩
  obtain ⟨F, hF⟩ : ∃ F, F = fieldsF ls := ⟨_, rfl⟩
  rw [← hE, ← hF]
  have HE := Lib.hid hE
  have HF := Lib.hid hF
  clear hE hF
  go_enter Tryz.func110, Tryz.ntmps110
  go_wp2_with fail
  go_loopw [4, 5] (fun v i wr => ∃ j : Nat, j ≤ ls.length ∧ i = .int .i64 ((j + 1 : Nat) : Int) ∧ Hid ((ls.take j).all fieldOK = true) ∧ wr.ownsRow w.heap.size 63 2 v j (fcells ((ls.take j).map fieldOf)) ∧ Below w.heap.size w wr)
    (fun _ i _ => n - (intOf i).toNat)
  case atStart => exact ⟨0, Nat.zero_le _, rfl, by simp [Hid], World.ownsRow_nil _ _ _ _, Below.refl _ _⟩
  case round =>
    obtain ⟨j, hj, rfl, hp, hown, hb⟩ := hrel
    by_cases hlt : j < ls.length
    · obtain ⟨x, hx⟩ : ∃ x, ls[j]? = some x := ⟨ls[j], List.getElem?_eq_getElem hlt⟩
      obtain ⟨b, off, rfl, hbb, hcc⟩ := h.2 (by omega)
      have hc := (hb.cell (p := ⟨b, off + (j + 1), none⟩) hbb).trans (hcc (j + 1) (.string ⟨x.toArray⟩) (by
        unfold strL
        rw [List.map_cons, List.getElem?_cons_succ, List.getElem?_map, hx]
        rfl))
      have hxz := hsz x (List.mem_of_getElem? hx)
      have hL := fun W => rline_any ⟨x.toArray⟩ W (by simp only [ByteArray.size, List.size_toArray]; omega)
      have hxl : (⟨x.toArray⟩ : ByteArray).data.toList = x := by simp
      simp only at hL
      have HO := Lib.hid hown
      have HX := Lib.hid hx
      have HL := Lib.hid hL
      have HB := Lib.hid hb
      clear hcc hown hx hL hb h hxl
      cases hok : fieldOK x
      · have hE : E = 8 := HE.out.trans (fieldsE_bad HX.out hok)
        have hF : F = [] := HF.out.trans (fieldsF_bad (by rw [fieldsE_bad HX.out hok]; decide))
        subst hF
        subst hE
        have hV : lineV x = .agg #[.string ⟨#[]⟩, .string ⟨#[]⟩] := by unfold lineV; rw [hok]; rfl
        rw [hok, hV] at HL
        clear hok hV
        go_wp2_with fail
        refine (HL.out _).mono ?_
        rintro e w1 ⟨rfl, hb1⟩
        have HB1 := Lib.hid ((HB.out.trans (hb1.mono HB.out.size)).alloc (Nat.le_trans HB.out.size hb1.size) (.cells #[.string ⟨#[]⟩, .string ⟨#[]⟩] 63))
        clear hb1
        go_wp2_with fail
        go_ret2
        exact ⟨⟨_, rfl, World.ownsRow_nil _ _ _ _⟩, HB1.out⟩
      · have hV : lineV x = .agg #[.string (fieldOf x).1, .string (fieldOf x).2] := by unfold lineV; rw [hok]; rfl
        have hm := map_take HX.out
        have hall := all_take HX.out hp.out hok
        have hpr : fieldOf x = ((fieldOf x).1, (fieldOf x).2) := rfl
        rw [hpr] at hm
        rw [hok, hV] at HL
        generalize (fieldOf x).1 = a at *
        generalize (fieldOf x).2 = bb at *
        have hfc : fcells ((ls.take (j + 1)).map fieldOf) = fcells ((ls.take j).map fieldOf) ++ [.string a, .string bb] := by rw [hm, fcells_snoc]
        have HFC := Lib.hid hfc
        have HALL := Lib.hid hall
        clear hok hm hall hpr hV hfc hp
        go_wp2_with fail
        refine (HL.out _).mono ?_
        rintro e w1 ⟨rfl, hb1⟩
        have hbx : Below w1.heap.size w1 (w1.alloc (.cells #[.string a, .string bb] 63)) := (Below.refl _ w1).alloc (Nat.le_refl _) _
        have HO1 := Lib.hid (own_below (own_below HO.out hb1) hbx)
        have hb0 := HB.out.trans (hb1.mono HB.out.size)
        have hb1' := hb0.trans (hbx.mono hb0.size)
        have hzx : (w1.alloc (.cells #[.string a, .string bb] 63)).heap.size = w1.heap.size + 1 := by simp
        have HBX := Lib.hid hb1'
        have HZX := Lib.hid hzx
        have hlw : w.heap.size ≤ w1.heap.size := hb0.size
        clear hb1 hbx hb0 hb1' hzx
        go_wp2_with (at_builtin; refine wpList_append_own _ rfl _ _ 22 rfl w.heap.size 63 i0 _ 2 32 Tryz.underlying22 hi hz0 hz1 hz2 rfl (by decide) _ _ _ rfl (HO1.out.alloc _) ⟨w1.heap.size + 1, 0, none⟩ 1 1 [.string a, .string bb] rfl rfl (two_at HZX.out _ _ _) (by simp [Value.oneCell']) (by unfold maxLen; omega) (by omega) (by simp; omega) ?_; intro v2 w2 hown2 hg2 _)
        have hb4 : Below w.heap.size w w2 := (HBX.out.alloc HBX.out.size _).grown hg2 (by simp; omega) (fun j hj => ((HO1.out).lt j hj).1)
        go_roundw
        case rel => exact ⟨j + 1, by omega, by go_num, HALL.out, by rw [HFC.out]; exact hown2, hb4⟩
        case measure => simp [intOf]; omega
    · obtain rfl : j = ls.length := by omega
      rw [List.take_of_length_le (Nat.le_refl _)] at hown hp
      have hE : fieldsE ls = (if 256 < ls.length then 3 else 0) := by unfold fieldsE; rw [if_pos hp.out]
      have hlm : (ls.map fieldOf).length = ls.length := by simp
      by_cases h256 : 256 < ls.length
      · rw [if_pos h256] at hE
        have hE8 : E = 3 := HE.out.trans hE
        have hF : F = [] := HF.out.trans (fieldsF_bad (by rw [hE]; decide))
        subst hF
        subst hE8
        obtain ⟨A2, c2, rfl⟩ := own_form hown
        clear hE hp hlm h
        go_wp2_with fail
        go_ret2
        exact ⟨⟨_, rfl, World.ownsRow_nil _ _ _ _⟩, hb⟩
      · rw [if_neg h256] at hE
        have hE8 : E = 0 := HE.out.trans hE
        have hF : F = ls.map fieldOf := HF.out.trans (by unfold fieldsF; rw [if_pos hE])
        have hFl : F.length = ls.length := by rw [hF, hlm]
        rw [← hF, ← hFl] at hown
        subst hE8
        obtain ⟨A2, c2, rfl⟩ := own_form hown
        have HO := Lib.hid hown
        have h257 : ¬ 256 < F.length := by omega
        clear hE hF hp hlm hown h hFl HF
        go_wp2_with fail
        go_ret2
        exact ⟨⟨_, rfl, HO.out⟩, hb⟩
end Go.Proofs.YtonlfplloenfcaaGreatDoor
