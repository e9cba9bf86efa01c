/-
  heads.request: a request's first line.
-/
import Derived.Test.YtonlfplloenfcaaGreatDoorToken
import Derived.Test.YtonlfplloenfcaaGreatDoorOddEtc
import Derived.Test.YtonlfplloenfcaaGreatDoorFindEtc
import Derived.Test.YtonlfplloenfcaaGreatDoorWordEtc
import Derived.Test.YtonlfplloenfcaaGreatDoorResultsEtc
import Derived.Lib.QuietBelow
import Derived.Deep.RegionHeld3
import Derived.Deep.DrawnRows
namespace Go.Proofs.YtonlfplloenfcaaGreatDoor
open Go.RowKit
attribute [local go_sem] Oper.semAt_some

def FirstPost (K : Asks) (x : List UInt8) (g : Nat) (w : World) (e : Ending) (w' : World) : Prop :=
  e = .returned (.bool (K.ok x)) ∧ w.grownBy w' (some g) ∧ ∃ c0 c1 c2 : Value, Blk w' g 25 #[c0, c1, c2, .slice none 0 0, .slice none 0 0] ∧
    (K.ok x = true → c0 = .string (K.m x) ∧ c1 = .string (K.t x) ∧ c2 = .int .i64 (K.s x))

theorem grown_two {w : World} {g q : Nat} (v0 v1 : Value) : w.grownBy (((w.drewN q).setCell ⟨g, 0, none⟩ v0).setCell ⟨g, 1, none⟩ v1) (some g) :=
  ⟨rfl, rfl, rfl, by simp [World.setCell, World.drewN], fun k _ hk => (Below.heap_setCell _ _ _ _ (fun e => hk (by rw [e]))).trans (Below.heap_setCell (w.drewN q) _ _ _ (fun e => hk (by rw [e])))⟩
theorem grown_below {w W2 W3 : World} {row : Option Nat} (h : w.grownBy W2 row) (hb : Below W2.heap.size W2 W3) : w.grownBy W3 row :=
  ⟨hb.os.trans h.os, hb.tape.trans h.tape, hb.output.trans h.output, Nat.le_trans h.size hb.size, fun k hk hr => (hb.block k (Nat.lt_of_lt_of_le hk h.size)).trans (h.block k hk hr)⟩
theorem first_done {K : Asks} {x : List UInt8} {g : Nat} {w W2 W3 : World} {b : Bool} {c0 c1 c2 : Value} (hok : K.ok x = b) (hgr : w.grownBy W2 (some g)) (hk : Blk W2 g 25 #[c0, c1, c2, .slice none 0 0, .slice none 0 0])
    (hb : Below W2.heap.size W2 W3) (hv : b = true → c0 = .string (K.m x) ∧ c1 = .string (K.t x) ∧ c2 = .int .i64 (K.s x)) : FirstPost K x g w (.returned (.bool b)) W3 :=
  ⟨by rw [hok], grown_below hgr hb, c0, c1, c2, hk.below hb hk.lt, fun h => hv (hok.symm.trans h)⟩

set_option maxRecDepth 100000 in
theorem request_any (s : ByteArray) (g : Nat) (w : World) (hs : s.size ≤ 1000000) (hm : MaxOk w)
    (hb : Blk w g 25 #[.string ⟨#[]⟩, .string ⟨#[]⟩, .int .i64 0, .slice none 0 0, .slice none 0 0]) :
    Calls Tryz.prog 106 #[.pointer (some ⟨g, 0, none⟩), .string s] w (FirstPost askK s.data.toList g w) := by
  obtain ⟨m, hm⟩ := hm
  have hC := Tryz.strings_Cut s ⟨#[32]⟩ m w (by omega) hm
  have hcl := cut_le1 s.data.toList [32]
  have hOK : askK.ok s.data.toList = ((Lib.cut s.data.toList [32]).2.2 && (Lib.hasSuffix (Lib.cut s.data.toList [32]).2.1 tailB && (tokenB (Lib.cut s.data.toList [32]).1 && targB (Lib.trimSuffix (Lib.cut s.data.toList [32]).2.1 tailB)))) := rfl
  have hM : askK.m s.data.toList = ⟨(Lib.cut s.data.toList [32]).1.toArray⟩ := rfl
  have hT : askK.t s.data.toList = ⟨(Lib.trimSuffix (Lib.cut s.data.toList [32]).2.1 tailB).toArray⟩ := rfl
  have hS0 : askK.s s.data.toList = 0 := rfl
  have hls : s.data.toList.length = s.size := rfl
  obtain ⟨⟨Ml, Rl, one⟩, hcut⟩ : ∃ x, Lib.cut s.data.toList (⟨#[32]⟩ : ByteArray).data.toList = x := ⟨_, rfl⟩
  rw [hcut] at hC
  replace hcut : Lib.cut s.data.toList [32] = (Ml, Rl, one) := hcut
  rw [hcut] at hOK hM hT hcl
  simp only [] at hOK hM hT hC hcl
  have hsfx := fun W => Tryz.strings_CutSuffix ⟨Rl.toArray⟩ ⟨#[32, 72, 84, 84, 80, 47, 49, 46, 49]⟩ W (by simp only [ByteArray.size, List.size_toArray]; omega)
  have e1 : (⟨Rl.toArray⟩ : ByteArray).data.toList = Rl := by simp
  have e2 : (⟨#[32, 72, 84, 84, 80, 47, 49, 46, 49]⟩ : ByteArray).data.toList = tailB := rfl
  have htl : (Lib.trimSuffix Rl tailB).length ≤ Rl.length := by
    unfold Lib.trimSuffix
    split
    · exact List.length_take_le' _ _
    · exact Nat.le_refl _
  rw [e1, e2] at hsfx
  generalize Lib.trimSuffix Rl tailB = Tl at *
  generalize Lib.hasSuffix Rl tailB = two at *
  have hTk := fun W => token_any ⟨Ml.toArray⟩ W (by simp only [ByteArray.size, List.size_toArray]; omega)
  have hTg := fun W => target_any ⟨Tl.toArray⟩ W (by simp only [ByteArray.size, List.size_toArray]; omega)
  have e3 : (⟨Ml.toArray⟩ : ByteArray).data.toList = Ml := by simp
  have e4 : (⟨Tl.toArray⟩ : ByteArray).data.toList = Tl := by simp
  rw [e3] at hTk
  rw [e4] at hTg
  generalize tokenB Ml = tk at *
  generalize targB Tl = tg at *
  have hTgB : ∀ W, Calls Tryz.prog 69 #[.string ⟨Tl.toArray⟩] W fun e w' => e = .returned (.bool tg) ∧ Below W.heap.size W w' := fun W => (hTg W).mono fun e w' h => ⟨h.1, below_of_drewN h.2⟩
  have HC := Lib.hid hC
  have HS := Lib.hid hsfx
  have HTK := Lib.hid hTk
  have HTG := Lib.hid hTgB
  have HOK := Lib.hid hOK
  have HMT := Lib.hid (And.intro hM (And.intro hT hS0))
  have HB := Lib.hid hb
  clear hC hsfx hTk hTg hTgB hOK hM hT hS0 hb hcut e1 e2 e3 e4 hm htl hcl
  go_enter Tryz.func106, Tryz.ntmps106
  go_wp2_with fail
  refine (HC.out).mono ?_
  rintro e w1 ⟨rfl, q, rfl⟩
  go_wp2_with fail
  refine (HS.out _).mono ?_
  rintro e w1 ⟨rfl, rfl⟩
  have hbq := HB.out.drewN q
  have c0 := hbq.cell 0
  have c1 := hbq.cell 1
  simp at c0 c1
  have f0 := hbq.frozen 0
  have f1 := hbq.frozen 1
  have hset : Blk (((w.drewN q).setCell ⟨g, 0, none⟩ (.string ⟨Ml.toArray⟩)).setCell ⟨g, 1, none⟩ (.string ⟨Tl.toArray⟩)) g 25 #[.string ⟨Ml.toArray⟩, .string ⟨Tl.toArray⟩, .int .i64 0, .slice none 0 0, .slice none 0 0] := by
    have h1 := (hbq.set_ 0 (.string ⟨Ml.toArray⟩)).set_ 1 (.string ⟨Tl.toArray⟩)
    simpa using h1
  have hgr := grown_two (w := w) (g := g) (q := q) (.string ⟨Ml.toArray⟩) (.string ⟨Tl.toArray⟩)
  have HSET := Lib.hid hset
  have HGR := Lib.hid hgr
  clear hset hgr hbq HC HS
  cases one
  · go_wp2_with fail
    go_ret
    exact first_done HOK.out HGR.out HSET.out (Below.refl _ _) (fun h => by cases h)
  · cases two
    · go_wp2_with fail
      go_ret
      exact first_done HOK.out HGR.out HSET.out (Below.refl _ _) (fun h => by cases h)
    · cases tk
      · go_wp2_with fail
        refine (HTK.out _).mono ?_
        rintro e w3 ⟨rfl, hb3⟩
        have HB3 := Lib.hid hb3
        clear hb3
        go_wp2_with fail
        go_ret
        exact first_done HOK.out HGR.out HSET.out HB3.out (fun h => by cases h)
      · go_wp2_with fail
        refine (HTK.out _).mono ?_
        rintro e w3 ⟨rfl, hb3⟩
        have HB3 := Lib.hid hb3
        clear hb3
        go_wp2_with fail
        refine (HTG.out _).mono ?_
        rintro e w4 ⟨rfl, hb4⟩
        have HB4 := Lib.hid (HB3.out.trans (hb4.mono HB3.out.size))
        clear hb4
        go_wp2_with fail
        go_ret
        exact first_done HOK.out HGR.out HSET.out HB4.out (fun _ => ⟨by rw [HMT.out.1], by rw [HMT.out.2.1], by rw [HMT.out.2.2]⟩)
end Go.Proofs.YtonlfplloenfcaaGreatDoor
