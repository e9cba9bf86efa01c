/-
  slices.IndexFunc, slices.ContainsFunc over fields, at heads.odd.
-/
import Derived.Test.YtonlfplloenfcaaGreatDoorOdd
import Derived.Test.YtonlfplloenfcaaGreatDoorTwinEtc
namespace Go.Proofs.YtonlfplloenfcaaGreatDoor
open Go.RowKit

def IdxPost (b : Bool) (w : World) (e : Ending) (w' : World) : Prop := (∃ z : Int, e = .returned (.int .i64 z) ∧ decide (0 ≤ z) = b) ∧ Below w.heap.size w w'
theorem any_step {fs : List Fd} {k : Nat} {f : Fd} (hf : fs[k]? = some f) (hp : (fs.take k).any oddF = false) (hx : oddF f = false) : (fs.take (k + 1)).any oddF = false := by
  rw [List.take_add_one, hf, List.any_append, hp]
  simp [hx]
theorem any_hit {fs : List Fd} {k : Nat} {f : Fd} (hf : fs[k]? = some f) (hx : oddF f = true) : fs.any oddF = true := List.any_eq_true.2 ⟨f, List.mem_of_getElem? hf, hx⟩
set_option maxRecDepth 100000 in
theorem indexf_any (A : Option Addr) (n c : Nat) (fs : List Fd) (w : World) (h : FRead w w.heap.size A n fs) (hs : FSmall fs) (hn : n ≤ 140737488355328) :
   Calls Tryz.prog 145 #[.slice A n c, .func (.func 71) #[] #[]] w (IdxPost (fs.any oddF) w) := by
  obtain ⟨hlen, hcells⟩ := h
  have HL := Lib.hid hlen
  have HS := Lib.hid hs
  clear hlen hs
  go_enter Tryz.func145, Tryz.ntmps145
  go_wp2_with fail
  go_loopw [8] (fun i wr => ∃ k : Nat, k ≤ n ∧ i = .int .i64 k ∧ Hid ((fs.take k).any oddF = false) ∧ Below w.heap.size w wr) (fun i _ => n - (intOf i).toNat)
  case atStart => exact ⟨0, Nat.zero_le _, rfl, by simp [Hid], Below.refl _ _⟩
  case round =>
    obtain ⟨k, hk, rfl, hp, hb⟩ := hrel
    by_cases hlt : k < n
    · obtain ⟨b, off, rfl, hbb, hc⟩ := hcells (by omega)
      obtain ⟨f, hf⟩ : ∃ f, fs[k]? = some f := ⟨fs[k]'(by rw [HL.out]; exact hlt), List.getElem?_eq_getElem (by rw [HL.out]; exact hlt)⟩
      have hc1 := (hb.cell (p := ⟨b, off + k * 2, none⟩) hbb).trans (hc k f hf).1
      have hc2 := (hb.cell (p := ⟨b, off + k * 2 + 1, none⟩) hbb).trans (hc k f hf).2
      have hsz := HS.out f (List.mem_of_getElem? hf)
      have HO := Lib.hid (fun W => odd_any f W hsz.1 hsz.2)
      have hst : oddF f = false → Hid ((fs.take (k + 1)).any oddF = false) := fun h => any_step hf hp.out h
      have hit : oddF f = true → fs.any oddF = true := fun h => any_hit hf h
      have HST := Lib.hid hst
      have HIT := Lib.hid hit
      clear hf hc hcells hst hit hsz
      obtain ⟨f1, f2⟩ := f
      simp only at hc1 hc2
      cases ho : oddF (f1, f2)
      · have HV := Lib.hid (HST.out ho)
        have HQ := Lib.hid ho
        clear ho
        go_wp2_with fail
        refine (HO.out _).mono ?_
        rintro e w1 ⟨rfl, hb1⟩
        rw [HQ.out]
        have hB1 := hb.trans (hb1.mono hb.size)
        clear hb1 hc1 hc2
        go_wp2_with fail
        go_roundw
        case rel => exact ⟨k + 1, by omega, by go_num, HV.out, hB1⟩
        case measure => simp [intOf]; omega
      · have HV := Lib.hid (HIT.out ho)
        have HQ := Lib.hid ho
        clear ho
        go_wp2_with fail
        refine (HO.out _).mono ?_
        rintro e w1 ⟨rfl, hb1⟩
        rw [HQ.out]
        have hB1 := hb.trans (hb1.mono hb.size)
        clear hb1 hc1 hc2
        go_wp2_with fail
        go_ret
        exact ⟨⟨_, rfl, by rw [HV.out]; exact decide_eq_true (by omega)⟩, hB1⟩
    · obtain rfl : k = n := by omega
      have hf : fs.any oddF = false := by
        have h := hp.out
        rwa [List.take_of_length_le (by rw [HL.out]; exact Nat.le_refl _)] at h
      have HF := Lib.hid hf
      clear hf hcells
      go_wp2_with fail
      go_ret
      exact ⟨⟨_, rfl, by rw [HF.out]; rfl⟩, hb⟩
theorem contains_any (A : Option Addr) (n c : Nat) (fs : List Fd) (w : World) (h : FRead w w.heap.size A n fs) (hs : FSmall fs) (hn : n ≤ 140737488355328) :
   Calls Tryz.prog 70 #[.slice A n c, .func (.func 71) #[] #[]] w fun e w' => e = .returned (.bool (fs.any oddF)) ∧ Below w.heap.size w w' := by
  have HI := Lib.hid (indexf_any A n c fs w h hs hn)
  clear h hs
  go_enter Tryz.func70, Tryz.ntmps70
  go_wp2_with fail
  refine HI.out.mono ?_
  rintro e w1 ⟨⟨z, rfl, hz⟩, hb⟩
  have HZ := Lib.hid hz
  clear hz HI
  go_wp2_with fail
  go_ret
  exact ⟨ret_bool HZ.out, hb⟩
end Go.Proofs.YtonlfplloenfcaaGreatDoor
