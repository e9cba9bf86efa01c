/-
  ascii.Trim; heads.odd; slices.ContainsFunc over fields.
  Arguments of this seat's laws, opened: a list of fields, what the reach says of it; the worlds that hold the library's tables.
-/
import Derived.Test.YtonlfplloenfcaaGreatDoorToken
import Derived.Test.YtonlfplloenfcaaGreatDoorShelf
import Derived.Test.YtonlfplloenfcaaGreatDoorPutSpecEtc
import Derived.Test.YtonlfplloenfcaaGreatDoorReflEtc
import Derived.Lib.QuietBelow
import Derived.Test.YtonlfplloenfcaaGreatDoorCards
import Derived.Test.YtonlfplloenfcaaGreatDoorTie
import Derived.Test.YtonlfplloenfcaaGreatDoorWordEtc
import Derived.WalkKit
import Derived.ProofKit
import Derived.OpenShut
import Derived.ShutString
import Derived.ChangeSame
import Derived.ChangeOld
import Derived.Below
import Derived.Carry
import Derived.Deep.Slices
import Derived.Deep.Fields
import Derived.Deep.DeepHandedRow
import Derived.SizedLaws
import Derived.Lib.LaidTab
import Derived.LaidSub
namespace Go.Proofs.YtonlfplloenfcaaGreatDoor
open Go.RowKit

theorem trim_any (s : ByteArray) (w : World) (hs : s.size ≤ 140737488355328) :
   Calls Tryz.prog 147 #[.string s] w fun e w' => e = .returned (.string ⟨(trimmed s.data.toList).toArray⟩) ∧ Below w.heap.size w w' := by
  have HC := Lib.hid (Tryz.strings_Trim s ⟨#[32, 9]⟩ w (by omega) (by decide) (ascii_of_all (by decide)))
  go_enter Tryz.func147, Tryz.ntmps147
  go_wp2_with fail
  refine HC.out.mono ?_
  rintro e w' ⟨rfl, hb⟩
  go_wp2_with fail
  go_ret
  exact ⟨rfl, hb⟩
theorem below_of_drewN {w w' : World} (h : ∃ q, w' = w.drewN q) : Below w.heap.size w w' := by
  obtain ⟨q, rfl⟩ := h
  exact below_drewN (Below.refl _ _) q
set_option maxRecDepth 100000 in
theorem odd_any (f : Fd) (w : World) (h1 : f.1.size ≤ 140737488355328) (h2 : f.2.size ≤ 140737488355328) :
   Calls Tryz.prog 71 #[.agg #[.string f.1, .string f.2]] w fun e w' => e = .returned (.bool (oddF f)) ∧ Below w.heap.size w w' := by
  obtain ⟨f1, f2⟩ := f
  simp only at h1 h2 ⊢
  have hodd : oddF (f1, f2) = (!tokenB f1.data.toList || (!plainB f2.data.toList || trimmed f2.data.toList != f2.data.toList)) := rfl
  have hT := fun W => token_any f1 W h1
  have hP := fun W => (control_any f2 W h2).mono fun e w' h => (⟨h.1, below_of_drewN h.2⟩ : e = .returned (.bool (!plainB f2.data.toList)) ∧ Below W.heap.size W w')
  have hR := fun W => trim_any f2 W h2
  have hB0 : Below w.heap.size w (w.alloc (.cells #[.string f1, .string f2] 63)) := (Below.refl _ _).alloc (Nat.le_refl _) _
  have d0 : (w.alloc (.cells #[.string f1, .string f2] 63)).cell? ⟨w.heap.size, 0, none⟩ = some (.string f1) := by rw [cell_alloc_at]; rfl
  have d1 : (w.alloc (.cells #[.string f1, .string f2] 63)).cell? ⟨w.heap.size, 1, none⟩ = some (.string f2) := by rw [cell_alloc_at]; rfl
  have e0 := fun d os => cell_regrown d0 d os
  have e1 := fun d os => cell_regrown d1 d os
  have B0 := Lib.hid hB0
  clear hB0 d0 d1
  have HT := Lib.hid hT
  have HP := Lib.hid hP
  have HR := Lib.hid hR
  have HO := Lib.hid hodd
  clear hT hP hR hodd
  generalize tokenB f1.data.toList = tk at *
  generalize plainB f2.data.toList = pl at *
  have fin : ∀ (b : Bool) (W : World), oddF (f1, f2) = b → Below (w.alloc (.cells #[.string f1, .string f2] 63)).heap.size (w.alloc (.cells #[.string f1, .string f2] 63)) W →
      Ending.returned (Value.bool b) = Ending.returned (Value.bool (oddF (f1, f2))) ∧ Below w.heap.size w W := fun b W h hb => ⟨by rw [h], B0.out.trans (hb.mono B0.out.size)⟩
  have FIN := Lib.hid fin
  clear fin B0
  cases tk
  · have hv : oddF (f1, f2) = true := by rw [HO.out]; rfl
    have HV := Lib.hid hv
    clear hv HO
    go_enter Tryz.func71, Tryz.ntmps71
    go_wp2_with fail
    refine wp_region_quiet_below (by kernel_rfl) (by kernel_rfl) ?_
    repeat (any_goals (first | go_big_quiet_step ((first | (go_at_call 68; exact Calls.regrown_of (HT.out _)) | (go_at_call 146; exact Calls.regrown_of (HP.out _)) | (go_at_call 147; exact Calls.regrown_of (HR.out _)))) | quiet_step ((first | (go_at_call 68; exact Calls.regrown_of (HT.out _)) | (go_at_call 146; exact Calls.regrown_of (HP.out _)) | (go_at_call 147; exact Calls.regrown_of (HR.out _))))))
    refine wpQuiet_nil ?_
    intro _ hw'
    obtain ⟨⟨dq, osq⟩, hw''⟩ := hw'
    subst hw''
    have hbz := below_regrown (w.alloc (.cells #[.string f1, .string f2] 63)) dq osq
    have HZ := Lib.hid hbz
    clear hbz
    go_wp2_with fail
    go_ret
    exact FIN.out _ _ HV.out HZ.out
  · cases pl
    · have hv : oddF (f1, f2) = true := by rw [HO.out]; rfl
      have HV := Lib.hid hv
      clear hv HO
      go_enter Tryz.func71, Tryz.ntmps71
      go_wp2_with fail
      refine wp_region_quiet_below (by kernel_rfl) (by kernel_rfl) ?_
      repeat (any_goals (first | go_big_quiet_step ((first | (go_at_call 68; exact Calls.regrown_of (HT.out _)) | (go_at_call 146; exact Calls.regrown_of (HP.out _)) | (go_at_call 147; exact Calls.regrown_of (HR.out _)))) | quiet_step ((first | (go_at_call 68; exact Calls.regrown_of (HT.out _)) | (go_at_call 146; exact Calls.regrown_of (HP.out _)) | (go_at_call 147; exact Calls.regrown_of (HR.out _))))))
      refine wpQuiet_nil ?_
      intro _ hw'
      obtain ⟨⟨dq, osq⟩, hw''⟩ := hw'
      subst hw''
      have hbz := below_regrown (w.alloc (.cells #[.string f1, .string f2] 63)) dq osq
      have HZ := Lib.hid hbz
      clear hbz
      go_wp2_with fail
      go_ret
      exact FIN.out _ _ HV.out HZ.out
    · by_cases htr : trimmed f2.data.toList = f2.data.toList
      · have hv : oddF (f1, f2) = false := by rw [HO.out, htr]; simp
        have HV := Lib.hid hv
        rw [htr] at HR
        clear hv HO htr
        go_enter Tryz.func71, Tryz.ntmps71
        go_wp2_with fail
        refine wp_region_quiet_below (by kernel_rfl) (by kernel_rfl) ?_
        repeat (any_goals (first | go_big_quiet_step ((first | (go_at_call 68; exact Calls.regrown_of (HT.out _)) | (go_at_call 146; exact Calls.regrown_of (HP.out _)) | (go_at_call 147; exact Calls.regrown_of (HR.out _)))) | quiet_step ((first | (go_at_call 68; exact Calls.regrown_of (HT.out _)) | (go_at_call 146; exact Calls.regrown_of (HP.out _)) | (go_at_call 147; exact Calls.regrown_of (HR.out _))))))
        refine wpQuiet_nil ?_
        intro _ hw'
        obtain ⟨⟨dq, osq⟩, hw''⟩ := hw'
        subst hw''
        have hbz := below_regrown (w.alloc (.cells #[.string f1, .string f2] 63)) dq osq
        have HZ := Lib.hid hbz
        clear hbz
        go_wp2_with fail
        go_ret
        exact FIN.out _ _ HV.out HZ.out
      · have hv : oddF (f1, f2) = true := by rw [HO.out]; simp [htr]
        have hne : ((⟨(trimmed f2.data.toList).toArray⟩ : ByteArray).toList == f2.toList) = false := by
          rw [Go.ByteArray.toList_eq, Go.ByteArray.toList_eq]
          simpa using htr
        have HV := Lib.hid hv
        clear hv HO htr
        generalize (⟨(trimmed f2.data.toList).toArray⟩ : ByteArray) = tb at *
        go_enter Tryz.func71, Tryz.ntmps71
        go_wp2_with fail
        refine wp_region_quiet_below (by kernel_rfl) (by kernel_rfl) ?_
        repeat (any_goals (first | go_big_quiet_step ((first | (go_at_call 68; exact Calls.regrown_of (HT.out _)) | (go_at_call 146; exact Calls.regrown_of (HP.out _)) | (go_at_call 147; exact Calls.regrown_of (HR.out _)))) | quiet_step ((first | (go_at_call 68; exact Calls.regrown_of (HT.out _)) | (go_at_call 146; exact Calls.regrown_of (HP.out _)) | (go_at_call 147; exact Calls.regrown_of (HR.out _))))))
        refine wpQuiet_nil ?_
        intro _ hw'
        obtain ⟨⟨dq, osq⟩, hw''⟩ := hw'
        subst hw''
        have hbz := below_regrown (w.alloc (.cells #[.string f1, .string f2] 63)) dq osq
        have HZ := Lib.hid hbz
        clear hbz
        go_wp2_with fail
        go_ret
        exact FIN.out _ _ HV.out HZ.out
end Go.Proofs.YtonlfplloenfcaaGreatDoor
namespace Go.Proofs.YtonlfplloenfcaaGreatDoor
open Go.ChangeShapes Go.WideShapes Go.ChangeAt Go.RowKit Go.Deep
open Go.ChangeMaps (open_string shut_string)

theorem ownKnob_is : ownKnob Tryz.prog.godebug = none := by kernel_rfl
theorem laidOut_is : laidOutB Tryz.prog = true := by kernel_rfl

section
variable {H : Type} {enc : TypeId × Value → H} {P : Program} {w : World} {base : Nat} {spare : Nat → Bool} {held : Bool}
theorem open_slice_fields {t e : TypeId} {fs : Array Field} {fuel : Nat} {cs : List Value} {x : DataW H × List MemPlace} (ht : P.underlying t = some (.slice e)) (he : P.underlying e = some (.struct fs))
    (hone : oneCellFields P fs = true) (hC : P.cellsOf e = fs.size) (h : DataW.trod enc P w base spare held fuel t cs = some x) :
    (cs = [.slice none 0 0] ∧ x = (.nil, [])) ∨
    ∃ (a : Addr) (len cap m : Nat) (D : Nat → DataW H) (Pl : Nat → List MemPlace), cs = [.slice (some a) len cap] ∧ base ≤ a.block ∧ len ≤ cap ∧ cap ≤ maxLen ∧ m = (if spare a.block then cap else len) ∧
      x = (.slice ((List.range len).map D) ((List.range (m - len)).map fun j => D (len + j)), MemPlace.row a (m * fs.size) ++ (List.range m).flatMap Pl) ∧
      ∀ i, i < m → ∃ (ys : List (DataW H × List MemPlace)) (n : Nat), D i = .agg (ys.map (·.1)) ∧ Pl i = ys.flatMap (·.2) ∧ ys.length = fs.size ∧
        ∀ (j : Nat) (f : Field), fs[j]? = some f → ∃ (v : Value) (y : DataW H × List MemPlace), w.cell? (a.add (i * fs.size + j)) = some v ∧ ys[j]? = some y ∧ DataW.trod enc P w base spare held n f.type [v] = some y := by
  rcases open_slice ht h with h0 | ⟨a, len, cap, m, n, D, Pl, hcs, hb, hl, hm, hmm, hx, hi⟩
  · exact .inl h0
  · refine .inr ⟨a, len, cap, m, D, Pl, hcs, hb, hl, hm, hmm, by rw [hC] at hx; exact hx, fun i him => ?_⟩
    obtain ⟨cs', hc, ht'⟩ := hi i him
    rw [hC] at hc
    obtain ⟨ys, n', hn', hy, hlen, hyl, hf⟩ := DataW.trod_struct he ht'
    obtain ⟨_, hcl, hat⟩ := World.cells?_some hc
    simp only [Prod.mk.injEq] at hy
    refine ⟨ys, n', hy.1, hy.2, hyl, fun j f hj => ?_⟩
    obtain ⟨ho, hk⟩ := hone_of hone j f hj
    have hjl : j < fs.size := (Array.getElem?_eq_some_iff.1 hj).1
    have hcell := hat j hjl
    have hv : cs'[j]? = some (cs'[j]'(by omega)) := List.getElem?_eq_getElem (by omega)
    have h1 := hf j f hj
    rw [ho, hk] at h1
    have hone' : (cs'.drop j).take 1 = [cs'[j]'(by omega)] := by
      rw [List.drop_eq_getElem_cons (by omega)]
      rfl
    rw [hone'] at h1
    have hys : ys[j]? = some (ys[j]'(by omega)) := List.getElem?_eq_getElem (by omega)
    refine ⟨_, _, ?_, hys, h1.trans hys⟩
    rw [← Go.Deep.add_add, hcell, hv]
end

section
variable {H : Type} {enc : TypeId × Value → H} {w : World}
theorem weightsAll_mem {P : Program} {e : TypeId} : ∀ {l : List (DataW H)} {d : DataW H} {n : Nat}, d ∈ l → n ∈ d.weights P e → n ∈ DataW.weightsAll P e l
  | x :: r, d, n, h, hn => by
    unfold DataW.weightsAll
    rcases List.mem_cons.1 h with rfl | h
    · exact List.mem_append_left _ hn
    · exact List.mem_append_right _ (weightsAll_mem h hn)

theorem addr_add (b off i : Nat) : Addr.add ⟨b, off, none⟩ i = ⟨b, off + i, none⟩ := by
  by_cases h : i = 0 <;> simp [Addr.add, h]
theorem fieldCells : Tryz.prog.cellsOf 63 = 2 := by kernel_rfl
theorem fieldBytes : Tryz.prog.bytesOf 63 = 32 := by kernel_rfl

/-- A LIST OF FIELDS THAT READS AS DATA: its cells; with the reach: its sizes. -/
theorem open_fields {fuel : Nat} {A : Option Addr} {n c : Nat} {x : DataW H × List MemPlace} (h : DataW.trod enc Tryz.prog w 0 (fun _ => true) true fuel 22 [.slice A n c] = some x)
    (hlt : ∀ p ∈ x.2, p.block < w.heap.size) (hz : ∀ k ∈ x.1.weights Tryz.prog 22, k ≤ reachBytes) :
    ∃ fs : List Fd, FRead w w.heap.size A n fs ∧ FSmall fs ∧ n ≤ 140737488355328 := by
  have hu : Tryz.prog.underlying 63 = _ := Tryz.underlying63
  rcases open_slice_fields Tryz.underlying22 hu (by kernel_rfl) fieldCells h with ⟨hcs, hx⟩ | ⟨a, len, cap, m, D, Pl, hcs, _, hl, hm, hmm, hx, hf⟩
  · simp only [List.cons.injEq, Value.slice.injEq, and_true] at hcs
    obtain ⟨rfl, rfl, rfl⟩ := hcs
    exact ⟨[], ⟨rfl, fun h => absurd h (by omega)⟩, fun f hf => by simp at hf, by omega⟩
  · simp only [List.cons.injEq, Value.slice.injEq, and_true] at hcs
    obtain ⟨rfl, rfl, rfl⟩ := hcs
    simp only [if_true] at hmm
    subst hmm
    have key : ∀ i, ∃ s1 s2 : ByteArray, i < m → (w.cell? (a.add (i * 2)) = some (.string s1) ∧ w.cell? (a.add (i * 2 + 1)) = some (.string s2) ∧ D i = .agg [.lit (.string s1.data.toList), .lit (.string s2.data.toList)]) := by
      intro i
      by_cases hi : i < m
      · obtain ⟨ys, k, hD, hP, hyl, hc⟩ := hf i hi
        obtain ⟨v0, y0, c0, g0, t0⟩ := hc 0 _ rfl
        obtain ⟨v1, y1, c1, g1, t1⟩ := hc 1 _ rfl
        obtain ⟨s0, e0, rfl, _⟩ := DataW.trod_string Tryz.underlying9 t0
        obtain ⟨s1, e1, rfl, _⟩ := DataW.trod_string Tryz.underlying9 t1
        simp only [List.cons.injEq, and_true] at e0 e1
        subst e0; subst e1
        refine ⟨s0, s1, fun _ => ⟨by simpa using c0, by simpa using c1, ?_⟩⟩
        rw [hD]
        match ys, hyl, g0, g1 with
        | [z0, z1], _, g0, g1 =>
          simp only [List.getElem?_cons_zero, List.getElem?_cons_succ, Option.some.injEq] at g0 g1
          subst g0; subst g1
          rfl
      · exact ⟨⟨#[]⟩, ⟨#[]⟩, fun h => absurd h hi⟩
    obtain ⟨f1, f2, hk⟩ : ∃ f1 f2 : Nat → ByteArray, ∀ i, i < m → (w.cell? (a.add (i * 2)) = some (.string (f1 i)) ∧ w.cell? (a.add (i * 2 + 1)) = some (.string (f2 i)) ∧ D i = .agg [.lit (.string (f1 i).data.toList), .lit (.string (f2 i).data.toList)]) :=
      ⟨fun i => Classical.choose (key i), fun i => Classical.choose (Classical.choose_spec (key i)), fun i => Classical.choose_spec (Classical.choose_spec (key i))⟩
    have hz1 : (n + (m - n)) * 32 ≤ reachBytes := by
      refine hz _ ?_
      rw [hx]
      unfold DataW.weights
      rw [Tryz.underlying22]
      simp only [List.length_map, List.length_range, fieldBytes]
      exact List.mem_cons_self
    have hr := reachBytes_lt
    have hpow : (2 : Nat) ^ 47 = 140737488355328 := by decide
    refine ⟨(List.range n).map fun i => (f1 i, f2 i), ⟨by simp, fun hn => ?_⟩, ?_, by omega⟩
    · obtain ⟨b, off, spot⟩ := a
      have h0 := (hk 0 (by omega)).1
      have hspot : spot = none := by simpa [Addr.add] using World.cell?_spot h0
      subst hspot
      refine ⟨b, off, rfl, ?_, fun i f hf => ?_⟩
      · refine hlt (.cell b off) ?_
        rw [hx]
        exact List.mem_append_left _ (by simp only [MemPlace.row, List.mem_map, List.mem_range]; exact ⟨0, by simp; omega, by simp⟩)
      · simp only [List.getElem?_map] at hf
        obtain ⟨j, hj, rfl⟩ := Option.map_eq_some_iff.1 hf
        have hj2 : i < n ∧ i = j := by
          have := List.getElem?_eq_some_iff.1 hj
          obtain ⟨h1, h2⟩ := this
          simp at h1 h2
          exact ⟨h1, h2⟩
        obtain ⟨hi, rfl⟩ := hj2
        have := hk i (by omega)
        rw [addr_add, addr_add] at this
        exact ⟨this.1, by rw [Nat.add_assoc]; exact this.2.1⟩
    · intro f hf
      obtain ⟨i, hi, rfl⟩ := List.mem_map.1 hf
      simp only [List.mem_range] at hi
      have hD := (hk i (by omega)).2.2
      have hw : ∀ k ∈ (D i).weights Tryz.prog 63, k ≤ reachBytes := by
        intro k hk'
        refine hz k ?_
        rw [hx]
        unfold DataW.weights
        rw [Tryz.underlying22]
        simp only
        refine List.mem_cons_of_mem _ (List.mem_append_left _ (weightsAll_mem ?_ hk'))
        exact List.mem_map.2 ⟨i, by simpa using hi, rfl⟩
      rw [hD] at hw
      have hw1 : (f1 i).data.toList.length ≤ reachBytes := hw _ (by
        unfold DataW.weights
        rw [hu]
        simp only [List.map_cons, List.map_nil]
        unfold DataW.weightsEach DataW.weights
        simp)
      have hw2 : (f2 i).data.toList.length ≤ reachBytes := hw _ (by
        unfold DataW.weights
        rw [hu]
        simp only [List.map_cons, List.map_nil]
        unfold DataW.weightsEach DataW.weightsEach DataW.weights
        simp)
      have e1 : (f1 i).size = (f1 i).data.toList.length := rfl
      have e2 : (f2 i).size = (f2 i).data.toList.length := rfl
      show (f1 i).size ≤ _ ∧ (f2 i).size ≤ _
      omega
end

theorem reach_le {n : Nat} (h : n ≤ reachBytes) : n ≤ 140737488355328 := by
  have h2 := reachBytes_lt
  have h3 : (2 : Nat) ^ 47 = 140737488355328 := by decide
  omega
theorem reach_size {s : ByteArray} (h : s.data.toList.length ≤ reachBytes) : s.size ≤ 140737488355328 := reach_le h

/-- THE TABLE OF POWERS, out of any row that lists it. -/
theorem pow_of {l : List (String × DataW Unit)} {W : World} (h : laidMetH Tryz.prog l W) (he : l.filter (fun x => x.1 == "internal/strconv.uint64pow10") = [("internal/strconv.uint64pow10", Rows.laid_internal_strconv_uint64pow10)]) : PowTab W := by
  have h2 := h.filter (fun x => x.1 == "internal/strconv.uint64pow10")
  rw [he] at h2
  exact Lib.tabIs_of_head (rest := []) powG_is (by kernel_rfl) Tryz.underlying273 Tryz.underlying226 (by kernel_rfl) (by kernel_rfl) h2

theorem powG_lt {W : World} (h : PowTab W) : powG < W.heap.size := by
  have := h.cell powG_is 0 (by decide)
  rcases Nat.lt_or_ge powG W.heap.size with h | h
  · exact h
  · simp [World.cell?, Array.getElem?_eq_none h] at this

/-- A WORLD THAT HOLDS THE THREE TABLES. -/
noncomputable def tabled (os : Os) : World :=
  let w0 := World.holding Tryz.prog os ⟨#[], #[], []⟩
  let put : List Value → Obj → Obj := fun vs o => match o with
    | .cells _ t frozen => .cells vs.toArray t frozen
    | o => o
  { w0 with heap := ((w0.heap.modify 2 (put (Lib.pow10Tab.map fun z => .int .u64 z))).modify 7 (put ([0, 1, 28, 2, 29, 14, 24, 3, 30, 22, 20, 15, 25, 17, 4, 8, 31, 27, 13, 23, 21, 19, 16, 7, 26, 12, 18, 6, 11, 5, 10, 9].map fun z => Value.int .u8 z))).modify 8 (put ([0, 1, 56, 2, 57, 49, 28, 3, 61, 58, 42, 50, 38, 29, 17, 4, 62, 47, 59, 36, 45, 43, 51, 22, 53, 39, 33, 30, 24, 18, 12, 5, 63, 55, 48, 27, 60, 41, 37, 16, 46, 35, 44, 21, 52, 32, 23, 11, 54, 26, 40, 15, 34, 20, 31, 10, 25, 14, 19, 9, 13, 8, 7, 6].map fun z => Value.int .u8 z)) }
end Go.Proofs.YtonlfplloenfcaaGreatDoor
