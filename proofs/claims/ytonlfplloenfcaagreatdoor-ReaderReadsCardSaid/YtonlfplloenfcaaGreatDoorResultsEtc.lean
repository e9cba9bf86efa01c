/-
  Results of which the first is a struct in its own block.
  A frame by the blocks' element types: only blocks of the listed types have turned. Plain facts, over any program.
  heads.control, heads.target, footmanref12.Control, footmanref12.target: each byte is asked.
  The walks of package ascii.
-/
import Derived.Laws.Rows
import Derived.Test.YtonlfplloenfcaaGreatDoorMem
import Derived.Test.YtonlfplloenfcaaGreatDoorProg
import Derived.Test.YtonlfplloenfcaaGreatDoorLinesEtc
import Derived.Lib.Hide
import Derived.WalkSmall
import Derived.BigQuiet
import Derived.Deep.QuietTactic
import Derived.Laws.Strings
import Derived.WalkLawsBesides
import Derived.WalkSpells
import Derived.IntWalk
import Derived.Outline
import Derived.Lib.UnsafeStr
import Derived.Lib.ConvBytes
namespace Go.Proofs.YtonlfplloenfcaaGreatDoor
open Go.RowKit
variable {P : Program}
theorem results_row_tmp {fn : Func} {p u : Tmp} {ty : TypeId} (h : fn.results = #[.cell p ty, .tmp u]) (tmps : Array Value) (w : World) (g : Nat) (t : TypeId) (cs : Array Value) (fr : Nat × Nat) (d : TypeDesc)
    (hp : tmps.getD p undef = .pointer (some ⟨g, 0, none⟩)) (hg : w.heap[g]? = some (.cells cs t fr))
    (hu : P.underlying ty = some d) (hd : (match d with | .struct _ | .array _ _ => true | _ => false) = true) (hi : (P.info? ty).map (·.size) = some cs.size) :
    (results fn tmps).run P w = .ok (.tuple #[.agg cs, tmps.getD u undef]) w := by
  have hp' : tmps[p]?.getD undef = .pointer (some ⟨g, 0, none⟩) := by simpa using hp
  simp [results, h, hp', asAddr, run_loadVar_row w g t ty cs fr d hg hu hd hi]
theorem results_row_tmp2 {fn : Func} {p u v : Tmp} {ty : TypeId} (h : fn.results = #[.cell p ty, .tmp u, .tmp v]) (tmps : Array Value) (w : World) (g : Nat) (t : TypeId) (cs : Array Value) (fr : Nat × Nat) (d : TypeDesc)
    (hp : tmps.getD p undef = .pointer (some ⟨g, 0, none⟩)) (hg : w.heap[g]? = some (.cells cs t fr))
    (hu : P.underlying ty = some d) (hd : (match d with | .struct _ | .array _ _ => true | _ => false) = true) (hi : (P.info? ty).map (·.size) = some cs.size) :
    (results fn tmps).run P w = .ok (.tuple #[.agg cs, tmps.getD u undef, tmps.getD v undef]) w := by
  have hp' : tmps[p]?.getD undef = .pointer (some ⟨g, 0, none⟩) := by simpa using hp
  simp [results, h, hp', asAddr, run_loadVar_row w g t ty cs fr d hg hu hd hi]
theorem run_loadVar_one (w : World) (g : Nat) (ty : TypeId) (d : TypeDesc) (v : Value) (hu : P.underlying ty = some d) (hd : (match d with | .struct _ | .array _ _ => true | _ => false) = false) (hc : w.cell? ⟨g, 0, none⟩ = some v) :
    (loadVar ty ⟨g, 0, none⟩).run P w = .ok v w := by
  have hagg : (isAgg ty).run P w = .ok false w := by
    unfold isAgg
    rw [Sem.run_bind, run_underlying hu w]
    cases d <;> simp_all
  simp [loadVar, Sem.run_bind, hagg, hc]
theorem results_row_cells {fn : Func} {p q r : Tmp} {ty t2 t3 : TypeId} (h : fn.results = #[.cell p ty, .cell q t2, .cell r t3]) (tmps : Array Value) (w : World) (g g2 g3 : Nat) (t : TypeId) (cs : Array Value) (fr : Nat × Nat) (d d2 d3 : TypeDesc) (v2 v3 : Value)
    (hp : tmps.getD p undef = .pointer (some ⟨g, 0, none⟩)) (hg : w.heap[g]? = some (.cells cs t fr)) (hq : tmps.getD q undef = .pointer (some ⟨g2, 0, none⟩)) (hr : tmps.getD r undef = .pointer (some ⟨g3, 0, none⟩))
    (hu : P.underlying ty = some d) (hd : (match d with | .struct _ | .array _ _ => true | _ => false) = true) (hi : (P.info? ty).map (·.size) = some cs.size)
    (hu2 : P.underlying t2 = some d2) (hd2 : (match d2 with | .struct _ | .array _ _ => true | _ => false) = false) (hc2 : w.cell? ⟨g2, 0, none⟩ = some v2)
    (hu3 : P.underlying t3 = some d3) (hd3 : (match d3 with | .struct _ | .array _ _ => true | _ => false) = false) (hc3 : w.cell? ⟨g3, 0, none⟩ = some v3) :
    (results fn tmps).run P w = .ok (.tuple #[.agg cs, v2, v3]) w := by
  have hp' : tmps[p]?.getD undef = .pointer (some ⟨g, 0, none⟩) := by simpa using hp
  have hq' : tmps[q]?.getD undef = .pointer (some ⟨g2, 0, none⟩) := by simpa using hq
  have hr' : tmps[r]?.getD undef = .pointer (some ⟨g3, 0, none⟩) := by simpa using hr
  simp [results, h, hp', hq', hr', asAddr, run_loadVar_row w g t ty cs fr d hg hu hd hi, run_loadVar_one w g2 t2 d2 v2 hu2 hd2 hc2, run_loadVar_one w g3 t3 d3 v3 hu3 hd3 hc3]
theorem infoF2 : (Tryz.prog.info? 63).map (·.size) = some 2 := by kernel_rfl
theorem set_two {w : World} {g : Nat} {t : TypeId} {a b : Value} (h : Blk w g t #[a, b]) (v0 v1 : Value) :
    Blk ((w.setCell ⟨g, 0, none⟩ v0).setCell ⟨g, 1, none⟩ v1) g t #[v0, v1] := by
  have h1 := (h.set_ 0 v0).set_ 1 v1
  simpa using h1
theorem below_two {B : Nat} {a w : World} (h : Below B a w) {g : Nat} (hg : B ≤ g) (v0 v1 : Value) : Below B a ((w.setCell ⟨g, 0, none⟩ v0).setCell ⟨g, 1, none⟩ v1) :=
  (h.setCell (p := ⟨g, 0, none⟩) hg v0).setCell (p := ⟨g, 1, none⟩) hg v1
end Go.Proofs.YtonlfplloenfcaaGreatDoor
namespace Go.Proofs.YtonlfplloenfcaaGreatDoor
open Go.RowKit

structure Tys (es : List TypeId) (w w' : World) : Prop where
  size : w.heap.size ≤ w'.heap.size
  block : ∀ k, k < w.heap.size → (∀ c e f, w.heap[k]? = some (.cells c e f) → e ∉ es) → w'.heap[k]? = w.heap[k]?

theorem Tys.refl (es : List TypeId) (w : World) : Tys es w w := ⟨Nat.le_refl _, fun _ _ _ => rfl⟩
theorem Tys.trans {es : List TypeId} {a b c : World} (h : Tys es a b) (k : Tys es b c) : Tys es a c :=
  ⟨Nat.le_trans h.size k.size, fun i hi hn => by
    have e1 := h.block i hi hn
    rw [k.block i (Nat.lt_of_lt_of_le hi h.size) (by rw [e1]; exact hn), e1]⟩
theorem Tys.mono {es es' : List TypeId} {a b : World} (h : Tys es a b) (hs : ∀ e ∈ es, e ∈ es') : Tys es' a b :=
  ⟨h.size, fun i hi hn => h.block i hi fun c e f hc he => hn c e f hc (hs e he)⟩
theorem Tys.of_below (es : List TypeId) {a b : World} (h : Below a.heap.size a b) : Tys es a b := ⟨h.size, fun k hk _ => h.block k hk⟩
theorem Tys.alloc {es : List TypeId} {a b : World} (h : Tys es a b) (o : Obj) : Tys es a (b.alloc o) := h.trans ⟨by simp, fun k hk _ => Below.heap_alloc _ _ _ hk⟩
theorem Tys.setCell {es : List TypeId} {a b : World} (h : Tys es a b) {p : Addr} {c : Array Value} {e : TypeId} {f : Nat × Nat} (hp : b.heap[p.block]? = some (.cells c e f)) (he : e ∈ es) (u : Value) : Tys es a (b.setCell p u) :=
  h.trans ⟨by simp [World.setCell], fun k _ hn => Below.heap_setCell _ _ _ _ (fun e' => by subst e'; exact hn _ _ _ hp he)⟩
theorem Tys.grown {es : List TypeId} {a b c : World} {row : Option Nat} (h : Tys es a b) (hg : b.grownBy c row) (hr : ∀ g, row = some g → ∃ cs e f, b.heap[g]? = some (.cells cs e f) ∧ e ∈ es) : Tys es a c :=
  h.trans ⟨hg.size, fun k hk hn => hg.block k hk (fun e => by
    obtain ⟨cs, e', f, h1, h2⟩ := hr k e.symm
    exact hn _ _ _ h1 h2)⟩
theorem own_heap {w : World} {base n : Nat} {e : TypeId} {size : Nat} {v : Value} {xs : List Value} (h : w.ownsRow base e size v n xs) {g : Nat} (hg : v.ownBlock = some g) : ∃ cs, w.heap[g]? = some (.cells cs e (0, 0)) := by
  rcases h.2 with ⟨rfl, _⟩ | ⟨g', cap, cur, rfl, _, hh, _⟩
  · simp [Value.ownBlock] at hg
  · simp [Value.ownBlock] at hg; subst hg; exact ⟨_, hh⟩
theorem own_tys {es : List TypeId} {w w' : World} {base n : Nat} {e : TypeId} {size : Nat} {v : Value} {xs : List Value} (h : w.ownsRow base e size v n xs) (ht : Tys es w w') (he : e ∉ es) : w'.ownsRow base e size v n xs := by
  refine ⟨h.1, ?_⟩
  rcases h.2 with hn | ⟨g, cap, cur, rfl, hb, hgg, rest⟩
  · exact .inl hn
  · refine .inr ⟨g, cap, cur, rfl, hb, ?_, rest⟩
    rw [ht.block g (Array.getElem?_eq_some_iff.1 hgg).1 (fun c e' f hc he' => by rw [hgg] at hc; injection hc with hc; injection hc with _ h2; exact he (h2 ▸ he'))]
    exact hgg
theorem blk_tys {es : List TypeId} {w w' : World} {g : Nat} {t : TypeId} {cs : Array Value} (h : Blk w g t cs) (ht : Tys es w w') (he : t ∉ es) : Blk w' g t cs :=
  (ht.block g h.lt (fun c e' f hc he' => by unfold Blk at h; rw [h] at hc; injection hc with hc; injection hc with _ h2; exact he (h2 ▸ he'))).trans h
theorem Blk.heap {w : World} {g : Nat} {t : TypeId} {cs : Array Value} (h : Blk w g t cs) : w.heap[g]? = some (.cells cs t (0, 0)) := h
end Go.Proofs.YtonlfplloenfcaaGreatDoor
namespace Go.Proofs.YtonlfplloenfcaaGreatDoor
open Go.RowKit

theorem take_byte (s : ByteArray) (k : Nat) (h : k < s.size) : s.data.toList.take (k + 1) = s.data.toList.take k ++ [s[k]] := by
  rw [List.take_succ_eq_append_getElem (by simpa using h)]; rfl
theorem all_step {p : UInt8 → Bool} {s : ByteArray} {k : Nat} (h : k < s.size) (hp : (s.data.toList.take k).all p = true) (hx : p s[k] = true) : (s.data.toList.take (k + 1)).all p = true := by
  rw [take_byte s k h, List.all_append, hp, List.all_cons, hx]; rfl
theorem byte_at (s : ByteArray) (k : Nat) (h : k < s.size) : s.data.toList[k]? = some s[k] := List.getElem?_eq_getElem (by simpa using h)
theorem all_fail {p : UInt8 → Bool} {s : ByteArray} {k : Nat} (h : k < s.size) (hx : p s[k] = false) : s.data.toList.all p = false :=
  List.all_eq_false.2 ⟨s[k], List.mem_of_getElem? (byte_at s k h), by simp [hx]⟩
theorem ctrl_iff (x : UInt8) : ctrlOK x = !(decide ((x.toNat : Int) < 32) && ((x.toNat : Int) != 9) || ((x.toNat : Int) == 127)) := by
  have h := all_bytes (p := fun x => ctrlOK x == !(decide ((x.toNat : Int) < 32) && ((x.toNat : Int) != 9) || ((x.toNat : Int) == 127))) (by decide +kernel) x
  simpa using h
set_option maxRecDepth 100000 in
theorem control_any (s : ByteArray) (w : World) (hs : s.size ≤ 140737488355328) :
   Calls Tryz.prog 146 #[.string s] w fun e w' => e = .returned (.bool (!plainB s.data.toList)) ∧ ∃ q, w' = w.drewN q := by
  go_enter Tryz.func146, Tryz.ntmps146
  go_wp2_with fail
  go_loopw [6] (fun i wr => ∃ k : Nat, k ≤ s.size ∧ i = .int .i64 k ∧ Hid (plainB (s.data.toList.take k) = true) ∧ ∃ q, wr = w.drewN q) (fun i _ => s.size - (intOf i).toNat)
  case atStart => exact ⟨0, Nat.zero_le _, rfl, by simp [Hid, plainB], 0, rfl⟩
  case round =>
    obtain ⟨k, hk, rfl, hp, q, rfl⟩ := hrel
    by_cases hlt : k < s.size
    · have hx := ctrl_iff s[k]
      have good : ctrlOK s[k] = true → Hid (plainB (s.data.toList.take (k + 1)) = true) := fun h => all_step hlt hp.out h
      have badc : ctrlOK s[k] = false → plainB s.data.toList = false := fun h => all_fail hlt h
      have HX := Lib.hid hx
      have HG := Lib.hid good
      have HB := Lib.hid badc
      clear hx good badc
      by_cases h3 : (s[k].toNat : Int) = 127
      · have b0 : ¬ (s[k].toNat : Int) < 32 := by omega
        have b1 : decide ((s[k].toNat : Int) < 32) = false := decide_eq_false b0
        have b2 : ((s[k].toNat : Int) == 127) = true := by simp [h3]
        have hv := HB.out (by rw [HX.out, b2]; simp)
        have HV := Lib.hid hv
        clear hv h3
        go_wp2
        go_ret
        exact ⟨by rw [HV.out]; rfl, _, rfl⟩
      · have b2 : ((s[k].toNat : Int) == 127) = false := by simp [h3]
        by_cases h1 : (s[k].toNat : Int) < 32
        · have b4 : decide ((s[k].toNat : Int) < 32) = true := decide_eq_true h1
          by_cases h2 : (s[k].toNat : Int) = 9
          · have b1 : ((s[k].toNat : Int) != 9) = false := by simp [h2]
            have hv := HG.out (by rw [HX.out, b1, b2]; simp)
            have HV := Lib.hid hv
            clear hv h2 h3
            go_wp2
            go_roundw
            case rel => exact ⟨k + 1, by omega, by go_num, HV.out, _, rfl⟩
            case measure => simp [intOf]; omega
          · have b1 : ((s[k].toNat : Int) != 9) = true := by simp [h2]
            have hv := HB.out (by rw [HX.out, b1, b2, b4]; simp)
            have HV := Lib.hid hv
            clear hv h2 h3
            go_wp2
            go_ret
            exact ⟨by rw [HV.out]; rfl, _, rfl⟩
        · have b1 : decide ((s[k].toNat : Int) < 32) = false := decide_eq_false h1
          have hv := HG.out (by rw [HX.out, b1, b2]; simp)
          have HV := Lib.hid hv
          clear hv h3
          go_wp2
          go_roundw
          case rel => exact ⟨k + 1, by omega, by go_num, HV.out, _, rfl⟩
          case measure => simp [intOf]; omega
    · obtain rfl : k = s.size := by omega
      have hf : plainB s.data.toList = true := by
        have h := hp.out
        rwa [List.take_of_length_le (by simp)] at h
      have HF := Lib.hid hf
      clear hf
      go_wp2
      go_ret
      exact ⟨by rw [HF.out]; rfl, _, rfl⟩
set_option maxRecDepth 100000 in
theorem rcontrol_any (s : ByteArray) (w : World) (hs : s.size ≤ 140737488355328) :
   Calls Tryz.prog 77 #[.string s] w fun e w' => e = .returned (.bool (!plainB s.data.toList)) ∧ ∃ q, w' = w.drewN q := by
  go_enter Tryz.func77, Tryz.ntmps77
  go_wp2_with fail
  go_loopw [3] (fun i wr => ∃ k : Nat, k ≤ s.size ∧ i = .int .i64 k ∧ Hid (plainB (s.data.toList.take k) = true) ∧ ∃ q, wr = w.drewN q) (fun i _ => s.size - (intOf i).toNat)
  case atStart => exact ⟨0, Nat.zero_le _, rfl, by simp [Hid, plainB], 0, rfl⟩
  case round =>
    obtain ⟨k, hk, rfl, hp, q, rfl⟩ := hrel
    by_cases hlt : k < s.size
    · have hx := ctrl_iff s[k]
      have good : ctrlOK s[k] = true → Hid (plainB (s.data.toList.take (k + 1)) = true) := fun h => all_step hlt hp.out h
      have badc : ctrlOK s[k] = false → plainB s.data.toList = false := fun h => all_fail hlt h
      have HX := Lib.hid hx
      have HG := Lib.hid good
      have HB := Lib.hid badc
      clear hx good badc
      by_cases h3 : (s[k].toNat : Int) = 127
      · have b0 : ¬ (s[k].toNat : Int) < 32 := by omega
        have b1 : decide ((s[k].toNat : Int) < 32) = false := decide_eq_false b0
        have b2 : ((s[k].toNat : Int) == 127) = true := by simp [h3]
        have hv := HB.out (by rw [HX.out, b2]; simp)
        have HV := Lib.hid hv
        clear hv h3
        go_wp2
        go_ret
        exact ⟨by rw [HV.out]; rfl, _, rfl⟩
      · have b2 : ((s[k].toNat : Int) == 127) = false := by simp [h3]
        by_cases h1 : (s[k].toNat : Int) < 32
        · have b4 : decide ((s[k].toNat : Int) < 32) = true := decide_eq_true h1
          by_cases h2 : (s[k].toNat : Int) = 9
          · have b1 : ((s[k].toNat : Int) != 9) = false := by simp [h2]
            have hv := HG.out (by rw [HX.out, b1, b2]; simp)
            have HV := Lib.hid hv
            clear hv h2 h3
            go_wp2
            go_roundw
            case rel => exact ⟨k + 1, by omega, by go_num, HV.out, _, rfl⟩
            case measure => simp [intOf]; omega
          · have b1 : ((s[k].toNat : Int) != 9) = true := by simp [h2]
            have hv := HB.out (by rw [HX.out, b1, b2, b4]; simp)
            have HV := Lib.hid hv
            clear hv h2 h3
            go_wp2
            go_ret
            exact ⟨by rw [HV.out]; rfl, _, rfl⟩
        · have b1 : decide ((s[k].toNat : Int) < 32) = false := decide_eq_false h1
          have hv := HG.out (by rw [HX.out, b1, b2]; simp)
          have HV := Lib.hid hv
          clear hv h3
          go_wp2
          go_roundw
          case rel => exact ⟨k + 1, by omega, by go_num, HV.out, _, rfl⟩
          case measure => simp [intOf]; omega
    · obtain rfl : k = s.size := by omega
      have hf : plainB s.data.toList = true := by
        have h := hp.out
        rwa [List.take_of_length_le (by simp)] at h
      have HF := Lib.hid hf
      clear hf
      go_wp2
      go_ret
      exact ⟨by rw [HF.out]; rfl, _, rfl⟩
end Go.Proofs.YtonlfplloenfcaaGreatDoor
namespace Go.Proofs.YtonlfplloenfcaaGreatDoor
open Go.RowKit

def lowB (c : UInt8) : UInt8 := if 65 ≤ c ∧ c ≤ 90 then c + 32 else c
theorem or32 : ∀ n : Fin 256, 65 ≤ n.val → n.val ≤ 90 → bits .or .u8 (n.val : Int) 32 = (n.val : Int) + 32 := by decide +kernel
theorem lowB_hit (c : UInt8) (h1 : (65 : Int) ≤ (c.toNat : Int)) (h2 : (c.toNat : Int) ≤ 90) : bits .or .u8 (c.toNat : Int) 32 = ((lowB c).toNat : Int) := by
  have h := or32 ⟨c.toNat, c.toNat_lt⟩ (by show 65 ≤ c.toNat; omega) (by show c.toNat ≤ 90; omega)
  simp only at h
  rw [h, lowB, if_pos (by rw [UInt8.le_iff_toNat_le, UInt8.le_iff_toNat_le]; exact ⟨by simp; omega, by simp; omega⟩), UInt8.toNat_add]
  simp; omega
theorem lowB_miss (c : UInt8) (h : (c.toNat : Int) < 65 ∨ (90 : Int) < (c.toNat : Int)) : lowB c = c := by
  rw [lowB, if_neg]
  rw [UInt8.le_iff_toNat_le, UInt8.le_iff_toNat_le]
  simp; omega
theorem low1 (c : UInt8) (w : World) : Calls Tryz.prog 128 #[.int .u8 (c.toNat : Int)] w fun e w' => e = .returned (.int .u8 ((lowB c).toNat : Int)) ∧ w = w' := by
  go_enter Tryz.func128, Tryz.ntmps128
  go_wp2
  all_goals go_ret
  · exact ⟨ret_int (lowB_hit c (by assumption) (by assumption)), rfl⟩
  · exact ⟨ret_int (by rw [lowB_miss c (.inr (by assumption))]), rfl⟩
  · exact ⟨ret_int (by rw [lowB_miss c (.inl (by assumption))]), rfl⟩

theorem bytesWorld_below (w : World) (e : TypeId) (s : ByteArray) : Below w.heap.size w (Lib.bytesWorld w e s) :=
  ⟨by simp [Lib.bytesWorld, World.freeze, World.alloc, World.drew, -World.alloc_eq, -World.drew_eq], by simp [Lib.bytesWorld, World.freeze, World.alloc, World.drew, -World.alloc_eq, -World.drew_eq], by simp [Lib.bytesWorld, World.freeze, World.alloc, World.drew, -World.alloc_eq, -World.drew_eq], by rw [Lib.bytesWorld_size]; omega, fun k hk => Lib.bytesWorld_at_old w e s k hk⟩
theorem bytesWorld_frozen (w : World) (e : TypeId) (s : ByteArray) (j : Nat) (hj : j < s.size) : (Lib.bytesWorld w e s).frozen? ⟨w.heap.size, j, none⟩ = false := by
  simp [World.frozen?, Lib.bytesWorld_at_new, Lib.bytesCells]
  intro h
  have : s.data.size = s.size := rfl
  omega

/-- The bytes of a row, cell by cell. -/
def ByteAt (w : World) (B : Nat) (n : Nat) (f : Nat → UInt8) : Prop := ∀ j, j < n → w.cell? ⟨B, j, none⟩ = some (.int .u8 ((f j).toNat : Int)) ∧ w.frozen? ⟨B, j, none⟩ = false

theorem ByteAt.set {w : World} {B n : Nat} {f : Nat → UInt8} (h : ByteAt w B n f) (k : Nat) (u : UInt8) : ByteAt (w.setCell ⟨B, k, none⟩ (.int .u8 (u.toNat : Int))) B n (fun j => if j = k then u else f j) := by
  intro j hj
  obtain ⟨h1, h2⟩ := h j hj
  refine ⟨?_, by rw [World.frozen?_setCell]; exact h2⟩
  by_cases e : j = k
  · subst e
    show _ = some (Value.int .u8 ((if j = j then u else f j).toNat : Int))
    rw [if_pos rfl]
    exact World.cell?_setCell_same' _ _ _ (by rw [h1]; rfl)
  · show _ = some (Value.int .u8 ((if j = k then u else f j).toNat : Int))
    rw [if_neg e, World.cell?_setCell_other _ _ _ _ (fun he => e (by injection he with _ h2; exact h2.symm))]
    exact h1
theorem run_bytes_back {P : Program} {w : World} {src dst e : TypeId} {B n cap : Nat} {f : Nat → UInt8} (hs : P.underlying src = some (.slice e)) (he : P.underlying e = some (.int .u8)) (hd : P.underlying dst = some .string)
    (h : ByteAt w B n f) (l : List UInt8) (hl : l.length = n) (hf : ∀ j (hj : j < l.length), l[j] = f j) :
    (convert src dst (.slice (some ⟨B, 0, none⟩) n cap)).run P w = .ok (.string ⟨l.toArray⟩) w := by
  subst hl
  exact run_convert_bytes_back w src dst e ⟨B, 0, none⟩ cap l hs he hd fun j hj => by rw [Addr.add_lit, Nat.zero_add, (h j hj).1, hf j hj]
theorem ByteAt.congr {w : World} {B n : Nat} {f g : Nat → UInt8} (h : ByteAt w B n f) (e : ∀ j, j < n → f j = g j) : ByteAt w B n g := fun j hj => by rw [← e j hj]; exact h j hj

set_option maxRecDepth 100000 in
theorem each_low (s : ByteArray) (w : World) (hs : s.size ≤ 1048576) :
   Calls Tryz.prog 127 #[.string s, .func (.func 128) #[] #[]] w fun e w' => e = .returned (.string ⟨(s.data.toList.map lowB).toArray⟩) ∧ Below w.heap.size w w' := by
  have hcv := fun W => Lib.run_convert_string_bytes (P := Tryz.prog) W 9 23 5 s Tryz.underlying9 Tryz.underlying23 Tryz.underlying5
  go_enter Tryz.func127, Tryz.ntmps127
  go_wp2
  have hw0 : Below w.heap.size w (Lib.bytesWorld w 5 s) := bytesWorld_below _ _ _
  have hc0 : ∀ j, j < s.size → (Lib.bytesWorld w 5 s).cell? ⟨w.heap.size, j, none⟩ = some (.int .u8 ((s.data.toList.getD j 0).toNat : Int)) := fun j hj => Lib.bytesWorld_cell w _ s j hj
  have hf0 : ∀ j, j < s.size → (Lib.bytesWorld w 5 s).frozen? ⟨w.heap.size, j, none⟩ = false := fun j hj => bytesWorld_frozen w _ s j hj
  have hsz0 : w.heap.size < (Lib.bytesWorld w 5 s).heap.size := by rw [Lib.bytesWorld_size]; omega
  generalize Lib.bytesWorld w 5 s = W0 at *
  generalize hcap : grownCap w s.size 0 5 = cap at *
  clear hcv hcap
  go_loopw [12] (fun i wr => ∃ k : Nat, k ≤ s.size ∧ i = .int .i64 k ∧ Below w.heap.size w wr ∧ ByteAt wr w.heap.size s.size (fun j => if j < k then lowB (s.data.toList.getD j 0) else s.data.toList.getD j 0))
    (fun i _ => s.size - (intOf i).toNat)
  case atStart => exact ⟨0, Nat.zero_le _, rfl, hw0, fun j hj => ⟨by simpa using hc0 j hj, hf0 j hj⟩⟩
  case round =>
    obtain ⟨k, hk, rfl, hb, hrow⟩ := hrel
    by_cases hlt : k < s.size
    · have hc := (hrow k hlt).1
      have hf := (hrow k hlt).2
      simp only [Nat.lt_irrefl, if_false] at hc
      have HR := Lib.hid hrow
      clear hrow hc0 hf0
      generalize hx : s.data.toList.getD k 0 = x at *
      have HX := Lib.hid hx
      clear hx
      go_wp2_with (go_at_call 128; refine (low1 _ _).mono ?_; rintro e w' ⟨rfl, rfl⟩)
      go_roundw
      case rel =>
        refine ⟨k + 1, by omega, by go_num, hb.setCell (Nat.le_refl _) _, ((HR.out).set k (lowB x)).congr fun j hj => ?_⟩
        rw [← HX.out]
        by_cases e : j = k
        · subst e; rw [if_pos rfl, if_pos (by omega)]
        · rw [if_neg e]
          by_cases e2 : j < k
          · rw [if_pos e2, if_pos (by omega)]
          · rw [if_neg e2, if_neg (by omega)]
      case measure => simp [intOf]; omega
    · obtain rfl : k = s.size := by omega
      have hcv := run_bytes_back (P := Tryz.prog) (src := 23) (dst := 9) (cap := cap) Tryz.underlying23 Tryz.underlying5 Tryz.underlying9 hrow (s.data.toList.map lowB) (by simp) (fun j hj => by
        have : j < s.data.toList.length := by simpa using hj
        have h2 : j < s.size := by simpa using this
        simp [h2, List.getD])
      clear hrow hc0 hf0
      go_wp2
      go_ret
      exact ⟨rfl, hb⟩
theorem Lower_any (s : ByteArray) (w : World) (hs : s.size ≤ 1048576) :
   Calls Tryz.prog 48 #[.string s] w fun e w' => e = .returned (.string ⟨(s.data.toList.map lowB).toArray⟩) ∧ Below w.heap.size w w' := by
  go_enter Tryz.func48, Tryz.ntmps48
  go_wp2_with (go_at_call 127; refine (each_low _ _ hs).mono ?_; rintro e w' ⟨rfl, hb⟩)
  go_ret
  exact ⟨rfl, hb⟩

def lower (l : List UInt8) : List UInt8 := l.map lowB
def sameB (a b : List UInt8) : Bool := lower a == lower b
theorem Same_any (s t : ByteArray) (w : World) (hs : s.size ≤ 1048576) (ht : t.size ≤ 1048576) :
   Calls Tryz.prog 47 #[.string s, .string t] w fun e w' => e = .returned (.bool (sameB s.data.toList t.data.toList)) ∧ Below w.heap.size w w' := by
  by_cases hl : s.size = t.size
  · have hl1 : ((s.size : Int) == (t.size : Int)) = true := by simp [hl]
    have H := Lib.hid hl
    clear hl
    go_enter Tryz.func47, Tryz.ntmps47
    go_wp2_with (go_at_call 48; refine (Lower_any _ _ (by omega)).mono ?_; rintro e w' ⟨rfl, hb⟩)
    go_ret
    rename_i w1 hb1
    exact ⟨rfl, hb1.trans (hb.mono hb1.size)⟩
  · have hl1 : ((s.size : Int) == (t.size : Int)) = false := by simp; omega
    have hne : sameB s.data.toList t.data.toList = false := by
      simp only [sameB, beq_eq_false_iff_ne, ne_eq]
      intro h
      have := congrArg List.length h
      simp [lower] at this
      exact hl this
    have H := Lib.hid hl
    have HN := Lib.hid hne
    clear hl hne
    go_enter Tryz.func47, Tryz.ntmps47
    go_wp2_with (fail)
    go_ret
    exact ⟨ret_bool (HN.out).symm, Below.refl _ _⟩
end Go.Proofs.YtonlfplloenfcaaGreatDoor
