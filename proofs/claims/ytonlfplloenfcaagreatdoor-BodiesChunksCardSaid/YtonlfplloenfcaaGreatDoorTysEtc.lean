/-
  A frame by the blocks' element types: only blocks of the listed types have turned. Plain facts, over any program.
  append onto a row of the call's own, with where the new row lies: in the old block, or in the block just made, the old one left as it was. Over any program. (The proof is turned from the library's 'run_append_own'.)
  Results of which the first is a struct in its own block.
  heads.control, heads.target, footmanref12.Control, footmanref12.target: each byte is asked.
-/
import Derived.Test.YtonlfplloenfcaaGreatDoorMem
import Derived.Laws.Rows
import Derived.Test.YtonlfplloenfcaaGreatDoorProg
import Derived.Test.YtonlfplloenfcaaGreatDoorLinesEtc
import Derived.Lib.Hide
import Derived.WalkSmall
import Derived.BigQuiet
import Derived.Deep.QuietTactic
import Derived.Laws.Strings
namespace Go.Proofs.YtonlfplloenfcaaGreatDoor
open Go.RowKit

structure Tys (es : List TypeId) (w w' : World) : Prop where
  size : w.heap.size ≤ w'.heap.size
  block : ∀ k, k < w.heap.size → (∀ c e f, w.heap[k]? = some (.cells c e f) → e ∉ es) → w'.heap[k]? = w.heap[k]?

theorem Tys.refl (es : List TypeId) (w : World) : Tys es w w := ⟨Nat.le_refl _, fun _ _ _ => rfl⟩
theorem Tys.trans {es : List TypeId} {a b c : World} (h : Tys es a b) (k : Tys es b c) : Tys es a c :=
  ⟨Nat.le_trans h.size k.size, fun i hi hn => by
    have e1 := h.block i hi hn
    rw [k.block i (Nat.lt_of_lt_of_le hi h.size) (by rw [e1]; exact hn), e1]⟩
theorem Tys.mono {es es' : List TypeId} {a b : World} (h : Tys es a b) (hs : ∀ e ∈ es, e ∈ es') : Tys es' a b :=
  ⟨h.size, fun i hi hn => h.block i hi fun c e f hc he => hn c e f hc (hs e he)⟩
theorem Tys.of_below (es : List TypeId) {a b : World} (h : Below a.heap.size a b) : Tys es a b := ⟨h.size, fun k hk _ => h.block k hk⟩
theorem Tys.alloc {es : List TypeId} {a b : World} (h : Tys es a b) (o : Obj) : Tys es a (b.alloc o) := h.trans ⟨by simp, fun k hk _ => Below.heap_alloc _ _ _ hk⟩
theorem Tys.drewN {es : List TypeId} {a b : World} (h : Tys es a b) (n : Nat) : Tys es a (b.drewN n) := ⟨h.size, h.block⟩
theorem Tys.drew {es : List TypeId} {a b : World} (h : Tys es a b) : Tys es a b.drew := ⟨h.size, h.block⟩
theorem Tys.setCell {es : List TypeId} {a b : World} (h : Tys es a b) {p : Addr} {c : Array Value} {e : TypeId} {f : Nat × Nat} (hp : b.heap[p.block]? = some (.cells c e f)) (he : e ∈ es) (u : Value) : Tys es a (b.setCell p u) :=
  h.trans ⟨by simp [World.setCell], fun k _ hn => Below.heap_setCell _ _ _ _ (fun e' => by subst e'; exact hn _ _ _ hp he)⟩
theorem Tys.grown {es : List TypeId} {a b c : World} {row : Option Nat} (h : Tys es a b) (hg : b.grownBy c row) (hr : ∀ g, row = some g → ∃ cs e f, b.heap[g]? = some (.cells cs e f) ∧ e ∈ es) : Tys es a c :=
  h.trans ⟨hg.size, fun k hk hn => hg.block k hk (fun e => by
    obtain ⟨cs, e', f, h1, h2⟩ := hr k e.symm
    exact hn _ _ _ h1 h2)⟩
theorem own_heap {w : World} {base n : Nat} {e : TypeId} {size : Nat} {v : Value} {xs : List Value} (h : w.ownsRow base e size v n xs) {g : Nat} (hg : v.ownBlock = some g) : ∃ cs, w.heap[g]? = some (.cells cs e (0, 0)) := by
  rcases h.2 with ⟨rfl, _⟩ | ⟨g', cap, cur, rfl, _, hh, _⟩
  · simp [Value.ownBlock] at hg
  · simp [Value.ownBlock] at hg; subst hg; exact ⟨_, hh⟩
theorem own_tys {es : List TypeId} {w w' : World} {base n : Nat} {e : TypeId} {size : Nat} {v : Value} {xs : List Value} (h : w.ownsRow base e size v n xs) (ht : Tys es w w') (he : e ∉ es) : w'.ownsRow base e size v n xs := by
  refine ⟨h.1, ?_⟩
  rcases h.2 with hn | ⟨g, cap, cur, rfl, hb, hgg, rest⟩
  · exact .inl hn
  · refine .inr ⟨g, cap, cur, rfl, hb, ?_, rest⟩
    rw [ht.block g (Array.getElem?_eq_some_iff.1 hgg).1 (fun c e' f hc he' => by rw [hgg] at hc; injection hc with hc; injection hc with _ h2; exact he (h2 ▸ he'))]
    exact hgg
theorem blk_tys {es : List TypeId} {w w' : World} {g : Nat} {t : TypeId} {cs : Array Value} (h : Blk w g t cs) (ht : Tys es w w') (he : t ∉ es) : Blk w' g t cs :=
  (ht.block g h.lt (fun c e' f hc he' => by unfold Blk at h; rw [h] at hc; injection hc with hc; injection hc with _ h2; exact he (h2 ▸ he'))).trans h
/-- Rows of two element types lie in two blocks. -/
theorem own_ne {w : World} {base base' n n' : Nat} {e e' : TypeId} {size size' : Nat} {v v' : Value} {xs xs' : List Value} (h : w.ownsRow base e size v n xs) (h' : w.ownsRow base' e' size' v' n' xs') (hne : e ≠ e') {g : Nat} (hg : v.ownBlock = some g) : v'.ownBlock ≠ some g := by
  intro hg'
  obtain ⟨cs, h1⟩ := own_heap h hg
  obtain ⟨cs', h2⟩ := own_heap h' hg'
  rw [h1] at h2
  injection h2 with h2
  injection h2 with _ h3
  exact hne h3
theorem Blk.heap {w : World} {g : Nat} {t : TypeId} {cs : Array Value} (h : Blk w g t cs) : w.heap[g]? = some (.cells cs t (0, 0)) := h
end Go.Proofs.YtonlfplloenfcaaGreatDoor
namespace Go.Proofs.YtonlfplloenfcaaGreatDoor
open Go.RowKit

section
variable {P : Program} (w : World)
theorem run_append_strong (base : Nat) (t ty e : TypeId) (i : TypeInfo) (z : Value) (size bytes : Nat) (ht : P.underlying t = some (.slice e)) (hi : P.info? e = some i) (hz : i.zero = some z)
    (hsize : i.size = size) (hby : i.bytes = bytes) (hzs : z.cells.size = size) (_hsz : 0 < size)
    (v : Value) (n : Nat) (xs : List Value) (hown : w.ownsRow base e size v n xs)
    (a : Addr) (m c : Nat) (news : List Value) (hl : news.length = m * size) (hnews : ∀ j u, news[j]? = some u → w.cell? (a.add j) = some u) (h1 : ∀ u ∈ news, u.oneCell' = true)
    (h63 : n + m ≤ maxLen) (hbytes : (n + m) * bytes ≤ 140737488355328) (hbase : base ≤ w.heap.size) (hm : 0 < m) :
    ∃ v' w', (Builtin.append_ #[t, t] ty #[v, .slice (some a) m c]).run P w = .ok v' w' ∧ w'.ownsRow base e size v' (n + m) (xs ++ news) ∧
      ((v'.ownBlock = v.ownBlock ∧ w.grownBy w' v.ownBlock) ∨ (v'.ownBlock = some w.heap.size ∧ w.grownBy w' none)) := by
  subst hsize
  subst hby
  have hsmall : n + m ≤ 9223372036854775807 := by simp only [maxLen] at h63; omega
  have hlen : (xs ++ news).length = (n + m) * i.size := by rw [List.length_append, hown.1, hl, Nat.add_mul]
  have grown : ∀ (old : Nat), old < n + m →
      (w.drew.alloc (.cells (xs.toArray ++ news.toArray ++ Builtin.zeroCells z.cells (grownCap w (n + m) old e - (n + m))) e)).ownsRow base e i.size
        (.slice (some ⟨w.heap.size, 0, none⟩) (n + m) (grownCap w (n + m) old e)) (n + m) (xs ++ news) ∧
      w.grownBy (w.drew.alloc (.cells (xs.toArray ++ news.toArray ++ Builtin.zeroCells z.cells (grownCap w (n + m) old e - (n + m))) e)) none := by
    intro old ho
    have hge := grownCap_ge w (n + m) old e
    have hcm : grownCap w (n + m) old e ≤ maxLen := grownCap_le_maxLen w (n + m) old e h63
    refine ⟨⟨hlen, .inr ⟨w.heap.size, _, _, rfl, hbase, heap_alloc_new w.drew _, hge, hcm, ?_, ?_⟩⟩, ⟨rfl, rfl, rfl, by simp, fun k hk _ => Below.heap_alloc w.drew _ k hk⟩⟩
    · simp only [Array.size_append, List.size_toArray, size_zeroCells, hzs, hown.1, hl, ← Nat.add_mul]
      congr 1
      omega
    · simp only [Array.toList_append, List.append_assoc]
      rw [← List.append_assoc, ← hlen]
      exact List.take_left
  rcases hown.2 with ⟨rfl, rfl⟩ | ⟨g, cap, cur, rfl, hbg, hg, hnc, hcm, hcs, htake⟩
  · have hx : xs = [] := List.eq_nil_of_length_eq_zero (by simpa using hown.1)
    subst hx
    have hr := run_append_nil (P := P) w t ty e i z ht hi hz a m c news hl hnews (by omega) (by omega) (by have hb := hbytes; simp only [Nat.zero_add] at hb; omega)
    have hgr := grown 0 (by omega)
    simp only [Nat.zero_add, List.nil_append, Array.empty_append] at hgr ⊢
    exact ⟨_, _, hr, hgr.1, .inr ⟨rfl, hgr.2⟩⟩
  · by_cases hroom : n + m ≤ cap
    · have hfit : n * i.size + news.length ≤ cur.size := by rw [hl, hcs, ← Nat.add_mul]; exact Nat.mul_le_mul_right _ hroom
      have hr := run_append_room (P := P) w t ty e i ht hi g n cap cur hg a m c news hl hnews h1 hroom hfit
      refine ⟨_, _, hr, ⟨hlen, .inr ⟨g, cap, _, rfl, hbg, setRow_heap w g cur _ e _ hg, hroom, hcm, ?_, ?_⟩⟩, .inl ⟨rfl, ⟨rfl, rfl, rfl, by simp, fun k _ hk => setRow_other w g k _ (fun e => hk (by simp [Value.ownBlock, e]))⟩⟩⟩
      · simp only [List.size_toArray, List.length_append, List.length_take, List.length_drop, Array.length_toList]
        omega
      · rw [htake, ← hlen]
        exact List.take_left
    · have holds : ∀ j u, xs[j]? = some u → w.cell? ((⟨g, 0, none⟩ : Addr).add j) = some u := hown.cells (g := g) rfl
      have hr := run_append_grow (P := P) w t ty e i z ht hi hz ⟨g, 0, none⟩ n cap xs hown.1 holds a m c news hl hnews (by omega) (by omega) (growslice_fits (by omega) hbytes)
      have hgr := grown cap (by omega)
      exact ⟨_, _, hr, hgr.1, .inr ⟨rfl, hgr.2⟩⟩

theorem wpList_append_strong {ops : Array Oper} {rest : List Oper} {o : Oper} {a : Act} {Q : Exit → Act → World → Prop} (hgd : o.guard = none) (s x : Operand) (t : TypeId)
    (ho : o.op = .call { callee := .builtin .append, args := #[s, x], argTypes := #[t, t] })
    (base : Nat) (e : TypeId) (i : TypeInfo) (z : Value) (size bytes : Nat) (ht : P.underlying t = some (.slice e)) (hi : P.info? e = some i) (hz : i.zero = some z)
    (hsize : i.size = size) (hby : i.bytes = bytes) (hzs : z.cells.size = size) (hsz : 0 < size)
    (v : Value) (n : Nat) (xs : List Value) (hs : a.eval s = v) (hown : w.ownsRow base e size v n xs)
    (ad : Addr) (m c : Nat) (news : List Value) (hx : a.eval x = .slice (some ad) m c) (hl : news.length = m * size) (hnews : ∀ j u, news[j]? = some u → w.cell? (ad.add j) = some u) (h1 : ∀ u ∈ news, u.oneCell' = true)
    (h63 : n + m ≤ maxLen) (hbytes : (n + m) * bytes ≤ 140737488355328) (hbase : base ≤ w.heap.size) (hm : 0 < m)
    (h : ∀ v' w', w'.ownsRow base e size v' (n + m) (xs ++ news) → ((v'.ownBlock = v.ownBlock ∧ w.grownBy w' v.ownBlock) ∨ (v'.ownBlock = some w.heap.size ∧ w.grownBy w' none)) → wpList P ops Q rest (a.put o.dst v') w') : wpList P ops Q (o :: rest) a w := by
  obtain ⟨v', w', hr, h2, h3⟩ := run_append_strong (P := P) w base t o.type e i z size bytes ht hi hz hsize hby hzs hsz v n xs hown ad m c news hl hnews h1 h63 hbytes hbase hm
  refine wpList_plain hgd fun K hK => ?_
  unfold Oper.wp execOp
  simp only [ho, resolve, invoke, builtin, Sem.run_bind, Sem.run_pure, Result.andThen_ok, List.map_toArray, List.map_cons, List.map_nil, hs, hx, hr]
  exact hK _ _ (h v' w' h2 h3)
end
end Go.Proofs.YtonlfplloenfcaaGreatDoor
namespace Go.Proofs.YtonlfplloenfcaaGreatDoor
open Go.RowKit
variable {P : Program}
theorem results_row_tmp {fn : Func} {p u : Tmp} {ty : TypeId} (h : fn.results = #[.cell p ty, .tmp u]) (tmps : Array Value) (w : World) (g : Nat) (t : TypeId) (cs : Array Value) (fr : Nat × Nat) (d : TypeDesc)
    (hp : tmps.getD p undef = .pointer (some ⟨g, 0, none⟩)) (hg : w.heap[g]? = some (.cells cs t fr))
    (hu : P.underlying ty = some d) (hd : (match d with | .struct _ | .array _ _ => true | _ => false) = true) (hi : (P.info? ty).map (·.size) = some cs.size) :
    (results fn tmps).run P w = .ok (.tuple #[.agg cs, tmps.getD u undef]) w := by
  have hp' : tmps[p]?.getD undef = .pointer (some ⟨g, 0, none⟩) := by simpa using hp
  simp [results, h, hp', asAddr, run_loadVar_row w g t ty cs fr d hg hu hd hi]
theorem results_row_tmp2 {fn : Func} {p u v : Tmp} {ty : TypeId} (h : fn.results = #[.cell p ty, .tmp u, .tmp v]) (tmps : Array Value) (w : World) (g : Nat) (t : TypeId) (cs : Array Value) (fr : Nat × Nat) (d : TypeDesc)
    (hp : tmps.getD p undef = .pointer (some ⟨g, 0, none⟩)) (hg : w.heap[g]? = some (.cells cs t fr))
    (hu : P.underlying ty = some d) (hd : (match d with | .struct _ | .array _ _ => true | _ => false) = true) (hi : (P.info? ty).map (·.size) = some cs.size) :
    (results fn tmps).run P w = .ok (.tuple #[.agg cs, tmps.getD u undef, tmps.getD v undef]) w := by
  have hp' : tmps[p]?.getD undef = .pointer (some ⟨g, 0, none⟩) := by simpa using hp
  simp [results, h, hp', asAddr, run_loadVar_row w g t ty cs fr d hg hu hd hi]
theorem run_loadVar_one (w : World) (g : Nat) (ty : TypeId) (d : TypeDesc) (v : Value) (hu : P.underlying ty = some d) (hd : (match d with | .struct _ | .array _ _ => true | _ => false) = false) (hc : w.cell? ⟨g, 0, none⟩ = some v) :
    (loadVar ty ⟨g, 0, none⟩).run P w = .ok v w := by
  have hagg : (isAgg ty).run P w = .ok false w := by
    unfold isAgg
    rw [Sem.run_bind, run_underlying hu w]
    cases d <;> simp_all
  simp [loadVar, Sem.run_bind, hagg, hc]
theorem results_row_cells {fn : Func} {p q r : Tmp} {ty t2 t3 : TypeId} (h : fn.results = #[.cell p ty, .cell q t2, .cell r t3]) (tmps : Array Value) (w : World) (g g2 g3 : Nat) (t : TypeId) (cs : Array Value) (fr : Nat × Nat) (d d2 d3 : TypeDesc) (v2 v3 : Value)
    (hp : tmps.getD p undef = .pointer (some ⟨g, 0, none⟩)) (hg : w.heap[g]? = some (.cells cs t fr)) (hq : tmps.getD q undef = .pointer (some ⟨g2, 0, none⟩)) (hr : tmps.getD r undef = .pointer (some ⟨g3, 0, none⟩))
    (hu : P.underlying ty = some d) (hd : (match d with | .struct _ | .array _ _ => true | _ => false) = true) (hi : (P.info? ty).map (·.size) = some cs.size)
    (hu2 : P.underlying t2 = some d2) (hd2 : (match d2 with | .struct _ | .array _ _ => true | _ => false) = false) (hc2 : w.cell? ⟨g2, 0, none⟩ = some v2)
    (hu3 : P.underlying t3 = some d3) (hd3 : (match d3 with | .struct _ | .array _ _ => true | _ => false) = false) (hc3 : w.cell? ⟨g3, 0, none⟩ = some v3) :
    (results fn tmps).run P w = .ok (.tuple #[.agg cs, v2, v3]) w := by
  have hp' : tmps[p]?.getD undef = .pointer (some ⟨g, 0, none⟩) := by simpa using hp
  have hq' : tmps[q]?.getD undef = .pointer (some ⟨g2, 0, none⟩) := by simpa using hq
  have hr' : tmps[r]?.getD undef = .pointer (some ⟨g3, 0, none⟩) := by simpa using hr
  simp [results, h, hp', hq', hr', asAddr, run_loadVar_row w g t ty cs fr d hg hu hd hi, run_loadVar_one w g2 t2 d2 v2 hu2 hd2 hc2, run_loadVar_one w g3 t3 d3 v3 hu3 hd3 hc3]
theorem infoF2 : (Tryz.prog.info? 63).map (·.size) = some 2 := by kernel_rfl
theorem set_two {w : World} {g : Nat} {t : TypeId} {a b : Value} (h : Blk w g t #[a, b]) (v0 v1 : Value) :
    Blk ((w.setCell ⟨g, 0, none⟩ v0).setCell ⟨g, 1, none⟩ v1) g t #[v0, v1] := by
  have h1 := (h.set_ 0 v0).set_ 1 v1
  simpa using h1
theorem below_two {B : Nat} {a w : World} (h : Below B a w) {g : Nat} (hg : B ≤ g) (v0 v1 : Value) : Below B a ((w.setCell ⟨g, 0, none⟩ v0).setCell ⟨g, 1, none⟩ v1) :=
  (h.setCell (p := ⟨g, 0, none⟩) hg v0).setCell (p := ⟨g, 1, none⟩) hg v1
end Go.Proofs.YtonlfplloenfcaaGreatDoor
namespace Go.Proofs.YtonlfplloenfcaaGreatDoor
open Go.RowKit

theorem take_byte (s : ByteArray) (k : Nat) (h : k < s.size) : s.data.toList.take (k + 1) = s.data.toList.take k ++ [s[k]] := by
  rw [List.take_succ_eq_append_getElem (by simpa using h)]; rfl
theorem all_step {p : UInt8 → Bool} {s : ByteArray} {k : Nat} (h : k < s.size) (hp : (s.data.toList.take k).all p = true) (hx : p s[k] = true) : (s.data.toList.take (k + 1)).all p = true := by
  rw [take_byte s k h, List.all_append, hp, List.all_cons, hx]; rfl
theorem byte_at (s : ByteArray) (k : Nat) (h : k < s.size) : s.data.toList[k]? = some s[k] := List.getElem?_eq_getElem (by simpa using h)
theorem all_fail {p : UInt8 → Bool} {s : ByteArray} {k : Nat} (h : k < s.size) (hx : p s[k] = false) : s.data.toList.all p = false :=
  List.all_eq_false.2 ⟨s[k], List.mem_of_getElem? (byte_at s k h), by simp [hx]⟩
theorem ctrl_iff (x : UInt8) : ctrlOK x = !(decide ((x.toNat : Int) < 32) && ((x.toNat : Int) != 9) || ((x.toNat : Int) == 127)) := by
  have h := all_bytes (p := fun x => ctrlOK x == !(decide ((x.toNat : Int) < 32) && ((x.toNat : Int) != 9) || ((x.toNat : Int) == 127))) (by decide +kernel) x
  simpa using h
theorem targ_iff (x : UInt8) : targOK x = (decide ((33 : Int) ≤ (x.toNat : Int)) && decide ((x.toNat : Int) ≤ 126)) := by
  have h := all_bytes (p := fun x => targOK x == (decide ((33 : Int) ≤ (x.toNat : Int)) && decide ((x.toNat : Int) ≤ 126))) (by decide +kernel) x
  simpa using h
set_option maxRecDepth 100000 in
theorem control_any (s : ByteArray) (w : World) (hs : s.size ≤ 140737488355328) :
   Calls Tryz.prog 146 #[.string s] w fun e w' => e = .returned (.bool (!plainB s.data.toList)) ∧ ∃ q, w' = w.drewN q := by
  go_enter Tryz.func146, Tryz.ntmps146
  go_wp2_with fail
  go_loopw [6] (fun i wr => ∃ k : Nat, k ≤ s.size ∧ i = .int .i64 k ∧ Hid (plainB (s.data.toList.take k) = true) ∧ ∃ q, wr = w.drewN q) (fun i _ => s.size - (intOf i).toNat)
  case atStart => exact ⟨0, Nat.zero_le _, rfl, by simp [Hid, plainB], 0, rfl⟩
  case round =>
    obtain ⟨k, hk, rfl, hp, q, rfl⟩ := hrel
    by_cases hlt : k < s.size
    · have hx := ctrl_iff s[k]
      have good : ctrlOK s[k] = true → Hid (plainB (s.data.toList.take (k + 1)) = true) := fun h => all_step hlt hp.out h
      have badc : ctrlOK s[k] = false → plainB s.data.toList = false := fun h => all_fail hlt h
      have HX := Lib.hid hx
      have HG := Lib.hid good
      have HB := Lib.hid badc
      clear hx good badc
      by_cases h3 : (s[k].toNat : Int) = 127
      · have b0 : ¬ (s[k].toNat : Int) < 32 := by omega
        have b1 : decide ((s[k].toNat : Int) < 32) = false := decide_eq_false b0
        have b2 : ((s[k].toNat : Int) == 127) = true := by simp [h3]
        have hv := HB.out (by rw [HX.out, b2]; simp)
        have HV := Lib.hid hv
        clear hv h3
        go_wp2
        go_ret
        exact ⟨by rw [HV.out]; rfl, _, rfl⟩
      · have b2 : ((s[k].toNat : Int) == 127) = false := by simp [h3]
        by_cases h1 : (s[k].toNat : Int) < 32
        · have b4 : decide ((s[k].toNat : Int) < 32) = true := decide_eq_true h1
          by_cases h2 : (s[k].toNat : Int) = 9
          · have b1 : ((s[k].toNat : Int) != 9) = false := by simp [h2]
            have hv := HG.out (by rw [HX.out, b1, b2]; simp)
            have HV := Lib.hid hv
            clear hv h2 h3
            go_wp2
            go_roundw
            case rel => exact ⟨k + 1, by omega, by go_num, HV.out, _, rfl⟩
            case measure => simp [intOf]; omega
          · have b1 : ((s[k].toNat : Int) != 9) = true := by simp [h2]
            have hv := HB.out (by rw [HX.out, b1, b2, b4]; simp)
            have HV := Lib.hid hv
            clear hv h2 h3
            go_wp2
            go_ret
            exact ⟨by rw [HV.out]; rfl, _, rfl⟩
        · have b1 : decide ((s[k].toNat : Int) < 32) = false := decide_eq_false h1
          have hv := HG.out (by rw [HX.out, b1, b2]; simp)
          have HV := Lib.hid hv
          clear hv h3
          go_wp2
          go_roundw
          case rel => exact ⟨k + 1, by omega, by go_num, HV.out, _, rfl⟩
          case measure => simp [intOf]; omega
    · obtain rfl : k = s.size := by omega
      have hf : plainB s.data.toList = true := by
        have h := hp.out
        rwa [List.take_of_length_le (by simp)] at h
      have HF := Lib.hid hf
      clear hf
      go_wp2
      go_ret
      exact ⟨by rw [HF.out]; rfl, _, rfl⟩
set_option maxRecDepth 100000 in
theorem rcontrol_any (s : ByteArray) (w : World) (hs : s.size ≤ 140737488355328) :
   Calls Tryz.prog 77 #[.string s] w fun e w' => e = .returned (.bool (!plainB s.data.toList)) ∧ ∃ q, w' = w.drewN q := by
  go_enter Tryz.func77, Tryz.ntmps77
  go_wp2_with fail
  go_loopw [3] (fun i wr => ∃ k : Nat, k ≤ s.size ∧ i = .int .i64 k ∧ Hid (plainB (s.data.toList.take k) = true) ∧ ∃ q, wr = w.drewN q) (fun i _ => s.size - (intOf i).toNat)
  case atStart => exact ⟨0, Nat.zero_le _, rfl, by simp [Hid, plainB], 0, rfl⟩
  case round =>
    obtain ⟨k, hk, rfl, hp, q, rfl⟩ := hrel
    by_cases hlt : k < s.size
    · have hx := ctrl_iff s[k]
      have good : ctrlOK s[k] = true → Hid (plainB (s.data.toList.take (k + 1)) = true) := fun h => all_step hlt hp.out h
      have badc : ctrlOK s[k] = false → plainB s.data.toList = false := fun h => all_fail hlt h
      have HX := Lib.hid hx
      have HG := Lib.hid good
      have HB := Lib.hid badc
      clear hx good badc
      by_cases h3 : (s[k].toNat : Int) = 127
      · have b0 : ¬ (s[k].toNat : Int) < 32 := by omega
        have b1 : decide ((s[k].toNat : Int) < 32) = false := decide_eq_false b0
        have b2 : ((s[k].toNat : Int) == 127) = true := by simp [h3]
        have hv := HB.out (by rw [HX.out, b2]; simp)
        have HV := Lib.hid hv
        clear hv h3
        go_wp2
        go_ret
        exact ⟨by rw [HV.out]; rfl, _, rfl⟩
      · have b2 : ((s[k].toNat : Int) == 127) = false := by simp [h3]
        by_cases h1 : (s[k].toNat : Int) < 32
        · have b4 : decide ((s[k].toNat : Int) < 32) = true := decide_eq_true h1
          by_cases h2 : (s[k].toNat : Int) = 9
          · have b1 : ((s[k].toNat : Int) != 9) = false := by simp [h2]
            have hv := HG.out (by rw [HX.out, b1, b2]; simp)
            have HV := Lib.hid hv
            clear hv h2 h3
            go_wp2
            go_roundw
            case rel => exact ⟨k + 1, by omega, by go_num, HV.out, _, rfl⟩
            case measure => simp [intOf]; omega
          · have b1 : ((s[k].toNat : Int) != 9) = true := by simp [h2]
            have hv := HB.out (by rw [HX.out, b1, b2, b4]; simp)
            have HV := Lib.hid hv
            clear hv h2 h3
            go_wp2
            go_ret
            exact ⟨by rw [HV.out]; rfl, _, rfl⟩
        · have b1 : decide ((s[k].toNat : Int) < 32) = false := decide_eq_false h1
          have hv := HG.out (by rw [HX.out, b1, b2]; simp)
          have HV := Lib.hid hv
          clear hv h3
          go_wp2
          go_roundw
          case rel => exact ⟨k + 1, by omega, by go_num, HV.out, _, rfl⟩
          case measure => simp [intOf]; omega
    · obtain rfl : k = s.size := by omega
      have hf : plainB s.data.toList = true := by
        have h := hp.out
        rwa [List.take_of_length_le (by simp)] at h
      have HF := Lib.hid hf
      clear hf
      go_wp2
      go_ret
      exact ⟨by rw [HF.out]; rfl, _, rfl⟩
set_option maxRecDepth 100000 in
theorem target_any (s : ByteArray) (w : World) (hs : s.size ≤ 140737488355328) :
   Calls Tryz.prog 69 #[.string s] w fun e w' => e = .returned (.bool (targB s.data.toList)) ∧ ∃ q, w' = w.drewN q := by
  go_enter Tryz.func69, Tryz.ntmps69
  go_wp2_with fail
  go_loopw [6] (fun i wr => ∃ k : Nat, k ≤ s.size ∧ i = .int .i64 k ∧ Hid ((s.data.toList.take k).all targOK = true) ∧ ∃ q, wr = w.drewN q) (fun i _ => s.size - (intOf i).toNat)
  case atStart => exact ⟨0, Nat.zero_le _, rfl, by simp [Hid], 0, rfl⟩
  case round =>
    obtain ⟨k, hk, rfl, hp, q, rfl⟩ := hrel
    by_cases hlt : k < s.size
    · have hx := targ_iff s[k]
      have good : targOK s[k] = true → Hid ((s.data.toList.take (k + 1)).all targOK = true) := fun h => all_step hlt hp.out h
      have badc : targOK s[k] = false → targB s.data.toList = false := fun h => by unfold targB; rw [all_fail hlt h]; rfl
      have HX := Lib.hid hx
      have HG := Lib.hid good
      have HB := Lib.hid badc
      clear hx good badc
      by_cases h1 : (33 : Int) ≤ (s[k].toNat : Int)
      · have b1 : decide ((33 : Int) ≤ (s[k].toNat : Int)) = true := decide_eq_true h1
        have b3 : decide ((s[k].toNat : Int) ≤ 32) = false := decide_eq_false (by omega)
        have b4 : decide ((s[k].toNat : Int) < 33) = false := decide_eq_false (by omega)
        by_cases h2 : (s[k].toNat : Int) ≤ 126
        · have b2 : decide ((s[k].toNat : Int) ≤ 126) = true := decide_eq_true h2
          have hv := HG.out (by rw [HX.out, b1, b2]; rfl)
          have HV := Lib.hid hv
          clear hv
          go_wp2
          go_roundw
          case rel => exact ⟨k + 1, by omega, by go_num, HV.out, _, rfl⟩
          case measure => simp [intOf]; omega
        · have b2 : decide ((s[k].toNat : Int) ≤ 126) = false := decide_eq_false h2
          have hv := HB.out (by rw [HX.out, b1, b2]; rfl)
          have HV := Lib.hid hv
          clear hv
          go_wp2
          go_ret
          exact ⟨ret_bool (by rw [HV.out]), _, rfl⟩
      · have b1 : decide ((33 : Int) ≤ (s[k].toNat : Int)) = false := decide_eq_false h1
        have hv := HB.out (by rw [HX.out, b1]; rfl)
        have HV := Lib.hid hv
        clear hv
        go_wp2
        go_ret
        exact ⟨ret_bool (by rw [HV.out]), _, rfl⟩
    · obtain rfl : k = s.size := by omega
      have h : s.data.toList.all targOK = true := by
        have h := hp.out
        rwa [List.take_of_length_le (by simp)] at h
      have hf : targB s.data.toList = (!s.data.toList.isEmpty) := by unfold targB; rw [h]; rfl
      have he : s.data.toList.isEmpty = decide (s.size = 0) := by
        rw [Bool.eq_iff_iff, List.isEmpty_iff, decide_eq_true_iff, ← List.length_eq_zero_iff]
        exact Iff.rfl
      have HF := Lib.hid hf
      have HE := Lib.hid he
      clear hf h he
      go_wp2
      go_ret
      refine ⟨ret_bool ?_, _, rfl⟩
      rw [HF.out]
      rw [Go.ByteArray.toList_eq]
set_option maxRecDepth 100000 in
theorem rtarget_any (s : ByteArray) (w : World) (hs : s.size ≤ 140737488355328) :
   Calls Tryz.prog 76 #[.string s] w fun e w' => e = .returned (.bool (targB s.data.toList)) ∧ ∃ q, w' = w.drewN q := by
  go_enter Tryz.func76, Tryz.ntmps76
  go_wp2_with fail
  go_loopw [3] (fun i wr => ∃ k : Nat, k ≤ s.size ∧ i = .int .i64 k ∧ Hid ((s.data.toList.take k).all targOK = true) ∧ ∃ q, wr = w.drewN q) (fun i _ => s.size - (intOf i).toNat)
  case atStart => exact ⟨0, Nat.zero_le _, rfl, by simp [Hid], 0, rfl⟩
  case round =>
    obtain ⟨k, hk, rfl, hp, q, rfl⟩ := hrel
    by_cases hlt : k < s.size
    · have hx := targ_iff s[k]
      have good : targOK s[k] = true → Hid ((s.data.toList.take (k + 1)).all targOK = true) := fun h => all_step hlt hp.out h
      have badc : targOK s[k] = false → targB s.data.toList = false := fun h => by unfold targB; rw [all_fail hlt h]; rfl
      have HX := Lib.hid hx
      have HG := Lib.hid good
      have HB := Lib.hid badc
      clear hx good badc
      by_cases h1 : (33 : Int) ≤ (s[k].toNat : Int)
      · have b1 : decide ((33 : Int) ≤ (s[k].toNat : Int)) = true := decide_eq_true h1
        have b3 : decide ((s[k].toNat : Int) ≤ 32) = false := decide_eq_false (by omega)
        have b4 : decide ((s[k].toNat : Int) < 33) = false := decide_eq_false (by omega)
        by_cases h2 : (s[k].toNat : Int) ≤ 126
        · have b2 : decide ((s[k].toNat : Int) ≤ 126) = true := decide_eq_true h2
          have hv := HG.out (by rw [HX.out, b1, b2]; rfl)
          have HV := Lib.hid hv
          clear hv
          go_wp2
          go_roundw
          case rel => exact ⟨k + 1, by omega, by go_num, HV.out, _, rfl⟩
          case measure => simp [intOf]; omega
        · have b2 : decide ((s[k].toNat : Int) ≤ 126) = false := decide_eq_false h2
          have hv := HB.out (by rw [HX.out, b1, b2]; rfl)
          have HV := Lib.hid hv
          clear hv
          go_wp2
          go_ret
          exact ⟨ret_bool (by rw [HV.out]), _, rfl⟩
      · have b1 : decide ((33 : Int) ≤ (s[k].toNat : Int)) = false := decide_eq_false h1
        have hv := HB.out (by rw [HX.out, b1]; rfl)
        have HV := Lib.hid hv
        clear hv
        go_wp2
        go_ret
        exact ⟨ret_bool (by rw [HV.out]), _, rfl⟩
    · obtain rfl : k = s.size := by omega
      have h : s.data.toList.all targOK = true := by
        have h := hp.out
        rwa [List.take_of_length_le (by simp)] at h
      have hf : targB s.data.toList = (!s.data.toList.isEmpty) := by unfold targB; rw [h]; rfl
      have he : s.data.toList.isEmpty = decide (s.size = 0) := by
        rw [Bool.eq_iff_iff, List.isEmpty_iff, decide_eq_true_iff, ← List.length_eq_zero_iff]
        exact Iff.rfl
      have HF := Lib.hid hf
      have HE := Lib.hid he
      clear hf h he
      go_wp2
      go_ret
      refine ⟨ret_bool ?_, _, rfl⟩
      rw [HF.out]
      rw [HE.out, Bool.eq_iff_iff, Bool.not_eq_true', decide_eq_true_iff, decide_eq_false_iff_not]
      omega
end Go.Proofs.YtonlfplloenfcaaGreatDoor
