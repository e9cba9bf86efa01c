/-
  Worlds that differ in some blocks only; a buffer that a reader keeps, and an append to it.
  package reader: its small functions.
  package reader: what a state does.
  package reader: a body by its chunks.
-/
import Derived.Test.YtonlfplloenfcaaGreatDoorBFieldsEtc
import Derived.ArgAppend
import Derived.Deep.CutRange
import Derived.Deep.CutBlock
import Derived.Laws.EntriesVeiled
import Derived.Lib.LazyBuf
import Derived.StillTailTactics
import Derived.Test.YtonlfplloenfcaaGreatDoorChunkErrEtc
import Derived.Test.YtonlfplloenfcaaGreatDoorToken
import Derived.Test.YtonlfplloenfcaaGreatDoorResultsEtc
import Derived.Test.YtonlfplloenfcaaGreatDoorHeadsBackEtc
import Derived.Test.YtonlfplloenfcaaGreatDoorBadEtc
import Derived.Test.YtonlfplloenfcaaGreatDoorAHowEtc
namespace Go.Proofs.YtonlfplloenfcaaGreatDoor
open Go.RowKit

/-- Only blocks of that kind, and new ones, differ. -/
structure Keep (X : Nat → Prop) (w w' : World) : Prop where
  os : w'.os = w.os
  tape : w'.tape = w.tape
  output : w'.output = w.output
  size : w.heap.size ≤ w'.heap.size
  block : ∀ k, k < w.heap.size → ¬ X k → w'.heap[k]? = w.heap[k]?
theorem Keep.refl (X : Nat → Prop) (w : World) : Keep X w w := ⟨rfl, rfl, rfl, Nat.le_refl _, fun _ _ _ => rfl⟩
theorem Keep.trans {X : Nat → Prop} {a b c : World} (h : Keep X a b) (k : Keep X b c) : Keep X a c :=
  ⟨k.os.trans h.os, k.tape.trans h.tape, k.output.trans h.output, Nat.le_trans h.size k.size, fun i hi hx => (k.block i (Nat.lt_of_lt_of_le hi h.size) hx).trans (h.block i hi hx)⟩
theorem Keep.mono {X Y : Nat → Prop} {a b : World} (h : Keep X a b) (hs : ∀ k, X k → Y k) : Keep Y a b := ⟨h.os, h.tape, h.output, h.size, fun k hk hy => h.block k hk fun hx => hy (hs k hx)⟩
theorem Keep.of_below {X : Nat → Prop} {a b : World} (h : Below a.heap.size a b) : Keep X a b := ⟨h.os, h.tape, h.output, h.size, fun k hk _ => h.block k hk⟩
theorem Keep.of_grown {a b : World} {row : Option Nat} (h : a.grownBy b row) : Keep (fun k => some k = row) a b := ⟨h.os, h.tape, h.output, h.size, fun k hk hx => h.block k hk hx⟩
theorem Keep.below {X : Nat → Prop} {a b : World} {B : Nat} (h : Keep X a b) (hB : B ≤ a.heap.size) (hx : ∀ k, X k → B ≤ k) : Below B a b :=
  ⟨h.os, h.tape, h.output, h.size, fun k hk => h.block k (by omega) fun hk2 => by have := hx k hk2; omega⟩
theorem Keep.drewN {X : Nat → Prop} {a b : World} (h : Keep X a b) (n : Nat) : Keep X a (b.drewN n) := ⟨h.os, h.tape, h.output, h.size, h.block⟩
theorem Keep.setCell {X : Nat → Prop} {a b : World} (h : Keep X a b) {p : Addr} (hx : X p.block) (u : Value) : Keep X a (b.setCell p u) :=
  h.trans ⟨rfl, rfl, rfl, by simp [World.setCell], fun k _ hk => Below.heap_setCell b p u k fun e => hk (e ▸ hx)⟩
theorem Blk.keep {X : Nat → Prop} {a b : World} {g : Nat} {t : TypeId} {cs : Array Value} (h : Blk a g t cs) (hk : Keep X a b) (hx : ¬ X g) : Blk b g t cs := (hk.block g h.lt hx).trans h
theorem cell_keep {X : Nat → Prop} {a b : World} (hk : Keep X a b) {g o : Nat} (hg : g < a.heap.size) (hx : ¬ X g) : b.cell? ⟨g, o, none⟩ = a.cell? ⟨g, o, none⟩ := by
  have h := hk.block g hg hx
  simp [World.cell?, h]
theorem Lies.keepX {X : Nat → Prop} {a b : World} {B n : Nat} {A : Option Addr} {xs : List Value} (h : Lies a B A n xs) (hk : Keep X a b) (hB : B ≤ a.heap.size) (hx : ∀ g o, A = some ⟨g, o, none⟩ → ¬ X g) : Lies b B A n xs := by
  refine ⟨h.1, fun h0 => ?_⟩
  obtain ⟨g, o, e, hg, hc⟩ := h.2 h0
  exact ⟨g, o, e, hg, fun j u hu => (cell_keep hk (by omega) (hx g o e)).trans (hc j u hu)⟩
theorem own_keepX {X : Nat → Prop} {a b : World} {base n size : Nat} {e : TypeId} {v : Value} {xs : List Value} (h : a.ownsRow base e size v n xs) (hk : Keep X a b) (hx : ∀ g, v.ownBlock = some g → ¬ X g) : b.ownsRow base e size v n xs := by
  refine ⟨h.1, ?_⟩
  rcases h.2 with h | ⟨g, cap, cur, rfl, h1, h2, h3⟩
  · exact .inl h
  · have hg : g < a.heap.size := by
      rcases Nat.lt_or_ge g a.heap.size with h9 | h9
      · exact h9
      · simp [Array.getElem?_eq_none h9] at h2
    exact .inr ⟨g, cap, cur, rfl, h1, (hk.block g hg (hx g rfl)).trans h2, h3⟩

/-- A reader's bytes: a row of its own, or a full one. -/
def BufOk (w : World) (base : Nat) (v : Value) (n : Nat) (xs : List Value) : Prop :=
  w.ownsRow base 5 1 v n xs ∨ ∃ b o, v = .slice (some ⟨b, o, none⟩) n n ∧ base ≤ b ∧ b < w.heap.size ∧ xs.length = n ∧ ∀ j u, xs[j]? = some u → w.cell? ⟨b, o + j, none⟩ = some u
theorem BufOk.form {w : World} {base n : Nat} {v : Value} {xs : List Value} (h : BufOk w base v n xs) : ∃ A c, v = .slice A n c ∧ n ≤ c ∧ Lies w w.heap.size A n xs ∧ ∀ g o, A = some ⟨g, o, none⟩ → base ≤ g ∧ g < w.heap.size := by
  rcases h with h | ⟨b, o, rfl, h1, h2, h3, h4⟩
  · obtain ⟨A, c, rfl⟩ := own_form h
    refine ⟨A, c, rfl, own_cap h, Lies.of_own h, fun g o hA => ?_⟩
    subst hA
    exact h.lt g rfl
  · refine ⟨_, _, rfl, Nat.le_refl _, ⟨h3, fun _ => ⟨b, o, rfl, h2, h4⟩⟩, fun g o' hA => ?_⟩
    injection hA with hA
    injection hA with hA
    subst hA
    exact ⟨h1, h2⟩
theorem BufOk.own {w : World} {base n : Nat} {v : Value} {xs : List Value} (h : BufOk w base v n xs) : ∀ g, v.ownBlock = some g → base ≤ g ∧ g < w.heap.size := by
  intro g hg
  obtain ⟨A, c, rfl, _, _, h2⟩ := h.form
  match A, hg with
  | some a, hg => 
    rcases h with h | ⟨b, o, h3, h4, h5, _⟩
    · exact h.lt g hg
    · injection h3 with h3
      injection h3 with h3
      subst h3
      have : b = g := by simpa [Value.ownBlock] using hg
      subst this
      exact ⟨h4, h5⟩
theorem BufOk.keepX {X : Nat → Prop} {a b : World} {base n : Nat} {v : Value} {xs : List Value} (h : BufOk a base v n xs) (hk : Keep X a b) (hx : ∀ g, v.ownBlock = some g → ¬ X g) : BufOk b base v n xs := by
  rcases h with h | ⟨g, o, rfl, h1, h2, h3, h4⟩
  · exact .inl (own_keepX h hk hx)
  · exact .inr ⟨g, o, rfl, h1, Nat.lt_of_lt_of_le h2 hk.size, h3, fun j u hu => (cell_keep hk h2 (hx g rfl)).trans (h4 j u hu)⟩
theorem run_append_full {P : Program} (w : World) (t ty e : TypeId) (i : TypeInfo) (ht : P.underlying t = some (.slice e)) (hi : P.info? e = some i) (b : Addr) (n c : Nat) (A : Option Addr) :
    (Builtin.append_ #[t, t] ty #[.slice (some b) n n, .slice A 0 c]).run P w = .ok (.slice (some b) n n) w := by
  cases A <;> simp [Builtin.append_, run_underlying ht, sizeOf, typeInfo, hi, Builtin.lenOf, Builtin.firstCells, loadCells, loadCellsFrom, storeCells]
section
variable {P : Program} {w : World}
theorem wpList_append_buf {ops : Array Oper} {rest : List Oper} {o : Oper} {a : Act} {Q : Exit → Act → World → Prop} (hgd : o.guard = none) (s x : Operand) (t : TypeId)
    (ho : o.op = .call { callee := .builtin .append, args := #[s, x], argTypes := #[t, t] })
    (base : Nat) (i : TypeInfo) (z : Value) (ht : P.underlying t = some (.slice 5)) (hi : P.info? 5 = some i) (hz : i.zero = some z)
    (hsize : i.size = 1) (hby : i.bytes = 1) (hzs : z.cells.size = 1)
    (v : Value) (n : Nat) (xs : List Value) (hs : a.eval s = v) (hown : BufOk w base v n xs)
    (B : Nat) (A : Option Addr) (m c : Nat) (news : List Value) (hx : a.eval x = .slice A m c) (hr : Reads w B 1 A m news) (h1 : ∀ u ∈ news, u.oneCell' = true)
    (h63 : n + m ≤ 1000000) (hbase : base ≤ w.heap.size)
    (h : ∀ v' w', BufOk w' base v' (n + m) (xs ++ news) → Keep (fun k => v.ownBlock = some k) w w' → (∀ g, v'.ownBlock = some g → v.ownBlock = some g ∨ w.heap.size ≤ g) → wpList P ops Q rest (a.put o.dst v') w') : wpList P ops Q (o :: rest) a w := by
  rcases hown with hown | ⟨b, off, rfl, hb1, hb2, hb3, hb4⟩
  · exact wpList_append_any w hgd s x t ho base 5 i z 1 1 ht hi hz hsize hby hzs (by decide) v n xs hs hown B A m c news hx hr h1 (by unfold maxLen; omega) (by omega) hbase
      fun v' w' h2 h3 h4 => h v' w' (.inl h2) ((Keep.of_grown h3).mono fun k e => e.symm) fun g hg => h4.elim (fun e => .inl (e ▸ hg)) (fun e => .inr (by rw [hg] at e; injection e with e; omega))
  · rcases Nat.eq_zero_or_pos m with h0 | h0
    · subst h0
      have hn : news = [] := List.eq_nil_of_length_eq_zero (by simpa using hr.1)
      subst hn
      refine wpList_plain hgd fun K hK => ?_
      unfold Oper.wp execOp
      simp only [ho, resolve, invoke, builtin, Sem.run_bind, Sem.run_pure, Result.andThen_ok, List.map_toArray, List.map_cons, List.map_nil, hs, hx, run_append_full w t o.type 5 i ht hi]
      exact hK _ _ (h _ _ (.inr ⟨b, off, rfl, hb1, hb2, by simpa using hb3, by simpa using hb4⟩) (Keep.refl _ _) fun g hg => .inl hg)
    · obtain ⟨ad, rfl, _, hc⟩ := hr.2 h0
      refine wpList_append_grows w hgd s x t ho 5 i z 1 1 ht hi hz hsize hby hzs (by decide) (some ⟨b, off, none⟩) n n xs hs (by intro e; cases e) (by rw [hb3, Nat.mul_one]) (fun b' e j u hu => by
        injection e with e
        subst e
        rw [Addr.add_lit]
        exact hb4 j u hu) ad m c news hx hr.1 hc h1 (by omega) (by unfold maxLen; omega) (by omega) fun v' w' h2 h3 => h v' w' (.inl ?_) ((Keep.of_grown h3).mono fun k e => by cases e) fun g hg => .inr (h2.lt g hg).1
      obtain ⟨g1, g2⟩ := h2
      refine ⟨g1, ?_⟩
      rcases g2 with g2 | ⟨g, cap, cur, e1, e2, e3⟩
      · exact .inl g2
      · exact .inr ⟨g, cap, cur, e1, by omega, e3⟩
end
end Go.Proofs.YtonlfplloenfcaaGreatDoor
namespace Go.Proofs.YtonlfplloenfcaaGreatDoor
open Go.RowKit

/-- A reader's cells. -/
def rrC (mt : ByteArray) (vb : Value) (rd cm : Int) (nx : Value) (m1 m2 : ByteArray) (ms : Int) (vf vd : Value) (need ends done e : Int) : Array Value :=
  #[.int .i64 1, .string mt, vb, .int .i64 rd, .int .i64 cm, nx, .string m1, .string m2, .int .i64 ms, vf, vd, .int .i64 need, .int .i64 ends, .int .i64 done, .int .i64 e]
def nxHead (p : Nat) : Value := .func (.func 133) #[.pointer (some ⟨p, 0, none⟩)] #[]
def nxLen (p : Nat) : Value := .func (.func 203) #[.pointer (some ⟨p, 0, none⟩)] #[]
def nxChunks (p : Nat) : Value := .func (.func 204) #[.pointer (some ⟨p, 0, none⟩)] #[]
def nxRest (p : Nat) : Value := .func (.func 205) #[.pointer (some ⟨p, 0, none⟩)] #[]

set_option maxRecDepth 100000 in
theorem clone_bytes (A : Option Addr) (n c : Nat) (l : List UInt8) (w : World) (h : Lies w w.heap.size A n (Lib.byteCells l)) (hn : n ≤ 1000000) :
    Calls Tryz.prog 140 #[.slice A n c] w fun e w' => ∃ A' c', e = .returned (.slice A' n c') ∧ w'.ownsRow w.heap.size 5 1 (.slice A' n c') n (Lib.byteCells l) ∧ Below w.heap.size w w' := by
  have hll : l.length = n := by simpa [Lib.byteCells] using h.1
  cases A with
  | none =>
    have hn0 : n = 0 := by
      rcases Nat.eq_zero_or_pos n with h0 | h0
      · exact h0
      · obtain ⟨b, o, e, _⟩ := h.2 h0
        cases e
    subst hn0
    have hl : l = [] := List.eq_nil_of_length_eq_zero hll
    subst hl
    have hq := run_eql_slice_nil (P := Tryz.prog) w 23 5 none 0 c Tryz.underlying23
    go_enter Tryz.func140, Tryz.ntmps140
    go_wp2_with fail
    go_ret
    exact ⟨none, 0, rfl, World.ownsRow_nil _ _ _ _, Below.refl _ _⟩
  | some ad =>
    have HR := Lib.hid (h.reads)
    have hz : ∀ o, (w.alloc o).heap.size = w.heap.size + 1 := fun o => by simp
    have hm := World.ownsRow_made (e := 5) (size := 1) w (base := w.heap.size) #[] 0 (Nat.le_refl _) (by decide) rfl
    have HM := Lib.hid hm
    have hre : Reads (w.alloc (.cells #[] 5)) (w.heap.size) 1 (some ad) n (Lib.byteCells l) := by
      refine ⟨h.reads.1, fun h0 => ?_⟩
      obtain ⟨ad', e, hb, hc⟩ := h.reads.2 h0
      exact ⟨ad', e, hb, fun j u hu => (World.cell?_alloc_lt w _ _ (show (ad'.add j).block < w.heap.size from by rw [show (ad'.add j).block = ad'.block from by unfold Addr.add; split <;> rfl]; exact hb)).trans (hc j u hu)⟩
    have HRE := Lib.hid hre
    obtain ⟨i0, hi, hz0, hz1, hz2⟩ := info_parts infoU
    have hq := run_eql_slice_nil (P := Tryz.prog) w 23 5 (some ad) n c Tryz.underlying23
    clear hm hre
    go_enter Tryz.func140, Tryz.ntmps140
    go_wp2_with (at_builtin; refine wpList_append_any _ rfl _ _ 23 rfl w.heap.size 5 i0 _ 1 1 Tryz.underlying23 hi hz0 hz1 hz2 rfl (by decide) (Value.slice (some ⟨w.heap.size, 0, none⟩) 0 0) 0 [] rfl HM.out w.heap.size (some ad) n c (Lib.byteCells l) rfl HRE.out (cells_one l) (by unfold maxLen; omega) (by omega) (by simp) ?_; intro v4 w4 hown4 hg4 hor4)
    rw [Nat.zero_add, List.nil_append] at hown4
    have HB := Lib.hid (((Below.refl w.heap.size w).alloc (Nat.le_refl _) _).grown hg4 (by simp) (fun j hj => by simp [Value.ownBlock] at hj; omega))
    obtain ⟨A4, c4, rfl⟩ := own_form hown4
    have HO := Lib.hid hown4
    clear hown4 hg4 hor4
    go_wp2_with fail
    go_ret
    exact ⟨A4, c4, rfl, HO.out, HB.out⟩
theorem clip_bytes (A : Option Addr) (n c : Nat) (w : World) (hn : n ≤ c) :
    Calls Tryz.prog 139 #[.slice A n c] w fun e w' => e = .returned (.slice A n n) ∧ w = w' := by
  go_enter Tryz.func139, Tryz.ntmps139
  go_wp2_with fail
  go_ret
  exact ⟨rfl, rfl⟩
theorem there_any (p : Nat) (w : World) (mt : ByteArray) (vb nx vf vd : Value) (rd cm ms need ends done e0 : Int) (m1 m2 : ByteArray) (hk : Blk w p 160 (rrC mt vb rd cm nx m1 m2 ms vf vd need ends done e0)) :
    Calls Tryz.prog 134 #[.pointer (some ⟨p, 0, none⟩)] w fun e w' => e = .returned (.bool true) ∧ w = w' := by
  have c0 := hk.cell 0
  simp [rrC] at c0
  go_enter Tryz.func134, Tryz.ntmps134
  go_wp2_with fail
  go_ret
  exact ⟨rfl, rfl⟩
set_option maxRecDepth 100000 in
theorem rdnew_any (mt : ByteArray) (w : World) (hs : mt.size ≤ 140737488355328) :
    Calls Tryz.prog 57 #[.string mt] w fun e w' => Below w.heap.size w w' ∧
      ((tokenB mt.data.toList = false ∧ e = .returned (.tuple #[.pointer none, .int .i64 1])) ∨ (tokenB mt.data.toList = true ∧ ∃ p, e = .returned (.tuple #[.pointer (some ⟨p, 0, none⟩), .int .i64 0]) ∧ w.heap.size ≤ p ∧
        Blk w' p 160 (rrC mt (.slice none 0 0) 0 0 (nxHead p) ⟨#[]⟩ ⟨#[]⟩ 0 (.slice none 0 0) (.slice none 0 0) 0 0 0 0))) := by
  have HT := Lib.hid (token_any mt w hs)
  obtain ⟨q, hq⟩ : ∃ q, tokenB mt.data.toList = q := ⟨_, rfl⟩
  rw [hq] at HT ⊢
  clear hq
  go_enter Tryz.func57, Tryz.ntmps57
  go_wp2_with fail
  refine (HT.out).mono ?_
  rintro e w1 ⟨rfl, hb1⟩
  have B1 := Lib.hid hb1
  clear hb1 HT
  cases q with
  | false =>
    go_wp2_with fail
    go_ret2
    exact ⟨B1.out, rfl⟩
  | true =>
    go_wp2_with fail
    go_ret2
    exact ⟨B1.out.alloc B1.out.size _, w1.heap.size, rfl, B1.out.size, Blk.new w1 _ _⟩
theorem buf_cut {X : Nat → Prop} {w w' : World} {base n c k : Nat} {A : Option Addr} {xs : List Value} (h : BufOk w base (.slice A n c) n xs) (hk : k ≤ n) (hK : Keep X w w') (hx : ∀ g, (Value.slice A n c).ownBlock = some g → ¬ X g) :
    BufOk w' base (.slice (if n = k then A else Option.map (fun x => x.add k) A) (n - k) (n - k)) (n - k) (xs.drop k) := by
  have h' := h.keepX hK hx
  obtain ⟨_, _, hv, _, hL, hA⟩ := h'.form
  have hxl : xs.length = n := by simpa using hL.1
  cases A with
  | none =>
    have hn : n = 0 := by
      rcases Nat.eq_zero_or_pos n with h0 | h0
      · exact h0
      · injection hv with h1 h2 h3
        subst h1
        obtain ⟨_, _, e, _⟩ := hL.2 h0
        cases e
    subst hn
    have : k = 0 := by omega
    subst this
    have : xs = [] := List.eq_nil_of_length_eq_zero hxl
    subst this
    exact .inl (World.ownsRow_nil _ _ _ _)
  | some a =>
    have key : ∃ b o, a = ⟨b, o, none⟩ ∧ base ≤ b ∧ b < w'.heap.size ∧ ∀ j u, xs[j]? = some u → w'.cell? ⟨b, o + j, none⟩ = some u := by
      rcases h' with h' | ⟨b, o, e, h1, h2, h3, h4⟩
      · rcases h'.2 with ⟨e, _⟩ | ⟨g, cap, cur, e, _⟩
        · cases e
        · injection e with e
          injection e with e
          subst e
          have h5 := h'.lt g rfl
          refine ⟨g, 0, rfl, h5.1, h5.2, fun j u hu => ?_⟩
          have hj : j < n := by rw [← hxl]; exact (List.getElem?_eq_some_iff.1 hu).1
          obtain ⟨b, o, e, _, hc⟩ := (Lies.of_own h').2 (by omega)
          injection e with e
          injection e with e1 e2
          subst e1 e2
          exact hc j u hu
      · injection e with e
        injection e with e
        subst e
        exact ⟨b, o, rfl, h1, h2, h4⟩
    obtain ⟨b, o, rfl, h1, h2, h3⟩ := key
    refine .inr ?_
    by_cases hnk : n = k
    · subst hnk
      rw [if_pos rfl]
      refine ⟨b, o, rfl, h1, h2, by rw [List.length_drop, hxl], fun j u hu => ?_⟩
      rw [List.drop_eq_nil_of_le (by omega)] at hu
      simp at hu
    · rw [if_neg hnk]
      refine ⟨b, o + k, by simp only [Option.map_some, Addr.add_lit], h1, h2, by rw [List.length_drop, hxl], fun j u hu => ?_⟩
      rw [List.getElem?_drop] at hu
      rw [Nat.add_assoc]
      exact h3 _ u hu
set_option maxRecDepth 100000 in
theorem took_any (p k : Nat) (w : World) (base : Nat) (mt : ByteArray) (nx vf vd : Value) (A : Option Addr) (n c : Nat) (xs : List Value) (rd : Nat) (cm ms need ends done e0 : Int) (m1 m2 : ByteArray)
    (hk : Blk w p 160 (rrC mt (.slice A n c) (rd : Int) cm nx m1 m2 ms vf vd need ends done e0)) (hb : BufOk w base (.slice A n c) n xs) (hne : ∀ g, (Value.slice A n c).ownBlock = some g → ¬ g = p) (hkn : k ≤ n) (hn : n ≤ 1000000) (hrd : rd ≤ 1000000) :
    Calls Tryz.prog 202 #[.pointer (some ⟨p, 0, none⟩), .int .i64 (k : Int)] w fun e w' => e = .returned (.tuple #[]) ∧ Keep (fun q => q = p) w w' ∧
      ∃ v, Blk w' p 160 (rrC mt v ((rd + k : Nat) : Int) cm nx m1 m2 ms vf vd need ends done e0) ∧ BufOk w' base v (n - k) (xs.drop k) ∧ ∀ g, v.ownBlock = some g → (Value.slice A n c).ownBlock = some g := by
  have hnc : n ≤ c := by
    obtain ⟨A', c', hv, hnc, _⟩ := hb.form
    injection hv with h1 h2 h3
    omega
  have HB := Lib.hid hb
  have HK := Lib.hid hk
  have c2 := hk.cell 2
  have c3 := hk.cell 3
  have f2 := hk.frozen 2
  have f3 := hk.frozen 3
  simp [rrC] at c2 c3
  clear hk hb
  go_enter Tryz.func202, Tryz.ntmps202
  go_upto_region 1 with fail
  have hk1 : Blk (w.setCell ⟨p, 3, none⟩ (.int .i64 ((rd : Int) + (k : Int)))) p 160 (rrC mt (.slice A n c) ((rd + k : Nat) : Int) cm nx m1 m2 ms vf vd need ends done e0) := by
    have := HK.out.set_ 3 (.int .i64 ((rd : Int) + (k : Int)))
    simpa [rrC] using this
  have hp1 : Keep (fun q => q = p) w (w.setCell ⟨p, 3, none⟩ (.int .i64 ((rd : Int) + (k : Int)))) := Keep.setCell (p := ⟨p, 3, none⟩) (Keep.refl (fun q => q = p) w) rfl _
  generalize w.setCell ⟨p, 3, none⟩ (.int .i64 ((rd : Int) + (k : Int))) = W1 at *
  have K1 := Lib.hid hk1
  have P1 := Lib.hid hp1
  clear c2 c3 f2 f3
  have c2 := hk1.cell 2
  have f2 := hk1.frozen 2
  simp [rrC] at c2
  clear hk1 hp1
  have hset : ∀ v, Blk (W1.setCell ⟨p, 2, none⟩ v).drew p 160 (rrC mt v ((rd + k : Nat) : Int) cm nx m1 m2 ms vf vd need ends done e0) ∧ Keep (fun q => q = p) w (W1.setCell ⟨p, 2, none⟩ v).drew := fun v => by
    refine ⟨?_, (Keep.setCell (p := ⟨p, 2, none⟩) P1.out rfl v).drewN 1⟩
    have := K1.out.set_ 2 v
    have h2 : Blk (W1.setCell ⟨p, 2, none⟩ v) p 160 (rrC mt v ((rd + k : Nat) : Int) cm nx m1 m2 ms vf vd need ends done e0) := by simpa [rrC] using this
    exact h2.drew
  have HS := Lib.hid hset
  have HN := Lib.hid hne
  clear hset hne
  by_cases hnk : n = k
  · subst hnk
    go_still_tail 17, (by kernel_rfl)
    go_wp2_with fail
    go_end0
    have hc := buf_cut HB.out (Nat.le_refl n) (HS.out (.slice A 0 0)).2 HN.out
    rw [if_pos rfl, Nat.sub_self] at hc
    exact ⟨rfl, (HS.out _).2, .slice A 0 0, by simpa using (HS.out (.slice A 0 0)).1, by simpa using hc, fun g hg => by
      cases A with
      | none => cases hg
      | some a => exact hg⟩
  · go_still_tail 17, (by kernel_rfl)
    go_wp2_with fail
    go_end0
    have hc := buf_cut HB.out hkn (HS.out (.slice (Option.map (fun x => x.add k) A) (n - k) (n - k))).2 HN.out
    rw [if_neg hnk] at hc
    refine ⟨rfl, (HS.out _).2, .slice (Option.map (fun x => x.add k) A) (n - k) (n - k), by simpa using (HS.out (.slice (Option.map (fun x => x.add k) A) (n - k) (n - k))).1, hc, fun g hg => ?_⟩
    cases A with
    | none => cases hg
    | some a =>
      rw [← hg]
      show some a.block = some (a.add k).block
      unfold Addr.add
      split <;> rfl
end Go.Proofs.YtonlfplloenfcaaGreatDoor
namespace Go.Proofs.YtonlfplloenfcaaGreatDoor
open Go.RowKit

/-- Bytes that a reader keeps of an answer. -/
def RdL (w : World) (base : Nat) (v : Value) (l : List UInt8) : Prop := ∃ A c, v = .slice A l.length c ∧ l.length ≤ c ∧ Lies w w.heap.size A l.length (Lib.byteCells l) ∧ ∀ g, v.ownBlock = some g → base ≤ g ∧ g < w.heap.size
theorem RdL.keepX {X : Nat → Prop} {a b : World} {base : Nat} {v : Value} {l : List UInt8} (h : RdL a base v l) (hk : Keep X a b) (hx : ∀ g, v.ownBlock = some g → ¬ X g) : RdL b base v l := by
  obtain ⟨A, c, rfl, hc, hL, hb⟩ := h
  refine ⟨A, c, rfl, hc, (hL.keepX hk (Nat.le_refl _) (fun g o e => hx g (by rw [e]; rfl))).more hk.size, fun g hg => ⟨(hb g hg).1, Nat.lt_of_lt_of_le (hb g hg).2 hk.size⟩⟩

set_option maxRecDepth 100000 in
theorem whole_any (p : Nat) (w : World) (mt : ByteArray) (vb nx vf vd : Value) (A : Option Addr) (n c : Nat) (l : List UInt8) (rd cm ms need ends done e0 : Int) (m1 m2 : ByteArray)
    (hk : Blk w p 160 (rrC mt vb rd cm nx m1 m2 ms vf vd need ends done e0)) (h : Lies w w.heap.size A n (Lib.byteCells l)) (hn : n ≤ 1000000) :
    Calls Tryz.prog 141 #[.pointer (some ⟨p, 0, none⟩), .slice A n c] w fun e w' => e = .returned (.tuple #[]) ∧ Keep (fun q => q = p) w w' ∧
      ∃ v, Blk w' p 160 (rrC mt vb rd cm nx m1 m2 ms vf v need ends 1 e0) ∧ RdL w' w.heap.size v l := by
  have hll : l.length = n := by simpa [Lib.byteCells] using h.1
  have HC := Lib.hid (clone_bytes A n c l w h hn)
  have HK := Lib.hid hk
  have hpl := hk.lt
  clear h hk
  go_enter Tryz.func141, Tryz.ntmps141
  go_wp2_with fail
  refine (HC.out).mono ?_
  rintro e w1 ⟨A1, c1, rfl, ho1, hb1⟩
  have K1 := Lib.hid (HK.out.below hb1 hpl)
  have P1 := Lib.hid (Keep.of_below (X := fun q => q = p) hb1)
  have O1 := Lib.hid ho1
  have HCL := Lib.hid (clip_bytes A1 n c1 w1 (own_cap ho1))
  clear ho1 hb1 HC
  go_wp2_with fail
  refine (HCL.out).mono ?_
  rintro e w2 ⟨rfl, rfl⟩
  have c10 := K1.out.cell 10
  have c13 := K1.out.cell 13
  have f10 := K1.out.frozen 10
  have f13 := K1.out.frozen 13
  simp [rrC] at c10 c13
  clear HCL
  go_wp2_with fail
  go_end0
  have h1 : Blk (w1.setCell ⟨p, 10, none⟩ (.slice A1 n n)) p 160 (rrC mt vb rd cm nx m1 m2 ms vf (.slice A1 n n) need ends done e0) := by
    have := K1.out.set_ 10 (.slice A1 n n)
    simpa [rrC] using this
  have h2 : Blk ((w1.setCell ⟨p, 10, none⟩ (.slice A1 n n)).setCell ⟨p, 13, none⟩ (.int .i64 1)) p 160 (rrC mt vb rd cm nx m1 m2 ms vf (.slice A1 n n) need ends 1 e0) := by
    have := h1.set_ 13 (.int .i64 1)
    simpa [rrC] using this
  have hP : Keep (fun q => q = p) w1 ((w1.setCell ⟨p, 10, none⟩ (.slice A1 n n)).setCell ⟨p, 13, none⟩ (.int .i64 1)) := Keep.setCell (p := ⟨p, 13, none⟩) (Keep.setCell (p := ⟨p, 10, none⟩) (Keep.refl (fun q => q = p) w1) rfl _) rfl _
  have hown : ∀ g, (Value.slice A1 n c1).ownBlock = some g → w.heap.size ≤ g ∧ g < w1.heap.size := O1.out.lt
  have hob : ∀ g, (Value.slice A1 n n).ownBlock = some g → (Value.slice A1 n c1).ownBlock = some g := fun g hg => by
    cases A1 with
    | none => cases hg
    | some a => exact hg
  refine ⟨rfl, P1.out.trans hP, .slice A1 n n, h2, ?_⟩
  have hL := (Lies.of_own O1.out).keepX hP (Nat.le_refl _) (fun g o e => by
    have := hown g (by rw [e]; rfl)
    omega)
  subst hll
  exact ⟨A1, l.length, rfl, Nat.le_refl _, hL.more hP.size, fun g hg => ⟨(hown g (hob g hg)).1, Nat.lt_of_lt_of_le (hown g (hob g hg)).2 hP.size⟩⟩
set_option maxRecDepth 100000 in
theorem rdrest_any (p : Nat) (w : World) (mt : ByteArray) (nx vf vd : Value) (A : Option Addr) (n c : Nat) (rd cm ms need ends done e0 : Int) (m1 m2 : ByteArray)
    (hk : Blk w p 160 (rrC mt (.slice A n c) rd cm nx m1 m2 ms vf vd need ends done e0)) :
    Calls Tryz.prog 205 #[.pointer (some ⟨p, 0, none⟩)] w fun e w' => e = .returned (.tuple #[.bool false, .int .i64 (if 65536 < n then 3 else 0)]) ∧ w = w' := by
  have c2 := hk.cell 2
  simp [rrC] at c2
  clear hk
  by_cases hb : 65536 < n
  · have hd : decide ((65536 : Int) < (n : Int)) = true := decide_eq_true (by omega)
    rw [if_pos hb]
    go_enter Tryz.func205, Tryz.ntmps205
    go_wp2_with fail
    go_ret2
    exact ⟨rfl, rfl⟩
  · have hd : decide ((65536 : Int) < (n : Int)) = false := decide_eq_false (by omega)
    rw [if_neg hb]
    go_enter Tryz.func205, Tryz.ntmps205
    go_wp2_with fail
    go_ret2
    exact ⟨rfl, rfl⟩
set_option maxRecDepth 100000 in
theorem rdlen_more (p : Nat) (w : World) (mt : ByteArray) (nx vf vd : Value) (A : Option Addr) (n c m : Nat) (rd cm ms ends done e0 : Int) (m1 m2 : ByteArray)
    (hk : Blk w p 160 (rrC mt (.slice A n c) rd cm nx m1 m2 ms vf vd (m : Int) ends done e0)) (hm : n < m) :
    Calls Tryz.prog 203 #[.pointer (some ⟨p, 0, none⟩)] w fun e w' => e = .returned (.tuple #[.bool false, .int .i64 0]) ∧ ∃ q, w' = w.drewN q := by
  have c2 := hk.cell 2
  have c11 := hk.cell 11
  simp [rrC] at c2 c11
  clear hk
  have hd : decide ((m : Int) ≤ (n : Int)) = false := decide_eq_false (by omega)
  go_enter Tryz.func203, Tryz.ntmps203
  go_wp2_with fail
  go_quiet (fail)
  go_wp2_with fail
  go_ret2
  exact ⟨rfl, _, rfl⟩
set_option maxRecDepth 100000 in
theorem rdlen_done (p : Nat) (w : World) (base : Nat) (mt : ByteArray) (nx vf vd : Value) (A : Option Addr) (n c m : Nat) (l : List UInt8) (rd : Nat) (cm ms ends done e0 : Int) (m1 m2 : ByteArray)
    (hk : Blk w p 160 (rrC mt (.slice A n c) (rd : Int) cm nx m1 m2 ms vf vd (m : Int) ends done e0)) (hb : BufOk w base (.slice A n c) n (Lib.byteCells l)) (hne : ∀ g, (Value.slice A n c).ownBlock = some g → ¬ g = p) (hm : m ≤ n) (hn : n ≤ 1000000) (hrd : rd ≤ 1000000) :
    Calls Tryz.prog 203 #[.pointer (some ⟨p, 0, none⟩)] w fun e w' => e = .returned (.tuple #[.bool false, .int .i64 0]) ∧ Keep (fun q => q = p) w w' ∧
      ∃ v v2, Blk w' p 160 (rrC mt v ((rd + m : Nat) : Int) cm nx m1 m2 ms vf v2 (m : Int) ends 1 e0) ∧ RdL w' w.heap.size v2 (l.take m) ∧ BufOk w' base v (n - m) ((Lib.byteCells l).drop m) ∧ ∀ g, v.ownBlock = some g → (Value.slice A n c).ownBlock = some g := by
  obtain ⟨A', c', hv, hnc, hL, _⟩ := hb.form
  obtain ⟨rfl, _, rfl⟩ : A = A' ∧ n = n ∧ c = c' := by injection hv with h1 h2 h3; exact ⟨h1, h2, h3⟩
  have c2 := hk.cell 2
  have c11 := hk.cell 11
  simp [rrC] at c2 c11
  have hpl := hk.lt
  have HK := Lib.hid hk
  have HB := Lib.hid hb
  have HN := Lib.hid hne
  have HL := Lib.hid (lies_cut hL hm)
  have hd : decide ((m : Int) ≤ (n : Int)) = true := decide_eq_true (by omega)
  clear hk hb hne hL hv
  go_enter Tryz.func203, Tryz.ntmps203
  go_wp2_with fail
  go_quiet (fail)
  go_wp2_with fail
  have hk1 := HK.out.drewN nq
  have hl1 : Lies (w.drewN nq) w.heap.size A m (Lib.byteCells (l.take m)) := HL.out
  have hb1 : BufOk (w.drewN nq) base (.slice A n c) n (Lib.byteCells l) := HB.out
  have hp1 := (Keep.refl (fun q => q = p) w).drewN nq
  have hz1 : (w.drewN nq).heap.size = w.heap.size := rfl
  generalize w.drewN nq = w1 at *
  clear c2 c11 HK HB HL
  have c2 := hk1.cell 2
  have c11 := hk1.cell 11
  simp [rrC] at c2 c11
  have K1 := Lib.hid hk1.drew
  have B1 := Lib.hid hb1
  have P1 := Lib.hid hp1
  have HW := Lib.hid (whole_any p w1.drew mt (.slice A n c) nx vf vd A m c (l.take m) (rd : Int) cm ms (m : Int) ends done e0 m1 m2 hk1.drew (by rw [← hz1] at hl1; exact hl1) (by omega))
  clear hk1 hb1 hp1 hl1
  have hmc : m ≤ c := Nat.le_trans hm hnc
  go_still_tail 10, (by kernel_rfl)
  go_wp2_with fail
  refine (HW.out).mono ?_
  rintro e w2 ⟨rfl, hp2, v2, hk2, hr2⟩
  have hz2 : w1.heap.size ≤ w2.heap.size := hp2.size
  have B2 := Lib.hid (B1.out.keepX (X := fun q => q = p) (b := w2) ⟨hp2.os, hp2.tape, hp2.output, hp2.size, hp2.block⟩ HN.out)
  have P2 := Lib.hid (P1.out.trans (c := w2) ⟨hp2.os, hp2.tape, hp2.output, hp2.size, hp2.block⟩)
  have R2 := Lib.hid hr2
  have c11' := hk2.cell 11
  simp [rrC] at c11'
  have HT := Lib.hid (took_any p m w2 base mt nx vf v2 A n c (Lib.byteCells l) rd cm ms (m : Int) ends 1 e0 m1 m2 hk2 B2.out HN.out hm hn hrd)
  clear hp2 hk2 hr2 c2 c11 HW
  go_wp2_with fail
  refine (HT.out).mono ?_
  rintro e w3 ⟨rfl, hp3, v3, hk3, hb3, ho3⟩
  have P3 := Lib.hid (P2.out.trans hp3)
  have K3 := Lib.hid hk3
  have B3 := Lib.hid hb3
  have O3 := Lib.hid ho3
  have R3 := Lib.hid (R2.out.keepX hp3 (fun g hg e => by
    obtain ⟨_, _, _, _, _, h⟩ := R2.out
    have := (h g hg).1
    subst e
    have h2 : w1.drew.heap.size = w1.heap.size := rfl
    omega))
  clear hp3 hk3 hb3 ho3 HT
  go_wp2_with fail
  go_ret2
  refine ⟨rfl, P3.out, v3, v2, K3.out, ?_, B3.out, O3.out⟩
  have h2 : w1.drew.heap.size = w.heap.size := hz1
  rw [← h2]
  exact R3.out
end Go.Proofs.YtonlfplloenfcaaGreatDoor
namespace Go.Proofs.YtonlfplloenfcaaGreatDoor
open Go.RowKit

set_option maxRecDepth 100000 in
theorem rdchunks_any (p : Nat) (w : World) (base : Nat) (mt : ByteArray) (nx vf vd : Value) (A : Option Addr) (n c : Nat) (l : List UInt8) (rd : Nat) (cm ms need ends done e0 : Int) (m1 m2 : ByteArray)
    (hk : Blk w p 160 (rrC mt (.slice A n c) (rd : Int) cm nx m1 m2 ms vf vd need ends done e0)) (hb : BufOk w base (.slice A n c) n (Lib.byteCells l)) (hne : ∀ g, (Value.slice A n c).ownBlock = some g → ¬ g = p) (hn : n ≤ 65536) (hrd : rd ≤ 1000000) (hm : MaxOk w) (hmg : maxG < w.heap.size) :
    Calls Tryz.prog 204 #[.pointer (some ⟨p, 0, none⟩)] w fun e w' => e = .returned (.tuple #[.bool false, .int .i64 (ansE (chunkA l))]) ∧ Keep (fun q => q = p) w w' ∧
      ((∀ b q, chunkA l ≠ .done b q) → Blk w' p 160 (rrC mt (.slice A n c) (rd : Int) cm nx m1 m2 ms vf vd need ends done e0)) ∧
      (∀ b q, chunkA l = .done b q → ∃ v v2, Blk w' p 160 (rrC mt v ((rd + (n - q.length) : Nat) : Int) cm nx m1 m2 ms vf v2 need ends 1 e0) ∧ RdL w' w.heap.size v2 b ∧ BufOk w' base v (n - (n - q.length)) ((Lib.byteCells l).drop (n - q.length)) ∧ ∀ g, v.ownBlock = some g → (Value.slice A n c).ownBlock = some g) := by
  obtain ⟨A', c', hv, hnc, hL, _⟩ := hb.form
  obtain ⟨rfl, _, rfl⟩ : A = A' ∧ n = n ∧ c = c' := by injection hv with h1 h2 h3; exact ⟨h1, h2, h3⟩
  have hll : l.length = n := by simpa [Lib.byteCells] using hL.1
  have c2 := hk.cell 2
  simp [rrC] at c2
  have hpl := hk.lt
  have hlen := chunkA_len l
  rw [hll] at hlen
  obtain ⟨a, ha⟩ : ∃ a, chunkA l = a := ⟨_, rfl⟩
  have HA := Lib.hid ha
  have HC := Lib.hid (bchunked_any A n c l w hL hnc (by omega) hm hmg)
  have HK := Lib.hid hk
  have HB := Lib.hid hb
  have HN := Lib.hid hne
  have HLL := Lib.hid hll
  rw [ha] at hlen ⊢
  clear hk hb hne hL hv hll hm ha
  go_enter Tryz.func204, Tryz.ntmps204
  go_wp2_with fail
  refine (HC.out).mono ?_
  rintro e w1 ⟨vb, rfl, ho1, hb1⟩
  obtain ⟨A1, c1, rfl⟩ := own_form ho1
  rw [HLL.out, HA.out]
  rw [HA.out] at ho1
  have K1 := Lib.hid (HK.out.below hb1 hpl)
  have P1 := Lib.hid (Keep.of_below (X := fun q => q = p) hb1)
  have B1 := Lib.hid (HB.out.keepX P1.out HN.out)
  have O1 := Lib.hid ho1
  have hz1 := hb1.size
  clear ho1 hb1 HC c2
  cases a with
  | err z =>
    have hz := chunkA_err HA.out
    rw [show ansE (.err z) = z from rfl, show ((ansN n (.err z) : Nat) : Int) = 0 from rfl, show ansD (.err z) = false from rfl, show (ansB (.err z)).length = 0 from rfl]
    rcases hz with rfl | rfl
    all_goals
      go_wp2_with fail
      go_ret2
      exact ⟨rfl, P1.out, fun _ => K1.out, fun b q h => by cases h⟩
  | more b =>
    rw [show ansE (.more b) = 0 from rfl, show ((ansN n (.more b) : Nat) : Int) = (n : Int) from rfl, show ansD (.more b) = false from rfl, show (ansB (.more b)).length = b.length from rfl]
    have hlb : b.length ≤ n := hlen
    have hd : decide ((65536 : Int) < (b.length : Int)) = false := decide_eq_false (by omega)
    clear hlen
    obtain ⟨m, hm⟩ : ∃ m, b.length = m := ⟨_, rfl⟩
    rw [hm] at hd hlb ⊢
    clear hm
    go_wp2_with fail
    go_ret2
    exact ⟨rfl, P1.out, fun _ => K1.out, fun b q h => by cases h⟩
  | done b q =>
    have hq := chunk_len _ _ _ _ _ (show chunkG (l.length + 1) 0 l = .done b q from HA.out)
    rw [HLL.out] at hq
    rw [show ansE (.done b q) = 0 from rfl, show ((ansN n (.done b q) : Nat) : Int) = ((n - q.length : Nat) : Int) from rfl, show ansD (.done b q) = true from rfl, show (ansB (.done b q)).length = b.length from rfl]
    have O2 : Hid (w1.ownsRow w.heap.size 5 1 (.slice A1 b.length c1) b.length (Lib.byteCells b)) := O1
    have hlb : b.length ≤ n := hlen
    have hd : decide ((65536 : Int) < (b.length : Int)) = false := decide_eq_false (by omega)
    have HW := Lib.hid (whole_any p w1 mt (.slice A n c) nx vf vd A1 b.length c1 b (rd : Int) cm ms need ends done e0 m1 m2 K1.out (Lies.of_own O2.out) (by omega))
    obtain ⟨k, hk⟩ : ∃ k, n - q.length = k := ⟨_, rfl⟩
    have hkn : k ≤ n := by omega
    have HKK := Lib.hid hk
    rw [hk]
    clear hlen O1 hk hq
    obtain ⟨m, hm⟩ : ∃ m, b.length = m := ⟨_, rfl⟩
    rw [hm] at hd hlb HW O2 ⊢
    clear hm
    go_wp2_with fail
    refine (HW.out).mono ?_
    rintro e w2 ⟨rfl, hp2, v2, hk2, hr2⟩
    have hz2 := hp2.size
    have B2 := Lib.hid (B1.out.keepX hp2 HN.out)
    have P2 := Lib.hid (P1.out.trans hp2)
    have R2 := Lib.hid hr2
    have HT := Lib.hid (took_any p k w2 base mt nx vf v2 A n c (Lib.byteCells l) rd cm ms need ends 1 e0 m1 m2 hk2 B2.out HN.out hkn (by omega) hrd)
    clear hp2 hk2 hr2 HW
    go_wp2_with fail
    refine (HT.out).mono ?_
    rintro e w3 ⟨rfl, hp3, v3, hk3, hb3, ho3⟩
    have P3 := Lib.hid (P2.out.trans hp3)
    have K3 := Lib.hid hk3
    have B3 := Lib.hid hb3
    have O3 := Lib.hid ho3
    have R3 := Lib.hid (R2.out.keepX hp3 (fun g hg e => by
      obtain ⟨_, _, _, _, _, h⟩ := R2.out
      have := (h g hg).1
      subst e
      omega))
    clear hp3 hk3 hb3 ho3 HT
    go_wp2_with fail
    go_ret2
    refine ⟨rfl, P3.out, fun h => absurd rfl (h b q), fun b' q' h => ?_⟩
    injection h with h1 h2
    subst h1 h2
    rw [HKK.out]
    obtain ⟨Ar, cr, hv9, hc9, hL9, h9⟩ := R3.out
    exact ⟨v3, v2, K3.out, ⟨Ar, cr, hv9, hc9, hL9, fun g hg => ⟨by have := (h9 g hg).1; omega, (h9 g hg).2⟩⟩, B3.out, O3.out⟩
end Go.Proofs.YtonlfplloenfcaaGreatDoor
