/-
  slices.IndexFunc, slices.ContainsFunc over fields, at heads.odd.
  bodies.Put: a body by chunks.
-/
import Derived.Test.YtonlfplloenfcaaGreatDoorOddEtc
import Derived.Test.YtonlfplloenfcaaGreatDoorTwinEtc
import Derived.Test.YtonlfplloenfcaaGreatDoorReflEtc
import Derived.Test.YtonlfplloenfcaaGreatDoorShelf
import Derived.Test.YtonlfplloenfcaaGreatDoorShelfC
import Derived.Test.YtonlfplloenfcaaGreatDoorBuf
import Derived.Test.YtonlfplloenfcaaGreatDoorResultsEtc
import Derived.Lib.OthersKept
namespace Go.Proofs.YtonlfplloenfcaaGreatDoor
open Go.RowKit

def IdxPost (b : Bool) (w : World) (e : Ending) (w' : World) : Prop := (∃ z : Int, e = .returned (.int .i64 z) ∧ decide (0 ≤ z) = b) ∧ Below w.heap.size w w'
theorem any_step {fs : List Fd} {k : Nat} {f : Fd} (hf : fs[k]? = some f) (hp : (fs.take k).any oddF = false) (hx : oddF f = false) : (fs.take (k + 1)).any oddF = false := by
  rw [List.take_add_one, hf, List.any_append, hp]
  simp [hx]
theorem any_hit {fs : List Fd} {k : Nat} {f : Fd} (hf : fs[k]? = some f) (hx : oddF f = true) : fs.any oddF = true := List.any_eq_true.2 ⟨f, List.mem_of_getElem? hf, hx⟩
set_option maxRecDepth 100000 in
theorem indexf_any (A : Option Addr) (n c : Nat) (fs : List Fd) (w : World) (h : FRead w w.heap.size A n fs) (hs : FSmall fs) (hn : n ≤ 140737488355328) :
   Calls Tryz.prog 145 #[.slice A n c, .func (.func 71) #[] #[]] w (IdxPost (fs.any oddF) w) := by
  obtain ⟨hlen, hcells⟩ := h
  have HL := Lib.hid hlen
  have HS := Lib.hid hs
  clear hlen hs
  go_enter Tryz.func145, Tryz.ntmps145
  go_wp2_with fail
  go_loopw [8] (fun i wr => ∃ k : Nat, k ≤ n ∧ i = .int .i64 k ∧ Hid ((fs.take k).any oddF = false) ∧ Below w.heap.size w wr) (fun i _ => n - (intOf i).toNat)
  case atStart => exact ⟨0, Nat.zero_le _, rfl, by simp [Hid], Below.refl _ _⟩
  case round =>
    obtain ⟨k, hk, rfl, hp, hb⟩ := hrel
    by_cases hlt : k < n
    · obtain ⟨b, off, rfl, hbb, hc⟩ := hcells (by omega)
      obtain ⟨f, hf⟩ : ∃ f, fs[k]? = some f := ⟨fs[k]'(by rw [HL.out]; exact hlt), List.getElem?_eq_getElem (by rw [HL.out]; exact hlt)⟩
      have hc1 := (hb.cell (p := ⟨b, off + k * 2, none⟩) hbb).trans (hc k f hf).1
      have hc2 := (hb.cell (p := ⟨b, off + k * 2 + 1, none⟩) hbb).trans (hc k f hf).2
      have hsz := HS.out f (List.mem_of_getElem? hf)
      have HO := Lib.hid (fun W => odd_any f W hsz.1 hsz.2)
      have hst : oddF f = false → Hid ((fs.take (k + 1)).any oddF = false) := fun h => any_step hf hp.out h
      have hit : oddF f = true → fs.any oddF = true := fun h => any_hit hf h
      have HST := Lib.hid hst
      have HIT := Lib.hid hit
      clear hf hc hcells hst hit hsz
      obtain ⟨f1, f2⟩ := f
      simp only at hc1 hc2
      cases ho : oddF (f1, f2)
      · have HV := Lib.hid (HST.out ho)
        have HQ := Lib.hid ho
        clear ho
        go_wp2_with fail
        refine (HO.out _).mono ?_
        rintro e w1 ⟨rfl, hb1⟩
        rw [HQ.out]
        have hB1 := hb.trans (hb1.mono hb.size)
        clear hb1 hc1 hc2
        go_wp2_with fail
        go_roundw
        case rel => exact ⟨k + 1, by omega, by go_num, HV.out, hB1⟩
        case measure => simp [intOf]; omega
      · have HV := Lib.hid (HIT.out ho)
        have HQ := Lib.hid ho
        clear ho
        go_wp2_with fail
        refine (HO.out _).mono ?_
        rintro e w1 ⟨rfl, hb1⟩
        rw [HQ.out]
        have hB1 := hb.trans (hb1.mono hb.size)
        clear hb1 hc1 hc2
        go_wp2_with fail
        go_ret
        exact ⟨⟨_, rfl, by rw [HV.out]; exact decide_eq_true (by omega)⟩, hB1⟩
    · obtain rfl : k = n := by omega
      have hf : fs.any oddF = false := by
        have h := hp.out
        rwa [List.take_of_length_le (by rw [HL.out]; exact Nat.le_refl _)] at h
      have HF := Lib.hid hf
      clear hf hcells
      go_wp2_with fail
      go_ret
      exact ⟨⟨_, rfl, by rw [HF.out]; rfl⟩, hb⟩
theorem contains_any (A : Option Addr) (n c : Nat) (fs : List Fd) (w : World) (h : FRead w w.heap.size A n fs) (hs : FSmall fs) (hn : n ≤ 140737488355328) :
   Calls Tryz.prog 70 #[.slice A n c, .func (.func 71) #[] #[]] w fun e w' => e = .returned (.bool (fs.any oddF)) ∧ Below w.heap.size w w' := by
  have HI := Lib.hid (indexf_any A n c fs w h hs hn)
  clear h hs
  go_enter Tryz.func70, Tryz.ntmps70
  go_wp2_with fail
  refine HI.out.mono ?_
  rintro e w1 ⟨⟨z, rfl, hz⟩, hb⟩
  have HZ := Lib.hid hz
  clear hz HI
  go_wp2_with fail
  go_ret
  exact ⟨ret_bool HZ.out, hb⟩
end Go.Proofs.YtonlfplloenfcaaGreatDoor
namespace Go.Proofs.YtonlfplloenfcaaGreatDoor
open Go.RowKit Go.Shelf
attribute [local go_sem] Oper.semAt_some

def tab64 (w : World) : Prop := w.cell? ⟨8, 15, none⟩ = some (.int .u8 4)

theorem chunkT_len (size : Nat) (l : List UInt8) (k : Nat) (hs : size ≤ 65536) : (chunkT size l k).length ≤ 70000 := by
  have h1 := hexB_len 4 (min size (l.length - k * size)) (by omega)
  have h2 : ((l.drop (k * size)).take size).length ≤ size := List.length_take_le _ _
  simp only [chunkT, List.length_append, List.length_cons, List.length_nil]
  omega
theorem flat_len {α : Type} (f : α → List UInt8) (B : Nat) (hf : ∀ x, (f x).length ≤ B) (pre : List α) : (pre.flatMap f).length ≤ pre.length * B := by
  induction pre with
  | nil => simp
  | cons x r ih => rw [List.flatMap_cons, List.length_append, List.length_cons, Nat.succ_mul]; have := hf x; omega
theorem own_from_put (B0 b : Nat) (T e : TypeId) {α : Type} (f : List α → List Value) (g1 g2 : Nat) (t1 t2 : TypeId) (c1 c2 : Array Value) (B : Nat) :
    OwnFrom B (fun pre W => Lib.IsBuffer T e B0 b (f pre) W ∧ Blk W g1 t1 c1 ∧ Blk W g2 t2 c2) := fun _ _ _ _ hs hg hr =>
  ⟨buf_grown hs.1 hg (fun r e => (hr r e).2), blk_grown hs.2.1 hg (fun r e => (hr r e).2), blk_grown hs.2.2 hg (fun r e => (hr r e).2)⟩

set_option maxRecDepth 100000 in
theorem put_ok (A : Option Addr) (n cap size : Nat) (l : List UInt8) (w : World) (hcap : n ≤ cap) (hL : Lies w w.heap.size A n (Lib.byteCells l)) (hn : n ≤ 65536) (hs1 : 1 ≤ size) (hs2 : size ≤ 65536) (ht : tab64 w) (hg : 8 < w.heap.size) :
    CallsIn Fence.wide 9 Tryz.prog 51 #[.slice A n cap, .int .i64 (size : Int)] w fun e w' => ∃ v m, e = .returned (.tuple #[v, .int .i64 0]) ∧ n ≤ m * size ∧ (m = 0 ∨ (m - 1) * size < n) ∧
      w'.ownsRow w.heap.size 5 1 v ((List.range m).flatMap (chunkT size l) ++ [48, 13, 10, 13, 10]).length (Lib.byteCells ((List.range m).flatMap (chunkT size l) ++ [48, 13, 10, 13, 10])) ∧ Below w.heap.size w w' := by
  have h1 : 1 ≤ 9 := by omega
  refine callsIn_of_wp_marks Tryz.func51 rfl trivial ?_ rfl
  simp only [Tryz.ntmps51, List.size_toArray, List.length_cons, List.length_nil, Nat.reduceAdd, Nat.reduceSub, Array.replicate_succ, Array.replicate_zero, List.push_toArray, List.append_toArray, List.nil_append, List.cons_append]
  gi_wp2_with fail
  refine ⟨trivial, (chunk_in 8 A n cap size hs1 _).mono ?_⟩
  rintro e w1 ⟨rfl, rfl⟩
  obtain ⟨W0, hW0⟩ : ∃ W0, ((w.alloc (.cells #[.slice none 0 0, .int .i64 0, .int .i8 0] 114)).alloc (.cells #[.slice A n cap] 23)).alloc (.cells #[.int .i64 (size : Int)] 3) = W0 := ⟨_, rfl⟩
  have hsz0 : W0.heap.size = w.heap.size + 3 := by rw [← hW0]; simp
  have hbel0 : Below w.heap.size w W0 := by rw [← hW0]; exact (((Below.refl _ _).alloc (Nat.le_refl _) _).alloc (by simp) _).alloc (by simp; omega) _
  have hA0 : Blk W0 (w.heap.size + 1) 23 #[.slice A n cap] := by
    have h := (Blk.new (w.alloc (.cells #[.slice none 0 0, .int .i64 0, .int .i8 0] 114)) 23 #[.slice A n cap]).alloc (.cells #[.int .i64 (size : Int)] 3)
    rw [World.size_alloc, hW0] at h
    exact h
  have hN0 : Blk W0 (w.heap.size + 2) 3 #[.int .i64 (size : Int)] := by
    have h := Blk.new ((w.alloc (.cells #[.slice none 0 0, .int .i64 0, .int .i8 0] 114)).alloc (.cells #[.slice A n cap] 23)) 3 #[.int .i64 (size : Int)]
    rw [World.size_alloc, World.size_alloc, hW0] at h
    exact h
  have hB0 : Lib.IsBuffer 114 5 w.heap.size w.heap.size [] W0 := by
    rw [← hW0]
    exact buf_below (buf_below (Lib.fresh_isBuffer _ _ w) ((Below.refl _ _).alloc (Nat.le_refl _) _)) ((Below.refl _ _).alloc (Nat.le_refl _) _)
  have e1 : (w.alloc (.cells #[.slice none 0 0, .int .i64 0, .int .i8 0] 114)).heap.size = w.heap.size + 1 := World.size_alloc _ _
  rw [hW0, e1]
  clear hW0 e1
  obtain ⟨b, off, hA⟩ : ∃ b off, 0 < n → (A = some ⟨b, off, none⟩ ∧ b < w.heap.size ∧ ∀ (j : Nat) (u : Value), (Lib.byteCells l)[j]? = some u → w.cell? ⟨b, off + j, none⟩ = some u) := by
    rcases Nat.eq_zero_or_pos n with h0 | h0
    · exact ⟨0, 0, fun h => absurd h (by omega)⟩
    · obtain ⟨b, off, h⟩ := hL.2 h0
      exact ⟨b, off, fun _ => h⟩
  have hll : l.length = n := by simpa [Lib.byteCells] using hL.1
  have ⟨hA1, hA2⟩ := And.intro hA hA
  gi_wp2_with fail
  refine wpIn_rangeFunc_ownG rfl h1 (gf := 200) (lb := #[.pointer (some ⟨w.heap.size + 1, 0, none⟩), .pointer (some ⟨w.heap.size + 1 + 1, 0, none⟩)]) rfl trivial (enters_of Tryz.func200 (by kernel_rfl) rfl)
    (chunk_stops 8 (by omega) (w.heap.size + 1) (w.heap.size + 1 + 1) b off n cap size A (fun h => (hA h).1) hcap (by omega) hs1 (by omega) W0 (by omega) (by omega) (hA0.cell 0) (hN0.cell 0))
    (fun h k => Two.trans h k) (two_b (by omega) (by omega)) (Below.refl _ _) (fun _ => rfl)
    (fun pre W => (Lib.IsBuffer 114 5 w.heap.size w.heap.size (Lib.byteCells (pre.flatMap fun x => chunkT size l x.1)) W ∧ Blk W (w.heap.size + 1) 23 #[.slice A n cap] ∧ Blk W (w.heap.size + 1 + 1) 3 #[.int .i64 (size : Int)]) ∧ Below w.heap.size w W)
    (fun _ _ _ => False)
    (OwnFrom.and (own_from_put _ _ _ _ _ _ _ _ _ _ _ _) (ownFrom_below (Nat.le_refl _) (by omega)))
    (fun _ _ _ _ _ hs _ _ => hs)
    ⟨⟨by simpa [Lib.byteCells] using hB0, hA0, hN0⟩, hbel0⟩
    ?a1 ?assign ?body ?done ?stop
  case assign =>
    intro l x W K hK
    gi_wp2
    exact hK
  case body =>
    rintro l1 pre x W ⟨⟨hbuf, hbA, hbN⟩, hB⟩ hlen
    obtain ⟨hAe, hbw, hsrc⟩ := hA (by omega)
    obtain ⟨a, m, hp, ha, hm⟩ : ∃ a m, partOf b off n size x.1 = .slice (some ⟨b, off + a, none⟩) m m ∧ a = x.1 * size ∧ m = min size (n - x.1 * size) := ⟨_, _, rfl, rfl, rfl⟩
    have hx2 := x.2
    have hm1 : 1 ≤ m := by omega
    have hm2 : m ≤ 65536 := by omega
    have htW : tab64 W := (hB.cell (p := ⟨8, 15, none⟩) hg).trans ht
    have hbl : (pre.flatMap fun x => chunkT size l x.1).length ≤ pre.length * 70000 := flat_len (fun x : {k : Nat // k * size < n} => chunkT size l x.1) 70000 (fun x => chunkT_len size l x.1 hs2) pre
    have hF := Lib.hid (format16 m hm1 hm2 W htW)
    have hparts : chunkT size l x.1 = hexB m ++ [13, 10] ++ (l.drop a).take m ++ [13, 10] := by
      unfold chunkT
      rw [hll, ← hm, ← ha]
      have e : (l.drop a).take size = (l.drop a).take m := by
        rw [hm, ← ha, List.take_eq_take_iff, List.length_drop, hll]
        omega
      rw [e]
    have hhl : (hexB m).length ≤ 5 := hexB_len 4 m (by omega)
    have hpl : ((l.drop a).take m).length = m := by rw [List.length_take, List.length_drop]; omega
    have hsrcV : ∀ V, Below w.heap.size w V → ∀ j v, (Lib.byteCells ((l.drop a).take m))[j]? = some v → V.cell? ((⟨b, off + a, none⟩ : Addr).add j) = some v := by
      intro V hV j v hv
      rw [Addr.add_lit, Nat.add_assoc]
      refine (hV.cell (p := ⟨b, off + (a + j), none⟩) hbw).trans (hsrc (a + j) v ?_)
      unfold Lib.byteCells at hv ⊢
      rw [List.map_take, List.map_drop, List.getElem?_take] at hv
      split at hv
      · rw [List.getElem?_drop] at hv; exact hv
      · cases hv
    have hadd := fun V => run_string_add_lists (P := Tryz.prog) V (hexB m) [13, 10] (by omega) (by simp)
    generalize hexB m = hx at *
    generalize (l.drop a).take m = part at *
    have HX := Lib.hid hparts
    have HSV := Lib.hid hsrcV
    clear hparts hsrcV
    have HBA := Lib.hid (And.intro hbA hbN)
    have HB := Lib.hid hB
    have HBUF := Lib.hid hbuf
    have HSRC := Lib.hid hsrc
    have HLEN := Lib.hid hbl
    clear htW ha hm hbA hbN hB hbuf hsrc hbl ht hA hL
    rw [hp]
    gi_wp2_with fail
    refine ⟨trivial, (CallsIn.inRound l1 (callsIn_wide.2 hF.out)).mono ?_⟩
    rintro e W1 ⟨rfl, hW1⟩
    have hbuf1 := buf_below HBUF.out hW1
    have hB1 := HB.out.trans (hW1.mono HB.out.size)
    have hlim : (Lib.byteCells (pre.flatMap fun x => chunkT size l x.1)).length ≤ 6000000000 := by
      have h1 := HLEN.out
      have h2 : pre.length * 70000 ≤ 65536 * 70000 := Nat.mul_le_mul_right _ (by omega)
      rw [Lib.byteCells_length]; omega
    have hws := Lib.hid (Tryz.Buffer_WriteString_k w.heap.size w.heap.size _ ⟨(hx ++ [13, 10]).toArray⟩ W1 hbuf1 hB1.size (Lib.byteCells_one _) (by simp only [ByteArray.size, List.size_toArray, List.length_append, List.length_cons, List.length_nil]; omega))
    have HW1 := Lib.hid (And.intro hW1 hB1)
    clear hbuf1 hW1 hB1
    gi_wp2_with fail
    refine ⟨trivial, (CallsIn.inRound l1 (callsIn_wide.2 hws.out)).mono ?_⟩
    clear hws
    rintro e W2 ⟨rfl, hbuf2, hb2, hk2⟩
    have hlim2 : (Lib.byteCells (pre.flatMap fun x => chunkT size l x.1) ++ Lib.byteCells (hx ++ [13, 10])).length ≤ 6000000007 := by
      rw [List.length_append, Lib.byteCells_length (hx ++ [13, 10]), List.length_append, List.length_cons, List.length_cons, List.length_nil]; omega
    have hB2 := HW1.out.2.trans hb2
    have hws := Lib.hid (Tryz.Buffer_Write_k w.heap.size w.heap.size _ (Lib.byteCells part) ⟨b, off + a, none⟩ m m W2 hbuf2 hB2.size (by rw [← Lib.byteCells_append]; exact Lib.byteCells_one _) (by rw [Lib.byteCells_length]; exact hpl) hbw (HSV.out W2 hB2) (Lib.byteCells_one _) (by omega))
    have HW2 := Lib.hid (And.intro hB2 (And.intro hk2 (And.intro (buf_at (buf_below HBUF.out HW1.out.1)) (And.intro (buf_at hbuf2) hb2.size))))
    clear hbuf2 hb2 hk2 hB2
    gi_wp2_with fail
    refine ⟨trivial, (CallsIn.inRound l1 (callsIn_wide.2 hws.out)).mono ?_⟩
    clear hws
    rintro e W3 ⟨rfl, hbuf3, hb3, hk3⟩
    have hB3 := HW2.out.1.trans hb3
    have hws := Lib.hid (Tryz.Buffer_WriteString_k w.heap.size w.heap.size _ ⟨#[13, 10]⟩ W3 hbuf3 hB3.size (by rw [← Lib.byteCells_append, ← Lib.byteCells_append]; exact Lib.byteCells_one _) (by rw [List.length_append, Lib.byteCells_length part, hpl]; show _ + 2 ≤ _; omega))
    have HW3 := Lib.hid (And.intro hB3 (And.intro hk3 (And.intro (buf_at hbuf3) hb3.size)))
    clear hbuf3 hb3 hk3 hB3
    gi_wp2_with fail
    refine ⟨trivial, (CallsIn.inRound l1 (callsIn_wide.2 hws.out)).mono ?_⟩
    clear hws
    rintro e W4 ⟨rfl, hbuf4, hb4, hk4⟩
    have hB4 := HW3.out.1.trans hb4
    have HW4 := Lib.hid (And.intro hB4 (And.intro hk4 (And.intro hbuf4 hb4.size)))
    clear hbuf4 hb4 hk4 hB4
    gi_wp2_with fail
    obtain ⟨hW1, _⟩ := HW1.out
    obtain ⟨_, hk2, ha1, ha2, hz2⟩ := HW2.out
    obtain ⟨_, hk3, ha3, hz3⟩ := HW3.out
    obtain ⟨hB4, hk4, hbuf4, hz4⟩ := HW4.out
    have hk := (hk2.trans hk3).trans hk4
    have bA := blk_kept (HBA.out.1.below hW1 HBA.out.1.lt) hk (by omega) (by decide)
    have bN := blk_kept (HBA.out.2.below hW1 HBA.out.2.lt) hk (by omega) (by decide)
    refine ⟨(keepsFrom_below hW1 _).trans (keepsFrom_kept hk ha1 (by omega) _), ⟨(bA.cell 0).trans (HBA.out.1.cell 0).symm, (bN.cell 0).trans (HBA.out.2.cell 0).symm⟩, ⟨?_, bA, bN⟩, hB4⟩
    rw [List.flatMap_append, List.flatMap_cons, List.flatMap_nil, List.append_nil, HX.out]
    simpa only [Lib.byteCells_append, List.append_assoc] using hbuf4
  case done =>
    rintro D ys W hD ⟨m, hys, hnm⟩ ⟨⟨hbuf, hbA, hbN⟩, hB⟩ hK
    have hmn : m = 0 ∨ (m - 1) * size < n := by
      rcases Nat.eq_zero_or_pos m with h0 | h0
      · exact .inl h0
      · right
        have h1 : m - 1 ∈ ys.map (·.1) := by rw [hys]; simp; omega
        obtain ⟨y, _, hy⟩ := List.mem_map.1 h1
        rw [← hy]; exact y.2
    have hfl : (ys.flatMap fun x => chunkT size l x.1) = (List.range m).flatMap (chunkT size l) := by
      rw [← hys, List.flatMap_map]
    rw [hfl] at hbuf
    have hm65 : m ≤ 65536 := by
      rcases hmn with rfl | h0
      · omega
      · have : m - 1 ≤ (m - 1) * size := Nat.le_mul_of_pos_right _ hs1
        omega
    have hbl : ((List.range m).flatMap (chunkT size l)).length ≤ m * 70000 := by
      have := flat_len (chunkT size l) 70000 (fun x => chunkT_len size l x hs2) (List.range m)
      rwa [List.length_range] at this
    have hws := Lib.hid (Tryz.Buffer_WriteString_k w.heap.size w.heap.size _ ⟨#[48, 13, 10, 13, 10]⟩ W hbuf hB.size (Lib.byteCells_one _) (by rw [Lib.byteCells_length]; show _ + 5 ≤ _; omega))
    have HB := Lib.hid hB
    have HK := Lib.hid hK
    have HM := Lib.hid (And.intro hnm hmn)
    clear hbuf hbA hbN hB hK hys hnm hmn hbl hfl hA hL ht hA0 hN0 hB0
    gi_wp2_with fail
    refine ⟨trivial, (callsIn_wide.2 hws.out).mono ?_⟩
    clear hws
    rintro e W2 ⟨rfl, hbuf2, hb2, hk2⟩
    rw [show Lib.byteCells ((List.range m).flatMap (chunkT size l)) ++ Lib.byteCells (⟨#[48, 13, 10, 13, 10]⟩ : ByteArray).data.toList = Lib.byteCells ((List.range m).flatMap (chunkT size l) ++ [48, 13, 10, 13, 10]) from (Lib.byteCells_append _ _).symm] at hbuf2
    have hws := Lib.hid (Tryz.Buffer_Bytes w.heap.size w.heap.size _ W2 hbuf2)
    have HK2 := Lib.hid (hk2 D _ HK.out (fun e => by injection e with e; omega) (fun c fz e => by cases e))
    have HB2 := Lib.hid (HB.out.trans hb2)
    clear hbuf2 hb2 hk2
    gi_wp2_with fail
    refine ⟨trivial, (callsIn_wide.2 hws.out).mono ?_⟩
    clear hws
    rintro e W3 ⟨v, rfl, hrow, q, rfl⟩
    gi_wp2_with fail
    have hK : (W2.drewN q).heap[D]? = some (.deferred (some [])) := HK2.out
    have hB2 : Below w.heap.size w (W2.drewN q) := below_drewN HB2.out q
    refine ⟨by simp, .inl ⟨_, _, rfl, run_takeDeferred hK, ?_⟩⟩
    refine ⟨_, results_tmp2 (h := rfl) _ _ _, v, m, rfl, HM.out.1, HM.out.2, ?_, hB2.trans (belowK_b (w := w) (Nat.le_refl _) _ D _ _ (by omega) hK rfl rfl)⟩
    rw [Lib.byteCells_length] at hrow
    exact ownsRow_putObj hrow _ hK rfl
  case stop =>
    rintro D c pre W _ _ h _
    exact h.elim
end Go.Proofs.YtonlfplloenfcaaGreatDoor
