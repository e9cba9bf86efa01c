/-
  Summaries of the library's functions, laid at this seat's numbers by the kit's own tool, cut down to those that are used.
-/
import Derived.Shelf.Bytes.BufferK
import Derived.Shelf.LaysM
import Derived.Test.YtonlfplloenfcaaGreatDoorProg
namespace Go.Proofs
open Go.Shelf
def Tryz.laysM180_ren : Go.Shelf.Ren := ⟨fun | 180 => 132 | 251 => 148 | 252 => 149 | 181 => 73 | 184 => 208 | 290 => 209 | 324 => 234 | n => n, fun | 130 => 169 | 37 => 23 | 3 => 3 | 75 => 116 | 0 => 0 | 93 => 114 | 91 => 112 | 131 => 138 | 4 => 4 | 20 => 20 | 5 => 5 | 80 => 235 | 9 => 9 | n => n, fun | 14 => 0 | n => n⟩
theorem Tryz.laysM180 : Go.Proofs.LaysM.n180 Tryz.prog Tryz.laysM180_ren := {
  mixed := by kernel_rfl
  f180 := Tryz.func132.trans (congrArg some (by kernel_rfl))
  f181 := Tryz.func73.trans (congrArg some (by kernel_rfl))
  f184 := Tryz.func208.trans (congrArg some (by kernel_rfl))
  f251 := Tryz.func148.trans (congrArg some (by kernel_rfl))
  f252 := Tryz.func149.trans (congrArg some (by kernel_rfl))
  f290 := Tryz.func209.trans (congrArg some (by kernel_rfl))
  f324 := Tryz.func234.trans (congrArg some (by kernel_rfl))
  t0 := Tryz.underlying0
  a0 := Tryz.isAgg0
  z0 := Tryz.sizeOf0
  v0 := Tryz.zeroValue0
  t3 := Tryz.underlying3
  a3 := Tryz.isAgg3
  z3 := Tryz.sizeOf3
  v3 := Tryz.zeroValue3
  t4 := Tryz.underlying4
  a4 := Tryz.isAgg4
  z4 := Tryz.sizeOf4
  v4 := Tryz.zeroValue4
  t20 := Tryz.underlying20
  a20 := Tryz.isAgg20
  z20 := Tryz.sizeOf20
  v20 := Tryz.zeroValue20
  t37 := Tryz.underlying23
  a37 := Tryz.isAgg23
  z37 := Tryz.sizeOf23
  v37 := Tryz.zeroValue23
  t75 := Tryz.underlying116
  a75 := Tryz.isAgg116
  z75 := Tryz.sizeOf116
  v75 := Tryz.zeroValue116
  t91 := Tryz.underlying112
  a91 := Tryz.isAgg112
  z91 := Tryz.sizeOf112
  v91 := Tryz.zeroValue112
  t93 := Tryz.underlying114
  a93 := Tryz.isAgg114
  z93 := Tryz.sizeOf114
  v93 := Tryz.zeroValue114
  t130 := Tryz.underlying169
  a130 := Tryz.isAgg169
  z130 := Tryz.sizeOf169
  v130 := Tryz.zeroValue169
  t131 := Tryz.underlying138
  a131 := Tryz.isAgg138
  z131 := Tryz.sizeOf138
  v131 := Tryz.zeroValue138
  g14 := by kernel_rfl
  t5 := Tryz.underlying5
  a5 := Tryz.isAgg5
  z5 := Tryz.sizeOf5
  v5 := Tryz.zeroValue5
  t9 := Tryz.underlying9
  a9 := Tryz.isAgg9
  z9 := Tryz.sizeOf9
  v9 := Tryz.zeroValue9
  t80 := Tryz.underlying235
  a80 := Tryz.isAgg235
  z80 := Tryz.sizeOf235
  v80 := Tryz.zeroValue235
  i0 := by kernel_rfl
  i3 := by kernel_rfl
  i4 := by kernel_rfl
  i5 := by kernel_rfl
  i9 := by kernel_rfl
  i20 := by kernel_rfl
  i37 := by kernel_rfl
  i75 := by kernel_rfl
  i80 := by kernel_rfl
  i91 := by kernel_rfl
  i93 := by kernel_rfl
  i130 := by kernel_rfl
  i131 := by kernel_rfl
  m14 := by kernel_rfl }
open Go.RowKit in
theorem Tryz.Buffer_Write_k (B b : Nat) (bs cs : List Value) (a : Addr) (n c : Nat) (w : World) (h : Lib.IsBuffer 114 5 B b bs w) (hBw : B ≤ w.heap.size) (h1 : ∀ v ∈ bs, v.oneCell' = true) (hn : cs.length = n) (haB : a.block < B) (hsrc : ∀ j v, cs[j]? = some v → w.cell? (a.add j) = some v) (h1c : ∀ v ∈ cs, v.oneCell' = true) (hlim : bs.length + n ≤ 140737488355328) :
    Calls Tryz.prog 132 #[.pointer (some ⟨b, 0, none⟩), .slice (some a) n c] w fun e w' => e = .returned (.tuple #[.int .i64 n, .nilIface]) ∧ Lib.IsBuffer 114 5 B b (bs ++ cs) w' ∧ Below B w w' ∧ Lib.OthersKept 5 (some b) w w' := Any.Buffer_Write_k Tryz.laysM180 B b bs cs a n c w h hBw h1 hn haB hsrc h1c hlim
end Go.Proofs
