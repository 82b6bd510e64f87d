/-
  The library's slices.insertionSortCmpFunc, laid at this program: written by lay-plain.mjs of the kit.
-/
import Derived.Shelf.SlGeneric
import Derived.Shelf.SlSortCmp.InsertionK
import Derived.Ground.SlsfProg
import Derived.Test.YtpnbibokddhheaaProg
namespace Go.Proofs
open Go.Shelf
def Try.insHead_ren : Go.Shelf.Ren := ⟨fun | 20 => 93 | n => n, fun | 24 => 34 | 22 => 27 | 3 => 3 | 25 => 87 | 4 => 4 | 0 => 0 | n => n, fun | n => n⟩
theorem Try.insHead : Go.Proofs.SlLaysF0.n20 Try.prog Try.insHead_ren := {
  mixed := by kernel_rfl
  f20 := ⟨Try.f93.name, by decide, Try.func93.trans (congrArg some (by kernel_rfl))⟩
  t0 := Try.underlying0
  a0 := Try.isAgg0
  z0 := Try.sizeOf0
  v0 := Try.zeroValue0
  t3 := Try.underlying3
  a3 := Try.isAgg3
  z3 := Try.sizeOf3
  v3 := Try.zeroValue3
  t4 := Try.underlying4
  a4 := Try.isAgg4
  z4 := Try.sizeOf4
  v4 := Try.zeroValue4
  t22 := Try.underlying27
  a22 := Try.isAgg27
  z22 := Try.sizeOf27
  v22 := Try.zeroValue27
  t25 := Try.underlying87
  a25 := Try.isAgg87
  z25 := Try.sizeOf87
  v25 := Try.zeroValue87 }
end Go.Proofs
