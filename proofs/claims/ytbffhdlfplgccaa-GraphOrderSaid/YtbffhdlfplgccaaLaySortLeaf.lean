/-
  The library's slices.SortFunc, laid at this program: written by lay-plain.mjs of the kit.
-/
import Derived.Shelf.SlGeneric
import Derived.Shelf.SlSortCmp.NoneTotal
import Derived.Ground.SlsfProg
import Derived.Test.YtbffhdlfplgccaaProg
namespace Go.Proofs
open Go.Shelf
def Try.sortLeaf_ren : Go.Shelf.Ren := ⟨fun | 6 => 91 | 15 => 104 | 14 => 118 | 28 => 133 | 29 => 134 | 20 => 147 | 21 => 148 | 22 => 149 | 23 => 150 | 24 => 151 | 25 => 152 | 26 => 153 | 27 => 154 | 46 => 182 | 47 => 159 | 48 => 160 | 49 => 183 | 50 => 184 | 57 => 194 | n => n, fun | 22 => 85 | 24 => 141 | 25 => 148 | 3 => 3 | 39 => 143 | 0 => 0 | 53 => 184 | 55 => 186 | 4 => 4 | 46 => 178 | 45 => 177 | 50 => 109 | 5 => 5 | 9 => 9 | 66 => 204 | 70 => 208 | 76 => 224 | 77 => 201 | n => n, fun | n => n⟩
theorem Try.sortLeaf : Go.Proofs.SlLaysF0.n6 Try.prog Try.sortLeaf_ren := {
  mixed := by kernel_rfl
  f6 := ⟨Try.f91.name, by decide, Try.func91.trans (congrArg some (by kernel_rfl))⟩
  f14 := ⟨Try.f118.name, by decide, Try.func118.trans (congrArg some (by kernel_rfl))⟩
  f15 := Try.func104.trans (congrArg some (by kernel_rfl))
  f20 := ⟨Try.f147.name, by decide, Try.func147.trans (congrArg some (by kernel_rfl))⟩
  f21 := ⟨Try.f148.name, by decide, Try.func148.trans (congrArg some (by kernel_rfl))⟩
  f22 := ⟨Try.f149.name, by decide, Try.func149.trans (congrArg some (by kernel_rfl))⟩
  f23 := ⟨Try.f150.name, by decide, Try.func150.trans (congrArg some (by kernel_rfl))⟩
  f24 := ⟨Try.f151.name, by decide, Try.func151.trans (congrArg some (by kernel_rfl))⟩
  f25 := ⟨Try.f152.name, by decide, Try.func152.trans (congrArg some (by kernel_rfl))⟩
  f26 := ⟨Try.f153.name, by decide, Try.func153.trans (congrArg some (by kernel_rfl))⟩
  f27 := ⟨Try.f154.name, by decide, Try.func154.trans (congrArg some (by kernel_rfl))⟩
  f28 := Try.func133.trans (congrArg some (by kernel_rfl))
  f29 := Try.func134.trans (congrArg some (by kernel_rfl))
  f46 := ⟨Try.f182.name, by decide, Try.func182.trans (congrArg some (by kernel_rfl))⟩
  f47 := Try.func159.trans (congrArg some (by kernel_rfl))
  f48 := Try.func160.trans (congrArg some (by kernel_rfl))
  f49 := ⟨Try.f183.name, by decide, Try.func183.trans (congrArg some (by kernel_rfl))⟩
  f50 := ⟨Try.f184.name, by decide, Try.func184.trans (congrArg some (by kernel_rfl))⟩
  f57 := ⟨Try.f194.name, by decide, Try.func194.trans (congrArg some (by kernel_rfl))⟩
  t0 := Try.underlying0
  a0 := Try.isAgg0
  z0 := Try.sizeOf0
  v0 := Try.zeroValue0
  t3 := Try.underlying3
  a3 := Try.isAgg3
  z3 := Try.sizeOf3
  v3 := Try.zeroValue3
  t4 := Try.underlying4
  a4 := Try.isAgg4
  z4 := Try.sizeOf4
  v4 := Try.zeroValue4
  t5 := Try.underlying5
  a5 := Try.isAgg5
  z5 := Try.sizeOf5
  v5 := Try.zeroValue5
  t9 := Try.underlying9
  a9 := Try.isAgg9
  z9 := Try.sizeOf9
  v9 := Try.zeroValue9
  t22 := Try.underlying85
  a22 := Try.isAgg85
  z22 := Try.sizeOf85
  v22 := Try.zeroValue85
  t25 := Try.underlying148
  a25 := Try.isAgg148
  z25 := Try.sizeOf148
  v25 := Try.zeroValue148
  t39 := Try.underlying143
  a39 := Try.isAgg143
  z39 := Try.sizeOf143
  v39 := Try.zeroValue143
  t45 := Try.underlying177
  a45 := Try.isAgg177
  z45 := Try.sizeOf177
  v45 := Try.zeroValue177
  t46 := Try.underlying178
  a46 := Try.isAgg178
  z46 := Try.sizeOf178
  v46 := Try.zeroValue178
  t50 := Try.underlying109
  a50 := Try.isAgg109
  z50 := Try.sizeOf109
  v50 := Try.zeroValue109
  t53 := Try.underlying184
  a53 := Try.isAgg184
  z53 := Try.sizeOf184
  v53 := Try.zeroValue184
  t55 := Try.underlying186
  a55 := Try.isAgg186
  z55 := Try.sizeOf186
  v55 := Try.zeroValue186
  t66 := Try.underlying204
  a66 := Try.isAgg204
  z66 := Try.sizeOf204
  v66 := Try.zeroValue204
  t70 := Try.underlying208
  a70 := Try.isAgg208
  z70 := Try.sizeOf208
  v70 := Try.zeroValue208
  t76 := Try.underlying224
  a76 := Try.isAgg224
  z76 := Try.sizeOf224
  v76 := Try.zeroValue224
  t77 := Try.underlying201
  a77 := Try.isAgg201
  z77 := Try.sizeOf201
  v77 := Try.zeroValue201 }
end Go.Proofs
