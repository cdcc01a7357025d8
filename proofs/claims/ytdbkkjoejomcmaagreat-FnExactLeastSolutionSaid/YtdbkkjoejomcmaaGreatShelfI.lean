/-
  DERIVED: THE SHELF's CONTRACTS AT THIS DUMP, IN PLAIN WORDS (tools/lay-plain.mjs out of 'YtdbkkjoejomcmaaGreatShelfIA.lean', which tools/lay-shelf.mjs wrote): THE SAME DECLARATIONS UNDER THE SAME NAMES: 'import', 'namespace', 'open', 'def', 'theorem' AND NOTHING ELSE: no command of the shelf's: FOR A HAND-IN. Each laying: the table of numbers ('.._ren') and one theorem, a field a fact of the dump's own or the kernel's comparison; each contract: ONE APPLICATION.
-/
import Derived.Shelf.SortG.Plain
import Derived.Shelf.SortG.SortNone
import Derived.Shelf.SlGeneric
import Derived.Ground.SlgnProg
import Derived.Test.YtdbkkjoejomcmaaGreatProg
namespace Go.Proofs
open Go.Shelf
def Tryz.sortInts_ren : Go.Shelf.Ren := ⟨fun | 53 => 153 | 64 => 186 | 63 => 194 | 78 => 219 | 79 => 220 | 70 => 222 | 71 => 223 | 72 => 224 | 73 => 225 | 74 => 226 | 75 => 227 | 59 => 228 | 76 => 229 | 77 => 230 | 88 => 242 | 89 => 238 | 90 => 239 | 91 => 243 | 92 => 244 | 68 => 221 | 96 => 257 | n => n, fun | 22 => 29 | 23 => 2 | 3 => 3 | 51 => 162 | 0 => 0 | 67 => 188 | 69 => 190 | 4 => 4 | 61 => 182 | 60 => 181 | 44 => 157 | 5 => 5 | 9 => 9 | 75 => 201 | 79 => 205 | 83 => 216 | 84 => 217 | n => n, fun | n => n⟩
theorem Tryz.sortInts : Go.Proofs.SlLaysN.n53 Tryz.prog Tryz.sortInts_ren := {
  mixed := by kernel_rfl
  f53 := ⟨Tryz.f153.name, by decide, Tryz.func153.trans (congrArg some (by kernel_rfl))⟩
  f59 := ⟨Tryz.f228.name, by decide, Tryz.func228.trans (congrArg some (by kernel_rfl))⟩
  f63 := ⟨Tryz.f194.name, by decide, Tryz.func194.trans (congrArg some (by kernel_rfl))⟩
  f64 := Tryz.func186.trans (congrArg some (by kernel_rfl))
  f68 := ⟨Tryz.f221.name, by decide, Tryz.func221.trans (congrArg some (by kernel_rfl))⟩
  f70 := ⟨Tryz.f222.name, by decide, Tryz.func222.trans (congrArg some (by kernel_rfl))⟩
  f71 := ⟨Tryz.f223.name, by decide, Tryz.func223.trans (congrArg some (by kernel_rfl))⟩
  f72 := ⟨Tryz.f224.name, by decide, Tryz.func224.trans (congrArg some (by kernel_rfl))⟩
  f73 := ⟨Tryz.f225.name, by decide, Tryz.func225.trans (congrArg some (by kernel_rfl))⟩
  f74 := ⟨Tryz.f226.name, by decide, Tryz.func226.trans (congrArg some (by kernel_rfl))⟩
  f75 := ⟨Tryz.f227.name, by decide, Tryz.func227.trans (congrArg some (by kernel_rfl))⟩
  f76 := ⟨Tryz.f229.name, by decide, Tryz.func229.trans (congrArg some (by kernel_rfl))⟩
  f77 := ⟨Tryz.f230.name, by decide, Tryz.func230.trans (congrArg some (by kernel_rfl))⟩
  f78 := Tryz.func219.trans (congrArg some (by kernel_rfl))
  f79 := Tryz.func220.trans (congrArg some (by kernel_rfl))
  f88 := ⟨Tryz.f242.name, by decide, Tryz.func242.trans (congrArg some (by kernel_rfl))⟩
  f89 := Tryz.func238.trans (congrArg some (by kernel_rfl))
  f90 := Tryz.func239.trans (congrArg some (by kernel_rfl))
  f91 := ⟨Tryz.f243.name, by decide, Tryz.func243.trans (congrArg some (by kernel_rfl))⟩
  f92 := ⟨Tryz.f244.name, by decide, Tryz.func244.trans (congrArg some (by kernel_rfl))⟩
  f96 := ⟨Tryz.f257.name, by decide, Tryz.func257.trans (congrArg some (by kernel_rfl))⟩
  t0 := Tryz.underlying0
  a0 := Tryz.isAgg0
  z0 := Tryz.sizeOf0
  v0 := Tryz.zeroValue0
  t3 := Tryz.underlying3
  a3 := Tryz.isAgg3
  z3 := Tryz.sizeOf3
  v3 := Tryz.zeroValue3
  t4 := Tryz.underlying4
  a4 := Tryz.isAgg4
  z4 := Tryz.sizeOf4
  v4 := Tryz.zeroValue4
  t5 := Tryz.underlying5
  a5 := Tryz.isAgg5
  z5 := Tryz.sizeOf5
  v5 := Tryz.zeroValue5
  t9 := Tryz.underlying9
  a9 := Tryz.isAgg9
  z9 := Tryz.sizeOf9
  v9 := Tryz.zeroValue9
  t22 := Tryz.underlying29
  a22 := Tryz.isAgg29
  z22 := Tryz.sizeOf29
  v22 := Tryz.zeroValue29
  t23 := Tryz.underlying2
  a23 := Tryz.isAgg2
  z23 := Tryz.sizeOf2
  v23 := Tryz.zeroValue2
  t44 := Tryz.underlying157
  a44 := Tryz.isAgg157
  z44 := Tryz.sizeOf157
  v44 := Tryz.zeroValue157
  t51 := Tryz.underlying162
  a51 := Tryz.isAgg162
  z51 := Tryz.sizeOf162
  v51 := Tryz.zeroValue162
  t60 := Tryz.underlying181
  a60 := Tryz.isAgg181
  z60 := Tryz.sizeOf181
  v60 := Tryz.zeroValue181
  t61 := Tryz.underlying182
  a61 := Tryz.isAgg182
  z61 := Tryz.sizeOf182
  v61 := Tryz.zeroValue182
  t67 := Tryz.underlying188
  a67 := Tryz.isAgg188
  z67 := Tryz.sizeOf188
  v67 := Tryz.zeroValue188
  t69 := Tryz.underlying190
  a69 := Tryz.isAgg190
  z69 := Tryz.sizeOf190
  v69 := Tryz.zeroValue190
  t75 := Tryz.underlying201
  a75 := Tryz.isAgg201
  z75 := Tryz.sizeOf201
  v75 := Tryz.zeroValue201
  t79 := Tryz.underlying205
  a79 := Tryz.isAgg205
  z79 := Tryz.sizeOf205
  v79 := Tryz.zeroValue205
  t83 := Tryz.underlying216
  a83 := Tryz.isAgg216
  z83 := Tryz.sizeOf216
  v83 := Tryz.zeroValue216
  t84 := Tryz.underlying217
  a84 := Tryz.isAgg217
  z84 := Tryz.sizeOf217
  v84 := Tryz.zeroValue217 }
end Go.Proofs
