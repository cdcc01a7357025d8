/-
  DERIVED: THE SHELF's CONTRACTS AT THIS DUMP, IN PLAIN WORDS (tools/lay-plain.mjs out of 'YtmglpcdalechfaaGreatShelfIA.lean', which tools/lay-shelf.mjs wrote): THE SAME DECLARATIONS UNDER THE SAME NAMES: 'import', 'namespace', 'open', 'def', 'theorem' AND NOTHING ELSE: no command of the shelf's: FOR A HAND-IN. Each laying: the table of numbers ('.._ren') and one theorem, a field a fact of the dump's own or the kernel's comparison; each contract: ONE APPLICATION.
-/
import Derived.Shelf.SortG.Plain
import Derived.Shelf.SortG.SortNone
import Derived.Shelf.SlGeneric
import Derived.Ground.SlgnProg
import Derived.Test.YtmglpcdalechfaaGreatProg
namespace Go.Proofs
open Go.Shelf
def Tryz.sortInts_ren : Go.Shelf.Ren := ⟨fun | 53 => 151 | 64 => 193 | 63 => 204 | 78 => 245 | 79 => 246 | 70 => 251 | 71 => 252 | 72 => 253 | 73 => 254 | 74 => 255 | 75 => 256 | 59 => 257 | 76 => 258 | 77 => 259 | 88 => 291 | 89 => 286 | 90 => 287 | 91 => 292 | 92 => 293 | 68 => 271 | 96 => 304 | n => n, fun | 22 => 42 | 23 => 2 | 3 => 3 | 51 => 202 | 0 => 0 | 67 => 251 | 69 => 253 | 4 => 4 | 61 => 245 | 60 => 244 | 44 => 213 | 5 => 5 | 9 => 9 | 75 => 279 | 79 => 283 | 83 => 296 | 84 => 297 | n => n, fun | n => n⟩
theorem Tryz.sortInts : Go.Proofs.SlLaysN.n53 Tryz.prog Tryz.sortInts_ren := {
  mixed := by kernel_rfl
  f53 := ⟨Tryz.f151.name, by decide, Tryz.func151.trans (congrArg some (by kernel_rfl))⟩
  f59 := ⟨Tryz.f257.name, by decide, Tryz.func257.trans (congrArg some (by kernel_rfl))⟩
  f63 := ⟨Tryz.f204.name, by decide, Tryz.func204.trans (congrArg some (by kernel_rfl))⟩
  f64 := Tryz.func193.trans (congrArg some (by kernel_rfl))
  f68 := ⟨Tryz.f271.name, by decide, Tryz.func271.trans (congrArg some (by kernel_rfl))⟩
  f70 := ⟨Tryz.f251.name, by decide, Tryz.func251.trans (congrArg some (by kernel_rfl))⟩
  f71 := ⟨Tryz.f252.name, by decide, Tryz.func252.trans (congrArg some (by kernel_rfl))⟩
  f72 := ⟨Tryz.f253.name, by decide, Tryz.func253.trans (congrArg some (by kernel_rfl))⟩
  f73 := ⟨Tryz.f254.name, by decide, Tryz.func254.trans (congrArg some (by kernel_rfl))⟩
  f74 := ⟨Tryz.f255.name, by decide, Tryz.func255.trans (congrArg some (by kernel_rfl))⟩
  f75 := ⟨Tryz.f256.name, by decide, Tryz.func256.trans (congrArg some (by kernel_rfl))⟩
  f76 := ⟨Tryz.f258.name, by decide, Tryz.func258.trans (congrArg some (by kernel_rfl))⟩
  f77 := ⟨Tryz.f259.name, by decide, Tryz.func259.trans (congrArg some (by kernel_rfl))⟩
  f78 := Tryz.func245.trans (congrArg some (by kernel_rfl))
  f79 := Tryz.func246.trans (congrArg some (by kernel_rfl))
  f88 := ⟨Tryz.f291.name, by decide, Tryz.func291.trans (congrArg some (by kernel_rfl))⟩
  f89 := Tryz.func286.trans (congrArg some (by kernel_rfl))
  f90 := Tryz.func287.trans (congrArg some (by kernel_rfl))
  f91 := ⟨Tryz.f292.name, by decide, Tryz.func292.trans (congrArg some (by kernel_rfl))⟩
  f92 := ⟨Tryz.f293.name, by decide, Tryz.func293.trans (congrArg some (by kernel_rfl))⟩
  f96 := ⟨Tryz.f304.name, by decide, Tryz.func304.trans (congrArg some (by kernel_rfl))⟩
  t0 := Tryz.underlying0
  a0 := Tryz.isAgg0
  z0 := Tryz.sizeOf0
  v0 := Tryz.zeroValue0
  t3 := Tryz.underlying3
  a3 := Tryz.isAgg3
  z3 := Tryz.sizeOf3
  v3 := Tryz.zeroValue3
  t4 := Tryz.underlying4
  a4 := Tryz.isAgg4
  z4 := Tryz.sizeOf4
  v4 := Tryz.zeroValue4
  t5 := Tryz.underlying5
  a5 := Tryz.isAgg5
  z5 := Tryz.sizeOf5
  v5 := Tryz.zeroValue5
  t9 := Tryz.underlying9
  a9 := Tryz.isAgg9
  z9 := Tryz.sizeOf9
  v9 := Tryz.zeroValue9
  t22 := Tryz.underlying42
  a22 := Tryz.isAgg42
  z22 := Tryz.sizeOf42
  v22 := Tryz.zeroValue42
  t23 := Tryz.underlying2
  a23 := Tryz.isAgg2
  z23 := Tryz.sizeOf2
  v23 := Tryz.zeroValue2
  t44 := Tryz.underlying213
  a44 := Tryz.isAgg213
  z44 := Tryz.sizeOf213
  v44 := Tryz.zeroValue213
  t51 := Tryz.underlying202
  a51 := Tryz.isAgg202
  z51 := Tryz.sizeOf202
  v51 := Tryz.zeroValue202
  t60 := Tryz.underlying244
  a60 := Tryz.isAgg244
  z60 := Tryz.sizeOf244
  v60 := Tryz.zeroValue244
  t61 := Tryz.underlying245
  a61 := Tryz.isAgg245
  z61 := Tryz.sizeOf245
  v61 := Tryz.zeroValue245
  t67 := Tryz.underlying251
  a67 := Tryz.isAgg251
  z67 := Tryz.sizeOf251
  v67 := Tryz.zeroValue251
  t69 := Tryz.underlying253
  a69 := Tryz.isAgg253
  z69 := Tryz.sizeOf253
  v69 := Tryz.zeroValue253
  t75 := Tryz.underlying279
  a75 := Tryz.isAgg279
  z75 := Tryz.sizeOf279
  v75 := Tryz.zeroValue279
  t79 := Tryz.underlying283
  a79 := Tryz.isAgg283
  z79 := Tryz.sizeOf283
  v79 := Tryz.zeroValue283
  t83 := Tryz.underlying296
  a83 := Tryz.isAgg296
  z83 := Tryz.sizeOf296
  v83 := Tryz.zeroValue296
  t84 := Tryz.underlying297
  a84 := Tryz.isAgg297
  z84 := Tryz.sizeOf297
  v84 := Tryz.zeroValue297 }
end Go.Proofs
