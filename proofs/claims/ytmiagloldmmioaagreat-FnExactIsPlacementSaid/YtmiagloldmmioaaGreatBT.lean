/- Facts of the program's types. No condition. -/
import Derived.Test.YtmiagloldmmioaaGreatBigS
import Derived.Test.YtmiagloldmmioaaGreatProg
set_option linter.unusedVariables false
set_option linter.unusedSimpArgs false
open Go Go.Big
namespace Go.Proofs.BT
theorem z2 : sz? Tryz.prog 2 = some 1 := by kernel_rfl
theorem g2 : agg? Tryz.prog 2 = some false := by kernel_rfl
theorem i2 : Tryz.prog.info? 2 = some Tryz.t2 := by kernel_rfl
theorem s2 : Tryz.t2.size = 1 := by kernel_rfl
theorem b2 : Tryz.t2.bytes = 8 := by kernel_rfl
theorem n2 : zeroA Tryz.prog 2 = some [.i .i64 0] := by kernel_rfl
theorem z3 : sz? Tryz.prog 3 = some 1 := by kernel_rfl
theorem g3 : agg? Tryz.prog 3 = some false := by kernel_rfl
theorem i3 : Tryz.prog.info? 3 = some Tryz.t3 := by kernel_rfl
theorem s3 : Tryz.t3.size = 1 := by kernel_rfl
theorem b3 : Tryz.t3.bytes = 8 := by kernel_rfl
theorem n3 : zeroA Tryz.prog 3 = some [.i .i64 0] := by kernel_rfl
theorem z4 : sz? Tryz.prog 4 = some 1 := by kernel_rfl
theorem g4 : agg? Tryz.prog 4 = some false := by kernel_rfl
theorem i4 : Tryz.prog.info? 4 = some Tryz.t4 := by kernel_rfl
theorem s4 : Tryz.t4.size = 1 := by kernel_rfl
theorem b4 : Tryz.t4.bytes = 1 := by kernel_rfl
theorem n4 : zeroA Tryz.prog 4 = some [.b false] := by kernel_rfl
theorem z22 : sz? Tryz.prog 22 = some 1 := by kernel_rfl
theorem g22 : agg? Tryz.prog 22 = some false := by kernel_rfl
theorem i22 : Tryz.prog.info? 22 = some Tryz.t22 := by kernel_rfl
theorem s22 : Tryz.t22.size = 1 := by kernel_rfl
theorem b22 : Tryz.t22.bytes = 24 := by kernel_rfl
theorem n22 : zeroA Tryz.prog 22 = some [.nil] := by kernel_rfl
theorem z23 : sz? Tryz.prog 23 = some 1 := by kernel_rfl
theorem g23 : agg? Tryz.prog 23 = some false := by kernel_rfl
theorem i23 : Tryz.prog.info? 23 = some Tryz.t23 := by kernel_rfl
theorem s23 : Tryz.t23.size = 1 := by kernel_rfl
theorem b23 : Tryz.t23.bytes = 24 := by kernel_rfl
theorem n23 : zeroA Tryz.prog 23 = some [.nil] := by kernel_rfl
theorem z24 : sz? Tryz.prog 24 = some 2 := by kernel_rfl
theorem g24 : agg? Tryz.prog 24 = some true := by kernel_rfl
theorem i24 : Tryz.prog.info? 24 = some Tryz.t24 := by kernel_rfl
theorem s24 : Tryz.t24.size = 2 := by kernel_rfl
theorem b24 : Tryz.t24.bytes = 48 := by kernel_rfl
theorem n24 : zeroA Tryz.prog 24 = some [.nil, .nil] := by kernel_rfl
theorem o24_0 : offA Tryz.prog 24 0 = some 0 := by kernel_rfl
theorem o24_1 : offA Tryz.prog 24 1 = some 1 := by kernel_rfl
theorem z25 : sz? Tryz.prog 25 = some 2 := by kernel_rfl
theorem g25 : agg? Tryz.prog 25 = some true := by kernel_rfl
theorem i25 : Tryz.prog.info? 25 = some Tryz.t25 := by kernel_rfl
theorem s25 : Tryz.t25.size = 2 := by kernel_rfl
theorem b25 : Tryz.t25.bytes = 48 := by kernel_rfl
theorem n25 : zeroA Tryz.prog 25 = some [.nil, .nil] := by kernel_rfl
theorem o25_0 : offA Tryz.prog 25 0 = some 0 := by kernel_rfl
theorem o25_1 : offA Tryz.prog 25 1 = some 1 := by kernel_rfl
theorem z26 : sz? Tryz.prog 26 = some 1 := by kernel_rfl
theorem g26 : agg? Tryz.prog 26 = some false := by kernel_rfl
theorem i26 : Tryz.prog.info? 26 = some Tryz.t26 := by kernel_rfl
theorem s26 : Tryz.t26.size = 1 := by kernel_rfl
theorem b26 : Tryz.t26.bytes = 24 := by kernel_rfl
theorem n26 : zeroA Tryz.prog 26 = some [.nil] := by kernel_rfl
theorem z27 : sz? Tryz.prog 27 = some 2 := by kernel_rfl
theorem g27 : agg? Tryz.prog 27 = some true := by kernel_rfl
theorem i27 : Tryz.prog.info? 27 = some Tryz.t27 := by kernel_rfl
theorem s27 : Tryz.t27.size = 2 := by kernel_rfl
theorem b27 : Tryz.t27.bytes = 32 := by kernel_rfl
theorem n27 : zeroA Tryz.prog 27 = some [.i .i64 0, .nil] := by kernel_rfl
theorem o27_0 : offA Tryz.prog 27 0 = some 0 := by kernel_rfl
theorem o27_1 : offA Tryz.prog 27 1 = some 1 := by kernel_rfl
theorem z28 : sz? Tryz.prog 28 = some 2 := by kernel_rfl
theorem g28 : agg? Tryz.prog 28 = some true := by kernel_rfl
theorem i28 : Tryz.prog.info? 28 = some Tryz.t28 := by kernel_rfl
theorem s28 : Tryz.t28.size = 2 := by kernel_rfl
theorem b28 : Tryz.t28.bytes = 32 := by kernel_rfl
theorem n28 : zeroA Tryz.prog 28 = some [.i .i64 0, .nil] := by kernel_rfl
theorem o28_0 : offA Tryz.prog 28 0 = some 0 := by kernel_rfl
theorem o28_1 : offA Tryz.prog 28 1 = some 1 := by kernel_rfl
theorem z32 : sz? Tryz.prog 32 = some 1 := by kernel_rfl
theorem g32 : agg? Tryz.prog 32 = some false := by kernel_rfl
theorem i32 : Tryz.prog.info? 32 = some Tryz.t32 := by kernel_rfl
theorem s32 : Tryz.t32.size = 1 := by kernel_rfl
theorem b32 : Tryz.t32.bytes = 24 := by kernel_rfl
theorem n32 : zeroA Tryz.prog 32 = some [.nil] := by kernel_rfl
theorem z33 : sz? Tryz.prog 33 = some 1 := by kernel_rfl
theorem g33 : agg? Tryz.prog 33 = some false := by kernel_rfl
theorem i33 : Tryz.prog.info? 33 = some Tryz.t33 := by kernel_rfl
theorem s33 : Tryz.t33.size = 1 := by kernel_rfl
theorem b33 : Tryz.t33.bytes = 24 := by kernel_rfl
theorem n33 : zeroA Tryz.prog 33 = some [.nil] := by kernel_rfl
theorem z34 : sz? Tryz.prog 34 = some 2 := by kernel_rfl
theorem g34 : agg? Tryz.prog 34 = some true := by kernel_rfl
theorem i34 : Tryz.prog.info? 34 = some Tryz.t34 := by kernel_rfl
theorem s34 : Tryz.t34.size = 2 := by kernel_rfl
theorem b34 : Tryz.t34.bytes = 48 := by kernel_rfl
theorem n34 : zeroA Tryz.prog 34 = some [.nil, .nil] := by kernel_rfl
theorem o34_0 : offA Tryz.prog 34 0 = some 0 := by kernel_rfl
theorem o34_1 : offA Tryz.prog 34 1 = some 1 := by kernel_rfl
theorem z35 : sz? Tryz.prog 35 = some 2 := by kernel_rfl
theorem g35 : agg? Tryz.prog 35 = some true := by kernel_rfl
theorem i35 : Tryz.prog.info? 35 = some Tryz.t35 := by kernel_rfl
theorem s35 : Tryz.t35.size = 2 := by kernel_rfl
theorem b35 : Tryz.t35.bytes = 48 := by kernel_rfl
theorem n35 : zeroA Tryz.prog 35 = some [.nil, .nil] := by kernel_rfl
theorem o35_0 : offA Tryz.prog 35 0 = some 0 := by kernel_rfl
theorem o35_1 : offA Tryz.prog 35 1 = some 1 := by kernel_rfl
theorem z37 : sz? Tryz.prog 37 = some 2 := by kernel_rfl
theorem g37 : agg? Tryz.prog 37 = some true := by kernel_rfl
theorem i37 : Tryz.prog.info? 37 = some Tryz.t37 := by kernel_rfl
theorem s37 : Tryz.t37.size = 2 := by kernel_rfl
theorem b37 : Tryz.t37.bytes = 32 := by kernel_rfl
theorem n37 : zeroA Tryz.prog 37 = some [.i .i64 0, .nil] := by kernel_rfl
theorem o37_0 : offA Tryz.prog 37 0 = some 0 := by kernel_rfl
theorem o37_1 : offA Tryz.prog 37 1 = some 1 := by kernel_rfl
theorem z53 : sz? Tryz.prog 53 = some 3 := by kernel_rfl
theorem g53 : agg? Tryz.prog 53 = some true := by kernel_rfl
theorem i53 : Tryz.prog.info? 53 = some Tryz.t53 := by kernel_rfl
theorem s53 : Tryz.t53.size = 3 := by kernel_rfl
theorem b53 : Tryz.t53.bytes = 40 := by kernel_rfl
theorem n53 : zeroA Tryz.prog 53 = some [.nil, .i .i64 0, .b false] := by kernel_rfl
theorem o53_0 : offA Tryz.prog 53 0 = some 0 := by kernel_rfl
theorem o53_1 : offA Tryz.prog 53 1 = some 1 := by kernel_rfl
theorem o53_2 : offA Tryz.prog 53 2 = some 2 := by kernel_rfl
theorem z54 : sz? Tryz.prog 54 = some 3 := by kernel_rfl
theorem g54 : agg? Tryz.prog 54 = some true := by kernel_rfl
theorem i54 : Tryz.prog.info? 54 = some Tryz.t54 := by kernel_rfl
theorem s54 : Tryz.t54.size = 3 := by kernel_rfl
theorem b54 : Tryz.t54.bytes = 40 := by kernel_rfl
theorem n54 : zeroA Tryz.prog 54 = some [.nil, .i .i64 0, .b false] := by kernel_rfl
theorem o54_0 : offA Tryz.prog 54 0 = some 0 := by kernel_rfl
theorem o54_1 : offA Tryz.prog 54 1 = some 1 := by kernel_rfl
theorem o54_2 : offA Tryz.prog 54 2 = some 2 := by kernel_rfl
theorem z58 : sz? Tryz.prog 58 = some 3 := by kernel_rfl
theorem g58 : agg? Tryz.prog 58 = some true := by kernel_rfl
theorem i58 : Tryz.prog.info? 58 = some Tryz.t58 := by kernel_rfl
theorem s58 : Tryz.t58.size = 3 := by kernel_rfl
theorem b58 : Tryz.t58.bytes = 40 := by kernel_rfl
theorem n58 : zeroA Tryz.prog 58 = some [.nil, .i .i64 0, .b false] := by kernel_rfl
theorem o58_0 : offA Tryz.prog 58 0 = some 0 := by kernel_rfl
theorem o58_1 : offA Tryz.prog 58 1 = some 1 := by kernel_rfl
theorem o58_2 : offA Tryz.prog 58 2 = some 2 := by kernel_rfl
theorem z59 : sz? Tryz.prog 59 = some 3 := by kernel_rfl
theorem g59 : agg? Tryz.prog 59 = some true := by kernel_rfl
theorem i59 : Tryz.prog.info? 59 = some Tryz.t59 := by kernel_rfl
theorem s59 : Tryz.t59.size = 3 := by kernel_rfl
theorem b59 : Tryz.t59.bytes = 40 := by kernel_rfl
theorem n59 : zeroA Tryz.prog 59 = some [.nil, .i .i64 0, .b false] := by kernel_rfl
theorem o59_0 : offA Tryz.prog 59 0 = some 0 := by kernel_rfl
theorem o59_1 : offA Tryz.prog 59 1 = some 1 := by kernel_rfl
theorem o59_2 : offA Tryz.prog 59 2 = some 2 := by kernel_rfl
theorem z63 : sz? Tryz.prog 63 = some 2 := by kernel_rfl
theorem g63 : agg? Tryz.prog 63 = some true := by kernel_rfl
theorem i63 : Tryz.prog.info? 63 = some Tryz.t63 := by kernel_rfl
theorem s63 : Tryz.t63.size = 2 := by kernel_rfl
theorem b63 : Tryz.t63.bytes = 16 := by kernel_rfl
theorem n63 : zeroA Tryz.prog 63 = some [.i .i64 0, .i .i64 0] := by kernel_rfl
theorem o63_0 : offA Tryz.prog 63 0 = some 0 := by kernel_rfl
theorem o63_1 : offA Tryz.prog 63 1 = some 1 := by kernel_rfl
theorem z64 : sz? Tryz.prog 64 = some 2 := by kernel_rfl
theorem g64 : agg? Tryz.prog 64 = some true := by kernel_rfl
theorem i64 : Tryz.prog.info? 64 = some Tryz.t64 := by kernel_rfl
theorem s64 : Tryz.t64.size = 2 := by kernel_rfl
theorem b64 : Tryz.t64.bytes = 16 := by kernel_rfl
theorem n64 : zeroA Tryz.prog 64 = some [.i .i64 0, .i .i64 0] := by kernel_rfl
theorem o64_0 : offA Tryz.prog 64 0 = some 0 := by kernel_rfl
theorem o64_1 : offA Tryz.prog 64 1 = some 1 := by kernel_rfl
theorem z66 : sz? Tryz.prog 66 = some 2 := by kernel_rfl
theorem g66 : agg? Tryz.prog 66 = some true := by kernel_rfl
theorem i66 : Tryz.prog.info? 66 = some Tryz.t66 := by kernel_rfl
theorem s66 : Tryz.t66.size = 2 := by kernel_rfl
theorem b66 : Tryz.t66.bytes = 16 := by kernel_rfl
theorem n66 : zeroA Tryz.prog 66 = some [.i .i64 0, .i .i64 0] := by kernel_rfl
theorem o66_0 : offA Tryz.prog 66 0 = some 0 := by kernel_rfl
theorem o66_1 : offA Tryz.prog 66 1 = some 1 := by kernel_rfl
theorem z72 : sz? Tryz.prog 72 = some 1 := by kernel_rfl
theorem g72 : agg? Tryz.prog 72 = some false := by kernel_rfl
theorem i72 : Tryz.prog.info? 72 = some Tryz.t72 := by kernel_rfl
theorem s72 : Tryz.t72.size = 1 := by kernel_rfl
theorem b72 : Tryz.t72.bytes = 24 := by kernel_rfl
theorem n72 : zeroA Tryz.prog 72 = some [.nil] := by kernel_rfl
theorem z100 : sz? Tryz.prog 100 = some 1 := by kernel_rfl
theorem g100 : agg? Tryz.prog 100 = some false := by kernel_rfl
theorem i100 : Tryz.prog.info? 100 = some Tryz.t100 := by kernel_rfl
theorem s100 : Tryz.t100.size = 1 := by kernel_rfl
theorem b100 : Tryz.t100.bytes = 24 := by kernel_rfl
theorem n100 : zeroA Tryz.prog 100 = some [.nil] := by kernel_rfl
theorem h63 : Program.stoodInHeld Tryz.prog 63 = false := by kernel_rfl
theorem q63 : Program.eqGuardType Tryz.prog (Program.depth Tryz.prog) 63 = false := by kernel_rfl
theorem e63 (a b c d : Int) : eqAggA Tryz.prog 63 [.i .i64 a, .i .i64 b] [.i .i64 c, .i .i64 d] = some ((a == c) && (b == d)) := by
  unfold eqAggA; rw [Tryz.underlying63]; simp [h63, q63, eqFieldsA, eqScal, Tryz.underlying2, Tryz.underlying3]
theorem h64 : Program.stoodInHeld Tryz.prog 64 = false := by kernel_rfl
theorem q64 : Program.eqGuardType Tryz.prog (Program.depth Tryz.prog) 64 = false := by kernel_rfl
theorem e64 (a b c d : Int) : eqAggA Tryz.prog 64 [.i .i64 a, .i .i64 b] [.i .i64 c, .i .i64 d] = some ((a == c) && (b == d)) := by
  unfold eqAggA; rw [Tryz.underlying64]; simp [h64, q64, eqFieldsA, eqScal, Tryz.underlying2, Tryz.underlying3]
theorem h66 : Program.stoodInHeld Tryz.prog 66 = false := by kernel_rfl
theorem q66 : Program.eqGuardType Tryz.prog (Program.depth Tryz.prog) 66 = false := by kernel_rfl
theorem e66 (a b c d : Int) : eqAggA Tryz.prog 66 [.i .i64 a, .i .i64 b] [.i .i64 c, .i .i64 d] = some ((a == c) && (b == d)) := by
  unfold eqAggA; rw [Tryz.underlying66]; simp [h66, q66, eqFieldsA, eqScal, Tryz.underlying2, Tryz.underlying3]
theorem all : (sz? Tryz.prog 2 = some 1) ∧ (agg? Tryz.prog 2 = some false) ∧ (Tryz.prog.info? 2 = some Tryz.t2) ∧ (Tryz.t2.size = 1) ∧ (Tryz.t2.bytes = 8) ∧ (zeroA Tryz.prog 2 = some [.i .i64 0]) ∧ (sz? Tryz.prog 3 = some 1) ∧ (agg? Tryz.prog 3 = some false) ∧ (Tryz.prog.info? 3 = some Tryz.t3) ∧ (Tryz.t3.size = 1) ∧ (Tryz.t3.bytes = 8) ∧ (zeroA Tryz.prog 3 = some [.i .i64 0]) ∧ (sz? Tryz.prog 4 = some 1) ∧ (agg? Tryz.prog 4 = some false) ∧ (Tryz.prog.info? 4 = some Tryz.t4) ∧ (Tryz.t4.size = 1) ∧ (Tryz.t4.bytes = 1) ∧ (zeroA Tryz.prog 4 = some [.b false]) ∧ (sz? Tryz.prog 22 = some 1) ∧ (agg? Tryz.prog 22 = some false) ∧ (Tryz.prog.info? 22 = some Tryz.t22) ∧ (Tryz.t22.size = 1) ∧ (Tryz.t22.bytes = 24) ∧ (zeroA Tryz.prog 22 = some [.nil]) ∧ (sz? Tryz.prog 23 = some 1) ∧ (agg? Tryz.prog 23 = some false) ∧ (Tryz.prog.info? 23 = some Tryz.t23) ∧ (Tryz.t23.size = 1) ∧ (Tryz.t23.bytes = 24) ∧ (zeroA Tryz.prog 23 = some [.nil]) ∧ (sz? Tryz.prog 24 = some 2) ∧ (agg? Tryz.prog 24 = some true) ∧ (Tryz.prog.info? 24 = some Tryz.t24) ∧ (Tryz.t24.size = 2) ∧ (Tryz.t24.bytes = 48) ∧ (zeroA Tryz.prog 24 = some [.nil, .nil]) ∧ (offA Tryz.prog 24 0 = some 0) ∧ (offA Tryz.prog 24 1 = some 1) ∧ (sz? Tryz.prog 25 = some 2) ∧ (agg? Tryz.prog 25 = some true) ∧ (Tryz.prog.info? 25 = some Tryz.t25) ∧ (Tryz.t25.size = 2) ∧ (Tryz.t25.bytes = 48) ∧ (zeroA Tryz.prog 25 = some [.nil, .nil]) ∧ (offA Tryz.prog 25 0 = some 0) ∧ (offA Tryz.prog 25 1 = some 1) ∧ (sz? Tryz.prog 26 = some 1) ∧ (agg? Tryz.prog 26 = some false) ∧ (Tryz.prog.info? 26 = some Tryz.t26) ∧ (Tryz.t26.size = 1) ∧ (Tryz.t26.bytes = 24) ∧ (zeroA Tryz.prog 26 = some [.nil]) ∧ (sz? Tryz.prog 27 = some 2) ∧ (agg? Tryz.prog 27 = some true) ∧ (Tryz.prog.info? 27 = some Tryz.t27) ∧ (Tryz.t27.size = 2) ∧ (Tryz.t27.bytes = 32) ∧ (zeroA Tryz.prog 27 = some [.i .i64 0, .nil]) ∧ (offA Tryz.prog 27 0 = some 0) ∧ (offA Tryz.prog 27 1 = some 1) ∧ (sz? Tryz.prog 28 = some 2) ∧ (agg? Tryz.prog 28 = some true) ∧ (Tryz.prog.info? 28 = some Tryz.t28) ∧ (Tryz.t28.size = 2) ∧ (Tryz.t28.bytes = 32) ∧ (zeroA Tryz.prog 28 = some [.i .i64 0, .nil]) ∧ (offA Tryz.prog 28 0 = some 0) ∧ (offA Tryz.prog 28 1 = some 1) ∧ (sz? Tryz.prog 32 = some 1) ∧ (agg? Tryz.prog 32 = some false) ∧ (Tryz.prog.info? 32 = some Tryz.t32) ∧ (Tryz.t32.size = 1) ∧ (Tryz.t32.bytes = 24) ∧ (zeroA Tryz.prog 32 = some [.nil]) ∧ (sz? Tryz.prog 33 = some 1) ∧ (agg? Tryz.prog 33 = some false) ∧ (Tryz.prog.info? 33 = some Tryz.t33) ∧ (Tryz.t33.size = 1) ∧ (Tryz.t33.bytes = 24) ∧ (zeroA Tryz.prog 33 = some [.nil]) ∧ (sz? Tryz.prog 34 = some 2) ∧ (agg? Tryz.prog 34 = some true) ∧ (Tryz.prog.info? 34 = some Tryz.t34) ∧ (Tryz.t34.size = 2) ∧ (Tryz.t34.bytes = 48) ∧ (zeroA Tryz.prog 34 = some [.nil, .nil]) ∧ (offA Tryz.prog 34 0 = some 0) ∧ (offA Tryz.prog 34 1 = some 1) ∧ (sz? Tryz.prog 35 = some 2) ∧ (agg? Tryz.prog 35 = some true) ∧ (Tryz.prog.info? 35 = some Tryz.t35) ∧ (Tryz.t35.size = 2) ∧ (Tryz.t35.bytes = 48) ∧ (zeroA Tryz.prog 35 = some [.nil, .nil]) ∧ (offA Tryz.prog 35 0 = some 0) ∧ (offA Tryz.prog 35 1 = some 1) ∧ (sz? Tryz.prog 37 = some 2) ∧ (agg? Tryz.prog 37 = some true) ∧ (Tryz.prog.info? 37 = some Tryz.t37) ∧ (Tryz.t37.size = 2) ∧ (Tryz.t37.bytes = 32) ∧ (zeroA Tryz.prog 37 = some [.i .i64 0, .nil]) ∧ (offA Tryz.prog 37 0 = some 0) ∧ (offA Tryz.prog 37 1 = some 1) ∧ (sz? Tryz.prog 53 = some 3) ∧ (agg? Tryz.prog 53 = some true) ∧ (Tryz.prog.info? 53 = some Tryz.t53) ∧ (Tryz.t53.size = 3) ∧ (Tryz.t53.bytes = 40) ∧ (zeroA Tryz.prog 53 = some [.nil, .i .i64 0, .b false]) ∧ (offA Tryz.prog 53 0 = some 0) ∧ (offA Tryz.prog 53 1 = some 1) ∧ (offA Tryz.prog 53 2 = some 2) ∧ (sz? Tryz.prog 54 = some 3) ∧ (agg? Tryz.prog 54 = some true) ∧ (Tryz.prog.info? 54 = some Tryz.t54) ∧ (Tryz.t54.size = 3) ∧ (Tryz.t54.bytes = 40) ∧ (zeroA Tryz.prog 54 = some [.nil, .i .i64 0, .b false]) ∧ (offA Tryz.prog 54 0 = some 0) ∧ (offA Tryz.prog 54 1 = some 1) ∧ (offA Tryz.prog 54 2 = some 2) ∧ (sz? Tryz.prog 58 = some 3) ∧ (agg? Tryz.prog 58 = some true) ∧ (Tryz.prog.info? 58 = some Tryz.t58) ∧ (Tryz.t58.size = 3) ∧ (Tryz.t58.bytes = 40) ∧ (zeroA Tryz.prog 58 = some [.nil, .i .i64 0, .b false]) ∧ (offA Tryz.prog 58 0 = some 0) ∧ (offA Tryz.prog 58 1 = some 1) ∧ (offA Tryz.prog 58 2 = some 2) ∧ (sz? Tryz.prog 59 = some 3) ∧ (agg? Tryz.prog 59 = some true) ∧ (Tryz.prog.info? 59 = some Tryz.t59) ∧ (Tryz.t59.size = 3) ∧ (Tryz.t59.bytes = 40) ∧ (zeroA Tryz.prog 59 = some [.nil, .i .i64 0, .b false]) ∧ (offA Tryz.prog 59 0 = some 0) ∧ (offA Tryz.prog 59 1 = some 1) ∧ (offA Tryz.prog 59 2 = some 2) ∧ (sz? Tryz.prog 63 = some 2) ∧ (agg? Tryz.prog 63 = some true) ∧ (Tryz.prog.info? 63 = some Tryz.t63) ∧ (Tryz.t63.size = 2) ∧ (Tryz.t63.bytes = 16) ∧ (zeroA Tryz.prog 63 = some [.i .i64 0, .i .i64 0]) ∧ (offA Tryz.prog 63 0 = some 0) ∧ (offA Tryz.prog 63 1 = some 1) ∧ (sz? Tryz.prog 64 = some 2) ∧ (agg? Tryz.prog 64 = some true) ∧ (Tryz.prog.info? 64 = some Tryz.t64) ∧ (Tryz.t64.size = 2) ∧ (Tryz.t64.bytes = 16) ∧ (zeroA Tryz.prog 64 = some [.i .i64 0, .i .i64 0]) ∧ (offA Tryz.prog 64 0 = some 0) ∧ (offA Tryz.prog 64 1 = some 1) ∧ (sz? Tryz.prog 66 = some 2) ∧ (agg? Tryz.prog 66 = some true) ∧ (Tryz.prog.info? 66 = some Tryz.t66) ∧ (Tryz.t66.size = 2) ∧ (Tryz.t66.bytes = 16) ∧ (zeroA Tryz.prog 66 = some [.i .i64 0, .i .i64 0]) ∧ (offA Tryz.prog 66 0 = some 0) ∧ (offA Tryz.prog 66 1 = some 1) ∧ (sz? Tryz.prog 72 = some 1) ∧ (agg? Tryz.prog 72 = some false) ∧ (Tryz.prog.info? 72 = some Tryz.t72) ∧ (Tryz.t72.size = 1) ∧ (Tryz.t72.bytes = 24) ∧ (zeroA Tryz.prog 72 = some [.nil]) ∧ (sz? Tryz.prog 100 = some 1) ∧ (agg? Tryz.prog 100 = some false) ∧ (Tryz.prog.info? 100 = some Tryz.t100) ∧ (Tryz.t100.size = 1) ∧ (Tryz.t100.bytes = 24) ∧ (zeroA Tryz.prog 100 = some [.nil]) ∧ (Program.stoodInHeld Tryz.prog 63 = false) ∧ (Program.eqGuardType Tryz.prog (Program.depth Tryz.prog) 63 = false) ∧ (Program.stoodInHeld Tryz.prog 64 = false) ∧ (Program.eqGuardType Tryz.prog (Program.depth Tryz.prog) 64 = false) ∧ (Program.stoodInHeld Tryz.prog 66 = false) ∧ (Program.eqGuardType Tryz.prog (Program.depth Tryz.prog) 66 = false) := ⟨z2, g2, i2, s2, b2, n2, z3, g3, i3, s3, b3, n3, z4, g4, i4, s4, b4, n4, z22, g22, i22, s22, b22, n22, z23, g23, i23, s23, b23, n23, z24, g24, i24, s24, b24, n24, o24_0, o24_1, z25, g25, i25, s25, b25, n25, o25_0, o25_1, z26, g26, i26, s26, b26, n26, z27, g27, i27, s27, b27, n27, o27_0, o27_1, z28, g28, i28, s28, b28, n28, o28_0, o28_1, z32, g32, i32, s32, b32, n32, z33, g33, i33, s33, b33, n33, z34, g34, i34, s34, b34, n34, o34_0, o34_1, z35, g35, i35, s35, b35, n35, o35_0, o35_1, z37, g37, i37, s37, b37, n37, o37_0, o37_1, z53, g53, i53, s53, b53, n53, o53_0, o53_1, o53_2, z54, g54, i54, s54, b54, n54, o54_0, o54_1, o54_2, z58, g58, i58, s58, b58, n58, o58_0, o58_1, o58_2, z59, g59, i59, s59, b59, n59, o59_0, o59_1, o59_2, z63, g63, i63, s63, b63, n63, o63_0, o63_1, z64, g64, i64, s64, b64, n64, o64_0, o64_1, z66, g66, i66, s66, b66, n66, o66_0, o66_1, z72, g72, i72, s72, b72, n72, z100, g100, i100, s100, b100, n100, h63, q63, h64, q64, h66, q66⟩
end Go.Proofs.BT
