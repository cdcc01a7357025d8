/- Facts of the program's types. No condition. -/
import Derived.Test.YtbeodjmkfegipaaGreatBigS
import Derived.Test.YtbeodjmkfegipaaGreatProg
set_option linter.unusedVariables false
set_option linter.unusedSimpArgs false
open Go Go.Big
namespace Go.Proofs.BT
theorem z2 : sz? Tryz.prog 2 = some 1 := by kernel_rfl
theorem g2 : agg? Tryz.prog 2 = some false := by kernel_rfl
theorem i2 : Tryz.prog.info? 2 = some Tryz.t2 := by kernel_rfl
theorem s2 : Tryz.t2.size = 1 := by kernel_rfl
theorem b2 : Tryz.t2.bytes = 8 := by kernel_rfl
theorem n2 : zeroA Tryz.prog 2 = some [.i .i64 0] := by kernel_rfl
theorem z3 : sz? Tryz.prog 3 = some 1 := by kernel_rfl
theorem g3 : agg? Tryz.prog 3 = some false := by kernel_rfl
theorem i3 : Tryz.prog.info? 3 = some Tryz.t3 := by kernel_rfl
theorem s3 : Tryz.t3.size = 1 := by kernel_rfl
theorem b3 : Tryz.t3.bytes = 8 := by kernel_rfl
theorem n3 : zeroA Tryz.prog 3 = some [.i .i64 0] := by kernel_rfl
theorem z4 : sz? Tryz.prog 4 = some 1 := by kernel_rfl
theorem g4 : agg? Tryz.prog 4 = some false := by kernel_rfl
theorem i4 : Tryz.prog.info? 4 = some Tryz.t4 := by kernel_rfl
theorem s4 : Tryz.t4.size = 1 := by kernel_rfl
theorem b4 : Tryz.t4.bytes = 1 := by kernel_rfl
theorem n4 : zeroA Tryz.prog 4 = some [.b false] := by kernel_rfl
theorem z22 : sz? Tryz.prog 22 = some 1 := by kernel_rfl
theorem g22 : agg? Tryz.prog 22 = some false := by kernel_rfl
theorem i22 : Tryz.prog.info? 22 = some Tryz.t22 := by kernel_rfl
theorem s22 : Tryz.t22.size = 1 := by kernel_rfl
theorem b22 : Tryz.t22.bytes = 24 := by kernel_rfl
theorem n22 : zeroA Tryz.prog 22 = some [.nil] := by kernel_rfl
theorem z23 : sz? Tryz.prog 23 = some 1 := by kernel_rfl
theorem g23 : agg? Tryz.prog 23 = some false := by kernel_rfl
theorem i23 : Tryz.prog.info? 23 = some Tryz.t23 := by kernel_rfl
theorem s23 : Tryz.t23.size = 1 := by kernel_rfl
theorem b23 : Tryz.t23.bytes = 24 := by kernel_rfl
theorem n23 : zeroA Tryz.prog 23 = some [.nil] := by kernel_rfl
theorem z24 : sz? Tryz.prog 24 = some 2 := by kernel_rfl
theorem g24 : agg? Tryz.prog 24 = some true := by kernel_rfl
theorem i24 : Tryz.prog.info? 24 = some Tryz.t24 := by kernel_rfl
theorem s24 : Tryz.t24.size = 2 := by kernel_rfl
theorem b24 : Tryz.t24.bytes = 48 := by kernel_rfl
theorem n24 : zeroA Tryz.prog 24 = some [.nil, .nil] := by kernel_rfl
theorem o24_0 : offA Tryz.prog 24 0 = some 0 := by kernel_rfl
theorem o24_1 : offA Tryz.prog 24 1 = some 1 := by kernel_rfl
theorem z25 : sz? Tryz.prog 25 = some 2 := by kernel_rfl
theorem g25 : agg? Tryz.prog 25 = some true := by kernel_rfl
theorem i25 : Tryz.prog.info? 25 = some Tryz.t25 := by kernel_rfl
theorem s25 : Tryz.t25.size = 2 := by kernel_rfl
theorem b25 : Tryz.t25.bytes = 48 := by kernel_rfl
theorem n25 : zeroA Tryz.prog 25 = some [.nil, .nil] := by kernel_rfl
theorem o25_0 : offA Tryz.prog 25 0 = some 0 := by kernel_rfl
theorem o25_1 : offA Tryz.prog 25 1 = some 1 := by kernel_rfl
theorem z26 : sz? Tryz.prog 26 = some 1 := by kernel_rfl
theorem g26 : agg? Tryz.prog 26 = some false := by kernel_rfl
theorem i26 : Tryz.prog.info? 26 = some Tryz.t26 := by kernel_rfl
theorem s26 : Tryz.t26.size = 1 := by kernel_rfl
theorem b26 : Tryz.t26.bytes = 24 := by kernel_rfl
theorem n26 : zeroA Tryz.prog 26 = some [.nil] := by kernel_rfl
theorem z30 : sz? Tryz.prog 30 = some 1 := by kernel_rfl
theorem g30 : agg? Tryz.prog 30 = some false := by kernel_rfl
theorem i30 : Tryz.prog.info? 30 = some Tryz.t30 := by kernel_rfl
theorem s30 : Tryz.t30.size = 1 := by kernel_rfl
theorem b30 : Tryz.t30.bytes = 24 := by kernel_rfl
theorem n30 : zeroA Tryz.prog 30 = some [.nil] := by kernel_rfl
theorem z31 : sz? Tryz.prog 31 = some 1 := by kernel_rfl
theorem g31 : agg? Tryz.prog 31 = some false := by kernel_rfl
theorem i31 : Tryz.prog.info? 31 = some Tryz.t31 := by kernel_rfl
theorem s31 : Tryz.t31.size = 1 := by kernel_rfl
theorem b31 : Tryz.t31.bytes = 24 := by kernel_rfl
theorem n31 : zeroA Tryz.prog 31 = some [.nil] := by kernel_rfl
theorem z32 : sz? Tryz.prog 32 = some 2 := by kernel_rfl
theorem g32 : agg? Tryz.prog 32 = some true := by kernel_rfl
theorem i32 : Tryz.prog.info? 32 = some Tryz.t32 := by kernel_rfl
theorem s32 : Tryz.t32.size = 2 := by kernel_rfl
theorem b32 : Tryz.t32.bytes = 48 := by kernel_rfl
theorem n32 : zeroA Tryz.prog 32 = some [.nil, .nil] := by kernel_rfl
theorem o32_0 : offA Tryz.prog 32 0 = some 0 := by kernel_rfl
theorem o32_1 : offA Tryz.prog 32 1 = some 1 := by kernel_rfl
theorem z33 : sz? Tryz.prog 33 = some 2 := by kernel_rfl
theorem g33 : agg? Tryz.prog 33 = some true := by kernel_rfl
theorem i33 : Tryz.prog.info? 33 = some Tryz.t33 := by kernel_rfl
theorem s33 : Tryz.t33.size = 2 := by kernel_rfl
theorem b33 : Tryz.t33.bytes = 48 := by kernel_rfl
theorem n33 : zeroA Tryz.prog 33 = some [.nil, .nil] := by kernel_rfl
theorem o33_0 : offA Tryz.prog 33 0 = some 0 := by kernel_rfl
theorem o33_1 : offA Tryz.prog 33 1 = some 1 := by kernel_rfl
theorem z35 : sz? Tryz.prog 35 = some 1 := by kernel_rfl
theorem g35 : agg? Tryz.prog 35 = some false := by kernel_rfl
theorem i35 : Tryz.prog.info? 35 = some Tryz.t35 := by kernel_rfl
theorem s35 : Tryz.t35.size = 1 := by kernel_rfl
theorem b35 : Tryz.t35.bytes = 24 := by kernel_rfl
theorem n35 : zeroA Tryz.prog 35 = some [.nil] := by kernel_rfl
theorem z43 : sz? Tryz.prog 43 = some 1 := by kernel_rfl
theorem g43 : agg? Tryz.prog 43 = some false := by kernel_rfl
theorem i43 : Tryz.prog.info? 43 = some Tryz.t43 := by kernel_rfl
theorem s43 : Tryz.t43.size = 1 := by kernel_rfl
theorem b43 : Tryz.t43.bytes = 24 := by kernel_rfl
theorem n43 : zeroA Tryz.prog 43 = some [.nil] := by kernel_rfl
theorem z44 : sz? Tryz.prog 44 = some 2 := by kernel_rfl
theorem g44 : agg? Tryz.prog 44 = some true := by kernel_rfl
theorem i44 : Tryz.prog.info? 44 = some Tryz.t44 := by kernel_rfl
theorem s44 : Tryz.t44.size = 2 := by kernel_rfl
theorem b44 : Tryz.t44.bytes = 32 := by kernel_rfl
theorem n44 : zeroA Tryz.prog 44 = some [.i .i64 0, .nil] := by kernel_rfl
theorem o44_0 : offA Tryz.prog 44 0 = some 0 := by kernel_rfl
theorem o44_1 : offA Tryz.prog 44 1 = some 1 := by kernel_rfl
theorem z45 : sz? Tryz.prog 45 = some 2 := by kernel_rfl
theorem g45 : agg? Tryz.prog 45 = some true := by kernel_rfl
theorem i45 : Tryz.prog.info? 45 = some Tryz.t45 := by kernel_rfl
theorem s45 : Tryz.t45.size = 2 := by kernel_rfl
theorem b45 : Tryz.t45.bytes = 32 := by kernel_rfl
theorem n45 : zeroA Tryz.prog 45 = some [.i .i64 0, .nil] := by kernel_rfl
theorem o45_0 : offA Tryz.prog 45 0 = some 0 := by kernel_rfl
theorem o45_1 : offA Tryz.prog 45 1 = some 1 := by kernel_rfl
theorem z48 : sz? Tryz.prog 48 = some 2 := by kernel_rfl
theorem g48 : agg? Tryz.prog 48 = some true := by kernel_rfl
theorem i48 : Tryz.prog.info? 48 = some Tryz.t48 := by kernel_rfl
theorem s48 : Tryz.t48.size = 2 := by kernel_rfl
theorem b48 : Tryz.t48.bytes = 32 := by kernel_rfl
theorem n48 : zeroA Tryz.prog 48 = some [.i .i64 0, .nil] := by kernel_rfl
theorem o48_0 : offA Tryz.prog 48 0 = some 0 := by kernel_rfl
theorem o48_1 : offA Tryz.prog 48 1 = some 1 := by kernel_rfl
theorem z58 : sz? Tryz.prog 58 = some 3 := by kernel_rfl
theorem g58 : agg? Tryz.prog 58 = some true := by kernel_rfl
theorem i58 : Tryz.prog.info? 58 = some Tryz.t58 := by kernel_rfl
theorem s58 : Tryz.t58.size = 3 := by kernel_rfl
theorem b58 : Tryz.t58.bytes = 40 := by kernel_rfl
theorem n58 : zeroA Tryz.prog 58 = some [.nil, .i .i64 0, .b false] := by kernel_rfl
theorem o58_0 : offA Tryz.prog 58 0 = some 0 := by kernel_rfl
theorem o58_1 : offA Tryz.prog 58 1 = some 1 := by kernel_rfl
theorem o58_2 : offA Tryz.prog 58 2 = some 2 := by kernel_rfl
theorem z59 : sz? Tryz.prog 59 = some 3 := by kernel_rfl
theorem g59 : agg? Tryz.prog 59 = some true := by kernel_rfl
theorem i59 : Tryz.prog.info? 59 = some Tryz.t59 := by kernel_rfl
theorem s59 : Tryz.t59.size = 3 := by kernel_rfl
theorem b59 : Tryz.t59.bytes = 40 := by kernel_rfl
theorem n59 : zeroA Tryz.prog 59 = some [.nil, .i .i64 0, .b false] := by kernel_rfl
theorem o59_0 : offA Tryz.prog 59 0 = some 0 := by kernel_rfl
theorem o59_1 : offA Tryz.prog 59 1 = some 1 := by kernel_rfl
theorem o59_2 : offA Tryz.prog 59 2 = some 2 := by kernel_rfl
theorem z62 : sz? Tryz.prog 62 = some 3 := by kernel_rfl
theorem g62 : agg? Tryz.prog 62 = some true := by kernel_rfl
theorem i62 : Tryz.prog.info? 62 = some Tryz.t62 := by kernel_rfl
theorem s62 : Tryz.t62.size = 3 := by kernel_rfl
theorem b62 : Tryz.t62.bytes = 40 := by kernel_rfl
theorem n62 : zeroA Tryz.prog 62 = some [.nil, .i .i64 0, .b false] := by kernel_rfl
theorem o62_0 : offA Tryz.prog 62 0 = some 0 := by kernel_rfl
theorem o62_1 : offA Tryz.prog 62 1 = some 1 := by kernel_rfl
theorem o62_2 : offA Tryz.prog 62 2 = some 2 := by kernel_rfl
theorem z63 : sz? Tryz.prog 63 = some 3 := by kernel_rfl
theorem g63 : agg? Tryz.prog 63 = some true := by kernel_rfl
theorem i63 : Tryz.prog.info? 63 = some Tryz.t63 := by kernel_rfl
theorem s63 : Tryz.t63.size = 3 := by kernel_rfl
theorem b63 : Tryz.t63.bytes = 40 := by kernel_rfl
theorem n63 : zeroA Tryz.prog 63 = some [.nil, .i .i64 0, .b false] := by kernel_rfl
theorem o63_0 : offA Tryz.prog 63 0 = some 0 := by kernel_rfl
theorem o63_1 : offA Tryz.prog 63 1 = some 1 := by kernel_rfl
theorem o63_2 : offA Tryz.prog 63 2 = some 2 := by kernel_rfl
theorem z64 : sz? Tryz.prog 64 = some 2 := by kernel_rfl
theorem g64 : agg? Tryz.prog 64 = some true := by kernel_rfl
theorem i64 : Tryz.prog.info? 64 = some Tryz.t64 := by kernel_rfl
theorem s64 : Tryz.t64.size = 2 := by kernel_rfl
theorem b64 : Tryz.t64.bytes = 16 := by kernel_rfl
theorem n64 : zeroA Tryz.prog 64 = some [.i .i64 0, .i .i64 0] := by kernel_rfl
theorem o64_0 : offA Tryz.prog 64 0 = some 0 := by kernel_rfl
theorem o64_1 : offA Tryz.prog 64 1 = some 1 := by kernel_rfl
theorem z65 : sz? Tryz.prog 65 = some 2 := by kernel_rfl
theorem g65 : agg? Tryz.prog 65 = some true := by kernel_rfl
theorem i65 : Tryz.prog.info? 65 = some Tryz.t65 := by kernel_rfl
theorem s65 : Tryz.t65.size = 2 := by kernel_rfl
theorem b65 : Tryz.t65.bytes = 16 := by kernel_rfl
theorem n65 : zeroA Tryz.prog 65 = some [.i .i64 0, .i .i64 0] := by kernel_rfl
theorem o65_0 : offA Tryz.prog 65 0 = some 0 := by kernel_rfl
theorem o65_1 : offA Tryz.prog 65 1 = some 1 := by kernel_rfl
theorem z67 : sz? Tryz.prog 67 = some 2 := by kernel_rfl
theorem g67 : agg? Tryz.prog 67 = some true := by kernel_rfl
theorem i67 : Tryz.prog.info? 67 = some Tryz.t67 := by kernel_rfl
theorem s67 : Tryz.t67.size = 2 := by kernel_rfl
theorem b67 : Tryz.t67.bytes = 16 := by kernel_rfl
theorem n67 : zeroA Tryz.prog 67 = some [.i .i64 0, .i .i64 0] := by kernel_rfl
theorem o67_0 : offA Tryz.prog 67 0 = some 0 := by kernel_rfl
theorem o67_1 : offA Tryz.prog 67 1 = some 1 := by kernel_rfl
theorem z71 : sz? Tryz.prog 71 = some 1 := by kernel_rfl
theorem g71 : agg? Tryz.prog 71 = some false := by kernel_rfl
theorem i71 : Tryz.prog.info? 71 = some Tryz.t71 := by kernel_rfl
theorem s71 : Tryz.t71.size = 1 := by kernel_rfl
theorem b71 : Tryz.t71.bytes = 24 := by kernel_rfl
theorem n71 : zeroA Tryz.prog 71 = some [.nil] := by kernel_rfl
theorem z86 : sz? Tryz.prog 86 = some 1 := by kernel_rfl
theorem g86 : agg? Tryz.prog 86 = some false := by kernel_rfl
theorem i86 : Tryz.prog.info? 86 = some Tryz.t86 := by kernel_rfl
theorem s86 : Tryz.t86.size = 1 := by kernel_rfl
theorem b86 : Tryz.t86.bytes = 24 := by kernel_rfl
theorem n86 : zeroA Tryz.prog 86 = some [.nil] := by kernel_rfl
theorem z109 : sz? Tryz.prog 109 = some 1 := by kernel_rfl
theorem g109 : agg? Tryz.prog 109 = some false := by kernel_rfl
theorem i109 : Tryz.prog.info? 109 = some Tryz.t109 := by kernel_rfl
theorem s109 : Tryz.t109.size = 1 := by kernel_rfl
theorem b109 : Tryz.t109.bytes = 24 := by kernel_rfl
theorem n109 : zeroA Tryz.prog 109 = some [.nil] := by kernel_rfl
theorem h64 : Program.stoodInHeld Tryz.prog 64 = false := by kernel_rfl
theorem q64 : Program.eqGuardType Tryz.prog (Program.depth Tryz.prog) 64 = false := by kernel_rfl
theorem e64 (a b c d : Int) : eqAggA Tryz.prog 64 [.i .i64 a, .i .i64 b] [.i .i64 c, .i .i64 d] = some ((a == c) && (b == d)) := by
  unfold eqAggA; rw [Tryz.underlying64]; simp [h64, q64, eqFieldsA, eqScal, Tryz.underlying2, Tryz.underlying3]
theorem h65 : Program.stoodInHeld Tryz.prog 65 = false := by kernel_rfl
theorem q65 : Program.eqGuardType Tryz.prog (Program.depth Tryz.prog) 65 = false := by kernel_rfl
theorem e65 (a b c d : Int) : eqAggA Tryz.prog 65 [.i .i64 a, .i .i64 b] [.i .i64 c, .i .i64 d] = some ((a == c) && (b == d)) := by
  unfold eqAggA; rw [Tryz.underlying65]; simp [h65, q65, eqFieldsA, eqScal, Tryz.underlying2, Tryz.underlying3]
theorem h67 : Program.stoodInHeld Tryz.prog 67 = false := by kernel_rfl
theorem q67 : Program.eqGuardType Tryz.prog (Program.depth Tryz.prog) 67 = false := by kernel_rfl
theorem e67 (a b c d : Int) : eqAggA Tryz.prog 67 [.i .i64 a, .i .i64 b] [.i .i64 c, .i .i64 d] = some ((a == c) && (b == d)) := by
  unfold eqAggA; rw [Tryz.underlying67]; simp [h67, q67, eqFieldsA, eqScal, Tryz.underlying2, Tryz.underlying3]
theorem all : (sz? Tryz.prog 2 = some 1) ∧ (agg? Tryz.prog 2 = some false) ∧ (Tryz.prog.info? 2 = some Tryz.t2) ∧ (Tryz.t2.size = 1) ∧ (Tryz.t2.bytes = 8) ∧ (zeroA Tryz.prog 2 = some [.i .i64 0]) ∧ (sz? Tryz.prog 3 = some 1) ∧ (agg? Tryz.prog 3 = some false) ∧ (Tryz.prog.info? 3 = some Tryz.t3) ∧ (Tryz.t3.size = 1) ∧ (Tryz.t3.bytes = 8) ∧ (zeroA Tryz.prog 3 = some [.i .i64 0]) ∧ (sz? Tryz.prog 4 = some 1) ∧ (agg? Tryz.prog 4 = some false) ∧ (Tryz.prog.info? 4 = some Tryz.t4) ∧ (Tryz.t4.size = 1) ∧ (Tryz.t4.bytes = 1) ∧ (zeroA Tryz.prog 4 = some [.b false]) ∧ (sz? Tryz.prog 22 = some 1) ∧ (agg? Tryz.prog 22 = some false) ∧ (Tryz.prog.info? 22 = some Tryz.t22) ∧ (Tryz.t22.size = 1) ∧ (Tryz.t22.bytes = 24) ∧ (zeroA Tryz.prog 22 = some [.nil]) ∧ (sz? Tryz.prog 23 = some 1) ∧ (agg? Tryz.prog 23 = some false) ∧ (Tryz.prog.info? 23 = some Tryz.t23) ∧ (Tryz.t23.size = 1) ∧ (Tryz.t23.bytes = 24) ∧ (zeroA Tryz.prog 23 = some [.nil]) ∧ (sz? Tryz.prog 24 = some 2) ∧ (agg? Tryz.prog 24 = some true) ∧ (Tryz.prog.info? 24 = some Tryz.t24) ∧ (Tryz.t24.size = 2) ∧ (Tryz.t24.bytes = 48) ∧ (zeroA Tryz.prog 24 = some [.nil, .nil]) ∧ (offA Tryz.prog 24 0 = some 0) ∧ (offA Tryz.prog 24 1 = some 1) ∧ (sz? Tryz.prog 25 = some 2) ∧ (agg? Tryz.prog 25 = some true) ∧ (Tryz.prog.info? 25 = some Tryz.t25) ∧ (Tryz.t25.size = 2) ∧ (Tryz.t25.bytes = 48) ∧ (zeroA Tryz.prog 25 = some [.nil, .nil]) ∧ (offA Tryz.prog 25 0 = some 0) ∧ (offA Tryz.prog 25 1 = some 1) ∧ (sz? Tryz.prog 26 = some 1) ∧ (agg? Tryz.prog 26 = some false) ∧ (Tryz.prog.info? 26 = some Tryz.t26) ∧ (Tryz.t26.size = 1) ∧ (Tryz.t26.bytes = 24) ∧ (zeroA Tryz.prog 26 = some [.nil]) ∧ (sz? Tryz.prog 30 = some 1) ∧ (agg? Tryz.prog 30 = some false) ∧ (Tryz.prog.info? 30 = some Tryz.t30) ∧ (Tryz.t30.size = 1) ∧ (Tryz.t30.bytes = 24) ∧ (zeroA Tryz.prog 30 = some [.nil]) ∧ (sz? Tryz.prog 31 = some 1) ∧ (agg? Tryz.prog 31 = some false) ∧ (Tryz.prog.info? 31 = some Tryz.t31) ∧ (Tryz.t31.size = 1) ∧ (Tryz.t31.bytes = 24) ∧ (zeroA Tryz.prog 31 = some [.nil]) ∧ (sz? Tryz.prog 32 = some 2) ∧ (agg? Tryz.prog 32 = some true) ∧ (Tryz.prog.info? 32 = some Tryz.t32) ∧ (Tryz.t32.size = 2) ∧ (Tryz.t32.bytes = 48) ∧ (zeroA Tryz.prog 32 = some [.nil, .nil]) ∧ (offA Tryz.prog 32 0 = some 0) ∧ (offA Tryz.prog 32 1 = some 1) ∧ (sz? Tryz.prog 33 = some 2) ∧ (agg? Tryz.prog 33 = some true) ∧ (Tryz.prog.info? 33 = some Tryz.t33) ∧ (Tryz.t33.size = 2) ∧ (Tryz.t33.bytes = 48) ∧ (zeroA Tryz.prog 33 = some [.nil, .nil]) ∧ (offA Tryz.prog 33 0 = some 0) ∧ (offA Tryz.prog 33 1 = some 1) ∧ (sz? Tryz.prog 35 = some 1) ∧ (agg? Tryz.prog 35 = some false) ∧ (Tryz.prog.info? 35 = some Tryz.t35) ∧ (Tryz.t35.size = 1) ∧ (Tryz.t35.bytes = 24) ∧ (zeroA Tryz.prog 35 = some [.nil]) ∧ (sz? Tryz.prog 43 = some 1) ∧ (agg? Tryz.prog 43 = some false) ∧ (Tryz.prog.info? 43 = some Tryz.t43) ∧ (Tryz.t43.size = 1) ∧ (Tryz.t43.bytes = 24) ∧ (zeroA Tryz.prog 43 = some [.nil]) ∧ (sz? Tryz.prog 44 = some 2) ∧ (agg? Tryz.prog 44 = some true) ∧ (Tryz.prog.info? 44 = some Tryz.t44) ∧ (Tryz.t44.size = 2) ∧ (Tryz.t44.bytes = 32) ∧ (zeroA Tryz.prog 44 = some [.i .i64 0, .nil]) ∧ (offA Tryz.prog 44 0 = some 0) ∧ (offA Tryz.prog 44 1 = some 1) ∧ (sz? Tryz.prog 45 = some 2) ∧ (agg? Tryz.prog 45 = some true) ∧ (Tryz.prog.info? 45 = some Tryz.t45) ∧ (Tryz.t45.size = 2) ∧ (Tryz.t45.bytes = 32) ∧ (zeroA Tryz.prog 45 = some [.i .i64 0, .nil]) ∧ (offA Tryz.prog 45 0 = some 0) ∧ (offA Tryz.prog 45 1 = some 1) ∧ (sz? Tryz.prog 48 = some 2) ∧ (agg? Tryz.prog 48 = some true) ∧ (Tryz.prog.info? 48 = some Tryz.t48) ∧ (Tryz.t48.size = 2) ∧ (Tryz.t48.bytes = 32) ∧ (zeroA Tryz.prog 48 = some [.i .i64 0, .nil]) ∧ (offA Tryz.prog 48 0 = some 0) ∧ (offA Tryz.prog 48 1 = some 1) ∧ (sz? Tryz.prog 58 = some 3) ∧ (agg? Tryz.prog 58 = some true) ∧ (Tryz.prog.info? 58 = some Tryz.t58) ∧ (Tryz.t58.size = 3) ∧ (Tryz.t58.bytes = 40) ∧ (zeroA Tryz.prog 58 = some [.nil, .i .i64 0, .b false]) ∧ (offA Tryz.prog 58 0 = some 0) ∧ (offA Tryz.prog 58 1 = some 1) ∧ (offA Tryz.prog 58 2 = some 2) ∧ (sz? Tryz.prog 59 = some 3) ∧ (agg? Tryz.prog 59 = some true) ∧ (Tryz.prog.info? 59 = some Tryz.t59) ∧ (Tryz.t59.size = 3) ∧ (Tryz.t59.bytes = 40) ∧ (zeroA Tryz.prog 59 = some [.nil, .i .i64 0, .b false]) ∧ (offA Tryz.prog 59 0 = some 0) ∧ (offA Tryz.prog 59 1 = some 1) ∧ (offA Tryz.prog 59 2 = some 2) ∧ (sz? Tryz.prog 62 = some 3) ∧ (agg? Tryz.prog 62 = some true) ∧ (Tryz.prog.info? 62 = some Tryz.t62) ∧ (Tryz.t62.size = 3) ∧ (Tryz.t62.bytes = 40) ∧ (zeroA Tryz.prog 62 = some [.nil, .i .i64 0, .b false]) ∧ (offA Tryz.prog 62 0 = some 0) ∧ (offA Tryz.prog 62 1 = some 1) ∧ (offA Tryz.prog 62 2 = some 2) ∧ (sz? Tryz.prog 63 = some 3) ∧ (agg? Tryz.prog 63 = some true) ∧ (Tryz.prog.info? 63 = some Tryz.t63) ∧ (Tryz.t63.size = 3) ∧ (Tryz.t63.bytes = 40) ∧ (zeroA Tryz.prog 63 = some [.nil, .i .i64 0, .b false]) ∧ (offA Tryz.prog 63 0 = some 0) ∧ (offA Tryz.prog 63 1 = some 1) ∧ (offA Tryz.prog 63 2 = some 2) ∧ (sz? Tryz.prog 64 = some 2) ∧ (agg? Tryz.prog 64 = some true) ∧ (Tryz.prog.info? 64 = some Tryz.t64) ∧ (Tryz.t64.size = 2) ∧ (Tryz.t64.bytes = 16) ∧ (zeroA Tryz.prog 64 = some [.i .i64 0, .i .i64 0]) ∧ (offA Tryz.prog 64 0 = some 0) ∧ (offA Tryz.prog 64 1 = some 1) ∧ (sz? Tryz.prog 65 = some 2) ∧ (agg? Tryz.prog 65 = some true) ∧ (Tryz.prog.info? 65 = some Tryz.t65) ∧ (Tryz.t65.size = 2) ∧ (Tryz.t65.bytes = 16) ∧ (zeroA Tryz.prog 65 = some [.i .i64 0, .i .i64 0]) ∧ (offA Tryz.prog 65 0 = some 0) ∧ (offA Tryz.prog 65 1 = some 1) ∧ (sz? Tryz.prog 67 = some 2) ∧ (agg? Tryz.prog 67 = some true) ∧ (Tryz.prog.info? 67 = some Tryz.t67) ∧ (Tryz.t67.size = 2) ∧ (Tryz.t67.bytes = 16) ∧ (zeroA Tryz.prog 67 = some [.i .i64 0, .i .i64 0]) ∧ (offA Tryz.prog 67 0 = some 0) ∧ (offA Tryz.prog 67 1 = some 1) ∧ (sz? Tryz.prog 71 = some 1) ∧ (agg? Tryz.prog 71 = some false) ∧ (Tryz.prog.info? 71 = some Tryz.t71) ∧ (Tryz.t71.size = 1) ∧ (Tryz.t71.bytes = 24) ∧ (zeroA Tryz.prog 71 = some [.nil]) ∧ (sz? Tryz.prog 86 = some 1) ∧ (agg? Tryz.prog 86 = some false) ∧ (Tryz.prog.info? 86 = some Tryz.t86) ∧ (Tryz.t86.size = 1) ∧ (Tryz.t86.bytes = 24) ∧ (zeroA Tryz.prog 86 = some [.nil]) ∧ (sz? Tryz.prog 109 = some 1) ∧ (agg? Tryz.prog 109 = some false) ∧ (Tryz.prog.info? 109 = some Tryz.t109) ∧ (Tryz.t109.size = 1) ∧ (Tryz.t109.bytes = 24) ∧ (zeroA Tryz.prog 109 = some [.nil]) ∧ (Program.stoodInHeld Tryz.prog 64 = false) ∧ (Program.eqGuardType Tryz.prog (Program.depth Tryz.prog) 64 = false) ∧ (Program.stoodInHeld Tryz.prog 65 = false) ∧ (Program.eqGuardType Tryz.prog (Program.depth Tryz.prog) 65 = false) ∧ (Program.stoodInHeld Tryz.prog 67 = false) ∧ (Program.eqGuardType Tryz.prog (Program.depth Tryz.prog) 67 = false) := ⟨z2, g2, i2, s2, b2, n2, z3, g3, i3, s3, b3, n3, z4, g4, i4, s4, b4, n4, z22, g22, i22, s22, b22, n22, z23, g23, i23, s23, b23, n23, z24, g24, i24, s24, b24, n24, o24_0, o24_1, z25, g25, i25, s25, b25, n25, o25_0, o25_1, z26, g26, i26, s26, b26, n26, z30, g30, i30, s30, b30, n30, z31, g31, i31, s31, b31, n31, z32, g32, i32, s32, b32, n32, o32_0, o32_1, z33, g33, i33, s33, b33, n33, o33_0, o33_1, z35, g35, i35, s35, b35, n35, z43, g43, i43, s43, b43, n43, z44, g44, i44, s44, b44, n44, o44_0, o44_1, z45, g45, i45, s45, b45, n45, o45_0, o45_1, z48, g48, i48, s48, b48, n48, o48_0, o48_1, z58, g58, i58, s58, b58, n58, o58_0, o58_1, o58_2, z59, g59, i59, s59, b59, n59, o59_0, o59_1, o59_2, z62, g62, i62, s62, b62, n62, o62_0, o62_1, o62_2, z63, g63, i63, s63, b63, n63, o63_0, o63_1, o63_2, z64, g64, i64, s64, b64, n64, o64_0, o64_1, z65, g65, i65, s65, b65, n65, o65_0, o65_1, z67, g67, i67, s67, b67, n67, o67_0, o67_1, z71, g71, i71, s71, b71, n71, z86, g86, i86, s86, b86, n86, z109, g109, i109, s109, b109, n109, h64, q64, h65, q65, h67, q67⟩
end Go.Proofs.BT
