/- Facts of the program's types. No condition. -/
import Derived.Test.YtdbkkjoejomcmaaGreatBigS
import Derived.Test.YtdbkkjoejomcmaaGreatProg
set_option linter.unusedVariables false
set_option linter.unusedSimpArgs false
open Go Go.Big
namespace Go.Proofs.BT
theorem z2 : sz? Tryz.prog 2 = some 1 := by kernel_rfl
theorem g2 : agg? Tryz.prog 2 = some false := by kernel_rfl
theorem i2 : Tryz.prog.info? 2 = some Tryz.t2 := by kernel_rfl
theorem s2 : Tryz.t2.size = 1 := by kernel_rfl
theorem b2 : Tryz.t2.bytes = 8 := by kernel_rfl
theorem n2 : zeroA Tryz.prog 2 = some [.i .i64 0] := by kernel_rfl
theorem z3 : sz? Tryz.prog 3 = some 1 := by kernel_rfl
theorem g3 : agg? Tryz.prog 3 = some false := by kernel_rfl
theorem i3 : Tryz.prog.info? 3 = some Tryz.t3 := by kernel_rfl
theorem s3 : Tryz.t3.size = 1 := by kernel_rfl
theorem b3 : Tryz.t3.bytes = 8 := by kernel_rfl
theorem n3 : zeroA Tryz.prog 3 = some [.i .i64 0] := by kernel_rfl
theorem z4 : sz? Tryz.prog 4 = some 1 := by kernel_rfl
theorem g4 : agg? Tryz.prog 4 = some false := by kernel_rfl
theorem i4 : Tryz.prog.info? 4 = some Tryz.t4 := by kernel_rfl
theorem s4 : Tryz.t4.size = 1 := by kernel_rfl
theorem b4 : Tryz.t4.bytes = 1 := by kernel_rfl
theorem n4 : zeroA Tryz.prog 4 = some [.b false] := by kernel_rfl
theorem z5 : sz? Tryz.prog 5 = some 1 := by kernel_rfl
theorem g5 : agg? Tryz.prog 5 = some false := by kernel_rfl
theorem i5 : Tryz.prog.info? 5 = some Tryz.t5 := by kernel_rfl
theorem s5 : Tryz.t5.size = 1 := by kernel_rfl
theorem b5 : Tryz.t5.bytes = 1 := by kernel_rfl
theorem n5 : zeroA Tryz.prog 5 = some [.i .u8 0] := by kernel_rfl
theorem z9 : sz? Tryz.prog 9 = some 1 := by kernel_rfl
theorem g9 : agg? Tryz.prog 9 = some false := by kernel_rfl
theorem i9 : Tryz.prog.info? 9 = some Tryz.t9 := by kernel_rfl
theorem s9 : Tryz.t9.size = 1 := by kernel_rfl
theorem b9 : Tryz.t9.bytes = 16 := by kernel_rfl
theorem z22 : sz? Tryz.prog 22 = some 1 := by kernel_rfl
theorem g22 : agg? Tryz.prog 22 = some false := by kernel_rfl
theorem i22 : Tryz.prog.info? 22 = some Tryz.t22 := by kernel_rfl
theorem s22 : Tryz.t22.size = 1 := by kernel_rfl
theorem b22 : Tryz.t22.bytes = 24 := by kernel_rfl
theorem n22 : zeroA Tryz.prog 22 = some [.nil] := by kernel_rfl
theorem z23 : sz? Tryz.prog 23 = some 1 := by kernel_rfl
theorem g23 : agg? Tryz.prog 23 = some false := by kernel_rfl
theorem i23 : Tryz.prog.info? 23 = some Tryz.t23 := by kernel_rfl
theorem s23 : Tryz.t23.size = 1 := by kernel_rfl
theorem b23 : Tryz.t23.bytes = 24 := by kernel_rfl
theorem n23 : zeroA Tryz.prog 23 = some [.nil] := by kernel_rfl
theorem z24 : sz? Tryz.prog 24 = some 2 := by kernel_rfl
theorem g24 : agg? Tryz.prog 24 = some true := by kernel_rfl
theorem i24 : Tryz.prog.info? 24 = some Tryz.t24 := by kernel_rfl
theorem s24 : Tryz.t24.size = 2 := by kernel_rfl
theorem b24 : Tryz.t24.bytes = 48 := by kernel_rfl
theorem n24 : zeroA Tryz.prog 24 = some [.nil, .nil] := by kernel_rfl
theorem o24_0 : offA Tryz.prog 24 0 = some 0 := by kernel_rfl
theorem o24_1 : offA Tryz.prog 24 1 = some 1 := by kernel_rfl
theorem z25 : sz? Tryz.prog 25 = some 2 := by kernel_rfl
theorem g25 : agg? Tryz.prog 25 = some true := by kernel_rfl
theorem i25 : Tryz.prog.info? 25 = some Tryz.t25 := by kernel_rfl
theorem s25 : Tryz.t25.size = 2 := by kernel_rfl
theorem b25 : Tryz.t25.bytes = 48 := by kernel_rfl
theorem n25 : zeroA Tryz.prog 25 = some [.nil, .nil] := by kernel_rfl
theorem o25_0 : offA Tryz.prog 25 0 = some 0 := by kernel_rfl
theorem o25_1 : offA Tryz.prog 25 1 = some 1 := by kernel_rfl
theorem z26 : sz? Tryz.prog 26 = some 1 := by kernel_rfl
theorem g26 : agg? Tryz.prog 26 = some false := by kernel_rfl
theorem i26 : Tryz.prog.info? 26 = some Tryz.t26 := by kernel_rfl
theorem s26 : Tryz.t26.size = 1 := by kernel_rfl
theorem b26 : Tryz.t26.bytes = 24 := by kernel_rfl
theorem n26 : zeroA Tryz.prog 26 = some [.nil] := by kernel_rfl
theorem z29 : sz? Tryz.prog 29 = some 1 := by kernel_rfl
theorem g29 : agg? Tryz.prog 29 = some false := by kernel_rfl
theorem i29 : Tryz.prog.info? 29 = some Tryz.t29 := by kernel_rfl
theorem s29 : Tryz.t29.size = 1 := by kernel_rfl
theorem b29 : Tryz.t29.bytes = 24 := by kernel_rfl
theorem n29 : zeroA Tryz.prog 29 = some [.nil] := by kernel_rfl
theorem z32 : sz? Tryz.prog 32 = some 1 := by kernel_rfl
theorem g32 : agg? Tryz.prog 32 = some false := by kernel_rfl
theorem i32 : Tryz.prog.info? 32 = some Tryz.t32 := by kernel_rfl
theorem s32 : Tryz.t32.size = 1 := by kernel_rfl
theorem b32 : Tryz.t32.bytes = 24 := by kernel_rfl
theorem n32 : zeroA Tryz.prog 32 = some [.nil] := by kernel_rfl
theorem z33 : sz? Tryz.prog 33 = some 1 := by kernel_rfl
theorem g33 : agg? Tryz.prog 33 = some false := by kernel_rfl
theorem i33 : Tryz.prog.info? 33 = some Tryz.t33 := by kernel_rfl
theorem s33 : Tryz.t33.size = 1 := by kernel_rfl
theorem b33 : Tryz.t33.bytes = 24 := by kernel_rfl
theorem n33 : zeroA Tryz.prog 33 = some [.nil] := by kernel_rfl
theorem z34 : sz? Tryz.prog 34 = some 2 := by kernel_rfl
theorem g34 : agg? Tryz.prog 34 = some true := by kernel_rfl
theorem i34 : Tryz.prog.info? 34 = some Tryz.t34 := by kernel_rfl
theorem s34 : Tryz.t34.size = 2 := by kernel_rfl
theorem b34 : Tryz.t34.bytes = 48 := by kernel_rfl
theorem n34 : zeroA Tryz.prog 34 = some [.nil, .nil] := by kernel_rfl
theorem o34_0 : offA Tryz.prog 34 0 = some 0 := by kernel_rfl
theorem o34_1 : offA Tryz.prog 34 1 = some 1 := by kernel_rfl
theorem z35 : sz? Tryz.prog 35 = some 2 := by kernel_rfl
theorem g35 : agg? Tryz.prog 35 = some true := by kernel_rfl
theorem i35 : Tryz.prog.info? 35 = some Tryz.t35 := by kernel_rfl
theorem s35 : Tryz.t35.size = 2 := by kernel_rfl
theorem b35 : Tryz.t35.bytes = 48 := by kernel_rfl
theorem n35 : zeroA Tryz.prog 35 = some [.nil, .nil] := by kernel_rfl
theorem o35_0 : offA Tryz.prog 35 0 = some 0 := by kernel_rfl
theorem o35_1 : offA Tryz.prog 35 1 = some 1 := by kernel_rfl
theorem z37 : sz? Tryz.prog 37 = some 1 := by kernel_rfl
theorem g37 : agg? Tryz.prog 37 = some false := by kernel_rfl
theorem i37 : Tryz.prog.info? 37 = some Tryz.t37 := by kernel_rfl
theorem s37 : Tryz.t37.size = 1 := by kernel_rfl
theorem b37 : Tryz.t37.bytes = 24 := by kernel_rfl
theorem n37 : zeroA Tryz.prog 37 = some [.nil] := by kernel_rfl
theorem z52 : sz? Tryz.prog 52 = some 2 := by kernel_rfl
theorem g52 : agg? Tryz.prog 52 = some true := by kernel_rfl
theorem i52 : Tryz.prog.info? 52 = some Tryz.t52 := by kernel_rfl
theorem s52 : Tryz.t52.size = 2 := by kernel_rfl
theorem b52 : Tryz.t52.bytes = 32 := by kernel_rfl
theorem n52 : zeroA Tryz.prog 52 = some [.i .i64 0, .nil] := by kernel_rfl
theorem o52_0 : offA Tryz.prog 52 0 = some 0 := by kernel_rfl
theorem o52_1 : offA Tryz.prog 52 1 = some 1 := by kernel_rfl
theorem z53 : sz? Tryz.prog 53 = some 2 := by kernel_rfl
theorem g53 : agg? Tryz.prog 53 = some true := by kernel_rfl
theorem i53 : Tryz.prog.info? 53 = some Tryz.t53 := by kernel_rfl
theorem s53 : Tryz.t53.size = 2 := by kernel_rfl
theorem b53 : Tryz.t53.bytes = 32 := by kernel_rfl
theorem n53 : zeroA Tryz.prog 53 = some [.i .i64 0, .nil] := by kernel_rfl
theorem o53_0 : offA Tryz.prog 53 0 = some 0 := by kernel_rfl
theorem o53_1 : offA Tryz.prog 53 1 = some 1 := by kernel_rfl
theorem z55 : sz? Tryz.prog 55 = some 2 := by kernel_rfl
theorem g55 : agg? Tryz.prog 55 = some true := by kernel_rfl
theorem i55 : Tryz.prog.info? 55 = some Tryz.t55 := by kernel_rfl
theorem s55 : Tryz.t55.size = 2 := by kernel_rfl
theorem b55 : Tryz.t55.bytes = 32 := by kernel_rfl
theorem n55 : zeroA Tryz.prog 55 = some [.i .i64 0, .nil] := by kernel_rfl
theorem o55_0 : offA Tryz.prog 55 0 = some 0 := by kernel_rfl
theorem o55_1 : offA Tryz.prog 55 1 = some 1 := by kernel_rfl
theorem z62 : sz? Tryz.prog 62 = some 1 := by kernel_rfl
theorem g62 : agg? Tryz.prog 62 = some false := by kernel_rfl
theorem i62 : Tryz.prog.info? 62 = some Tryz.t62 := by kernel_rfl
theorem s62 : Tryz.t62.size = 1 := by kernel_rfl
theorem b62 : Tryz.t62.bytes = 24 := by kernel_rfl
theorem n62 : zeroA Tryz.prog 62 = some [.nil] := by kernel_rfl
theorem z63 : sz? Tryz.prog 63 = some 3 := by kernel_rfl
theorem g63 : agg? Tryz.prog 63 = some true := by kernel_rfl
theorem i63 : Tryz.prog.info? 63 = some Tryz.t63 := by kernel_rfl
theorem s63 : Tryz.t63.size = 3 := by kernel_rfl
theorem b63 : Tryz.t63.bytes = 40 := by kernel_rfl
theorem n63 : zeroA Tryz.prog 63 = some [.i .i64 0, .i .i64 0, .nil] := by kernel_rfl
theorem o63_0 : offA Tryz.prog 63 0 = some 0 := by kernel_rfl
theorem o63_1 : offA Tryz.prog 63 1 = some 1 := by kernel_rfl
theorem o63_2 : offA Tryz.prog 63 2 = some 2 := by kernel_rfl
theorem z64 : sz? Tryz.prog 64 = some 3 := by kernel_rfl
theorem g64 : agg? Tryz.prog 64 = some true := by kernel_rfl
theorem i64 : Tryz.prog.info? 64 = some Tryz.t64 := by kernel_rfl
theorem s64 : Tryz.t64.size = 3 := by kernel_rfl
theorem b64 : Tryz.t64.bytes = 40 := by kernel_rfl
theorem n64 : zeroA Tryz.prog 64 = some [.i .i64 0, .i .i64 0, .nil] := by kernel_rfl
theorem o64_0 : offA Tryz.prog 64 0 = some 0 := by kernel_rfl
theorem o64_1 : offA Tryz.prog 64 1 = some 1 := by kernel_rfl
theorem o64_2 : offA Tryz.prog 64 2 = some 2 := by kernel_rfl
theorem z78 : sz? Tryz.prog 78 = some 3 := by kernel_rfl
theorem g78 : agg? Tryz.prog 78 = some true := by kernel_rfl
theorem i78 : Tryz.prog.info? 78 = some Tryz.t78 := by kernel_rfl
theorem s78 : Tryz.t78.size = 3 := by kernel_rfl
theorem b78 : Tryz.t78.bytes = 40 := by kernel_rfl
theorem n78 : zeroA Tryz.prog 78 = some [.nil, .i .i64 0, .b false] := by kernel_rfl
theorem o78_0 : offA Tryz.prog 78 0 = some 0 := by kernel_rfl
theorem o78_1 : offA Tryz.prog 78 1 = some 1 := by kernel_rfl
theorem o78_2 : offA Tryz.prog 78 2 = some 2 := by kernel_rfl
theorem z79 : sz? Tryz.prog 79 = some 3 := by kernel_rfl
theorem g79 : agg? Tryz.prog 79 = some true := by kernel_rfl
theorem i79 : Tryz.prog.info? 79 = some Tryz.t79 := by kernel_rfl
theorem s79 : Tryz.t79.size = 3 := by kernel_rfl
theorem b79 : Tryz.t79.bytes = 40 := by kernel_rfl
theorem n79 : zeroA Tryz.prog 79 = some [.nil, .i .i64 0, .b false] := by kernel_rfl
theorem o79_0 : offA Tryz.prog 79 0 = some 0 := by kernel_rfl
theorem o79_1 : offA Tryz.prog 79 1 = some 1 := by kernel_rfl
theorem o79_2 : offA Tryz.prog 79 2 = some 2 := by kernel_rfl
theorem z110 : sz? Tryz.prog 110 = some 1 := by kernel_rfl
theorem g110 : agg? Tryz.prog 110 = some false := by kernel_rfl
theorem i110 : Tryz.prog.info? 110 = some Tryz.t110 := by kernel_rfl
theorem s110 : Tryz.t110.size = 1 := by kernel_rfl
theorem b110 : Tryz.t110.bytes = 24 := by kernel_rfl
theorem n110 : zeroA Tryz.prog 110 = some [.nil] := by kernel_rfl
theorem z113 : sz? Tryz.prog 113 = some 3 := by kernel_rfl
theorem g113 : agg? Tryz.prog 113 = some true := by kernel_rfl
theorem i113 : Tryz.prog.info? 113 = some Tryz.t113 := by kernel_rfl
theorem s113 : Tryz.t113.size = 3 := by kernel_rfl
theorem b113 : Tryz.t113.bytes = 40 := by kernel_rfl
theorem n113 : zeroA Tryz.prog 113 = some [.nil, .i .i64 0, .b false] := by kernel_rfl
theorem o113_0 : offA Tryz.prog 113 0 = some 0 := by kernel_rfl
theorem o113_1 : offA Tryz.prog 113 1 = some 1 := by kernel_rfl
theorem o113_2 : offA Tryz.prog 113 2 = some 2 := by kernel_rfl
theorem z114 : sz? Tryz.prog 114 = some 3 := by kernel_rfl
theorem g114 : agg? Tryz.prog 114 = some true := by kernel_rfl
theorem i114 : Tryz.prog.info? 114 = some Tryz.t114 := by kernel_rfl
theorem s114 : Tryz.t114.size = 3 := by kernel_rfl
theorem b114 : Tryz.t114.bytes = 40 := by kernel_rfl
theorem n114 : zeroA Tryz.prog 114 = some [.nil, .i .i64 0, .b false] := by kernel_rfl
theorem o114_0 : offA Tryz.prog 114 0 = some 0 := by kernel_rfl
theorem o114_1 : offA Tryz.prog 114 1 = some 1 := by kernel_rfl
theorem o114_2 : offA Tryz.prog 114 2 = some 2 := by kernel_rfl
theorem z116 : sz? Tryz.prog 116 = some 2 := by kernel_rfl
theorem g116 : agg? Tryz.prog 116 = some true := by kernel_rfl
theorem i116 : Tryz.prog.info? 116 = some Tryz.t116 := by kernel_rfl
theorem s116 : Tryz.t116.size = 2 := by kernel_rfl
theorem b116 : Tryz.t116.bytes = 16 := by kernel_rfl
theorem n116 : zeroA Tryz.prog 116 = some [.i .i64 0, .i .i64 0] := by kernel_rfl
theorem o116_0 : offA Tryz.prog 116 0 = some 0 := by kernel_rfl
theorem o116_1 : offA Tryz.prog 116 1 = some 1 := by kernel_rfl
theorem z117 : sz? Tryz.prog 117 = some 2 := by kernel_rfl
theorem g117 : agg? Tryz.prog 117 = some true := by kernel_rfl
theorem i117 : Tryz.prog.info? 117 = some Tryz.t117 := by kernel_rfl
theorem s117 : Tryz.t117.size = 2 := by kernel_rfl
theorem b117 : Tryz.t117.bytes = 16 := by kernel_rfl
theorem n117 : zeroA Tryz.prog 117 = some [.i .i64 0, .i .i64 0] := by kernel_rfl
theorem o117_0 : offA Tryz.prog 117 0 = some 0 := by kernel_rfl
theorem o117_1 : offA Tryz.prog 117 1 = some 1 := by kernel_rfl
theorem z119 : sz? Tryz.prog 119 = some 2 := by kernel_rfl
theorem g119 : agg? Tryz.prog 119 = some true := by kernel_rfl
theorem i119 : Tryz.prog.info? 119 = some Tryz.t119 := by kernel_rfl
theorem s119 : Tryz.t119.size = 2 := by kernel_rfl
theorem b119 : Tryz.t119.bytes = 16 := by kernel_rfl
theorem n119 : zeroA Tryz.prog 119 = some [.i .i64 0, .i .i64 0] := by kernel_rfl
theorem o119_0 : offA Tryz.prog 119 0 = some 0 := by kernel_rfl
theorem o119_1 : offA Tryz.prog 119 1 = some 1 := by kernel_rfl
theorem z126 : sz? Tryz.prog 126 = some 1 := by kernel_rfl
theorem g126 : agg? Tryz.prog 126 = some false := by kernel_rfl
theorem i126 : Tryz.prog.info? 126 = some Tryz.t126 := by kernel_rfl
theorem s126 : Tryz.t126.size = 1 := by kernel_rfl
theorem b126 : Tryz.t126.bytes = 24 := by kernel_rfl
theorem n126 : zeroA Tryz.prog 126 = some [.nil] := by kernel_rfl
theorem z162 : sz? Tryz.prog 162 = some 1 := by kernel_rfl
theorem g162 : agg? Tryz.prog 162 = some false := by kernel_rfl
theorem i162 : Tryz.prog.info? 162 = some Tryz.t162 := by kernel_rfl
theorem s162 : Tryz.t162.size = 1 := by kernel_rfl
theorem b162 : Tryz.t162.bytes = 8 := by kernel_rfl
theorem n162 : zeroA Tryz.prog 162 = some [.i .u64 0] := by kernel_rfl
theorem z175 : sz? Tryz.prog 175 = some 1 := by kernel_rfl
theorem g175 : agg? Tryz.prog 175 = some false := by kernel_rfl
theorem i175 : Tryz.prog.info? 175 = some Tryz.t175 := by kernel_rfl
theorem s175 : Tryz.t175.size = 1 := by kernel_rfl
theorem b175 : Tryz.t175.bytes = 24 := by kernel_rfl
theorem n175 : zeroA Tryz.prog 175 = some [.nil] := by kernel_rfl
theorem z188 : sz? Tryz.prog 188 = some 1 := by kernel_rfl
theorem g188 : agg? Tryz.prog 188 = some false := by kernel_rfl
theorem i188 : Tryz.prog.info? 188 = some Tryz.t188 := by kernel_rfl
theorem s188 : Tryz.t188.size = 1 := by kernel_rfl
theorem b188 : Tryz.t188.bytes = 4 := by kernel_rfl
theorem n188 : zeroA Tryz.prog 188 = some [.i .u32 0] := by kernel_rfl
theorem z190 : sz? Tryz.prog 190 = some 1 := by kernel_rfl
theorem g190 : agg? Tryz.prog 190 = some false := by kernel_rfl
theorem i190 : Tryz.prog.info? 190 = some Tryz.t190 := by kernel_rfl
theorem s190 : Tryz.t190.size = 1 := by kernel_rfl
theorem b190 : Tryz.t190.bytes = 8 := by kernel_rfl
theorem n190 : zeroA Tryz.prog 190 = some [.i .u64 0] := by kernel_rfl
theorem z200 : sz? Tryz.prog 200 = some 1 := by kernel_rfl
theorem g200 : agg? Tryz.prog 200 = some false := by kernel_rfl
theorem i200 : Tryz.prog.info? 200 = some Tryz.t200 := by kernel_rfl
theorem s200 : Tryz.t200.size = 1 := by kernel_rfl
theorem b200 : Tryz.t200.bytes = 24 := by kernel_rfl
theorem n200 : zeroA Tryz.prog 200 = some [.nil] := by kernel_rfl
theorem z201 : sz? Tryz.prog 201 = some 1 := by kernel_rfl
theorem g201 : agg? Tryz.prog 201 = some false := by kernel_rfl
theorem i201 : Tryz.prog.info? 201 = some Tryz.t201 := by kernel_rfl
theorem s201 : Tryz.t201.size = 1 := by kernel_rfl
theorem b201 : Tryz.t201.bytes = 8 := by kernel_rfl
theorem n201 : zeroA Tryz.prog 201 = some [.i .u64 0] := by kernel_rfl
theorem h116 : Program.stoodInHeld Tryz.prog 116 = false := by kernel_rfl
theorem q116 : Program.eqGuardType Tryz.prog (Program.depth Tryz.prog) 116 = false := by kernel_rfl
theorem e116 (a b c d : Int) : eqAggA Tryz.prog 116 [.i .i64 a, .i .i64 b] [.i .i64 c, .i .i64 d] = some ((a == c) && (b == d)) := by
  unfold eqAggA; rw [Tryz.underlying116]; simp [h116, q116, eqFieldsA, eqScal, Tryz.underlying2, Tryz.underlying3, Tryz.underlying5, Tryz.underlying162, Tryz.underlying188, Tryz.underlying190, Tryz.underlying201]
theorem h117 : Program.stoodInHeld Tryz.prog 117 = false := by kernel_rfl
theorem q117 : Program.eqGuardType Tryz.prog (Program.depth Tryz.prog) 117 = false := by kernel_rfl
theorem e117 (a b c d : Int) : eqAggA Tryz.prog 117 [.i .i64 a, .i .i64 b] [.i .i64 c, .i .i64 d] = some ((a == c) && (b == d)) := by
  unfold eqAggA; rw [Tryz.underlying117]; simp [h117, q117, eqFieldsA, eqScal, Tryz.underlying2, Tryz.underlying3, Tryz.underlying5, Tryz.underlying162, Tryz.underlying188, Tryz.underlying190, Tryz.underlying201]
theorem h119 : Program.stoodInHeld Tryz.prog 119 = false := by kernel_rfl
theorem q119 : Program.eqGuardType Tryz.prog (Program.depth Tryz.prog) 119 = false := by kernel_rfl
theorem e119 (a b c d : Int) : eqAggA Tryz.prog 119 [.i .i64 a, .i .i64 b] [.i .i64 c, .i .i64 d] = some ((a == c) && (b == d)) := by
  unfold eqAggA; rw [Tryz.underlying119]; simp [h119, q119, eqFieldsA, eqScal, Tryz.underlying2, Tryz.underlying3, Tryz.underlying5, Tryz.underlying162, Tryz.underlying188, Tryz.underlying190, Tryz.underlying201]
set_option maxRecDepth 10000 in
theorem all : (sz? Tryz.prog 2 = some 1) ∧ (agg? Tryz.prog 2 = some false) ∧ (Tryz.prog.info? 2 = some Tryz.t2) ∧ (Tryz.t2.size = 1) ∧ (Tryz.t2.bytes = 8) ∧ (zeroA Tryz.prog 2 = some [.i .i64 0]) ∧ (sz? Tryz.prog 3 = some 1) ∧ (agg? Tryz.prog 3 = some false) ∧ (Tryz.prog.info? 3 = some Tryz.t3) ∧ (Tryz.t3.size = 1) ∧ (Tryz.t3.bytes = 8) ∧ (zeroA Tryz.prog 3 = some [.i .i64 0]) ∧ (sz? Tryz.prog 4 = some 1) ∧ (agg? Tryz.prog 4 = some false) ∧ (Tryz.prog.info? 4 = some Tryz.t4) ∧ (Tryz.t4.size = 1) ∧ (Tryz.t4.bytes = 1) ∧ (zeroA Tryz.prog 4 = some [.b false]) ∧ (sz? Tryz.prog 5 = some 1) ∧ (agg? Tryz.prog 5 = some false) ∧ (Tryz.prog.info? 5 = some Tryz.t5) ∧ (Tryz.t5.size = 1) ∧ (Tryz.t5.bytes = 1) ∧ (zeroA Tryz.prog 5 = some [.i .u8 0]) ∧ (sz? Tryz.prog 9 = some 1) ∧ (agg? Tryz.prog 9 = some false) ∧ (Tryz.prog.info? 9 = some Tryz.t9) ∧ (Tryz.t9.size = 1) ∧ (Tryz.t9.bytes = 16) ∧ (sz? Tryz.prog 22 = some 1) ∧ (agg? Tryz.prog 22 = some false) ∧ (Tryz.prog.info? 22 = some Tryz.t22) ∧ (Tryz.t22.size = 1) ∧ (Tryz.t22.bytes = 24) ∧ (zeroA Tryz.prog 22 = some [.nil]) ∧ (sz? Tryz.prog 23 = some 1) ∧ (agg? Tryz.prog 23 = some false) ∧ (Tryz.prog.info? 23 = some Tryz.t23) ∧ (Tryz.t23.size = 1) ∧ (Tryz.t23.bytes = 24) ∧ (zeroA Tryz.prog 23 = some [.nil]) ∧ (sz? Tryz.prog 24 = some 2) ∧ (agg? Tryz.prog 24 = some true) ∧ (Tryz.prog.info? 24 = some Tryz.t24) ∧ (Tryz.t24.size = 2) ∧ (Tryz.t24.bytes = 48) ∧ (zeroA Tryz.prog 24 = some [.nil, .nil]) ∧ (offA Tryz.prog 24 0 = some 0) ∧ (offA Tryz.prog 24 1 = some 1) ∧ (sz? Tryz.prog 25 = some 2) ∧ (agg? Tryz.prog 25 = some true) ∧ (Tryz.prog.info? 25 = some Tryz.t25) ∧ (Tryz.t25.size = 2) ∧ (Tryz.t25.bytes = 48) ∧ (zeroA Tryz.prog 25 = some [.nil, .nil]) ∧ (offA Tryz.prog 25 0 = some 0) ∧ (offA Tryz.prog 25 1 = some 1) ∧ (sz? Tryz.prog 26 = some 1) ∧ (agg? Tryz.prog 26 = some false) ∧ (Tryz.prog.info? 26 = some Tryz.t26) ∧ (Tryz.t26.size = 1) ∧ (Tryz.t26.bytes = 24) ∧ (zeroA Tryz.prog 26 = some [.nil]) ∧ (sz? Tryz.prog 29 = some 1) ∧ (agg? Tryz.prog 29 = some false) ∧ (Tryz.prog.info? 29 = some Tryz.t29) ∧ (Tryz.t29.size = 1) ∧ (Tryz.t29.bytes = 24) ∧ (zeroA Tryz.prog 29 = some [.nil]) ∧ (sz? Tryz.prog 32 = some 1) ∧ (agg? Tryz.prog 32 = some false) ∧ (Tryz.prog.info? 32 = some Tryz.t32) ∧ (Tryz.t32.size = 1) ∧ (Tryz.t32.bytes = 24) ∧ (zeroA Tryz.prog 32 = some [.nil]) ∧ (sz? Tryz.prog 33 = some 1) ∧ (agg? Tryz.prog 33 = some false) ∧ (Tryz.prog.info? 33 = some Tryz.t33) ∧ (Tryz.t33.size = 1) ∧ (Tryz.t33.bytes = 24) ∧ (zeroA Tryz.prog 33 = some [.nil]) ∧ (sz? Tryz.prog 34 = some 2) ∧ (agg? Tryz.prog 34 = some true) ∧ (Tryz.prog.info? 34 = some Tryz.t34) ∧ (Tryz.t34.size = 2) ∧ (Tryz.t34.bytes = 48) ∧ (zeroA Tryz.prog 34 = some [.nil, .nil]) ∧ (offA Tryz.prog 34 0 = some 0) ∧ (offA Tryz.prog 34 1 = some 1) ∧ (sz? Tryz.prog 35 = some 2) ∧ (agg? Tryz.prog 35 = some true) ∧ (Tryz.prog.info? 35 = some Tryz.t35) ∧ (Tryz.t35.size = 2) ∧ (Tryz.t35.bytes = 48) ∧ (zeroA Tryz.prog 35 = some [.nil, .nil]) ∧ (offA Tryz.prog 35 0 = some 0) ∧ (offA Tryz.prog 35 1 = some 1) ∧ (sz? Tryz.prog 37 = some 1) ∧ (agg? Tryz.prog 37 = some false) ∧ (Tryz.prog.info? 37 = some Tryz.t37) ∧ (Tryz.t37.size = 1) ∧ (Tryz.t37.bytes = 24) ∧ (zeroA Tryz.prog 37 = some [.nil]) ∧ (sz? Tryz.prog 52 = some 2) ∧ (agg? Tryz.prog 52 = some true) ∧ (Tryz.prog.info? 52 = some Tryz.t52) ∧ (Tryz.t52.size = 2) ∧ (Tryz.t52.bytes = 32) ∧ (zeroA Tryz.prog 52 = some [.i .i64 0, .nil]) ∧ (offA Tryz.prog 52 0 = some 0) ∧ (offA Tryz.prog 52 1 = some 1) ∧ (sz? Tryz.prog 53 = some 2) ∧ (agg? Tryz.prog 53 = some true) ∧ (Tryz.prog.info? 53 = some Tryz.t53) ∧ (Tryz.t53.size = 2) ∧ (Tryz.t53.bytes = 32) ∧ (zeroA Tryz.prog 53 = some [.i .i64 0, .nil]) ∧ (offA Tryz.prog 53 0 = some 0) ∧ (offA Tryz.prog 53 1 = some 1) ∧ (sz? Tryz.prog 55 = some 2) ∧ (agg? Tryz.prog 55 = some true) ∧ (Tryz.prog.info? 55 = some Tryz.t55) ∧ (Tryz.t55.size = 2) ∧ (Tryz.t55.bytes = 32) ∧ (zeroA Tryz.prog 55 = some [.i .i64 0, .nil]) ∧ (offA Tryz.prog 55 0 = some 0) ∧ (offA Tryz.prog 55 1 = some 1) ∧ (sz? Tryz.prog 62 = some 1) ∧ (agg? Tryz.prog 62 = some false) ∧ (Tryz.prog.info? 62 = some Tryz.t62) ∧ (Tryz.t62.size = 1) ∧ (Tryz.t62.bytes = 24) ∧ (zeroA Tryz.prog 62 = some [.nil]) ∧ (sz? Tryz.prog 63 = some 3) ∧ (agg? Tryz.prog 63 = some true) ∧ (Tryz.prog.info? 63 = some Tryz.t63) ∧ (Tryz.t63.size = 3) ∧ (Tryz.t63.bytes = 40) ∧ (zeroA Tryz.prog 63 = some [.i .i64 0, .i .i64 0, .nil]) ∧ (offA Tryz.prog 63 0 = some 0) ∧ (offA Tryz.prog 63 1 = some 1) ∧ (offA Tryz.prog 63 2 = some 2) ∧ (sz? Tryz.prog 64 = some 3) ∧ (agg? Tryz.prog 64 = some true) ∧ (Tryz.prog.info? 64 = some Tryz.t64) ∧ (Tryz.t64.size = 3) ∧ (Tryz.t64.bytes = 40) ∧ (zeroA Tryz.prog 64 = some [.i .i64 0, .i .i64 0, .nil]) ∧ (offA Tryz.prog 64 0 = some 0) ∧ (offA Tryz.prog 64 1 = some 1) ∧ (offA Tryz.prog 64 2 = some 2) ∧ (sz? Tryz.prog 78 = some 3) ∧ (agg? Tryz.prog 78 = some true) ∧ (Tryz.prog.info? 78 = some Tryz.t78) ∧ (Tryz.t78.size = 3) ∧ (Tryz.t78.bytes = 40) ∧ (zeroA Tryz.prog 78 = some [.nil, .i .i64 0, .b false]) ∧ (offA Tryz.prog 78 0 = some 0) ∧ (offA Tryz.prog 78 1 = some 1) ∧ (offA Tryz.prog 78 2 = some 2) ∧ (sz? Tryz.prog 79 = some 3) ∧ (agg? Tryz.prog 79 = some true) ∧ (Tryz.prog.info? 79 = some Tryz.t79) ∧ (Tryz.t79.size = 3) ∧ (Tryz.t79.bytes = 40) ∧ (zeroA Tryz.prog 79 = some [.nil, .i .i64 0, .b false]) ∧ (offA Tryz.prog 79 0 = some 0) ∧ (offA Tryz.prog 79 1 = some 1) ∧ (offA Tryz.prog 79 2 = some 2) ∧ (sz? Tryz.prog 110 = some 1) ∧ (agg? Tryz.prog 110 = some false) ∧ (Tryz.prog.info? 110 = some Tryz.t110) ∧ (Tryz.t110.size = 1) ∧ (Tryz.t110.bytes = 24) ∧ (zeroA Tryz.prog 110 = some [.nil]) ∧ (sz? Tryz.prog 113 = some 3) ∧ (agg? Tryz.prog 113 = some true) ∧ (Tryz.prog.info? 113 = some Tryz.t113) ∧ (Tryz.t113.size = 3) ∧ (Tryz.t113.bytes = 40) ∧ (zeroA Tryz.prog 113 = some [.nil, .i .i64 0, .b false]) ∧ (offA Tryz.prog 113 0 = some 0) ∧ (offA Tryz.prog 113 1 = some 1) ∧ (offA Tryz.prog 113 2 = some 2) ∧ (sz? Tryz.prog 114 = some 3) ∧ (agg? Tryz.prog 114 = some true) ∧ (Tryz.prog.info? 114 = some Tryz.t114) ∧ (Tryz.t114.size = 3) ∧ (Tryz.t114.bytes = 40) ∧ (zeroA Tryz.prog 114 = some [.nil, .i .i64 0, .b false]) ∧ (offA Tryz.prog 114 0 = some 0) ∧ (offA Tryz.prog 114 1 = some 1) ∧ (offA Tryz.prog 114 2 = some 2) ∧ (sz? Tryz.prog 116 = some 2) ∧ (agg? Tryz.prog 116 = some true) ∧ (Tryz.prog.info? 116 = some Tryz.t116) ∧ (Tryz.t116.size = 2) ∧ (Tryz.t116.bytes = 16) ∧ (zeroA Tryz.prog 116 = some [.i .i64 0, .i .i64 0]) ∧ (offA Tryz.prog 116 0 = some 0) ∧ (offA Tryz.prog 116 1 = some 1) ∧ (sz? Tryz.prog 117 = some 2) ∧ (agg? Tryz.prog 117 = some true) ∧ (Tryz.prog.info? 117 = some Tryz.t117) ∧ (Tryz.t117.size = 2) ∧ (Tryz.t117.bytes = 16) ∧ (zeroA Tryz.prog 117 = some [.i .i64 0, .i .i64 0]) ∧ (offA Tryz.prog 117 0 = some 0) ∧ (offA Tryz.prog 117 1 = some 1) ∧ (sz? Tryz.prog 119 = some 2) ∧ (agg? Tryz.prog 119 = some true) ∧ (Tryz.prog.info? 119 = some Tryz.t119) ∧ (Tryz.t119.size = 2) ∧ (Tryz.t119.bytes = 16) ∧ (zeroA Tryz.prog 119 = some [.i .i64 0, .i .i64 0]) ∧ (offA Tryz.prog 119 0 = some 0) ∧ (offA Tryz.prog 119 1 = some 1) ∧ (sz? Tryz.prog 126 = some 1) ∧ (agg? Tryz.prog 126 = some false) ∧ (Tryz.prog.info? 126 = some Tryz.t126) ∧ (Tryz.t126.size = 1) ∧ (Tryz.t126.bytes = 24) ∧ (zeroA Tryz.prog 126 = some [.nil]) ∧ (sz? Tryz.prog 162 = some 1) ∧ (agg? Tryz.prog 162 = some false) ∧ (Tryz.prog.info? 162 = some Tryz.t162) ∧ (Tryz.t162.size = 1) ∧ (Tryz.t162.bytes = 8) ∧ (zeroA Tryz.prog 162 = some [.i .u64 0]) ∧ (sz? Tryz.prog 175 = some 1) ∧ (agg? Tryz.prog 175 = some false) ∧ (Tryz.prog.info? 175 = some Tryz.t175) ∧ (Tryz.t175.size = 1) ∧ (Tryz.t175.bytes = 24) ∧ (zeroA Tryz.prog 175 = some [.nil]) ∧ (sz? Tryz.prog 188 = some 1) ∧ (agg? Tryz.prog 188 = some false) ∧ (Tryz.prog.info? 188 = some Tryz.t188) ∧ (Tryz.t188.size = 1) ∧ (Tryz.t188.bytes = 4) ∧ (zeroA Tryz.prog 188 = some [.i .u32 0]) ∧ (sz? Tryz.prog 190 = some 1) ∧ (agg? Tryz.prog 190 = some false) ∧ (Tryz.prog.info? 190 = some Tryz.t190) ∧ (Tryz.t190.size = 1) ∧ (Tryz.t190.bytes = 8) ∧ (zeroA Tryz.prog 190 = some [.i .u64 0]) ∧ (sz? Tryz.prog 200 = some 1) ∧ (agg? Tryz.prog 200 = some false) ∧ (Tryz.prog.info? 200 = some Tryz.t200) ∧ (Tryz.t200.size = 1) ∧ (Tryz.t200.bytes = 24) ∧ (zeroA Tryz.prog 200 = some [.nil]) ∧ (sz? Tryz.prog 201 = some 1) ∧ (agg? Tryz.prog 201 = some false) ∧ (Tryz.prog.info? 201 = some Tryz.t201) ∧ (Tryz.t201.size = 1) ∧ (Tryz.t201.bytes = 8) ∧ (zeroA Tryz.prog 201 = some [.i .u64 0]) ∧ (Program.stoodInHeld Tryz.prog 116 = false) ∧ (Program.eqGuardType Tryz.prog (Program.depth Tryz.prog) 116 = false) ∧ (Program.stoodInHeld Tryz.prog 117 = false) ∧ (Program.eqGuardType Tryz.prog (Program.depth Tryz.prog) 117 = false) ∧ (Program.stoodInHeld Tryz.prog 119 = false) ∧ (Program.eqGuardType Tryz.prog (Program.depth Tryz.prog) 119 = false) := ⟨z2, g2, i2, s2, b2, n2, z3, g3, i3, s3, b3, n3, z4, g4, i4, s4, b4, n4, z5, g5, i5, s5, b5, n5, z9, g9, i9, s9, b9, z22, g22, i22, s22, b22, n22, z23, g23, i23, s23, b23, n23, z24, g24, i24, s24, b24, n24, o24_0, o24_1, z25, g25, i25, s25, b25, n25, o25_0, o25_1, z26, g26, i26, s26, b26, n26, z29, g29, i29, s29, b29, n29, z32, g32, i32, s32, b32, n32, z33, g33, i33, s33, b33, n33, z34, g34, i34, s34, b34, n34, o34_0, o34_1, z35, g35, i35, s35, b35, n35, o35_0, o35_1, z37, g37, i37, s37, b37, n37, z52, g52, i52, s52, b52, n52, o52_0, o52_1, z53, g53, i53, s53, b53, n53, o53_0, o53_1, z55, g55, i55, s55, b55, n55, o55_0, o55_1, z62, g62, i62, s62, b62, n62, z63, g63, i63, s63, b63, n63, o63_0, o63_1, o63_2, z64, g64, i64, s64, b64, n64, o64_0, o64_1, o64_2, z78, g78, i78, s78, b78, n78, o78_0, o78_1, o78_2, z79, g79, i79, s79, b79, n79, o79_0, o79_1, o79_2, z110, g110, i110, s110, b110, n110, z113, g113, i113, s113, b113, n113, o113_0, o113_1, o113_2, z114, g114, i114, s114, b114, n114, o114_0, o114_1, o114_2, z116, g116, i116, s116, b116, n116, o116_0, o116_1, z117, g117, i117, s117, b117, n117, o117_0, o117_1, z119, g119, i119, s119, b119, n119, o119_0, o119_1, z126, g126, i126, s126, b126, n126, z162, g162, i162, s162, b162, n162, z175, g175, i175, s175, b175, n175, z188, g188, i188, s188, b188, n188, z190, g190, i190, s190, b190, n190, z200, g200, i200, s200, b200, n200, z201, g201, i201, s201, b201, n201, h116, q116, h117, q117, h119, q119⟩
end Go.Proofs.BT
