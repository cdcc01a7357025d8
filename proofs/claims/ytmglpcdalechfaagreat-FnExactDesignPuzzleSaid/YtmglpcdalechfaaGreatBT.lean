/- Facts of the program's types. No condition. -/
import Derived.Test.YtmglpcdalechfaaGreatBigS
import Derived.Test.YtmglpcdalechfaaGreatProg
set_option linter.unusedVariables false
set_option linter.unusedSimpArgs false
open Go Go.Big
namespace Go.Proofs.BT
theorem z2 : sz? Tryz.prog 2 = some 1 := by kernel_rfl
theorem g2 : agg? Tryz.prog 2 = some false := by kernel_rfl
theorem i2 : Tryz.prog.info? 2 = some Tryz.t2 := by kernel_rfl
theorem s2 : Tryz.t2.size = 1 := by kernel_rfl
theorem b2 : Tryz.t2.bytes = 8 := by kernel_rfl
theorem n2 : zeroA Tryz.prog 2 = some [.i .i64 0] := by kernel_rfl
theorem z3 : sz? Tryz.prog 3 = some 1 := by kernel_rfl
theorem g3 : agg? Tryz.prog 3 = some false := by kernel_rfl
theorem i3 : Tryz.prog.info? 3 = some Tryz.t3 := by kernel_rfl
theorem s3 : Tryz.t3.size = 1 := by kernel_rfl
theorem b3 : Tryz.t3.bytes = 8 := by kernel_rfl
theorem n3 : zeroA Tryz.prog 3 = some [.i .i64 0] := by kernel_rfl
theorem z4 : sz? Tryz.prog 4 = some 1 := by kernel_rfl
theorem g4 : agg? Tryz.prog 4 = some false := by kernel_rfl
theorem i4 : Tryz.prog.info? 4 = some Tryz.t4 := by kernel_rfl
theorem s4 : Tryz.t4.size = 1 := by kernel_rfl
theorem b4 : Tryz.t4.bytes = 1 := by kernel_rfl
theorem n4 : zeroA Tryz.prog 4 = some [.b false] := by kernel_rfl
theorem z5 : sz? Tryz.prog 5 = some 1 := by kernel_rfl
theorem g5 : agg? Tryz.prog 5 = some false := by kernel_rfl
theorem i5 : Tryz.prog.info? 5 = some Tryz.t5 := by kernel_rfl
theorem s5 : Tryz.t5.size = 1 := by kernel_rfl
theorem b5 : Tryz.t5.bytes = 1 := by kernel_rfl
theorem n5 : zeroA Tryz.prog 5 = some [.i .u8 0] := by kernel_rfl
theorem z9 : sz? Tryz.prog 9 = some 1 := by kernel_rfl
theorem g9 : agg? Tryz.prog 9 = some false := by kernel_rfl
theorem i9 : Tryz.prog.info? 9 = some Tryz.t9 := by kernel_rfl
theorem s9 : Tryz.t9.size = 1 := by kernel_rfl
theorem b9 : Tryz.t9.bytes = 16 := by kernel_rfl
theorem z22 : sz? Tryz.prog 22 = some 1 := by kernel_rfl
theorem g22 : agg? Tryz.prog 22 = some false := by kernel_rfl
theorem i22 : Tryz.prog.info? 22 = some Tryz.t22 := by kernel_rfl
theorem s22 : Tryz.t22.size = 1 := by kernel_rfl
theorem b22 : Tryz.t22.bytes = 24 := by kernel_rfl
theorem n22 : zeroA Tryz.prog 22 = some [.nil] := by kernel_rfl
theorem z23 : sz? Tryz.prog 23 = some 1 := by kernel_rfl
theorem g23 : agg? Tryz.prog 23 = some false := by kernel_rfl
theorem i23 : Tryz.prog.info? 23 = some Tryz.t23 := by kernel_rfl
theorem s23 : Tryz.t23.size = 1 := by kernel_rfl
theorem b23 : Tryz.t23.bytes = 24 := by kernel_rfl
theorem n23 : zeroA Tryz.prog 23 = some [.nil] := by kernel_rfl
theorem z24 : sz? Tryz.prog 24 = some 2 := by kernel_rfl
theorem g24 : agg? Tryz.prog 24 = some true := by kernel_rfl
theorem i24 : Tryz.prog.info? 24 = some Tryz.t24 := by kernel_rfl
theorem s24 : Tryz.t24.size = 2 := by kernel_rfl
theorem b24 : Tryz.t24.bytes = 48 := by kernel_rfl
theorem n24 : zeroA Tryz.prog 24 = some [.nil, .nil] := by kernel_rfl
theorem o24_0 : offA Tryz.prog 24 0 = some 0 := by kernel_rfl
theorem o24_1 : offA Tryz.prog 24 1 = some 1 := by kernel_rfl
theorem z25 : sz? Tryz.prog 25 = some 2 := by kernel_rfl
theorem g25 : agg? Tryz.prog 25 = some true := by kernel_rfl
theorem i25 : Tryz.prog.info? 25 = some Tryz.t25 := by kernel_rfl
theorem s25 : Tryz.t25.size = 2 := by kernel_rfl
theorem b25 : Tryz.t25.bytes = 48 := by kernel_rfl
theorem n25 : zeroA Tryz.prog 25 = some [.nil, .nil] := by kernel_rfl
theorem o25_0 : offA Tryz.prog 25 0 = some 0 := by kernel_rfl
theorem o25_1 : offA Tryz.prog 25 1 = some 1 := by kernel_rfl
theorem z27 : sz? Tryz.prog 27 = some 1 := by kernel_rfl
theorem g27 : agg? Tryz.prog 27 = some false := by kernel_rfl
theorem i27 : Tryz.prog.info? 27 = some Tryz.t27 := by kernel_rfl
theorem s27 : Tryz.t27.size = 1 := by kernel_rfl
theorem b27 : Tryz.t27.bytes = 24 := by kernel_rfl
theorem n27 : zeroA Tryz.prog 27 = some [.nil] := by kernel_rfl
theorem z28 : sz? Tryz.prog 28 = some 3 := by kernel_rfl
theorem g28 : agg? Tryz.prog 28 = some true := by kernel_rfl
theorem i28 : Tryz.prog.info? 28 = some Tryz.t28 := by kernel_rfl
theorem s28 : Tryz.t28.size = 3 := by kernel_rfl
theorem b28 : Tryz.t28.bytes = 40 := by kernel_rfl
theorem n28 : zeroA Tryz.prog 28 = some [.i .i64 0, .i .i64 0, .nil] := by kernel_rfl
theorem o28_0 : offA Tryz.prog 28 0 = some 0 := by kernel_rfl
theorem o28_1 : offA Tryz.prog 28 1 = some 1 := by kernel_rfl
theorem o28_2 : offA Tryz.prog 28 2 = some 2 := by kernel_rfl
theorem z29 : sz? Tryz.prog 29 = some 3 := by kernel_rfl
theorem g29 : agg? Tryz.prog 29 = some true := by kernel_rfl
theorem i29 : Tryz.prog.info? 29 = some Tryz.t29 := by kernel_rfl
theorem s29 : Tryz.t29.size = 3 := by kernel_rfl
theorem b29 : Tryz.t29.bytes = 40 := by kernel_rfl
theorem n29 : zeroA Tryz.prog 29 = some [.i .i64 0, .i .i64 0, .nil] := by kernel_rfl
theorem o29_0 : offA Tryz.prog 29 0 = some 0 := by kernel_rfl
theorem o29_1 : offA Tryz.prog 29 1 = some 1 := by kernel_rfl
theorem o29_2 : offA Tryz.prog 29 2 = some 2 := by kernel_rfl
theorem z32 : sz? Tryz.prog 32 = some 1 := by kernel_rfl
theorem g32 : agg? Tryz.prog 32 = some false := by kernel_rfl
theorem i32 : Tryz.prog.info? 32 = some Tryz.t32 := by kernel_rfl
theorem s32 : Tryz.t32.size = 1 := by kernel_rfl
theorem b32 : Tryz.t32.bytes = 24 := by kernel_rfl
theorem n32 : zeroA Tryz.prog 32 = some [.nil] := by kernel_rfl
theorem z33 : sz? Tryz.prog 33 = some 1 := by kernel_rfl
theorem g33 : agg? Tryz.prog 33 = some false := by kernel_rfl
theorem i33 : Tryz.prog.info? 33 = some Tryz.t33 := by kernel_rfl
theorem s33 : Tryz.t33.size = 1 := by kernel_rfl
theorem b33 : Tryz.t33.bytes = 24 := by kernel_rfl
theorem n33 : zeroA Tryz.prog 33 = some [.nil] := by kernel_rfl
theorem z34 : sz? Tryz.prog 34 = some 2 := by kernel_rfl
theorem g34 : agg? Tryz.prog 34 = some true := by kernel_rfl
theorem i34 : Tryz.prog.info? 34 = some Tryz.t34 := by kernel_rfl
theorem s34 : Tryz.t34.size = 2 := by kernel_rfl
theorem b34 : Tryz.t34.bytes = 48 := by kernel_rfl
theorem n34 : zeroA Tryz.prog 34 = some [.nil, .nil] := by kernel_rfl
theorem o34_0 : offA Tryz.prog 34 0 = some 0 := by kernel_rfl
theorem o34_1 : offA Tryz.prog 34 1 = some 1 := by kernel_rfl
theorem z35 : sz? Tryz.prog 35 = some 2 := by kernel_rfl
theorem g35 : agg? Tryz.prog 35 = some true := by kernel_rfl
theorem i35 : Tryz.prog.info? 35 = some Tryz.t35 := by kernel_rfl
theorem s35 : Tryz.t35.size = 2 := by kernel_rfl
theorem b35 : Tryz.t35.bytes = 48 := by kernel_rfl
theorem n35 : zeroA Tryz.prog 35 = some [.nil, .nil] := by kernel_rfl
theorem o35_0 : offA Tryz.prog 35 0 = some 0 := by kernel_rfl
theorem o35_1 : offA Tryz.prog 35 1 = some 1 := by kernel_rfl
theorem z42 : sz? Tryz.prog 42 = some 1 := by kernel_rfl
theorem g42 : agg? Tryz.prog 42 = some false := by kernel_rfl
theorem i42 : Tryz.prog.info? 42 = some Tryz.t42 := by kernel_rfl
theorem s42 : Tryz.t42.size = 1 := by kernel_rfl
theorem b42 : Tryz.t42.bytes = 24 := by kernel_rfl
theorem n42 : zeroA Tryz.prog 42 = some [.nil] := by kernel_rfl
theorem z43 : sz? Tryz.prog 43 = some 2 := by kernel_rfl
theorem g43 : agg? Tryz.prog 43 = some true := by kernel_rfl
theorem i43 : Tryz.prog.info? 43 = some Tryz.t43 := by kernel_rfl
theorem s43 : Tryz.t43.size = 2 := by kernel_rfl
theorem b43 : Tryz.t43.bytes = 32 := by kernel_rfl
theorem n43 : zeroA Tryz.prog 43 = some [.i .i64 0, .nil] := by kernel_rfl
theorem o43_0 : offA Tryz.prog 43 0 = some 0 := by kernel_rfl
theorem o43_1 : offA Tryz.prog 43 1 = some 1 := by kernel_rfl
theorem z44 : sz? Tryz.prog 44 = some 2 := by kernel_rfl
theorem g44 : agg? Tryz.prog 44 = some true := by kernel_rfl
theorem i44 : Tryz.prog.info? 44 = some Tryz.t44 := by kernel_rfl
theorem s44 : Tryz.t44.size = 2 := by kernel_rfl
theorem b44 : Tryz.t44.bytes = 32 := by kernel_rfl
theorem n44 : zeroA Tryz.prog 44 = some [.i .i64 0, .nil] := by kernel_rfl
theorem o44_0 : offA Tryz.prog 44 0 = some 0 := by kernel_rfl
theorem o44_1 : offA Tryz.prog 44 1 = some 1 := by kernel_rfl
theorem z48 : sz? Tryz.prog 48 = some 2 := by kernel_rfl
theorem g48 : agg? Tryz.prog 48 = some true := by kernel_rfl
theorem i48 : Tryz.prog.info? 48 = some Tryz.t48 := by kernel_rfl
theorem s48 : Tryz.t48.size = 2 := by kernel_rfl
theorem b48 : Tryz.t48.bytes = 32 := by kernel_rfl
theorem n48 : zeroA Tryz.prog 48 = some [.i .i64 0, .nil] := by kernel_rfl
theorem o48_0 : offA Tryz.prog 48 0 = some 0 := by kernel_rfl
theorem o48_1 : offA Tryz.prog 48 1 = some 1 := by kernel_rfl
theorem z60 : sz? Tryz.prog 60 = some 3 := by kernel_rfl
theorem g60 : agg? Tryz.prog 60 = some true := by kernel_rfl
theorem i60 : Tryz.prog.info? 60 = some Tryz.t60 := by kernel_rfl
theorem s60 : Tryz.t60.size = 3 := by kernel_rfl
theorem b60 : Tryz.t60.bytes = 40 := by kernel_rfl
theorem n60 : zeroA Tryz.prog 60 = some [.nil, .i .i64 0, .b false] := by kernel_rfl
theorem o60_0 : offA Tryz.prog 60 0 = some 0 := by kernel_rfl
theorem o60_1 : offA Tryz.prog 60 1 = some 1 := by kernel_rfl
theorem o60_2 : offA Tryz.prog 60 2 = some 2 := by kernel_rfl
theorem z61 : sz? Tryz.prog 61 = some 3 := by kernel_rfl
theorem g61 : agg? Tryz.prog 61 = some true := by kernel_rfl
theorem i61 : Tryz.prog.info? 61 = some Tryz.t61 := by kernel_rfl
theorem s61 : Tryz.t61.size = 3 := by kernel_rfl
theorem b61 : Tryz.t61.bytes = 40 := by kernel_rfl
theorem n61 : zeroA Tryz.prog 61 = some [.nil, .i .i64 0, .b false] := by kernel_rfl
theorem o61_0 : offA Tryz.prog 61 0 = some 0 := by kernel_rfl
theorem o61_1 : offA Tryz.prog 61 1 = some 1 := by kernel_rfl
theorem o61_2 : offA Tryz.prog 61 2 = some 2 := by kernel_rfl
theorem z62 : sz? Tryz.prog 62 = some 3 := by kernel_rfl
theorem g62 : agg? Tryz.prog 62 = some true := by kernel_rfl
theorem i62 : Tryz.prog.info? 62 = some Tryz.t62 := by kernel_rfl
theorem s62 : Tryz.t62.size = 3 := by kernel_rfl
theorem b62 : Tryz.t62.bytes = 24 := by kernel_rfl
theorem n62 : zeroA Tryz.prog 62 = some [.i .i64 0, .i .i64 0, .i .i64 0] := by kernel_rfl
theorem o62_0 : offA Tryz.prog 62 0 = some 0 := by kernel_rfl
theorem o62_1 : offA Tryz.prog 62 1 = some 1 := by kernel_rfl
theorem o62_2 : offA Tryz.prog 62 2 = some 2 := by kernel_rfl
theorem z63 : sz? Tryz.prog 63 = some 3 := by kernel_rfl
theorem g63 : agg? Tryz.prog 63 = some true := by kernel_rfl
theorem i63 : Tryz.prog.info? 63 = some Tryz.t63 := by kernel_rfl
theorem s63 : Tryz.t63.size = 3 := by kernel_rfl
theorem b63 : Tryz.t63.bytes = 24 := by kernel_rfl
theorem n63 : zeroA Tryz.prog 63 = some [.i .i64 0, .i .i64 0, .i .i64 0] := by kernel_rfl
theorem o63_0 : offA Tryz.prog 63 0 = some 0 := by kernel_rfl
theorem o63_1 : offA Tryz.prog 63 1 = some 1 := by kernel_rfl
theorem o63_2 : offA Tryz.prog 63 2 = some 2 := by kernel_rfl
theorem z67 : sz? Tryz.prog 67 = some 3 := by kernel_rfl
theorem g67 : agg? Tryz.prog 67 = some true := by kernel_rfl
theorem i67 : Tryz.prog.info? 67 = some Tryz.t67 := by kernel_rfl
theorem s67 : Tryz.t67.size = 3 := by kernel_rfl
theorem b67 : Tryz.t67.bytes = 40 := by kernel_rfl
theorem n67 : zeroA Tryz.prog 67 = some [.nil, .i .i64 0, .b false] := by kernel_rfl
theorem o67_0 : offA Tryz.prog 67 0 = some 0 := by kernel_rfl
theorem o67_1 : offA Tryz.prog 67 1 = some 1 := by kernel_rfl
theorem o67_2 : offA Tryz.prog 67 2 = some 2 := by kernel_rfl
theorem z68 : sz? Tryz.prog 68 = some 3 := by kernel_rfl
theorem g68 : agg? Tryz.prog 68 = some true := by kernel_rfl
theorem i68 : Tryz.prog.info? 68 = some Tryz.t68 := by kernel_rfl
theorem s68 : Tryz.t68.size = 3 := by kernel_rfl
theorem b68 : Tryz.t68.bytes = 40 := by kernel_rfl
theorem n68 : zeroA Tryz.prog 68 = some [.nil, .i .i64 0, .b false] := by kernel_rfl
theorem o68_0 : offA Tryz.prog 68 0 = some 0 := by kernel_rfl
theorem o68_1 : offA Tryz.prog 68 1 = some 1 := by kernel_rfl
theorem o68_2 : offA Tryz.prog 68 2 = some 2 := by kernel_rfl
theorem z70 : sz? Tryz.prog 70 = some 3 := by kernel_rfl
theorem g70 : agg? Tryz.prog 70 = some true := by kernel_rfl
theorem i70 : Tryz.prog.info? 70 = some Tryz.t70 := by kernel_rfl
theorem s70 : Tryz.t70.size = 3 := by kernel_rfl
theorem b70 : Tryz.t70.bytes = 24 := by kernel_rfl
theorem n70 : zeroA Tryz.prog 70 = some [.i .i64 0, .i .i64 0, .i .i64 0] := by kernel_rfl
theorem o70_0 : offA Tryz.prog 70 0 = some 0 := by kernel_rfl
theorem o70_1 : offA Tryz.prog 70 1 = some 1 := by kernel_rfl
theorem o70_2 : offA Tryz.prog 70 2 = some 2 := by kernel_rfl
theorem z77 : sz? Tryz.prog 77 = some 1 := by kernel_rfl
theorem g77 : agg? Tryz.prog 77 = some false := by kernel_rfl
theorem i77 : Tryz.prog.info? 77 = some Tryz.t77 := by kernel_rfl
theorem s77 : Tryz.t77.size = 1 := by kernel_rfl
theorem b77 : Tryz.t77.bytes = 24 := by kernel_rfl
theorem n77 : zeroA Tryz.prog 77 = some [.nil] := by kernel_rfl
theorem z81 : sz? Tryz.prog 81 = some 1 := by kernel_rfl
theorem g81 : agg? Tryz.prog 81 = some false := by kernel_rfl
theorem i81 : Tryz.prog.info? 81 = some Tryz.t81 := by kernel_rfl
theorem s81 : Tryz.t81.size = 1 := by kernel_rfl
theorem b81 : Tryz.t81.bytes = 24 := by kernel_rfl
theorem n81 : zeroA Tryz.prog 81 = some [.nil] := by kernel_rfl
theorem z109 : sz? Tryz.prog 109 = some 2 := by kernel_rfl
theorem g109 : agg? Tryz.prog 109 = some true := by kernel_rfl
theorem i109 : Tryz.prog.info? 109 = some Tryz.t109 := by kernel_rfl
theorem s109 : Tryz.t109.size = 2 := by kernel_rfl
theorem b109 : Tryz.t109.bytes = 32 := by kernel_rfl
theorem n109 : zeroA Tryz.prog 109 = some [.i .i64 0, .nil] := by kernel_rfl
theorem o109_0 : offA Tryz.prog 109 0 = some 0 := by kernel_rfl
theorem o109_1 : offA Tryz.prog 109 1 = some 1 := by kernel_rfl
theorem z110 : sz? Tryz.prog 110 = some 2 := by kernel_rfl
theorem g110 : agg? Tryz.prog 110 = some true := by kernel_rfl
theorem i110 : Tryz.prog.info? 110 = some Tryz.t110 := by kernel_rfl
theorem s110 : Tryz.t110.size = 2 := by kernel_rfl
theorem b110 : Tryz.t110.bytes = 32 := by kernel_rfl
theorem n110 : zeroA Tryz.prog 110 = some [.i .i64 0, .nil] := by kernel_rfl
theorem o110_0 : offA Tryz.prog 110 0 = some 0 := by kernel_rfl
theorem o110_1 : offA Tryz.prog 110 1 = some 1 := by kernel_rfl
theorem z121 : sz? Tryz.prog 121 = some 1 := by kernel_rfl
theorem g121 : agg? Tryz.prog 121 = some false := by kernel_rfl
theorem i121 : Tryz.prog.info? 121 = some Tryz.t121 := by kernel_rfl
theorem s121 : Tryz.t121.size = 1 := by kernel_rfl
theorem b121 : Tryz.t121.bytes = 24 := by kernel_rfl
theorem n121 : zeroA Tryz.prog 121 = some [.nil] := by kernel_rfl
theorem z126 : sz? Tryz.prog 126 = some 1 := by kernel_rfl
theorem g126 : agg? Tryz.prog 126 = some false := by kernel_rfl
theorem i126 : Tryz.prog.info? 126 = some Tryz.t126 := by kernel_rfl
theorem s126 : Tryz.t126.size = 1 := by kernel_rfl
theorem b126 : Tryz.t126.bytes = 24 := by kernel_rfl
theorem n126 : zeroA Tryz.prog 126 = some [.nil] := by kernel_rfl
theorem z128 : sz? Tryz.prog 128 = some 4 := by kernel_rfl
theorem g128 : agg? Tryz.prog 128 = some true := by kernel_rfl
theorem i128 : Tryz.prog.info? 128 = some Tryz.t128 := by kernel_rfl
theorem s128 : Tryz.t128.size = 4 := by kernel_rfl
theorem b128 : Tryz.t128.bytes = 32 := by kernel_rfl
theorem n128 : zeroA Tryz.prog 128 = some [.i .i64 0, .i .i64 0, .i .i64 0, .i .i64 0] := by kernel_rfl
theorem z129 : sz? Tryz.prog 129 = some 4 := by kernel_rfl
theorem g129 : agg? Tryz.prog 129 = some true := by kernel_rfl
theorem i129 : Tryz.prog.info? 129 = some Tryz.t129 := by kernel_rfl
theorem s129 : Tryz.t129.size = 4 := by kernel_rfl
theorem b129 : Tryz.t129.bytes = 32 := by kernel_rfl
theorem n129 : zeroA Tryz.prog 129 = some [.i .i64 0, .i .i64 0, .i .i64 0, .i .i64 0] := by kernel_rfl
theorem z132 : sz? Tryz.prog 132 = some 2 := by kernel_rfl
theorem g132 : agg? Tryz.prog 132 = some true := by kernel_rfl
theorem i132 : Tryz.prog.info? 132 = some Tryz.t132 := by kernel_rfl
theorem s132 : Tryz.t132.size = 2 := by kernel_rfl
theorem b132 : Tryz.t132.bytes = 32 := by kernel_rfl
theorem n132 : zeroA Tryz.prog 132 = some [.i .i64 0, .nil] := by kernel_rfl
theorem o132_0 : offA Tryz.prog 132 0 = some 0 := by kernel_rfl
theorem o132_1 : offA Tryz.prog 132 1 = some 1 := by kernel_rfl
theorem z135 : sz? Tryz.prog 135 = some 1 := by kernel_rfl
theorem g135 : agg? Tryz.prog 135 = some false := by kernel_rfl
theorem i135 : Tryz.prog.info? 135 = some Tryz.t135 := by kernel_rfl
theorem s135 : Tryz.t135.size = 1 := by kernel_rfl
theorem b135 : Tryz.t135.bytes = 24 := by kernel_rfl
theorem n135 : zeroA Tryz.prog 135 = some [.nil] := by kernel_rfl
theorem z141 : sz? Tryz.prog 141 = some 2 := by kernel_rfl
theorem g141 : agg? Tryz.prog 141 = some true := by kernel_rfl
theorem i141 : Tryz.prog.info? 141 = some Tryz.t141 := by kernel_rfl
theorem s141 : Tryz.t141.size = 2 := by kernel_rfl
theorem b141 : Tryz.t141.bytes = 16 := by kernel_rfl
theorem n141 : zeroA Tryz.prog 141 = some [.i .i64 0, .i .i64 0] := by kernel_rfl
theorem o141_0 : offA Tryz.prog 141 0 = some 0 := by kernel_rfl
theorem o141_1 : offA Tryz.prog 141 1 = some 1 := by kernel_rfl
theorem z142 : sz? Tryz.prog 142 = some 2 := by kernel_rfl
theorem g142 : agg? Tryz.prog 142 = some true := by kernel_rfl
theorem i142 : Tryz.prog.info? 142 = some Tryz.t142 := by kernel_rfl
theorem s142 : Tryz.t142.size = 2 := by kernel_rfl
theorem b142 : Tryz.t142.bytes = 16 := by kernel_rfl
theorem n142 : zeroA Tryz.prog 142 = some [.i .i64 0, .i .i64 0] := by kernel_rfl
theorem o142_0 : offA Tryz.prog 142 0 = some 0 := by kernel_rfl
theorem o142_1 : offA Tryz.prog 142 1 = some 1 := by kernel_rfl
theorem z146 : sz? Tryz.prog 146 = some 1 := by kernel_rfl
theorem g146 : agg? Tryz.prog 146 = some false := by kernel_rfl
theorem i146 : Tryz.prog.info? 146 = some Tryz.t146 := by kernel_rfl
theorem s146 : Tryz.t146.size = 1 := by kernel_rfl
theorem b146 : Tryz.t146.bytes = 24 := by kernel_rfl
theorem n146 : zeroA Tryz.prog 146 = some [.nil] := by kernel_rfl
theorem z151 : sz? Tryz.prog 151 = some 2 := by kernel_rfl
theorem g151 : agg? Tryz.prog 151 = some true := by kernel_rfl
theorem i151 : Tryz.prog.info? 151 = some Tryz.t151 := by kernel_rfl
theorem s151 : Tryz.t151.size = 2 := by kernel_rfl
theorem b151 : Tryz.t151.bytes = 16 := by kernel_rfl
theorem n151 : zeroA Tryz.prog 151 = some [.i .i64 0, .i .i64 0] := by kernel_rfl
theorem o151_0 : offA Tryz.prog 151 0 = some 0 := by kernel_rfl
theorem o151_1 : offA Tryz.prog 151 1 = some 1 := by kernel_rfl
theorem z153 : sz? Tryz.prog 153 = some 1 := by kernel_rfl
theorem g153 : agg? Tryz.prog 153 = some false := by kernel_rfl
theorem i153 : Tryz.prog.info? 153 = some Tryz.t153 := by kernel_rfl
theorem s153 : Tryz.t153.size = 1 := by kernel_rfl
theorem b153 : Tryz.t153.bytes = 8 := by kernel_rfl
theorem z190 : sz? Tryz.prog 190 = some 1 := by kernel_rfl
theorem g190 : agg? Tryz.prog 190 = some false := by kernel_rfl
theorem i190 : Tryz.prog.info? 190 = some Tryz.t190 := by kernel_rfl
theorem s190 : Tryz.t190.size = 1 := by kernel_rfl
theorem b190 : Tryz.t190.bytes = 24 := by kernel_rfl
theorem n190 : zeroA Tryz.prog 190 = some [.nil] := by kernel_rfl
theorem z192 : sz? Tryz.prog 192 = some 1 := by kernel_rfl
theorem g192 : agg? Tryz.prog 192 = some false := by kernel_rfl
theorem i192 : Tryz.prog.info? 192 = some Tryz.t192 := by kernel_rfl
theorem s192 : Tryz.t192.size = 1 := by kernel_rfl
theorem b192 : Tryz.t192.bytes = 24 := by kernel_rfl
theorem n192 : zeroA Tryz.prog 192 = some [.nil] := by kernel_rfl
theorem z202 : sz? Tryz.prog 202 = some 1 := by kernel_rfl
theorem g202 : agg? Tryz.prog 202 = some false := by kernel_rfl
theorem i202 : Tryz.prog.info? 202 = some Tryz.t202 := by kernel_rfl
theorem s202 : Tryz.t202.size = 1 := by kernel_rfl
theorem b202 : Tryz.t202.bytes = 8 := by kernel_rfl
theorem n202 : zeroA Tryz.prog 202 = some [.i .u64 0] := by kernel_rfl
theorem z227 : sz? Tryz.prog 227 = some 1 := by kernel_rfl
theorem g227 : agg? Tryz.prog 227 = some false := by kernel_rfl
theorem i227 : Tryz.prog.info? 227 = some Tryz.t227 := by kernel_rfl
theorem s227 : Tryz.t227.size = 1 := by kernel_rfl
theorem b227 : Tryz.t227.bytes = 8 := by kernel_rfl
theorem z228 : sz? Tryz.prog 228 = some 2 := by kernel_rfl
theorem g228 : agg? Tryz.prog 228 = some true := by kernel_rfl
theorem i228 : Tryz.prog.info? 228 = some Tryz.t228 := by kernel_rfl
theorem s228 : Tryz.t228.size = 2 := by kernel_rfl
theorem b228 : Tryz.t228.bytes = 32 := by kernel_rfl
theorem o228_0 : offA Tryz.prog 228 0 = some 0 := by kernel_rfl
theorem o228_1 : offA Tryz.prog 228 1 = some 1 := by kernel_rfl
theorem z229 : sz? Tryz.prog 229 = some 2 := by kernel_rfl
theorem g229 : agg? Tryz.prog 229 = some true := by kernel_rfl
theorem i229 : Tryz.prog.info? 229 = some Tryz.t229 := by kernel_rfl
theorem s229 : Tryz.t229.size = 2 := by kernel_rfl
theorem b229 : Tryz.t229.bytes = 32 := by kernel_rfl
theorem o229_0 : offA Tryz.prog 229 0 = some 0 := by kernel_rfl
theorem o229_1 : offA Tryz.prog 229 1 = some 1 := by kernel_rfl
theorem z251 : sz? Tryz.prog 251 = some 1 := by kernel_rfl
theorem g251 : agg? Tryz.prog 251 = some false := by kernel_rfl
theorem i251 : Tryz.prog.info? 251 = some Tryz.t251 := by kernel_rfl
theorem s251 : Tryz.t251.size = 1 := by kernel_rfl
theorem b251 : Tryz.t251.bytes = 4 := by kernel_rfl
theorem n251 : zeroA Tryz.prog 251 = some [.i .u32 0] := by kernel_rfl
theorem z253 : sz? Tryz.prog 253 = some 1 := by kernel_rfl
theorem g253 : agg? Tryz.prog 253 = some false := by kernel_rfl
theorem i253 : Tryz.prog.info? 253 = some Tryz.t253 := by kernel_rfl
theorem s253 : Tryz.t253.size = 1 := by kernel_rfl
theorem b253 : Tryz.t253.bytes = 8 := by kernel_rfl
theorem n253 : zeroA Tryz.prog 253 = some [.i .u64 0] := by kernel_rfl
theorem z269 : sz? Tryz.prog 269 = some 1 := by kernel_rfl
theorem g269 : agg? Tryz.prog 269 = some false := by kernel_rfl
theorem i269 : Tryz.prog.info? 269 = some Tryz.t269 := by kernel_rfl
theorem s269 : Tryz.t269.size = 1 := by kernel_rfl
theorem b269 : Tryz.t269.bytes = 24 := by kernel_rfl
theorem n269 : zeroA Tryz.prog 269 = some [.nil] := by kernel_rfl
theorem z276 : sz? Tryz.prog 276 = some 1 := by kernel_rfl
theorem g276 : agg? Tryz.prog 276 = some false := by kernel_rfl
theorem i276 : Tryz.prog.info? 276 = some Tryz.t276 := by kernel_rfl
theorem s276 : Tryz.t276.size = 1 := by kernel_rfl
theorem b276 : Tryz.t276.bytes = 8 := by kernel_rfl
theorem z279 : sz? Tryz.prog 279 = some 1 := by kernel_rfl
theorem g279 : agg? Tryz.prog 279 = some false := by kernel_rfl
theorem i279 : Tryz.prog.info? 279 = some Tryz.t279 := by kernel_rfl
theorem s279 : Tryz.t279.size = 1 := by kernel_rfl
theorem b279 : Tryz.t279.bytes = 8 := by kernel_rfl
theorem n279 : zeroA Tryz.prog 279 = some [.i .u64 0] := by kernel_rfl
theorem h141 : Program.stoodInHeld Tryz.prog 141 = false := by kernel_rfl
theorem q141 : Program.eqGuardType Tryz.prog (Program.depth Tryz.prog) 141 = false := by kernel_rfl
theorem e141 (a b c d : Int) : eqAggA Tryz.prog 141 [.i .i64 a, .i .i64 b] [.i .i64 c, .i .i64 d] = some ((a == c) && (b == d)) := by
  unfold eqAggA; rw [Tryz.underlying141]; simp [h141, q141, eqFieldsA, eqScal, Tryz.underlying2, Tryz.underlying3, Tryz.underlying5, Tryz.underlying202, Tryz.underlying251, Tryz.underlying253, Tryz.underlying279]
theorem h142 : Program.stoodInHeld Tryz.prog 142 = false := by kernel_rfl
theorem q142 : Program.eqGuardType Tryz.prog (Program.depth Tryz.prog) 142 = false := by kernel_rfl
theorem e142 (a b c d : Int) : eqAggA Tryz.prog 142 [.i .i64 a, .i .i64 b] [.i .i64 c, .i .i64 d] = some ((a == c) && (b == d)) := by
  unfold eqAggA; rw [Tryz.underlying142]; simp [h142, q142, eqFieldsA, eqScal, Tryz.underlying2, Tryz.underlying3, Tryz.underlying5, Tryz.underlying202, Tryz.underlying251, Tryz.underlying253, Tryz.underlying279]
theorem h151 : Program.stoodInHeld Tryz.prog 151 = false := by kernel_rfl
theorem q151 : Program.eqGuardType Tryz.prog (Program.depth Tryz.prog) 151 = false := by kernel_rfl
theorem e151 (a b c d : Int) : eqAggA Tryz.prog 151 [.i .i64 a, .i .i64 b] [.i .i64 c, .i .i64 d] = some ((a == c) && (b == d)) := by
  unfold eqAggA; rw [Tryz.underlying151]; simp [h151, q151, eqFieldsA, eqScal, Tryz.underlying2, Tryz.underlying3, Tryz.underlying5, Tryz.underlying202, Tryz.underlying251, Tryz.underlying253, Tryz.underlying279]
set_option maxRecDepth 10000 in
theorem all : (sz? Tryz.prog 2 = some 1) ∧ (agg? Tryz.prog 2 = some false) ∧ (Tryz.prog.info? 2 = some Tryz.t2) ∧ (Tryz.t2.size = 1) ∧ (Tryz.t2.bytes = 8) ∧ (zeroA Tryz.prog 2 = some [.i .i64 0]) ∧ (sz? Tryz.prog 3 = some 1) ∧ (agg? Tryz.prog 3 = some false) ∧ (Tryz.prog.info? 3 = some Tryz.t3) ∧ (Tryz.t3.size = 1) ∧ (Tryz.t3.bytes = 8) ∧ (zeroA Tryz.prog 3 = some [.i .i64 0]) ∧ (sz? Tryz.prog 4 = some 1) ∧ (agg? Tryz.prog 4 = some false) ∧ (Tryz.prog.info? 4 = some Tryz.t4) ∧ (Tryz.t4.size = 1) ∧ (Tryz.t4.bytes = 1) ∧ (zeroA Tryz.prog 4 = some [.b false]) ∧ (sz? Tryz.prog 5 = some 1) ∧ (agg? Tryz.prog 5 = some false) ∧ (Tryz.prog.info? 5 = some Tryz.t5) ∧ (Tryz.t5.size = 1) ∧ (Tryz.t5.bytes = 1) ∧ (zeroA Tryz.prog 5 = some [.i .u8 0]) ∧ (sz? Tryz.prog 9 = some 1) ∧ (agg? Tryz.prog 9 = some false) ∧ (Tryz.prog.info? 9 = some Tryz.t9) ∧ (Tryz.t9.size = 1) ∧ (Tryz.t9.bytes = 16) ∧ (sz? Tryz.prog 22 = some 1) ∧ (agg? Tryz.prog 22 = some false) ∧ (Tryz.prog.info? 22 = some Tryz.t22) ∧ (Tryz.t22.size = 1) ∧ (Tryz.t22.bytes = 24) ∧ (zeroA Tryz.prog 22 = some [.nil]) ∧ (sz? Tryz.prog 23 = some 1) ∧ (agg? Tryz.prog 23 = some false) ∧ (Tryz.prog.info? 23 = some Tryz.t23) ∧ (Tryz.t23.size = 1) ∧ (Tryz.t23.bytes = 24) ∧ (zeroA Tryz.prog 23 = some [.nil]) ∧ (sz? Tryz.prog 24 = some 2) ∧ (agg? Tryz.prog 24 = some true) ∧ (Tryz.prog.info? 24 = some Tryz.t24) ∧ (Tryz.t24.size = 2) ∧ (Tryz.t24.bytes = 48) ∧ (zeroA Tryz.prog 24 = some [.nil, .nil]) ∧ (offA Tryz.prog 24 0 = some 0) ∧ (offA Tryz.prog 24 1 = some 1) ∧ (sz? Tryz.prog 25 = some 2) ∧ (agg? Tryz.prog 25 = some true) ∧ (Tryz.prog.info? 25 = some Tryz.t25) ∧ (Tryz.t25.size = 2) ∧ (Tryz.t25.bytes = 48) ∧ (zeroA Tryz.prog 25 = some [.nil, .nil]) ∧ (offA Tryz.prog 25 0 = some 0) ∧ (offA Tryz.prog 25 1 = some 1) ∧ (sz? Tryz.prog 27 = some 1) ∧ (agg? Tryz.prog 27 = some false) ∧ (Tryz.prog.info? 27 = some Tryz.t27) ∧ (Tryz.t27.size = 1) ∧ (Tryz.t27.bytes = 24) ∧ (zeroA Tryz.prog 27 = some [.nil]) ∧ (sz? Tryz.prog 28 = some 3) ∧ (agg? Tryz.prog 28 = some true) ∧ (Tryz.prog.info? 28 = some Tryz.t28) ∧ (Tryz.t28.size = 3) ∧ (Tryz.t28.bytes = 40) ∧ (zeroA Tryz.prog 28 = some [.i .i64 0, .i .i64 0, .nil]) ∧ (offA Tryz.prog 28 0 = some 0) ∧ (offA Tryz.prog 28 1 = some 1) ∧ (offA Tryz.prog 28 2 = some 2) ∧ (sz? Tryz.prog 29 = some 3) ∧ (agg? Tryz.prog 29 = some true) ∧ (Tryz.prog.info? 29 = some Tryz.t29) ∧ (Tryz.t29.size = 3) ∧ (Tryz.t29.bytes = 40) ∧ (zeroA Tryz.prog 29 = some [.i .i64 0, .i .i64 0, .nil]) ∧ (offA Tryz.prog 29 0 = some 0) ∧ (offA Tryz.prog 29 1 = some 1) ∧ (offA Tryz.prog 29 2 = some 2) ∧ (sz? Tryz.prog 32 = some 1) ∧ (agg? Tryz.prog 32 = some false) ∧ (Tryz.prog.info? 32 = some Tryz.t32) ∧ (Tryz.t32.size = 1) ∧ (Tryz.t32.bytes = 24) ∧ (zeroA Tryz.prog 32 = some [.nil]) ∧ (sz? Tryz.prog 33 = some 1) ∧ (agg? Tryz.prog 33 = some false) ∧ (Tryz.prog.info? 33 = some Tryz.t33) ∧ (Tryz.t33.size = 1) ∧ (Tryz.t33.bytes = 24) ∧ (zeroA Tryz.prog 33 = some [.nil]) ∧ (sz? Tryz.prog 34 = some 2) ∧ (agg? Tryz.prog 34 = some true) ∧ (Tryz.prog.info? 34 = some Tryz.t34) ∧ (Tryz.t34.size = 2) ∧ (Tryz.t34.bytes = 48) ∧ (zeroA Tryz.prog 34 = some [.nil, .nil]) ∧ (offA Tryz.prog 34 0 = some 0) ∧ (offA Tryz.prog 34 1 = some 1) ∧ (sz? Tryz.prog 35 = some 2) ∧ (agg? Tryz.prog 35 = some true) ∧ (Tryz.prog.info? 35 = some Tryz.t35) ∧ (Tryz.t35.size = 2) ∧ (Tryz.t35.bytes = 48) ∧ (zeroA Tryz.prog 35 = some [.nil, .nil]) ∧ (offA Tryz.prog 35 0 = some 0) ∧ (offA Tryz.prog 35 1 = some 1) ∧ (sz? Tryz.prog 42 = some 1) ∧ (agg? Tryz.prog 42 = some false) ∧ (Tryz.prog.info? 42 = some Tryz.t42) ∧ (Tryz.t42.size = 1) ∧ (Tryz.t42.bytes = 24) ∧ (zeroA Tryz.prog 42 = some [.nil]) ∧ (sz? Tryz.prog 43 = some 2) ∧ (agg? Tryz.prog 43 = some true) ∧ (Tryz.prog.info? 43 = some Tryz.t43) ∧ (Tryz.t43.size = 2) ∧ (Tryz.t43.bytes = 32) ∧ (zeroA Tryz.prog 43 = some [.i .i64 0, .nil]) ∧ (offA Tryz.prog 43 0 = some 0) ∧ (offA Tryz.prog 43 1 = some 1) ∧ (sz? Tryz.prog 44 = some 2) ∧ (agg? Tryz.prog 44 = some true) ∧ (Tryz.prog.info? 44 = some Tryz.t44) ∧ (Tryz.t44.size = 2) ∧ (Tryz.t44.bytes = 32) ∧ (zeroA Tryz.prog 44 = some [.i .i64 0, .nil]) ∧ (offA Tryz.prog 44 0 = some 0) ∧ (offA Tryz.prog 44 1 = some 1) ∧ (sz? Tryz.prog 48 = some 2) ∧ (agg? Tryz.prog 48 = some true) ∧ (Tryz.prog.info? 48 = some Tryz.t48) ∧ (Tryz.t48.size = 2) ∧ (Tryz.t48.bytes = 32) ∧ (zeroA Tryz.prog 48 = some [.i .i64 0, .nil]) ∧ (offA Tryz.prog 48 0 = some 0) ∧ (offA Tryz.prog 48 1 = some 1) ∧ (sz? Tryz.prog 60 = some 3) ∧ (agg? Tryz.prog 60 = some true) ∧ (Tryz.prog.info? 60 = some Tryz.t60) ∧ (Tryz.t60.size = 3) ∧ (Tryz.t60.bytes = 40) ∧ (zeroA Tryz.prog 60 = some [.nil, .i .i64 0, .b false]) ∧ (offA Tryz.prog 60 0 = some 0) ∧ (offA Tryz.prog 60 1 = some 1) ∧ (offA Tryz.prog 60 2 = some 2) ∧ (sz? Tryz.prog 61 = some 3) ∧ (agg? Tryz.prog 61 = some true) ∧ (Tryz.prog.info? 61 = some Tryz.t61) ∧ (Tryz.t61.size = 3) ∧ (Tryz.t61.bytes = 40) ∧ (zeroA Tryz.prog 61 = some [.nil, .i .i64 0, .b false]) ∧ (offA Tryz.prog 61 0 = some 0) ∧ (offA Tryz.prog 61 1 = some 1) ∧ (offA Tryz.prog 61 2 = some 2) ∧ (sz? Tryz.prog 62 = some 3) ∧ (agg? Tryz.prog 62 = some true) ∧ (Tryz.prog.info? 62 = some Tryz.t62) ∧ (Tryz.t62.size = 3) ∧ (Tryz.t62.bytes = 24) ∧ (zeroA Tryz.prog 62 = some [.i .i64 0, .i .i64 0, .i .i64 0]) ∧ (offA Tryz.prog 62 0 = some 0) ∧ (offA Tryz.prog 62 1 = some 1) ∧ (offA Tryz.prog 62 2 = some 2) ∧ (sz? Tryz.prog 63 = some 3) ∧ (agg? Tryz.prog 63 = some true) ∧ (Tryz.prog.info? 63 = some Tryz.t63) ∧ (Tryz.t63.size = 3) ∧ (Tryz.t63.bytes = 24) ∧ (zeroA Tryz.prog 63 = some [.i .i64 0, .i .i64 0, .i .i64 0]) ∧ (offA Tryz.prog 63 0 = some 0) ∧ (offA Tryz.prog 63 1 = some 1) ∧ (offA Tryz.prog 63 2 = some 2) ∧ (sz? Tryz.prog 67 = some 3) ∧ (agg? Tryz.prog 67 = some true) ∧ (Tryz.prog.info? 67 = some Tryz.t67) ∧ (Tryz.t67.size = 3) ∧ (Tryz.t67.bytes = 40) ∧ (zeroA Tryz.prog 67 = some [.nil, .i .i64 0, .b false]) ∧ (offA Tryz.prog 67 0 = some 0) ∧ (offA Tryz.prog 67 1 = some 1) ∧ (offA Tryz.prog 67 2 = some 2) ∧ (sz? Tryz.prog 68 = some 3) ∧ (agg? Tryz.prog 68 = some true) ∧ (Tryz.prog.info? 68 = some Tryz.t68) ∧ (Tryz.t68.size = 3) ∧ (Tryz.t68.bytes = 40) ∧ (zeroA Tryz.prog 68 = some [.nil, .i .i64 0, .b false]) ∧ (offA Tryz.prog 68 0 = some 0) ∧ (offA Tryz.prog 68 1 = some 1) ∧ (offA Tryz.prog 68 2 = some 2) ∧ (sz? Tryz.prog 70 = some 3) ∧ (agg? Tryz.prog 70 = some true) ∧ (Tryz.prog.info? 70 = some Tryz.t70) ∧ (Tryz.t70.size = 3) ∧ (Tryz.t70.bytes = 24) ∧ (zeroA Tryz.prog 70 = some [.i .i64 0, .i .i64 0, .i .i64 0]) ∧ (offA Tryz.prog 70 0 = some 0) ∧ (offA Tryz.prog 70 1 = some 1) ∧ (offA Tryz.prog 70 2 = some 2) ∧ (sz? Tryz.prog 77 = some 1) ∧ (agg? Tryz.prog 77 = some false) ∧ (Tryz.prog.info? 77 = some Tryz.t77) ∧ (Tryz.t77.size = 1) ∧ (Tryz.t77.bytes = 24) ∧ (zeroA Tryz.prog 77 = some [.nil]) ∧ (sz? Tryz.prog 81 = some 1) ∧ (agg? Tryz.prog 81 = some false) ∧ (Tryz.prog.info? 81 = some Tryz.t81) ∧ (Tryz.t81.size = 1) ∧ (Tryz.t81.bytes = 24) ∧ (zeroA Tryz.prog 81 = some [.nil]) ∧ (sz? Tryz.prog 109 = some 2) ∧ (agg? Tryz.prog 109 = some true) ∧ (Tryz.prog.info? 109 = some Tryz.t109) ∧ (Tryz.t109.size = 2) ∧ (Tryz.t109.bytes = 32) ∧ (zeroA Tryz.prog 109 = some [.i .i64 0, .nil]) ∧ (offA Tryz.prog 109 0 = some 0) ∧ (offA Tryz.prog 109 1 = some 1) ∧ (sz? Tryz.prog 110 = some 2) ∧ (agg? Tryz.prog 110 = some true) ∧ (Tryz.prog.info? 110 = some Tryz.t110) ∧ (Tryz.t110.size = 2) ∧ (Tryz.t110.bytes = 32) ∧ (zeroA Tryz.prog 110 = some [.i .i64 0, .nil]) ∧ (offA Tryz.prog 110 0 = some 0) ∧ (offA Tryz.prog 110 1 = some 1) ∧ (sz? Tryz.prog 121 = some 1) ∧ (agg? Tryz.prog 121 = some false) ∧ (Tryz.prog.info? 121 = some Tryz.t121) ∧ (Tryz.t121.size = 1) ∧ (Tryz.t121.bytes = 24) ∧ (zeroA Tryz.prog 121 = some [.nil]) ∧ (sz? Tryz.prog 126 = some 1) ∧ (agg? Tryz.prog 126 = some false) ∧ (Tryz.prog.info? 126 = some Tryz.t126) ∧ (Tryz.t126.size = 1) ∧ (Tryz.t126.bytes = 24) ∧ (zeroA Tryz.prog 126 = some [.nil]) ∧ (sz? Tryz.prog 128 = some 4) ∧ (agg? Tryz.prog 128 = some true) ∧ (Tryz.prog.info? 128 = some Tryz.t128) ∧ (Tryz.t128.size = 4) ∧ (Tryz.t128.bytes = 32) ∧ (zeroA Tryz.prog 128 = some [.i .i64 0, .i .i64 0, .i .i64 0, .i .i64 0]) ∧ (sz? Tryz.prog 129 = some 4) ∧ (agg? Tryz.prog 129 = some true) ∧ (Tryz.prog.info? 129 = some Tryz.t129) ∧ (Tryz.t129.size = 4) ∧ (Tryz.t129.bytes = 32) ∧ (zeroA Tryz.prog 129 = some [.i .i64 0, .i .i64 0, .i .i64 0, .i .i64 0]) ∧ (sz? Tryz.prog 132 = some 2) ∧ (agg? Tryz.prog 132 = some true) ∧ (Tryz.prog.info? 132 = some Tryz.t132) ∧ (Tryz.t132.size = 2) ∧ (Tryz.t132.bytes = 32) ∧ (zeroA Tryz.prog 132 = some [.i .i64 0, .nil]) ∧ (offA Tryz.prog 132 0 = some 0) ∧ (offA Tryz.prog 132 1 = some 1) ∧ (sz? Tryz.prog 135 = some 1) ∧ (agg? Tryz.prog 135 = some false) ∧ (Tryz.prog.info? 135 = some Tryz.t135) ∧ (Tryz.t135.size = 1) ∧ (Tryz.t135.bytes = 24) ∧ (zeroA Tryz.prog 135 = some [.nil]) ∧ (sz? Tryz.prog 141 = some 2) ∧ (agg? Tryz.prog 141 = some true) ∧ (Tryz.prog.info? 141 = some Tryz.t141) ∧ (Tryz.t141.size = 2) ∧ (Tryz.t141.bytes = 16) ∧ (zeroA Tryz.prog 141 = some [.i .i64 0, .i .i64 0]) ∧ (offA Tryz.prog 141 0 = some 0) ∧ (offA Tryz.prog 141 1 = some 1) ∧ (sz? Tryz.prog 142 = some 2) ∧ (agg? Tryz.prog 142 = some true) ∧ (Tryz.prog.info? 142 = some Tryz.t142) ∧ (Tryz.t142.size = 2) ∧ (Tryz.t142.bytes = 16) ∧ (zeroA Tryz.prog 142 = some [.i .i64 0, .i .i64 0]) ∧ (offA Tryz.prog 142 0 = some 0) ∧ (offA Tryz.prog 142 1 = some 1) ∧ (sz? Tryz.prog 146 = some 1) ∧ (agg? Tryz.prog 146 = some false) ∧ (Tryz.prog.info? 146 = some Tryz.t146) ∧ (Tryz.t146.size = 1) ∧ (Tryz.t146.bytes = 24) ∧ (zeroA Tryz.prog 146 = some [.nil]) ∧ (sz? Tryz.prog 151 = some 2) ∧ (agg? Tryz.prog 151 = some true) ∧ (Tryz.prog.info? 151 = some Tryz.t151) ∧ (Tryz.t151.size = 2) ∧ (Tryz.t151.bytes = 16) ∧ (zeroA Tryz.prog 151 = some [.i .i64 0, .i .i64 0]) ∧ (offA Tryz.prog 151 0 = some 0) ∧ (offA Tryz.prog 151 1 = some 1) ∧ (sz? Tryz.prog 153 = some 1) ∧ (agg? Tryz.prog 153 = some false) ∧ (Tryz.prog.info? 153 = some Tryz.t153) ∧ (Tryz.t153.size = 1) ∧ (Tryz.t153.bytes = 8) ∧ (sz? Tryz.prog 190 = some 1) ∧ (agg? Tryz.prog 190 = some false) ∧ (Tryz.prog.info? 190 = some Tryz.t190) ∧ (Tryz.t190.size = 1) ∧ (Tryz.t190.bytes = 24) ∧ (zeroA Tryz.prog 190 = some [.nil]) ∧ (sz? Tryz.prog 192 = some 1) ∧ (agg? Tryz.prog 192 = some false) ∧ (Tryz.prog.info? 192 = some Tryz.t192) ∧ (Tryz.t192.size = 1) ∧ (Tryz.t192.bytes = 24) ∧ (zeroA Tryz.prog 192 = some [.nil]) ∧ (sz? Tryz.prog 202 = some 1) ∧ (agg? Tryz.prog 202 = some false) ∧ (Tryz.prog.info? 202 = some Tryz.t202) ∧ (Tryz.t202.size = 1) ∧ (Tryz.t202.bytes = 8) ∧ (zeroA Tryz.prog 202 = some [.i .u64 0]) ∧ (sz? Tryz.prog 227 = some 1) ∧ (agg? Tryz.prog 227 = some false) ∧ (Tryz.prog.info? 227 = some Tryz.t227) ∧ (Tryz.t227.size = 1) ∧ (Tryz.t227.bytes = 8) ∧ (sz? Tryz.prog 228 = some 2) ∧ (agg? Tryz.prog 228 = some true) ∧ (Tryz.prog.info? 228 = some Tryz.t228) ∧ (Tryz.t228.size = 2) ∧ (Tryz.t228.bytes = 32) ∧ (offA Tryz.prog 228 0 = some 0) ∧ (offA Tryz.prog 228 1 = some 1) ∧ (sz? Tryz.prog 229 = some 2) ∧ (agg? Tryz.prog 229 = some true) ∧ (Tryz.prog.info? 229 = some Tryz.t229) ∧ (Tryz.t229.size = 2) ∧ (Tryz.t229.bytes = 32) ∧ (offA Tryz.prog 229 0 = some 0) ∧ (offA Tryz.prog 229 1 = some 1) ∧ (sz? Tryz.prog 251 = some 1) ∧ (agg? Tryz.prog 251 = some false) ∧ (Tryz.prog.info? 251 = some Tryz.t251) ∧ (Tryz.t251.size = 1) ∧ (Tryz.t251.bytes = 4) ∧ (zeroA Tryz.prog 251 = some [.i .u32 0]) ∧ (sz? Tryz.prog 253 = some 1) ∧ (agg? Tryz.prog 253 = some false) ∧ (Tryz.prog.info? 253 = some Tryz.t253) ∧ (Tryz.t253.size = 1) ∧ (Tryz.t253.bytes = 8) ∧ (zeroA Tryz.prog 253 = some [.i .u64 0]) ∧ (sz? Tryz.prog 269 = some 1) ∧ (agg? Tryz.prog 269 = some false) ∧ (Tryz.prog.info? 269 = some Tryz.t269) ∧ (Tryz.t269.size = 1) ∧ (Tryz.t269.bytes = 24) ∧ (zeroA Tryz.prog 269 = some [.nil]) ∧ (sz? Tryz.prog 276 = some 1) ∧ (agg? Tryz.prog 276 = some false) ∧ (Tryz.prog.info? 276 = some Tryz.t276) ∧ (Tryz.t276.size = 1) ∧ (Tryz.t276.bytes = 8) ∧ (sz? Tryz.prog 279 = some 1) ∧ (agg? Tryz.prog 279 = some false) ∧ (Tryz.prog.info? 279 = some Tryz.t279) ∧ (Tryz.t279.size = 1) ∧ (Tryz.t279.bytes = 8) ∧ (zeroA Tryz.prog 279 = some [.i .u64 0]) ∧ (Program.stoodInHeld Tryz.prog 141 = false) ∧ (Program.eqGuardType Tryz.prog (Program.depth Tryz.prog) 141 = false) ∧ (Program.stoodInHeld Tryz.prog 142 = false) ∧ (Program.eqGuardType Tryz.prog (Program.depth Tryz.prog) 142 = false) ∧ (Program.stoodInHeld Tryz.prog 151 = false) ∧ (Program.eqGuardType Tryz.prog (Program.depth Tryz.prog) 151 = false) := ⟨z2, g2, i2, s2, b2, n2, z3, g3, i3, s3, b3, n3, z4, g4, i4, s4, b4, n4, z5, g5, i5, s5, b5, n5, z9, g9, i9, s9, b9, z22, g22, i22, s22, b22, n22, z23, g23, i23, s23, b23, n23, z24, g24, i24, s24, b24, n24, o24_0, o24_1, z25, g25, i25, s25, b25, n25, o25_0, o25_1, z27, g27, i27, s27, b27, n27, z28, g28, i28, s28, b28, n28, o28_0, o28_1, o28_2, z29, g29, i29, s29, b29, n29, o29_0, o29_1, o29_2, z32, g32, i32, s32, b32, n32, z33, g33, i33, s33, b33, n33, z34, g34, i34, s34, b34, n34, o34_0, o34_1, z35, g35, i35, s35, b35, n35, o35_0, o35_1, z42, g42, i42, s42, b42, n42, z43, g43, i43, s43, b43, n43, o43_0, o43_1, z44, g44, i44, s44, b44, n44, o44_0, o44_1, z48, g48, i48, s48, b48, n48, o48_0, o48_1, z60, g60, i60, s60, b60, n60, o60_0, o60_1, o60_2, z61, g61, i61, s61, b61, n61, o61_0, o61_1, o61_2, z62, g62, i62, s62, b62, n62, o62_0, o62_1, o62_2, z63, g63, i63, s63, b63, n63, o63_0, o63_1, o63_2, z67, g67, i67, s67, b67, n67, o67_0, o67_1, o67_2, z68, g68, i68, s68, b68, n68, o68_0, o68_1, o68_2, z70, g70, i70, s70, b70, n70, o70_0, o70_1, o70_2, z77, g77, i77, s77, b77, n77, z81, g81, i81, s81, b81, n81, z109, g109, i109, s109, b109, n109, o109_0, o109_1, z110, g110, i110, s110, b110, n110, o110_0, o110_1, z121, g121, i121, s121, b121, n121, z126, g126, i126, s126, b126, n126, z128, g128, i128, s128, b128, n128, z129, g129, i129, s129, b129, n129, z132, g132, i132, s132, b132, n132, o132_0, o132_1, z135, g135, i135, s135, b135, n135, z141, g141, i141, s141, b141, n141, o141_0, o141_1, z142, g142, i142, s142, b142, n142, o142_0, o142_1, z146, g146, i146, s146, b146, n146, z151, g151, i151, s151, b151, n151, o151_0, o151_1, z153, g153, i153, s153, b153, z190, g190, i190, s190, b190, n190, z192, g192, i192, s192, b192, n192, z202, g202, i202, s202, b202, n202, z227, g227, i227, s227, b227, z228, g228, i228, s228, b228, o228_0, o228_1, z229, g229, i229, s229, b229, o229_0, o229_1, z251, g251, i251, s251, b251, n251, z253, g253, i253, s253, b253, n253, z269, g269, i269, s269, b269, n269, z276, g276, i276, s276, b276, z279, g279, i279, s279, b279, n279, h141, q141, h142, q142, h151, q151⟩
end Go.Proofs.BT
