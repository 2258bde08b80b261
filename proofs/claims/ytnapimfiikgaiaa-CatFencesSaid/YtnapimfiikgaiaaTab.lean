/- Facts on the types of this program, and the plans of its regions that draw. Nothing here is a claim of its own. -/
import Derived.Test.YtnapimfiikgaiaaEng21
namespace Go.Proofs.Ytnapimfiikgaiaa.Eng.Tab
open Go.Proofs
theorem size_3 : tSize Try.prog 3 = some 1 := by kernel_rfl
theorem size_4 : tSize Try.prog 4 = some 1 := by kernel_rfl
theorem size_5 : tSize Try.prog 5 = some 1 := by kernel_rfl
theorem size_22 : tSize Try.prog 22 = some 1 := by kernel_rfl
theorem size_30 : tSize Try.prog 30 = some 1 := by kernel_rfl
theorem size_32 : tSize Try.prog 32 = some 7 := by kernel_rfl
theorem size_40 : tSize Try.prog 40 = some 1 := by kernel_rfl
theorem size_41 : tSize Try.prog 41 = some 1 := by kernel_rfl
theorem size_42 : tSize Try.prog 42 = some 1 := by kernel_rfl
theorem size_44 : tSize Try.prog 44 = some 4 := by kernel_rfl
theorem size_48 : tSize Try.prog 48 = some 1 := by kernel_rfl
theorem size_50 : tSize Try.prog 50 = some 4 := by kernel_rfl
theorem size_53 : tSize Try.prog 53 = some 9 := by kernel_rfl
theorem size_55 : tSize Try.prog 55 = some 2 := by kernel_rfl
theorem size_59 : tSize Try.prog 59 = some 1 := by kernel_rfl
theorem size_61 : tSize Try.prog 61 = some 5 := by kernel_rfl
theorem size_64 : tSize Try.prog 64 = some 4 := by kernel_rfl
theorem size_66 : tSize Try.prog 66 = some 1 := by kernel_rfl
theorem size_67 : tSize Try.prog 67 = some 8 := by kernel_rfl
theorem size_69 : tSize Try.prog 69 = some 9 := by kernel_rfl
theorem size_72 : tSize Try.prog 72 = some 1 := by kernel_rfl
theorem size_73 : tSize Try.prog 73 = some 1 := by kernel_rfl
theorem size_74 : tSize Try.prog 74 = some 8 := by kernel_rfl
theorem size_76 : tSize Try.prog 76 = some 9 := by kernel_rfl
theorem size_78 : tSize Try.prog 78 = some 5 := by kernel_rfl
theorem size_81 : tSize Try.prog 81 = some 3 := by kernel_rfl
theorem size_98 : tSize Try.prog 98 = some 9 := by kernel_rfl
theorem size_107 : tSize Try.prog 107 = some 2 := by kernel_rfl
theorem size_112 : tSize Try.prog 112 = some 1 := by kernel_rfl
theorem size_114 : tSize Try.prog 114 = some 6 := by kernel_rfl
theorem size_115 : tSize Try.prog 115 = some 8 := by kernel_rfl
theorem agg_3 : tAgg Try.prog 3 = some false := by kernel_rfl
theorem agg_4 : tAgg Try.prog 4 = some false := by kernel_rfl
theorem agg_5 : tAgg Try.prog 5 = some false := by kernel_rfl
theorem agg_22 : tAgg Try.prog 22 = some false := by kernel_rfl
theorem agg_30 : tAgg Try.prog 30 = some false := by kernel_rfl
theorem agg_32 : tAgg Try.prog 32 = some true := by kernel_rfl
theorem agg_40 : tAgg Try.prog 40 = some false := by kernel_rfl
theorem agg_41 : tAgg Try.prog 41 = some false := by kernel_rfl
theorem agg_42 : tAgg Try.prog 42 = some false := by kernel_rfl
theorem agg_44 : tAgg Try.prog 44 = some true := by kernel_rfl
theorem agg_48 : tAgg Try.prog 48 = some false := by kernel_rfl
theorem agg_50 : tAgg Try.prog 50 = some true := by kernel_rfl
theorem agg_53 : tAgg Try.prog 53 = some true := by kernel_rfl
theorem agg_55 : tAgg Try.prog 55 = some true := by kernel_rfl
theorem agg_59 : tAgg Try.prog 59 = some false := by kernel_rfl
theorem agg_61 : tAgg Try.prog 61 = some true := by kernel_rfl
theorem agg_64 : tAgg Try.prog 64 = some true := by kernel_rfl
theorem agg_66 : tAgg Try.prog 66 = some false := by kernel_rfl
theorem agg_67 : tAgg Try.prog 67 = some true := by kernel_rfl
theorem agg_69 : tAgg Try.prog 69 = some true := by kernel_rfl
theorem agg_72 : tAgg Try.prog 72 = some false := by kernel_rfl
theorem agg_73 : tAgg Try.prog 73 = some false := by kernel_rfl
theorem agg_74 : tAgg Try.prog 74 = some true := by kernel_rfl
theorem agg_76 : tAgg Try.prog 76 = some true := by kernel_rfl
theorem agg_78 : tAgg Try.prog 78 = some true := by kernel_rfl
theorem agg_81 : tAgg Try.prog 81 = some true := by kernel_rfl
theorem agg_98 : tAgg Try.prog 98 = some true := by kernel_rfl
theorem agg_107 : tAgg Try.prog 107 = some true := by kernel_rfl
theorem agg_112 : tAgg Try.prog 112 = some false := by kernel_rfl
theorem agg_114 : tAgg Try.prog 114 = some true := by kernel_rfl
theorem agg_115 : tAgg Try.prog 115 = some true := by kernel_rfl
theorem bytes_3 : tBytes Try.prog 3 = some 8 := by kernel_rfl
theorem bytes_4 : tBytes Try.prog 4 = some 1 := by kernel_rfl
theorem bytes_5 : tBytes Try.prog 5 = some 1 := by kernel_rfl
theorem bytes_22 : tBytes Try.prog 22 = some 24 := by kernel_rfl
theorem bytes_30 : tBytes Try.prog 30 = some 8 := by kernel_rfl
theorem bytes_32 : tBytes Try.prog 32 = some 56 := by kernel_rfl
theorem bytes_40 : tBytes Try.prog 40 = some 24 := by kernel_rfl
theorem bytes_41 : tBytes Try.prog 41 = some 24 := by kernel_rfl
theorem bytes_42 : tBytes Try.prog 42 = some 24 := by kernel_rfl
theorem bytes_44 : tBytes Try.prog 44 = some 96 := by kernel_rfl
theorem bytes_48 : tBytes Try.prog 48 = some 24 := by kernel_rfl
theorem bytes_50 : tBytes Try.prog 50 = some 96 := by kernel_rfl
theorem bytes_53 : tBytes Try.prog 53 = some 48 := by kernel_rfl
theorem bytes_55 : tBytes Try.prog 55 = some 16 := by kernel_rfl
theorem bytes_59 : tBytes Try.prog 59 = some 24 := by kernel_rfl
theorem bytes_61 : tBytes Try.prog 61 = some 48 := by kernel_rfl
theorem bytes_64 : tBytes Try.prog 64 = some 40 := by kernel_rfl
theorem bytes_66 : tBytes Try.prog 66 = some 24 := by kernel_rfl
theorem bytes_67 : tBytes Try.prog 67 = some 192 := by kernel_rfl
theorem bytes_69 : tBytes Try.prog 69 = some 216 := by kernel_rfl
theorem bytes_72 : tBytes Try.prog 72 = some 24 := by kernel_rfl
theorem bytes_73 : tBytes Try.prog 73 = some 24 := by kernel_rfl
theorem bytes_74 : tBytes Try.prog 74 = some 192 := by kernel_rfl
theorem bytes_76 : tBytes Try.prog 76 = some 216 := by kernel_rfl
theorem bytes_78 : tBytes Try.prog 78 = some 48 := by kernel_rfl
theorem bytes_81 : tBytes Try.prog 81 = some 24 := by kernel_rfl
theorem bytes_98 : tBytes Try.prog 98 = some 48 := by kernel_rfl
theorem bytes_107 : tBytes Try.prog 107 = some 32 := by kernel_rfl
theorem bytes_112 : tBytes Try.prog 112 = some 8 := by kernel_rfl
theorem bytes_114 : tBytes Try.prog 114 = some 128 := by kernel_rfl
theorem bytes_115 : tBytes Try.prog 115 = some 64 := by kernel_rfl
theorem zero_3 : tZero Try.prog 3 = some [.int .i64 0] := by kernel_rfl
theorem izero_3 : izero Try.prog 3 = some (.int .i64 0) := by kernel_rfl
theorem zero_4 : tZero Try.prog 4 = some [.bool false] := by kernel_rfl
theorem izero_4 : izero Try.prog 4 = some (.bool false) := by kernel_rfl
theorem zero_5 : tZero Try.prog 5 = some [.int .u8 0] := by kernel_rfl
theorem izero_5 : izero Try.prog 5 = some (.int .u8 0) := by kernel_rfl
theorem zero_32 : tZero Try.prog 32 = some [.int .i64 0, .int .i64 0, .bool false, .int .i64 0, .int .u64 0, .int .i64 0, .int .u64 0] := by kernel_rfl
theorem izero_32 : izero Try.prog 32 = some (.agg [.int .i64 0, .int .i64 0, .bool false, .int .i64 0, .int .u64 0, .int .i64 0, .int .u64 0]) := by kernel_rfl
theorem zero_41 : tZero Try.prog 41 = some [.nils] := by kernel_rfl
theorem izero_41 : izero Try.prog 41 = some (.nils) := by kernel_rfl
theorem zero_44 : tZero Try.prog 44 = some [.nils, .nils, .nils, .nils] := by kernel_rfl
theorem izero_44 : izero Try.prog 44 = some (.agg [.nils, .nils, .nils, .nils]) := by kernel_rfl
theorem zero_50 : tZero Try.prog 50 = some [.nils, .nils, .nils, .nils] := by kernel_rfl
theorem izero_50 : izero Try.prog 50 = some (.agg [.nils, .nils, .nils, .nils]) := by kernel_rfl
theorem zero_53 : tZero Try.prog 53 = some [.int .i64 0, .int .i64 0, .int .u64 0, .int .i64 0, .bool false, .bool false, .bool false, .bool false, .int .i64 0] := by kernel_rfl
theorem izero_53 : izero Try.prog 53 = some (.agg [.int .i64 0, .int .i64 0, .int .u64 0, .int .i64 0, .bool false, .bool false, .bool false, .bool false, .int .i64 0]) := by kernel_rfl
theorem zero_55 : tZero Try.prog 55 = some [.int .i64 0, .int .i64 0] := by kernel_rfl
theorem izero_55 : izero Try.prog 55 = some (.agg [.int .i64 0, .int .i64 0]) := by kernel_rfl
theorem zero_61 : tZero Try.prog 61 = some [.int .u64 0, .nils, .bool false, .bool false, .int .i64 0] := by kernel_rfl
theorem izero_61 : izero Try.prog 61 = some (.agg [.int .u64 0, .nils, .bool false, .bool false, .int .i64 0]) := by kernel_rfl
theorem zero_64 : tZero Try.prog 64 = some [.int .u64 0, .nils, .bool false, .bool false] := by kernel_rfl
theorem izero_64 : izero Try.prog 64 = some (.agg [.int .u64 0, .nils, .bool false, .bool false]) := by kernel_rfl
theorem zero_66 : tZero Try.prog 66 = some [.nils] := by kernel_rfl
theorem izero_66 : izero Try.prog 66 = some (.nils) := by kernel_rfl
theorem zero_69 : tZero Try.prog 69 = some [.nils, .nils, .nils, .nils, .nils, .nils, .nils, .nils, .nils] := by kernel_rfl
theorem izero_69 : izero Try.prog 69 = some (.agg [.nils, .nils, .nils, .nils, .nils, .nils, .nils, .nils, .nils]) := by kernel_rfl
theorem zero_73 : tZero Try.prog 73 = some [.nils] := by kernel_rfl
theorem izero_73 : izero Try.prog 73 = some (.nils) := by kernel_rfl
theorem zero_76 : tZero Try.prog 76 = some [.nils, .nils, .nils, .nils, .nils, .nils, .nils, .nils, .nils] := by kernel_rfl
theorem izero_76 : izero Try.prog 76 = some (.agg [.nils, .nils, .nils, .nils, .nils, .nils, .nils, .nils, .nils]) := by kernel_rfl
theorem zero_78 : tZero Try.prog 78 = some [.int .u64 0, .nils, .bool false, .bool false, .int .i64 0] := by kernel_rfl
theorem izero_78 : izero Try.prog 78 = some (.agg [.int .u64 0, .nils, .bool false, .bool false, .int .i64 0]) := by kernel_rfl
theorem zero_81 : tZero Try.prog 81 = some [.int .u64 0, .int .i64 0, .int .u64 0] := by kernel_rfl
theorem izero_81 : izero Try.prog 81 = some (.agg [.int .u64 0, .int .i64 0, .int .u64 0]) := by kernel_rfl
theorem zero_98 : tZero Try.prog 98 = some [.int .i64 0, .int .i64 0, .int .u64 0, .int .i64 0, .bool false, .bool false, .bool false, .bool false, .int .i64 0] := by kernel_rfl
theorem izero_98 : izero Try.prog 98 = some (.agg [.int .i64 0, .int .i64 0, .int .u64 0, .int .i64 0, .bool false, .bool false, .bool false, .bool false, .int .i64 0]) := by kernel_rfl
theorem zero_107 : tZero Try.prog 107 = some [.int .u64 0, .nils] := by kernel_rfl
theorem izero_107 : izero Try.prog 107 = some (.agg [.int .u64 0, .nils]) := by kernel_rfl
theorem zero_114 : tZero Try.prog 114 = some [.nils, .nils, .nils, .nils, .nilm, .nils] := by kernel_rfl
theorem izero_114 : izero Try.prog 114 = some (.agg [.nils, .nils, .nils, .nils, .nilm, .nils]) := by kernel_rfl
theorem zero_115 : tZero Try.prog 115 = some [.int .i64 0, .int .i64 0, .int .i64 0, .int .i64 0, .int .i64 0, .int .i64 0, .int .i64 0, .int .i64 0] := by kernel_rfl
theorem izero_115 : izero Try.prog 115 = some (.agg [.int .i64 0, .int .i64 0, .int .i64 0, .int .i64 0, .int .i64 0, .int .i64 0, .int .i64 0, .int .i64 0]) := by kernel_rfl
theorem fp_32_0 : fldPlace Try.prog 32 0 = some (0, 1) := by kernel_rfl
theorem tf_32_0 : tFld Try.prog 32 0 = some (0, 3) := by kernel_rfl
theorem fp_32_1 : fldPlace Try.prog 32 1 = some (1, 1) := by kernel_rfl
theorem tf_32_1 : tFld Try.prog 32 1 = some (1, 3) := by kernel_rfl
theorem fp_32_2 : fldPlace Try.prog 32 2 = some (2, 1) := by kernel_rfl
theorem tf_32_2 : tFld Try.prog 32 2 = some (2, 4) := by kernel_rfl
theorem fp_32_3 : fldPlace Try.prog 32 3 = some (3, 1) := by kernel_rfl
theorem tf_32_3 : tFld Try.prog 32 3 = some (3, 3) := by kernel_rfl
theorem fp_32_4 : fldPlace Try.prog 32 4 = some (4, 1) := by kernel_rfl
theorem tf_32_4 : tFld Try.prog 32 4 = some (4, 30) := by kernel_rfl
theorem fp_32_5 : fldPlace Try.prog 32 5 = some (5, 1) := by kernel_rfl
theorem tf_32_5 : tFld Try.prog 32 5 = some (5, 3) := by kernel_rfl
theorem fp_32_6 : fldPlace Try.prog 32 6 = some (6, 1) := by kernel_rfl
theorem tf_32_6 : tFld Try.prog 32 6 = some (6, 30) := by kernel_rfl
theorem fp_44_0 : fldPlace Try.prog 44 0 = some (0, 1) := by kernel_rfl
theorem tf_44_0 : tFld Try.prog 44 0 = some (0, 40) := by kernel_rfl
theorem fp_44_1 : fldPlace Try.prog 44 1 = some (1, 1) := by kernel_rfl
theorem tf_44_1 : tFld Try.prog 44 1 = some (1, 41) := by kernel_rfl
theorem fp_44_2 : fldPlace Try.prog 44 2 = some (2, 1) := by kernel_rfl
theorem tf_44_2 : tFld Try.prog 44 2 = some (2, 41) := by kernel_rfl
theorem fp_44_3 : fldPlace Try.prog 44 3 = some (3, 1) := by kernel_rfl
theorem tf_44_3 : tFld Try.prog 44 3 = some (3, 42) := by kernel_rfl
theorem fp_50_0 : fldPlace Try.prog 50 0 = some (0, 1) := by kernel_rfl
theorem tf_50_0 : tFld Try.prog 50 0 = some (0, 48) := by kernel_rfl
theorem fp_50_1 : fldPlace Try.prog 50 1 = some (1, 1) := by kernel_rfl
theorem tf_50_1 : tFld Try.prog 50 1 = some (1, 41) := by kernel_rfl
theorem fp_50_2 : fldPlace Try.prog 50 2 = some (2, 1) := by kernel_rfl
theorem tf_50_2 : tFld Try.prog 50 2 = some (2, 41) := by kernel_rfl
theorem fp_50_3 : fldPlace Try.prog 50 3 = some (3, 1) := by kernel_rfl
theorem tf_50_3 : tFld Try.prog 50 3 = some (3, 42) := by kernel_rfl
theorem fp_53_0 : fldPlace Try.prog 53 0 = some (0, 1) := by kernel_rfl
theorem tf_53_0 : tFld Try.prog 53 0 = some (0, 3) := by kernel_rfl
theorem fp_53_1 : fldPlace Try.prog 53 1 = some (1, 1) := by kernel_rfl
theorem tf_53_1 : tFld Try.prog 53 1 = some (1, 3) := by kernel_rfl
theorem fp_53_2 : fldPlace Try.prog 53 2 = some (2, 1) := by kernel_rfl
theorem tf_53_2 : tFld Try.prog 53 2 = some (2, 30) := by kernel_rfl
theorem fp_53_3 : fldPlace Try.prog 53 3 = some (3, 1) := by kernel_rfl
theorem tf_53_3 : tFld Try.prog 53 3 = some (3, 3) := by kernel_rfl
theorem fp_53_4 : fldPlace Try.prog 53 4 = some (4, 1) := by kernel_rfl
theorem tf_53_4 : tFld Try.prog 53 4 = some (4, 4) := by kernel_rfl
theorem fp_53_5 : fldPlace Try.prog 53 5 = some (5, 1) := by kernel_rfl
theorem tf_53_5 : tFld Try.prog 53 5 = some (5, 4) := by kernel_rfl
theorem fp_53_6 : fldPlace Try.prog 53 6 = some (6, 1) := by kernel_rfl
theorem tf_53_6 : tFld Try.prog 53 6 = some (6, 4) := by kernel_rfl
theorem fp_53_7 : fldPlace Try.prog 53 7 = some (7, 1) := by kernel_rfl
theorem tf_53_7 : tFld Try.prog 53 7 = some (7, 4) := by kernel_rfl
theorem fp_53_8 : fldPlace Try.prog 53 8 = some (8, 1) := by kernel_rfl
theorem tf_53_8 : tFld Try.prog 53 8 = some (8, 3) := by kernel_rfl
theorem fp_61_0 : fldPlace Try.prog 61 0 = some (0, 1) := by kernel_rfl
theorem tf_61_0 : tFld Try.prog 61 0 = some (0, 30) := by kernel_rfl
theorem fp_61_1 : fldPlace Try.prog 61 1 = some (1, 1) := by kernel_rfl
theorem tf_61_1 : tFld Try.prog 61 1 = some (1, 59) := by kernel_rfl
theorem fp_61_2 : fldPlace Try.prog 61 2 = some (2, 1) := by kernel_rfl
theorem tf_61_2 : tFld Try.prog 61 2 = some (2, 4) := by kernel_rfl
theorem fp_61_3 : fldPlace Try.prog 61 3 = some (3, 1) := by kernel_rfl
theorem tf_61_3 : tFld Try.prog 61 3 = some (3, 4) := by kernel_rfl
theorem fp_61_4 : fldPlace Try.prog 61 4 = some (4, 1) := by kernel_rfl
theorem tf_61_4 : tFld Try.prog 61 4 = some (4, 3) := by kernel_rfl
theorem fp_64_0 : fldPlace Try.prog 64 0 = some (0, 1) := by kernel_rfl
theorem tf_64_0 : tFld Try.prog 64 0 = some (0, 30) := by kernel_rfl
theorem fp_64_1 : fldPlace Try.prog 64 1 = some (1, 1) := by kernel_rfl
theorem tf_64_1 : tFld Try.prog 64 1 = some (1, 59) := by kernel_rfl
theorem fp_64_2 : fldPlace Try.prog 64 2 = some (2, 1) := by kernel_rfl
theorem tf_64_2 : tFld Try.prog 64 2 = some (2, 4) := by kernel_rfl
theorem fp_64_3 : fldPlace Try.prog 64 3 = some (3, 1) := by kernel_rfl
theorem tf_64_3 : tFld Try.prog 64 3 = some (3, 4) := by kernel_rfl
theorem fp_69_0 : fldPlace Try.prog 69 0 = some (0, 1) := by kernel_rfl
theorem tf_69_0 : tFld Try.prog 69 0 = some (0, 22) := by kernel_rfl
theorem fp_69_1 : fldPlace Try.prog 69 1 = some (1, 8) := by kernel_rfl
theorem tf_69_1 : tFld Try.prog 69 1 = some (1, 67) := by kernel_rfl
theorem fp_76_0 : fldPlace Try.prog 76 0 = some (0, 1) := by kernel_rfl
theorem tf_76_0 : tFld Try.prog 76 0 = some (0, 72) := by kernel_rfl
theorem fp_76_1 : fldPlace Try.prog 76 1 = some (1, 8) := by kernel_rfl
theorem tf_76_1 : tFld Try.prog 76 1 = some (1, 74) := by kernel_rfl
theorem fp_78_0 : fldPlace Try.prog 78 0 = some (0, 4) := by kernel_rfl
theorem tf_78_0 : tFld Try.prog 78 0 = some (0, 64) := by kernel_rfl
theorem fp_78_1 : fldPlace Try.prog 78 1 = some (4, 1) := by kernel_rfl
theorem tf_78_1 : tFld Try.prog 78 1 = some (4, 3) := by kernel_rfl
theorem fp_81_0 : fldPlace Try.prog 81 0 = some (0, 1) := by kernel_rfl
theorem tf_81_0 : tFld Try.prog 81 0 = some (0, 30) := by kernel_rfl
theorem fp_81_1 : fldPlace Try.prog 81 1 = some (1, 1) := by kernel_rfl
theorem tf_81_1 : tFld Try.prog 81 1 = some (1, 3) := by kernel_rfl
theorem fp_81_2 : fldPlace Try.prog 81 2 = some (2, 1) := by kernel_rfl
theorem tf_81_2 : tFld Try.prog 81 2 = some (2, 30) := by kernel_rfl
theorem fp_98_0 : fldPlace Try.prog 98 0 = some (0, 1) := by kernel_rfl
theorem tf_98_0 : tFld Try.prog 98 0 = some (0, 3) := by kernel_rfl
theorem fp_98_1 : fldPlace Try.prog 98 1 = some (1, 1) := by kernel_rfl
theorem tf_98_1 : tFld Try.prog 98 1 = some (1, 3) := by kernel_rfl
theorem fp_98_2 : fldPlace Try.prog 98 2 = some (2, 1) := by kernel_rfl
theorem tf_98_2 : tFld Try.prog 98 2 = some (2, 30) := by kernel_rfl
theorem fp_98_3 : fldPlace Try.prog 98 3 = some (3, 1) := by kernel_rfl
theorem tf_98_3 : tFld Try.prog 98 3 = some (3, 3) := by kernel_rfl
theorem fp_98_4 : fldPlace Try.prog 98 4 = some (4, 1) := by kernel_rfl
theorem tf_98_4 : tFld Try.prog 98 4 = some (4, 4) := by kernel_rfl
theorem fp_98_5 : fldPlace Try.prog 98 5 = some (5, 1) := by kernel_rfl
theorem tf_98_5 : tFld Try.prog 98 5 = some (5, 4) := by kernel_rfl
theorem fp_98_6 : fldPlace Try.prog 98 6 = some (6, 1) := by kernel_rfl
theorem tf_98_6 : tFld Try.prog 98 6 = some (6, 4) := by kernel_rfl
theorem fp_98_7 : fldPlace Try.prog 98 7 = some (7, 1) := by kernel_rfl
theorem tf_98_7 : tFld Try.prog 98 7 = some (7, 4) := by kernel_rfl
theorem fp_98_8 : fldPlace Try.prog 98 8 = some (8, 1) := by kernel_rfl
theorem tf_98_8 : tFld Try.prog 98 8 = some (8, 3) := by kernel_rfl
theorem fp_107_0 : fldPlace Try.prog 107 0 = some (0, 1) := by kernel_rfl
theorem tf_107_0 : tFld Try.prog 107 0 = some (0, 30) := by kernel_rfl
theorem fp_107_1 : fldPlace Try.prog 107 1 = some (1, 1) := by kernel_rfl
theorem tf_107_1 : tFld Try.prog 107 1 = some (1, 59) := by kernel_rfl
theorem fp_114_0 : fldPlace Try.prog 114 0 = some (0, 4) := by kernel_rfl
theorem tf_114_0 : tFld Try.prog 114 0 = some (0, 50) := by kernel_rfl
theorem fp_114_1 : fldPlace Try.prog 114 1 = some (4, 1) := by kernel_rfl
theorem tf_114_1 : tFld Try.prog 114 1 = some (4, 112) := by kernel_rfl
theorem fp_114_2 : fldPlace Try.prog 114 2 = some (5, 1) := by kernel_rfl
theorem tf_114_2 : tFld Try.prog 114 2 = some (5, 41) := by kernel_rfl
theorem pl_44 : sPlaces Try.prog 44 = some [(0, 1), (1, 1), (2, 1), (3, 1)] := by kernel_rfl
theorem pl_50 : sPlaces Try.prog 50 = some [(0, 1), (1, 1), (2, 1), (3, 1)] := by kernel_rfl
theorem pl_55 : sPlaces Try.prog 55 = none := by kernel_rfl
theorem arr_55 : tArr Try.prog 55 = some (2, 3) := by kernel_rfl
theorem pl_64 : sPlaces Try.prog 64 = some [(0, 1), (1, 1), (2, 1), (3, 1)] := by kernel_rfl
theorem pl_69 : sPlaces Try.prog 69 = some [(0, 1), (1, 8)] := by kernel_rfl
theorem pl_76 : sPlaces Try.prog 76 = some [(0, 1), (1, 8)] := by kernel_rfl
theorem pl_78 : sPlaces Try.prog 78 = some [(0, 4), (4, 1)] := by kernel_rfl
theorem pl_81 : sPlaces Try.prog 81 = some [(0, 1), (1, 1), (2, 1)] := by kernel_rfl
theorem pl_98 : sPlaces Try.prog 98 = some [(0, 1), (1, 1), (2, 1), (3, 1), (4, 1), (5, 1), (6, 1), (7, 1), (8, 1)] := by kernel_rfl
theorem pl_107 : sPlaces Try.prog 107 = some [(0, 1), (1, 1)] := by kernel_rfl
theorem pl_114 : sPlaces Try.prog 114 = some [(0, 4), (4, 1), (5, 1)] := by kernel_rfl
theorem res_0 : Try.f0.results.toList = [] := by kernel_rfl
theorem res_1 : Try.f1.results.toList = [] := by kernel_rfl
theorem res_2 : Try.f2.results.toList = [] := by kernel_rfl
theorem res_3 : Try.f3.results.toList = [.tmp 6] := by kernel_rfl
theorem res_4 : Try.f4.results.toList = [.tmp 4] := by kernel_rfl
theorem res_5 : Try.f5.results.toList = [.tmp 2] := by kernel_rfl
theorem res_6 : Try.f6.results.toList = [.tmp 4] := by kernel_rfl
theorem res_7 : Try.f7.results.toList = [.tmp 2] := by kernel_rfl
theorem res_8 : Try.f8.results.toList = [.tmp 2] := by kernel_rfl
theorem res_9 : Try.f9.results.toList = [.tmp 2] := by kernel_rfl
theorem res_10 : Try.f10.results.toList = [.tmp 4] := by kernel_rfl
theorem res_11 : Try.f11.results.toList = [.tmp 2] := by kernel_rfl
theorem res_12 : Try.f12.results.toList = [.tmp 2] := by kernel_rfl
theorem res_13 : Try.f13.results.toList = [.tmp 6] := by kernel_rfl
theorem res_14 : Try.f14.results.toList = [.tmp 4] := by kernel_rfl
theorem res_15 : Try.f15.results.toList = [.tmp 4] := by kernel_rfl
theorem res_16 : Try.f16.results.toList = [.tmp 0] := by kernel_rfl
theorem res_17 : Try.f17.results.toList = [.cell 2 44] := by kernel_rfl
theorem res_18 : Try.f18.results.toList = [.tmp 2, .tmp 3] := by kernel_rfl
theorem res_19 : Try.f19.results.toList = [.cell 2 50] := by kernel_rfl
theorem res_20 : Try.f20.results.toList = [.tmp 0] := by kernel_rfl
theorem res_21 : Try.f21.results.toList = [.tmp 4] := by kernel_rfl
theorem res_22 : Try.f22.results.toList = [.tmp 6] := by kernel_rfl
theorem res_23 : Try.f23.results.toList = [.tmp 2] := by kernel_rfl
theorem res_24 : Try.f24.results.toList = [.tmp 2] := by kernel_rfl
theorem res_25 : Try.f25.results.toList = [.tmp 4] := by kernel_rfl
theorem res_26 : Try.f26.results.toList = [.tmp 2] := by kernel_rfl
theorem res_27 : Try.f27.results.toList = [.tmp 4] := by kernel_rfl
theorem res_28 : Try.f28.results.toList = [.tmp 8, .tmp 9] := by kernel_rfl
theorem res_29 : Try.f29.results.toList = [.tmp 8, .tmp 9] := by kernel_rfl
theorem res_30 : Try.f30.results.toList = [.tmp 10] := by kernel_rfl
theorem res_31 : Try.f31.results.toList = [.tmp 10] := by kernel_rfl
theorem res_32 : Try.f32.results.toList = [.tmp 10] := by kernel_rfl
theorem res_33 : Try.f33.results.toList = [.tmp 10] := by kernel_rfl
theorem res_34 : Try.f34.results.toList = [.tmp 4] := by kernel_rfl
theorem res_35 : Try.f35.results.toList = [.tmp 4] := by kernel_rfl
theorem res_36 : Try.f36.results.toList = [.tmp 4] := by kernel_rfl
theorem res_37 : Try.f37.results.toList = [.tmp 4] := by kernel_rfl
theorem res_38 : Try.f38.results.toList = [.tmp 6] := by kernel_rfl
theorem res_39 : Try.f39.results.toList = [.tmp 6] := by kernel_rfl
theorem res_40 : Try.f40.results.toList = [.tmp 10] := by kernel_rfl
theorem res_41 : Try.f41.results.toList = [.tmp 10] := by kernel_rfl
theorem res_42 : Try.f42.results.toList = [.tmp 4, .tmp 5] := by kernel_rfl
theorem res_43 : Try.f43.results.toList = [.tmp 4] := by kernel_rfl
theorem res_44 : Try.f44.results.toList = [.tmp 6] := by kernel_rfl
theorem res_45 : Try.f45.results.toList = [.tmp 4] := by kernel_rfl
theorem res_46 : Try.f46.results.toList = [.tmp 4] := by kernel_rfl
theorem res_47 : Try.f47.results.toList = [.tmp 2] := by kernel_rfl
theorem res_48 : Try.f48.results.toList = [.tmp 2] := by kernel_rfl
theorem res_49 : Try.f49.results.toList = [.tmp 2] := by kernel_rfl
theorem res_50 : Try.f50.results.toList = [.tmp 4, .tmp 5] := by kernel_rfl
theorem res_51 : Try.f51.results.toList = [.tmp 6] := by kernel_rfl
theorem res_52 : Try.f52.results.toList = [.cell 6 98] := by kernel_rfl
theorem res_53 : Try.f53.results.toList = [.tmp 2] := by kernel_rfl
theorem res_54 : Try.f54.results.toList = [.tmp 6] := by kernel_rfl
theorem res_55 : Try.f55.results.toList = [.tmp 6] := by kernel_rfl
theorem res_56 : Try.f56.results.toList = [.tmp 6] := by kernel_rfl
theorem res_57 : Try.f57.results.toList = [.tmp 4] := by kernel_rfl
theorem res_58 : Try.f58.results.toList = [.tmp 2] := by kernel_rfl
theorem res_59 : Try.f59.results.toList = [.tmp 4] := by kernel_rfl
theorem res_60 : Try.f60.results.toList = [.cell 6 5] := by kernel_rfl
theorem res_61 : Try.f61.results.toList = [.tmp 6] := by kernel_rfl
theorem res_62 : Try.f62.results.toList = [.tmp 2] := by kernel_rfl
theorem res_63 : Try.f63.results.toList = [.tmp 4] := by kernel_rfl
theorem res_64 : Try.f64.results.toList = [.tmp 4] := by kernel_rfl
theorem res_65 : Try.f65.results.toList = [] := by kernel_rfl
theorem res_66 : Try.f66.results.toList = [] := by kernel_rfl
theorem res_67 : Try.f67.results.toList = [.tmp 2] := by kernel_rfl
theorem res_68 : Try.f68.results.toList = [.tmp 8] := by kernel_rfl
theorem res_69 : Try.f69.results.toList = [.tmp 2] := by kernel_rfl
theorem res_70 : Try.f70.results.toList = [.tmp 4] := by kernel_rfl
theorem res_71 : Try.f71.results.toList = [.tmp 4] := by kernel_rfl
theorem res_72 : Try.f72.results.toList = [.tmp 6] := by kernel_rfl
theorem res_73 : Try.f73.results.toList = [.tmp 6] := by kernel_rfl
theorem res_74 : Try.f74.results.toList = [.tmp 6] := by kernel_rfl
theorem res_75 : Try.f75.results.toList = [.tmp 2] := by kernel_rfl
theorem res_76 : Try.f76.results.toList = [.tmp 4] := by kernel_rfl
theorem res_77 : Try.f77.results.toList = [.tmp 6] := by kernel_rfl
theorem res_78 : Try.f78.results.toList = [.tmp 6] := by kernel_rfl
theorem res_79 : Try.f79.results.toList = [.tmp 2] := by kernel_rfl
theorem res_80 : Try.f80.results.toList = [.tmp 4] := by kernel_rfl
theorem res_81 : Try.f81.results.toList = [.tmp 2] := by kernel_rfl
theorem res_82 : Try.f82.results.toList = [.tmp 2] := by kernel_rfl
theorem res_83 : Try.f83.results.toList = [.tmp 2] := by kernel_rfl
theorem res_84 : Try.f84.results.toList = [.tmp 4] := by kernel_rfl
theorem res_85 : Try.f85.results.toList = [.tmp 4] := by kernel_rfl
theorem res_86 : Try.f86.results.toList = [.tmp 2] := by kernel_rfl
theorem res_87 : Try.f87.results.toList = [.tmp 2] := by kernel_rfl
theorem res_88 : Try.f88.results.toList = [.tmp 4] := by kernel_rfl
theorem res_89 : Try.f89.results.toList = [.tmp 3] := by kernel_rfl
theorem res_90 : Try.f90.results.toList = [.tmp 4] := by kernel_rfl
theorem res_91 : Try.f91.results.toList = [.tmp 6] := by kernel_rfl
theorem res_92 : Try.f92.results.toList = [.tmp 4] := by kernel_rfl
theorem res_93 : Try.f93.results.toList = [] := by kernel_rfl
theorem res_94 : Try.f94.results.toList = [] := by kernel_rfl
theorem res_95 : Try.f95.results.toList = [] := by kernel_rfl
theorem res_96 : Try.f96.results.toList = [] := by kernel_rfl
theorem res_97 : Try.f97.results.toList = [] := by kernel_rfl
theorem res_98 : Try.f98.results.toList = [] := by kernel_rfl
theorem res_99 : Try.f99.results.toList = [] := by kernel_rfl
theorem res_100 : Try.f100.results.toList = [] := by kernel_rfl
theorem res_101 : Try.f101.results.toList = [] := by kernel_rfl
theorem res_102 : Try.f102.results.toList = [] := by kernel_rfl
theorem res_103 : Try.f103.results.toList = [] := by kernel_rfl
theorem res_104 : Try.f104.results.toList = [] := by kernel_rfl
theorem res_105 : Try.f105.results.toList = [] := by kernel_rfl
theorem res_106 : Try.f106.results.toList = [] := by kernel_rfl
theorem res_107 : Try.f107.results.toList = [] := by kernel_rfl
theorem res_108 : Try.f108.results.toList = [] := by kernel_rfl
theorem res_109 : Try.f109.results.toList = [] := by kernel_rfl
theorem res_110 : Try.f110.results.toList = [] := by kernel_rfl
attribute [go_sem] size_3 size_4 size_5 size_22 size_30 size_32 size_40 size_41 size_42 size_44 size_48 size_50
attribute [go_sem] size_53 size_55 size_59 size_61 size_64 size_66 size_67 size_69 size_72 size_73 size_74 size_76
attribute [go_sem] size_78 size_81 size_98 size_107 size_112 size_114 size_115 agg_3 agg_4 agg_5 agg_22 agg_30
attribute [go_sem] agg_32 agg_40 agg_41 agg_42 agg_44 agg_48 agg_50 agg_53 agg_55 agg_59 agg_61 agg_64
attribute [go_sem] agg_66 agg_67 agg_69 agg_72 agg_73 agg_74 agg_76 agg_78 agg_81 agg_98 agg_107 agg_112
attribute [go_sem] agg_114 agg_115 bytes_3 bytes_4 bytes_5 bytes_22 bytes_30 bytes_32 bytes_40 bytes_41 bytes_42 bytes_44
attribute [go_sem] bytes_48 bytes_50 bytes_53 bytes_55 bytes_59 bytes_61 bytes_64 bytes_66 bytes_67 bytes_69 bytes_72 bytes_73
attribute [go_sem] bytes_74 bytes_76 bytes_78 bytes_81 bytes_98 bytes_107 bytes_112 bytes_114 bytes_115 zero_3 izero_3 zero_4
attribute [go_sem] izero_4 zero_5 izero_5 zero_32 izero_32 zero_41 izero_41 zero_44 izero_44 zero_50 izero_50 zero_53
attribute [go_sem] izero_53 zero_55 izero_55 zero_61 izero_61 zero_64 izero_64 zero_66 izero_66 zero_69 izero_69 zero_73
attribute [go_sem] izero_73 zero_76 izero_76 zero_78 izero_78 zero_81 izero_81 zero_98 izero_98 zero_107 izero_107 zero_114
attribute [go_sem] izero_114 zero_115 izero_115 fp_32_0 tf_32_0 fp_32_1 tf_32_1 fp_32_2 tf_32_2 fp_32_3 tf_32_3 fp_32_4
attribute [go_sem] tf_32_4 fp_32_5 tf_32_5 fp_32_6 tf_32_6 fp_44_0 tf_44_0 fp_44_1 tf_44_1 fp_44_2 tf_44_2 fp_44_3
attribute [go_sem] tf_44_3 fp_50_0 tf_50_0 fp_50_1 tf_50_1 fp_50_2 tf_50_2 fp_50_3 tf_50_3 fp_53_0 tf_53_0 fp_53_1
attribute [go_sem] tf_53_1 fp_53_2 tf_53_2 fp_53_3 tf_53_3 fp_53_4 tf_53_4 fp_53_5 tf_53_5 fp_53_6 tf_53_6 fp_53_7
attribute [go_sem] tf_53_7 fp_53_8 tf_53_8 fp_61_0 tf_61_0 fp_61_1 tf_61_1 fp_61_2 tf_61_2 fp_61_3 tf_61_3 fp_61_4
attribute [go_sem] tf_61_4 fp_64_0 tf_64_0 fp_64_1 tf_64_1 fp_64_2 tf_64_2 fp_64_3 tf_64_3 fp_69_0 tf_69_0 fp_69_1
attribute [go_sem] tf_69_1 fp_76_0 tf_76_0 fp_76_1 tf_76_1 fp_78_0 tf_78_0 fp_78_1 tf_78_1 fp_81_0 tf_81_0 fp_81_1
attribute [go_sem] tf_81_1 fp_81_2 tf_81_2 fp_98_0 tf_98_0 fp_98_1 tf_98_1 fp_98_2 tf_98_2 fp_98_3 tf_98_3 fp_98_4
attribute [go_sem] tf_98_4 fp_98_5 tf_98_5 fp_98_6 tf_98_6 fp_98_7 tf_98_7 fp_98_8 tf_98_8 fp_107_0 tf_107_0 fp_107_1
attribute [go_sem] tf_107_1 fp_114_0 tf_114_0 fp_114_1 tf_114_1 fp_114_2 tf_114_2 pl_44 pl_50 pl_55 arr_55 pl_64
attribute [go_sem] pl_69 pl_76 pl_78 pl_81 pl_98 pl_107 pl_114 Try.underlying0 Try.underlying1 Try.underlying2 Try.underlying3 Try.underlying4
attribute [go_sem] Try.underlying5 Try.underlying6 Try.underlying7 Try.underlying8 Try.underlying9 Try.underlying10 Try.underlying11 Try.underlying12 Try.underlying13 Try.underlying14 Try.underlying15 Try.underlying16
attribute [go_sem] Try.underlying17 Try.underlying18 Try.underlying19 Try.underlying20 Try.underlying21 Try.underlying22 Try.underlying23 Try.underlying24 Try.underlying25 Try.underlying26 Try.underlying27 Try.underlying28
attribute [go_sem] Try.underlying29 Try.underlying30 Try.underlying31 Try.underlying32 Try.underlying33 Try.underlying34 Try.underlying35 Try.underlying36 Try.underlying37 Try.underlying38 Try.underlying39 Try.underlying40
attribute [go_sem] Try.underlying41 Try.underlying42 Try.underlying43 Try.underlying44 Try.underlying45 Try.underlying46 Try.underlying47 Try.underlying48 Try.underlying49 Try.underlying50 Try.underlying51 Try.underlying52
attribute [go_sem] Try.underlying53 Try.underlying54 Try.underlying55 Try.underlying56 Try.underlying57 Try.underlying58 Try.underlying59 Try.underlying60 Try.underlying61 Try.underlying62 Try.underlying63 Try.underlying64
attribute [go_sem] Try.underlying65 Try.underlying66 Try.underlying67 Try.underlying68 Try.underlying69 Try.underlying70 Try.underlying71 Try.underlying72 Try.underlying73 Try.underlying74 Try.underlying75 Try.underlying76
attribute [go_sem] Try.underlying77 Try.underlying78 Try.underlying79 Try.underlying80 Try.underlying81 Try.underlying82 Try.underlying83 Try.underlying84 Try.underlying85 Try.underlying86 Try.underlying87 Try.underlying88
attribute [go_sem] Try.underlying89 Try.underlying90 Try.underlying91 Try.underlying92 Try.underlying93 Try.underlying94 Try.underlying95 Try.underlying96 Try.underlying97 Try.underlying98 Try.underlying99 Try.underlying100
attribute [go_sem] Try.underlying101 Try.underlying102 Try.underlying103 Try.underlying104 Try.underlying105 Try.underlying106 Try.underlying107 Try.underlying108 Try.underlying109 Try.underlying110 Try.underlying111 Try.underlying112
attribute [go_sem] Try.underlying113 Try.underlying114 Try.underlying115 Try.underlying116 Try.underlying117 Try.underlying118 Try.underlying119 Try.underlying120 Try.underlying121 Try.underlying122 Try.underlying123 Try.underlying124
attribute [go_sem] Try.underlying125 Try.underlying126 Try.underlying127 Try.underlying128 Try.underlying129 Try.underlying130 Try.underlying131 Try.underlying132 Try.underlying133 Try.underlying134 Try.underlying135 Try.underlying136
attribute [go_sem] Try.underlying137 Try.underlying138 Try.underlying139 Try.underlying140 Try.underlying141 Try.underlying142 Try.underlying143 Try.underlying144 Try.underlying145
def pl4 : Plans
  | 11 => ([.rd 0 1, .rd 0 1, .rd 0 0, .rd 0 0, .rd 0 0, .rd 0 0, .rd 0 0, .rd 0 0, .ef 0, .mk 0 2, .ef 1, .rd 2 2, .ef 2], 1)
  | 16 => ([.rd 0 1, .rd 0 1, .rd 0 0, .rd 0 0, .ef 0, .mk 0 2, .ef 1, .rd 2 2, .ef 2], 1)
  | 22 => ([.rd 0 2, .rd 0 2, .rd 0 0, .rd 0 0, .rd 0 0, .ef 0, .rd 0 1, .rd 0 1, .rd 0 1, .ef 1, .rd 2 2, .mk 0 3, .ef 2, .rd 3 3, .ef 3], 1)
  | _ => ([], 0)
def pl5 : Plans
  | 13 => ([.rd 0 0, .rd 0 0, .rd 0 0, .rd 0 0, .rd 0 0, .rd 0 0, .rd 0 0, .rd 0 0, .rd 0 0, .rd 0 0, .rd 0 0, .rd 0 0, .rd 0 0, .rd 0 0, .rd 0 0, .rd 0 0, .rd 0 0, .rd 0 0, .rd 0 0, .rd 0 0, .rd 0 0, .rd 0 0, .rd 0 0, .rd 0 0, .rd 0 0, .rd 0 0, .rd 0 0, .rd 0 0, .rd 0 0, .rd 0 0, .rd 0 0, .rd 0 0, .rd 0 0, .rd 0 0, .rd 0 0, .rd 0 0, .rd 0 0, .rd 0 0, .rd 0 0, .rd 0 0, .rd 0 0, .rd 0 0, .rd 0 0, .rd 0 0, .rd 0 0, .rd 0 0, .rd 0 0, .rd 0 0, .rd 0 0, .rd 0 0, .rd 0 0, .rd 0 0, .rd 0 0, .ef 0, .rd 1 1], 0)
  | _ => ([], 0)
def pl9 : Plans
  | 7 => ([.rd 0 1, .rd 0 0, .rd 0 0, .rd 0 0, .rd 0 0, .rd 0 0, .mk 0 1, .ef 0, .rd 1 1, .rd 1 1, .ef 1], 1)
  | _ => ([], 0)
def pl10 : Plans
  | 7 => ([.rd 0 0, .rd 0 0, .rd 0 0, .rd 0 0, .rd 0 0, .rd 0 0, .rd 0 0, .rd 0 0, .rd 0 0, .rd 0 0, .rd 0 0, .rd 0 0, .rd 0 0, .rd 0 0, .rd 0 0, .rd 0 0, .rd 0 0, .rd 0 0, .rd 0 0, .rd 0 0, .rd 0 0, .rd 0 0, .rd 0 0, .rd 0 0, .rd 0 0, .rd 0 0, .rd 0 0, .rd 0 0, .rd 0 0, .rd 0 0, .rd 0 0, .rd 0 0, .rd 0 0, .rd 0 0, .rd 0 0, .rd 0 0, .rd 0 0, .rd 0 0, .rd 0 0, .rd 0 0], 0)
  | _ => ([], 0)
def pl11 : Plans
  | 7 => ([.rd 0 0, .rd 0 0, .rd 0 0, .rd 0 0, .rd 0 0, .rd 0 0, .rd 0 0, .rd 0 0, .rd 0 0, .rd 0 0, .rd 0 0, .rd 0 0, .rd 0 0, .rd 0 0, .rd 0 0, .ef 0], 0)
  | 12 => ([.rd 0 1, .rd 0 1, .rd 0 0, .rd 0 0, .rd 0 0, .rd 0 0, .rd 0 0, .rd 0 0, .ef 0, .rd 0 1, .rd 0 1, .rd 1 1, .ef 1], 0)
  | _ => ([], 0)
def pl12 : Plans
  | 5 => ([.rd 0 0, .rd 0 0, .rd 0 0, .rd 0 0, .rd 0 0, .rd 0 0, .rd 0 0, .rd 0 0, .rd 0 0, .rd 0 0, .rd 0 0, .rd 0 0, .rd 0 0, .rd 0 0, .rd 0 0, .ef 0], 0)
  | 10 => ([.rd 0 1, .rd 0 1, .mk 0 1, .rd 0 0, .rd 0 0, .rd 0 0, .rd 0 0, .rd 0 0, .rd 0 0, .ef 0, .rd 0 1, .rd 0 1, .rd 1 1, .ef 1], 1)
  | _ => ([], 0)
def pl13 : Plans
  | 1 => ([.rd 0 0, .rd 0 0, .rd 0 0, .rd 0 0, .rd 0 0, .ef 0, .rd 1 1], 0)
  | 10 => ([.rd 0 0, .rd 0 0, .rd 0 0, .rd 0 0, .rd 0 0, .rd 0 0, .rd 0 0, .rd 0 0, .ef 0, .rd 0 1, .rd 0 1, .rd 0 1, .rd 0 1, .rd 0 1, .rd 0 1, .rd 0 1, .rd 0 1, .ef 1, .rd 2 2, .rd 2 2], 0)
  | 12 => ([.rd 0 0, .rd 0 0, .rd 0 0, .rd 0 0, .rd 0 0, .rd 0 0, .rd 0 0, .rd 0 0, .ef 0, .rd 0 1, .rd 0 1, .rd 0 1, .rd 0 1, .rd 0 1, .rd 0 1, .rd 0 1, .rd 0 1, .ef 1, .rd 2 2, .rd 2 2], 0)
  | 14 => ([.rd 0 0, .rd 0 0, .rd 0 0, .ef 0, .rd 0 1, .rd 0 1, .rd 0 1, .ef 1, .rd 2 2, .rd 2 2], 0)
  | 16 => ([.rd 0 0, .rd 0 0, .rd 0 0, .ef 0, .rd 0 1, .rd 0 1, .rd 0 1, .ef 1, .rd 2 2, .rd 2 2], 0)
  | 18 => ([.rd 0 0, .rd 0 0, .rd 0 0, .rd 0 0, .rd 0 0, .ef 0, .rd 0 1, .rd 0 1, .rd 0 1, .rd 0 1, .rd 0 1, .ef 1, .rd 2 2, .rd 2 2], 0)
  | 20 => ([.rd 0 0, .rd 0 0, .rd 0 0, .rd 0 0, .rd 0 0, .rd 0 0, .rd 0 0, .rd 0 0, .rd 0 0, .rd 0 0, .ef 0, .rd 0 1, .rd 0 1, .rd 0 1, .rd 0 1, .rd 0 1, .rd 0 1, .rd 0 1, .rd 0 1, .rd 0 1, .rd 0 1, .ef 1, .rd 2 2, .rd 2 2], 0)
  | 26 => ([.rd 0 0, .rd 0 0, .rd 0 0, .rd 0 0, .rd 0 0, .rd 0 0, .rd 0 0, .rd 0 0, .rd 0 0, .rd 0 0, .rd 0 0, .rd 0 0, .rd 0 0, .rd 0 0, .rd 0 0, .rd 0 0, .rd 0 0, .rd 0 0, .rd 0 0, .rd 0 0, .rd 0 0, .rd 0 0, .rd 0 0, .rd 0 0, .rd 0 0, .rd 0 0], 0)
  | _ => ([], 0)
def pl14 : Plans
  | 1 => ([.rd 0 0, .rd 0 0, .rd 0 0, .rd 0 0, .rd 0 0, .rd 0 0, .rd 0 0, .rd 0 0, .rd 0 0, .rd 0 0, .rd 0 0, .rd 0 0, .rd 0 0, .rd 0 0, .rd 0 0, .ef 0, .rd 1 1, .rd 1 1], 0)
  | _ => ([], 0)
def pl15 : Plans
  | 1 => ([.rd 0 0, .rd 0 0, .rd 0 0, .rd 0 0, .rd 0 0, .rd 0 0, .rd 0 0, .rd 0 0, .rd 0 0, .rd 0 0, .rd 0 0], 0)
  | _ => ([], 0)
def pl23 : Plans
  | 6 => ([.rd 0 1, .rd 0 0, .rd 0 0, .rd 0 0, .rd 0 0, .rd 0 0, .rd 0 0, .mk 0 1, .ef 0, .rd 1 1, .rd 1 1, .ef 1], 1)
  | _ => ([], 0)
def pl27 : Plans
  | 6 => ([.rd 0 0, .rd 0 0, .rd 0 0, .rd 0 0, .rd 0 0, .rd 0 0, .rd 0 0, .rd 0 0, .rd 0 0, .rd 0 0, .rd 0 0], 0)
  | _ => ([], 0)
def pl30 : Plans
  | 5 => ([.rd 0 2, .rd 0 2, .rd 0 1, .rd 0 1, .rd 0 1, .rd 0 1, .rd 0 1, .rd 0 1, .rd 0 1, .rd 0 1, .rd 0 0, .rd 0 0, .ef 0, .rd 1 1, .mk 0 2, .ef 1, .rd 0 2, .rd 0 2, .rd 2 2, .ef 2], 1)
  | _ => ([], 0)
def pl31 : Plans
  | 5 => ([.rd 0 2, .rd 0 2, .rd 0 1, .rd 0 1, .rd 0 1, .rd 0 1, .rd 0 1, .rd 0 1, .rd 0 1, .rd 0 0, .rd 0 0, .ef 0, .rd 1 1, .mk 0 2, .ef 1, .rd 0 2, .rd 0 2, .rd 2 2, .ef 2], 1)
  | _ => ([], 0)
def pl34 : Plans
  | 4 => ([.rd 0 1, .rd 0 1, .rd 0 0, .rd 0 0, .rd 0 0, .rd 0 0, .rd 0 0, .rd 0 0, .rd 0 0, .ef 0, .rd 0 1, .rd 0 1, .rd 1 1, .ef 1], 0)
  | _ => ([], 0)
def pl35 : Plans
  | 5 => ([.rd 0 1, .rd 0 1, .rd 0 0, .rd 0 0, .rd 0 0, .rd 0 0, .rd 0 0, .rd 0 0, .rd 0 0, .rd 0 0, .ef 0, .rd 0 1, .rd 0 1, .rd 1 1, .ef 1], 0)
  | _ => ([], 0)
def pl42 : Plans
  | 6 => ([.rd 0 0, .rd 0 0, .rd 0 0, .rd 0 0, .rd 0 0, .rd 0 0, .rd 0 0, .rd 0 0, .rd 0 0, .rd 0 0, .rd 0 0, .rd 0 0, .rd 0 0, .rd 0 0, .rd 0 0, .rd 0 0, .rd 0 0, .rd 0 0, .rd 0 0, .rd 0 0, .rd 0 0, .rd 0 0, .rd 0 0, .rd 0 0], 0)
  | _ => ([], 0)
def pl48 : Plans
  | 11 => ([.rd 0 0, .rd 0 0, .rd 0 0, .rd 0 0, .rd 0 0, .rd 0 0, .rd 0 0, .rd 0 0, .rd 0 0, .rd 0 0, .rd 0 0, .rd 0 0, .rd 0 0, .rd 0 0, .rd 0 0, .rd 0 0, .ef 0, .rd 1 1, .rd 1 1, .rd 1 1, .rd 1 1, .rd 1 1, .ef 1, .rd 2 2], 0)
  | _ => ([], 0)
def pl49 : Plans
  | 1 => ([.rd 0 0, .mk 0 1, .rd 0 0, .rd 0 0, .rd 0 0, .mk 1 1, .rd 0 0, .mk 2 1, .rd 0 0], 3)
  | 19 => ([.rd 0 0, .rd 0 0, .rd 0 0, .rd 0 0, .rd 0 0, .rd 0 0, .rd 0 0, .rd 0 0, .rd 0 0, .rd 0 0, .rd 0 0, .rd 0 0, .rd 0 0, .rd 0 0, .rd 0 0, .rd 0 0, .rd 0 0, .rd 0 0, .rd 0 0, .rd 0 0, .rd 0 0, .rd 0 0, .rd 0 0, .ef 0, .rd 1 1], 0)
  | _ => ([], 0)
def pl51 : Plans
  | 7 => ([.rd 0 0, .rd 0 0, .rd 0 0, .rd 0 0, .rd 0 0, .rd 0 0, .rd 0 0, .rd 0 0, .rd 0 0, .rd 0 0, .rd 0 0, .rd 0 0, .rd 0 0, .rd 0 0, .rd 0 0, .rd 0 0, .rd 0 0, .rd 0 0, .rd 0 0], 0)
  | _ => ([], 0)
def pl55 : Plans
  | 8 => ([.rd 0 0, .rd 0 0, .ef 0, .rd 0 1, .rd 0 1, .ef 1, .rd 2 2, .rd 2 2], 0)
  | 9 => ([.rd 0 0, .rd 0 0, .rd 0 0, .rd 0 0, .rd 0 0, .rd 0 0, .rd 0 0, .rd 0 0, .rd 0 0, .rd 0 0, .rd 0 0, .rd 0 0, .rd 0 0, .rd 0 0, .rd 0 0, .rd 0 0, .rd 0 0, .rd 0 0, .rd 0 0, .rd 0 0, .rd 0 0, .rd 0 0, .ef 0, .rd 0 1, .rd 0 1, .ef 1, .rd 2 2, .rd 2 2, .rd 2 2, .rd 2 2], 0)
  | _ => ([], 0)
def pl56 : Plans
  | 5 => ([.rd 0 0, .rd 0 0, .rd 0 0, .rd 0 0, .rd 0 0, .rd 0 0, .rd 0 0, .rd 0 0, .rd 0 0], 0)
  | _ => ([], 0)
def pl60 : Plans
  | 6 => ([.rd 0 1, .rd 0 1, .rd 0 1, .rd 0 1, .rd 0 0, .rd 0 0, .ef 0, .rd 1 1, .rd 1 1, .mk 0 2, .ef 1], 1)
  | _ => ([], 0)
def pl61 : Plans
  | 2 => ([.rd 0 0, .rd 0 0, .rd 0 0, .rd 0 0, .rd 0 0, .rd 0 0, .rd 0 0, .rd 0 0, .rd 0 0, .rd 0 0, .rd 0 0, .rd 0 0, .rd 0 0, .rd 0 0, .rd 0 0, .rd 0 0, .rd 0 0, .rd 0 0, .rd 0 0, .rd 0 0, .rd 0 0], 0)
  | _ => ([], 0)
def pl65 : Plans
  | 4 => ([.rd 0 1, .rd 0 1, .rd 0 1, .rd 0 1, .rd 0 0, .rd 0 0, .rd 0 0, .rd 0 0, .rd 0 0, .ef 0, .rd 1 1, .rd 1 1, .mk 0 2, .ef 1], 1)
  | _ => ([], 0)
def pl66 : Plans
  | 5 => ([.rd 0 0, .rd 0 0, .rd 0 0, .rd 0 0, .rd 0 0, .rd 0 0, .rd 0 0, .rd 0 0, .rd 0 0, .rd 0 0, .rd 0 0, .rd 0 0, .rd 0 0, .rd 0 0, .rd 0 0, .rd 0 0, .rd 0 0, .rd 0 0, .rd 0 0, .rd 0 0, .rd 0 0, .rd 0 0, .rd 0 0, .rd 0 0, .ef 0], 0)
  | _ => ([], 0)
def pl72 : Plans
  | 1 => ([.rd 0 0, .rd 0 0, .rd 0 0, .rd 0 0, .rd 0 0, .rd 0 0, .rd 0 0, .rd 0 0, .rd 0 0, .rd 0 0, .rd 0 0, .rd 0 0, .rd 0 0, .rd 0 0, .rd 0 0, .rd 0 0, .rd 0 0, .rd 0 0, .rd 0 0, .rd 0 0, .rd 0 0, .rd 0 0, .rd 0 0, .rd 0 0, .rd 0 0, .rd 0 0, .rd 0 0, .rd 0 0, .rd 0 0, .rd 0 0, .rd 0 0, .rd 0 0, .rd 0 0, .rd 0 0, .rd 0 0, .rd 0 0, .rd 0 0, .rd 0 0, .rd 0 0, .rd 0 0, .rd 0 0, .ef 0, .rd 1 1, .rd 1 1], 0)
  | _ => ([], 0)
def pl73 : Plans
  | 1 => ([.rd 0 0, .rd 0 0, .rd 0 0, .rd 0 0, .rd 0 0, .rd 0 0, .rd 0 0, .rd 0 0, .rd 0 0, .rd 0 0, .rd 0 0, .rd 0 0, .rd 0 0, .rd 0 0, .rd 0 0, .rd 0 0, .rd 0 0, .rd 0 0, .rd 0 0, .rd 0 0, .rd 0 0, .rd 0 0, .rd 0 0, .rd 0 0, .rd 0 0, .rd 0 0, .rd 0 0, .rd 0 0, .rd 0 0, .rd 0 0, .rd 0 0, .rd 0 0, .rd 0 0, .rd 0 0, .rd 0 0, .rd 0 0, .rd 0 0, .rd 0 0, .rd 0 0, .ef 0, .rd 1 1, .rd 1 1], 0)
  | 4 => ([.rd 0 0, .rd 0 0, .rd 0 0, .rd 0 0, .rd 0 0, .rd 0 0, .rd 0 0, .rd 0 0, .rd 0 0, .rd 0 0, .rd 0 0, .rd 0 0, .rd 0 0, .rd 0 0, .rd 0 0, .rd 0 0, .rd 0 0, .rd 0 0], 0)
  | _ => ([], 0)
def pl74 : Plans
  | 1 => ([.rd 0 0, .rd 0 0, .rd 0 0, .rd 0 0, .rd 0 0, .rd 0 0, .rd 0 0, .rd 0 0, .rd 0 0, .rd 0 0, .rd 0 0, .rd 0 0, .rd 0 0, .rd 0 0, .rd 0 0, .rd 0 0, .rd 0 0, .rd 0 0, .rd 0 0, .rd 0 0, .rd 0 0, .rd 0 0, .rd 0 0, .rd 0 0, .rd 0 0, .rd 0 0, .rd 0 0, .rd 0 0, .rd 0 0, .rd 0 0, .rd 0 0, .rd 0 0, .rd 0 0, .rd 0 0, .rd 0 0, .rd 0 0, .rd 0 0, .rd 0 0, .rd 0 0, .ef 0, .rd 1 1, .rd 1 1, .rd 1 1, .rd 1 1, .rd 1 1, .rd 1 1, .rd 1 1, .rd 1 1, .rd 1 1, .rd 1 1, .rd 1 1, .rd 1 1, .rd 1 1, .rd 1 1, .rd 1 1, .rd 1 1, .rd 1 1], 0)
  | _ => ([], 0)
def pl77 : Plans
  | 1 => ([.rd 0 0, .rd 0 0, .rd 0 0, .rd 0 0, .rd 0 0, .rd 0 0, .rd 0 0, .rd 0 0, .rd 0 1, .rd 0 1, .rd 0 1, .rd 0 1, .rd 0 1, .rd 0 1, .rd 0 1, .rd 0 1, .mk 0 1, .mk 1 1, .ef 0, .ef 1], 2)
  | _ => ([], 0)
def pl82 : Plans
  | 7 => ([.rd 0 0, .rd 0 0, .ef 0, .rd 1 1, .rd 1 1, .rd 1 1, .rd 1 1, .rd 1 1, .rd 1 1, .rd 1 1, .rd 1 1, .rd 1 1, .rd 1 1, .rd 1 1, .rd 1 1, .rd 1 1, .rd 1 1, .rd 1 1, .rd 1 1, .rd 1 1, .rd 1 1, .rd 1 1, .rd 1 1, .rd 1 1, .rd 1 1, .rd 1 1, .rd 1 1, .rd 1 1, .rd 1 1, .rd 1 1, .rd 1 1, .rd 1 1, .rd 1 1, .ef 1, .rd 2 2, .rd 2 2, .rd 2 2], 0)
  | _ => ([], 0)
def pl91 : Plans
  | 1 => ([.rd 0 0, .rd 0 0, .rd 0 0, .rd 0 0, .rd 0 0, .rd 0 0, .rd 0 0, .rd 0 0, .rd 0 1, .rd 0 1, .rd 0 1, .rd 0 1, .rd 0 1, .rd 0 1, .rd 0 1, .rd 0 1, .mk 0 1, .mk 1 1, .ef 0, .ef 1], 2)
  | _ => ([], 0)
def pl : Plans := fun _ => ([], 0)
end Go.Proofs.Ytnapimfiikgaiaa.Eng.Tab
