/-
  The table of types of the program, as the steps of the logic ask it. Printed by gen_tab.py.
-/
import Derived.Test.YtficeeaaaijgcaaLk
import Derived.Test.YtficeeaaaijgcaaRows
namespace Go.Proofs.Ytficeeaaaijgcaa.L
open Go

@[go_sem] theorem asz_2 : asz Try.prog 2 = some (false, 1) := by kernel_rfl
@[go_sem] theorem zeroC_2 : zeroC Try.prog 2 = some ([(.int .i64 0)]) := by kernel_rfl
@[go_sem] theorem asz_3 : asz Try.prog 3 = some (false, 1) := by kernel_rfl
@[go_sem] theorem zeroC_3 : zeroC Try.prog 3 = some ([(.int .i64 0)]) := by kernel_rfl
@[go_sem] theorem asz_4 : asz Try.prog 4 = some (false, 1) := by kernel_rfl
@[go_sem] theorem zeroC_4 : zeroC Try.prog 4 = some ([(.bool false)]) := by kernel_rfl
@[go_sem] theorem asz_5 : asz Try.prog 5 = some (false, 1) := by kernel_rfl
@[go_sem] theorem zeroC_5 : zeroC Try.prog 5 = some ([(.int .u8 0)]) := by kernel_rfl
@[go_sem] theorem asz_9 : asz Try.prog 9 = some (false, 1) := by kernel_rfl
@[go_sem] theorem isStr_9 : isStr Try.prog 9 = true := by kernel_rfl
@[go_sem] theorem zeroC_9 : zeroC Try.prog 9 = some ([(.string ⟨#[]⟩)]) := by kernel_rfl
@[go_sem] theorem asz_12 : asz Try.prog 12 = some (false, 1) := by kernel_rfl
@[go_sem] theorem zeroC_12 : zeroC Try.prog 12 = some ([(.int .u64 0)]) := by kernel_rfl
@[go_sem] theorem asz_13 : asz Try.prog 13 = some (true, 2) := by kernel_rfl
@[go_sem] theorem fof_13_0 : fof Try.prog 13 0 = some (0, 9) := by kernel_rfl
@[go_sem] theorem fof_13_1 : fof Try.prog 13 1 = some (1, 12) := by kernel_rfl
@[go_sem] theorem bldT_13 : bldT Try.prog 13 = some ([.u (.string ⟨#[]⟩), .u (.int .u64 0)], [(0, 1), (1, 1)]) := by kernel_rfl
@[go_sem] theorem zeroC_13 : zeroC Try.prog 13 = some ([(.string ⟨#[]⟩), (.int .u64 0)]) := by kernel_rfl
@[go_sem] theorem asz_21 : asz Try.prog 21 = some (false, 1) := by kernel_rfl
@[go_sem] theorem zeroC_21 : zeroC Try.prog 21 = some ([(.int .i32 0)]) := by kernel_rfl
@[go_sem] theorem asz_22 : asz Try.prog 22 = some (false, 1) := by kernel_rfl
@[go_sem] theorem esz_22 : esz Try.prog 22 = some 5 := by kernel_rfl
@[go_sem] theorem isSlice_22 : isSlice Try.prog 22 = true := by kernel_rfl
@[go_sem] theorem selem_22 : selem Try.prog 22 = some (88, 5, 40, .agg #[.int .i64 0, .int .u64 0, .int .u64 0, .int .u64 0, .int .u64 0]) := by kernel_rfl
@[go_sem] theorem zeroC_22 : zeroC Try.prog 22 = some ([(.slice none 0 0)]) := by kernel_rfl
@[go_sem] theorem asz_23 : asz Try.prog 23 = some (false, 1) := by kernel_rfl
@[go_sem] theorem asz_24 : asz Try.prog 24 = some (false, 1) := by kernel_rfl
@[go_sem] theorem esz_24 : esz Try.prog 24 = some 4 := by kernel_rfl
@[go_sem] theorem isSlice_24 : isSlice Try.prog 24 = true := by kernel_rfl
@[go_sem] theorem selem_24 : selem Try.prog 24 = some (28, 4, 32, .agg #[.int .u64 0, .int .u64 0, .int .u64 0, .int .u64 0]) := by kernel_rfl
@[go_sem] theorem zeroC_24 : zeroC Try.prog 24 = some ([(.slice none 0 0)]) := by kernel_rfl
@[go_sem] theorem asz_25 : asz Try.prog 25 = some (false, 1) := by kernel_rfl
@[go_sem] theorem asz_26 : asz Try.prog 26 = some (false, 1) := by kernel_rfl
@[go_sem] theorem zeroC_26 : zeroC Try.prog 26 = some ([(.int .u64 0)]) := by kernel_rfl
@[go_sem] theorem asz_27 : asz Try.prog 27 = some (true, 4) := by kernel_rfl
@[go_sem] theorem arr_27 : arr Try.prog 27 = some (4, 1) := by kernel_rfl
@[go_sem] theorem aelem_27 : aelem Try.prog 27 = some 26 := by kernel_rfl
@[go_sem] theorem bldT_27 : bldT Try.prog 27 = some ([.u (.int .u64 0), .u (.int .u64 0), .u (.int .u64 0), .u (.int .u64 0)], [(0, 1), (1, 1), (2, 1), (3, 1)]) := by kernel_rfl
@[go_sem] theorem zeroC_27 : zeroC Try.prog 27 = some ([(.int .u64 0), (.int .u64 0), (.int .u64 0), (.int .u64 0)]) := by kernel_rfl
@[go_sem] theorem asz_28 : asz Try.prog 28 = some (true, 4) := by kernel_rfl
@[go_sem] theorem arr_28 : arr Try.prog 28 = some (4, 1) := by kernel_rfl
@[go_sem] theorem aelem_28 : aelem Try.prog 28 = some 26 := by kernel_rfl
@[go_sem] theorem bldT_28 : bldT Try.prog 28 = some ([.u (.int .u64 0), .u (.int .u64 0), .u (.int .u64 0), .u (.int .u64 0)], [(0, 1), (1, 1), (2, 1), (3, 1)]) := by kernel_rfl
@[go_sem] theorem zeroC_28 : zeroC Try.prog 28 = some ([(.int .u64 0), (.int .u64 0), (.int .u64 0), (.int .u64 0)]) := by kernel_rfl
@[go_sem] theorem asz_29 : asz Try.prog 29 = some (false, 1) := by kernel_rfl
@[go_sem] theorem asz_30 : asz Try.prog 30 = some (false, 1) := by kernel_rfl
@[go_sem] theorem esz_30 : esz Try.prog 30 = some 1 := by kernel_rfl
@[go_sem] theorem isSlice_30 : isSlice Try.prog 30 = true := by kernel_rfl
@[go_sem] theorem selem_30 : selem Try.prog 30 = some (3, 1, 8, .int .i64 0) := by kernel_rfl
@[go_sem] theorem zeroC_30 : zeroC Try.prog 30 = some ([(.slice none 0 0)]) := by kernel_rfl
@[go_sem] theorem asz_31 : asz Try.prog 31 = some (false, 1) := by kernel_rfl
@[go_sem] theorem asz_32 : asz Try.prog 32 = some (false, 1) := by kernel_rfl
@[go_sem] theorem asz_33 : asz Try.prog 33 = some (false, 1) := by kernel_rfl
@[go_sem] theorem asz_34 : asz Try.prog 34 = some (false, 1) := by kernel_rfl
@[go_sem] theorem asz_35 : asz Try.prog 35 = some (false, 1) := by kernel_rfl
@[go_sem] theorem zeroC_35 : zeroC Try.prog 35 = some ([(.int .i64 0)]) := by kernel_rfl
@[go_sem] theorem asz_36 : asz Try.prog 36 = some (false, 1) := by kernel_rfl
@[go_sem] theorem asz_37 : asz Try.prog 37 = some (false, 1) := by kernel_rfl
@[go_sem] theorem asz_38 : asz Try.prog 38 = some (false, 1) := by kernel_rfl
@[go_sem] theorem asz_39 : asz Try.prog 39 = some (false, 1) := by kernel_rfl
@[go_sem] theorem asz_40 : asz Try.prog 40 = some (false, 1) := by kernel_rfl
@[go_sem] theorem asz_41 : asz Try.prog 41 = some (false, 1) := by kernel_rfl
@[go_sem] theorem esz_41 : esz Try.prog 41 = some 1 := by kernel_rfl
@[go_sem] theorem isSlice_41 : isSlice Try.prog 41 = true := by kernel_rfl
@[go_sem] theorem selem_41 : selem Try.prog 41 = some (22, 1, 24, .slice none 0 0) := by kernel_rfl
@[go_sem] theorem zeroC_41 : zeroC Try.prog 41 = some ([(.slice none 0 0)]) := by kernel_rfl
@[go_sem] theorem asz_42 : asz Try.prog 42 = some (false, 1) := by kernel_rfl
@[go_sem] theorem asz_43 : asz Try.prog 43 = some (true, 256) := by kernel_rfl
@[go_sem] theorem arr_43 : arr Try.prog 43 = some (256, 1) := by kernel_rfl
@[go_sem] theorem aelem_43 : aelem Try.prog 43 = some 5 := by kernel_rfl
@[go_sem] theorem zeroC_43 : zeroC Try.prog 43 = some (List.replicate 256 ((.int .u8 0))) := by kernel_rfl
@[go_sem] theorem asz_44 : asz Try.prog 44 = some (false, 1) := by kernel_rfl
@[go_sem] theorem esz_44 : esz Try.prog 44 = some 1 := by kernel_rfl
@[go_sem] theorem isSlice_44 : isSlice Try.prog 44 = true := by kernel_rfl
@[go_sem] theorem selem_44 : selem Try.prog 44 = some (30, 1, 24, .slice none 0 0) := by kernel_rfl
@[go_sem] theorem zeroC_44 : zeroC Try.prog 44 = some ([(.slice none 0 0)]) := by kernel_rfl
@[go_sem] theorem asz_45 : asz Try.prog 45 = some (true, 259) := by kernel_rfl
@[go_sem] theorem fof_45_0 : fof Try.prog 45 0 = some (0, 43) := by kernel_rfl
@[go_sem] theorem fof_45_1 : fof Try.prog 45 1 = some (256, 3) := by kernel_rfl
@[go_sem] theorem fof_45_2 : fof Try.prog 45 2 = some (257, 44) := by kernel_rfl
@[go_sem] theorem fof_45_3 : fof Try.prog 45 3 = some (258, 30) := by kernel_rfl
@[go_sem] theorem bldT_45 : bldT Try.prog 45 = some (List.replicate 256 (.u (.int .u8 0)) ++ [.u (.int .i64 0), .u (.slice none 0 0), .u (.slice none 0 0)], [(0, 256), (256, 1), (257, 1), (258, 1)]) := by kernel_rfl
@[go_sem] theorem zeroC_45 : zeroC Try.prog 45 = some (List.replicate 256 ((.int .u8 0)) ++ [(.int .i64 0), (.slice none 0 0), (.slice none 0 0)]) := by kernel_rfl
@[go_sem] theorem asz_46 : asz Try.prog 46 = some (true, 259) := by kernel_rfl
@[go_sem] theorem fof_46_0 : fof Try.prog 46 0 = some (0, 43) := by kernel_rfl
@[go_sem] theorem fof_46_1 : fof Try.prog 46 1 = some (256, 3) := by kernel_rfl
@[go_sem] theorem fof_46_2 : fof Try.prog 46 2 = some (257, 44) := by kernel_rfl
@[go_sem] theorem fof_46_3 : fof Try.prog 46 3 = some (258, 30) := by kernel_rfl
@[go_sem] theorem bldT_46 : bldT Try.prog 46 = some (List.replicate 256 (.u (.int .u8 0)) ++ [.u (.int .i64 0), .u (.slice none 0 0), .u (.slice none 0 0)], [(0, 256), (256, 1), (257, 1), (258, 1)]) := by kernel_rfl
@[go_sem] theorem zeroC_46 : zeroC Try.prog 46 = some (List.replicate 256 ((.int .u8 0)) ++ [(.int .i64 0), (.slice none 0 0), (.slice none 0 0)]) := by kernel_rfl
@[go_sem] theorem asz_47 : asz Try.prog 47 = some (false, 1) := by kernel_rfl
@[go_sem] theorem asz_48 : asz Try.prog 48 = some (false, 1) := by kernel_rfl
@[go_sem] theorem asz_49 : asz Try.prog 49 = some (false, 1) := by kernel_rfl
@[go_sem] theorem asz_50 : asz Try.prog 50 = some (false, 1) := by kernel_rfl
@[go_sem] theorem asz_51 : asz Try.prog 51 = some (false, 1) := by kernel_rfl
@[go_sem] theorem esz_51 : esz Try.prog 51 = some 1 := by kernel_rfl
@[go_sem] theorem isSlice_51 : isSlice Try.prog 51 = true := by kernel_rfl
@[go_sem] theorem selem_51 : selem Try.prog 51 = some (4, 1, 1, .bool false) := by kernel_rfl
@[go_sem] theorem zeroC_51 : zeroC Try.prog 51 = some ([(.slice none 0 0)]) := by kernel_rfl
@[go_sem] theorem asz_52 : asz Try.prog 52 = some (false, 1) := by kernel_rfl
@[go_sem] theorem asz_53 : asz Try.prog 53 = some (false, 1) := by kernel_rfl
@[go_sem] theorem asz_54 : asz Try.prog 54 = some (false, 1) := by kernel_rfl
@[go_sem] theorem asz_56 : asz Try.prog 56 = some (false, 1) := by kernel_rfl
@[go_sem] theorem asz_57 : asz Try.prog 57 = some (false, 1) := by kernel_rfl
@[go_sem] theorem asz_58 : asz Try.prog 58 = some (false, 1) := by kernel_rfl
@[go_sem] theorem esz_58 : esz Try.prog 58 = some 3 := by kernel_rfl
@[go_sem] theorem isSlice_58 : isSlice Try.prog 58 = true := by kernel_rfl
@[go_sem] theorem selem_58 : selem Try.prog 58 = some (68, 3, 48, .agg #[.string ⟨#[]⟩, .slice none 0 0, .int .i64 0]) := by kernel_rfl
@[go_sem] theorem zeroC_58 : zeroC Try.prog 58 = some ([(.slice none 0 0)]) := by kernel_rfl
@[go_sem] theorem asz_59 : asz Try.prog 59 = some (false, 1) := by kernel_rfl
@[go_sem] theorem asz_60 : asz Try.prog 60 = some (true, 5) := by kernel_rfl
@[go_sem] theorem fof_60_0 : fof Try.prog 60 0 = some (0, 24) := by kernel_rfl
@[go_sem] theorem fof_60_1 : fof Try.prog 60 1 = some (1, 30) := by kernel_rfl
@[go_sem] theorem fof_60_2 : fof Try.prog 60 2 = some (2, 51) := by kernel_rfl
@[go_sem] theorem fof_60_3 : fof Try.prog 60 3 = some (3, 44) := by kernel_rfl
@[go_sem] theorem fof_60_4 : fof Try.prog 60 4 = some (4, 30) := by kernel_rfl
@[go_sem] theorem bldT_60 : bldT Try.prog 60 = some ([.u (.slice none 0 0), .u (.slice none 0 0), .u (.slice none 0 0), .u (.slice none 0 0), .u (.slice none 0 0)], [(0, 1), (1, 1), (2, 1), (3, 1), (4, 1)]) := by kernel_rfl
@[go_sem] theorem zeroC_60 : zeroC Try.prog 60 = some ([(.slice none 0 0), (.slice none 0 0), (.slice none 0 0), (.slice none 0 0), (.slice none 0 0)]) := by kernel_rfl
@[go_sem] theorem asz_61 : asz Try.prog 61 = some (true, 5) := by kernel_rfl
@[go_sem] theorem fof_61_0 : fof Try.prog 61 0 = some (0, 24) := by kernel_rfl
@[go_sem] theorem fof_61_1 : fof Try.prog 61 1 = some (1, 30) := by kernel_rfl
@[go_sem] theorem fof_61_2 : fof Try.prog 61 2 = some (2, 51) := by kernel_rfl
@[go_sem] theorem fof_61_3 : fof Try.prog 61 3 = some (3, 44) := by kernel_rfl
@[go_sem] theorem fof_61_4 : fof Try.prog 61 4 = some (4, 30) := by kernel_rfl
@[go_sem] theorem bldT_61 : bldT Try.prog 61 = some ([.u (.slice none 0 0), .u (.slice none 0 0), .u (.slice none 0 0), .u (.slice none 0 0), .u (.slice none 0 0)], [(0, 1), (1, 1), (2, 1), (3, 1), (4, 1)]) := by kernel_rfl
@[go_sem] theorem zeroC_61 : zeroC Try.prog 61 = some ([(.slice none 0 0), (.slice none 0 0), (.slice none 0 0), (.slice none 0 0), (.slice none 0 0)]) := by kernel_rfl
@[go_sem] theorem asz_62 : asz Try.prog 62 = some (false, 1) := by kernel_rfl
@[go_sem] theorem asz_63 : asz Try.prog 63 = some (false, 1) := by kernel_rfl
@[go_sem] theorem asz_64 : asz Try.prog 64 = some (false, 1) := by kernel_rfl
@[go_sem] theorem asz_65 : asz Try.prog 65 = some (false, 1) := by kernel_rfl
@[go_sem] theorem asz_66 : asz Try.prog 66 = some (false, 1) := by kernel_rfl
@[go_sem] theorem zeroC_66 : zeroC Try.prog 66 = some ([(.int .i64 0)]) := by kernel_rfl
@[go_sem] theorem asz_67 : asz Try.prog 67 = some (true, 3) := by kernel_rfl
@[go_sem] theorem fof_67_0 : fof Try.prog 67 0 = some (0, 9) := by kernel_rfl
@[go_sem] theorem fof_67_1 : fof Try.prog 67 1 = some (1, 22) := by kernel_rfl
@[go_sem] theorem fof_67_2 : fof Try.prog 67 2 = some (2, 66) := by kernel_rfl
@[go_sem] theorem bldT_67 : bldT Try.prog 67 = some ([.u (.string ⟨#[]⟩), .u (.slice none 0 0), .u (.int .i64 0)], [(0, 1), (1, 1), (2, 1)]) := by kernel_rfl
@[go_sem] theorem zeroC_67 : zeroC Try.prog 67 = some ([(.string ⟨#[]⟩), (.slice none 0 0), (.int .i64 0)]) := by kernel_rfl
@[go_sem] theorem asz_68 : asz Try.prog 68 = some (true, 3) := by kernel_rfl
@[go_sem] theorem fof_68_0 : fof Try.prog 68 0 = some (0, 9) := by kernel_rfl
@[go_sem] theorem fof_68_1 : fof Try.prog 68 1 = some (1, 22) := by kernel_rfl
@[go_sem] theorem fof_68_2 : fof Try.prog 68 2 = some (2, 66) := by kernel_rfl
@[go_sem] theorem bldT_68 : bldT Try.prog 68 = some ([.u (.string ⟨#[]⟩), .u (.slice none 0 0), .u (.int .i64 0)], [(0, 1), (1, 1), (2, 1)]) := by kernel_rfl
@[go_sem] theorem zeroC_68 : zeroC Try.prog 68 = some ([(.string ⟨#[]⟩), (.slice none 0 0), (.int .i64 0)]) := by kernel_rfl
@[go_sem] theorem asz_69 : asz Try.prog 69 = some (false, 1) := by kernel_rfl
@[go_sem] theorem asz_70 : asz Try.prog 70 = some (false, 1) := by kernel_rfl
@[go_sem] theorem asz_71 : asz Try.prog 71 = some (false, 1) := by kernel_rfl
@[go_sem] theorem asz_72 : asz Try.prog 72 = some (false, 1) := by kernel_rfl
@[go_sem] theorem asz_73 : asz Try.prog 73 = some (false, 1) := by kernel_rfl
@[go_sem] theorem asz_74 : asz Try.prog 74 = some (false, 1) := by kernel_rfl
@[go_sem] theorem asz_75 : asz Try.prog 75 = some (false, 1) := by kernel_rfl
@[go_sem] theorem asz_77 : asz Try.prog 77 = some (false, 1) := by kernel_rfl
@[go_sem] theorem asz_78 : asz Try.prog 78 = some (false, 1) := by kernel_rfl
@[go_sem] theorem isPtr_78 : isPtr Try.prog 78 = true := by kernel_rfl
@[go_sem] theorem zeroC_78 : zeroC Try.prog 78 = some ([(.pointer none)]) := by kernel_rfl
@[go_sem] theorem asz_79 : asz Try.prog 79 = some (false, 1) := by kernel_rfl
@[go_sem] theorem asz_80 : asz Try.prog 80 = some (true, 3) := by kernel_rfl
@[go_sem] theorem fof_80_0 : fof Try.prog 80 0 = some (0, 30) := by kernel_rfl
@[go_sem] theorem fof_80_1 : fof Try.prog 80 1 = some (1, 30) := by kernel_rfl
@[go_sem] theorem fof_80_2 : fof Try.prog 80 2 = some (2, 4) := by kernel_rfl
@[go_sem] theorem bldT_80 : bldT Try.prog 80 = some ([.u (.slice none 0 0), .u (.slice none 0 0), .u (.bool false)], [(0, 1), (1, 1), (2, 1)]) := by kernel_rfl
@[go_sem] theorem zeroC_80 : zeroC Try.prog 80 = some ([(.slice none 0 0), (.slice none 0 0), (.bool false)]) := by kernel_rfl
@[go_sem] theorem asz_81 : asz Try.prog 81 = some (true, 3) := by kernel_rfl
@[go_sem] theorem fof_81_0 : fof Try.prog 81 0 = some (0, 30) := by kernel_rfl
@[go_sem] theorem fof_81_1 : fof Try.prog 81 1 = some (1, 30) := by kernel_rfl
@[go_sem] theorem fof_81_2 : fof Try.prog 81 2 = some (2, 4) := by kernel_rfl
@[go_sem] theorem bldT_81 : bldT Try.prog 81 = some ([.u (.slice none 0 0), .u (.slice none 0 0), .u (.bool false)], [(0, 1), (1, 1), (2, 1)]) := by kernel_rfl
@[go_sem] theorem zeroC_81 : zeroC Try.prog 81 = some ([(.slice none 0 0), (.slice none 0 0), (.bool false)]) := by kernel_rfl
@[go_sem] theorem asz_82 : asz Try.prog 82 = some (true, 4) := by kernel_rfl
@[go_sem] theorem fof_82_0 : fof Try.prog 82 0 = some (0, 81) := by kernel_rfl
@[go_sem] theorem fof_82_1 : fof Try.prog 82 1 = some (3, 3) := by kernel_rfl
@[go_sem] theorem bldT_82 : bldT Try.prog 82 = some ([.u (.slice none 0 0), .u (.slice none 0 0), .u (.bool false), .u (.int .i64 0)], [(0, 3), (3, 1)]) := by kernel_rfl
@[go_sem] theorem zeroC_82 : zeroC Try.prog 82 = some ([(.slice none 0 0), (.slice none 0 0), (.bool false), (.int .i64 0)]) := by kernel_rfl
@[go_sem] theorem asz_83 : asz Try.prog 83 = some (true, 4) := by kernel_rfl
@[go_sem] theorem fof_83_0 : fof Try.prog 83 0 = some (0, 81) := by kernel_rfl
@[go_sem] theorem fof_83_1 : fof Try.prog 83 1 = some (3, 3) := by kernel_rfl
@[go_sem] theorem bldT_83 : bldT Try.prog 83 = some ([.u (.slice none 0 0), .u (.slice none 0 0), .u (.bool false), .u (.int .i64 0)], [(0, 3), (3, 1)]) := by kernel_rfl
@[go_sem] theorem zeroC_83 : zeroC Try.prog 83 = some ([(.slice none 0 0), (.slice none 0 0), (.bool false), (.int .i64 0)]) := by kernel_rfl
@[go_sem] theorem asz_84 : asz Try.prog 84 = some (true, 6) := by kernel_rfl
@[go_sem] theorem fof_84_0 : fof Try.prog 84 0 = some (0, 24) := by kernel_rfl
@[go_sem] theorem fof_84_1 : fof Try.prog 84 1 = some (1, 44) := by kernel_rfl
@[go_sem] theorem fof_84_2 : fof Try.prog 84 2 = some (2, 83) := by kernel_rfl
@[go_sem] theorem bldT_84 : bldT Try.prog 84 = some ([.u (.slice none 0 0), .u (.slice none 0 0), .u (.slice none 0 0), .u (.slice none 0 0), .u (.bool false), .u (.int .i64 0)], [(0, 1), (1, 1), (2, 4)]) := by kernel_rfl
@[go_sem] theorem zeroC_84 : zeroC Try.prog 84 = some ([(.slice none 0 0), (.slice none 0 0), (.slice none 0 0), (.slice none 0 0), (.bool false), (.int .i64 0)]) := by kernel_rfl
@[go_sem] theorem asz_85 : asz Try.prog 85 = some (true, 6) := by kernel_rfl
@[go_sem] theorem fof_85_0 : fof Try.prog 85 0 = some (0, 24) := by kernel_rfl
@[go_sem] theorem fof_85_1 : fof Try.prog 85 1 = some (1, 44) := by kernel_rfl
@[go_sem] theorem fof_85_2 : fof Try.prog 85 2 = some (2, 83) := by kernel_rfl
@[go_sem] theorem bldT_85 : bldT Try.prog 85 = some ([.u (.slice none 0 0), .u (.slice none 0 0), .u (.slice none 0 0), .u (.slice none 0 0), .u (.bool false), .u (.int .i64 0)], [(0, 1), (1, 1), (2, 4)]) := by kernel_rfl
@[go_sem] theorem zeroC_85 : zeroC Try.prog 85 = some ([(.slice none 0 0), (.slice none 0 0), (.slice none 0 0), (.slice none 0 0), (.bool false), (.int .i64 0)]) := by kernel_rfl
@[go_sem] theorem asz_86 : asz Try.prog 86 = some (false, 1) := by kernel_rfl
@[go_sem] theorem zeroC_86 : zeroC Try.prog 86 = some ([(.int .i64 0)]) := by kernel_rfl
@[go_sem] theorem asz_87 : asz Try.prog 87 = some (true, 5) := by kernel_rfl
@[go_sem] theorem fof_87_0 : fof Try.prog 87 0 = some (0, 86) := by kernel_rfl
@[go_sem] theorem fof_87_1 : fof Try.prog 87 1 = some (1, 28) := by kernel_rfl
@[go_sem] theorem bldT_87 : bldT Try.prog 87 = some ([.u (.int .i64 0), .u (.int .u64 0), .u (.int .u64 0), .u (.int .u64 0), .u (.int .u64 0)], [(0, 1), (1, 4)]) := by kernel_rfl
@[go_sem] theorem zeroC_87 : zeroC Try.prog 87 = some ([(.int .i64 0), (.int .u64 0), (.int .u64 0), (.int .u64 0), (.int .u64 0)]) := by kernel_rfl
@[go_sem] theorem asz_88 : asz Try.prog 88 = some (true, 5) := by kernel_rfl
@[go_sem] theorem fof_88_0 : fof Try.prog 88 0 = some (0, 86) := by kernel_rfl
@[go_sem] theorem fof_88_1 : fof Try.prog 88 1 = some (1, 28) := by kernel_rfl
@[go_sem] theorem bldT_88 : bldT Try.prog 88 = some ([.u (.int .i64 0), .u (.int .u64 0), .u (.int .u64 0), .u (.int .u64 0), .u (.int .u64 0)], [(0, 1), (1, 4)]) := by kernel_rfl
@[go_sem] theorem zeroC_88 : zeroC Try.prog 88 = some ([(.int .i64 0), (.int .u64 0), (.int .u64 0), (.int .u64 0), (.int .u64 0)]) := by kernel_rfl
@[go_sem] theorem asz_89 : asz Try.prog 89 = some (false, 1) := by kernel_rfl
@[go_sem] theorem asz_90 : asz Try.prog 90 = some (false, 1) := by kernel_rfl
@[go_sem] theorem asz_91 : asz Try.prog 91 = some (false, 1) := by kernel_rfl
@[go_sem] theorem asz_92 : asz Try.prog 92 = some (false, 1) := by kernel_rfl
@[go_sem] theorem zeroC_92 : zeroC Try.prog 92 = some ([(.int .u64 0)]) := by kernel_rfl
@[go_sem] theorem asz_93 : asz Try.prog 93 = some (false, 1) := by kernel_rfl
@[go_sem] theorem asz_94 : asz Try.prog 94 = some (false, 1) := by kernel_rfl
@[go_sem] theorem asz_95 : asz Try.prog 95 = some (false, 1) := by kernel_rfl
@[go_sem] theorem asz_96 : asz Try.prog 96 = some (false, 1) := by kernel_rfl
@[go_sem] theorem asz_97 : asz Try.prog 97 = some (false, 1) := by kernel_rfl
@[go_sem] theorem asz_98 : asz Try.prog 98 = some (false, 1) := by kernel_rfl
@[go_sem] theorem esz_98 : esz Try.prog 98 = some 1 := by kernel_rfl
@[go_sem] theorem isSlice_98 : isSlice Try.prog 98 = true := by kernel_rfl
@[go_sem] theorem selem_98 : selem Try.prog 98 = some (9, 1, 16, .string ⟨#[]⟩) := by kernel_rfl
@[go_sem] theorem zeroC_98 : zeroC Try.prog 98 = some ([(.slice none 0 0)]) := by kernel_rfl
@[go_sem] theorem asz_99 : asz Try.prog 99 = some (false, 1) := by kernel_rfl
@[go_sem] theorem asz_100 : asz Try.prog 100 = some (false, 1) := by kernel_rfl
@[go_sem] theorem asz_101 : asz Try.prog 101 = some (false, 1) := by kernel_rfl
@[go_sem] theorem asz_102 : asz Try.prog 102 = some (false, 1) := by kernel_rfl
@[go_sem] theorem asz_103 : asz Try.prog 103 = some (false, 1) := by kernel_rfl
@[go_sem] theorem asz_104 : asz Try.prog 104 = some (false, 1) := by kernel_rfl
@[go_sem] theorem asz_105 : asz Try.prog 105 = some (false, 1) := by kernel_rfl
@[go_sem] theorem esz_105 : esz Try.prog 105 = some 1 := by kernel_rfl
@[go_sem] theorem isSlice_105 : isSlice Try.prog 105 = true := by kernel_rfl
@[go_sem] theorem selem_105 : selem Try.prog 105 = some (5, 1, 1, .int .u8 0) := by kernel_rfl
@[go_sem] theorem zeroC_105 : zeroC Try.prog 105 = some ([(.slice none 0 0)]) := by kernel_rfl
@[go_sem] theorem asz_106 : asz Try.prog 106 = some (true, 2) := by kernel_rfl
@[go_sem] theorem fof_106_0 : fof Try.prog 106 0 = some (0, 3) := by kernel_rfl
@[go_sem] theorem fof_106_1 : fof Try.prog 106 1 = some (1, 9) := by kernel_rfl
@[go_sem] theorem bldT_106 : bldT Try.prog 106 = some ([.u (.int .i64 0), .u (.string ⟨#[]⟩)], [(0, 1), (1, 1)]) := by kernel_rfl
@[go_sem] theorem zeroC_106 : zeroC Try.prog 106 = some ([(.int .i64 0), (.string ⟨#[]⟩)]) := by kernel_rfl
@[go_sem] theorem asz_107 : asz Try.prog 107 = some (true, 2) := by kernel_rfl
@[go_sem] theorem fof_107_0 : fof Try.prog 107 0 = some (0, 3) := by kernel_rfl
@[go_sem] theorem fof_107_1 : fof Try.prog 107 1 = some (1, 9) := by kernel_rfl
@[go_sem] theorem bldT_107 : bldT Try.prog 107 = some ([.u (.int .i64 0), .u (.string ⟨#[]⟩)], [(0, 1), (1, 1)]) := by kernel_rfl
@[go_sem] theorem zeroC_107 : zeroC Try.prog 107 = some ([(.int .i64 0), (.string ⟨#[]⟩)]) := by kernel_rfl
@[go_sem] theorem asz_108 : asz Try.prog 108 = some (false, 1) := by kernel_rfl
@[go_sem] theorem esz_108 : esz Try.prog 108 = some 2 := by kernel_rfl
@[go_sem] theorem isSlice_108 : isSlice Try.prog 108 = true := by kernel_rfl
@[go_sem] theorem selem_108 : selem Try.prog 108 = some (107, 2, 24, .agg #[.int .i64 0, .string ⟨#[]⟩]) := by kernel_rfl
@[go_sem] theorem zeroC_108 : zeroC Try.prog 108 = some ([(.slice none 0 0)]) := by kernel_rfl
@[go_sem] theorem asz_109 : asz Try.prog 109 = some (false, 1) := by kernel_rfl
@[go_sem] theorem asz_110 : asz Try.prog 110 = some (false, 1) := by kernel_rfl
@[go_sem] theorem asz_111 : asz Try.prog 111 = some (false, 1) := by kernel_rfl
@[go_sem] theorem asz_112 : asz Try.prog 112 = some (false, 1) := by kernel_rfl
@[go_sem] theorem asz_114 : asz Try.prog 114 = some (false, 1) := by kernel_rfl
@[go_sem] theorem asz_115 : asz Try.prog 115 = some (false, 1) := by kernel_rfl
@[go_sem] theorem esz_115 : esz Try.prog 115 = some 4 := by kernel_rfl
@[go_sem] theorem isSlice_115 : isSlice Try.prog 115 = true := by kernel_rfl
@[go_sem] theorem selem_115 : selem Try.prog 115 = some (83, 4, 64, .agg #[.slice none 0 0, .slice none 0 0, .bool false, .int .i64 0]) := by kernel_rfl
@[go_sem] theorem zeroC_115 : zeroC Try.prog 115 = some ([(.slice none 0 0)]) := by kernel_rfl
@[go_sem] theorem asz_116 : asz Try.prog 116 = some (false, 1) := by kernel_rfl
@[go_sem] theorem asz_117 : asz Try.prog 117 = some (false, 1) := by kernel_rfl
@[go_sem] theorem asz_118 : asz Try.prog 118 = some (false, 1) := by kernel_rfl
@[go_sem] theorem asz_119 : asz Try.prog 119 = some (false, 1) := by kernel_rfl
@[go_sem] theorem asz_120 : asz Try.prog 120 = some (false, 1) := by kernel_rfl
@[go_sem] theorem asz_121 : asz Try.prog 121 = some (false, 1) := by kernel_rfl
@[go_sem] theorem asz_122 : asz Try.prog 122 = some (false, 1) := by kernel_rfl
@[go_sem] theorem esz_122 : esz Try.prog 122 = some 1 := by kernel_rfl
@[go_sem] theorem isSlice_122 : isSlice Try.prog 122 = true := by kernel_rfl
@[go_sem] theorem selem_122 : selem Try.prog 122 = some (51, 1, 24, .slice none 0 0) := by kernel_rfl
@[go_sem] theorem zeroC_122 : zeroC Try.prog 122 = some ([(.slice none 0 0)]) := by kernel_rfl
@[go_sem] theorem asz_123 : asz Try.prog 123 = some (false, 1) := by kernel_rfl
@[go_sem] theorem asz_125 : asz Try.prog 125 = some (false, 1) := by kernel_rfl
@[go_sem] theorem asz_126 : asz Try.prog 126 = some (false, 1) := by kernel_rfl
@[go_sem] theorem asz_127 : asz Try.prog 127 = some (false, 1) := by kernel_rfl
@[go_sem] theorem asz_129 : asz Try.prog 129 = some (false, 1) := by kernel_rfl
@[go_sem] theorem asz_131 : asz Try.prog 131 = some (false, 1) := by kernel_rfl
@[go_sem] theorem asz_132 : asz Try.prog 132 = some (false, 1) := by kernel_rfl
@[go_sem] theorem esz_132 : esz Try.prog 132 = some 1 := by kernel_rfl
@[go_sem] theorem isSlice_132 : isSlice Try.prog 132 = true := by kernel_rfl
@[go_sem] theorem selem_132 : selem Try.prog 132 = some (122, 1, 24, .slice none 0 0) := by kernel_rfl
@[go_sem] theorem zeroC_132 : zeroC Try.prog 132 = some ([(.slice none 0 0)]) := by kernel_rfl
@[go_sem] theorem asz_133 : asz Try.prog 133 = some (false, 1) := by kernel_rfl
@[go_sem] theorem asz_134 : asz Try.prog 134 = some (false, 1) := by kernel_rfl
@[go_sem] theorem asz_135 : asz Try.prog 135 = some (false, 1) := by kernel_rfl
@[go_sem] theorem asz_136 : asz Try.prog 136 = some (false, 1) := by kernel_rfl
@[go_sem] theorem asz_138 : asz Try.prog 138 = some (false, 1) := by kernel_rfl
@[go_sem] theorem asz_139 : asz Try.prog 139 = some (false, 1) := by kernel_rfl
@[go_sem] theorem asz_140 : asz Try.prog 140 = some (false, 1) := by kernel_rfl
@[go_sem] theorem asz_141 : asz Try.prog 141 = some (false, 1) := by kernel_rfl
@[go_sem] theorem asz_142 : asz Try.prog 142 = some (false, 1) := by kernel_rfl
@[go_sem] theorem asz_143 : asz Try.prog 143 = some (false, 1) := by kernel_rfl
@[go_sem] theorem asz_144 : asz Try.prog 144 = some (false, 1) := by kernel_rfl
@[go_sem] theorem asz_145 : asz Try.prog 145 = some (false, 1) := by kernel_rfl
@[go_sem] theorem asz_146 : asz Try.prog 146 = some (false, 1) := by kernel_rfl
@[go_sem] theorem asz_147 : asz Try.prog 147 = some (false, 1) := by kernel_rfl
@[go_sem] theorem asz_148 : asz Try.prog 148 = some (true, 3) := by kernel_rfl
@[go_sem] theorem fof_148_0 : fof Try.prog 148 0 = some (0, 146) := by kernel_rfl
@[go_sem] theorem fof_148_1 : fof Try.prog 148 1 = some (1, 146) := by kernel_rfl
@[go_sem] theorem fof_148_2 : fof Try.prog 148 2 = some (2, 146) := by kernel_rfl
@[go_sem] theorem bldT_148 : bldT Try.prog 148 = some ([.u (.nilFunc), .u (.nilFunc), .u (.nilFunc)], [(0, 1), (1, 1), (2, 1)]) := by kernel_rfl
@[go_sem] theorem zeroC_148 : zeroC Try.prog 148 = some ([(.nilFunc), (.nilFunc), (.nilFunc)]) := by kernel_rfl
@[go_sem] theorem asz_149 : asz Try.prog 149 = some (true, 3) := by kernel_rfl
@[go_sem] theorem fof_149_0 : fof Try.prog 149 0 = some (0, 146) := by kernel_rfl
@[go_sem] theorem fof_149_1 : fof Try.prog 149 1 = some (1, 146) := by kernel_rfl
@[go_sem] theorem fof_149_2 : fof Try.prog 149 2 = some (2, 146) := by kernel_rfl
@[go_sem] theorem bldT_149 : bldT Try.prog 149 = some ([.u (.nilFunc), .u (.nilFunc), .u (.nilFunc)], [(0, 1), (1, 1), (2, 1)]) := by kernel_rfl
@[go_sem] theorem zeroC_149 : zeroC Try.prog 149 = some ([(.nilFunc), (.nilFunc), (.nilFunc)]) := by kernel_rfl
@[go_sem] theorem asz_150 : asz Try.prog 150 = some (false, 1) := by kernel_rfl
@[go_sem] theorem asz_151 : asz Try.prog 151 = some (false, 1) := by kernel_rfl
@[go_sem] theorem asz_152 : asz Try.prog 152 = some (false, 1) := by kernel_rfl
@[go_sem] theorem asz_153 : asz Try.prog 153 = some (false, 1) := by kernel_rfl
@[go_sem] theorem asz_154 : asz Try.prog 154 = some (false, 1) := by kernel_rfl
@[go_sem] theorem asz_155 : asz Try.prog 155 = some (false, 1) := by kernel_rfl
@[go_sem] theorem zeroC_155 : zeroC Try.prog 155 = some ([(.int .i64 0)]) := by kernel_rfl
@[go_sem] theorem asz_157 : asz Try.prog 157 = some (false, 1) := by kernel_rfl
@[go_sem] theorem asz_158 : asz Try.prog 158 = some (false, 1) := by kernel_rfl
@[go_sem] theorem asz_159 : asz Try.prog 159 = some (false, 1) := by kernel_rfl
@[go_sem] theorem asz_160 : asz Try.prog 160 = some (false, 1) := by kernel_rfl
@[go_sem] theorem asz_161 : asz Try.prog 161 = some (false, 1) := by kernel_rfl
@[go_sem] theorem asz_162 : asz Try.prog 162 = some (false, 1) := by kernel_rfl
@[go_sem] theorem zeroC_162 : zeroC Try.prog 162 = some ([(.int .u32 0)]) := by kernel_rfl
@[go_sem] theorem asz_163 : asz Try.prog 163 = some (false, 1) := by kernel_rfl
@[go_sem] theorem asz_165 : asz Try.prog 165 = some (true, 2) := by kernel_rfl
@[go_sem] theorem fof_165_0 : fof Try.prog 165 0 = some (0, 5) := by kernel_rfl
@[go_sem] theorem fof_165_1 : fof Try.prog 165 1 = some (1, 4) := by kernel_rfl
@[go_sem] theorem bldT_165 : bldT Try.prog 165 = some ([.u (.int .u8 0), .u (.bool false)], [(0, 1), (1, 1)]) := by kernel_rfl
@[go_sem] theorem zeroC_165 : zeroC Try.prog 165 = some ([(.int .u8 0), (.bool false)]) := by kernel_rfl
@[go_sem] theorem asz_166 : asz Try.prog 166 = some (true, 2) := by kernel_rfl
@[go_sem] theorem fof_166_0 : fof Try.prog 166 0 = some (0, 5) := by kernel_rfl
@[go_sem] theorem fof_166_1 : fof Try.prog 166 1 = some (1, 4) := by kernel_rfl
@[go_sem] theorem bldT_166 : bldT Try.prog 166 = some ([.u (.int .u8 0), .u (.bool false)], [(0, 1), (1, 1)]) := by kernel_rfl
@[go_sem] theorem zeroC_166 : zeroC Try.prog 166 = some ([(.int .u8 0), (.bool false)]) := by kernel_rfl
@[go_sem] theorem asz_168 : asz Try.prog 168 = some (false, 1) := by kernel_rfl
@[go_sem] theorem asz_169 : asz Try.prog 169 = some (false, 1) := by kernel_rfl
@[go_sem] theorem asz_170 : asz Try.prog 170 = some (false, 1) := by kernel_rfl
@[go_sem] theorem asz_172 : asz Try.prog 172 = some (false, 1) := by kernel_rfl
@[go_sem] theorem asz_174 : asz Try.prog 174 = some (false, 1) := by kernel_rfl
@[go_sem] theorem asz_175 : asz Try.prog 175 = some (false, 1) := by kernel_rfl
@[go_sem] theorem zeroC_175 : zeroC Try.prog 175 = some ([(.int .u64 0)]) := by kernel_rfl
@[go_sem] theorem asz_176 : asz Try.prog 176 = some (false, 1) := by kernel_rfl
@[go_sem] theorem asz_177 : asz Try.prog 177 = some (false, 1) := by kernel_rfl
@[go_sem] theorem asz_178 : asz Try.prog 178 = some (false, 1) := by kernel_rfl
@[go_sem] theorem asz_179 : asz Try.prog 179 = some (false, 1) := by kernel_rfl
@[go_sem] theorem isPtr_179 : isPtr Try.prog 179 = true := by kernel_rfl
@[go_sem] theorem zeroC_179 : zeroC Try.prog 179 = some ([(.pointer none)]) := by kernel_rfl
@[go_sem] theorem asz_180 : asz Try.prog 180 = some (false, 1) := by kernel_rfl
@[go_sem] theorem asz_181 : asz Try.prog 181 = some (false, 1) := by kernel_rfl
@[go_sem] theorem asz_182 : asz Try.prog 182 = some (false, 1) := by kernel_rfl
@[go_sem] theorem asz_183 : asz Try.prog 183 = some (false, 1) := by kernel_rfl
@[go_sem] theorem asz_184 : asz Try.prog 184 = some (false, 1) := by kernel_rfl
@[go_sem] theorem asz_185 : asz Try.prog 185 = some (false, 1) := by kernel_rfl
@[go_sem] theorem asz_186 : asz Try.prog 186 = some (false, 1) := by kernel_rfl
@[go_sem] theorem isPtr_186 : isPtr Try.prog 186 = true := by kernel_rfl
@[go_sem] theorem zeroC_186 : zeroC Try.prog 186 = some ([(.pointer none)]) := by kernel_rfl
@[go_sem] theorem asz_188 : asz Try.prog 188 = some (false, 1) := by kernel_rfl
@[go_sem] theorem asz_189 : asz Try.prog 189 = some (false, 1) := by kernel_rfl
@[go_sem] theorem asz_190 : asz Try.prog 190 = some (false, 1) := by kernel_rfl
@[go_sem] theorem asz_191 : asz Try.prog 191 = some (false, 1) := by kernel_rfl
@[go_sem] theorem asz_192 : asz Try.prog 192 = some (false, 1) := by kernel_rfl
@[go_sem] theorem asz_198 : asz Try.prog 198 = some (false, 1) := by kernel_rfl
@[go_sem] theorem asz_201 : asz Try.prog 201 = some (false, 1) := by kernel_rfl
@[go_sem] theorem asz_202 : asz Try.prog 202 = some (false, 1) := by kernel_rfl
@[go_sem] theorem isPtr_202 : isPtr Try.prog 202 = true := by kernel_rfl
@[go_sem] theorem zeroC_202 : zeroC Try.prog 202 = some ([(.pointer none)]) := by kernel_rfl
theorem mixed : Try.prog.follows .mixedOrders = true := by kernel_rfl
end Go.Proofs.Ytficeeaaaijgcaa.L
