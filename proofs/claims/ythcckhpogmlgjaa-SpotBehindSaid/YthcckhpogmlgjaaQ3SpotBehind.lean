/-
  Texts of this proof, put together: LTab, RxFn, Kit, Ty, Shelf, RiseFn, ShI, Set, R7a, Tree, R7b, Sets, SpA, SpM, RxA, Ad, So, Sq, Sr, Ss, St, Su, Sv, Sw, Sx.
-/
import Derived.Test.YthcckhpogmlgjaaRows
import Derived.WalkKit
import Derived.Lib.Hide
import Derived.Outline
import Derived.Deep.QuietTactic
import Derived.BigQuiet
import Derived.WalkSmall
import Derived.StillTailTactics
import Derived.Shelf.Small.Bits
import Derived.Shelf.Strconv.Itoa0
import Derived.Shelf.Sort.Plain
import Derived.Ground.Names2Prog
import Derived.Shelf.Slices.Clone
import Derived.Shelf.Slices.CompactI
import Derived.Shelf.Slices.SearchI
import Derived.Shelf.Slices.Cells
import Derived.Shelf.Slices.In.SortNone
import Derived.Ground.SlgnProg
import Derived.Shelf.SlicesE.Clone
import Derived.Test.YthcckhpogmlgjaaProg
import Derived.Lib.SlicesCompact
import Derived.Sort.OwnSortedInts
import Derived.Lib.OwnBridge
import Derived.LoopN
import Derived.Deep.RegionWith
import Derived.Test.YthcckhpogmlgjaaQ2SpotBehind

/-
  The table of types of the program, as the steps of the logic ask it. Printed by gen_tab.py.
-/
namespace Go.Proofs.Ythcckhpogmlgjaa.L
open Go

@[go_sem] theorem asz_2 : asz Try.prog 2 = some (false, 1) := by kernel_rfl
@[go_sem] theorem ik_2 : ikind Try.prog 2 = some .i64 := by kernel_rfl
@[go_sem] theorem zeroC_2 : zeroC Try.prog 2 = some ([(.int .i64 0)]) := by kernel_rfl
@[go_sem] theorem asz_3 : asz Try.prog 3 = some (false, 1) := by kernel_rfl
@[go_sem] theorem ik_3 : ikind Try.prog 3 = some .i64 := by kernel_rfl
@[go_sem] theorem zeroC_3 : zeroC Try.prog 3 = some ([(.int .i64 0)]) := by kernel_rfl
@[go_sem] theorem asz_4 : asz Try.prog 4 = some (false, 1) := by kernel_rfl
@[go_sem] theorem zeroC_4 : zeroC Try.prog 4 = some ([(.bool false)]) := by kernel_rfl
@[go_sem] theorem asz_5 : asz Try.prog 5 = some (false, 1) := by kernel_rfl
@[go_sem] theorem ik_5 : ikind Try.prog 5 = some .u8 := by kernel_rfl
@[go_sem] theorem zeroC_5 : zeroC Try.prog 5 = some ([(.int .u8 0)]) := by kernel_rfl
@[go_sem] theorem asz_9 : asz Try.prog 9 = some (false, 1) := by kernel_rfl
@[go_sem] theorem isStr_9 : isStr Try.prog 9 = true := by kernel_rfl
@[go_sem] theorem zeroC_9 : zeroC Try.prog 9 = some ([(.string ⟨#[]⟩)]) := by kernel_rfl
@[go_sem] theorem asz_12 : asz Try.prog 12 = some (false, 1) := by kernel_rfl
@[go_sem] theorem ik_12 : ikind Try.prog 12 = some .u64 := by kernel_rfl
@[go_sem] theorem zeroC_12 : zeroC Try.prog 12 = some ([(.int .u64 0)]) := by kernel_rfl
@[go_sem] theorem asz_13 : asz Try.prog 13 = some (true, 2) := by kernel_rfl
@[go_sem] theorem fof_13_0 : fof Try.prog 13 0 = some (0, 9) := by kernel_rfl
@[go_sem] theorem fof_13_1 : fof Try.prog 13 1 = some (1, 12) := by kernel_rfl
@[go_sem] theorem bldT_13 : bldT Try.prog 13 = some ([.u (.string ⟨#[]⟩), .u (.int .u64 0)], [(0, 1), (1, 1)]) := by kernel_rfl
@[go_sem] theorem zeroC_13 : zeroC Try.prog 13 = some ([(.string ⟨#[]⟩), (.int .u64 0)]) := by kernel_rfl
@[go_sem] theorem asz_21 : asz Try.prog 21 = some (false, 1) := by kernel_rfl
@[go_sem] theorem ik_21 : ikind Try.prog 21 = some .i32 := by kernel_rfl
@[go_sem] theorem zeroC_21 : zeroC Try.prog 21 = some ([(.int .i32 0)]) := by kernel_rfl
@[go_sem] theorem asz_22 : asz Try.prog 22 = some (false, 1) := by kernel_rfl
@[go_sem] theorem esz_22 : esz Try.prog 22 = some 5 := by kernel_rfl
@[go_sem] theorem isSlice_22 : isSlice Try.prog 22 = true := by kernel_rfl
@[go_sem] theorem selem_22 : selem Try.prog 22 = some (58, 5, 40, .agg #[.int .i64 0, .int .u64 0, .int .u64 0, .int .u64 0, .int .u64 0]) := by kernel_rfl
@[go_sem] theorem zeroC_22 : zeroC Try.prog 22 = some ([(.slice none 0 0)]) := by kernel_rfl
@[go_sem] theorem asz_23 : asz Try.prog 23 = some (false, 1) := by kernel_rfl
@[go_sem] theorem ik_23 : ikind Try.prog 23 = some .i64 := by kernel_rfl
@[go_sem] theorem zeroC_23 : zeroC Try.prog 23 = some ([(.int .i64 0)]) := by kernel_rfl
@[go_sem] theorem asz_24 : asz Try.prog 24 = some (false, 1) := by kernel_rfl
@[go_sem] theorem asz_25 : asz Try.prog 25 = some (false, 1) := by kernel_rfl
@[go_sem] theorem asz_26 : asz Try.prog 26 = some (false, 1) := by kernel_rfl
@[go_sem] theorem asz_27 : asz Try.prog 27 = some (false, 1) := by kernel_rfl
@[go_sem] theorem esz_27 : esz Try.prog 27 = some 1 := by kernel_rfl
@[go_sem] theorem isSlice_27 : isSlice Try.prog 27 = true := by kernel_rfl
@[go_sem] theorem selem_27 : selem Try.prog 27 = some (22, 1, 24, .slice none 0 0) := by kernel_rfl
@[go_sem] theorem zeroC_27 : zeroC Try.prog 27 = some ([(.slice none 0 0)]) := by kernel_rfl
@[go_sem] theorem asz_28 : asz Try.prog 28 = some (false, 1) := by kernel_rfl
@[go_sem] theorem esz_28 : esz Try.prog 28 = some 4 := by kernel_rfl
@[go_sem] theorem isSlice_28 : isSlice Try.prog 28 = true := by kernel_rfl
@[go_sem] theorem selem_28 : selem Try.prog 28 = some (56, 4, 32, .agg #[.int .u64 0, .int .u64 0, .int .u64 0, .int .u64 0]) := by kernel_rfl
@[go_sem] theorem zeroC_28 : zeroC Try.prog 28 = some ([(.slice none 0 0)]) := by kernel_rfl
@[go_sem] theorem asz_29 : asz Try.prog 29 = some (false, 1) := by kernel_rfl
@[go_sem] theorem asz_30 : asz Try.prog 30 = some (false, 1) := by kernel_rfl
@[go_sem] theorem esz_30 : esz Try.prog 30 = some 1 := by kernel_rfl
@[go_sem] theorem isSlice_30 : isSlice Try.prog 30 = true := by kernel_rfl
@[go_sem] theorem selem_30 : selem Try.prog 30 = some (3, 1, 8, .int .i64 0) := by kernel_rfl
@[go_sem] theorem zeroC_30 : zeroC Try.prog 30 = some ([(.slice none 0 0)]) := by kernel_rfl
@[go_sem] theorem asz_31 : asz Try.prog 31 = some (false, 1) := by kernel_rfl
@[go_sem] theorem asz_32 : asz Try.prog 32 = some (false, 1) := by kernel_rfl
@[go_sem] theorem asz_33 : asz Try.prog 33 = some (false, 1) := by kernel_rfl
@[go_sem] theorem asz_34 : asz Try.prog 34 = some (false, 1) := by kernel_rfl
@[go_sem] theorem asz_35 : asz Try.prog 35 = some (false, 1) := by kernel_rfl
@[go_sem] theorem asz_36 : asz Try.prog 36 = some (false, 1) := by kernel_rfl
@[go_sem] theorem asz_37 : asz Try.prog 37 = some (true, 256) := by kernel_rfl
@[go_sem] theorem arr_37 : arr Try.prog 37 = some (256, 1) := by kernel_rfl
@[go_sem] theorem aelem_37 : aelem Try.prog 37 = some 5 := by kernel_rfl
@[go_sem] theorem zeroC_37 : zeroC Try.prog 37 = some (List.replicate 256 ((.int .u8 0))) := by kernel_rfl
@[go_sem] theorem asz_38 : asz Try.prog 38 = some (false, 1) := by kernel_rfl
@[go_sem] theorem esz_38 : esz Try.prog 38 = some 1 := by kernel_rfl
@[go_sem] theorem isSlice_38 : isSlice Try.prog 38 = true := by kernel_rfl
@[go_sem] theorem selem_38 : selem Try.prog 38 = some (30, 1, 24, .slice none 0 0) := by kernel_rfl
@[go_sem] theorem zeroC_38 : zeroC Try.prog 38 = some ([(.slice none 0 0)]) := by kernel_rfl
@[go_sem] theorem asz_39 : asz Try.prog 39 = some (true, 259) := by kernel_rfl
@[go_sem] theorem fof_39_0 : fof Try.prog 39 0 = some (0, 37) := by kernel_rfl
@[go_sem] theorem fof_39_1 : fof Try.prog 39 1 = some (256, 3) := by kernel_rfl
@[go_sem] theorem fof_39_2 : fof Try.prog 39 2 = some (257, 38) := by kernel_rfl
@[go_sem] theorem fof_39_3 : fof Try.prog 39 3 = some (258, 30) := by kernel_rfl
@[go_sem] theorem bldT_39 : bldT Try.prog 39 = some (List.replicate 256 (.u (.int .u8 0)) ++ [.u (.int .i64 0), .u (.slice none 0 0), .u (.slice none 0 0)], [(0, 256), (256, 1), (257, 1), (258, 1)]) := by kernel_rfl
@[go_sem] theorem zeroC_39 : zeroC Try.prog 39 = some (List.replicate 256 ((.int .u8 0)) ++ [(.int .i64 0), (.slice none 0 0), (.slice none 0 0)]) := by kernel_rfl
@[go_sem] theorem asz_40 : asz Try.prog 40 = some (true, 259) := by kernel_rfl
@[go_sem] theorem fof_40_0 : fof Try.prog 40 0 = some (0, 37) := by kernel_rfl
@[go_sem] theorem fof_40_1 : fof Try.prog 40 1 = some (256, 3) := by kernel_rfl
@[go_sem] theorem fof_40_2 : fof Try.prog 40 2 = some (257, 38) := by kernel_rfl
@[go_sem] theorem fof_40_3 : fof Try.prog 40 3 = some (258, 30) := by kernel_rfl
@[go_sem] theorem bldT_40 : bldT Try.prog 40 = some (List.replicate 256 (.u (.int .u8 0)) ++ [.u (.int .i64 0), .u (.slice none 0 0), .u (.slice none 0 0)], [(0, 256), (256, 1), (257, 1), (258, 1)]) := by kernel_rfl
@[go_sem] theorem zeroC_40 : zeroC Try.prog 40 = some (List.replicate 256 ((.int .u8 0)) ++ [(.int .i64 0), (.slice none 0 0), (.slice none 0 0)]) := by kernel_rfl
@[go_sem] theorem asz_41 : asz Try.prog 41 = some (false, 1) := by kernel_rfl
@[go_sem] theorem asz_42 : asz Try.prog 42 = some (false, 1) := by kernel_rfl
@[go_sem] theorem asz_43 : asz Try.prog 43 = some (false, 1) := by kernel_rfl
@[go_sem] theorem asz_44 : asz Try.prog 44 = some (false, 1) := by kernel_rfl
@[go_sem] theorem asz_45 : asz Try.prog 45 = some (false, 1) := by kernel_rfl
@[go_sem] theorem esz_45 : esz Try.prog 45 = some 1 := by kernel_rfl
@[go_sem] theorem isSlice_45 : isSlice Try.prog 45 = true := by kernel_rfl
@[go_sem] theorem selem_45 : selem Try.prog 45 = some (4, 1, 1, .bool false) := by kernel_rfl
@[go_sem] theorem zeroC_45 : zeroC Try.prog 45 = some ([(.slice none 0 0)]) := by kernel_rfl
@[go_sem] theorem asz_46 : asz Try.prog 46 = some (false, 1) := by kernel_rfl
@[go_sem] theorem asz_47 : asz Try.prog 47 = some (false, 1) := by kernel_rfl
@[go_sem] theorem asz_48 : asz Try.prog 48 = some (false, 1) := by kernel_rfl
@[go_sem] theorem asz_50 : asz Try.prog 50 = some (false, 1) := by kernel_rfl
@[go_sem] theorem asz_51 : asz Try.prog 51 = some (false, 1) := by kernel_rfl
@[go_sem] theorem asz_52 : asz Try.prog 52 = some (false, 1) := by kernel_rfl
@[go_sem] theorem asz_53 : asz Try.prog 53 = some (false, 1) := by kernel_rfl
@[go_sem] theorem ik_53 : ikind Try.prog 53 = some .i64 := by kernel_rfl
@[go_sem] theorem zeroC_53 : zeroC Try.prog 53 = some ([(.int .i64 0)]) := by kernel_rfl
@[go_sem] theorem asz_54 : asz Try.prog 54 = some (false, 1) := by kernel_rfl
@[go_sem] theorem ik_54 : ikind Try.prog 54 = some .u64 := by kernel_rfl
@[go_sem] theorem zeroC_54 : zeroC Try.prog 54 = some ([(.int .u64 0)]) := by kernel_rfl
@[go_sem] theorem asz_55 : asz Try.prog 55 = some (true, 4) := by kernel_rfl
@[go_sem] theorem arr_55 : arr Try.prog 55 = some (4, 1) := by kernel_rfl
@[go_sem] theorem aelem_55 : aelem Try.prog 55 = some 54 := by kernel_rfl
@[go_sem] theorem bldT_55 : bldT Try.prog 55 = some ([.u (.int .u64 0), .u (.int .u64 0), .u (.int .u64 0), .u (.int .u64 0)], [(0, 1), (1, 1), (2, 1), (3, 1)]) := by kernel_rfl
@[go_sem] theorem zeroC_55 : zeroC Try.prog 55 = some ([(.int .u64 0), (.int .u64 0), (.int .u64 0), (.int .u64 0)]) := by kernel_rfl
@[go_sem] theorem asz_56 : asz Try.prog 56 = some (true, 4) := by kernel_rfl
@[go_sem] theorem arr_56 : arr Try.prog 56 = some (4, 1) := by kernel_rfl
@[go_sem] theorem aelem_56 : aelem Try.prog 56 = some 54 := by kernel_rfl
@[go_sem] theorem bldT_56 : bldT Try.prog 56 = some ([.u (.int .u64 0), .u (.int .u64 0), .u (.int .u64 0), .u (.int .u64 0)], [(0, 1), (1, 1), (2, 1), (3, 1)]) := by kernel_rfl
@[go_sem] theorem zeroC_56 : zeroC Try.prog 56 = some ([(.int .u64 0), (.int .u64 0), (.int .u64 0), (.int .u64 0)]) := by kernel_rfl
@[go_sem] theorem asz_57 : asz Try.prog 57 = some (true, 5) := by kernel_rfl
@[go_sem] theorem fof_57_0 : fof Try.prog 57 0 = some (0, 53) := by kernel_rfl
@[go_sem] theorem fof_57_1 : fof Try.prog 57 1 = some (1, 56) := by kernel_rfl
@[go_sem] theorem bldT_57 : bldT Try.prog 57 = some ([.u (.int .i64 0), .u (.int .u64 0), .u (.int .u64 0), .u (.int .u64 0), .u (.int .u64 0)], [(0, 1), (1, 4)]) := by kernel_rfl
@[go_sem] theorem zeroC_57 : zeroC Try.prog 57 = some ([(.int .i64 0), (.int .u64 0), (.int .u64 0), (.int .u64 0), (.int .u64 0)]) := by kernel_rfl
@[go_sem] theorem asz_58 : asz Try.prog 58 = some (true, 5) := by kernel_rfl
@[go_sem] theorem fof_58_0 : fof Try.prog 58 0 = some (0, 53) := by kernel_rfl
@[go_sem] theorem fof_58_1 : fof Try.prog 58 1 = some (1, 56) := by kernel_rfl
@[go_sem] theorem bldT_58 : bldT Try.prog 58 = some ([.u (.int .i64 0), .u (.int .u64 0), .u (.int .u64 0), .u (.int .u64 0), .u (.int .u64 0)], [(0, 1), (1, 4)]) := by kernel_rfl
@[go_sem] theorem zeroC_58 : zeroC Try.prog 58 = some ([(.int .i64 0), (.int .u64 0), (.int .u64 0), (.int .u64 0), (.int .u64 0)]) := by kernel_rfl
@[go_sem] theorem asz_60 : asz Try.prog 60 = some (false, 1) := by kernel_rfl
@[go_sem] theorem asz_61 : asz Try.prog 61 = some (false, 1) := by kernel_rfl
@[go_sem] theorem asz_62 : asz Try.prog 62 = some (false, 1) := by kernel_rfl
@[go_sem] theorem asz_63 : asz Try.prog 63 = some (false, 1) := by kernel_rfl
@[go_sem] theorem asz_64 : asz Try.prog 64 = some (false, 1) := by kernel_rfl
@[go_sem] theorem isPtr_64 : isPtr Try.prog 64 = true := by kernel_rfl
@[go_sem] theorem zeroC_64 : zeroC Try.prog 64 = some ([(.pointer none)]) := by kernel_rfl
@[go_sem] theorem asz_65 : asz Try.prog 65 = some (false, 1) := by kernel_rfl
@[go_sem] theorem asz_66 : asz Try.prog 66 = some (true, 3) := by kernel_rfl
@[go_sem] theorem fof_66_0 : fof Try.prog 66 0 = some (0, 30) := by kernel_rfl
@[go_sem] theorem fof_66_1 : fof Try.prog 66 1 = some (1, 30) := by kernel_rfl
@[go_sem] theorem fof_66_2 : fof Try.prog 66 2 = some (2, 4) := by kernel_rfl
@[go_sem] theorem bldT_66 : bldT Try.prog 66 = some ([.u (.slice none 0 0), .u (.slice none 0 0), .u (.bool false)], [(0, 1), (1, 1), (2, 1)]) := by kernel_rfl
@[go_sem] theorem zeroC_66 : zeroC Try.prog 66 = some ([(.slice none 0 0), (.slice none 0 0), (.bool false)]) := by kernel_rfl
@[go_sem] theorem asz_67 : asz Try.prog 67 = some (true, 3) := by kernel_rfl
@[go_sem] theorem fof_67_0 : fof Try.prog 67 0 = some (0, 30) := by kernel_rfl
@[go_sem] theorem fof_67_1 : fof Try.prog 67 1 = some (1, 30) := by kernel_rfl
@[go_sem] theorem fof_67_2 : fof Try.prog 67 2 = some (2, 4) := by kernel_rfl
@[go_sem] theorem bldT_67 : bldT Try.prog 67 = some ([.u (.slice none 0 0), .u (.slice none 0 0), .u (.bool false)], [(0, 1), (1, 1), (2, 1)]) := by kernel_rfl
@[go_sem] theorem zeroC_67 : zeroC Try.prog 67 = some ([(.slice none 0 0), (.slice none 0 0), (.bool false)]) := by kernel_rfl
@[go_sem] theorem asz_68 : asz Try.prog 68 = some (true, 4) := by kernel_rfl
@[go_sem] theorem fof_68_0 : fof Try.prog 68 0 = some (0, 67) := by kernel_rfl
@[go_sem] theorem fof_68_1 : fof Try.prog 68 1 = some (3, 3) := by kernel_rfl
@[go_sem] theorem bldT_68 : bldT Try.prog 68 = some ([.u (.slice none 0 0), .u (.slice none 0 0), .u (.bool false), .u (.int .i64 0)], [(0, 3), (3, 1)]) := by kernel_rfl
@[go_sem] theorem zeroC_68 : zeroC Try.prog 68 = some ([(.slice none 0 0), (.slice none 0 0), (.bool false), (.int .i64 0)]) := by kernel_rfl
@[go_sem] theorem asz_69 : asz Try.prog 69 = some (true, 4) := by kernel_rfl
@[go_sem] theorem fof_69_0 : fof Try.prog 69 0 = some (0, 67) := by kernel_rfl
@[go_sem] theorem fof_69_1 : fof Try.prog 69 1 = some (3, 3) := by kernel_rfl
@[go_sem] theorem bldT_69 : bldT Try.prog 69 = some ([.u (.slice none 0 0), .u (.slice none 0 0), .u (.bool false), .u (.int .i64 0)], [(0, 3), (3, 1)]) := by kernel_rfl
@[go_sem] theorem zeroC_69 : zeroC Try.prog 69 = some ([(.slice none 0 0), (.slice none 0 0), (.bool false), (.int .i64 0)]) := by kernel_rfl
@[go_sem] theorem asz_70 : asz Try.prog 70 = some (true, 6) := by kernel_rfl
@[go_sem] theorem fof_70_0 : fof Try.prog 70 0 = some (0, 28) := by kernel_rfl
@[go_sem] theorem fof_70_1 : fof Try.prog 70 1 = some (1, 38) := by kernel_rfl
@[go_sem] theorem fof_70_2 : fof Try.prog 70 2 = some (2, 69) := by kernel_rfl
@[go_sem] theorem bldT_70 : bldT Try.prog 70 = some ([.u (.slice none 0 0), .u (.slice none 0 0), .u (.slice none 0 0), .u (.slice none 0 0), .u (.bool false), .u (.int .i64 0)], [(0, 1), (1, 1), (2, 4)]) := by kernel_rfl
@[go_sem] theorem zeroC_70 : zeroC Try.prog 70 = some ([(.slice none 0 0), (.slice none 0 0), (.slice none 0 0), (.slice none 0 0), (.bool false), (.int .i64 0)]) := by kernel_rfl
@[go_sem] theorem asz_71 : asz Try.prog 71 = some (true, 6) := by kernel_rfl
@[go_sem] theorem fof_71_0 : fof Try.prog 71 0 = some (0, 28) := by kernel_rfl
@[go_sem] theorem fof_71_1 : fof Try.prog 71 1 = some (1, 38) := by kernel_rfl
@[go_sem] theorem fof_71_2 : fof Try.prog 71 2 = some (2, 69) := by kernel_rfl
@[go_sem] theorem bldT_71 : bldT Try.prog 71 = some ([.u (.slice none 0 0), .u (.slice none 0 0), .u (.slice none 0 0), .u (.slice none 0 0), .u (.bool false), .u (.int .i64 0)], [(0, 1), (1, 1), (2, 4)]) := by kernel_rfl
@[go_sem] theorem zeroC_71 : zeroC Try.prog 71 = some ([(.slice none 0 0), (.slice none 0 0), (.slice none 0 0), (.slice none 0 0), (.bool false), (.int .i64 0)]) := by kernel_rfl
@[go_sem] theorem asz_72 : asz Try.prog 72 = some (false, 1) := by kernel_rfl
@[go_sem] theorem asz_73 : asz Try.prog 73 = some (false, 1) := by kernel_rfl
@[go_sem] theorem esz_73 : esz Try.prog 73 = some 1 := by kernel_rfl
@[go_sem] theorem isSlice_73 : isSlice Try.prog 73 = true := by kernel_rfl
@[go_sem] theorem selem_73 : selem Try.prog 73 = some (9, 1, 16, .string ⟨#[]⟩) := by kernel_rfl
@[go_sem] theorem zeroC_73 : zeroC Try.prog 73 = some ([(.slice none 0 0)]) := by kernel_rfl
@[go_sem] theorem asz_74 : asz Try.prog 74 = some (false, 1) := by kernel_rfl
@[go_sem] theorem asz_75 : asz Try.prog 75 = some (false, 1) := by kernel_rfl
@[go_sem] theorem asz_76 : asz Try.prog 76 = some (false, 1) := by kernel_rfl
@[go_sem] theorem asz_77 : asz Try.prog 77 = some (false, 1) := by kernel_rfl
@[go_sem] theorem asz_78 : asz Try.prog 78 = some (false, 1) := by kernel_rfl
@[go_sem] theorem asz_79 : asz Try.prog 79 = some (false, 1) := by kernel_rfl
@[go_sem] theorem asz_80 : asz Try.prog 80 = some (false, 1) := by kernel_rfl
@[go_sem] theorem esz_80 : esz Try.prog 80 = some 1 := by kernel_rfl
@[go_sem] theorem isSlice_80 : isSlice Try.prog 80 = true := by kernel_rfl
@[go_sem] theorem selem_80 : selem Try.prog 80 = some (5, 1, 1, .int .u8 0) := by kernel_rfl
@[go_sem] theorem zeroC_80 : zeroC Try.prog 80 = some ([(.slice none 0 0)]) := by kernel_rfl
@[go_sem] theorem asz_81 : asz Try.prog 81 = some (true, 2) := by kernel_rfl
@[go_sem] theorem fof_81_0 : fof Try.prog 81 0 = some (0, 3) := by kernel_rfl
@[go_sem] theorem fof_81_1 : fof Try.prog 81 1 = some (1, 9) := by kernel_rfl
@[go_sem] theorem bldT_81 : bldT Try.prog 81 = some ([.u (.int .i64 0), .u (.string ⟨#[]⟩)], [(0, 1), (1, 1)]) := by kernel_rfl
@[go_sem] theorem zeroC_81 : zeroC Try.prog 81 = some ([(.int .i64 0), (.string ⟨#[]⟩)]) := by kernel_rfl
@[go_sem] theorem asz_82 : asz Try.prog 82 = some (true, 2) := by kernel_rfl
@[go_sem] theorem fof_82_0 : fof Try.prog 82 0 = some (0, 3) := by kernel_rfl
@[go_sem] theorem fof_82_1 : fof Try.prog 82 1 = some (1, 9) := by kernel_rfl
@[go_sem] theorem bldT_82 : bldT Try.prog 82 = some ([.u (.int .i64 0), .u (.string ⟨#[]⟩)], [(0, 1), (1, 1)]) := by kernel_rfl
@[go_sem] theorem zeroC_82 : zeroC Try.prog 82 = some ([(.int .i64 0), (.string ⟨#[]⟩)]) := by kernel_rfl
@[go_sem] theorem asz_83 : asz Try.prog 83 = some (false, 1) := by kernel_rfl
@[go_sem] theorem esz_83 : esz Try.prog 83 = some 2 := by kernel_rfl
@[go_sem] theorem isSlice_83 : isSlice Try.prog 83 = true := by kernel_rfl
@[go_sem] theorem selem_83 : selem Try.prog 83 = some (82, 2, 24, .agg #[.int .i64 0, .string ⟨#[]⟩]) := by kernel_rfl
@[go_sem] theorem zeroC_83 : zeroC Try.prog 83 = some ([(.slice none 0 0)]) := by kernel_rfl
@[go_sem] theorem asz_85 : asz Try.prog 85 = some (false, 1) := by kernel_rfl
@[go_sem] theorem asz_86 : asz Try.prog 86 = some (false, 1) := by kernel_rfl
@[go_sem] theorem esz_86 : esz Try.prog 86 = some 4 := by kernel_rfl
@[go_sem] theorem isSlice_86 : isSlice Try.prog 86 = true := by kernel_rfl
@[go_sem] theorem selem_86 : selem Try.prog 86 = some (69, 4, 64, .agg #[.slice none 0 0, .slice none 0 0, .bool false, .int .i64 0]) := by kernel_rfl
@[go_sem] theorem zeroC_86 : zeroC Try.prog 86 = some ([(.slice none 0 0)]) := by kernel_rfl
@[go_sem] theorem asz_87 : asz Try.prog 87 = some (false, 1) := by kernel_rfl
@[go_sem] theorem asz_88 : asz Try.prog 88 = some (false, 1) := by kernel_rfl
@[go_sem] theorem asz_89 : asz Try.prog 89 = some (false, 1) := by kernel_rfl
@[go_sem] theorem asz_90 : asz Try.prog 90 = some (false, 1) := by kernel_rfl
@[go_sem] theorem asz_91 : asz Try.prog 91 = some (false, 1) := by kernel_rfl
@[go_sem] theorem asz_92 : asz Try.prog 92 = some (false, 1) := by kernel_rfl
@[go_sem] theorem esz_92 : esz Try.prog 92 = some 3 := by kernel_rfl
@[go_sem] theorem isSlice_92 : isSlice Try.prog 92 = true := by kernel_rfl
@[go_sem] theorem selem_92 : selem Try.prog 92 = some (95, 3, 48, .agg #[.string ⟨#[]⟩, .slice none 0 0, .int .i64 0]) := by kernel_rfl
@[go_sem] theorem zeroC_92 : zeroC Try.prog 92 = some ([(.slice none 0 0)]) := by kernel_rfl
@[go_sem] theorem asz_93 : asz Try.prog 93 = some (false, 1) := by kernel_rfl
@[go_sem] theorem ik_93 : ikind Try.prog 93 = some .i64 := by kernel_rfl
@[go_sem] theorem zeroC_93 : zeroC Try.prog 93 = some ([(.int .i64 0)]) := by kernel_rfl
@[go_sem] theorem asz_94 : asz Try.prog 94 = some (true, 3) := by kernel_rfl
@[go_sem] theorem fof_94_0 : fof Try.prog 94 0 = some (0, 9) := by kernel_rfl
@[go_sem] theorem fof_94_1 : fof Try.prog 94 1 = some (1, 22) := by kernel_rfl
@[go_sem] theorem fof_94_2 : fof Try.prog 94 2 = some (2, 93) := by kernel_rfl
@[go_sem] theorem bldT_94 : bldT Try.prog 94 = some ([.u (.string ⟨#[]⟩), .u (.slice none 0 0), .u (.int .i64 0)], [(0, 1), (1, 1), (2, 1)]) := by kernel_rfl
@[go_sem] theorem zeroC_94 : zeroC Try.prog 94 = some ([(.string ⟨#[]⟩), (.slice none 0 0), (.int .i64 0)]) := by kernel_rfl
@[go_sem] theorem asz_95 : asz Try.prog 95 = some (true, 3) := by kernel_rfl
@[go_sem] theorem fof_95_0 : fof Try.prog 95 0 = some (0, 9) := by kernel_rfl
@[go_sem] theorem fof_95_1 : fof Try.prog 95 1 = some (1, 22) := by kernel_rfl
@[go_sem] theorem fof_95_2 : fof Try.prog 95 2 = some (2, 93) := by kernel_rfl
@[go_sem] theorem bldT_95 : bldT Try.prog 95 = some ([.u (.string ⟨#[]⟩), .u (.slice none 0 0), .u (.int .i64 0)], [(0, 1), (1, 1), (2, 1)]) := by kernel_rfl
@[go_sem] theorem zeroC_95 : zeroC Try.prog 95 = some ([(.string ⟨#[]⟩), (.slice none 0 0), (.int .i64 0)]) := by kernel_rfl
@[go_sem] theorem asz_97 : asz Try.prog 97 = some (false, 1) := by kernel_rfl
@[go_sem] theorem asz_98 : asz Try.prog 98 = some (true, 5) := by kernel_rfl
@[go_sem] theorem fof_98_0 : fof Try.prog 98 0 = some (0, 28) := by kernel_rfl
@[go_sem] theorem fof_98_1 : fof Try.prog 98 1 = some (1, 30) := by kernel_rfl
@[go_sem] theorem fof_98_2 : fof Try.prog 98 2 = some (2, 45) := by kernel_rfl
@[go_sem] theorem fof_98_3 : fof Try.prog 98 3 = some (3, 38) := by kernel_rfl
@[go_sem] theorem fof_98_4 : fof Try.prog 98 4 = some (4, 30) := by kernel_rfl
@[go_sem] theorem bldT_98 : bldT Try.prog 98 = some ([.u (.slice none 0 0), .u (.slice none 0 0), .u (.slice none 0 0), .u (.slice none 0 0), .u (.slice none 0 0)], [(0, 1), (1, 1), (2, 1), (3, 1), (4, 1)]) := by kernel_rfl
@[go_sem] theorem zeroC_98 : zeroC Try.prog 98 = some ([(.slice none 0 0), (.slice none 0 0), (.slice none 0 0), (.slice none 0 0), (.slice none 0 0)]) := by kernel_rfl
@[go_sem] theorem asz_99 : asz Try.prog 99 = some (true, 5) := by kernel_rfl
@[go_sem] theorem fof_99_0 : fof Try.prog 99 0 = some (0, 28) := by kernel_rfl
@[go_sem] theorem fof_99_1 : fof Try.prog 99 1 = some (1, 30) := by kernel_rfl
@[go_sem] theorem fof_99_2 : fof Try.prog 99 2 = some (2, 45) := by kernel_rfl
@[go_sem] theorem fof_99_3 : fof Try.prog 99 3 = some (3, 38) := by kernel_rfl
@[go_sem] theorem fof_99_4 : fof Try.prog 99 4 = some (4, 30) := by kernel_rfl
@[go_sem] theorem bldT_99 : bldT Try.prog 99 = some ([.u (.slice none 0 0), .u (.slice none 0 0), .u (.slice none 0 0), .u (.slice none 0 0), .u (.slice none 0 0)], [(0, 1), (1, 1), (2, 1), (3, 1), (4, 1)]) := by kernel_rfl
@[go_sem] theorem zeroC_99 : zeroC Try.prog 99 = some ([(.slice none 0 0), (.slice none 0 0), (.slice none 0 0), (.slice none 0 0), (.slice none 0 0)]) := by kernel_rfl
@[go_sem] theorem asz_100 : asz Try.prog 100 = some (false, 1) := by kernel_rfl
@[go_sem] theorem asz_101 : asz Try.prog 101 = some (false, 1) := by kernel_rfl
@[go_sem] theorem asz_102 : asz Try.prog 102 = some (false, 1) := by kernel_rfl
@[go_sem] theorem asz_104 : asz Try.prog 104 = some (false, 1) := by kernel_rfl
@[go_sem] theorem asz_105 : asz Try.prog 105 = some (false, 1) := by kernel_rfl
@[go_sem] theorem asz_107 : asz Try.prog 107 = some (false, 1) := by kernel_rfl
@[go_sem] theorem asz_108 : asz Try.prog 108 = some (false, 1) := by kernel_rfl
@[go_sem] theorem asz_109 : asz Try.prog 109 = some (false, 1) := by kernel_rfl
@[go_sem] theorem asz_110 : asz Try.prog 110 = some (false, 1) := by kernel_rfl
@[go_sem] theorem asz_111 : asz Try.prog 111 = some (false, 1) := by kernel_rfl
@[go_sem] theorem asz_112 : asz Try.prog 112 = some (false, 1) := by kernel_rfl
@[go_sem] theorem asz_113 : asz Try.prog 113 = some (false, 1) := by kernel_rfl
@[go_sem] theorem asz_114 : asz Try.prog 114 = some (false, 1) := by kernel_rfl
@[go_sem] theorem asz_115 : asz Try.prog 115 = some (false, 1) := by kernel_rfl
@[go_sem] theorem asz_116 : asz Try.prog 116 = some (false, 1) := by kernel_rfl
@[go_sem] theorem ik_116 : ikind Try.prog 116 = some .u64 := by kernel_rfl
@[go_sem] theorem zeroC_116 : zeroC Try.prog 116 = some ([(.int .u64 0)]) := by kernel_rfl
@[go_sem] theorem asz_117 : asz Try.prog 117 = some (false, 1) := by kernel_rfl
@[go_sem] theorem asz_118 : asz Try.prog 118 = some (false, 1) := by kernel_rfl
@[go_sem] theorem asz_119 : asz Try.prog 119 = some (false, 1) := by kernel_rfl
@[go_sem] theorem asz_121 : asz Try.prog 121 = some (false, 1) := by kernel_rfl
@[go_sem] theorem asz_122 : asz Try.prog 122 = some (false, 1) := by kernel_rfl
@[go_sem] theorem asz_123 : asz Try.prog 123 = some (false, 1) := by kernel_rfl
@[go_sem] theorem asz_124 : asz Try.prog 124 = some (false, 1) := by kernel_rfl
@[go_sem] theorem asz_125 : asz Try.prog 125 = some (false, 1) := by kernel_rfl
@[go_sem] theorem asz_126 : asz Try.prog 126 = some (false, 1) := by kernel_rfl
@[go_sem] theorem asz_127 : asz Try.prog 127 = some (false, 1) := by kernel_rfl
@[go_sem] theorem ik_127 : ikind Try.prog 127 = some .i64 := by kernel_rfl
@[go_sem] theorem zeroC_127 : zeroC Try.prog 127 = some ([(.int .i64 0)]) := by kernel_rfl
@[go_sem] theorem asz_129 : asz Try.prog 129 = some (false, 1) := by kernel_rfl
@[go_sem] theorem asz_130 : asz Try.prog 130 = some (false, 1) := by kernel_rfl
@[go_sem] theorem asz_131 : asz Try.prog 131 = some (false, 1) := by kernel_rfl
@[go_sem] theorem asz_132 : asz Try.prog 132 = some (false, 1) := by kernel_rfl
@[go_sem] theorem asz_133 : asz Try.prog 133 = some (false, 1) := by kernel_rfl
@[go_sem] theorem asz_134 : asz Try.prog 134 = some (false, 1) := by kernel_rfl
@[go_sem] theorem asz_135 : asz Try.prog 135 = some (false, 1) := by kernel_rfl
@[go_sem] theorem ik_135 : ikind Try.prog 135 = some .u32 := by kernel_rfl
@[go_sem] theorem zeroC_135 : zeroC Try.prog 135 = some ([(.int .u32 0)]) := by kernel_rfl
@[go_sem] theorem asz_136 : asz Try.prog 136 = some (false, 1) := by kernel_rfl
@[go_sem] theorem asz_138 : asz Try.prog 138 = some (false, 1) := by kernel_rfl
@[go_sem] theorem asz_139 : asz Try.prog 139 = some (true, 2) := by kernel_rfl
@[go_sem] theorem fof_139_0 : fof Try.prog 139 0 = some (0, 5) := by kernel_rfl
@[go_sem] theorem fof_139_1 : fof Try.prog 139 1 = some (1, 4) := by kernel_rfl
@[go_sem] theorem bldT_139 : bldT Try.prog 139 = some ([.u (.int .u8 0), .u (.bool false)], [(0, 1), (1, 1)]) := by kernel_rfl
@[go_sem] theorem zeroC_139 : zeroC Try.prog 139 = some ([(.int .u8 0), (.bool false)]) := by kernel_rfl
@[go_sem] theorem asz_140 : asz Try.prog 140 = some (true, 2) := by kernel_rfl
@[go_sem] theorem fof_140_0 : fof Try.prog 140 0 = some (0, 5) := by kernel_rfl
@[go_sem] theorem fof_140_1 : fof Try.prog 140 1 = some (1, 4) := by kernel_rfl
@[go_sem] theorem bldT_140 : bldT Try.prog 140 = some ([.u (.int .u8 0), .u (.bool false)], [(0, 1), (1, 1)]) := by kernel_rfl
@[go_sem] theorem zeroC_140 : zeroC Try.prog 140 = some ([(.int .u8 0), (.bool false)]) := by kernel_rfl
@[go_sem] theorem asz_142 : asz Try.prog 142 = some (false, 1) := by kernel_rfl
@[go_sem] theorem asz_143 : asz Try.prog 143 = some (false, 1) := by kernel_rfl
@[go_sem] theorem asz_145 : asz Try.prog 145 = some (false, 1) := by kernel_rfl
@[go_sem] theorem asz_147 : asz Try.prog 147 = some (false, 1) := by kernel_rfl
@[go_sem] theorem asz_148 : asz Try.prog 148 = some (false, 1) := by kernel_rfl
@[go_sem] theorem asz_149 : asz Try.prog 149 = some (false, 1) := by kernel_rfl
@[go_sem] theorem asz_150 : asz Try.prog 150 = some (false, 1) := by kernel_rfl
@[go_sem] theorem asz_151 : asz Try.prog 151 = some (false, 1) := by kernel_rfl
@[go_sem] theorem ik_151 : ikind Try.prog 151 = some .u64 := by kernel_rfl
@[go_sem] theorem zeroC_151 : zeroC Try.prog 151 = some ([(.int .u64 0)]) := by kernel_rfl
@[go_sem] theorem asz_152 : asz Try.prog 152 = some (false, 1) := by kernel_rfl
@[go_sem] theorem asz_153 : asz Try.prog 153 = some (false, 1) := by kernel_rfl
@[go_sem] theorem asz_154 : asz Try.prog 154 = some (false, 1) := by kernel_rfl
@[go_sem] theorem asz_155 : asz Try.prog 155 = some (false, 1) := by kernel_rfl
@[go_sem] theorem isPtr_155 : isPtr Try.prog 155 = true := by kernel_rfl
@[go_sem] theorem zeroC_155 : zeroC Try.prog 155 = some ([(.pointer none)]) := by kernel_rfl
@[go_sem] theorem asz_156 : asz Try.prog 156 = some (false, 1) := by kernel_rfl
@[go_sem] theorem asz_157 : asz Try.prog 157 = some (false, 1) := by kernel_rfl
@[go_sem] theorem asz_158 : asz Try.prog 158 = some (false, 1) := by kernel_rfl
@[go_sem] theorem asz_159 : asz Try.prog 159 = some (false, 1) := by kernel_rfl
@[go_sem] theorem asz_160 : asz Try.prog 160 = some (false, 1) := by kernel_rfl
@[go_sem] theorem asz_161 : asz Try.prog 161 = some (false, 1) := by kernel_rfl
@[go_sem] theorem asz_162 : asz Try.prog 162 = some (false, 1) := by kernel_rfl
@[go_sem] theorem asz_163 : asz Try.prog 163 = some (false, 1) := by kernel_rfl
@[go_sem] theorem isPtr_163 : isPtr Try.prog 163 = true := by kernel_rfl
@[go_sem] theorem zeroC_163 : zeroC Try.prog 163 = some ([(.pointer none)]) := by kernel_rfl
@[go_sem] theorem asz_165 : asz Try.prog 165 = some (false, 1) := by kernel_rfl
@[go_sem] theorem asz_166 : asz Try.prog 166 = some (false, 1) := by kernel_rfl
@[go_sem] theorem asz_167 : asz Try.prog 167 = some (false, 1) := by kernel_rfl
@[go_sem] theorem asz_168 : asz Try.prog 168 = some (false, 1) := by kernel_rfl
@[go_sem] theorem asz_169 : asz Try.prog 169 = some (false, 1) := by kernel_rfl
@[go_sem] theorem asz_175 : asz Try.prog 175 = some (false, 1) := by kernel_rfl
@[go_sem] theorem asz_178 : asz Try.prog 178 = some (false, 1) := by kernel_rfl
@[go_sem] theorem asz_179 : asz Try.prog 179 = some (false, 1) := by kernel_rfl
@[go_sem] theorem isPtr_179 : isPtr Try.prog 179 = true := by kernel_rfl
@[go_sem] theorem zeroC_179 : zeroC Try.prog 179 = some ([(.pointer none)]) := by kernel_rfl
theorem mixed : Try.prog.follows .mixedOrders = true := by kernel_rfl
end Go.Proofs.Ythcckhpogmlgjaa.L

/-
  Steps of an expression, as plain data; no program here.
-/
namespace Go.Proofs.Ythcckhpogmlgjaa
open Go
structure Rx where
  kind : Int
  s0 : Int
  s1 : Int
  s2 : Int
  s3 : Int
deriving DecidableEq
def setEq (a0 a1 a2 a3 b0 b1 b2 b3 : Int) : Bool := a0 == b0 && (a1 == b1 && (a2 == b2 && a3 == b3))
/-- of how many parts a kind is -/
def ofK (k : Int) : Int := if k = 1 ∨ k = 2 then 0 else if k = 3 ∨ k = 4 then 2 else if k = 5 ∨ k = 6 ∨ k = 7 then 1 else -1
/-- has a step no set? -/
def Rx.bare (x : Rx) : Bool := setEq x.s0 x.s1 x.s2 x.s3 0 0 0 0
def checkLoop : List Rx → Int → Int
  | [], q => if q = 1 then 0 else 3
  | x :: r, q => if ofK x.kind < 0 ∨ (x.kind ≠ 1 ∧ x.bare = false) then 1 else if q < ofK x.kind then 3 else checkLoop r (q - ofK x.kind + 1)
def checkL (l : List Rx) : Int := if 512 < l.length then 4 else checkLoop l 0
theorem ofK_ge (k : Int) : -1 ≤ ofK k ∧ ofK k ≤ 2 := by unfold ofK; split <;> (try split) <;> (try split) <;> omega
theorem drop_cons {α : Type} (l : List α) (k : Nat) (h : k < l.length) : l.drop k = l[k] :: l.drop (k + 1) := List.drop_eq_getElem_cons h
end Go.Proofs.Ythcckhpogmlgjaa

/-
  General words of this family's contracts: how a slice of one-cell elements reads, what a call owns, and what follows of it. Nothing here names a function of the program.
-/
namespace Go.Proofs.Ythcckhpogmlgjaa
open Go.RowKit

section
variable {α : Type}

/-- slice value v reads as the elements l in w, each one cell, by enc -/
def Rd (enc : α → Value) (w : World) (v : Value) (l : List α) : Prop :=
  ∃ (a : Option Addr) (c : Nat), v = .slice a l.length c ∧ ∀ (j : Nat) (h : j < l.length), ∃ b o, a = some ⟨b, o, none⟩ ∧ w.cell? ⟨b, o + j, none⟩ = some (enc l[j])

/-- v owns the elements l (of type e), from block B on -/
def Ow (enc : α → Value) (e : TypeId) (w : World) (B : Nat) (v : Value) (l : List α) : Prop := w.ownsRow B e 1 v l.length (l.map enc)

/-- what v reads stands below B -/
def RdLo (enc : α → Value) (w : World) (B : Nat) (v : Value) (l : List α) : Prop :=
  ∃ (a : Option Addr) (c : Nat), v = .slice a l.length c ∧ ∀ (j : Nat) (h : j < l.length), ∃ b o, a = some ⟨b, o, none⟩ ∧ b < B ∧ w.cell? ⟨b, o + j, none⟩ = some (enc l[j])

variable {enc : α → Value} {e : TypeId}

theorem Rd.below {w w' : World} {v : Value} {l : List α} (h : Rd enc w v l) (hb : Below w.heap.size w w') : Rd enc w' v l := by
  obtain ⟨a, c, rfl, hc⟩ := h
  refine ⟨a, c, rfl, fun j hj => ?_⟩
  obtain ⟨b, o, ha, hcell⟩ := hc j hj
  exact ⟨b, o, ha, by rw [hb.cell (World.block_lt_of_cell? w _ hcell)]; exact hcell⟩

theorem Rd.lo {w : World} {v : Value} {l : List α} (h : Rd enc w v l) : RdLo enc w w.heap.size v l := by
  obtain ⟨a, c, rfl, hc⟩ := h
  refine ⟨a, c, rfl, fun j hj => ?_⟩
  obtain ⟨b, o, ha, hcell⟩ := hc j hj
  exact ⟨b, o, ha, World.block_lt_of_cell? w _ hcell, hcell⟩

theorem RdLo.rd {w w' : World} {B : Nat} {v : Value} {l : List α} (h : RdLo enc w B v l) (hb : Below B w w') : Rd enc w' v l := by
  obtain ⟨a, c, rfl, hc⟩ := h
  refine ⟨a, c, rfl, fun j hj => ?_⟩
  obtain ⟨b, o, ha, hlt, hcell⟩ := hc j hj
  exact ⟨b, o, ha, by rw [hb.cell hlt]; exact hcell⟩

theorem RdLo.below {w w' : World} {B : Nat} {v : Value} {l : List α} (h : RdLo enc w B v l) (hb : Below B w w') : RdLo enc w' B v l := by
  obtain ⟨a, c, rfl, hc⟩ := h
  refine ⟨a, c, rfl, fun j hj => ?_⟩
  obtain ⟨b, o, ha, hlt, hcell⟩ := hc j hj
  exact ⟨b, o, ha, hlt, by rw [hb.cell hlt]; exact hcell⟩

theorem RdLo.mono {w : World} {B B' : Nat} {v : Value} {l : List α} (h : RdLo enc w B v l) (hB : B ≤ B') : RdLo enc w B' v l := by
  obtain ⟨a, c, rfl, hc⟩ := h
  refine ⟨a, c, rfl, fun j hj => ?_⟩
  obtain ⟨b, o, ha, hlt, hcell⟩ := hc j hj
  exact ⟨b, o, ha, by omega, hcell⟩

/-- nil, or whatever slice of no element -/
theorem Rd_nil (w : World) (a : Option Addr) (c : Nat) : Rd enc w (.slice a 0 c) [] := ⟨a, c, rfl, fun j h => by cases h⟩

theorem Rd.drewN {w : World} {v : Value} {l : List α} (h : Rd enc w v l) (n : Nat) : Rd enc (w.drewN n) v l := h

theorem Ow.rd {w : World} {B : Nat} {v : Value} {l : List α} (h : Ow enc e w B v l) : Rd enc w v l := by
  rcases h.2 with ⟨rfl, h0⟩ | ⟨g, cap, cur, rfl, hb, hg, hnc, hcm, hcs, htake⟩
  · have : l = [] := List.eq_nil_of_length_eq_zero h0
    subst this
    exact Rd_nil w _ _
  · refine ⟨_, cap, rfl, fun j hj => ⟨g, 0, rfl, ?_⟩⟩
    have := World.ownsRow.cellAt h j (by simpa using hj)
    rw [Nat.zero_add, this]
    simp [hj]

theorem Ow.below {w w' : World} {B C : Nat} {v : Value} {l : List α} (h : Ow enc e w B v l) (hb : Below C w w') (hC : w.heap.size ≤ C) : Ow enc e w' B v l := by
  refine ⟨h.1, ?_⟩
  rcases h.2 with h2 | ⟨g, cap, cur, hv, hg, hh, r⟩
  · exact Or.inl h2
  · exact Or.inr ⟨g, cap, cur, hv, hg, by rw [hb.block g (by have := (Array.getElem?_eq_some_iff.1 hh).1; omega)]; exact hh, r⟩

theorem Ow.mono {w : World} {B B' : Nat} {v : Value} {l : List α} (h : Ow enc e w B v l) (hB : B' ≤ B) : Ow enc e w B' v l := by
  refine ⟨h.1, ?_⟩
  rcases h.2 with h2 | ⟨g, cap, cur, hv, hg, r⟩
  · exact Or.inl h2
  · exact Or.inr ⟨g, cap, cur, hv, by omega, r⟩

theorem Ow.drewN {w : World} {B : Nat} {v : Value} {l : List α} (h : Ow enc e w B v l) (n : Nat) : Ow enc e (w.drewN n) B v l := h

theorem Ow.shape {w : World} {B : Nat} {v : Value} {l : List α} (h : Ow enc e w B v l) : ∃ a c, v = .slice a l.length c := by
  rcases h.2 with ⟨rfl, h0⟩ | ⟨g, cap, cur, rfl, _⟩
  · exact ⟨none, 0, by rw [h0]⟩
  · exact ⟨_, _, rfl⟩

/-- length at most capacity -/
def CapOK : Value → Prop | .slice _ n c => n ≤ c | _ => True
theorem Ow.cap {w : World} {B : Nat} {v : Value} {l : List α} (h : Ow enc e w B v l) : CapOK v := by
  rcases h.2 with ⟨rfl, h0⟩ | ⟨g, cap, cur, rfl, _, _, hc, _⟩
  · exact Nat.le_refl _
  · exact hc

theorem Rd.shape {w : World} {v : Value} {l : List α} (h : Rd enc w v l) : ∃ a c, v = .slice a l.length c := by
  obtain ⟨a, c, rfl, _⟩ := h
  exact ⟨_, _, rfl⟩

theorem Ow.alloc {w : World} {B : Nat} {v : Value} {l : List α} (h : Ow enc e w B v l) (o : Obj) : Ow enc e (w.alloc o) B v l := World.ownsRow.alloc h o

/-- a cell of a slice that is read, at a slice that is spelt out -/
theorem Rd.at {w : World} {a : Option Addr} {n c : Nat} {l : List α} (h : Rd enc w (.slice a n c) l) (j : Nat) (hj : j < l.length) : ∃ b o, a = some ⟨b, o, none⟩ ∧ w.cell? ⟨b, o + j, none⟩ = some (enc l[j]) := by
  obtain ⟨a', c', hv, hc⟩ := h
  cases hv
  exact hc j hj

/-- '[]E{}' -/
theorem Ow_empty (w : World) : Ow enc e (w.alloc (.cells #[] e)) w.heap.size (.slice (some ⟨w.heap.size, 0, none⟩) 0 0) [] :=
  World.ownsRow_made w #[] 0 (Nat.le_refl _) (by simp [maxLen]) rfl
theorem Ow_nil (w : World) (B : Nat) : Ow enc e w B (.slice none 0 0) [] := World.ownsRow_nil w B _ 1

/-- What the table of types says of an element type of one cell. -/
structure ElemTy (P : Program) (t e : TypeId) (z : Value) (bytes : Nat) : Prop where
  under : P.underlying t = some (.slice e)
  info : ∃ i, P.info? e = some i ∧ i.zero = some z ∧ i.size = 1 ∧ i.bytes = bytes
  cells : z.cells.size = 1
  small : bytes ≤ 64

theorem elemTy {P : Program} {t e : TypeId} {z : Value} {bytes : Nat} (h : P.underlying t = some (.slice e)) (hi : (P.info? e).map (fun i => (i.zero, i.size, i.bytes)) = some (some z, 1, bytes)) (hz : z.cells.size = 1) (hb : bytes ≤ 64) : ElemTy P t e z bytes :=
  ⟨h, by obtain ⟨i0, h0, h1, h2, h3⟩ := info_parts hi; exact ⟨i0, h0, h1, h2, h3⟩, hz, hb⟩

/-- the new cell of 'append(s, x)' -/
theorem one_new (w : World) (T : TypeId) (u : Value) : ∀ (j : Nat) (x : Value), [u][j]? = some x → (w.alloc (.cells #[u] T)).cell? ((⟨w.heap.size, 0, none⟩ : Addr).add j) = some x := by
  intro j x hx
  cases j with
  | zero => simp at hx; subst hx; simp [Addr.add]
  | succ j => simp at hx

/-- 's = append(s, x)', s of the call's own: as a law of the walk -/
theorem wpList_append_E {P : Program} {t : TypeId} {z : Value} {bytes : Nat} (ET : ElemTy P t e z bytes) {w : World} {ops : Array Oper} {rest : List Oper} {o : Oper} {a : Act} {Q : Exit → Act → World → Prop} (hgd : o.guard = none) (s x : Operand)
    (ho : o.op = .call { callee := .builtin .append, args := #[s, x], argTypes := #[t, t] })
    (B : Nat) (v : Value) (l : List α) (hs : a.eval s = v) (hown : Ow enc e w B v l) (u : α) (h1c : (enc u).oneCell' = true) (hx : a.eval x = .slice (some ⟨w.heap.size, 0, none⟩) 1 1)
    (hl : l.length ≤ 10000000) (hB : B ≤ w.heap.size)
    (h : ∀ v' w', Ow enc e w' B v' (l ++ [u]) → Below B w w' → wpList P ops Q rest (a.put o.dst v') w') :
    wpList P ops Q (o :: rest) a (w.alloc (.cells #[enc u] e)) := by
  obtain ⟨hu, ⟨i0, hi, hz0, hz1, hz2⟩, hzc, hsm⟩ := ET
  have hmul : (l.length + 1) * bytes ≤ 10000001 * 64 := Nat.mul_le_mul (by omega) hsm
  refine wpList_append_own _ hgd s x t ho B e i0 z 1 bytes hu hi hz0 hz1 hz2 hzc (by decide) v l.length (l.map enc) hs (hown.alloc _)
    ⟨w.heap.size, 0, none⟩ 1 1 [enc u] hx rfl (one_new w _ _) (by intro y hy; simp at hy; subst hy; exact h1c) (by simp [maxLen]; omega) (by omega) (by simp; omega) ?_
  intro v' w' hown' hgrow _
  refine h v' w' ?_ ?_
  · unfold Ow; simpa using hown'
  · have hb : Below B w (w.alloc (.cells #[enc u] e)) := (Below.refl _ _).alloc hB _
    refine hb.grown hgrow (by simp; omega) ?_
    intro k hk
    have := (hown.alloc (.cells #[enc u] e)).lt k hk
    exact this.1
/-- 's = append(s, xs...)', s of the call's own, xs whatever reads as a list -/
theorem wpList_append_R {P : Program} {t : TypeId} {z : Value} {bytes : Nat} (ET : ElemTy P t e z bytes) {w : World} {ops : Array Oper} {rest : List Oper} {o : Oper} {a : Act} {Q : Exit → Act → World → Prop} (hgd : o.guard = none) (s x : Operand)
    (ho : o.op = .call { callee := .builtin .append, args := #[s, x], argTypes := #[t, t] })
    (B : Nat) (v u : Value) (l m : List α) (hs : a.eval s = v) (hown : Ow enc e w B v l) (hx : a.eval x = u) (hrd : Rd enc w u m) (h1c : ∀ y : α, (enc y).oneCell' = true)
    (hl : l.length + m.length ≤ 10000000) (hB : B ≤ w.heap.size)
    (h : ∀ v' w', Ow enc e w' B v' (l ++ m) → Below B w w' → wpList P ops Q rest (a.put o.dst v') w') :
    wpList P ops Q (o :: rest) a w := by
  obtain ⟨hu, ⟨i0, hi, hz0, hz1, hz2⟩, hzc, hsm⟩ := ET
  obtain ⟨ad, c, rfl, hc⟩ := hrd
  have hmul : (l.length + m.length) * bytes ≤ 10000000 * 64 := Nat.mul_le_mul (by omega) hsm
  have main : ∀ b : Addr, ad = some b → (∀ j u, (m.map enc)[j]? = some u → w.cell? (b.add j) = some u) → wpList P ops Q (o :: rest) a w := by
    rintro b rfl hcell
    refine wpList_append_own _ hgd s x t ho B e i0 z 1 bytes hu hi hz0 hz1 hz2 hzc (by decide) v l.length (l.map enc) hs hown
      b m.length c (m.map enc) hx (by simp) hcell (by intro y hy; obtain ⟨q, _, rfl⟩ := List.mem_map.1 hy; exact h1c q) (by simp [maxLen]; omega) (by omega) hB ?_
    intro v' w' hown' hgrow _
    refine h v' w' ?_ ?_
    · unfold Ow; simpa using hown'
    · exact (Below.refl B w).grown hgrow hB fun k hk => (hown.lt k hk).1
  by_cases h0 : m = []
  · subst h0
    cases ad with
    | some b => exact main b rfl (by intro j u hu; simp at hu)
    | none =>
      refine wpList_plain hgd fun K hK => ?_
      have hrun : (Builtin.append_ #[t, t] o.type #[v, .slice none 0 c]).run P w = .ok v w := by
        rcases hown.2 with ⟨rfl, _⟩ | ⟨g, cap, cur, rfl, _, _, hnc, _⟩
        · simp [Builtin.append_, run_underlying hu, sizeOf, typeInfo, hi, Builtin.lenOf, Builtin.firstCells]
        · simp [Builtin.append_, run_underlying hu, sizeOf, typeInfo, hi, Builtin.lenOf, Builtin.firstCells, hnc, storeCells]
      simp only [List.length_nil] at hx
      unfold Oper.wp
      simp [execOp, ho, resolve, invoke, builtin, hs, hx, hrun, Result.andThen]
      exact hK _ _ (h v w (by simpa using hown) (Below.refl _ _))
  · obtain ⟨b, o', rfl, _⟩ := hc 0 (List.length_pos_iff.2 h0)
    refine main _ rfl fun j u hu => ?_
    have hj : j < m.length := by
      have := (List.getElem?_eq_some_iff.1 hu).1
      simpa using this
    obtain ⟨b2, o2, hab, hcell⟩ := hc j hj
    cases hab
    have hadd : (⟨b, o', none⟩ : Addr).add j = ⟨b, o' + j, none⟩ := by unfold Addr.add; split <;> simp_all
    rw [hadd, hcell]
    simp [hj] at hu
    rw [← hu]
end

/-- below B all but block X is as it was -/
structure BelowBut (B X : Nat) (w w' : World) : Prop where
  os : w'.os = w.os
  tape : w'.tape = w.tape
  output : w'.output = w.output
  size : w.heap.size ≤ w'.heap.size
  block : ∀ k, k < B → k ≠ X → w'.heap[k]? = w.heap[k]?
theorem BelowBut.refl (B X : Nat) (w : World) : BelowBut B X w w := ⟨rfl, rfl, rfl, Nat.le_refl _, fun _ _ _ => rfl⟩
theorem BelowBut.trans {B X : Nat} {a b c : World} (h : BelowBut B X a b) (k : BelowBut B X b c) : BelowBut B X a c :=
  ⟨k.os.trans h.os, k.tape.trans h.tape, k.output.trans h.output, Nat.le_trans h.size k.size, fun i hi hx => (k.block i hi hx).trans (h.block i hi hx)⟩
theorem BelowBut.of_below {B X : Nat} {w w' : World} (h : Below B w w') : BelowBut B X w w' := ⟨h.os, h.tape, h.output, h.size, fun k hk _ => h.block k hk⟩
theorem BelowBut.below {B X C : Nat} {w w' : World} (h : BelowBut B X w w') (hB : C ≤ B) (hX : C ≤ X) : Below C w w' := ⟨h.os, h.tape, h.output, h.size, fun k hk => h.block k (by omega) (by omega)⟩
theorem BelowBut.cell {B X : Nat} {w w' : World} (h : BelowBut B X w w') {p : Addr} (hp : p.block < B) (hx : p.block ≠ X) : w'.cell? p = w.cell? p := World.cell?_of_block (w := w) (h.block p.block hp hx)
theorem BelowBut.setCell {B X : Nat} {a w : World} (h : BelowBut B X a w) (u : Value) : BelowBut B X a (w.setCell ⟨X, 0, none⟩ u) :=
  h.trans ⟨rfl, rfl, rfl, by simp [World.setCell], fun k _ hx => Below.heap_setCell _ _ _ _ hx⟩

/-- a region that draws its order, whose last operations stand in one forced order behind n that only read -/
theorem region_tail {P : Program} {id : Nat} {Q : Exit → Act → World → Prop} {a : Act} {w : World} {l : List Oper} (n : Nat) (hm : P.follows .mixedOrders = true) (hB : Region.lexTailB .any l.toArray n = true)
    (h : wpStill P l.toArray (w.drewN 1) (fun a' => wpList P l.toArray Q (l.drop n) a' (w.drewN 1)) (l.take n) a) : (Code.region id l.toArray true).wp P Q a w :=
  wp_region_still_tail n hm hB h

/-- a call that only draws changes nothing below -/
theorem asBelow {P : Program} {f : FuncId} {args : Array Value} {w : World} {A : Ending → Prop} (h : Calls P f args w fun e w' => A e ∧ ∃ n, w' = w.drewN n) : Calls P f args w fun e w' => A e ∧ Below w.heap.size w w' :=
  h.mono fun e w' ⟨he, n, hn⟩ => ⟨he, by rw [hn]; exact below_drewN (Below.refl _ _) n⟩

theorem ret_bool {a b : Bool} (h : a = b) : Ending.returned (.bool a) = .returned (.bool b) := by rw [h]
theorem ret_int {k : IntKind} {a b : Int} (h : a = b) : Ending.returned (.int k a) = .returned (.int k b) := by rw [h]
theorem qd (w : World) (a b : Nat) : ∃ n, (w.drewN a).drewN b = w.drewN n := ⟨_, World.drewN_drewN _ _ _⟩

theorem take_succ {α : Type} (l : List α) (k : Nat) (h : k < l.length) : l.take (k + 1) = l.take k ++ [l[k]] := by
  rw [List.take_succ_eq_append_getElem h]

/- ints -/
theorem tInt : Try.prog.underlying 3 = some (.int .i64) := by kernel_rfl
theorem eInt : ElemTy Try.prog 30 3 (.int .i64 0) 8 := elemTy (by kernel_rfl) (by kernel_rfl) rfl (by decide)
abbrev RdI := Rd (Value.int .i64)
abbrev OwI := Ow (Value.int .i64) 3
abbrev RdLoI := RdLo (Value.int .i64)
theorem OwI_empty (w : World) : OwI (w.alloc (.cells #[] 3)) w.heap.size (.slice (some ⟨w.heap.size, 0, none⟩) 0 0) [] := Ow_empty w
theorem wpList_append_I {w : World} {ops : Array Oper} {rest : List Oper} {o : Oper} {a : Act} {Q : Exit → Act → World → Prop} (hgd : o.guard = none) (s x : Operand)
    (ho : o.op = .call { callee := .builtin .append, args := #[s, x], argTypes := #[30, 30] })
    (B : Nat) (v : Value) (l : List Int) (hs : a.eval s = v) (hown : OwI w B v l) (u : Int) (hx : a.eval x = .slice (some ⟨w.heap.size, 0, none⟩) 1 1)
    (hl : l.length ≤ 10000000) (hB : B ≤ w.heap.size)
    (h : ∀ v' w', OwI w' B v' (l ++ [u]) → Below B w w' → wpList Try.prog ops Q rest (a.put o.dst v') w') :
    wpList Try.prog ops Q (o :: rest) a (w.alloc (.cells #[.int .i64 u] 3)) :=
  wpList_append_E eInt hgd s x ho B v l hs hown u rfl hx hl hB h

end Go.Proofs.Ythcckhpogmlgjaa

/-
  The program's plain data, told by pure values: numbers, lists, sets, steps of expressions, tokens, nets; rows of a call's own. No code of the program here.
-/
namespace Go.Proofs.Ythcckhpogmlgjaa
open Go Go.RowKit L
set_option linter.unusedVariables false
set_option linter.unusedSimpArgs false

def W64 (z : Int) : PV := .u (.int .u64 z)
def encS (x : Rx) : PV := .agg [W64 x.s0, W64 x.s1, W64 x.s2, W64 x.s3]
def encX (x : Rx) : PV := .agg [I x.kind, W64 x.s0, W64 x.s1, W64 x.s2, W64 x.s3]
def slI (l : List Int) : PV := .sl 1 (l.map I)
def slX (l : List Rx) : PV := .sl 5 (l.map encX)
def slS (l : List Rx) : PV := .sl 4 (l.map encS)
theorem noP_slI (l : List Int) : NoP (slI l) := .sl _ _ fun c hc => by obtain ⟨z, _, rfl⟩ := List.mem_map.1 hc; exact .u _
theorem slX_noP (l : List Rx) : NoP (slX l) := .sl _ _ fun c hc => by obtain ⟨z, _, rfl⟩ := List.mem_map.1 hc; exact .agg _ (fun c hc => by simp at hc; rcases hc with rfl | rfl | rfl | rfl | rfl <;> exact .u _)
theorem slS_noP (l : List Rx) : NoP (slS l) := .sl _ _ fun c hc => by obtain ⟨z, _, rfl⟩ := List.mem_map.1 hc; exact .agg _ (fun c hc => by simp at hc; rcases hc with rfl | rfl | rfl | rfl <;> exact .u _)
structure Tok where
  name : ByteArray
  rex : List Rx
  cls : Int
structure Net where
  sets : List Rx
  of_ : List Int
  last : List Bool
  follow : List (List Int)
  first : List Int
def tokV (t : Tok) : PV := .agg [S t.name, slX t.rex, I t.cls]
def netV (n : Net) : PV := .agg [slS n.sets, slI n.of_, .sl 1 (n.last.map B), .sl 1 (n.follow.map slI), slI n.first]
def slB (l : List Bool) : PV := .sl 1 (l.map B)
def slLL (l : List (List Int)) : PV := .sl 1 (l.map slI)
def slT (l : List Tok) : PV := .sl 3 (l.map tokV)
theorem slB_noP (l : List Bool) : NoP (slB l) := .sl _ _ fun c hc => by obtain ⟨z, _, rfl⟩ := List.mem_map.1 hc; exact .u _
theorem slLL_noP (l : List (List Int)) : NoP (slLL l) := .sl _ _ fun c hc => by obtain ⟨z, _, rfl⟩ := List.mem_map.1 hc; exact noP_slI _
theorem slT_noP (l : List Tok) : NoP (slT l) := .sl _ _ fun c hc => by obtain ⟨z, _, rfl⟩ := List.mem_map.1 hc; exact .agg _ fun c hc => by simp at hc; rcases hc with rfl | rfl | rfl; exact .u _; exact slX_noP _; exact .u _

theorem rd_of {α : Type} {f : α → PV} {enc : α → Value} (hf : ∀ x, f x = .u (enc x)) {Z : ZM} {w : World} {l : List α} {v : Value} (h : Rp Z PHeap.empty V0 w (.sl 1 (l.map f)) v) : Rd enc w v l := by
  have hfl : (l.map f).flatMap PV.cells = l.map f := by
    clear h
    induction l with
    | nil => rfl
    | cons x l ih => rw [List.map_cons, List.flatMap_cons, ih, hf x]; rfl
  generalize hx : l.map f = xs at h hfl
  cases h with
  | nil k a c =>
    have : l = [] := List.map_eq_nil_iff.1 hx
    subst this
    exact Rd_nil _ _ _
  | sl k xs b o c g hu hlen hz hb h1 h2 =>
    subst hx
    refine ⟨_, c, by rw [List.length_map], fun j hj => ⟨b, o, rfl, ?_⟩⟩
    have hj' : ((l.map f).flatMap PV.cells)[j]? = some (f l[j]) := by rw [hfl]; simp [hj]
    rw [h1 j _ hj']
    have := h2 j _ hj'
    rw [hf] at this
    generalize g j = q at this
    cases this
    rfl


theorem rpu {Z : ZM} {H : PHeap} {V : Nat → Value} {w : World} {u v : Value} (h : Rp Z H V w (.u u) v) : v = u := by cases h; rfl
theorem rpl1 {Z : ZM} {H : PHeap} {V : Nat → Value} {w : World} {p : PV} {vs : List Value} (h : RpL Z H V w [p] vs) : ∃ v, vs = [v] ∧ Rp Z H V w p v := by
  have h1 := h.1
  match vs, h1 with
  | [v], _ => exact ⟨v, rfl, h.2 0 p v rfl rfl⟩
theorem rpl2 {Z : ZM} {H : PHeap} {V : Nat → Value} {w : World} {p q : PV} {vs : List Value} (h : RpL Z H V w [p, q] vs) : ∃ v u, vs = [v, u] ∧ Rp Z H V w p v ∧ Rp Z H V w q u := by
  have h1 := h.1
  match vs, h1 with
  | [v, u], _ => exact ⟨v, u, rfl, h.2 0 p v rfl rfl, h.2 1 q u rfl rfl⟩
theorem rpl3 {Z : ZM} {H : PHeap} {V : Nat → Value} {w : World} {p q r : PV} {vs : List Value} (h : RpL Z H V w [p, q, r] vs) : ∃ v u x, vs = [v, u, x] ∧ Rp Z H V w p v ∧ Rp Z H V w q u ∧ Rp Z H V w r x := by
  have h1 := h.1
  match vs, h1 with
  | [v, u, x], _ => exact ⟨v, u, x, rfl, h.2 0 p v rfl rfl, h.2 1 q u rfl rfl, h.2 2 r x rfl rfl⟩

/-- own rows of lists -/
def ownL {α : Type} (e k : Nat) (rep : α → PV) (H : PHeap) (id : Nat) (q : PV) (l : List α) : Prop := OwnS H e k id q l.length ((l.map rep).flatMap PV.cells)
theorem cells1 {α : Type} {rep : α → PV} (h : ∀ x, (rep x).cells = [rep x]) (l : List α) : (l.map rep).flatMap PV.cells = l.map rep := by
  induction l with
  | nil => rfl
  | cons m ms ih => rw [List.map_cons, List.flatMap_cons, ih, h]; rfl
theorem ownL.nil {α : Type} {e k : Nat} {rep : α → PV} (H : PHeap) (id : Nat) : ownL e k rep H id (.u (.slice none 0 0)) [] := OwnS.nil H e k id
theorem ownL.mono {α : Type} {e k id : Nat} {rep : α → PV} {H H' : PHeap} {q : PV} {l : List α} (h : ownL e k rep H id q l) (he : H' id = H id) : ownL e k rep H' id q l := OwnS.mono h he
theorem ownL.view {α : Type} {e k id : Nat} {rep : α → PV} {H : PHeap} {q : PV} {l : List α} (h : ownL e k rep H id q l) (hk : ∀ x, (rep x).cells.length = k) (hn : ∀ x, ∀ c ∈ (rep x).cells, NoP c) : View H q (.sl k (l.map rep)) :=
  OwnS.viewN h _ (by simp) (fun y hy => by obtain ⟨z, _, rfl⟩ := List.mem_map.1 hy; exact hk z) rfl fun c hc => by
    obtain ⟨y, hy, hc⟩ := List.mem_flatMap.1 hc
    obtain ⟨z, _, rfl⟩ := List.mem_map.1 hy
    exact hn z c hc
section
variable {P : Program} {W : Env} {n : Nat} {F : PFrame} {H : PHeap} {o : Oper} {l : List Oper} {ops : Array Oper} {K : PFrame → PHeap → Prop}
/-- a list read only, appended to an own row -/
theorem PL.appendL {α : Type} {rep : α → PV} {s x : Operand} {t e : TypeId} {k b d id : Nat} {z : Value} {q : PV} {xs ys : List α} (hg : o.guard = none) (ho : o.op = .call { callee := .builtin .append, args := #[s, x], argTypes := #[t, t] }) (hd : o.dst = some d) (hdn : d < n) (ht : selem P t = some (e, k, b, z))
    (hs : evP F s = q) (hr : ownL e k rep H id q xs) (hp : evP F x = .sl k (ys.map rep)) (hk : ∀ x, (rep x).cells.length = k) (hleaf : ∀ x, ∀ c ∈ (rep x).cells, leafOk H c = true) (h63 : xs.length + ys.length ≤ maxLen) (hbytes : (xs.length + ys.length) * b ≤ 140737488355328)
    (h : ∀ q' H', ownL e k rep H' id q' (xs ++ ys) → (∀ j, j ≠ id → H' j = H j) → PL P W n ops l (F.put (some d) q') H' K) : PL P W n ops (o :: l) F H K := by
  have hfl : ((ys.map rep).flatMap PV.cells).length = ys.length * k := by
    have := L.flat_length (k := k) (ys.map rep) (fun y hy => by obtain ⟨z, _, rfl⟩ := List.mem_map.1 hy; exact hk z)
    simpa using this
  refine PL.appendO (m2 := ys.length) (cs2 := (ys.map rep).flatMap PV.cells) hg ho hd hdn ht hs hr hp (by simp [srcP]) hfl (fun p hp => ?_) h63 hbytes fun q' H' h1 o1 => h q' H' ?_ o1
  · obtain ⟨y, hy, hc⟩ := List.mem_flatMap.1 hp
    obtain ⟨z, _, rfl⟩ := List.mem_map.1 hy
    exact hleaf z p hc
  · unfold ownL
    rw [List.length_append, List.map_append, List.flatMap_append]
    exact h1
theorem Rel.freezeO {a : Act} {w : World} {V : Nat → Value} {s e k id m : Nat} {q : PV} {cs : List PV} (hr : Rel P W n F H V a w) (hs : F s = q) (ho : OwnS H e k id q m cs) (xs : List PV) (hx : xs.flatMap PV.cells = cs) (hu : ∀ y ∈ xs, y.cells.length = k) (hm : xs.length = m) :
    ∃ H', (∀ j, j ≠ id → H' j = H j) ∧ Rel P W n (F.put (some s) (.sl k xs)) H' V a w := by
  rcases ho.2 with ⟨rfl, h0⟩ | ⟨v, rfl, h2⟩
  · refine ⟨H, fun _ _ => rfl, hr.heap, hr.size, hr.defers, fun t => ?_⟩
    have : xs = [] := List.eq_nil_of_length_eq_zero (by omega)
    subst this
    by_cases e : s = t
    · subst e
      have := hr.slot s
      rw [hs] at this
      generalize a.tmps.getD s undef = u at this
      cases this
      simp only [PFrame.put, if_true]
      exact .nil _ _ _
    · have e2 : ¬ (some s = some t) := by simpa using e
      simp only [PFrame.put, if_neg e2]
      exact hr.slot t
  · exact ⟨_, fun j hj => by simp [PHeap.set, hj], hr.freeze hs h2 xs hx hu hm⟩
theorem PC.freezeL {α : Type} {rep : α → PV} {c : Code} {Q : Exit → PFrame → PHeap → Prop} {e k id : Nat} {q : PV} {xs : List α} (s : Nat) (hs : F s = q) (ho : ownL e k rep H id q xs) (hk : ∀ x, (rep x).cells.length = k)
    (h : ∀ H', (∀ j, j ≠ id → H' j = H j) → PC P W n c (F.put (some s) (.sl k (xs.map rep))) H' Q) : PC P W n c F H Q := fun V a w Q' hr hQ => by
  obtain ⟨H', h1, h2⟩ := Rel.freezeO hr hs ho (xs.map rep) rfl (fun y hy => by obtain ⟨z, _, rfl⟩ := List.mem_map.1 hy; exact hk z) (by simp)
  exact h H' h1 V a w Q' h2 hQ
theorem PL.freezeL {α : Type} {rep : α → PV} {e k id : Nat} {q : PV} {xs : List α} (s : Nat) (hs : F s = q) (ho : ownL e k rep H id q xs) (hk : ∀ x, (rep x).cells.length = k)
    (h : ∀ H', (∀ j, j ≠ id → H' j = H j) → PL P W n ops l (F.put (some s) (.sl k (xs.map rep))) H' K) : PL P W n ops l F H K := fun V a w Q' hr hQ => by
  obtain ⟨H', h1, h2⟩ := Rel.freezeO hr hs ho (xs.map rep) rfl (fun y hy => by obtain ⟨z, _, rfl⟩ := List.mem_map.1 hy; exact hk z) (by simp)
  exact h H' h1 V a w Q' h2 hQ
end
end Go.Proofs.Ythcckhpogmlgjaa

/-
  DERIVED: THE SHELF's CONTRACTS AT THIS DUMP, IN PLAIN WORDS (tools/lay-plain.mjs out of 'TryShelf.lean', which tools/lay-shelf.mjs wrote): THE SAME DECLARATIONS UNDER THE SAME NAMES: 'import', 'namespace', 'open', 'def', 'theorem' AND NOTHING ELSE: no command of the shelf's: FOR A HAND-IN. Each laying: the table of numbers ('.._ren') and one theorem, a field a fact of the dump's own or the kernel's comparison; each contract: ONE APPLICATION.
-/
namespace Go.Proofs
open Go.Shelf
def Try.lays128_ren : Go.Shelf.Ren := ⟨fun | 128 => 93 | n => n, fun | 51 => 135 | 3 => 3 | 4 => 4 | 46 => 116 | 5 => 5 | 9 => 9 | n => n, fun | n => n⟩
theorem Try.lays128 : Go.Proofs.Lays.n128 Try.prog Try.lays128_ren := {
  mixed := by kernel_rfl
  f128 := Try.func93.trans (congrArg some (by kernel_rfl))
  t3 := Try.underlying3
  a3 := Try.isAgg3
  z3 := Try.sizeOf3
  v3 := Try.zeroValue3
  t4 := Try.underlying4
  a4 := Try.isAgg4
  z4 := Try.sizeOf4
  v4 := Try.zeroValue4
  t5 := Try.underlying5
  a5 := Try.isAgg5
  z5 := Try.sizeOf5
  v5 := Try.zeroValue5
  t9 := Try.underlying9
  a9 := Try.isAgg9
  z9 := Try.sizeOf9
  v9 := Try.zeroValue9
  t46 := Try.underlying116
  a46 := Try.isAgg116
  z46 := Try.sizeOf116
  v46 := Try.zeroValue116
  t51 := Try.underlying135
  a51 := Try.isAgg135
  z51 := Try.sizeOf135
  v51 := Try.zeroValue135 }
/-- bits.Len32: "Len32 returns the minimum number of bits required to represent x; the result is 0 for x == 0.": IT RETURNS 'Lib.bitLen x'; the world is as it was. ('h0', 'h1': x is a uint32.) (LAID: no walk: one application.) -/
theorem Try.bits_Len32 (x : Int) (w : World) (h0 : 0 ≤ x) (h1 : x ≤ 4294967295) :
    Calls Try.prog 93 #[.int .u32 x] w fun e w' => e = .returned (.int .i64 (Lib.bitLen x.toNat)) ∧ w' = w := Any.bits_Len32 Try.lays128 x w h0 h1
def Try.lays125_ren : Go.Shelf.Ren := ⟨fun | 125 => 73 | 128 => 93 | 129 => 94 | n => n, fun | 46 => 116 | 3 => 3 | 51 => 135 | 53 => 54 | 4 => 4 | 5 => 5 | 9 => 9 | n => n, fun | n => n⟩
theorem Try.lays125 : Go.Proofs.Lays.n125 Try.prog Try.lays125_ren := {
  mixed := by kernel_rfl
  f125 := Try.func73.trans (congrArg some (by kernel_rfl))
  f128 := Try.func93.trans (congrArg some (by kernel_rfl))
  f129 := Try.func94.trans (congrArg some (by kernel_rfl))
  t3 := Try.underlying3
  a3 := Try.isAgg3
  z3 := Try.sizeOf3
  v3 := Try.zeroValue3
  t4 := Try.underlying4
  a4 := Try.isAgg4
  z4 := Try.sizeOf4
  v4 := Try.zeroValue4
  t5 := Try.underlying5
  a5 := Try.isAgg5
  z5 := Try.sizeOf5
  v5 := Try.zeroValue5
  t9 := Try.underlying9
  a9 := Try.isAgg9
  z9 := Try.sizeOf9
  v9 := Try.zeroValue9
  t46 := Try.underlying116
  a46 := Try.isAgg116
  z46 := Try.sizeOf116
  v46 := Try.zeroValue116
  t51 := Try.underlying135
  a51 := Try.isAgg135
  z51 := Try.sizeOf135
  v51 := Try.zeroValue135
  t53 := Try.underlying54
  a53 := Try.isAgg54
  z53 := Try.sizeOf54
  v53 := Try.zeroValue54 }
/-- bits.Len: "Len returns the minimum number of bits required to represent x; the result is 0 for x == 0.": IT RETURNS 'Lib.bitLen x'; the world is as it was. (A uint has 64 bits in the model.) ITS CALLEE bits.Len64 IS MET BY ITS OWN CONTRACT OFF THE SHELF (lay that first). (LAID: no walk: one application.) -/
theorem Try.bits_Len (x : Int) (w : World) (h0 : 0 ≤ x) (h1 : x ≤ 18446744073709551615) :
    Calls Try.prog 73 #[.int .u64 x] w fun e w' => e = .returned (.int .i64 (Lib.bitLen x.toNat)) ∧ w' = w := Any.bits_Len Try.lays125 x w h0 h1
def Try.lays129_ren : Go.Shelf.Ren := ⟨fun | 129 => 94 | n => n, fun | 53 => 54 | 3 => 3 | 4 => 4 | 46 => 116 | 5 => 5 | 9 => 9 | n => n, fun | n => n⟩
theorem Try.lays129 : Go.Proofs.Lays.n129 Try.prog Try.lays129_ren := {
  mixed := by kernel_rfl
  f129 := Try.func94.trans (congrArg some (by kernel_rfl))
  t3 := Try.underlying3
  a3 := Try.isAgg3
  z3 := Try.sizeOf3
  v3 := Try.zeroValue3
  t4 := Try.underlying4
  a4 := Try.isAgg4
  z4 := Try.sizeOf4
  v4 := Try.zeroValue4
  t5 := Try.underlying5
  a5 := Try.isAgg5
  z5 := Try.sizeOf5
  v5 := Try.zeroValue5
  t9 := Try.underlying9
  a9 := Try.isAgg9
  z9 := Try.sizeOf9
  v9 := Try.zeroValue9
  t46 := Try.underlying116
  a46 := Try.isAgg116
  z46 := Try.sizeOf116
  v46 := Try.zeroValue116
  t53 := Try.underlying54
  a53 := Try.isAgg54
  z53 := Try.sizeOf54
  v53 := Try.zeroValue54 }
/-- bits.Len64: "Len64 returns the minimum number of bits required to represent x; the result is 0 for x == 0.": IT RETURNS 'Lib.bitLen x'; the world is as it was. ('h0', 'h1': x is a uint64.) (LAID: no walk: one application.) -/
theorem Try.bits_Len64 (x : Int) (w : World) (h0 : 0 ≤ x) (h1 : x ≤ 18446744073709551615) :
    Calls Try.prog 94 #[.int .u64 x] w fun e w' => e = .returned (.int .i64 (Lib.bitLen x.toNat)) ∧ w' = w := Any.bits_Len64 Try.lays129 x w h0 h1
def Try.lays189_ren : Go.Shelf.Ren := ⟨fun | 189 => 52 | 125 => 73 | 257 => 72 | 128 => 93 | 129 => 94 | 294 => 84 | 295 => 85 | 296 => 86 | 297 => 87 | 298 => 88 | 299 => 89 | 216 => 90 | 300 => 91 | 301 => 92 | 328 => 105 | 329 => 106 | 330 => 107 | 331 => 108 | 332 => 109 | 215 => 110 | 343 => 116 | n => n, fun | 28 => 30 | 3 => 3 | 46 => 116 | 0 => 0 | 51 => 135 | 53 => 54 | 4 => 4 | 183 => 128 | 182 => 127 | 131 => 120 | 5 => 5 | 9 => 9 | 218 => 151 | 222 => 155 | 228 => 163 | 229 => 164 | n => n, fun | n => n⟩
theorem Try.lays189 : Go.Proofs.Lays.n189 Try.prog Try.lays189_ren := {
  mixed := by kernel_rfl
  f125 := Try.func73.trans (congrArg some (by kernel_rfl))
  f128 := Try.func93.trans (congrArg some (by kernel_rfl))
  f129 := Try.func94.trans (congrArg some (by kernel_rfl))
  f189 := Try.func52.trans (congrArg some (by kernel_rfl))
  f215 := Try.func110.trans (congrArg some (by kernel_rfl))
  f216 := Try.func90.trans (congrArg some (by kernel_rfl))
  f257 := Try.func72.trans (congrArg some (by kernel_rfl))
  f294 := Try.func84.trans (congrArg some (by kernel_rfl))
  f295 := Try.func85.trans (congrArg some (by kernel_rfl))
  f296 := Try.func86.trans (congrArg some (by kernel_rfl))
  f297 := Try.func87.trans (congrArg some (by kernel_rfl))
  f298 := Try.func88.trans (congrArg some (by kernel_rfl))
  f299 := Try.func89.trans (congrArg some (by kernel_rfl))
  f300 := Try.func91.trans (congrArg some (by kernel_rfl))
  f301 := Try.func92.trans (congrArg some (by kernel_rfl))
  f328 := Try.func105.trans (congrArg some (by kernel_rfl))
  f329 := Try.func106.trans (congrArg some (by kernel_rfl))
  f330 := Try.func107.trans (congrArg some (by kernel_rfl))
  f331 := Try.func108.trans (congrArg some (by kernel_rfl))
  f332 := Try.func109.trans (congrArg some (by kernel_rfl))
  f343 := Try.func116.trans (congrArg some (by kernel_rfl))
  t0 := Try.underlying0
  a0 := Try.isAgg0
  z0 := Try.sizeOf0
  v0 := Try.zeroValue0
  t3 := Try.underlying3
  a3 := Try.isAgg3
  z3 := Try.sizeOf3
  v3 := Try.zeroValue3
  t4 := Try.underlying4
  a4 := Try.isAgg4
  z4 := Try.sizeOf4
  v4 := Try.zeroValue4
  t5 := Try.underlying5
  a5 := Try.isAgg5
  z5 := Try.sizeOf5
  v5 := Try.zeroValue5
  t9 := Try.underlying9
  a9 := Try.isAgg9
  z9 := Try.sizeOf9
  v9 := Try.zeroValue9
  t28 := Try.underlying30
  a28 := Try.isAgg30
  z28 := Try.sizeOf30
  v28 := Try.zeroValue30
  t46 := Try.underlying116
  a46 := Try.isAgg116
  z46 := Try.sizeOf116
  v46 := Try.zeroValue116
  t51 := Try.underlying135
  a51 := Try.isAgg135
  z51 := Try.sizeOf135
  v51 := Try.zeroValue135
  t53 := Try.underlying54
  a53 := Try.isAgg54
  z53 := Try.sizeOf54
  v53 := Try.zeroValue54
  t131 := Try.underlying120
  a131 := Try.isAgg120
  z131 := Try.sizeOf120
  v131 := Try.zeroValue120
  t182 := Try.underlying127
  a182 := Try.isAgg127
  z182 := Try.sizeOf127
  v182 := Try.zeroValue127
  t183 := Try.underlying128
  a183 := Try.isAgg128
  z183 := Try.sizeOf128
  v183 := Try.zeroValue128
  t218 := Try.underlying151
  a218 := Try.isAgg151
  z218 := Try.sizeOf151
  v218 := Try.zeroValue151
  t222 := Try.underlying155
  a222 := Try.isAgg155
  z222 := Try.sizeOf155
  v222 := Try.zeroValue155
  t228 := Try.underlying163
  a228 := Try.isAgg163
  z228 := Try.sizeOf163
  v228 := Try.zeroValue163
  t229 := Try.underlying164
  a229 := Try.isAgg164
  z229 := Try.sizeOf164
  v229 := Try.zeroValue164 }
open Go.Sort Go.RowKit in
theorem Try.slices_Sort_int (blk off cap : Nat) (zs : List Int) (w : World) (hH : Holds (Value.int .i64) w blk off zs.toArray) (hblk : blk < w.heap.size) (hsz : zs.length < 4611686018427387904) :
    Calls Try.prog 52 #[.slice (some ⟨blk, off, none⟩) zs.length cap] w fun e w' =>
      e = .returned (.tuple #[]) ∧ ∃ n os, w' = grow (putRow (Value.int .i64) (Sort.ahead w n) blk off (zs.mergeSort fun x y => decide (x ≤ y)).toArray) os := Any.slices_Sort_int Try.lays189 blk off cap zs w hH hblk hsz
def Try.laysNm215_ren : Go.Shelf.Ren := ⟨fun | 15 => 56 | n => n, fun | 22 => 30 | 3 => 3 | 4 => 4 | n => n, fun | n => n⟩
theorem Try.laysNm215 : Go.Proofs.Lays2.n15 Try.prog Try.laysNm215_ren := {
  mixed := by kernel_rfl
  f15 := Try.func56.trans (congrArg some (by kernel_rfl))
  t3 := Try.underlying3
  a3 := Try.isAgg3
  z3 := Try.sizeOf3
  v3 := Try.zeroValue3
  t4 := Try.underlying4
  a4 := Try.isAgg4
  z4 := Try.sizeOf4
  v4 := Try.zeroValue4
  t22 := Try.underlying30
  a22 := Try.isAgg30
  z22 := Try.sizeOf30
  v22 := Try.zeroValue30
  i3 := by kernel_rfl }
open Go.RowKit Go.Lib in
/-- slices.Clone at []int: "Clone returns a copy of the slice. The elements are copied using assignment, so this is a shallow clone. The result may have additional unused capacity. The result preserves the nilness of s.": OF A SLICE THAT IS NOT nil IT RETURNS A SLICE THAT IS NOT nil, OF THE SAME ELEMENTS, IN MEMORY OF THE CALL's OWN: in the how-to's words (6f): 'w'.ownsRow B e 1 v' n cells': v' begins at the head of a row among the blocks from B on (B: the heap's size at the call), not frozen, whose first cells are the elements · 'Below B w w'': below B all is as it was. The capacity is whatever the run-time gives. 'zs': what the cells behind the slice's address hold; 'zs.take n': its elements. (LAID: no walk: one application.) -/
theorem Try.slices_Clone_int (b off n c : Nat) (zs : List Int) (w : World) (hz : n ≤ zs.length) (hbig : n * 8 ≤ 140737488355328) (hc : ∀ j, j < zs.length → w.cell? ⟨b, off + j, none⟩ = some (.int .i64 (zs.getD j 0))) :
    Calls Try.prog 56 #[.slice (some ⟨b, off, none⟩) n c] w fun e w' => ∃ v', e = .returned v' ∧ w'.ownsRow w.heap.size 3 1 v' n ((zs.take n).map (Value.int .i64)) ∧ v' ≠ .slice none 0 0 ∧ Below w.heap.size w w' := Any.slices_Clone_int Try.laysNm215 b off n c zs w hz hbig hc
open Go.RowKit Go.Lib in
/-- The same at nil: nil comes back; the world is as it was. (LAID: no walk: one application.) -/
theorem Try.slices_Clone_int_nil (n c : Nat) (w : World) :
    Calls Try.prog 56 #[.slice none n c] w fun e w' => e = .returned (.slice none 0 0) ∧ w' = w := Any.slices_Clone_int_nil Try.laysNm215 n c w
open Go.RowKit Go.Lib in
/-- The same at a slice of length 0 that is not nil, WHATEVER ITS ADDRESS (no cell is asked for): a slice that is not nil and owns nothing comes back. (LAID: no walk: one application.) -/
theorem Try.slices_Clone_int_zero (a : Addr) (c : Nat) (w : World) :
    Calls Try.prog 56 #[.slice (some a) 0 c] w fun e w' => ∃ v', e = .returned v' ∧ w'.ownsRow w.heap.size 3 1 v' 0 [] ∧ v' ≠ .slice none 0 0 ∧ Below w.heap.size w w' := Any.slices_Clone_int_zero Try.laysNm215 a c w
def Try.laysNm220_ren : Go.Shelf.Ren := ⟨fun | 20 => 53 | n => n, fun | 22 => 30 | 3 => 3 | 4 => 4 | 0 => 0 | n => n, fun | n => n⟩
theorem Try.laysNm220 : Go.Proofs.Lays2.n20 Try.prog Try.laysNm220_ren := {
  mixed := by kernel_rfl
  f20 := Try.func53.trans (congrArg some (by kernel_rfl))
  t0 := Try.underlying0
  a0 := Try.isAgg0
  z0 := Try.sizeOf0
  v0 := Try.zeroValue0
  t3 := Try.underlying3
  a3 := Try.isAgg3
  z3 := Try.sizeOf3
  v3 := Try.zeroValue3
  t4 := Try.underlying4
  a4 := Try.isAgg4
  z4 := Try.sizeOf4
  v4 := Try.zeroValue4
  t22 := Try.underlying30
  a22 := Try.isAgg30
  z22 := Try.sizeOf30
  v22 := Try.zeroValue30
  i3 := by kernel_rfl }
open Go.RowKit Go.Lib Go.Sort in
/-- slices.Compact at []int, over an array: the library's two loops are walked. (LAID: no walk: one application.) -/
theorem Try.slices_Compact_int_arr (blk off cap : Nat) (d : Array Int) (w : World) (hH : Holds encI w blk off d) (hsz : d.size ≤ 9223372036854775807) (hcap : d.size ≤ cap) :
    Calls Try.prog 53 #[.slice (some ⟨blk, off, none⟩) d.size cap] w fun e w' => e = .returned (.slice (some ⟨blk, off, none⟩) (compactUpTo d d.size).length cap) ∧ ∃ q, w' = putRow encI (Sort.ahead w q) blk off (compactUpTo d d.size ++ List.replicate (d.size - (compactUpTo d d.size).length) 0).toArray := Any.slices_Compact_int_arr Try.laysNm220 blk off cap d w hH hsz hcap
open Go.RowKit Go.Lib Go.Sort in
/-- slices.Compact at []int: "Compact replaces consecutive runs of equal elements with a single copy. This is like the uniq command found on Unix. Compact modifies the contents of the slice s and returns the modified slice, which may have a smaller length. Compact zeroes the elements between the new length and the original length. The result preserves the nilness of s.": IT RETURNS THE SLICE CUT TO 'Lib.compact zs'; ITS CELLS HOLD 'Lib.compact zs', THEN ZERO VALUES up to the old length; all else is as it was, but for the count of draws. IN THE WORDS OF slices.Sort's CONTRACT ('Holds', 'putRow'): so the everyday 'slices.Sort(xs); xs = slices.Compact(xs)' goes from the one contract to the other. It asks 'zs.length ≤ cap' (every slice's: the reslicing 's[:k]' looks at it). Length 0, nil: '.._empty'. (LAID: no walk: one application.) -/
theorem Try.slices_Compact_int (blk off cap : Nat) (zs : List Int) (w : World) (hH : Holds (Value.int .i64) w blk off zs.toArray) (hsz : zs.length ≤ 9223372036854775807) (hcap : zs.length ≤ cap) :
    Calls Try.prog 53 #[.slice (some ⟨blk, off, none⟩) zs.length cap] w fun e w' => e = .returned (.slice (some ⟨blk, off, none⟩) (Lib.compact zs).length cap) ∧ ∃ q, w' = putRow (Value.int .i64) (Sort.ahead w q) blk off (Lib.compact zs ++ List.replicate (zs.length - (Lib.compact zs).length) 0).toArray := Any.slices_Compact_int Try.laysNm220 blk off cap zs w hH hsz hcap
open Go.RowKit Go.Lib Go.Sort in
/-- The same at a slice of length 0, a nil one too: it comes back as it is. (LAID: no walk: one application.) -/
theorem Try.slices_Compact_int_empty (a : Option Addr) (cap : Nat) (w : World) :
    Calls Try.prog 53 #[.slice a 0 cap] w fun e w' => e = .returned (.slice a 0 cap) ∧ w' = w := Any.slices_Compact_int_empty Try.laysNm220 a cap w
def Try.laysNm237_ren : Go.Shelf.Ren := ⟨fun | 37 => 110 | n => n, fun | 3 => 3 | 4 => 4 | n => n, fun | n => n⟩
theorem Try.laysNm237 : Go.Proofs.Lays2.n37 Try.prog Try.laysNm237_ren := {
  mixed := by kernel_rfl
  f37 := Try.func110.trans (congrArg some (by kernel_rfl))
  t3 := Try.underlying3
  a3 := Try.isAgg3
  z3 := Try.sizeOf3
  v3 := Try.zeroValue3
  t4 := Try.underlying4
  a4 := Try.isAgg4
  z4 := Try.sizeOf4
  v4 := Try.zeroValue4 }
open Go.RowKit Go.Lib in
/-- cmp.isNaN[int]: 'x != x': false. (LAID: no walk: one application.) -/
theorem Try.cmp_isNaN_int2 (x : Int) (w : World) :
    Calls Try.prog 110 #[.int .i64 x] w fun e w' => e = .returned (.bool false) ∧ w' = w := Any.cmp_isNaN_int2 Try.laysNm237 x w
def Try.laysNm231_ren : Go.Shelf.Ren := ⟨fun | 31 => 90 | 37 => 110 | n => n, fun | 3 => 3 | 4 => 4 | n => n, fun | n => n⟩
theorem Try.laysNm231 : Go.Proofs.Lays2.n31 Try.prog Try.laysNm231_ren := {
  mixed := by kernel_rfl
  f31 := Try.func90.trans (congrArg some (by kernel_rfl))
  f37 := Try.func110.trans (congrArg some (by kernel_rfl))
  t3 := Try.underlying3
  a3 := Try.isAgg3
  z3 := Try.sizeOf3
  v3 := Try.zeroValue3
  t4 := Try.underlying4
  a4 := Try.isAgg4
  z4 := Try.sizeOf4
  v4 := Try.zeroValue4 }
open Go.RowKit Go.Lib in
/-- cmp.Less[int]: "Less reports whether x is less than y.": 'x < y'; the world is as it was. (LAID: no walk: one application.) -/
theorem Try.cmp_Less_int2 (x y : Int) (w : World) :
    Calls Try.prog 90 #[.int .i64 x, .int .i64 y] w fun e w' => e = .returned (.bool (decide (x < y))) ∧ w' = w := Any.cmp_Less_int2 Try.laysNm231 x y w
open Go.RowKit Go.Lib Go.Sort in
/-- slices.Compact at []int, of an argument: the slice cut to 'Lib.compact (elements)'; the n cells hold that, then zeros. (LAID: no walk: one application.) -/
theorem Try.slices_Compact_int_cells (b off n c : Nat) (zs : List Int) (w : World) (hz : n ≤ zs.length) (hbig : n ≤ 9223372036854775807) (hcap : n ≤ c) (hc : ∀ j, j < zs.length → w.cell? ⟨b, off + j, none⟩ = some (.int .i64 (zs.getD j 0))) (hf : ∀ j, j < n → w.frozen? ⟨b, off + j, none⟩ = false) :
    Calls Try.prog 53 #[.slice (some ⟨b, off, none⟩) n c] w fun e w' => e = .returned (.slice (some ⟨b, off, none⟩) (Lib.compact (zs.take n)).length c) ∧ ∃ q, w' = (w.drewN q).setCells b off ((Lib.compact (zs.take n) ++ List.replicate (n - (Lib.compact (zs.take n)).length) 0).map (Value.int .i64)) := Any.slices_Compact_int_cells Try.laysNm220 b off n c zs w hz hbig hcap hc hf
open Go.RowKit Go.Sort in
/-- .. and plain. (LAID: no walk: one application.) -/
theorem Try.slices_Sort_int_none (p : Option Addr) (cap : Nat) (w : World) :
    Calls Try.prog 52 #[.slice p 0 cap] w fun e w' => e = .returned (.tuple #[]) ∧ w' = w := Any.slices_Sort_int_none Try.lays189 p cap w
def Try.laysSlE041_f56_ren : Go.Shelf.Ren := ⟨fun | 41 => 56 | n => n, fun | 22 => 30 | 23 => 3 | 4 => 4 | n => n, fun | n => n⟩
theorem Try.laysSlE041_f56 : Go.Proofs.SlLaysE0.n41 Try.prog Try.laysSlE041_f56_ren := {
  mixed := by kernel_rfl
  f41 := ⟨Try.f56.name, by decide, Try.func56.trans (congrArg some (by kernel_rfl))⟩
  t4 := Try.underlying4
  a4 := Try.isAgg4
  z4 := Try.sizeOf4
  v4 := Try.zeroValue4
  t22 := Try.underlying30
  a22 := Try.isAgg30
  z22 := Try.sizeOf30
  v22 := Try.zeroValue30 }
open Go.RowKit Go.Lib in
/-- slices.Clone: "Clone returns a copy of the slice. The elements are copied using assignment, so this is a shallow clone. The result may have additional unused capacity. The result preserves the nilness of s.": OF A SLICE THAT IS NOT nil IT RETURNS A SLICE THAT IS NOT nil, OF THE SAME CELLS, IN MEMORY OF THE CALL's OWN ('ownsRow': the how-to's 6f); below the heap's size at the call all is as it was. (LAID AT THE INSTANCE 'slices.Clone[[]int,int]': no walk: one application.) -/
theorem Try.slices_Clone (i0 : TypeInfo) (z : Value) (size bytes : Nat) (hi : Try.prog.info? 3 = some i0) (hz0 : i0.zero = some z) (hz1 : i0.size = size) (hz2 : i0.bytes = bytes) (hzs : z.cells.size = size) (hsz : 0 < size) (z23 : ∀ w, (Go.sizeOf 3).run Try.prog w = .ok size w) (b off n c : Nat) (news : List Value) (w : World) (hl : news.length = n * size) (hn : n ≤ maxLen) (hbig : n * bytes ≤ 140737488355328) (hc : ∀ j u, news[j]? = some u → w.cell? ⟨b, off + j, none⟩ = some u) (h1 : ∀ u ∈ news, u.oneCell' = true) :
    Calls Try.prog 56 #[.slice (some ⟨b, off, none⟩) n c] w fun e w' => ∃ v', e = .returned v' ∧ w'.ownsRow w.heap.size 3 size v' n news ∧ v' ≠ .slice none 0 0 ∧ Below w.heap.size w w' := AnyE.slices_Clone Try.laysSlE041_f56 i0 z size bytes hi hz0 hz1 hz2 hzs hsz z23 b off n c news w hl hn hbig hc h1
open Go.RowKit Go.Lib in
/-- The same at nil: nil comes back; the world is as it was; nothing is asked of the element's type. (LAID AT THE INSTANCE 'slices.Clone[[]int,int]': no walk: one application.) -/
theorem Try.slices_Clone_nil (n c : Nat) (w : World) :
    Calls Try.prog 56 #[.slice none n c] w fun e w' => e = .returned (.slice none 0 0) ∧ w' = w := AnyE.slices_Clone_nil Try.laysSlE041_f56 n c w
end Go.Proofs

/-
  Rising lists of ints, as plain facts: they are known by their members; sorting and compacting makes one; no program here.
-/
namespace Go.Proofs.Ythcckhpogmlgjaa
open Go

def sortL (l : List Int) : List Int := l.mergeSort fun x y => decide (x ≤ y)
def compactL (l : List Int) : List Int := Lib.compact l
def Rising (l : List Int) : Prop := l.Pairwise (· < ·)

theorem rise_ext {a b : List Int} (ha : Rising a) (hb : Rising b) (h : ∀ x, x ∈ a ↔ x ∈ b) : a = b := by
  induction a generalizing b with
  | nil =>
    cases b with
    | nil => rfl
    | cons y b => exact absurd ((h y).2 (by simp)) (by simp)
  | cons x a ih =>
    cases b with
    | nil => exact absurd ((h x).1 (by simp)) (by simp)
    | cons y b =>
      obtain ⟨ha1, ha2⟩ := List.pairwise_cons.1 ha
      obtain ⟨hb1, hb2⟩ := List.pairwise_cons.1 hb
      have exy : x = y := by
        have h1 := (h x).1 (by simp)
        have h2 := (h y).2 (by simp)
        rcases List.mem_cons.1 h1 with e | e
        · exact e
        · rcases List.mem_cons.1 h2 with e' | e'
          · exact e'.symm
          · have := hb1 x e; have := ha1 y e'; omega
      subst exy
      congr 1
      refine ih ha2 hb2 fun z => ⟨fun hz => ?_, fun hz => ?_⟩
      · rcases List.mem_cons.1 ((h z).1 (List.mem_cons_of_mem _ hz)) with e | e
        · subst e; exact absurd (ha1 z hz) (by omega)
        · exact e
      · rcases List.mem_cons.1 ((h z).2 (List.mem_cons_of_mem _ hz)) with e | e
        · subst e; exact absurd (hb1 z hz) (by omega)
        · exact e

theorem sortL_sorted (l : List Int) : (sortL l).Pairwise (· ≤ ·) := by
  have h : (l.mergeSort fun x y => decide (x ≤ y)).Pairwise fun a b => decide (a ≤ b) = true := List.pairwise_mergeSort (le := fun x y => decide (x ≤ y)) (by simp; intro a b c; omega) (by simp; intro a b; omega) l
  exact h.imp (by intro a b; simp)
theorem sortL_mem (l : List Int) (x : Int) : x ∈ sortL l ↔ x ∈ l := by simp [sortL]
theorem sortL_length (l : List Int) : (sortL l).length = l.length := List.length_mergeSort l

theorem compactUpTo_rise (d : Array Int) (hd : ∀ i j, i < j → j < d.size → d[i]! ≤ d[j]!) (m : Nat) (hm : m ≤ d.size) :
    Rising (Lib.compactUpTo d m) ∧ (∀ x ∈ Lib.compactUpTo d m, ∃ j, j < m ∧ x = d[j]!) ∧ ∀ j, j < m → d[j]! ∈ Lib.compactUpTo d m := by
  induction m with
  | zero => exact ⟨by simp [Lib.compactUpTo, Rising], by simp [Lib.compactUpTo], by intro j hj; omega⟩
  | succ m ih =>
    obtain ⟨h1, h2, h3⟩ := ih (by omega)
    rw [Lib.compactUpTo_succ]
    by_cases hk : Lib.keeps d m = true
    · rw [if_pos hk]
      refine ⟨?_, ?_, ?_⟩
      · unfold Rising
        rw [List.pairwise_append]
        refine ⟨h1, by simp, ?_⟩
        intro x hx y hy
        obtain ⟨j, hj, rfl⟩ := h2 x hx
        rw [List.mem_singleton] at hy
        subst hy
        have hne : d[m]! ≠ d[m-1]! := by
          simp [Lib.keeps] at hk
          rcases hk with hk | hk
          · omega
          · exact hk
        have h5 := hd j m hj (by omega)
        have h6 := hd (m-1) m (by omega) (by omega)
        by_cases e : j = m - 1
        · subst e; omega
        · have := hd j (m-1) (by omega) (by omega); omega
      · intro x hx
        rcases List.mem_append.1 hx with hx | hx
        · obtain ⟨j, hj, e⟩ := h2 x hx; exact ⟨j, by omega, e⟩
        · rw [List.mem_singleton] at hx; exact ⟨m, by omega, hx⟩
      · intro j hj
        by_cases e : j = m
        · subst e; simp
        · exact List.mem_append_left _ (h3 j (by omega))
    · rw [if_neg hk, List.append_nil]
      refine ⟨h1, fun x hx => ?_, fun j hj => ?_⟩
      · obtain ⟨j, hj, e⟩ := h2 x hx; exact ⟨j, by omega, e⟩
      · by_cases e : j = m
        · subst e
          simp [Lib.keeps] at hk
          rw [hk.2]
          exact h3 (j-1) (by omega)
        · exact h3 j (by omega)

theorem compactL_rise (l : List Int) (hl : l.Pairwise (· ≤ ·)) : Rising (compactL l) ∧ ∀ x, x ∈ compactL l ↔ x ∈ l := by
  have hd : ∀ i j, i < j → j < l.toArray.size → l.toArray[i]! ≤ l.toArray[j]! := by
    intro i j hij hj
    simp only [List.size_toArray] at hj
    have := List.pairwise_iff_getElem.1 hl i j (by omega) hj hij
    simpa [getElem!_pos, hj, show i < l.length by omega] using this
  obtain ⟨h1, h2, h3⟩ := compactUpTo_rise l.toArray hd l.length (by simp)
  refine ⟨h1, fun x => ⟨fun hx => ?_, fun hx => ?_⟩⟩
  · obtain ⟨j, hj, e⟩ := h2 x hx
    rw [e]
    simp [getElem!_pos, hj]
  · obtain ⟨j, hj, rfl⟩ := List.getElem_of_mem hx
    have := h3 j hj
    simpa [getElem!_pos, hj, compactL, Lib.compact] using this
theorem compactL_length (l : List Int) : (compactL l).length ≤ l.length := by
  unfold compactL Lib.compact Lib.compactUpTo
  rw [List.length_map]
  exact Nat.le_trans (List.length_filter_le _ _) (by simp)

/-- the list of a list's numbers, rising -/
def riseL (l : List Int) : List Int := compactL (sortL l)
theorem riseL_rise (l : List Int) : Rising (riseL l) := (compactL_rise _ (sortL_sorted l)).1
theorem riseL_mem (l : List Int) (x : Int) : x ∈ riseL l ↔ x ∈ l := by rw [riseL, (compactL_rise _ (sortL_sorted l)).2, sortL_mem]
theorem riseL_length (l : List Int) : (riseL l).length ≤ l.length := Nat.le_trans (compactL_length _) (Nat.le_of_eq (sortL_length l))
theorem Rising.sorted {l : List Int} (h : Rising l) : l.Pairwise (· ≤ ·) := h.imp (by intro a b; omega)
end Go.Proofs.Ythcckhpogmlgjaa

/-
  The library's functions on slices of ints, in this family's words.
-/
namespace Go.Proofs.Ythcckhpogmlgjaa
open Go.RowKit

theorem RdI.cells {w : World} {a : Option Addr} {c n : Nat} {l : List Int} (h : RdI w (.slice a n c) l) : n = l.length ∧ (l = [] ∨ ∃ b o, a = some ⟨b, o, none⟩ ∧ ∀ j, j < l.length → w.cell? ⟨b, o + j, none⟩ = some (.int .i64 (l.getD j 0))) := by
  obtain ⟨a', c', hv, hc⟩ := h
  cases hv
  refine ⟨rfl, ?_⟩
  by_cases h0 : l = []
  · exact Or.inl h0
  · have hp : 0 < l.length := List.length_pos_iff.2 h0
    obtain ⟨b, o, ha, _⟩ := hc 0 hp
    refine Or.inr ⟨b, o, ha, fun j hj => ?_⟩
    obtain ⟨b', o', ha', hcell⟩ := hc j hj
    rw [ha] at ha'
    cases ha'
    rw [hcell, List.getD_eq_getElem?_getD, List.getElem?_eq_getElem hj]
    rfl

theorem clone_any (v : Value) (l : List Int) (w : World) (hv : RdI w v l) (hl : l.length ≤ 10000000) :
    Calls Try.prog 56 #[v] w fun e w' => ∃ v', e = .returned v' ∧ OwI w' w.heap.size v' l ∧ Below w.heap.size w w' := by
  obtain ⟨a, c, rfl⟩ := hv.shape
  obtain ⟨_, h0 | ⟨b, o, rfl, hc⟩⟩ := hv.cells
  · subst h0
    cases a with
    | none => exact (Try.slices_Clone_int_nil 0 c w).mono fun e w' ⟨he, hw⟩ => by subst hw; exact ⟨_, he, Ow_nil _ _, Below.refl _ _⟩
    | some a => exact (Try.slices_Clone_int_zero a c w).mono fun e w' ⟨v', he, hown, _, hb⟩ => ⟨v', he, hown, hb⟩
  · exact (Try.slices_Clone_int b o l.length c l w (Nat.le_refl _) (by omega) hc).mono fun e w' ⟨v', he, hown, _, hb⟩ => ⟨v', he, by rw [List.take_length] at hown; exact hown, hb⟩


theorem below_sorted {w : World} {g n : Nat} {os : Array Obj} (d : Array Int) {B : Nat} (hB : B ≤ g) (hw : B ≤ w.heap.size) : Below B w (Sort.grow (Sort.putRow (Value.int .i64) (Sort.ahead w n) g 0 d) os) :=
  (Below.refl B w).grown (grownBy_sortedI d) hw fun k hk => by cases hk; exact hB

theorem sort_any (v : Value) (l : List Int) (B : Nat) (w : World) (hv : OwI w B v l) (hl : l.length ≤ 10000000) (hB : B ≤ w.heap.size) :
    Calls Try.prog 52 #[v] w fun e w' => e = .returned (.tuple #[]) ∧ OwI w' B v (sortL l) ∧ Below B w w' := by
  have hlen : (sortL l).length = l.length := List.length_mergeSort l
  have hv' := hv
  rcases hv.2 with ⟨rfl, h0⟩ | ⟨g, cap, cur, rfl, hb, hg, hnc, hcm, hcs, htake⟩
  · have e0 : l = [] := List.eq_nil_of_length_eq_zero h0
    subst e0
    exact (Try.slices_Sort_int_none none 0 w).mono fun e w' ⟨he, hw⟩ => by subst hw; exact ⟨he, by rw [show sortL [] = [] from by simp [sortL]]; exact Ow_nil _ _, Below.refl _ _⟩
  · have hlt : g < w.heap.size := (Array.getElem?_eq_some_iff.1 hg).1
    obtain ⟨g', cap', e1, _, _, _, _, _, hH⟩ := Lib.holds_of_ownsRow (enc := Value.int .i64) hv (by simp)
    cases e1
    refine (Try.slices_Sort_int g 0 cap l w hH hlt (by omega)).mono ?_
    rintro e w' ⟨he, n, os, rfl⟩
    have hown := ownsRow_sortedI (n := n) (os := os) (ts := sortL l) hlen hb hg hnc hcm hcs
    refine ⟨he, ?_, below_sorted _ hb hB⟩
    unfold OwI Ow
    rw [hlen]
    exact hown


theorem compact_any (v : Value) (l : List Int) (B : Nat) (w : World) (hv : OwI w B v l) (hl : l.length ≤ 10000000) :
    Calls Try.prog 53 #[v] w fun e w' => ∃ v', e = .returned v' ∧ OwI w' B v' (compactL l) ∧ Below B w w' := by
  have hle : (Lib.compact l).length ≤ l.length := Lib.compact_length_le l
  rcases hv.2 with ⟨rfl, h0⟩ | ⟨g, cap, cur, rfl, hb, hg, hnc, hcm, hcs, htake⟩
  · have e0 : l = [] := List.eq_nil_of_length_eq_zero h0
    subst e0
    exact (Try.slices_Compact_int_empty none 0 w).mono fun e w' ⟨he, hw⟩ => by subst hw; exact ⟨_, he, Ow_nil _ _, Below.refl _ _⟩
  · obtain ⟨g', cap', e1, _, _, _, _, _, hH⟩ := Lib.holds_of_ownsRow (enc := Value.int .i64) hv (by simp)
    cases e1
    refine (Try.slices_Compact_int g 0 cap l w hH (by omega) hnc).mono ?_
    rintro e w' ⟨he, q, rfl⟩
    refine ⟨_, he, ?_, Lib.below_putRow (Below.refl _ _) hb⟩
    have h := Lib.ownsRow_putRow (q := q) (k := (Lib.compact l).length) (ys := Lib.compact l ++ List.replicate (l.length - (Lib.compact l).length) 0) hv (by simp; omega) hle
    rw [List.take_left] at h
    exact h



end Go.Proofs.Ythcckhpogmlgjaa

/-
  Equality of sets of bytes (four words), as a law of the walk.
-/
namespace Go.Proofs.Ythcckhpogmlgjaa
open Go.RowKit
theorem uSet : Try.prog.underlying 56 = some (.array 4 54) := by kernel_rfl
theorem uU64 : Try.prog.underlying 54 = some (.int .u64) := by kernel_rfl
theorem zU64 (w : World) : (sizeOf 54).run Try.prog w = .ok 1 w := by kernel_rfl
theorem pU64 (cs : Array Value) (i : Nat) (v : Value) (h : cs[i]? = some v) (w : World) : (part 54 cs i).run Try.prog w = .ok v w := by
  simp [part, h]
set_option linter.unusedSimpArgs false in
theorem run_eqSet (w : World) (d : Nat) (a0 a1 a2 a3 b0 b1 b2 b3 : Int) :
    (Op.equalIn (d + 2) 56 (.agg #[.int .u64 a0, .int .u64 a1, .int .u64 a2, .int .u64 a3]) (.agg #[.int .u64 b0, .int .u64 b1, .int .u64 b2, .int .u64 b3])).run Try.prog w = .ok (a0 == b0 && (a1 == b1 && (a2 == b2 && a3 == b3))) w := by
  rw [Op.equalIn]
  simp only [Sem.run_bind, run_underlying uSet, Result.andThen_ok, zU64]
  rw [Std.Legacy.Range.forIn_eq_forIn_range']
  have e : List.range' ([:4] : Std.Legacy.Range).start ([:4] : Std.Legacy.Range).size ([:4] : Std.Legacy.Range).step = [0, 1, 2, 3] := rfl
  rw [e]
  have q : ∀ (x y : Int), (Op.equalIn (d + 1) 54 (.int .u64 x) (.int .u64 y)).run Try.prog w = .ok (x == y) w := fun x y => run_equalIn_int w d 54 .u64 .u64 x y uU64
  have A : ∀ i (x : Int), (#[Value.int .u64 a0, .int .u64 a1, .int .u64 a2, .int .u64 a3] : Array Value)[i]? = some (.int .u64 x) → (part 54 #[Value.int .u64 a0, .int .u64 a1, .int .u64 a2, .int .u64 a3] i).run Try.prog w = .ok (.int .u64 x) w := fun i x h => pU64 _ i _ h w
  have B : ∀ i (x : Int), (#[Value.int .u64 b0, .int .u64 b1, .int .u64 b2, .int .u64 b3] : Array Value)[i]? = some (.int .u64 x) → (part 54 #[Value.int .u64 b0, .int .u64 b1, .int .u64 b2, .int .u64 b3] i).run Try.prog w = .ok (.int .u64 x) w := fun i x h => pU64 _ i _ h w
  have A0 := A (0*1) a0 rfl
  have A1 := A (1*1) a1 rfl
  have A2 := A (2*1) a2 rfl
  have A3 := A (3*1) a3 rfl
  have B0 := B (0*1) b0 rfl
  have B1 := B (1*1) b1 rfl
  have B2 := B (2*1) b2 rfl
  have B3 := B (3*1) b3 rfl
  clear A B
  cases h0 : a0 == b0 <;> cases h1 : a1 == b1 <;> cases h2 : a2 == b2 <;> cases h3 : a3 == b3 <;>
    simp only [List.forIn_cons, List.forIn_nil, Sem.run_bind, Sem.run_pure, A0, A1, A2, A3, B0, B1, B2, B3, Result.andThen_ok, q, h0, h1, h2, h3, Bool.not_true, Bool.not_false, if_true, if_false, Bool.false_eq_true, Bool.and_true, Bool.and_false, Bool.true_and, Bool.false_and]
@[go_sem] theorem run_eqSet' (w : World) (a0 a1 a2 a3 b0 b1 b2 b3 : Int) :
    (Op.equalIn 10000 56 (.agg #[.int .u64 a0, .int .u64 a1, .int .u64 a2, .int .u64 a3]) (.agg #[.int .u64 b0, .int .u64 b1, .int .u64 b2, .int .u64 b3])).run Try.prog w = .ok (setEq a0 a1 a2 a3 b0 b1 b2 b3) w :=
  run_eqSet w 9998 a0 a1 a2 a3 b0 b1 b2 b3
end Go.Proofs.Ythcckhpogmlgjaa

namespace Go.Proofs.Ythcckhpogmlgjaa
open Go.RowKit

def RdX (w : World) (v : Value) (l : List Rx) : Prop :=
  ∃ (a : Option Addr) (c : Nat), v = .slice a l.length c ∧ ∀ (j : Nat) (h : j < l.length), ∃ b o, a = some ⟨b, o, none⟩ ∧
    w.cell? ⟨b, o + j * 5, none⟩ = some (.int .i64 l[j].kind) ∧ w.cell? ⟨b, o + j * 5 + 1, none⟩ = some (.int .u64 l[j].s0) ∧ w.cell? ⟨b, o + j * 5 + 1 + 1, none⟩ = some (.int .u64 l[j].s1) ∧
    w.cell? ⟨b, o + j * 5 + 1 + 2, none⟩ = some (.int .u64 l[j].s2) ∧ w.cell? ⟨b, o + j * 5 + 1 + 3, none⟩ = some (.int .u64 l[j].s3)

set_option maxHeartbeats 400000 in
theorem ref7_Of_any (k : Int) (w : World) : Calls Try.prog 27 #[.int .i64 k] w fun e w' => e = .returned (.int .i64 (ofK k)) ∧ w = w' := by
  have h : k = 1 ∨ k = 2 ∨ k = 3 ∨ k = 4 ∨ k = 5 ∨ k = 6 ∨ k = 7 ∨ (k ≠ 1 ∧ k ≠ 2 ∧ k ≠ 3 ∧ k ≠ 4 ∧ k ≠ 5 ∧ k ≠ 6 ∧ k ≠ 7) := by omega
  rcases h with rfl | rfl | rfl | rfl | rfl | rfl | rfl | ⟨h1, h2, h3, h4, h5, h6, h7⟩
  case inr.inr.inr.inr.inr.inr.inr =>
    have g1 : (k == 1) = false := by simpa using h1
    have g2 : (k == 2) = false := by simpa using h2
    have g3 : (k == 3) = false := by simpa using h3
    have g4 : (k == 4) = false := by simpa using h4
    have g5 : (k == 5) = false := by simpa using h5
    have g6 : (k == 6) = false := by simpa using h6
    have g7 : (k == 7) = false := by simpa using h7
    have e : ofK k = -1 := by simp [ofK, h1, h2, h3, h4, h5, h6, h7]
    rw [e]
    clear e h1 h2 h3 h4 h5 h6 h7
    go_enter Try.func27, Try.ntmps27
    go_wp2
    go_ret
    exact ⟨rfl, rfl⟩
  all_goals
    go_enter Try.func27, Try.ntmps27
    go_wp2
    go_ret
    exact ⟨rfl, rfl⟩

theorem ret_i {a b : Int} (h : a = b) : Ending.returned (.int .i64 a) = .returned (.int .i64 b) := by rw [h]

def ChkRel (l : List Rx) (T : Int) (w : World) (p i : Value) (wr : World) : Prop :=
  wr = w ∧ ∃ (k : Nat) (q : Int), k ≤ l.length ∧ i = .int .i64 k ∧ p = .int .i64 q ∧ 0 ≤ q ∧ q ≤ k ∧ checkLoop (l.drop k) q = T

set_option maxHeartbeats 1000000 in
set_option maxRecDepth 100000 in
theorem ref7_Check_any (v : Value) (l : List Rx) (w : World) (hv : RdX w v l) : Calls Try.prog 6 #[v] w fun e w' => e = .returned (.int .i64 (checkL l)) ∧ w = w' := by
  obtain ⟨a, c, rfl, hc⟩ := hv
  by_cases hlen : l.length ≤ 512
  · have hlen' : ¬ (512 : Int) < l.length := by omega
    have e0 : checkL l = checkLoop l 0 := by unfold checkL; rw [if_neg (by omega)]
    rw [e0]
    clear e0
    obtain ⟨T, hT⟩ : ∃ T, T = checkLoop l 0 := ⟨_, rfl⟩
    rw [← hT]
    have HT := Lib.hid hT; clear hT
    go_enter Try.func6, Try.ntmps6
    go_wp2
    go_loopw [3, 4] (ChkRel l T w) (fun _ i _ => l.length - (intOf i).toNat)
    case atStart => exact ⟨rfl, 0, 0, by omega, rfl, rfl, by omega, by omega, HT.out.symm⟩
    case round =>
      obtain ⟨rfl, k, q, hk, rfl, rfl, hq1, hq2, hrel⟩ := hrel
      by_cases hlt : k < l.length
      · rw [drop_cons l k hlt, checkLoop] at hrel
        have Hrel := Lib.hid hrel; clear hrel
        obtain ⟨b, o, rfl, h0, h1, h2, h3, h4⟩ := hc k hlt
        clear hc
        go_wp2_with fail
        refine (ref7_Of_any _ _).mono ?_
        rintro e w1 ⟨rfl, rfl⟩
        have hx := ofK_ge l[k].kind
        generalize ofK l[k].kind = x at Hrel hx ⊢
        obtain ⟨hx1, hx2⟩ := hx
        by_cases hx : x < 0
        · have hfin : T = 1 := by have := Hrel.out; rw [if_pos (Or.inl hx)] at this; exact this.symm
          have Hf := Lib.hid hfin; clear hfin
          clear Hrel
          go_wp2_with fail
          go_ret
          exact ⟨ret_i Hf.out.symm, rfl⟩
        · have hx' : 0 ≤ x := by omega
          clear hx
          by_cases hk1 : l[k].kind = 1
          · have hk2 : (l[k].kind != 1) = false := by simp [hk1]
            have Hr : Hid ((if q < x then 3 else checkLoop (l.drop (k + 1)) (q - x + 1)) = T) := Lib.hid (by have := Hrel.out; rw [if_neg (by omega)] at this; exact this)
            clear hk1 Hrel
            by_cases hq : q < x
            · have Hf := Lib.hid (show T = 3 by have := Hr.out; rw [if_pos hq] at this; exact this.symm)
              clear Hr
              go_wp2_with fail
              go_ret
              exact ⟨ret_i Hf.out.symm, rfl⟩
            · have Hf := Lib.hid (show checkLoop (l.drop (k + 1)) (q - x + 1) = T by have := Hr.out; rw [if_neg hq] at this; exact this)
              clear Hr
              go_wp2_with fail
              go_roundw
              case rel => exact ⟨rfl, k + 1, q - x + 1, by omega, by go_num, rfl, by omega, by omega, Hf.out⟩
              case measure => simp [intOf]; omega
          · have hk2 : (l[k].kind != 1) = true := by simpa using hk1
            by_cases hb : l[k].bare = true
            · have hb' : setEq l[k].s0 l[k].s1 l[k].s2 l[k].s3 0 0 0 0 = true := hb
              have Hr : Hid ((if q < x then 3 else checkLoop (l.drop (k + 1)) (q - x + 1)) = T) := Lib.hid (by have := Hrel.out; rw [if_neg (by rw [hb]; simp; omega)] at this; exact this)
              clear hk1 Hrel hb
              by_cases hq : q < x
              · have Hf := Lib.hid (show T = 3 by have := Hr.out; rw [if_pos hq] at this; exact this.symm)
                clear Hr
                go_wp2_with fail
                go_ret
                exact ⟨ret_i Hf.out.symm, rfl⟩
              · have Hf := Lib.hid (show checkLoop (l.drop (k + 1)) (q - x + 1) = T by have := Hr.out; rw [if_neg hq] at this; exact this)
                clear Hr
                go_wp2_with fail
                go_roundw
                case rel => exact ⟨rfl, k + 1, q - x + 1, by omega, by go_num, rfl, by omega, by omega, Hf.out⟩
                case measure => simp [intOf]; omega
            · have hb' : setEq l[k].s0 l[k].s1 l[k].s2 l[k].s3 0 0 0 0 = false := by rw [Bool.not_eq_true] at hb; exact hb
              have Hf := Lib.hid (show T = 1 by have := Hrel.out; rw [if_pos (Or.inr ⟨hk1, hb'⟩)] at this; exact this.symm)
              clear hk1 Hrel hb
              go_wp2_with fail
              go_ret
              exact ⟨ret_i Hf.out.symm, rfl⟩
      · have e : l.drop k = [] := List.drop_eq_nil_of_le (by omega)
        rw [e, checkLoop] at hrel
        by_cases hq : q = 1
        · have hq' : (q != 1) = false := by simp [hq]
          have Hf := Lib.hid (show T = 0 by rw [if_pos hq] at hrel; exact hrel.symm)
          clear hrel e hq
          go_wp2_with fail
          go_ret
          exact ⟨ret_i Hf.out.symm, rfl⟩
        · have hq' : (q != 1) = true := by simpa using hq
          have Hf := Lib.hid (show T = 3 by rw [if_neg hq] at hrel; exact hrel.symm)
          clear hrel e hq
          go_wp2_with fail
          go_ret
          exact ⟨ret_i Hf.out.symm, rfl⟩
  · have hlen' : (512 : Int) < l.length := by omega
    have e0 : checkL l = 4 := by unfold checkL; rw [if_pos (by omega)]
    rw [e0]
    clear e0
    go_enter Try.func6, Try.ntmps6
    go_wp2
    go_ret
    exact ⟨rfl, rfl⟩
end Go.Proofs.Ythcckhpogmlgjaa

/-
  Expressions as trees, and the steps that a tree is: plain facts; no program here.
-/
namespace Go.Proofs.Ythcckhpogmlgjaa

inductive E where
  | set (s0 s1 s2 s3 : Int)
  | empty
  | cat (a b : E)
  | alt (a b : E)
  | star (a : E)
  | plus (a : E)
  | opt (a : E)

def bareX (k : Int) : Rx := ⟨k, 0, 0, 0, 0⟩
def post : E → List Rx
  | .set s0 s1 s2 s3 => [⟨1, s0, s1, s2, s3⟩]
  | .empty => [bareX 2]
  | .cat a b => post a ++ (post b ++ [bareX 3])
  | .alt a b => post a ++ (post b ++ [bareX 4])
  | .star a => post a ++ [bareX 5]
  | .plus a => post a ++ [bareX 6]
  | .opt a => post a ++ [bareX 7]

theorem post_pos (e : E) : 0 < (post e).length := by cases e <;> simp [post] <;> omega

def flat (st : List E) : List Rx := (st.reverse).flatMap post
theorem flat_cons (e : E) (st : List E) : flat (e :: st) = flat st ++ post e := by simp [flat]

theorem bare_eq (x : Rx) (h : x.bare = true) : x = bareX x.kind := by
  obtain ⟨k, a, b, c, d⟩ := x
  simp [Rx.bare, setEq] at h
  simp [bareX, h]

theorem parse_of (l : List Rx) : ∀ (st : List E), checkLoop l st.length = 0 → ∃ e, flat st ++ l = post e := by
  induction l with
  | nil =>
    intro st h
    rw [checkLoop] at h
    split at h
    · rename_i h1
      match st, h1 with
      | [e], _ => exact ⟨e, by simp [flat]⟩
      | [], h1 => simp at h1
      | _ :: _ :: _, h1 => simp at h1; omega
    · omega
  | cons x r ih =>
    intro st h
    rw [checkLoop] at h
    split at h
    · omega
    · rename_i h1
      split at h
      · omega
      · rename_i h2
        have hk : x.kind = 1 ∨ x.kind = 2 ∨ x.kind = 3 ∨ x.kind = 4 ∨ x.kind = 5 ∨ x.kind = 6 ∨ x.kind = 7 := by
          have : ¬ ofK x.kind < 0 := fun h => h1 (Or.inl h)
          unfold ofK at this
          split at this
          · omega
          · split at this
            · omega
            · split at this <;> omega
        have hb : x.kind ≠ 1 → x = bareX x.kind := fun hne => bare_eq x (by
          cases hbb : x.bare
          · exact absurd (Or.inr ⟨hne, hbb⟩) h1
          · rfl)
        rcases hk with hk | hk | hk | hk | hk | hk | hk
        · have hx : x = ⟨1, x.s0, x.s1, x.s2, x.s3⟩ := by rw [← hk]
          have ho : ofK x.kind = 0 := by rw [hk]; rfl
          obtain ⟨e, he⟩ := ih (.set x.s0 x.s1 x.s2 x.s3 :: st) (by rw [ho] at h; simpa using h)
          exact ⟨e, by rw [← he, flat_cons, hx]; simp [post]⟩
        · have hx := hb (by omega)
          rw [hk] at hx
          have ho : ofK x.kind = 0 := by rw [hk]; rfl
          obtain ⟨e, he⟩ := ih (.empty :: st) (by rw [ho] at h; simpa using h)
          exact ⟨e, by rw [← he, flat_cons, hx]; simp [post]⟩
        · have hx := hb (by omega)
          rw [hk] at hx
          have ho : ofK x.kind = 2 := by rw [hk]; rfl
          rw [ho] at h h2
          match st, h, h2 with
          | b :: a :: st, h, _ =>
            obtain ⟨e, he⟩ := ih (.cat a b :: st) (by rw [← h]; congr 1; simp; omega)
            exact ⟨e, by rw [← he, flat_cons, flat_cons, flat_cons, hx]; simp [post]⟩
          | [], _, h2 => simp at h2
          | [_], _, h2 => simp at h2
        · have hx := hb (by omega)
          rw [hk] at hx
          have ho : ofK x.kind = 2 := by rw [hk]; rfl
          rw [ho] at h h2
          match st, h, h2 with
          | b :: a :: st, h, _ =>
            obtain ⟨e, he⟩ := ih (.alt a b :: st) (by rw [← h]; congr 1; simp; omega)
            exact ⟨e, by rw [← he, flat_cons, flat_cons, flat_cons, hx]; simp [post]⟩
          | [], _, h2 => simp at h2
          | [_], _, h2 => simp at h2
        · have hx := hb (by omega)
          rw [hk] at hx
          have ho : ofK x.kind = 1 := by rw [hk]; rfl
          rw [ho] at h h2
          match st, h, h2 with
          | a :: st, h, _ =>
            obtain ⟨e, he⟩ := ih (.star a :: st) (by rw [← h]; congr 1; simp)
            exact ⟨e, by rw [← he, flat_cons, flat_cons, hx]; simp [post]⟩
          | [], _, h2 => simp at h2
        · have hx := hb (by omega)
          rw [hk] at hx
          have ho : ofK x.kind = 1 := by rw [hk]; rfl
          rw [ho] at h h2
          match st, h, h2 with
          | a :: st, h, _ =>
            obtain ⟨e, he⟩ := ih (.plus a :: st) (by rw [← h]; congr 1; simp)
            exact ⟨e, by rw [← he, flat_cons, flat_cons, hx]; simp [post]⟩
          | [], _, h2 => simp at h2
        · have hx := hb (by omega)
          rw [hk] at hx
          have ho : ofK x.kind = 1 := by rw [hk]; rfl
          rw [ho] at h h2
          match st, h, h2 with
          | a :: st, h, _ =>
            obtain ⟨e, he⟩ := ih (.opt a :: st) (by rw [← h]; congr 1; simp)
            exact ⟨e, by rw [← he, flat_cons, flat_cons, hx]; simp [post]⟩
          | [], _, h2 => simp at h2

/-- steps that are an expression are a tree's -/
theorem tree_of (l : List Rx) (h : checkL l = 0) : l.length ≤ 512 ∧ ∃ e, l = post e := by
  unfold checkL at h
  split at h
  · omega
  · obtain ⟨e, he⟩ := parse_of l [] h
    exact ⟨by omega, e, by simpa [flat] using he⟩

theorem check_post (e : E) : ∀ (r : List Rx) (q : Int), 0 ≤ q → checkLoop (post e ++ r) q = checkLoop r (q + 1) := by
  induction e with
  | set s0 s1 s2 s3 => intro r q hq; simp [post, checkLoop, ofK]; omega
  | empty => intro r q hq; simp [post, bareX, checkLoop, ofK, Rx.bare, setEq]; omega
  | cat a b iha ihb =>
    intro r q hq
    simp only [post, List.append_assoc]
    rw [iha _ q hq, ihb _ (q + 1) (by omega)]
    simp [bareX, checkLoop, ofK, Rx.bare, setEq]
    rw [if_neg (by omega)]; congr 1; omega
  | alt a b iha ihb =>
    intro r q hq
    simp only [post, List.append_assoc]
    rw [iha _ q hq, ihb _ (q + 1) (by omega)]
    simp [bareX, checkLoop, ofK, Rx.bare, setEq]
    rw [if_neg (by omega)]; congr 1; omega
  | star a iha =>
    intro r q hq
    simp only [post, List.append_assoc]
    rw [iha _ q hq]
    simp [bareX, checkLoop, ofK, Rx.bare, setEq]
    omega
  | plus a iha =>
    intro r q hq
    simp only [post, List.append_assoc]
    rw [iha _ q hq]
    simp [bareX, checkLoop, ofK, Rx.bare, setEq]
    omega
  | opt a iha =>
    intro r q hq
    simp only [post, List.append_assoc]
    rw [iha _ q hq]
    simp [bareX, checkLoop, ofK, Rx.bare, setEq]
    omega
theorem check_tree (e : E) (h : (post e).length ≤ 512) : checkL (post e) = 0 := by
  unfold checkL
  rw [if_neg (by omega)]
  have := check_post e [] 0 (by omega)
  rw [List.append_nil] at this
  rw [this]
  rfl

/- the spots: how many, which may be first and last, whether none need be, which follow -/
def nset : E → Nat
  | .set .. => 1 | .empty => 0 | .cat a b => nset a + nset b | .alt a b => nset a + nset b | .star a => nset a | .plus a => nset a | .opt a => nset a
def freeT : E → Bool
  | .set .. => false | .empty => true | .cat a b => freeT a && freeT b | .alt a b => freeT a || freeT b | .star _ => true | .plus a => freeT a | .opt _ => true
def firstT : E → Int → List Int
  | .set .., n => [n] | .empty, _ => []
  | .cat a b, n => firstT a n ++ (if freeT a then firstT b (n + nset a) else [])
  | .alt a b, n => firstT a n ++ firstT b (n + nset a)
  | .star a, n => firstT a n | .plus a, n => firstT a n | .opt a, n => firstT a n
def lastT : E → Int → List Int
  | .set .., n => [n] | .empty, _ => []
  | .cat a b, n => (if freeT b then lastT a n else []) ++ lastT b (n + nset a)
  | .alt a b, n => lastT a n ++ lastT b (n + nset a)
  | .star a, n => lastT a n | .plus a, n => lastT a n | .opt a, n => lastT a n
def folT : E → Int → Int → Int → Prop
  | .set .., _, _, _ => False | .empty, _, _, _ => False
  | .cat a b, n, i, j => folT a n i j ∨ folT b (n + nset a) i j ∨ (i ∈ lastT a n ∧ j ∈ firstT b (n + nset a))
  | .alt a b, n, i, j => folT a n i j ∨ folT b (n + nset a) i j
  | .star a, n, i, j => folT a n i j ∨ (i ∈ lastT a n ∧ j ∈ firstT a n)
  | .plus a, n, i, j => folT a n i j ∨ (i ∈ lastT a n ∧ j ∈ firstT a n)
  | .opt a, n, i, j => folT a n i j
def setsT : E → List Rx
  | .set a b c d => [⟨1, a, b, c, d⟩] | .empty => [] | .cat a b => setsT a ++ setsT b | .alt a b => setsT a ++ setsT b | .star a => setsT a | .plus a => setsT a | .opt a => setsT a
theorem setsT_len (e : E) : (setsT e).length = nset e := by
  induction e <;> simp_all [setsT, nset]
theorem setsT_filter (e : E) : (post e).filter (fun x => x.kind == 1) = setsT e := by
  induction e <;> simp_all [setsT, post, bareX]
theorem nset_le (e : E) : nset e ≤ (post e).length := by
  rw [← setsT_len, ← setsT_filter]; exact List.length_filter_le _ _

def Rises (l : List Int) : Prop := l.Pairwise (· < ·)
theorem rises_append {a b : List Int} {m : Int} (ha : Rises a) (hb : Rises b) (h1 : ∀ x ∈ a, x < m) (h2 : ∀ x ∈ b, m ≤ x) : Rises (a ++ b) := by
  unfold Rises
  rw [List.pairwise_append]
  exact ⟨ha, hb, fun x hx y hy => by have := h1 x hx; have := h2 y hy; omega⟩
theorem first_in (e : E) : ∀ n : Int, Rises (firstT e n) ∧ ∀ x ∈ firstT e n, n ≤ x ∧ x < n + nset e := by
  induction e with
  | set => intro n; exact ⟨by simp [firstT, Rises], by simp [firstT, nset]; omega⟩
  | empty => intro n; exact ⟨by simp [firstT, Rises], by simp [firstT]⟩
  | cat a b iha ihb =>
    intro n
    obtain ⟨h1, h2⟩ := iha n
    obtain ⟨h3, h4⟩ := ihb (n + nset a)
    refine ⟨?_, ?_⟩
    · simp only [firstT]
      split
      · exact rises_append h1 h3 (fun x hx => (h2 x hx).2) (fun x hx => (h4 x hx).1)
      · simpa using h1
    · intro x hx
      simp only [firstT, List.mem_append] at hx
      simp only [nset]
      rcases hx with hx | hx
      · have := h2 x hx; omega
      · split at hx
        · have := h4 x hx; omega
        · cases hx
  | alt a b iha ihb =>
    intro n
    obtain ⟨h1, h2⟩ := iha n
    obtain ⟨h3, h4⟩ := ihb (n + nset a)
    refine ⟨rises_append h1 h3 (fun x hx => (h2 x hx).2) (fun x hx => (h4 x hx).1), ?_⟩
    intro x hx
    simp only [firstT, List.mem_append] at hx
    simp only [nset]
    rcases hx with hx | hx
    · have := h2 x hx; omega
    · have := h4 x hx; omega
  | star a ih => exact ih
  | plus a ih => exact ih
  | opt a ih => exact ih
theorem last_in (e : E) : ∀ n : Int, Rises (lastT e n) ∧ ∀ x ∈ lastT e n, n ≤ x ∧ x < n + nset e := by
  induction e with
  | set => intro n; exact ⟨by simp [lastT, Rises], by simp [lastT, nset]; omega⟩
  | empty => intro n; exact ⟨by simp [lastT, Rises], by simp [lastT]⟩
  | cat a b iha ihb =>
    intro n
    obtain ⟨h1, h2⟩ := iha n
    obtain ⟨h3, h4⟩ := ihb (n + nset a)
    refine ⟨?_, ?_⟩
    · simp only [lastT]
      split
      · exact rises_append h1 h3 (fun x hx => (h2 x hx).2) (fun x hx => (h4 x hx).1)
      · simpa using h3
    · intro x hx
      simp only [lastT, List.mem_append] at hx
      simp only [nset]
      rcases hx with hx | hx
      · split at hx
        · have := h2 x hx; omega
        · cases hx
      · have := h4 x hx; omega
  | alt a b iha ihb =>
    intro n
    obtain ⟨h1, h2⟩ := iha n
    obtain ⟨h3, h4⟩ := ihb (n + nset a)
    refine ⟨rises_append h1 h3 (fun x hx => (h2 x hx).2) (fun x hx => (h4 x hx).1), ?_⟩
    intro x hx
    simp only [lastT, List.mem_append] at hx
    simp only [nset]
    rcases hx with hx | hx
    · have := h2 x hx; omega
    · have := h4 x hx; omega
  | star a ih => exact ih
  | plus a ih => exact ih
  | opt a ih => exact ih
theorem fol_in (e : E) : ∀ n i j : Int, folT e n i j → (n ≤ i ∧ i < n + nset e) ∧ n ≤ j ∧ j < n + nset e := by
  induction e with
  | set => intro n i j h; exact h.elim
  | empty => intro n i j h; exact h.elim
  | cat a b iha ihb =>
    intro n i j h
    simp only [nset]
    rcases h with h | h | ⟨h, h'⟩
    · have := iha n i j h; omega
    · have := ihb _ i j h; omega
    · have := (last_in a n).2 i h; have := (first_in b _).2 j h'; omega
  | alt a b iha ihb =>
    intro n i j h
    simp only [nset]
    rcases h with h | h
    · have := iha n i j h; omega
    · have := ihb _ i j h; omega
  | star a ih =>
    intro n i j h
    simp only [nset]
    rcases h with h | ⟨h, h'⟩
    · have := ih n i j h; omega
    · have := (last_in a n).2 i h; have := (first_in a n).2 j h'; omega
  | plus a ih =>
    intro n i j h
    simp only [nset]
    rcases h with h | ⟨h, h'⟩
    · have := ih n i j h; omega
    · have := (last_in a n).2 i h; have := (first_in a n).2 j h'; omega
  | opt a ih => exact ih

/-- the tree e stands in l from s to t -/
def AtT (l : List Rx) (s : Nat) (e : E) (t : Nat) : Prop := ∃ pre suf, l = pre ++ post e ++ suf ∧ s = pre.length ∧ t = s + (post e).length
def kindT : E → Int | .set .. => 1 | .empty => 2 | .cat .. => 3 | .alt .. => 4 | .star _ => 5 | .plus _ => 6 | .opt _ => 7
theorem AtT.whole (e : E) : AtT (post e) 0 e (post e).length := ⟨[], [], by simp, rfl, by simp⟩
theorem AtT.bound {l : List Rx} {s t : Nat} {e : E} (h : AtT l s e t) : s < t ∧ t ≤ l.length := by
  obtain ⟨pre, suf, rfl, rfl, rfl⟩ := h
  have := post_pos e
  simp; omega
theorem post_last (e : E) : (post e).getLast? = some (match e with | .set a b c d => ⟨1, a, b, c, d⟩ | e => bareX (kindT e)) := by
  cases e <;> simp [post, kindT]
theorem AtT.kind {l : List Rx} {s t : Nat} {e : E} (h : AtT l s e t) (j : Nat) (hj : j < l.length) (hjt : j + 1 = t) : l[j].kind = kindT e := by
  obtain ⟨pre, suf, rfl, rfl, rfl⟩ := h
  have hp := post_pos e
  have hl := post_last e
  rw [List.getLast?_eq_getElem?] at hl
  have e1 : (pre ++ post e ++ suf)[j]? = (post e)[(post e).length - 1]? := by
    rw [List.append_assoc, List.getElem?_append_right (by omega), List.getElem?_append_left (by omega)]
    congr 1; omega
  rw [hl, List.getElem?_eq_getElem hj, Option.some.injEq] at e1
  rw [e1]
  cases e <;> rfl
theorem AtT.cat {l : List Rx} {s t : Nat} {a b : E} (h : AtT l s (.cat a b) t) : ∃ m, AtT l s a m ∧ AtT l m b (t - 1) ∧ s < m ∧ m < t - 1 := by
  obtain ⟨pre, suf, rfl, rfl, rfl⟩ := h
  have := post_pos a; have := post_pos b
  refine ⟨pre.length + (post a).length, ⟨pre, post b ++ [bareX 3] ++ suf, by simp [post], rfl, rfl⟩, ⟨pre ++ post a, [bareX 3] ++ suf, by simp [post], by simp, by simp [post]; omega⟩, by omega, by simp [post]; omega⟩
theorem AtT.alt {l : List Rx} {s t : Nat} {a b : E} (h : AtT l s (.alt a b) t) : ∃ m, AtT l s a m ∧ AtT l m b (t - 1) ∧ s < m ∧ m < t - 1 := by
  obtain ⟨pre, suf, rfl, rfl, rfl⟩ := h
  have := post_pos a; have := post_pos b
  refine ⟨pre.length + (post a).length, ⟨pre, post b ++ [bareX 4] ++ suf, by simp [post], rfl, rfl⟩, ⟨pre ++ post a, [bareX 4] ++ suf, by simp [post], by simp, by simp [post]; omega⟩, by omega, by simp [post]; omega⟩
theorem AtT.star {l : List Rx} {s t : Nat} {a : E} (h : AtT l s (.star a) t) : AtT l s a (t - 1) := by
  obtain ⟨pre, suf, rfl, rfl, rfl⟩ := h
  exact ⟨pre, [bareX 5] ++ suf, by simp [post], rfl, by simp [post]⟩
theorem AtT.plus {l : List Rx} {s t : Nat} {a : E} (h : AtT l s (.plus a) t) : AtT l s a (t - 1) := by
  obtain ⟨pre, suf, rfl, rfl, rfl⟩ := h
  exact ⟨pre, [bareX 6] ++ suf, by simp [post], rfl, by simp [post]⟩
theorem AtT.opt {l : List Rx} {s t : Nat} {a : E} (h : AtT l s (.opt a) t) : AtT l s a (t - 1) := by
  obtain ⟨pre, suf, rfl, rfl, rfl⟩ := h
  exact ⟨pre, [bareX 7] ++ suf, by simp [post], rfl, by simp [post]⟩
/-- how many sets stand ahead of a step -/
def numL (l : List Rx) (i : Nat) : Nat := ((l.take i).filter fun x => x.kind == 1).length
theorem numL_succ (l : List Rx) (k : Nat) (h : k < l.length) : numL l (k + 1) = numL l k + if l[k].kind = 1 then 1 else 0 := by
  unfold numL
  rw [List.take_succ_eq_append_getElem h, List.filter_append, List.length_append]
  congr 1
  by_cases hk : l[k].kind = 1 <;> simp [hk]
theorem numL_le (l : List Rx) (k : Nat) : numL l k ≤ k := by
  unfold numL
  exact Nat.le_trans (List.length_filter_le _ _) (by rw [List.length_take]; omega)
theorem AtT.num {l : List Rx} {s t : Nat} {e : E} (h : AtT l s e t) : numL l t = numL l s + nset e := by
  obtain ⟨pre, suf, rfl, rfl, rfl⟩ := h
  unfold numL
  rw [← setsT_len, ← setsT_filter, List.append_assoc, List.take_left, ← List.append_assoc, List.take_left' (by simp), List.filter_append, List.length_append]
end Go.Proofs.Ythcckhpogmlgjaa

namespace Go.Proofs.Ythcckhpogmlgjaa
open Go.RowKit
set_option linter.unusedVariables false

/-- the kind's cell of step i -/
theorem RdX.kindAt {w : World} {a : Option Addr} {c n : Nat} {l : List Rx} (h : RdX w (.slice a n c) l) (j : Nat) (hj : j < l.length) :
    n = l.length ∧ ∃ b o, a = some ⟨b, o, none⟩ ∧ w.cell? ⟨b, o + j * 5, none⟩ = some (.int .i64 l[j].kind) := by
  obtain ⟨a', c', hv, hc⟩ := h
  cases hv
  obtain ⟨b, o, ha, h0, _⟩ := hc j hj
  exact ⟨rfl, b, o, ha, h0⟩

theorem RdX.below {w w' : World} {v : Value} {l : List Rx} (h : RdX w v l) (hb : Below w.heap.size w w') : RdX w' v l := by
  obtain ⟨a, c, rfl, hc⟩ := h
  refine ⟨a, c, rfl, fun j hj => ?_⟩
  obtain ⟨b, o, ha, h0, h1, h2, h3, h4⟩ := hc j hj
  have hlt := World.block_lt_of_cell? w _ h0
  have hk : ∀ p, w'.cell? ⟨b, p, none⟩ = w.cell? ⟨b, p, none⟩ := fun p => hb.cell (p := ⟨b, p, none⟩) hlt
  exact ⟨b, o, ha, by rw [hk]; exact h0, by rw [hk]; exact h1, by rw [hk]; exact h2, by rw [hk]; exact h3, by rw [hk]; exact h4⟩

theorem RdX.shape {w : World} {v : Value} {l : List Rx} (h : RdX w v l) : ∃ a c, v = .slice a l.length c := by
  obtain ⟨a, c, rfl, _⟩ := h
  exact ⟨a, c, rfl⟩

theorem kind_cases (e : E) : kindT e = 1 ∨ kindT e = 2 ∨ kindT e = 3 ∨ kindT e = 4 ∨ kindT e = 5 ∨ kindT e = 6 ∨ kindT e = 7 := by cases e <;> simp [kindT]

/-- Begin's walk, out of what the calls of itself return -/
def BegSpec (v : Value) (w : World) (i : Int) (s : Int) : Prop := Calls Try.prog 103 #[v, .int .i64 i] w fun e w' => e = .returned (.int .i64 s) ∧ w = w'

set_option maxHeartbeats 1000000 in
theorem begin_leaf (v : Value) (l : List Rx) (w : World) (hv : RdX w v l) (hl : l.length ≤ 1000) (j : Nat) (hj : j < l.length) (hk : ofK l[j].kind = 0) : BegSpec v w j j := by
  obtain ⟨a, c, rfl⟩ := hv.shape
  obtain ⟨_, b, o, rfl, hcell⟩ := hv.kindAt j hj
  have Hk := Lib.hid hk; clear hk
  unfold BegSpec
  go_enter Try.func103, Try.ntmps103
  go_wp2_with fail
  refine (ref7_Of_any _ _).mono ?_
  rintro e w1 ⟨rfl, rfl⟩
  rw [Hk.out]
  go_wp2_with fail
  refine wp_loop_rounds 1 ?_
  rw [rounds_succ]
  go_wp2_with fail
  go_ret
  exact ⟨rfl, rfl⟩

set_option maxHeartbeats 1000000 in
theorem begin_one (v : Value) (l : List Rx) (w : World) (hv : RdX w v l) (hl : l.length ≤ 1000) (j : Nat) (hj : j < l.length) (hk : ofK l[j].kind = 1) (s : Nat) (hs : s < l.length) (h1 : BegSpec v w (j - 1) s) : BegSpec v w j s := by
  obtain ⟨a, c, rfl⟩ := hv.shape
  obtain ⟨_, b, o, rfl, hcell⟩ := hv.kindAt j hj
  have Hk := Lib.hid hk; clear hk
  unfold BegSpec at h1 ⊢
  have H1 := Lib.hid h1; clear h1
  go_enter Try.func103, Try.ntmps103
  go_wp2_with fail
  refine (ref7_Of_any _ _).mono ?_
  rintro e w1 ⟨rfl, rfl⟩
  rw [Hk.out]
  go_wp2_with fail
  refine wp_loop_rounds 2 ?_
  rw [rounds_succ]
  go_wp2_with fail
  refine H1.out.mono ?_
  rintro e w1 ⟨rfl, rfl⟩
  go_wp2_with fail
  rw [rounds_succ]
  go_wp2_with fail
  go_ret
  exact ⟨rfl, rfl⟩

set_option maxHeartbeats 1000000 in
theorem begin_two (v : Value) (l : List Rx) (w : World) (hv : RdX w v l) (hl : l.length ≤ 1000) (j : Nat) (hj : j < l.length) (hk : ofK l[j].kind = 2) (m s : Nat) (hm : m < l.length) (hs : s < l.length) (h1 : BegSpec v w (j - 1) m) (h2 : BegSpec v w (m - 1) s) : BegSpec v w j s := by
  obtain ⟨a, c, rfl⟩ := hv.shape
  obtain ⟨_, b, o, rfl, hcell⟩ := hv.kindAt j hj
  have Hk := Lib.hid hk; clear hk
  unfold BegSpec at h1 h2 ⊢
  have H1 := Lib.hid h1; clear h1
  have H2 := Lib.hid h2; clear h2
  go_enter Try.func103, Try.ntmps103
  go_wp2_with fail
  refine (ref7_Of_any _ _).mono ?_
  rintro e w1 ⟨rfl, rfl⟩
  rw [Hk.out]
  go_wp2_with fail
  refine wp_loop_rounds 3 ?_
  rw [rounds_succ]
  go_wp2_with fail
  refine H1.out.mono ?_
  rintro e w1 ⟨rfl, rfl⟩
  go_wp2_with fail
  rw [rounds_succ]
  go_wp2_with fail
  refine H2.out.mono ?_
  rintro e w1 ⟨rfl, rfl⟩
  go_wp2_with fail
  rw [rounds_succ]
  go_wp2_with fail
  go_ret
  exact ⟨rfl, rfl⟩

theorem begin_any (l : List Rx) (hl : l.length ≤ 1000) (e : E) : ∀ (s t : Nat), AtT l s e t → ∀ (v : Value) (w : World), RdX w v l → ∀ i : Int, i = (t : Int) - 1 → BegSpec v w i s := by
  have hkind : ∀ (e : E) (s t : Nat), AtT l s e t → ∃ j, ∃ hj : j < l.length, j + 1 = t ∧ l[j].kind = kindT e := fun e s t h =>
    ⟨t - 1, by have := h.bound; omega, by have := h.bound; omega, h.kind _ _ (by have := h.bound; omega)⟩
  induction e with
  | set =>
    intro s t h v w hv i hi
    obtain ⟨j, hj, hjt, hk⟩ := hkind _ s t h
    obtain ⟨pre, suf, _, rfl, rfl⟩ := h
    obtain rfl : i = (j : Int) := by omega
    obtain rfl : pre.length = j := by simp [post] at hjt; omega
    exact begin_leaf v l w hv hl _ hj (by rw [hk]; rfl)
  | empty =>
    intro s t h v w hv i hi
    obtain ⟨j, hj, hjt, hk⟩ := hkind _ s t h
    obtain ⟨pre, suf, _, rfl, rfl⟩ := h
    obtain rfl : i = (j : Int) := by omega
    obtain rfl : pre.length = j := by simp [post] at hjt; omega
    exact begin_leaf v l w hv hl _ hj (by rw [hk]; rfl)
  | cat a b iha ihb =>
    intro s t h v w hv i hi
    obtain ⟨j, hj, hjt, hk⟩ := hkind _ s t h
    obtain ⟨m, ha, hb, hsm, hmt⟩ := h.cat
    obtain rfl : i = (j : Int) := by omega
    exact begin_two v l w hv hl j hj (by rw [hk]; rfl) m s (by omega) (by omega) (ihb m (t - 1) hb v w hv _ (by omega)) (iha s m ha v w hv _ (by omega))
  | alt a b iha ihb =>
    intro s t h v w hv i hi
    obtain ⟨j, hj, hjt, hk⟩ := hkind _ s t h
    obtain ⟨m, ha, hb, hsm, hmt⟩ := h.alt
    obtain rfl : i = (j : Int) := by omega
    exact begin_two v l w hv hl j hj (by rw [hk]; rfl) m s (by omega) (by omega) (ihb m (t - 1) hb v w hv _ (by omega)) (iha s m ha v w hv _ (by omega))
  | star a iha =>
    intro s t h v w hv i hi
    obtain ⟨j, hj, hjt, hk⟩ := hkind _ s t h
    have ha := h.star
    have hb := ha.bound
    obtain rfl : i = (j : Int) := by omega
    exact begin_one v l w hv hl j hj (by rw [hk]; rfl) s (by omega) (iha s (t - 1) ha v w hv _ (by omega))
  | plus a iha =>
    intro s t h v w hv i hi
    obtain ⟨j, hj, hjt, hk⟩ := hkind _ s t h
    have ha := h.plus
    have hb := ha.bound
    obtain rfl : i = (j : Int) := by omega
    exact begin_one v l w hv hl j hj (by rw [hk]; rfl) s (by omega) (iha s (t - 1) ha v w hv _ (by omega))
  | opt a iha =>
    intro s t h v w hv i hi
    obtain ⟨j, hj, hjt, hk⟩ := hkind _ s t h
    have ha := h.opt
    have hb := ha.bound
    obtain rfl : i = (j : Int) := by omega
    exact begin_one v l w hv hl j hj (by rw [hk]; rfl) s (by omega) (iha s (t - 1) ha v w hv _ (by omega))
end Go.Proofs.Ythcckhpogmlgjaa

/-
  Slices of sets of bytes (four words each): how they read, what a call owns.
-/
namespace Go.Proofs.Ythcckhpogmlgjaa
open Go.RowKit
set_option linter.unusedVariables false

def setCells (x : Rx) : List Value := [.int .u64 x.s0, .int .u64 x.s1, .int .u64 x.s2, .int .u64 x.s3]
/-- v owns the sets of l, from block B on -/
def OwSet (w : World) (B : Nat) (v : Value) (l : List Rx) : Prop := w.ownsRow B 56 4 v l.length (l.flatMap setCells)
/-- v reads as the sets of l -/
def RdSet (w : World) (v : Value) (l : List Rx) : Prop :=
  ∃ (a : Option Addr) (c : Nat), v = .slice a l.length c ∧ ∀ (j : Nat) (h : j < l.length), ∃ b o, a = some ⟨b, o, none⟩ ∧
    w.cell? ⟨b, o + j * 4, none⟩ = some (.int .u64 l[j].s0) ∧ w.cell? ⟨b, o + j * 4 + 1, none⟩ = some (.int .u64 l[j].s1) ∧ w.cell? ⟨b, o + j * 4 + 2, none⟩ = some (.int .u64 l[j].s2) ∧ w.cell? ⟨b, o + j * 4 + 3, none⟩ = some (.int .u64 l[j].s3)

theorem RdSet.below {w w' : World} {v : Value} {l : List Rx} (h : RdSet w v l) (hb : Below w.heap.size w w') : RdSet w' v l := by
  obtain ⟨a, c, rfl, hc⟩ := h
  refine ⟨a, c, rfl, fun j hj => ?_⟩
  obtain ⟨b, o, ha, h0, h1, h2, h3⟩ := hc j hj
  have hlt := World.block_lt_of_cell? w _ h0
  have hk : ∀ p, w'.cell? ⟨b, p, none⟩ = w.cell? ⟨b, p, none⟩ := fun p => hb.cell (p := ⟨b, p, none⟩) hlt
  exact ⟨b, o, ha, by rw [hk]; exact h0, by rw [hk]; exact h1, by rw [hk]; exact h2, by rw [hk]; exact h3⟩
theorem RdSet.shape {w : World} {v : Value} {l : List Rx} (h : RdSet w v l) : ∃ a c, v = .slice a l.length c := by
  obtain ⟨a, c, rfl, _⟩ := h
  exact ⟨a, c, rfl⟩

theorem flat4_len (l : List Rx) : (l.flatMap setCells).length = l.length * 4 := by
  induction l with
  | nil => rfl
  | cons x r ih => simp [setCells, ih]; omega
theorem flat4_get (l : List Rx) (j : Nat) (hj : j < l.length) (i : Nat) (hi : i < 4) : (l.flatMap setCells)[j * 4 + i]? = (setCells l[j])[i]? := by
  induction l generalizing j with
  | nil => cases hj
  | cons x r ih =>
    cases j with
    | zero =>
      rw [List.flatMap_cons, List.getElem?_append_left (by simp [setCells]; omega)]
      simp
    | succ j =>
      rw [List.flatMap_cons, List.getElem?_append_right (by simp [setCells]; omega)]
      have e : (j + 1) * 4 + i - (setCells x).length = j * 4 + i := by simp [setCells]; omega
      rw [e, ih j (by simpa using hj)]
      simp
theorem OwSet.rd {w : World} {B : Nat} {v : Value} {l : List Rx} (h : OwSet w B v l) : RdSet w v l := by
  rcases h.2 with ⟨rfl, h0⟩ | ⟨g, cap, cur, rfl, hb, hg, hnc, hcm, hcs, htake⟩
  · have : l = [] := List.eq_nil_of_length_eq_zero h0
    subst this
    exact ⟨none, 0, rfl, fun j h => by cases h⟩
  · refine ⟨_, cap, rfl, fun j hj => ⟨g, 0, rfl, ?_⟩⟩
    have hc : ∀ i, i < 4 → w.cell? ⟨g, j * 4 + i, none⟩ = (setCells l[j])[i]? := fun i hi => by
      rw [World.ownsRow.cellAt h (j * 4 + i) (by omega), flat4_get l j hj i hi]
    refine ⟨?_, ?_, ?_, ?_⟩
    · rw [Nat.zero_add]; exact hc 0 (by omega)
    · rw [Nat.zero_add]; exact hc 1 (by omega)
    · rw [Nat.zero_add]; exact hc 2 (by omega)
    · rw [Nat.zero_add]; exact hc 3 (by omega)
theorem OwSet.below {w w' : World} {B C : Nat} {v : Value} {l : List Rx} (h : OwSet w B v l) (hb : Below C w w') (hC : w.heap.size ≤ C) : OwSet w' B v l := by
  refine ⟨h.1, ?_⟩
  rcases h.2 with h2 | ⟨g, cap, cur, hv, hg, hh, r⟩
  · exact Or.inl h2
  · exact Or.inr ⟨g, cap, cur, hv, hg, by rw [hb.block g (by have := (Array.getElem?_eq_some_iff.1 hh).1; omega)]; exact hh, r⟩
theorem OwSet.shape {w : World} {B : Nat} {v : Value} {l : List Rx} (h : OwSet w B v l) : ∃ a c, v = .slice a l.length c := h.rd.shape
theorem OwSet_nil (w : World) (B : Nat) : OwSet w B (.slice none 0 0) [] := World.ownsRow_nil w B _ 4
theorem OwSet_empty (w : World) : OwSet (w.alloc (.cells #[] 56)) w.heap.size (.slice (some ⟨w.heap.size, 0, none⟩) 0 0) [] :=
  World.ownsRow_made w #[] 0 (Nat.le_refl _) (by simp [maxLen]) rfl

theorem iSet : (Try.prog.info? 56).map (fun i => (i.zero, i.size, i.bytes)) = some (some (.agg #[.int .u64 0, .int .u64 0, .int .u64 0, .int .u64 0]), 4, 32) := by kernel_rfl
theorem uSets : Try.prog.underlying 28 = some (.slice 56) := by kernel_rfl

/-- 's = append(s, set)', s of the call's own -/
theorem wpList_append_set {w : World} {ops : Array Oper} {rest : List Oper} {o : Oper} {a : Act} {Q : Exit → Act → World → Prop} (hgd : o.guard = none) (s x : Operand)
    (ho : o.op = .call { callee := .builtin .append, args := #[s, x], argTypes := #[28, 28] })
    (B : Nat) (v : Value) (l : List Rx) (hs : a.eval s = v) (hown : OwSet w B v l) (y : Rx) (hx : a.eval x = .slice (some ⟨w.heap.size, 0, none⟩) 1 1)
    (hl : l.length ≤ 1000000) (hB : B ≤ w.heap.size)
    (h : ∀ v' w', OwSet w' B v' (l ++ [y]) → Below B w w' → wpList Try.prog ops Q rest (a.put o.dst v') w') :
    wpList Try.prog ops Q (o :: rest) a (w.alloc (.cells #[.int .u64 y.s0, .int .u64 y.s1, .int .u64 y.s2, .int .u64 y.s3] 56)) := by
  obtain ⟨i0, hi, hz0, hz1, hz2⟩ := info_parts iSet
  have hown' := World.ownsRow.alloc hown (.cells #[.int .u64 y.s0, .int .u64 y.s1, .int .u64 y.s2, .int .u64 y.s3] 56)
  refine wpList_append_own _ hgd s x 28 ho B 56 i0 _ 4 32 uSets hi hz0 hz1 hz2 rfl (by decide) v l.length (l.flatMap setCells) hs hown'
    ⟨w.heap.size, 0, none⟩ 1 1 (setCells y) hx rfl ?_ ?_ (by simp [maxLen]; omega) (by omega) (by simp; omega) ?_
  · intro j u hu
    have hadd : (⟨w.heap.size, 0, none⟩ : Addr).add j = ⟨w.heap.size, j, none⟩ := by unfold Addr.add; split <;> simp_all
    rw [hadd, World.cell?_alloc_at _ _ _ _ rfl]
    rw [← hu]
    simp [setCells]
  · intro u hu
    simp [setCells] at hu
    rcases hu with rfl | rfl | rfl | rfl <;> rfl
  · intro v' w' hown2 hgrow _
    refine h v' w' ?_ ?_
    · unfold OwSet
      rw [List.length_append, List.flatMap_append]
      simpa using hown2
    · exact ((Below.refl B w).alloc hB _).grown hgrow (by simp; omega) fun k hk => (World.ownsRow.lt hown' k hk).1
end Go.Proofs.Ythcckhpogmlgjaa

/-
  The package spot: union, behind, set, cat.
-/
namespace Go.Proofs.Ythcckhpogmlgjaa
open Go.RowKit
set_option linter.unusedVariables false

set_option maxHeartbeats 1000000 in
theorem spot_union_any (v u : Value) (l m : List Int) (w : World) (hv : RdI w v l) (hu : RdI w u m) (hl : l.length + m.length ≤ 10000000) :
    Calls Try.prog 48 #[v, u] w fun e w' => ∃ v', e = .returned v' ∧ OwI w' w.heap.size v' (riseL (l ++ m)) ∧ Below w.heap.size w w' := by
  go_enter Try.func48, Try.ntmps48
  go_wp2_with fail
  refine (clone_any _ _ _ hv (by omega)).mono ?_
  rintro e w1 ⟨v1, rfl, hown1, hb1⟩
  have hu1 := hu.below hb1
  have hsz := hb1.size
  clear hu hv
  go_wp2_with (at_builtin; refine wpList_append_R eInt rfl _ _ rfl w.heap.size _ _ _ _ rfl hown1 rfl hu1 (fun _ => rfl) hl hsz ?_; intro v2 w2 hown2 hb2)
  have hB2 := hb1.trans hb2
  clear hown1 hu1 hb1 hb2
  refine (sort_any _ _ w.heap.size _ hown2 (by rw [List.length_append]; omega) hB2.size).mono ?_
  rintro e w3 ⟨rfl, hown3, hb3⟩
  have hB3 := hB2.trans hb3
  clear hown2 hB2 hb3
  go_wp2_with fail
  refine (compact_any _ _ w.heap.size _ hown3 (by rw [sortL_length, List.length_append]; omega)).mono ?_
  rintro e w4 ⟨v4, rfl, hown4, hb4⟩
  go_wp2_with fail
  go_ret
  exact ⟨_, rfl, hown4, hB3.trans hb4⟩

/-- a block of the rows and the struct that 'over' writes to -/
def Touch (w : World) (k : Nat) : Prop := ∃ cs t, w.heap[k]? = some (.cells cs t (0, 0)) ∧ (t = 71 ∨ t = 30 ∨ t = 56)
/-- below X all is as it was; and of what there was nothing but those blocks has turned -/
structure Fr (X : Nat) (w w' : World) : Prop where
  os : w'.os = w.os
  tape : w'.tape = w.tape
  output : w'.output = w.output
  size : w.heap.size ≤ w'.heap.size
  block : ∀ k, k < w.heap.size → (k < X ∨ ¬ Touch w k) → w'.heap[k]? = w.heap[k]?
theorem Fr.refl (X : Nat) (w : World) : Fr X w w := ⟨rfl, rfl, rfl, Nat.le_refl _, fun _ _ _ => rfl⟩
theorem Fr.trans {X : Nat} {a b c : World} (h : Fr X a b) (k : Fr X b c) : Fr X a c :=
  ⟨k.os.trans h.os, k.tape.trans h.tape, k.output.trans h.output, Nat.le_trans h.size k.size, fun i hi hx => by
    have e := h.block i hi hx
    refine (k.block i (Nat.lt_of_lt_of_le hi h.size) ?_).trans e
    rcases hx with hx | hx
    · exact Or.inl hx
    · right
      unfold Touch at hx ⊢
      rw [e]
      exact hx⟩
theorem Fr.of_below {X : Nat} {w w' : World} (h : Below w.heap.size w w') : Fr X w w' := ⟨h.os, h.tape, h.output, h.size, fun k hk _ => h.block k hk⟩
theorem Fr.below {X : Nat} {w w' : World} (h : Fr X w w') (hX : X ≤ w.heap.size) : Below X w w' := ⟨h.os, h.tape, h.output, h.size, fun k hk => h.block k (by omega) (Or.inl hk)⟩
theorem Fr.drewN {X : Nat} {w w' : World} (h : Fr X w w') (n : Nat) : Fr X w (w'.drewN n) := ⟨h.os, h.tape, h.output, h.size, h.block⟩
/-- a block of another type -/
theorem Fr.keep {X : Nat} {w w' : World} (h : Fr X w w') {k : Nat} {cs : Array Value} {t : TypeId} (hk : w.heap[k]? = some (.cells cs t (0, 0))) (h1 : t ≠ 71) (h2 : t ≠ 30) (h3 : t ≠ 56) : w'.heap[k]? = some (.cells cs t (0, 0)) := by
  rw [h.block k (Array.getElem?_eq_some_iff.1 hk).1 (Or.inr ?_)]
  · exact hk
  · rintro ⟨cs', t', e, ht⟩
    rw [hk] at e
    cases e
    rcases ht with rfl | rfl | rfl
    · exact h1 rfl
    · exact h2 rfl
    · exact h3 rfl
theorem OwI.fr {X B : Nat} {w w' : World} {v : Value} {l : List Int} (h : OwI w B v l) (hf : Fr X w w') : OwI w' B v l := by
  refine ⟨h.1, ?_⟩
  rcases h.2 with h2 | ⟨g, cap, cur, hv, hg, hh, r⟩
  · exact Or.inl h2
  · exact Or.inr ⟨g, cap, cur, hv, hg, hf.keep hh (by decide) (by decide) (by decide), r⟩
/-- a store into a block of those types, from X on -/
theorem Fr.setCell {X : Nat} {w0 w : World} (h : Fr X w0 w) {g i : Nat} {cs : Array Value} {t : TypeId} (hg : w.heap[g]? = some (.cells cs t (0, 0))) (ht : t = 71 ∨ t = 30 ∨ t = 56) (hX : X ≤ g) (u : Value) : Fr X w0 (w.setCell ⟨g, i, none⟩ u) :=
  h.trans ⟨rfl, rfl, rfl, by simp [World.setCell], fun k hk hx => by
    refine Below.heap_setCell w ⟨g, i, none⟩ u k ?_
    rintro rfl
    rcases hx with hx | hx
    · omega
    · exact hx ⟨cs, t, hg, ht⟩⟩

/-- the struct x of 'over': its sets, and what follows each -/
def AllAt (w : World) (X : Nat) (vs vf : Value) (fvs : List Value) (z : List Value) (sets : List Rx) (fol : List (List Int)) : Prop :=
  w.heap[X]? = some (.cells (vs :: vf :: z).toArray 71 (0, 0)) ∧ OwSet w X vs sets ∧ w.ownsRow X 30 1 vf fol.length fvs ∧
  ∀ (i : Nat) (v : Value) (l : List Int), fvs[i]? = some v → fol[i]? = some l → OwI w X v l
section
variable {w w' : World} {X : Nat} {vs vf : Value} {fvs z : List Value} {sets : List Rx} {fol : List (List Int)}
theorem AllAt.lt (h : AllAt w X vs vf fvs z sets fol) : X < w.heap.size := (Array.getElem?_eq_some_iff.1 h.1).1
theorem own_below {e : TypeId} {size n B : Nat} {v : Value} {xs : List Value} (h : w.ownsRow B e size v n xs) (hb : Below w.heap.size w w') : w'.ownsRow B e size v n xs := by
  refine ⟨h.1, ?_⟩
  rcases h.2 with h2 | ⟨g, cap, cur, hv, hg, hh, r⟩
  · exact Or.inl h2
  · exact Or.inr ⟨g, cap, cur, hv, hg, by rw [hb.block g (Array.getElem?_eq_some_iff.1 hh).1]; exact hh, r⟩
theorem AllAt.below (h : AllAt w X vs vf fvs z sets fol) (hb : Below w.heap.size w w') : AllAt w' X vs vf fvs z sets fol :=
  ⟨by rw [hb.block X h.lt]; exact h.1, own_below h.2.1 hb, own_below h.2.2.1 hb, fun i v l hv hl => own_below (h.2.2.2 i v l hv hl) hb⟩
theorem AllAt.drewN (h : AllAt w X vs vf fvs z sets fol) (n : Nat) : AllAt (w.drewN n) X vs vf fvs z sets fol := h
/-- the row of what follows, spelt out -/
theorem AllAt.row (h : AllAt w X vs vf fvs z sets fol) (i : Nat) (hi : i < fol.length) : ∃ g cap cs v, vf = .slice (some ⟨g, 0, none⟩) fol.length cap ∧ w.heap[g]? = some (.cells cs 30 (0, 0)) ∧ X ≤ g ∧ g ≠ X ∧
    fvs[i]? = some v ∧ w.cell? ⟨g, i, none⟩ = some v ∧ w.frozen? ⟨g, i, none⟩ = false ∧ fol.length ≤ cap := by
  have hown := h.2.2.1
  rcases hown.2 with ⟨_, h0⟩ | ⟨g, cap, cur, rfl, hg, hh, hnc, hcm, hcs, htake⟩
  · omega
  · have hl : fvs.length = fol.length := by simpa using hown.1
    have hv : fvs[i]? = some (fvs[i]'(by omega)) := List.getElem?_eq_getElem (by omega)
    refine ⟨g, cap, cur, _, rfl, hh, hg, ?_, hv, ?_, World.ownsRow.frozenAt hown i, hnc⟩
    · rintro rfl
      rw [h.1] at hh
      cases hh
    · rw [World.ownsRow.cellAt hown i (by omega), hv]
theorem AllAt.stored (h : AllAt w X vs vf fvs z sets fol) {g cap : Nat} (hvf : vf = .slice (some ⟨g, 0, none⟩) fol.length cap) {cs : Array Value} (hg : w.heap[g]? = some (.cells cs 30 (0, 0))) (i : Nat) (hi : i < fol.length) (u : Value) (l : List Int) (hu : OwI w X u l) :
    AllAt (w.setCell ⟨g, i, none⟩ u) X vs vf (fvs.set i u) z sets (fol.set i l) := by
  have other : ∀ k, k ≠ g → (w.setCell ⟨g, i, none⟩ u).heap[k]? = w.heap[k]? := fun k hk => Below.heap_setCell w ⟨g, i, none⟩ u k hk
  have hn : ∀ {e : TypeId} {size n : Nat} {v : Value} {xs : List Value}, e ≠ 30 → w.ownsRow X e size v n xs → (w.setCell ⟨g, i, none⟩ u).ownsRow X e size v n xs := by
    intro e size n v xs he hown
    refine ⟨hown.1, ?_⟩
    rcases hown.2 with h2 | ⟨g', cap', cur, hv, hg', hh, r⟩
    · exact Or.inl h2
    · refine Or.inr ⟨g', cap', cur, hv, hg', ?_, r⟩
      rw [other g' (by rintro rfl; rw [hg] at hh; cases hh; exact he rfl)]
      exact hh
  refine ⟨?_, hn (by decide) h.2.1, ?_, ?_⟩
  · rw [other X (by rintro rfl; rw [h.1] at hg; cases hg)]
    exact h.1
  · have := (World.ownsRow.stored (hvf ▸ h.2.2.1) i u).1
    rw [List.length_set]
    rw [hvf]
    exact this
  · intro j v l' hv hl'
    by_cases e : j = i
    · subst e
      rw [List.getElem?_set_self (by have := (List.getElem?_eq_some_iff.1 hv).1; simpa using this)] at hv
      rw [List.getElem?_set_self hi] at hl'
      cases hv; cases hl'
      exact hn (by decide) hu
    · rw [List.getElem?_set_ne (by omega)] at hv hl'
      exact hn (by decide) (h.2.2.2 j v l' hv hl')
end

/-- what 'behind' makes of what follows -/
def updF (b : List Int) (fol : List (List Int)) (i : Int) : List (List Int) := fol.set i.toNat (riseL (fol.getD i.toNat [] ++ b))
theorem updF_len (b : List Int) (fol : List (List Int)) (i : Int) : (updF b fol i).length = fol.length := by simp [updF]
theorem foldl_updF_len (b : List Int) (l : List Int) (fol : List (List Int)) : (l.foldl (updF b) fol).length = fol.length := by
  induction l generalizing fol with
  | nil => rfl
  | cons x l ih => rw [List.foldl_cons, ih, updF_len]

def BhRel (X : Nat) (w0 : World) (vs vf : Value) (z : List Value) (sets : List Rx) (fol : List (List Int)) (la lb : List Int) (i : Value) (wr : World) : Prop :=
  ∃ k : Nat, k ≤ la.length ∧ i = .int .i64 k ∧ Fr X w0 wr ∧ ∃ fvs, AllAt wr X vs vf fvs z sets ((la.take k).foldl (updF lb) fol)

/-- small lists: rising, and below N -/
def SmF (N : Nat) (fol : List (List Int)) : Prop := ∀ l ∈ fol, Rising l ∧ ∀ x ∈ l, 0 ≤ x ∧ x < N
theorem rising_at (l : List Int) (h : Rising l) (h0 : ∀ x ∈ l, 0 ≤ x) : ∀ (j : Nat) (hj : j < l.length), (j : Int) ≤ l[j] := by
  intro j
  induction j with
  | zero => intro hj; exact h0 _ (List.getElem_mem hj)
  | succ j ih =>
    intro hj
    have h1 := ih (by omega)
    have h2 := List.pairwise_iff_getElem.1 h j (j + 1) (by omega) hj (by omega)
    omega
theorem rising_len (N : Nat) (l : List Int) (h : Rising l) (h0 : ∀ x ∈ l, 0 ≤ x ∧ x < N) : l.length ≤ N := by
  by_cases hn : l.length = 0
  · omega
  · have h1 := rising_at l h (fun x hx => (h0 x hx).1) (l.length - 1) (by omega)
    have h2 := (h0 _ (List.getElem_mem (show l.length - 1 < l.length by omega))).2
    omega
theorem SmF.upd {N : Nat} {fol : List (List Int)} (h : SmF N fol) (b : List Int) (hb : ∀ x ∈ b, 0 ≤ x ∧ x < N) (i : Int) : SmF N (updF b fol i) := by
  intro l hl
  unfold updF at hl
  rcases List.mem_or_eq_of_mem_set hl with hl | rfl
  · exact h l hl
  · refine ⟨riseL_rise _, fun x hx => ?_⟩
    rw [riseL_mem, List.mem_append] at hx
    rcases hx with hx | hx
    · have hd : fol.getD i.toNat [] ∈ fol ∨ fol.getD i.toNat [] = [] := by
        rw [List.getD_eq_getElem?_getD]
        cases hf : fol[i.toNat]? with
        | none => right; rfl
        | some y => left; exact List.mem_of_getElem? hf
      rcases hd with hd | hd
      · exact (h _ hd).2 x hx
      · rw [hd] at hx; cases hx
    · exact hb x hx
theorem SmF.fold {N : Nat} {fol : List (List Int)} (h : SmF N fol) (b : List Int) (hb : ∀ x ∈ b, 0 ≤ x ∧ x < N) (la : List Int) : SmF N (la.foldl (updF b) fol) := by
  induction la generalizing fol with
  | nil => exact h
  | cons x la ih => exact ih (h.upd b hb x)

theorem bh_next {X : Nat} {w wr w1 : World} {vs : Value} {fvs z : List Value} {sets : List Rx} {fol : List (List Int)} {g cap : Nat} {cs : Array Value} {u : Value} (hfr : Fr X w wr) (hall : AllAt wr X vs (.slice (some ⟨g, 0, none⟩) fol.length cap) fvs z sets fol)
    (hg : wr.heap[g]? = some (.cells cs 30 (0, 0))) (hXg : X ≤ g) (ii : Nat) (hi : ii < fol.length) (lb : List Int) (hb : Below wr.heap.size wr.drew w1) (hown : OwI w1 wr.heap.size u (riseL (fol[ii] ++ lb))) :
    Fr X w (w1.setCell ⟨g, ii, none⟩ u) ∧ AllAt (w1.setCell ⟨g, ii, none⟩ u) X vs (.slice (some ⟨g, 0, none⟩) fol.length cap) (fvs.set ii u) z sets (updF lb fol ii) := by
  have hb' : Below wr.heap.size wr w1 := ⟨hb.os, hb.tape, hb.output, hb.size, hb.block⟩
  have hg1 : w1.heap[g]? = some (.cells cs 30 (0, 0)) := by rw [hb'.block g (Array.getElem?_eq_some_iff.1 hg).1]; exact hg
  refine ⟨(hfr.trans (Fr.of_below hb')).setCell hg1 (Or.inr (Or.inl rfl)) hXg u, ?_⟩
  have h := (hall.below hb').stored rfl hg1 ii hi u (riseL (fol[ii] ++ lb)) (hown.mono (by have := hall.lt; omega))
  have e : updF lb fol ii = fol.set ii (riseL (fol[ii] ++ lb)) := by
    unfold updF
    rw [Int.toNat_natCast, List.getD_eq_getElem?_getD, List.getElem?_eq_getElem hi]
    rfl
  rw [e]
  exact h

set_option maxHeartbeats 2000000 in
theorem behind_any (X N : Nat) (va vb vs vf : Value) (fvs z : List Value) (sets : List Rx) (fol : List (List Int)) (la lb : List Int) (w : World) (hall : AllAt w X vs vf fvs z sets fol) (hz : z.length = 4)
    (ha : OwI w X va la) (hb : OwI w X vb lb) (hN : N ≤ 100000) (hsm : SmF N fol) (hlb : ∀ x ∈ lb, 0 ≤ x ∧ x < N) (hll : lb.length ≤ N) (hla : ∀ x ∈ la, 0 ≤ x ∧ x < fol.length) (hlal : la.length ≤ 100000) :
    Calls Try.prog 49 #[.pointer (some ⟨X, 0, none⟩), va, vb] w fun e w' => e = .returned (.tuple #[]) ∧ Fr X w w' ∧ ∃ fvs', AllAt w' X vs vf fvs' z sets (la.foldl (updF lb) fol) := by
  obtain ⟨a1, c1, rfl⟩ := ha.shape
  go_enter Try.func49, Try.ntmps49
  go_wp2_with fail
  go_loopw [10] (BhRel X w vs vf z sets fol la lb) (fun i _ => la.length - (intOf i).toNat)
  case atStart => exact ⟨0, by omega, rfl, Fr.refl _ _, fvs, hall⟩
  case round =>
    obtain ⟨k, hk, rfl, hfr, fvs1, hall1⟩ := hrel
    have ha1 := ha.fr hfr
    have hb1 := hb.fr hfr
    by_cases hlt : k < la.length
    · obtain ⟨b0, o0, rfl, hcell⟩ := ha1.rd.at k hlt
      have hin := hla _ (List.getElem_mem hlt)
      have Hsm : SmF N ((la.take k).foldl (updF lb) fol) := hsm.fold lb hlb _
      have Hlen : ((la.take k).foldl (updF lb) fol).length = fol.length := foldl_updF_len _ _ _
      obtain ⟨ii, hii⟩ : ∃ ii : Nat, la[k] = (ii : Int) := ⟨la[k].toNat, by omega⟩
      have Hts : Hid ((la.take (k + 1)).foldl (updF lb) fol = updF lb ((la.take k).foldl (updF lb) fol) la[k]) := Lib.hid (by
        rw [List.take_succ_eq_append_getElem hlt, List.foldl_append]; rfl)
      rw [hii] at hin Hts hcell
      clear hii
      generalize (la.take k).foldl (updF lb) fol = fol1 at hall1 Hsm Hlen Hts
      have hilt : ii < fol1.length := by omega
      obtain ⟨g, cap, cs, v, hvf, hg, hXg, hgX, hv, hc, hfz, hcap⟩ := hall1.row ii hilt
      have hlv : fol1[ii]? = some (fol1[ii]'hilt) := List.getElem?_eq_getElem hilt
      have hov := hall1.2.2.2 ii v _ hv hlv
      have hrise := Hsm _ (List.getElem_mem hilt)
      have hlen := rising_len N _ hrise.1 hrise.2
      have hX1 : wr.cell? ⟨X, 1, none⟩ = some vf := by simp [World.cell?, hall1.1]
      have hXlt := hall1.lt
      have hglt := (Array.getElem?_eq_some_iff.1 hg).1
      have Hlen' := Lib.hid Hlen; clear Hlen
      have Hall := Lib.hid hall1; clear hall1
      subst hvf
      have hU := spot_union_any v vb (fol1[ii]'hilt) lb
      have HU := Lib.hid hU; clear hU
      have Hvb := Lib.hid hb1.rd
      have Hov := Lib.hid hov.rd
      have Hfr := Lib.hid hfr
      clear ha1 hb1 hv hlv hrise hall hsm hfr hov
      have hcast : (ii : Int) < (fol1.length : Int) := by omega
      go_wp2_with fail
      go_region_with ((go_at_call 48; refine (HU.out _ ?_ ?_ ?_).mono ?_; exact Hov.out; exact Hvb.out; omega; rintro e w1 ⟨v1, rfl, hown1, hb1⟩; obtain ⟨a9, c9, rfl⟩ := hown1.shape; (have hX1' : w1.cell? ⟨X, 1, none⟩ = some (.slice (some ⟨g, 0, none⟩) fol1.length cap) := (hb1.cell (p := ⟨X, 1, none⟩) hXlt).trans hX1); (have hc' : w1.cell? ⟨g, ii, none⟩ = some v := (hb1.cell (p := ⟨g, ii, none⟩) hglt).trans hc); (have hfz' : w1.frozen? ⟨g, ii, none⟩ = false := (hb1.frozen (p := ⟨g, ii, none⟩) hglt).trans hfz)))
      all_goals
        go_wp2_with fail
        go_roundw
        case rel =>
          obtain ⟨h1, h2⟩ := bh_next Hfr.out Hall.out hg hXg ii hilt lb (by exact hb1) (by exact hown1)
          exact ⟨k + 1, by omega, by go_num, h1, _, by rw [Hts.out]; exact h2⟩
        case measure => simp [intOf]; omega
    · have e : la.take k = la := List.take_of_length_le (by omega)
      rw [e] at hall1
      go_wp2_with fail
      go_end0
      exact ⟨rfl, hfr, fvs1, hall1⟩
end Go.Proofs.Ythcckhpogmlgjaa

/-
  The package spot: the pure machine that over is.
-/
namespace Go.Proofs.Ythcckhpogmlgjaa
open Go.RowKit
set_option linter.unusedVariables false
def pickU (f : Bool) (l m r : List Int) : List Int := if f then riseL (l ++ m) else r
/-- a part: where its spellings begin and end, whether it may be empty, how many spots it has -/
structure Pt where
  first : List Int
  last : List Int
  free : Bool
  n : Int
/-- what over has gone over: its sets, what follows each, the parts at hand, the last one first -/
structure SM where
  sets : List Rx
  fol : List (List Int)
  st : List Pt
def stepS (s : SM) (x : Rx) : SM :=
  if x.kind = 1 then ⟨s.sets ++ [x], s.fol ++ [[]], ⟨[(s.sets.length : Int)], [(s.sets.length : Int)], false, 1⟩ :: s.st⟩
  else if x.kind = 2 then ⟨s.sets, s.fol, ⟨[], [], true, 0⟩ :: s.st⟩
  else if x.kind = 3 then match s.st with
    | b :: a :: r => ⟨s.sets, a.last.foldl (updF b.first) s.fol, ⟨pickU a.free a.first b.first a.first, pickU b.free a.last b.last b.last, a.free && b.free, a.n + b.n⟩ :: r⟩
    | _ => s
  else if x.kind = 4 then match s.st with
    | b :: a :: r => ⟨s.sets, s.fol, ⟨riseL (a.first ++ b.first), riseL (a.last ++ b.last), a.free || b.free, a.n + b.n⟩ :: r⟩
    | _ => s
  else match s.st with
    | a :: r => ⟨s.sets, if x.kind = 7 then s.fol else a.last.foldl (updF a.first) s.fol, ⟨a.first, a.last, a.free || decide (x.kind ≠ 6), a.n⟩ :: r⟩
    | _ => s
def runS (l : List Rx) : SM := l.foldl stepS ⟨[], [], []⟩
theorem runS_succ (l : List Rx) (k : Nat) (hk : k < l.length) : runS (l.take (k + 1)) = stepS (runS (l.take k)) l[k] := by
  unfold runS
  rw [List.take_succ_eq_append_getElem hk, List.foldl_append]
  rfl
def PtOk (m : Nat) (p : Pt) : Prop := (Rising p.first ∧ ∀ x ∈ p.first, 0 ≤ x ∧ x < m) ∧ (Rising p.last ∧ ∀ x ∈ p.last, 0 ≤ x ∧ x < m) ∧ 0 ≤ p.n
def sumN : List Pt → Int
  | [] => 0
  | p :: r => p.n + sumN r
structure SMok (s : SM) : Prop where
  len : s.fol.length = s.sets.length
  fol : SmF s.sets.length s.fol
  pts : ∀ p ∈ s.st, PtOk s.sets.length p
  sum : sumN s.st ≤ s.sets.length
theorem sumN_nonneg (m : Nat) (l : List Pt) (h : ∀ p ∈ l, PtOk m p) : 0 ≤ sumN l := by
  induction l with
  | nil => simp [sumN]
  | cons p r ih =>
    have := ih (fun q hq => h q (by simp [hq]))
    have := (h p (by simp)).2.2
    simp [sumN]
    omega
theorem SmF.mono {N M : Nat} {fol : List (List Int)} (h : SmF N fol) (hm : N ≤ M) : SmF M fol := fun l hl => ⟨(h l hl).1, fun x hx => by have := (h l hl).2 x hx; omega⟩
theorem PtOk.mono {N M : Nat} {p : Pt} (h : PtOk N p) (hm : N ≤ M) : PtOk M p := ⟨⟨h.1.1, fun x hx => by have := h.1.2 x hx; omega⟩, ⟨h.2.1.1, fun x hx => by have := h.2.1.2 x hx; omega⟩, h.2.2⟩
theorem riseL_ok {m : Nat} {a b : List Int} (ha : ∀ x ∈ a, 0 ≤ x ∧ x < (m : Int)) (hb : ∀ x ∈ b, 0 ≤ x ∧ x < (m : Int)) : Rising (riseL (a ++ b)) ∧ ∀ x ∈ riseL (a ++ b), 0 ≤ x ∧ x < (m : Int) :=
  ⟨riseL_rise _, fun x hx => by
    rw [riseL_mem, List.mem_append] at hx
    rcases hx with hx | hx
    · exact ha x hx
    · exact hb x hx⟩
theorem stepS_ok (s : SM) (x : Rx) (h : SMok s) : SMok (stepS s x) ∧ (stepS s x).sets.length ≤ s.sets.length + 1 := by
  obtain ⟨sets, fol, st⟩ := s
  obtain ⟨hl, hf, hp, hs⟩ := h
  simp only at hl hf hp hs
  unfold stepS
  simp only
  by_cases h1 : x.kind = 1
  · rw [if_pos h1]
    have hm : sets.length ≤ (sets ++ [x]).length := by simp
    refine ⟨⟨by simp [hl], ?_, ?_, ?_⟩, by simp⟩
    · intro l hl'
      simp only [List.mem_append, List.mem_singleton] at hl'
      rcases hl' with hl' | rfl
      · exact hf.mono hm l hl'
      · exact ⟨List.Pairwise.nil, fun x hx => by cases hx⟩
    · intro p hp'
      simp only [List.mem_cons] at hp'
      rcases hp' with rfl | hp'
      · refine ⟨⟨by simp [Rising], fun x hx => ?_⟩, ⟨by simp [Rising], fun x hx => ?_⟩, by simp⟩
        · simp at hx; simp; omega
        · simp at hx; simp; omega
      · exact (hp p hp').mono hm
    · simp [sumN]
      omega
  · rw [if_neg h1]
    by_cases h2 : x.kind = 2
    · rw [if_pos h2]
      refine ⟨⟨hl, hf, ?_, by simpa [sumN] using hs⟩, by simp⟩
      intro p hp'
      simp only [List.mem_cons] at hp'
      rcases hp' with rfl | hp'
      · exact ⟨⟨List.Pairwise.nil, fun x hx => by cases hx⟩, ⟨List.Pairwise.nil, fun x hx => by cases hx⟩, by simp⟩
      · exact hp p hp'
    · rw [if_neg h2]
      by_cases h3 : x.kind = 3
      · rw [if_pos h3]
        match st, hp, hs with
        | b :: a :: r, hp, hs =>
          have pa := hp a (by simp)
          have pb := hp b (by simp)
          refine ⟨⟨?_, ?_, ?_, ?_⟩, by simp⟩
          · simp only [foldl_updF_len]; exact hl
          · exact hf.fold _ pb.1.2 _
          · intro p hp'
            simp only [List.mem_cons] at hp'
            rcases hp' with rfl | hp'
            · refine ⟨?_, ?_, by have := pa.2.2; have := pb.2.2; simp only; omega⟩
              · unfold pickU; dsimp only; split
                · exact riseL_ok pa.1.2 pb.1.2
                · exact pa.1
              · unfold pickU; dsimp only; split
                · exact riseL_ok pa.2.1.2 pb.2.1.2
                · exact pb.2.1
            · exact hp p (by simp [hp'])
          · simp [sumN] at hs ⊢; omega
        | [], hp, hs => exact ⟨⟨hl, hf, hp, hs⟩, by simp⟩
        | [_], hp, hs => exact ⟨⟨hl, hf, hp, hs⟩, by simp⟩
      · rw [if_neg h3]
        by_cases h4 : x.kind = 4
        · rw [if_pos h4]
          match st, hp, hs with
          | b :: a :: r, hp, hs =>
            have pa := hp a (by simp)
            have pb := hp b (by simp)
            refine ⟨⟨hl, hf, ?_, ?_⟩, by simp⟩
            · intro p hp'
              simp only [List.mem_cons] at hp'
              rcases hp' with rfl | hp'
              · exact ⟨riseL_ok pa.1.2 pb.1.2, riseL_ok pa.2.1.2 pb.2.1.2, by have := pa.2.2; have := pb.2.2; simp only; omega⟩
              · exact hp p (by simp [hp'])
            · simp [sumN] at hs ⊢; omega
          | [], hp, hs => exact ⟨⟨hl, hf, hp, hs⟩, by simp⟩
          | [_], hp, hs => exact ⟨⟨hl, hf, hp, hs⟩, by simp⟩
        · rw [if_neg h4]
          match st, hp, hs with
          | a :: r, hp, hs =>
            have pa := hp a (by simp)
            refine ⟨⟨?_, ?_, ?_, ?_⟩, by simp⟩
            · simp only; split
              · exact hl
              · rw [foldl_updF_len]; exact hl
            · simp only; split
              · exact hf
              · exact hf.fold _ pa.1.2 _
            · intro p hp'
              simp only [List.mem_cons] at hp'
              rcases hp' with rfl | hp'
              · exact ⟨pa.1, pa.2.1, pa.2.2⟩
              · exact hp p (by simp [hp'])
            · simp [sumN] at hs ⊢; omega
          | [], hp, hs => exact ⟨⟨hl, hf, hp, hs⟩, by simp⟩
theorem runS_ok (l : List Rx) (k : Nat) (hk : k ≤ l.length) : SMok (runS (l.take k)) ∧ (runS (l.take k)).sets.length ≤ k := by
  induction k with
  | zero => exact ⟨⟨rfl, fun l hl => by simp [runS] at hl, fun p hp => by simp [runS] at hp, by simp [runS, sumN]⟩, by simp [runS]⟩
  | succ k ih =>
    obtain ⟨h1, h2⟩ := ih (by omega)
    rw [runS_succ l k hk]
    have := stepS_ok _ l[k] h1
    exact ⟨this.1, by omega⟩
end Go.Proofs.Ythcckhpogmlgjaa

/-
  The package rx: of, walk, Check.
-/
namespace Go.Proofs.Ythcckhpogmlgjaa
open Go.RowKit
set_option linter.unusedVariables false

/-- a step as a value -/
def valX (x : Rx) : Value := .agg #[.int .i64 x.kind, .int .u64 x.s0, .int .u64 x.s1, .int .u64 x.s2, .int .u64 x.s3]

def partsOf (k : Int) : Int := if ofK k < 0 then 0 else ofK k
def kindOk (k : Int) : Bool := decide (0 ≤ ofK k)

set_option maxHeartbeats 1000000 in
theorem rx_of_any (k s0 s1 s2 s3 : Int) (w : World) : Calls Try.prog 78 #[.agg #[.int .i64 k, .int .u64 s0, .int .u64 s1, .int .u64 s2, .int .u64 s3]] w fun e w' =>
    e = .returned (.tuple #[.int .i64 (partsOf k), .bool (kindOk k)]) ∧ Below w.heap.size w w' := by
  have h : k = 1 ∨ k = 2 ∨ k = 3 ∨ k = 4 ∨ k = 5 ∨ k = 6 ∨ k = 7 ∨ (k ≠ 1 ∧ k ≠ 2 ∧ k ≠ 3 ∧ k ≠ 4 ∧ k ≠ 5 ∧ k ≠ 6 ∧ k ≠ 7) := by omega
  rcases h with rfl | rfl | rfl | rfl | rfl | rfl | rfl | ⟨h1, h2, h3, h4, h5, h6, h7⟩
  case inr.inr.inr.inr.inr.inr.inr =>
    have g1 : (k == 1) = false := by simpa using h1
    have g2 : (k == 2) = false := by simpa using h2
    have g3 : (k == 3) = false := by simpa using h3
    have g4 : (k == 4) = false := by simpa using h4
    have g5 : (k == 5) = false := by simpa using h5
    have g6 : (k == 6) = false := by simpa using h6
    have g7 : (k == 7) = false := by simpa using h7
    have e : ofK k = -1 := by simp [ofK, h1, h2, h3, h4, h5, h6, h7]
    have He := Lib.hid e
    clear e h1 h2 h3 h4 h5 h6 h7
    go_enter Try.func78, Try.ntmps78
    go_wp2
    go_ret2
    exact ⟨by unfold partsOf kindOk; rw [He.out]; rfl, (Below.refl _ _).alloc (Nat.le_refl _) _⟩
  all_goals
    go_enter Try.func78, Try.ntmps78
    go_wp2
    go_ret2
    exact ⟨rfl, (Below.refl _ _).alloc (Nat.le_refl _) _⟩
def WkRel (l : List Rx) (T : Int) (w : World) (p i : Value) (m : Value) (wr : World) : Prop :=
  Below w.heap.size w wr ∧ ∃ (k : Nat) (q r : Int), k ≤ l.length ∧ i = .int .i64 k ∧ p = .int .i64 q ∧ m = .int .i64 r ∧ 0 ≤ q ∧ q ≤ k ∧ 0 ≤ r ∧ r ≤ k ∧ checkLoop (l.drop k) q = T

/-- what walk returns, as far as Check asks: the number of parts, and what is wrong -/
def WalkEnd (l : List Rx) (T : Int) (w : World) (e : Ending) (w' : World) : Prop :=
  Below w.heap.size w w' ∧ ∃ q r u : Int, e = .returned (.tuple #[.int .i64 q, .int .i64 r, .int .i64 u]) ∧ (if u = 0 ∧ q ≠ 1 then 3 else u) = T

set_option maxHeartbeats 2000000 in
set_option maxRecDepth 100000 in
theorem rx_walk_any (v : Value) (l : List Rx) (w : World) (hv : RdX w v l) : Calls Try.prog 58 #[v] w (WalkEnd l (checkL l) w) := by
  obtain ⟨a, c, rfl⟩ := hv.shape
  by_cases hlen : l.length ≤ 512
  · have hlen' : ¬ (512 : Int) < l.length := by omega
    obtain ⟨T, hT⟩ : ∃ T, T = checkL l := ⟨_, rfl⟩
    rw [← hT]
    have e0 : checkLoop l 0 = T := by rw [hT]; unfold checkL; rw [if_neg (by omega)]
    clear hT
    have He0 := Lib.hid e0; clear e0
    go_enter Try.func58, Try.ntmps58
    go_wp2_with fail
    go_loopw [5, 16, 6] (WkRel l T w) (fun _ i _ _ => l.length - (intOf i).toNat)
    case atStart => exact ⟨Below.refl _ _, 0, 0, 0, by omega, rfl, rfl, rfl, by omega, by omega, by omega, by omega, He0.out⟩
    case round =>
      obtain ⟨hb, k, q, r, hk, rfl, rfl, rfl, hq1, hq2, hr1, hr2, hrel⟩ := hrel
      have Hrel := Lib.hid hrel; clear hrel
      by_cases hlt : k < l.length
      · obtain ⟨_, _, _⟩ := hv.kindAt k hlt
        obtain ⟨a', c', hva, hcc⟩ := hv.below hb
        obtain ⟨b, o, hab, h0, h1, h2, h3, h4⟩ := hcc k hlt
        cases hva
        cases hab
        have Hdrop := Lib.hid (drop_cons l k hlt)
        clear hcc
        go_wp2_with fail
        refine (rx_of_any _ _ _ _ _ _).mono ?_
        rintro e1 w2 ⟨rfl, hb2⟩
        have hB2 : Below w.heap.size w w2 := (hb.alloc hb.size _).trans (hb2.mono (by have := hb.size; simp; omega))
        have hcs : ∀ i, i < 5 → w2.cell? ⟨wr.heap.size, i, none⟩ = (#[Value.int .i64 l[k].kind, .int .u64 l[k].s0, .int .u64 l[k].s1, .int .u64 l[k].s2, .int .u64 l[k].s3] : Array Value)[i]? := fun i hi => by
          rw [hb2.cell (p := ⟨wr.heap.size, i, none⟩) (by simp), World.cell?_alloc_at _ _ _ _ rfl]
        have g0 := hcs 0 (by omega)
        have g1 := hcs 1 (by omega)
        have g2 := hcs 2 (by omega)
        have g3 := hcs 3 (by omega)
        have g4 := hcs 4 (by omega)
        simp at g0 g1 g2 g3 g4
        have Hd : Hid (checkLoop (l[k] :: l.drop (k + 1)) q = T) := Lib.hid (by rw [← Hdrop.out]; exact Hrel.out)
        have hox := ofK_ge l[k].kind
        clear hcs hb2 hb h0 h1 h2 h3 h4 Hdrop Hrel hv
        by_cases hok : 0 ≤ ofK l[k].kind
        · have hok' : kindOk l[k].kind = true := decide_eq_true hok
          have hpx : partsOf l[k].kind = ofK l[k].kind := by unfold partsOf; rw [if_neg (by omega)]
          have Hr0 : Hid (¬ (l[k].kind ≠ 1 ∧ l[k].bare = false) → (if q < ofK l[k].kind then 3 else checkLoop (l.drop (k + 1)) (q - ofK l[k].kind + 1)) = T) := Lib.hid (fun hn => by
            have := Hd.out; rw [checkLoop, if_neg (by rintro (h | h); omega; exact hn h)] at this; exact this)
          rw [hok', hpx]
          clear hok' hpx
          generalize ofK l[k].kind = x at Hr0 hox hok ⊢
          obtain ⟨hx1, hx2⟩ := hox
          by_cases hx0 : x < 0
          · exact absurd hok (by omega)
          · have hx0' : 0 ≤ x := by omega
            clear hx0 hok
            by_cases hk1 : l[k].kind = 1
            · have hk2 : (l[k].kind != 1) = false := by simp [hk1]
              have Hr := Lib.hid (Hr0.out (fun h => h.1 hk1))
              clear hk1 Hd Hr0
              by_cases hq : q < x
              · have Hf := Lib.hid (show T = 3 by have := Hr.out; rw [if_pos hq] at this; exact this.symm)
                clear Hr
                go_wp2_with fail
                go_ret3
                exact ⟨hB2, 0, 0, 3, rfl, by rw [Hf.out]; rfl⟩
              · have Hf := Lib.hid (show checkLoop (l.drop (k + 1)) (q - x + 1) = T by have := Hr.out; rw [if_neg hq] at this; exact this)
                clear Hr
                have hq' : x ≤ q := by omega
                go_wp2_with fail
                go_roundw
                case rel => exact ⟨hB2, k + 1, q - x + 1, max r (q - x + 1), by omega, by go_num, by congr 1; omega, by congr 1; omega, by omega, by omega, by omega, by omega, Hf.out⟩
                case measure => simp [intOf]; omega
            · have hk2 : (l[k].kind != 1) = true := by simpa using hk1
              by_cases hbb : l[k].bare = true
              · have hb' : setEq l[k].s0 l[k].s1 l[k].s2 l[k].s3 0 0 0 0 = true := hbb
                have Hr := Lib.hid (Hr0.out (fun h => by rw [hbb] at h; cases h.2))
                clear hk1 Hd Hr0 hbb
                by_cases hq : q < x
                · have Hf := Lib.hid (show T = 3 by have := Hr.out; rw [if_pos hq] at this; exact this.symm)
                  clear Hr
                  go_wp2_with fail
                  go_ret3
                  exact ⟨hB2, 0, 0, 3, rfl, by rw [Hf.out]; rfl⟩
                · have Hf := Lib.hid (show checkLoop (l.drop (k + 1)) (q - x + 1) = T by have := Hr.out; rw [if_neg hq] at this; exact this)
                  clear Hr
                  have hq' : x ≤ q := by omega
                  go_wp2_with fail
                  go_roundw
                  case rel => exact ⟨hB2, k + 1, q - x + 1, max r (q - x + 1), by omega, by go_num, by congr 1; omega, by congr 1; omega, by omega, by omega, by omega, by omega, Hf.out⟩
                  case measure => simp [intOf]; omega
              · have hb' : setEq l[k].s0 l[k].s1 l[k].s2 l[k].s3 0 0 0 0 = false := by rw [Bool.not_eq_true] at hbb; exact hbb
                have Hf := Lib.hid (show T = 1 by have := Hd.out; rw [checkLoop, if_pos (Or.inr ⟨hk1, hb'⟩)] at this; exact this.symm)
                clear hk1 Hd Hr0 hbb
                go_wp2_with fail
                go_ret3
                exact ⟨hB2, 0, 0, 1, rfl, by rw [Hf.out]; rfl⟩
        · have hok' : kindOk l[k].kind = false := decide_eq_false hok
          have Hf := Lib.hid (show T = 1 by have := Hd.out; rw [checkLoop, if_pos (Or.inl (by omega))] at this; exact this.symm)
          rw [hok']
          clear hok' hok Hd hox
          go_wp2_with fail
          go_ret3
          exact ⟨hB2, 0, 0, 1, rfl, by rw [Hf.out]; rfl⟩
      · have e : l.drop k = [] := List.drop_eq_nil_of_le (by omega)
        have hf : (if q = 1 then 0 else 3) = T := by have := Hrel.out; rw [e, checkLoop] at this; exact this
        have Hf := Lib.hid hf
        clear hf e Hrel
        go_wp2_with fail
        go_ret3
        exact ⟨hb, q, r, 0, rfl, by rw [← Hf.out]; by_cases h : q = 1 <;> simp [h]⟩
  · have hlen' : (512 : Int) < l.length := by omega
    have e0 : checkL l = 4 := by unfold checkL; rw [if_pos (by omega)]
    rw [e0]
    clear e0
    go_enter Try.func58, Try.ntmps58
    go_wp2
    go_ret3
    exact ⟨Below.refl _ _, 0, 0, 4, rfl, rfl⟩

set_option maxHeartbeats 1000000 in
theorem rx_Check_any (v : Value) (l : List Rx) (w : World) (hv : RdX w v l) : Calls Try.prog 44 #[v] w fun e w' => e = .returned (.int .i64 (checkL l)) ∧ Below w.heap.size w w' := by
  obtain ⟨T, hT⟩ : ∃ T, checkL l = T := ⟨_, rfl⟩
  have hwalk := rx_walk_any v l w hv
  rw [hT] at hwalk ⊢
  have Hw := Lib.hid hwalk; clear hwalk hT
  go_enter Try.func44, Try.ntmps44
  go_wp2_with fail
  refine Hw.out.mono ?_
  rintro e w1 ⟨hb, q, r, u, rfl, hif⟩
  by_cases hu : u = 0
  · by_cases hq : q = 1
    · have h1 : (u == 0) = true := by simp [hu]
      have h2 : (q != 1) = false := by simp [hq]
      have Hf := Lib.hid (show u = T by rw [if_neg (by omega)] at hif; exact hif)
      clear hu hq hif
      go_wp2_with fail
      go_ret
      exact ⟨ret_i Hf.out, hb⟩
    · have h1 : (u == 0) = true := by simp [hu]
      have h2 : (q != 1) = true := by simpa using hq
      have Hf := Lib.hid (show 3 = T by rw [if_pos ⟨hu, hq⟩] at hif; exact hif)
      clear hu hq hif
      go_wp2_with fail
      go_ret
      exact ⟨ret_i Hf.out, hb⟩
  · have h1 : (u == 0) = false := by simpa using hu
    have Hf := Lib.hid (show u = T by rw [if_neg (by omega)] at hif; exact hif)
    clear hu hif
    go_wp2_with fail
    go_ret
    exact ⟨ret_i Hf.out, hb⟩
end Go.Proofs.Ythcckhpogmlgjaa

/-
  Contracts of the kit's style, told by pure values.
-/
namespace Go.Proofs.Ythcckhpogmlgjaa
open Go Go.RowKit L
set_option linter.unusedVariables false
set_option linter.unusedSimpArgs false

theorem rdX_of {Z : ZM} {w : World} {l : List Rx} {v : Value} (h : Rp Z PHeap.empty V0 w (slX l) v) : RdX w v l := by
  unfold slX at h
  generalize hx : l.map encX = xs at h
  cases h with
  | nil k a c =>
    have : l = [] := List.map_eq_nil_iff.1 hx
    subst this
    exact ⟨a, c, rfl, fun j hj => by cases hj⟩
  | sl k xs b o c g hu hlen hz hb h1 h2 =>
    subst hx
    refine ⟨_, c, by rw [List.length_map], fun j hj => ⟨b, o, rfl, ?_⟩⟩
    have hy : (l.map encX)[j]? = some (encX l[j]) := by simp [hj]
    have key : ∀ (i : Nat) (q : Value), i < 5 → (encX l[j]).cells[i]? = some (.u q) → w.cell? ⟨b, o + (j * 5 + i), none⟩ = some q := fun i q hi hq => by
      have e := flat_at hu j i _ hy hi
      rw [hq] at e
      rw [h1 _ _ e]
      have := h2 _ _ e
      rw [rpu this]
    refine ⟨?_, ?_, ?_, ?_, ?_⟩
    · have := key 0 _ (by omega) rfl; rw [show o + j * 5 = o + (j * 5 + 0) by omega]; exact this
    · have := key 1 _ (by omega) rfl; rw [show o + j * 5 + 1 = o + (j * 5 + 1) by omega]; exact this
    · have := key 2 _ (by omega) rfl; rw [show o + j * 5 + 1 + 1 = o + (j * 5 + 2) by omega]; exact this
    · have := key 3 _ (by omega) rfl; rw [show o + j * 5 + 1 + 2 = o + (j * 5 + 3) by omega]; exact this
    · have := key 4 _ (by omega) rfl; rw [show o + j * 5 + 1 + 3 = o + (j * 5 + 4) by omega]; exact this

theorem unionO_ok (l m : List Int) (hl : l.length + m.length ≤ 10000000) : PCallOwn Try.prog 48 [slI l, slI m] 3 1 (fun n us => n = (riseL (l ++ m)).length ∧ us = (riseL (l ++ m)).map (.int .i64)) := fun w vs h => by
  obtain ⟨v, u, rfl, h1, h2⟩ := rpl2 h
  exact (spot_union_any v u l m w (rd_of (fun _ => rfl) h1) (rd_of (fun _ => rfl) h2) hl).mono fun e w' ⟨v', he, ho, hb⟩ => ⟨v', _, _, he, ⟨rfl, rfl⟩, ho, fun u hu => by obtain ⟨z, _, rfl⟩ := List.mem_map.1 hu; rfl, hb⟩
theorem union_ok (l m : List Int) (hl : l.length + m.length ≤ 10000000) : PCall Try.prog 48 [slI l, slI m] (· = slI (riseL (l ++ m))) :=
  (unionO_ok l m hl).ro.weak fun p ⟨us, ⟨_, h⟩, hp⟩ => by rw [hp, h, List.map_map]; rfl

theorem rxCheck_ok (l : List Rx) : PCall Try.prog 44 [slX l] (· = I (checkL l)) := fun Z w vs hz _ h => by
  obtain ⟨v, rfl, h1⟩ := rpl1 h
  exact (rx_Check_any v l w (rdX_of h1)).mono fun e w' ⟨he, hb⟩ => ⟨_, _, he, rfl, .u _, .u _, hb⟩
theorem ref7Check_ok (l : List Rx) : PCall Try.prog 6 [slX l] (· = I (checkL l)) := fun Z w vs hz _ h => by
  obtain ⟨v, rfl, h1⟩ := rpl1 h
  exact (ref7_Check_any v l w (rdX_of h1)).mono fun e w' ⟨he, hw⟩ => ⟨_, _, he, rfl, .u _, .u _, by subst hw; exact Below.refl _ _⟩
end Go.Proofs.Ythcckhpogmlgjaa

/-
  The package spot over pure values: rows that may be nil.
-/
namespace Go.Proofs.Ythcckhpogmlgjaa
open Go Go.RowKit L
set_option linter.unusedVariables false
set_option linter.unusedSimpArgs false

def setCs (sets : List Rx) : List PV := sets.flatMap fun x => [W64 x.s0, W64 x.s1, W64 x.s2, W64 x.s3]
theorem setCs_len (sets : List Rx) : (setCs sets).length = sets.length * 4 := by
  induction sets with
  | nil => rfl
  | cons x l ih => simp only [setCs, List.flatMap_cons, List.length_append] at *; rw [ih]; simp; omega

theorem leafW (H : PHeap) (z : Int) : leafOk H (W64 z) = true := rfl
@[go_sem] theorem slI_cells (l : List Int) : (slI l).cells = [slI l] := rfl
@[go_sem] theorem slI_okC (H : PHeap) (l : List Int) : okC H (slI l) = true := rfl
@[go_sem] theorem slI_leaf (H : PHeap) (l : List Int) : leafOk H (slI l) = true := rfl
end Go.Proofs.Ythcckhpogmlgjaa

/-
  The package spot over pure values: behind.
-/
namespace Go.Proofs.Ythcckhpogmlgjaa
open Go Go.RowKit L
set_option linter.unusedVariables false
set_option linter.unusedSimpArgs false

/-- a slot or a cell tells a list of numbers -/
def isL (p : PV) (l : List Int) : Prop := p = slI l ∨ (p = .u (.slice none 0 0) ∧ l = [])
theorem isL.noP {p : PV} {l : List Int} (h : isL p l) : NoP p := by
  rcases h with rfl | ⟨rfl, _⟩
  · exact noP_slI l
  · exact .u _
theorem isL.view {p : PV} {l : List Int} (h : isL p l) (H : PHeap) : View H p (slI l) := by
  rcases h with rfl | ⟨rfl, rfl⟩
  · exact View.noP (noP_slI l)
  · exact View.nil 1 none 0
theorem isL.leaf {p : PV} {l : List Int} (h : isL p l) (H : PHeap) : leafOk H p = true := by
  rcases h with rfl | ⟨rfl, _⟩ <;> rfl
theorem isL.cells {p : PV} {l : List Int} (h : isL p l) : p.cells = [p] := by
  rcases h with rfl | ⟨rfl, _⟩ <;> rfl
theorem isL.okC {p : PV} {l : List Int} (h : isL p l) (H : PHeap) : okC H p = true := by
  rcases h with rfl | ⟨rfl, _⟩ <;> rfl
theorem isL.len {P : Program} {t : TypeId} {p : PV} {l : List Int} (ht : isSlice P t = true) (h : isL p l) (H : PHeap) : lenP P H t p = some (I l.length) := by
  rcases h with rfl | ⟨rfl, rfl⟩ <;> simp [lenP, slI, ht, I]
theorem isL.sl {p : PV} {l : List Int} (h : isL p l) (hl : l ≠ []) : p = slI l := by
  rcases h with h | ⟨_, h⟩
  · exact h
  · exact absurd h hl
theorem isL_sl (l : List Int) : isL (slI l) l := .inl rfl

/-- the same, where the row is fresh -/
def frI (l : List Int) : PV := .fr 3 1 (l.map I)
theorem frI_noP (l : List Int) : NoP (frI l) := .fr _ _ _ fun c hc => by obtain ⟨z, _, rfl⟩ := List.mem_map.1 hc; exact .u _
@[go_sem] theorem frI_cells (l : List Int) : (frI l).cells = [frI l] := rfl
@[go_sem] theorem frI_okC (H : PHeap) (l : List Int) : okC H (frI l) = true := rfl
@[go_sem] theorem frI_leaf (H : PHeap) (l : List Int) : leafOk H (frI l) = true := rfl
def isF (p : PV) (l : List Int) : Prop := p = frI l ∨ (p = .u (.slice none 0 0) ∧ l = [])
theorem isF.noP {p : PV} {l : List Int} (h : isF p l) : NoP p := by
  rcases h with rfl | ⟨rfl, _⟩
  · exact frI_noP l
  · exact .u _
theorem isF.view {p : PV} {l : List Int} (h : isF p l) (H : PHeap) : View H p (slI l) := by
  rcases h with rfl | ⟨rfl, rfl⟩
  · exact View.fr (frI_noP l)
  · exact View.nil 1 none 0
theorem isF.viewF {p : PV} {l : List Int} (h : isF p l) (H : PHeap) : View H p (frI l) := by
  rcases h with rfl | ⟨rfl, rfl⟩
  · exact View.noP (frI_noP l)
  · exact View.nilFr
theorem isF.leaf {p : PV} {l : List Int} (h : isF p l) (H : PHeap) : leafOk H p = true := by
  rcases h with rfl | ⟨rfl, _⟩ <;> rfl
theorem isF.cells {p : PV} {l : List Int} (h : isF p l) : p.cells = [p] := by
  rcases h with rfl | ⟨rfl, _⟩ <;> rfl
theorem isF.okC {p : PV} {l : List Int} (h : isF p l) (H : PHeap) : okC H p = true := by
  rcases h with rfl | ⟨rfl, _⟩ <;> rfl
theorem isF_fr (l : List Int) : isF (frI l) l := .inl rfl
theorem unionF_ok (l m : List Int) (hl : l.length + m.length ≤ 10000000) : PCall Try.prog 48 [slI l, slI m] (· = frI (riseL (l ++ m))) := by
  have h := (unionO_ok l m hl).fr (by simp)
  rw [List.map_map] at h
  exact h

def FolAt (fc : List PV) (fol : List (List Int)) : Prop := fc.length = fol.length ∧ ∀ (i : Nat) (p : PV) (l : List Int), fc[i]? = some p → fol[i]? = some l → isL p l
theorem FolAt.set {fc : List PV} {fol : List (List Int)} (h : FolAt fc fol) (i : Nat) (l : List Int) : FolAt (fc.set i (slI l)) (fol.set i l) := ⟨by simp [h.1], fun j p m h1 h2 => by
  rw [List.getElem?_set] at h1 h2
  by_cases e : i = j
  · rw [if_pos e] at h1 h2
    split at h1
    · rename_i hlt
      rw [if_pos (by rw [← h.1]; exact hlt)] at h2
      cases h1; cases h2; exact isL_sl l
    · cases h1
  · rw [if_neg e] at h1 h2
    exact h.2 j p m h1 h2⟩

theorem setMany_one {α : Type} (cs : List α) (i : Nat) (p : α) (h : i < cs.length) : setMany cs i [p] = cs.set i p := by
  apply List.ext_getElem?
  intro j
  rw [setMany_get _ _ _ (by simp; omega), List.getElem?_set]
  by_cases e : i = j
  · subst e; simp [h]
  · rw [if_neg (by simp; omega), if_neg e]

theorem rising_le (l : List Int) (h : Rising l) (N : Nat) (hb : ∀ x ∈ l, 0 ≤ x ∧ x < (N : Int)) : l.length ≤ N := by
  by_cases h0 : l.length = 0
  · omega
  · have := rising_at l h (fun x hx => (hb x hx).1) (l.length - 1) (by omega)
    have h2 := (hb _ (List.getElem_mem (show l.length - 1 < l.length by omega))).2
    omega

set_option maxHeartbeats 1000000 in
theorem behind_in (x vx idf vf m0 : Nat) (H : PHeap) (sp p2 p3 p4 p5 pa pb : PV) (fc : List PV) (fol : List (List Int)) (a b : List Int) (N : Nat)
    (hx : H x = ⟨vx, some (.box 71 [sp, rowV m0 idf vf, p2, p3, p4, p5])⟩) (hf : RowAt H 30 1 m0 idf vf fc) (hm0 : fol.length = m0) (hne : x ≠ idf) (hfc : FolAt fc fol) (hpa : isL pa a) (hb : isF pb b)
    (hN : N ≤ 1000) (hsm : SmF N fol) (hbN : ∀ y ∈ b, 0 ≤ y ∧ y < (N : Int)) (hbl : b.length ≤ 1000) (ha : ∀ i ∈ a, 0 ≤ i ∧ i < (fol.length : Int)) (hal : a.length ≤ 1000000) :
    PIn Try.prog 49 [.pp x 0 vx, pa, pb] H (fun q H' => q = .tup [] ∧ (∀ j, j ≠ idf → H' j = H j) ∧ ∃ fc', RowAt H' 30 1 m0 idf vf fc' ∧ FolAt fc' (a.foldl (updF b) fol)) := by
  refine PIn.intro Try.func49 rfl Try.ntmps49 (by simp) (by kernel_rfl) fun W => ?_
  refine PC.seq fun K hK => ?_
  refine PC.region ?_
  have hlen := hpa.len isSlice_30 H
  repeat (refine PL.k rfl fun KK hKK => ?_; simp [go_sem, stepK, hlen]; refine hKK _ ?_; clear hKK KK)
  refine PL.done hK ?_; clear hK
  refine PC.block ?_
  refine PC.loop (fun m F H' => ∃ k : Nat, k ≤ a.length ∧ m = a.length - k ∧ F 0 = .pp x 0 vx ∧ F 2 = pb ∧ F 8 = pa ∧ F 9 = I a.length ∧ F 10 = I k ∧ (∀ j, j ≠ idf → H' j = H j) ∧ ∃ fc', RowAt H' 30 1 m0 idf vf fc' ∧ FolAt fc' ((a.take k).foldl (updF b) fol)) (m := a.length) ⟨0, by omega, by omega, by simp [go_sem], by simp [go_sem], by simp [go_sem], by simp [go_sem], by simp [go_sem], fun _ _ => rfl, fc, hf, by simpa using hfc⟩ fun m F H' hI => ?_
  obtain ⟨k, hk, hm, h0, h2, h8, h9, h10, hoth, fc', hrow, hfol⟩ := hI
  by_cases hlt : k < a.length
  · have hA : ∀ (t : Nat) (x y : Operand), binP Try.prog .add t x y (I (k : Int)) (I 1) = some (I ((k : Int) + 1)) := fun t x y => binP_add (by omega) (by omega)
    have hps := hpa.sl (by intro e; rw [e] at hlt; simp at hlt)
    rw [hps] at h8
    have hak := ha a[k] (List.getElem_mem hlt)
    obtain ⟨u, hu⟩ : ∃ u : Nat, a[k] = (u : Int) := ⟨a[k].toNat, by omega⟩
    rw [hu] at hak
    have hul : u < fol.length := by omega
    have hfl : ((a.take k).foldl (updF b) fol).length = fol.length := foldl_updF_len _ _ _
    have hfcl : fc'.length = fol.length := by rw [hfol.1, hfl]
    have huf : u < fc'.length := by omega
    have hm1 : m0 ≠ 0 := by omega
    have hfm : fc'.length = m0 := by omega
    have hrow := hrow.2 hm1
    have hum : u < m0 := by omega
    have hcell : fc'[u]? = some fc'[u] := List.getElem?_eq_getElem huf
    have hsm' : SmF N ((a.take k).foldl (updF b) fol) := hsm.fold _ hbN _
    obtain ⟨lu, hlu⟩ : ∃ lu, ((a.take k).foldl (updF b) fol)[u]? = some lu := ⟨_, List.getElem?_eq_getElem (by omega)⟩
    have hisl : isL fc'[u] lu := hfol.2 u _ _ hcell hlu
    have hlul : lu.length ≤ N := by
      obtain ⟨r1, r2⟩ := hsm' lu (List.mem_of_getElem? hlu)
      exact rising_le lu r1 N r2
    refine PC.seq fun K2 hK2 => ?_
    refine PC.region ?_
    repeat (refine PL.k rfl fun KK hKK => ?_; simp [go_sem, stepK, h8, h9, h10, hlt]; refine hKK _ ?_; clear hKK KK)
    refine PL.done hK2 ?_; clear hK2
    refine PC.seq fun K2 hK2 => ?_
    refine PC.condT (by simp [go_sem]) ?_
    refine PC.skip (hK2 _ _ ?_); clear hK2
    refine PC.seq fun K2 hK2 => ?_
    refine PC.block ?_
    refine PC.seq fun K3 hK3 => ?_
    refine PC.region ?_
    repeat (refine PL.k rfl fun KK hKK => ?_; simp [go_sem, stepK, h8, h9, h10, hlt, slI, hu]; refine hKK _ ?_; clear hKK KK)
    refine PL.done hK3 ?_; clear hK3
    refine PC.regionT 15 mixed (by kernel_rfl) ?_
    simp only [List.take_succ_cons, List.take_zero, List.drop_succ_cons, List.drop_zero]
    have hxx : H' x = ⟨vx, some (.box 71 [sp, .ps idf vf, p2, p3, p4, p5])⟩ := by rw [hoth x hne, hx, rowV_pos hm1]
    repeat (refine QF.k rfl fun KK hKK => ?_; simp [go_sem, stepK, h0, h2, hxx, hrow, huf, hcell, hum]; refine hKK _ ?_; clear hKK KK)
    refine QF.callB (qs := [slI lu, slI b]) rfl rfl (by kernel_rfl) (union_ok lu b (by omega)) (by simp [go_sem]) ?_ ?_ ?_
    · simp [go_sem, hisl.noP, hb.noP, h2]
    · simp [go_sem, hisl.view, hb.view, h2]
    repeat (refine QF.k rfl fun KK hKK => ?_; simp [go_sem, stepK, h0, h2, hxx, hrow, huf, hum]; refine hKK _ ?_; clear hKK KK)
    refine QF.nil ?_
    refine PL.pe rfl (PE.store (id := idf) (off := u) (ver := vf) (k := 1) (ag := false) (cs := fc') (bd := .row 30 1 m0 fc') rfl (by simp [go_sem]) (by simp [go_sem]) (by simp [go_sem, hrow]) (by simp [go_sem]) (by simp [go_sem, slI, okC, leafOk]) (by simp [go_sem, slI]) (by omega) (by simp [hrow]) ?_)
    refine PL.done hK2 ?_; clear hK2
    refine PC.region ?_
    repeat (refine PL.k rfl fun KK hKK => ?_; simp [go_sem, stepK, h0, h2, h8, h9, h10, hA]; refine hKK _ ?_; clear hKK KK)
    refine PL.nil ⟨a.length - (k + 1), by omega, k + 1, by omega, by omega, ?_, ?_, ?_, ?_, ?_, ?_, fc'.set u (slI (riseL (lu ++ b))), ?_, ?_⟩
    · simp [go_sem, h0]
    · simp [go_sem, h2]
    · simp [go_sem, h8, hps]
    · simp [go_sem, h9]
    · simp [go_sem]
    · intro j hj; simp [go_sem, hj, hoth j hj]
    · refine ⟨by simpa using hfm, fun _ => ?_⟩
      simp only [go_sem, if_true]
      simp [go_sem, storeB, slI, setMany_one _ _ _ huf]
    · rw [List.take_succ_eq_append_getElem hlt, List.foldl_append, hu]
      have := hfol.set u (riseL (lu ++ b))
      simp only [List.foldl_cons, List.foldl_nil, updF, Int.toNat_natCast]
      rw [List.getD_eq_getElem?_getD, hlu]
      exact this
  · have hka : k = a.length := by omega
    subst hka
    refine PC.seq fun K2 hK2 => ?_
    refine PC.region ?_
    repeat (refine PL.k rfl fun KK hKK => ?_; simp [go_sem, stepK, h8, h9, h10]; refine hKK _ ?_; clear hKK KK)
    refine PL.done hK2 ?_; clear hK2
    refine PC.seq fun K2 hK2 => ?_
    refine PC.condF (by simp [go_sem]) ?_
    refine PC.exit ?_
    refine ⟨.inl rfl, .tup [], ?_, rfl, hoth, fc', hrow, ?_⟩
    · simp [resP, Try.results49]
    · rwa [List.take_of_length_le (Nat.le_refl _)] at hfol
end Go.Proofs.Ythcckhpogmlgjaa

/-
  The package spot over pure values: pop, set, cat.
-/
namespace Go.Proofs.Ythcckhpogmlgjaa
open Go Go.RowKit L
set_option linter.unusedVariables false
set_option linter.unusedSimpArgs false

theorem setMany_all {α : Type} (cs ps : List α) (h : ps.length = cs.length) : setMany cs 0 ps = ps := by
  unfold setMany
  simp [h]

set_option maxRecDepth 20000 in
set_option maxHeartbeats 1000000 in
theorem pop_in (s t vs vt m B0 : Nat) (H : PHeap) (cs : List PV) (a b c d : PV)
    (hs : H s = ⟨vs, some (.box 86 [.ps t vt])⟩) (ht : H t = ⟨vt, some (.row 69 4 (m + 1) (cs ++ [a, b, c, d]))⟩) (hcs : cs.length = m * 4) (hst : s ≠ t) (hsB : s < B0) (htB : t < B0) (hm : m ≤ 1000000)
    (hla : ∀ H', leafOk H' a = true) (hlb : ∀ H', leafOk H' b = true) (hlc : ∀ H', leafOk H' c = true) (hld : ∀ H', leafOk H' d = true) :
    PIn Try.prog 45 [.pp s 0 vs] H (fun q H' => q = .agg [a, b, c, d] ∧ H' s = ⟨vs, some (.box 86 [.ps t (vt + 1)])⟩ ∧ H' t = ⟨vt + 1, some (.row 69 4 m cs)⟩ ∧ ∀ j, j < B0 → j ≠ s → j ≠ t → H' j = H j) := by
  have n1 : s ≠ B0 := by omega
  have n2 : t ≠ B0 := by omega
  have n3 : s ≠ B0 + 1 := by omega
  have n4 : t ≠ B0 + 1 := by omega
  have hts : t ≠ s := fun h => hst h.symm
  have hS : ∀ (ty : Nat) (x y : Operand), binP Try.prog .sub ty x y (I ((m : Int) + 1)) (I 1) = some (I (m : Int)) := fun ty x y => by rw [binP_sub (by omega) (by omega)]; simp
  have hd1 : (cs ++ [a, b, c, d]).drop (m * 4) = [a, b, c, d] := by rw [← hcs]; simp
  have hd2 : (cs ++ [a, b, c, d]).take (m * 4) = cs := by rw [← hcs]; simp
  refine PIn.intro Try.func45 rfl Try.ntmps45 (by simp) (by kernel_rfl) fun W => ?_
  refine PC.seq fun K hK => ?_
  refine PC.region ?_
  refine PL.pe rfl (PE.alloc (d := 1) (id := B0) rfl rfl (by simp) zeroC_69 rfl ?_)
  refine PL.done hK ?_; clear hK
  refine PC.seq fun K hK => ?_
  refine PC.region ?_
  repeat (refine PL.k rfl fun KK hKK => ?_; simp [go_sem, stepK, hs, ht, n1, n2, hS, hd1]; refine hKK _ ?_; clear hKK KK)
  refine PL.pe rfl (PE.alloc (d := 2) (id := B0 + 1) rfl rfl (by simp) zeroC_69 rfl ?_)
  refine PL.pe rfl (PE.store (id := B0 + 1) (off := 0) (ver := (H (B0 + 1)).ver + 1) (k := 4) (ag := true) (cs := [.u (.slice none 0 0), .u (.slice none 0 0), B false, I 0]) (bd := .box 69 [.u (.slice none 0 0), .u (.slice none 0 0), B false, I 0]) rfl (by simp [go_sem]) (by simp [go_sem]) (by simp [go_sem]) (by simp [go_sem]) (by simp [go_sem, okC, hla, hlb, hlc, hld]) (by simp [go_sem]) (by simp) (by simp [go_sem]) ?_)
  refine PL.done hK ?_; clear hK
  refine PC.seq fun K hK => ?_
  refine PC.region ?_
  repeat (refine PL.k rfl fun KK hKK => ?_; simp [go_sem, stepK, hs, ht, n1, n2, n3, n4, hS]; refine hKK _ ?_; clear hKK KK)
  refine PL.pe rfl (PE.trunc (id := t) (ver := vt) (k := 4) (m := m + 1) (j := m) (kd := .i64) (e := 69) (cs := cs ++ [a, b, c, d]) rfl rfl (by simp) esz_86 (by simp [go_sem]) (by simp [go_sem, ht, n2, n4]) (by simp [go_sem]) (by omega) ?_)
  refine PL.pe rfl (PE.store (id := s) (off := 0) (ver := vs) (k := 1) (ag := false) (cs := [.ps t vt]) (bd := .box 86 [.ps t vt]) rfl (by simp [go_sem]) (by simp [go_sem]) (by simp [go_sem, hs, n1, n3, hst]) (by simp [go_sem]) (by simp [go_sem, okC, leafOk]) (by simp [go_sem]) (by simp) (by simp [go_sem, hs, n1, n3, hst]) ?_)
  refine PL.done hK ?_; clear hK
  refine PC.seq fun K hK => ?_
  refine PC.region ?_
  have e0 : (B0 + 1 = B0) = False := by simp
  have e1 : (B0 = B0 + 1) = False := by simp
  repeat (refine PL.k rfl fun KK hKK => ?_; simp [go_sem, stepK, hs, ht, n1, n2, n3, n4, e0, e1, storeB, setMany_all, Ne.symm n1, Ne.symm n2, Ne.symm n3, Ne.symm n4]; refine hKK _ ?_; clear hKK KK)
  refine PL.pe rfl (PE.store (id := B0) (off := 0) (ver := (H B0).ver + 1) (k := 4) (ag := true) (cs := [.u (.slice none 0 0), .u (.slice none 0 0), B false, I 0]) (bd := .box 69 [.u (.slice none 0 0), .u (.slice none 0 0), B false, I 0]) rfl (by simp [go_sem]) (by simp [go_sem]) (by simp [go_sem, e0, e1, Ne.symm n1, Ne.symm n2]) (by simp [go_sem]) (by simp [go_sem, okC, hla, hlb, hlc, hld]) (by simp [go_sem]) (by simp) (by simp [go_sem, e0, e1, Ne.symm n1, Ne.symm n2]) ?_)
  refine PL.done hK ?_; clear hK
  refine PC.ret ?_
  refine ⟨.inr rfl, .agg [a, b, c, d], ?_, rfl, ?_, ?_, fun j hj h1 h2 => ?_⟩
  · simp [resP, resP1, Try.results45, go_sem, e0, e1, storeB, setMany_all, Ne.symm n1, Ne.symm n2]
  · simp [go_sem, hs, n1, n2, n3, n4, hst, storeB, setMany_all]
  · simp [go_sem, ht, n1, n2, n3, n4, hts, hd2]
  · have j1 : j ≠ B0 := by omega
    have j2 : j ≠ B0 + 1 := by omega
    simp [go_sem, j1, j2, h1, h2]
end Go.Proofs.Ythcckhpogmlgjaa

/-
  The package spot over pure values: set.
-/
namespace Go.Proofs.Ythcckhpogmlgjaa
open Go Go.RowKit L
set_option linter.unusedVariables false
set_option linter.unusedSimpArgs false

set_option maxRecDepth 20000 in
set_option maxHeartbeats 1000000 in
theorem set_in (x vx ids vs idf vf n B0 : Nat) (H : PHeap) (p2 p3 p4 p5 : PV) (sets : List Rx) (fc : List PV) (s0 s1 s2 s3 : Int)
    (hx : H x = ⟨vx, some (.box 71 [rowV n ids vs, rowV n idf vf, p2, p3, p4, p5])⟩) (hrs : RowAt H 56 4 n ids vs (setCs sets)) (hrf : RowAt H 30 1 n idf vf fc) (hxB : x < B0) (hsB : ids < B0) (hfB : idf < B0) (h1 : x ≠ ids) (h2 : x ≠ idf) (h3 : ids ≠ idf) (hbig : n ≤ 1000000) :
    PIn Try.prog 46 [.pp x 0 vx, .agg [W64 s0, W64 s1, W64 s2, W64 s3]] H (fun q H' => q = .agg [frI [(n : Int)], slI [(n : Int)], B false, I 1] ∧ ∃ vs vf, H' x = ⟨vx, some (.box 71 [.ps ids vs, .ps idf vf, p2, p3, p4, p5])⟩ ∧
      H' ids = ⟨vs, some (.row 56 4 (n + 1) (setCs sets ++ [W64 s0, W64 s1, W64 s2, W64 s3]))⟩ ∧ H' idf = ⟨vf, some (.row 30 1 (n + 1) (fc ++ [.u (.slice none 0 0)]))⟩ ∧ ∀ j, j < B0 → j ≠ x → j ≠ ids → j ≠ idf → H' j = H j) := by
  refine PIn.intro Try.func46 rfl Try.ntmps46 (by simp) (by kernel_rfl) fun W => ?_
  refine PC.seq fun K hK => ?_
  refine PC.region ?_
  refine PL.boxA B0 (d := 3) rfl rfl rfl (by simp) (v := .agg [W64 s0, W64 s1, W64 s2, W64 s3]) (by simp [go_sem]) (by simp [okC, leafOk, W64, Value.oneCell']) rfl fun v1 H1 b1 o1 => ?_
  refine PL.allocA (B0 + 1) (d := 4) rfl rfl rfl (by simp) zeroC_69 rfl rfl fun v2 H2 b2 o2 => ?_
  have ho : ∀ j, j < B0 → H2 j = H j := fun j hj => by rw [o2 j (by omega), o1 j (by omega)]
  have hx2 := (ho x hxB).trans hx
  have hrs2 := hrs.mono (ho ids hsB)
  have hrf2 := hrf.mono (ho idf hfB)
  have b12 := (o2 B0 (by omega)).trans b1
  refine PL.done hK ?_; clear hK
  refine PC.seq fun K hK => ?_
  refine PC.region ?_
  repeat (refine PL.k rfl fun KK hKK => ?_; simp [go_sem, stepK, hx2, hrs2.len isSlice_28]; refine hKK _ ?_; clear hKK KK)
  refine PL.done hK ?_; clear hK
  refine PC.seq fun K hK => ?_
  refine PC.regionMT 2 7 mixed (by kernel_rfl) (by simp [dstOk]) ?_
  simp only [List.take_succ_cons, List.take_zero, List.drop_succ_cons, List.drop_zero]
  simp only [movesF, moveOf, evP, go_sem]
  repeat (refine QF.k rfl fun KK hKK => ?_; simp [go_sem, stepK, hx2, b12]; refine hKK _ ?_; clear hKK KK)
  refine QF.buildSliceA (d := 17) rfl rfl rfl (by simp) selem_28 rfl (by omega) (ips := [(0, .agg [W64 s0, W64 s1, W64 s2, W64 s3])]) (by simp [go_sem]) (by simp [litOk, okC, leafOk, W64, Value.oneCell', PV.cells]) rfl ?_
  refine QF.nil ?_
  refine PL.appendA (d := 18) (id := ids) (ver := vs) (m := n) (m2 := 1) (cs := setCs sets) (cs2 := [W64 s0, W64 s1, W64 s2, W64 s3]) rfl rfl rfl (by simp) selem_28 (by simp [go_sem]) hrs2 (px := .sl 4 [.agg [W64 s0, W64 s1, W64 s2, W64 s3]]) (by simp [go_sem]) rfl (by simp [leafOk, W64, Value.oneCell']) (by unfold maxLen; omega) (by omega) fun vs1 H3 b3 o3 => ?_
  have hx3 := (o3 x h1).trans hx2
  have hrf3 := hrf2.mono (o3 idf (Ne.symm h3))
  repeat (refine PL.k rfl fun KK hKK => ?_; simp [go_sem, stepK, hx3]; refine hKK _ ?_; clear hKK KK)
  refine PL.storeA (id := x) rfl rfl (by simp [dstOk]) (by simp [go_sem]; rfl) hx3 asz_28 (v := .ps ids vs1) (by simp [go_sem]) (by simp [okC, leafOk, liveRow, b3]) rfl rfl (by simp) (cs' := [.ps ids vs1, rowV n idf vf, p2, p3, p4, p5]) rfl fun H4 b4 o4 => ?_
  have b34 := (o4 ids (Ne.symm h1)).trans b3
  have hrf4 := hrf3.mono (o4 idf (Ne.symm h2))
  refine PL.done hK ?_; clear hK
  refine PC.seq fun K hK => ?_
  refine PC.region ?_
  repeat (refine PL.k rfl fun KK hKK => ?_; simp [go_sem, stepK, b4]; refine hKK _ ?_; clear hKK KK)
  refine PL.buildSliceR (d := 26) rfl rfl rfl (by simp) selem_38 rfl (by omega) (ips := [(0, .u (.slice none 0 0))]) (by simp [go_sem]) (by simp [litOk, okC, leafOk, Value.oneCell', PV.cells]) (ps := [.u (.slice none 0 0)]) rfl ?_
  refine PL.appendA (d := 27) (id := idf) (ver := vf) (m := n) (m2 := 1) (cs := fc) (cs2 := [.u (.slice none 0 0)]) rfl rfl rfl (by simp) selem_38 (by simp [go_sem]) hrf4 (px := .sl 1 [.u (.slice none 0 0)]) (by simp [go_sem]) rfl (by simp [leafOk, Value.oneCell']) (by unfold maxLen; omega) (by omega) fun vf1 H5 b5 o5 => ?_
  have hx5 := (o5 x h2).trans b4
  have b35 := (o5 ids h3).trans b34
  repeat (refine PL.k rfl fun KK hKK => ?_; simp [go_sem, stepK, hx5]; refine hKK _ ?_; clear hKK KK)
  refine PL.storeA (id := x) rfl rfl (by simp [dstOk]) (by simp [go_sem]; rfl) hx5 asz_38 (v := .ps idf vf1) (by simp [go_sem]) (by simp [okC, leafOk, liveRow, b5]) rfl rfl (by simp) (cs' := [.ps ids vs1, .ps idf vf1, p2, p3, p4, p5]) rfl fun H6 b6 o6 => ?_
  have b36 := (o6 ids (Ne.symm h1)).trans b35
  have b56 := (o6 idf (Ne.symm h2)).trans b5
  refine PL.done hK ?_; clear hK
  refine PC.seq fun K hK => ?_
  refine PC.region ?_
  repeat (refine PL.k rfl fun KK hKK => ?_; simp [go_sem, stepK]; refine hKK _ ?_; clear hKK KK)
  refine PL.buildSliceF (d := 31) rfl rfl rfl (by simp) selem_30 rfl (by omega) (by decide) (ips := [(0, I n)]) (by simp [go_sem]) (by simp [litOk, okC, leafOk, I, Value.oneCell', PV.cells]) (ps := [I n]) rfl ?_
  repeat (refine PL.k rfl fun KK hKK => ?_; simp [go_sem, stepK]; refine hKK _ ?_; clear hKK KK)
  refine PL.buildSliceR (d := 33) rfl rfl rfl (by simp) selem_30 rfl (by omega) (ips := [(0, I n)]) (by simp [go_sem]) (by simp [litOk, okC, leafOk, I, Value.oneCell', PV.cells]) (ps := [I n]) rfl ?_
  repeat (refine PL.k rfl fun KK hKK => ?_; simp [go_sem, stepK]; refine hKK _ ?_; clear hKK KK)
  have b26 : H6 (B0 + 1) = ⟨v2, some (.box 69 [.u (.slice none 0 0), .u (.slice none 0 0), B false, I 0])⟩ := by
    rw [o6 _ (by omega), o5 _ (by omega), o4 _ (by omega), o3 _ (by omega)]; exact b2
  refine PL.storeA (id := B0 + 1) rfl rfl (by simp [dstOk]) (by simp [go_sem]; rfl) b26 asz_69 (v := .agg [frI [(n : Int)], slI [(n : Int)], B false, I 1]) (by simp [go_sem, slI, frI]) (by simp [okC, leafOk, slI, frI, I, B, Value.oneCell']) rfl rfl (by simp) (cs' := [frI [(n : Int)], slI [(n : Int)], B false, I 1]) rfl fun H7 b7 o7 => ?_
  refine PL.done hK ?_; clear hK
  refine PC.ret ?_
  refine ⟨.inr rfl, .agg [frI [(n : Int)], slI [(n : Int)], B false, I 1], ?_, rfl, vs1, vf1, (o7 _ (by omega)).trans b6, (o7 _ (by omega)).trans b36, (o7 _ (by omega)).trans b56, fun j hj h1 h2 h3 => ?_⟩
  · simp [resP, resP1, Try.results46, go_sem, b7, slI, frI]
  · rw [o7 _ (by omega), o6 _ h1, o5 _ h3, o4 _ h1, o3 _ h2, ho _ hj]
end Go.Proofs.Ythcckhpogmlgjaa

/-
  The package spot over pure values: cat.
-/
namespace Go.Proofs.Ythcckhpogmlgjaa
open Go Go.RowKit L
set_option linter.unusedVariables false
set_option linter.unusedSimpArgs false

set_option maxRecDepth 20000 in
set_option maxHeartbeats 2000000 in
theorem cat_in (x vx idf vf m0 B0 N : Nat) (H : PHeap) (sp p2 p3 p4 p5 : PV) (fc : List PV) (fol : List (List Int)) (pa pb : Pt) (a1 a2 b1 b2 : PV)
    (hx : H x = ⟨vx, some (.box 71 [sp, rowV m0 idf vf, p2, p3, p4, p5])⟩) (hf : RowAt H 30 1 m0 idf vf fc) (hm0 : fol.length = m0) (hne : x ≠ idf) (hfc : FolAt fc fol)
    (ha1 : isF a1 pa.first) (ha2 : isL a2 pa.last) (hb1 : isF b1 pb.first) (hb2 : isL b2 pb.last)
    (hN : N ≤ 1000) (hNf : fol.length = N) (hsm : SmF N fol) (hpa : PtOk N pa) (hpb : PtOk N pb) (hsum : pa.n + pb.n ≤ N) (hxB : x < B0) (hfB : idf < B0) :
    PIn Try.prog 47 [.pp x 0 vx, .agg [a1, a2, B pa.free, I pa.n], .agg [b1, b2, B pb.free, I pb.n]] H (fun q H' => ∃ f' l', q = .agg [f', l', B (pa.free && pb.free), I (pa.n + pb.n)] ∧ isF f' (pickU pa.free pa.first pb.first pa.first) ∧ isL l' (pickU pb.free pa.last pb.last pb.last) ∧
      (∃ fc', RowAt H' 30 1 m0 idf vf fc' ∧ FolAt fc' (pa.last.foldl (updF pb.first) fol)) ∧ ∀ j, j < B0 → j ≠ idf → H' j = H j) := by
  have hla : ∀ (p : Pt), PtOk N p → p.first.length ≤ 1000 ∧ p.last.length ≤ 1000 := fun p hp => by
    have h1 := rising_le _ hp.1.1 N hp.1.2
    have h2 := rising_le _ hp.2.1.1 N hp.2.1.2
    omega
  have la := hla pa hpa
  have lb := hla pb hpb
  have na := hpa.2.2
  have nb := hpb.2.2
  refine PIn.intro Try.func47 rfl Try.ntmps47 (by simp) (by kernel_rfl) fun W => ?_
  refine PC.seq fun K hK => ?_
  refine PC.region ?_
  refine PL.boxA B0 (d := 4) rfl rfl rfl (by simp) (v := .agg [a1, a2, B pa.free, I pa.n]) (by simp [go_sem]) (by simp [okC, ha1.leaf, ha2.leaf, leafB, leafI]) rfl fun v1 H1 c1 o1 => ?_
  refine PL.boxA (B0 + 1) (d := 5) rfl rfl rfl (by simp) (v := .agg [b1, b2, B pb.free, I pb.n]) (by simp [go_sem]) (by simp [okC, hb1.leaf, hb2.leaf, leafB, leafI]) rfl fun v2 H2 c2 o2 => ?_
  refine PL.allocA (B0 + 2) (d := 6) rfl rfl rfl (by simp) zeroC_69 rfl rfl fun v3 H3 c3 o3 => ?_
  have ho : ∀ j, j < B0 → H3 j = H j := fun j hj => by rw [o3 j (by omega), o2 j (by omega), o1 j (by omega)]
  have hA3 : H3 B0 = ⟨v1, some (.box 69 [a1, a2, B pa.free, I pa.n])⟩ := by rw [o3 _ (by omega), o2 _ (by omega)]; exact c1
  have hB3 : H3 (B0 + 1) = ⟨v2, some (.box 69 [b1, b2, B pb.free, I pb.n])⟩ := by rw [o3 _ (by omega)]; exact c2
  refine PL.done hK ?_; clear hK
  refine PC.seq fun K hK => ?_
  refine PC.region ?_
  repeat (refine PL.k rfl fun KK hKK => ?_; simp [go_sem, stepK, hA3, hB3]; refine hKK _ ?_; clear hKK KK)
  refine PL.inl rfl rfl (behind_in x vx idf vf m0 H3 sp p2 p3 p4 p5 a2 b1 fc fol pa.last pb.first N ((ho x hxB).trans hx) (hf.mono (ho idf hfB)) hm0 hne hfc ha2 hb1 hN hsm hpb.1.2 lb.1 (by rw [hNf]; exact hpa.2.1.2) (by omega)) (by simp [go_sem]) (by simp [target, go_sem]) ?_
  rintro q H4 ⟨rfl, o4, fc4, hf4, hfc4⟩
  have hA4 := (o4 B0 (by omega)).trans hA3
  have hB4 := (o4 (B0 + 1) (by omega)).trans hB3
  have hR4 := (o4 (B0 + 2) (by omega)).trans c3
  refine PL.done hK ?_; clear hK
  refine PC.seqM (fun F H' => F 4 = .pp B0 0 v1 ∧ F 5 = .pp (B0 + 1) 0 v2 ∧ F 6 = .pp (B0 + 2) 0 v3 ∧ ∃ v4, F 7 = .pp (B0 + 3) 0 v4 ∧ H' (B0 + 3) = ⟨v4, some (.box 69 [a1, b2, B (pa.free && pb.free), I (pa.n + pb.n)])⟩ ∧ ∀ j, j ≠ B0 + 3 → H' j = H4 j) ?_ ?_
  · have hA : ∀ (t : Nat) (x y : Operand), binP Try.prog .add t x y (I pa.n) (I pb.n) = some (I (pa.n + pb.n)) := fun t x y => binP_add (by omega) (by omega)
    refine PC.region ?_
    repeat (refine PL.k rfl fun KK hKK => ?_; simp [go_sem, stepK, hA4, hB4]; refine hKK _ ?_; clear hKK KK)
    cases ha : pa.free
    · rw [ha] at hA4
      repeat (refine PL.g rfl rfl fun KK hKK => ?_; simp (disch := omega) [go_sem, L.stepG, hA4, hB4]; refine hKK _ ?_; clear hKK KK)
      repeat (refine PL.k rfl fun KK hKK => ?_; simp [go_sem, stepK, hA4, hB4, hA, ha1.cells, hb2.cells, ha1.okC, hb2.okC, ha1.leaf, hb2.leaf]; refine hKK _ ?_; clear hKK KK)
      refine PL.allocA (B0 + 3) (d := 7) rfl rfl rfl (by simp) zeroC_69 rfl rfl fun v4 H5 c5 o5 => ?_
      refine PL.storeA (id := B0 + 3) rfl rfl (by simp [dstOk]) (by simp [go_sem]; rfl) c5 asz_69 (v := .agg [a1, b2, B false, I (pa.n + pb.n)]) (by simp [go_sem]) (by simp [okC, ha1.leaf, hb2.leaf, leafB, leafI]) rfl rfl (by simp) rfl fun H6 c6 o6 => ?_
      refine PL.nil ⟨?_, ?_, ?_, v4, ?_, c6, fun j hj => by rw [o6 j hj, o5 j hj]⟩ <;> simp [go_sem]
    · rw [ha] at hA4
      repeat (refine PL.g rfl rfl fun KK hKK => ?_; simp (disch := omega) [go_sem, L.stepG, hA4, hB4]; refine hKK _ ?_; clear hKK KK)
      repeat (refine PL.k rfl fun KK hKK => ?_; simp [go_sem, stepK, hA4, hB4, hA, ha1.cells, hb2.cells, ha1.okC, hb2.okC, ha1.leaf, hb2.leaf]; refine hKK _ ?_; clear hKK KK)
      refine PL.allocA (B0 + 3) (d := 7) rfl rfl rfl (by simp) zeroC_69 rfl rfl fun v4 H5 c5 o5 => ?_
      refine PL.storeA (id := B0 + 3) rfl rfl (by simp [dstOk]) (by simp [go_sem]; rfl) c5 asz_69 (v := .agg [a1, b2, B pb.free, I (pa.n + pb.n)]) (by simp [go_sem]) (by simp [okC, ha1.leaf, hb2.leaf, leafB, leafI]) rfl rfl (by simp) rfl fun H6 c6 o6 => ?_
      refine PL.nil ⟨?_, ?_, ?_, v4, ?_, c6, fun j hj => by rw [o6 j hj, o5 j hj]⟩ <;> simp [go_sem]
  rintro F H5 ⟨f4, f5, f6, v4, f7, c5, o5⟩
  have hA5 := (o5 B0 (by omega)).trans hA4
  have hB5 := (o5 (B0 + 1) (by omega)).trans hB4
  have hR5 := (o5 (B0 + 2) (by omega)).trans hR4
  refine PC.seqM (fun F H' => F 4 = .pp B0 0 v1 ∧ F 5 = .pp (B0 + 1) 0 v2 ∧ F 6 = .pp (B0 + 2) 0 v3 ∧ F 7 = .pp (B0 + 3) 0 v4 ∧ (∃ f', H' (B0 + 3) = ⟨v4, some (.box 69 [f', b2, B (pa.free && pb.free), I (pa.n + pb.n)])⟩ ∧ isF f' (pickU pa.free pa.first pb.first pa.first)) ∧ ∀ j, j ≠ B0 + 3 → H' j = H5 j) ?_ ?_
  · refine PC.seq fun K hK => ?_
    refine PC.region ?_
    repeat (refine PL.k rfl fun KK hKK => ?_; simp [go_sem, stepK, hA5, f4]; refine hKK _ ?_; clear hKK KK)
    refine PL.done hK ?_; clear hK
    cases ha : pa.free
    · refine PC.condF (by simp [go_sem, ha]) ?_
      exact PC.skip ⟨by simp [go_sem, f4], by simp [go_sem, f5], by simp [go_sem, f6], by simp [go_sem, f7], ⟨a1, by rw [ha] at c5; exact c5, by simpa [pickU] using ha1⟩, fun _ _ => rfl⟩
    · refine PC.condT (by simp [go_sem, ha]) ?_
      refine PC.region ?_
      repeat (refine PL.k rfl fun KK hKK => ?_; simp [go_sem, stepK, hA5, hB5, f4, f5]; refine hKK _ ?_; clear hKK KK)
      refine PL.callB (qs := [slI pa.first, slI pb.first]) rfl rfl (by kernel_rfl) (unionF_ok _ _ (by omega)) (by simp [go_sem]) ?_ ?_ ?_
      · simp [go_sem, ha1.noP, hb1.noP]
      · simp [go_sem, ha1.view, hb1.view]
      repeat (refine PL.k rfl fun KK hKK => ?_; simp [go_sem, stepK, c5, f7]; refine hKK _ ?_; clear hKK KK)
      refine PL.storeA (id := B0 + 3) rfl rfl (by simp [dstOk]) (by simp [go_sem]; rfl) c5 asz_30 (v := frI (riseL (pa.first ++ pb.first))) (by simp [go_sem]) rfl rfl rfl (by simp) rfl fun H6 c6 o6 => ?_
      exact PL.nil ⟨by simp [go_sem, f4], by simp [go_sem, f5], by simp [go_sem, f6], by simp [go_sem, f7], ⟨frI (riseL (pa.first ++ pb.first)), by rw [ha] at c6; exact c6, by simpa [pickU] using isF_fr _⟩, o6⟩
  rintro F H6 ⟨f4, f5, f6, f7, ⟨f', c6, hf'⟩, o6⟩
  have hA6 := (o6 B0 (by omega)).trans hA5
  have hB6 := (o6 (B0 + 1) (by omega)).trans hB5
  have hR6 := (o6 (B0 + 2) (by omega)).trans hR5
  refine PC.seqM (fun F H' => F 6 = .pp (B0 + 2) 0 v3 ∧ F 7 = .pp (B0 + 3) 0 v4 ∧ (∃ l', H' (B0 + 3) = ⟨v4, some (.box 69 [f', l', B (pa.free && pb.free), I (pa.n + pb.n)])⟩ ∧ isL l' (pickU pb.free pa.last pb.last pb.last)) ∧ ∀ j, j ≠ B0 + 3 → H' j = H6 j) ?_ ?_
  · refine PC.seq fun K hK => ?_
    refine PC.region ?_
    repeat (refine PL.k rfl fun KK hKK => ?_; simp [go_sem, stepK, hB6, f5]; refine hKK _ ?_; clear hKK KK)
    refine PL.done hK ?_; clear hK
    cases hb : pb.free
    · refine PC.condF (by simp [go_sem, hb]) ?_
      exact PC.skip ⟨by simp [go_sem, f6], by simp [go_sem, f7], ⟨b2, by rw [hb] at c6; exact c6, by simpa [pickU] using hb2⟩, fun _ _ => rfl⟩
    · refine PC.condT (by simp [go_sem, hb]) ?_
      refine PC.region ?_
      repeat (refine PL.k rfl fun KK hKK => ?_; simp [go_sem, stepK, hA6, hB6, f4, f5]; refine hKK _ ?_; clear hKK KK)
      refine PL.callB (qs := [slI pa.last, slI pb.last]) rfl rfl (by kernel_rfl) (union_ok _ _ (by omega)) (by simp [go_sem]) ?_ ?_ ?_
      · simp [go_sem, ha2.noP, hb2.noP]
      · simp [go_sem, ha2.view, hb2.view]
      repeat (refine PL.k rfl fun KK hKK => ?_; simp [go_sem, stepK, c6, f7]; refine hKK _ ?_; clear hKK KK)
      refine PL.storeA (id := B0 + 3) rfl rfl (by simp [dstOk]) (by simp [go_sem]; rfl) c6 asz_30 (v := slI (riseL (pa.last ++ pb.last))) (by simp [go_sem]) rfl rfl rfl (by simp) rfl fun H7 c7 o7 => ?_
      exact PL.nil ⟨by simp [go_sem, f6], by simp [go_sem, f7], ⟨slI (riseL (pa.last ++ pb.last)), by rw [hb] at c7; exact c7, by simpa [pickU] using isL_sl _⟩, o7⟩
  rintro F H7 ⟨f6, f7, ⟨l', c7, hl'⟩, o7⟩
  have hR7 := (o7 (B0 + 2) (by omega)).trans hR6
  refine PC.seq fun K hK => ?_
  refine PC.region ?_
  repeat (refine PL.k rfl fun KK hKK => ?_; simp [go_sem, stepK, c7, f7]; refine hKK _ ?_; clear hKK KK)
  refine PL.storeA (id := B0 + 2) rfl rfl (by simp [dstOk]) (by simp [go_sem, f6]; rfl) hR7 asz_69 (v := .agg [f', l', B (pa.free && pb.free), I (pa.n + pb.n)]) (by simp [go_sem]) (by simp [okC, hf'.leaf, hl'.leaf, leafB, leafI]) rfl rfl (by simp) (cs' := [f', l', B (pa.free && pb.free), I (pa.n + pb.n)]) rfl fun H8 c8 o8 => ?_
  refine PL.done hK ?_; clear hK
  refine PC.ret ?_
  refine ⟨.inr rfl, .agg [f', l', B (pa.free && pb.free), I (pa.n + pb.n)], ?_, f', l', rfl, hf', hl', ⟨fc4, hf4.mono ?_, hfc4⟩, fun j hj h1 => ?_⟩
  · simp [resP, resP1, Try.results47, go_sem, c8, f6]
  · rw [o8 _ (by omega), o7 _ (by omega), o6 _ (by omega), o5 _ (by omega)]
  · rw [o8 _ (by omega), o7 _ (by omega), o6 _ (by omega), o5 _ (by omega), o4 _ h1, ho _ hj]
end Go.Proofs.Ythcckhpogmlgjaa

/-
  The package spot over pure values: what over holds from step to step.
-/
namespace Go.Proofs.Ythcckhpogmlgjaa
open Go Go.RowKit L
set_option linter.unusedVariables false
set_option linter.unusedSimpArgs false

theorem chk_step {x : Rx} {r : List Rx} {q : Int} (h : checkLoop (x :: r) q = 0) : (x.kind = 1 ∨ x.kind = 2 ∨ x.kind = 3 ∨ x.kind = 4 ∨ x.kind = 5 ∨ x.kind = 6 ∨ x.kind = 7) ∧ ofK x.kind ≤ q ∧ checkLoop r (q - ofK x.kind + 1) = 0 := by
  rw [checkLoop] at h
  split at h
  · omega
  · rename_i h1
    split at h
    · omega
    · rename_i h2
      refine ⟨?_, by omega, h⟩
      have : ¬ ofK x.kind < 0 := fun h => h1 (Or.inl h)
      unfold ofK at this
      split at this
      · omega
      · split at this
        · omega
        · split at this <;> omega
/-- the height of the stack, step by step -/
theorem chk_next {x : Rx} {r : List Rx} {s : SM} (h : checkLoop (x :: r) s.st.length = 0) : checkLoop r (stepS s x).st.length = 0 ∧ (x.kind = 3 ∨ x.kind = 4 → ∃ b a st, s.st = b :: a :: st) ∧ (x.kind = 5 ∨ x.kind = 6 ∨ x.kind = 7 → ∃ a st, s.st = a :: st) := by
  obtain ⟨hk, hq, hr⟩ := chk_step h
  have two : ofK x.kind = 2 → ∃ b a st, s.st = b :: a :: st := fun e => by
    match hs : s.st with
    | b :: a :: st => exact ⟨b, a, st, rfl⟩
    | [] => rw [hs, e] at hq; simp at hq
    | [_] => rw [hs, e] at hq; simp at hq
  have one : ofK x.kind = 1 → ∃ a st, s.st = a :: st := fun e => by
    match hs : s.st with
    | a :: st => exact ⟨a, st, rfl⟩
    | [] => rw [hs, e] at hq; simp at hq
  have k34 : x.kind = 3 ∨ x.kind = 4 → ofK x.kind = 2 := fun e => by rcases e with e | e <;> rw [e] <;> rfl
  have k567 : x.kind = 5 ∨ x.kind = 6 ∨ x.kind = 7 → ofK x.kind = 1 := fun e => by rcases e with e | e | e <;> rw [e] <;> rfl
  refine ⟨?_, fun e => two (k34 e), fun e => one (k567 e)⟩
  have hgoal : ((stepS s x).st.length : Int) = s.st.length - ofK x.kind + 1 := by
    rcases hk with e | e | e | e | e | e | e
    · unfold stepS; rw [if_pos e, e]; simp [ofK]
    · unfold stepS; rw [if_neg (by omega), if_pos e, e]; simp [ofK]
    · obtain ⟨b, a, st, hs⟩ := two (k34 (Or.inl e))
      unfold stepS; rw [if_neg (by omega), if_neg (by omega), if_pos e, hs, k34 (Or.inl e)]; simp; omega
    · obtain ⟨b, a, st, hs⟩ := two (k34 (Or.inr e))
      unfold stepS; rw [if_neg (by omega), if_neg (by omega), if_neg (by omega), if_pos e, hs, k34 (Or.inr e)]; simp; omega
    all_goals
      obtain ⟨a, st, hs⟩ := one (k567 (by omega))
      unfold stepS; rw [if_neg (by omega), if_neg (by omega), if_neg (by omega), if_neg (by omega), hs, k567 (by omega)]; simp
  rw [hgoal]
  exact hr

theorem checkL_len {l : List Rx} (h : checkL l = 0) : l.length ≤ 512 := by
  unfold checkL at h
  split at h
  · omega
  · omega

/-- the cells of the parts at hand, the last one first -/
def StC : List PV → List Pt → Prop
  | cs, [] => cs = []
  | cs, p :: st => ∃ cs' a b, cs = cs' ++ [a, b, B p.free, I p.n] ∧ isF a p.first ∧ isL b p.last ∧ StC cs' st
theorem StC.len : ∀ {st : List Pt} {cs : List PV}, StC cs st → cs.length = st.length * 4
  | [], _, h => by rw [show _ = [] from h]; rfl
  | p :: st, _, ⟨cs', a, b, e, _, _, h⟩ => by have := StC.len h; rw [e]; simp [this]; omega

def StkR (H : PHeap) (sv : PV) (m : Nat) (cs : List PV) : Prop := (sv = .u (.slice none 0 0) ∧ m = 0) ∨ ∃ vt, sv = .ps 2 vt ∧ H 2 = ⟨vt, some (.row 69 4 m cs)⟩

/-- over's heap: the struct x, its two rows, the stack's variable, its row -/
def OvH (H : PHeap) (vx v1 : Nat) (sets : List Rx) (fol : List (List Int)) (st : List Pt) : Prop :=
  ∃ vs vf fc sv cs, H 0 = ⟨vx, some (.box 71 [rowV sets.length 3 vs, rowV sets.length 4 vf, .u (.slice none 0 0), .u (.slice none 0 0), B false, I 0])⟩ ∧ RowAt H 56 4 sets.length 3 vs (setCs sets) ∧ RowAt H 30 1 sets.length 4 vf fc ∧ FolAt fc fol ∧
    H 1 = ⟨v1, some (.box 86 [sv])⟩ ∧ StkR H sv st.length cs ∧ StC cs st
theorem StkR.mono {H H' : PHeap} {sv : PV} {m : Nat} {cs : List PV} (h : StkR H sv m cs) (he : H' 2 = H 2) : StkR H' sv m cs := by
  rcases h with h | ⟨vt, h1, h2⟩
  · exact .inl h
  · exact .inr ⟨vt, h1, he.trans h2⟩
theorem OvH.mono {H H' : PHeap} {vx v1 : Nat} {sets : List Rx} {fol : List (List Int)} {st : List Pt} (h : OvH H vx v1 sets fol st) (he : ∀ j, j < 5 → H' j = H j) : OvH H' vx v1 sets fol st := by
  obtain ⟨vs, vf, fc, sv, cs, h0, h1, h2, h3, h4, h5, h6⟩ := h
  exact ⟨vs, vf, fc, sv, cs, (he 0 (by omega)).trans h0, h1.mono (he 3 (by omega)), h2.mono (he 4 (by omega)), h3, (he 1 (by omega)).trans h4, h5.mono (he 2 (by omega)), h6⟩

theorem pop_ov {H : PHeap} {vx v1 : Nat} {sets : List Rx} {fol : List (List Int)} {p : Pt} {st : List Pt} (h : OvH H vx v1 sets fol (p :: st)) (hl : st.length ≤ 1000) :
    PIn Try.prog 45 [.pp 1 0 v1] H (fun q H' => ∃ a b, q = .agg [a, b, B p.free, I p.n] ∧ isF a p.first ∧ isL b p.last ∧ OvH H' vx v1 sets fol st ∧ ∀ j, 5 ≤ j → j < 20 → H' j = H j) := by
  obtain ⟨vs, vf, fc, sv, cs, h0, h1, h2, h3, h4, h5, h6⟩ := h
  obtain ⟨cs', a, b, rfl, ha, hb, h6⟩ := h6
  rcases h5 with ⟨_, h5⟩ | ⟨vt, rfl, h5⟩
  · cases h5
  refine (pop_in 1 2 v1 vt st.length 20 H cs' a b _ _ h4 h5 h6.len (by decide) (by decide) (by decide) (by omega) (fun H' => ha.leaf H') (fun H' => hb.leaf H') (fun H' => rfl) (fun H' => rfl)).mono ?_
  rintro q H' ⟨rfl, e1, e2, ho⟩
  exact ⟨a, b, rfl, ha, hb, ⟨vs, vf, fc, _, cs', (ho 0 (by omega) (by omega) (by omega)).trans h0, h1.mono (ho 3 (by omega) (by omega) (by omega)), h2.mono (ho 4 (by omega) (by omega) (by omega)), h3, e1, .inr ⟨_, rfl, e2⟩, h6⟩, fun j h7 h8 => ho j h8 (by omega) (by omega)⟩

theorem set_ov {H : PHeap} {vx v1 : Nat} {sets : List Rx} {fol : List (List Int)} {st : List Pt} (x : Rx) (h : OvH H vx v1 sets fol st) (hl : sets.length ≤ 1000) :
    PIn Try.prog 46 [.pp 0 0 vx, encS x] H (fun q H' => q = .agg [frI [(sets.length : Int)], slI [(sets.length : Int)], B false, I 1] ∧ OvH H' vx v1 (sets ++ [x]) (fol ++ [[]]) st ∧ ∀ j, 5 ≤ j → j < 20 → H' j = H j) := by
  obtain ⟨vs, vf, fc, sv, cs, h0, h1, h2, h3, h4, h5, h6⟩ := h
  refine (set_in 0 vx 3 vs 4 vf sets.length 20 H _ _ _ _ sets fc x.s0 x.s1 x.s2 x.s3 h0 h1 h2 (by decide) (by decide) (by decide) (by decide) (by decide) (by decide) (by omega)).mono ?_
  rintro q H' ⟨rfl, vs', vf', e1, e2, e3, ho⟩
  have hm : (sets ++ [x]).length = sets.length + 1 := by simp
  refine ⟨rfl, ⟨vs', vf', fc ++ [.u (.slice none 0 0)], sv, cs, ?_, ?_, ?_, ?_, (ho 1 (by omega) (by omega) (by omega) (by omega)).trans h4, h5.mono (ho 2 (by omega) (by omega) (by omega) (by omega)), h6⟩, fun j h7 h8 => ho j h8 (by omega) (by omega) (by omega)⟩
  · rw [e1, hm, rowV_pos (by omega), rowV_pos (by omega)]
  · rw [hm]; exact ⟨by rw [setCs_len]; simp, fun _ => by rw [e2]; simp [setCs]⟩
  · rw [hm]; exact ⟨by have := h2.1; simp; omega, fun _ => e3⟩
  · refine ⟨by simp [h3.1], fun i q l hi hj => ?_⟩
    have hl := h3.1
    by_cases hlt : i < fc.length
    · rw [List.getElem?_append_left hlt] at hi
      rw [List.getElem?_append_left (by omega)] at hj
      exact h3.2 i q l hi hj
    · rw [List.getElem?_append_right (by omega)] at hi hj
      rw [hl] at hi
      cases he : i - fol.length with
      | zero => rw [he] at hi hj; simp at hi hj; subst hi; subst hj; exact .inr ⟨rfl, rfl⟩
      | succ n => rw [he] at hi; simp at hi

theorem behind_ov {H : PHeap} {vx v1 : Nat} {sets : List Rx} {fol : List (List Int)} {st : List Pt} {pa pb : PV} (a b : List Int) (h : OvH H vx v1 sets fol st) (hl : sets.length ≤ 1000) (hfl : fol.length = sets.length) (hpa : isL pa a) (hpb : isF pb b) (hsm : SmF sets.length fol)
    (hb : Rising b ∧ ∀ y ∈ b, 0 ≤ y ∧ y < (sets.length : Int)) (ha : Rising a ∧ ∀ y ∈ a, 0 ≤ y ∧ y < (sets.length : Int)) :
    PIn Try.prog 49 [.pp 0 0 vx, pa, pb] H (fun q H' => q = .tup [] ∧ OvH H' vx v1 sets (a.foldl (updF b) fol) st ∧ ∀ j, 5 ≤ j → H' j = H j) := by
  obtain ⟨vs, vf, fc, sv, cs, h0, h1, h2, h3, h4, h5, h6⟩ := h
  have la := rising_le _ ha.1 _ ha.2
  have lb := rising_le _ hb.1 _ hb.2
  refine (behind_in 0 vx 4 vf sets.length H _ _ _ _ _ pa pb fc fol a b sets.length h0 h2 hfl (by decide) h3 hpa hpb hl hsm hb.2 (by omega) (by rw [hfl]; exact ha.2) (by omega)).mono ?_
  rintro q H' ⟨rfl, ho, fc', e1, e2⟩
  exact ⟨rfl, ⟨vs, vf, fc', sv, cs, (ho 0 (by omega)).trans h0, h1.mono (ho 3 (by omega)), e1, e2, (ho 1 (by omega)).trans h4, h5.mono (ho 2 (by omega)), h6⟩, fun j h7 => ho j (by omega)⟩

theorem cat_ov {H : PHeap} {vx v1 : Nat} {sets : List Rx} {fol : List (List Int)} {st : List Pt} {a1 a2 b1 b2 : PV} (pa pb : Pt) (h : OvH H vx v1 sets fol st) (hl : sets.length ≤ 1000) (hfl : fol.length = sets.length) (hsm : SmF sets.length fol) (hpa : PtOk sets.length pa) (hpb : PtOk sets.length pb) (hsum : pa.n + pb.n ≤ sets.length)
    (ha1 : isF a1 pa.first) (ha2 : isL a2 pa.last) (hb1 : isF b1 pb.first) (hb2 : isL b2 pb.last) :
    PIn Try.prog 47 [.pp 0 0 vx, .agg [a1, a2, B pa.free, I pa.n], .agg [b1, b2, B pb.free, I pb.n]] H (fun q H' => ∃ f' l', q = .agg [f', l', B (pa.free && pb.free), I (pa.n + pb.n)] ∧ isF f' (pickU pa.free pa.first pb.first pa.first) ∧ isL l' (pickU pb.free pa.last pb.last pb.last) ∧
      OvH H' vx v1 sets (pa.last.foldl (updF pb.first) fol) st ∧ ∀ j, 5 ≤ j → j < 20 → H' j = H j) := by
  obtain ⟨vs, vf, fc, sv, cs, h0, h1, h2, h3, h4, h5, h6⟩ := h
  refine (cat_in 0 vx 4 vf sets.length 20 sets.length H _ _ _ _ _ fc fol pa pb a1 a2 b1 b2 h0 h2 hfl (by decide) h3 ha1 ha2 hb1 hb2 hl hfl hsm hpa hpb hsum (by decide) (by decide)).mono ?_
  rintro q H' ⟨f', l', rfl, hf, hl', ⟨fc', e1, e2⟩, ho⟩
  exact ⟨f', l', rfl, hf, hl', ⟨vs, vf, fc', sv, cs, (ho 0 (by omega) (by omega)).trans h0, h1.mono (ho 3 (by omega) (by omega)), e1, e2, (ho 1 (by omega) (by omega)).trans h4, h5.mono (ho 2 (by omega) (by omega)), h6⟩, fun j h7 h8 => ho j h8 (by omega)⟩

theorem PL.appendS {P : Program} {W : Env} {n : Nat} {F : PFrame} {H : PHeap} {o : Oper} {l : List Oper} {ops : Array Oper} {K : PFrame → PHeap → Prop} {s x : Operand} {t : TypeId} {b d m : Nat} {z : Value} {cs cs2 : List PV} {px sv : PV} (hg : o.guard = none) (ho : o.op = .call { callee := .builtin .append, args := #[s, x], argTypes := #[t, t] }) (hd : o.dst = some d) (hdn : d < n) (ht : selem P t = some (69, 4, b, z))
    (hs : evP F s = sv) (hr : StkR H sv m cs) (hc : cs.length = m * 4) (hp : evP F x = px) (hx : srcP H 4 px = some (1, cs2)) (hleaf : ∀ p ∈ cs2, leafOk H p = true) (h63 : m + 1 ≤ maxLen) (hbytes : (m + 1) * b ≤ 140737488355328)
    (h : ∀ vt H', H' 2 = ⟨vt, some (.row 69 4 (m + 1) (cs ++ cs2))⟩ → (∀ j, j ≠ 2 → H' j = H j) → PL P W n ops l (F.put (some d) (.ps 2 vt)) H' K) : PL P W n ops (o :: l) F H K := by
  rcases hr with ⟨rfl, rfl⟩ | ⟨vt, rfl, h2⟩
  · exact PL.appendA (id := 2) (ver := 0) (m := 0) hg ho hd hdn ht hs ⟨by simpa using hc, fun h => absurd rfl h⟩ hp hx hleaf h63 hbytes h
  · subst hp
    refine PL.pe hg (PE.append (cs := cs) ho hd hdn ht hs (by simp [liveRow, h2]) hx hleaf h63 hbytes ?_)
    rw [hd]
    exact absH (h _)

/-! two operations in whatever order -/
section
variable {P : Program} {W : Env} {n : Nat} {F : PFrame} {H : PHeap} {ops : Array Oper} {K : PFrame → PHeap → Prop} {fuel : Nat} {listed : Array Bool}
theorem PA.one {i : Nat} {o : Oper} (hr : Region.ready .any ops listed = [i]) (ho : ops[i]? = some o) (hg : o.guard = none) (h : PE P W n o F H fun p H' => PA P W n ops K fuel (listed.setIfInBounds i true) (F.put o.dst p) H') : PA P W n ops K (fuel + 1) listed F H :=
  ⟨fun h0 => (by rw [hr] at h0; cases h0), fun j hj => by
    rw [hr] at hj
    simp at hj; subst hj
    exact ⟨o, ho, by unfold wantedP; rw [hg], h⟩⟩
theorem PA.two {i i' : Nat} {o o' : Oper} (hr : Region.ready .any ops listed = [i, i']) (ho : ops[i]? = some o) (ho' : ops[i']? = some o') (hg : o.guard = none) (hg' : o'.guard = none) (h : PE P W n o F H fun p H' => PA P W n ops K fuel (listed.setIfInBounds i true) (F.put o.dst p) H')
    (h' : PE P W n o' F H fun p H' => PA P W n ops K fuel (listed.setIfInBounds i' true) (F.put o'.dst p) H') : PA P W n ops K (fuel + 1) listed F H :=
  ⟨fun h0 => (by rw [hr] at h0; cases h0), fun j hj => by
    rw [hr] at hj
    simp at hj
    rcases hj with rfl | rfl
    · exact ⟨o, ho, by unfold wantedP; rw [hg], h⟩
    · exact ⟨o', ho', by unfold wantedP; rw [hg'], h'⟩⟩
theorem PE.k {o : Oper} {p : PV} {k : PV → PHeap → Prop} (hd : dstOk n o) (hp : pstep P H F o = some p) (hk : k p H) : PE P W n o F H k := PE.quiet hd (pstep_sound hp) hk
theorem PE.storeA {o : Oper} {t T : TypeId} {x y : Operand} {id off ver k : Nat} {ag : Bool} {cs cs' ps : List PV} {v : PV} {K : PV → PHeap → Prop} (ho : o.op = .store t x y) (hd : dstOk n o) (hx : evP F x = .pp id off ver) (hH : H id = ⟨ver, some (.box T cs)⟩) (ht : asz P t = some (ag, k)) (hv : evP F y = v) (hok : okC H v = true) (hvc : v.cells = ps) (hlen : ps.length = k) (hfit : off + k ≤ cs.length) (hcs : setMany cs off ps = cs')
    (h : ∀ H', H' id = ⟨ver, some (.box T cs')⟩ → (∀ j, j ≠ id → H' j = H j) → K (.u undef) H') : PE P W n o F H K := by
  subst hv; subst hvc; subst hcs
  exact PE.store ho hd hx (cs := cs) (by simp [liveCells, hH]) ht hok hlen hfit (bd := .box T cs) (by rw [hH]) (absH h)
theorem PA.done (hr : Region.ready .any ops listed = []) (h : K F H) : PA P W n ops K 0 listed F H := ⟨hr, h⟩
end
end Go.Proofs.Ythcckhpogmlgjaa

/-
  The package spot over pure values: over.
-/
namespace Go.Proofs.Ythcckhpogmlgjaa
open Go Go.RowKit L
set_option linter.unusedVariables false
set_option linter.unusedSimpArgs false

theorem step1 (S : SM) (x : Rx) (e : x.kind = 1) : stepS S x = ⟨S.sets ++ [x], S.fol ++ [[]], ⟨[(S.sets.length : Int)], [(S.sets.length : Int)], false, 1⟩ :: S.st⟩ := by unfold stepS; rw [if_pos e]
theorem step3 (S : SM) (x : Rx) (b a : Pt) (r : List Pt) (hs : S.st = b :: a :: r) (e : x.kind = 3) : stepS S x = ⟨S.sets, a.last.foldl (updF b.first) S.fol, ⟨pickU a.free a.first b.first a.first, pickU b.free a.last b.last b.last, a.free && b.free, a.n + b.n⟩ :: r⟩ := by
  unfold stepS
  rw [if_neg (by omega), if_neg (by omega), if_pos e, hs]
theorem step4 (S : SM) (x : Rx) (b a : Pt) (r : List Pt) (hs : S.st = b :: a :: r) (e : x.kind = 4) : stepS S x = ⟨S.sets, S.fol, ⟨riseL (a.first ++ b.first), riseL (a.last ++ b.last), a.free || b.free, a.n + b.n⟩ :: r⟩ := by
  unfold stepS
  rw [if_neg (by omega), if_neg (by omega), if_neg (by omega), if_pos e, hs]
theorem step2 (S : SM) (x : Rx) (e : x.kind = 2) : stepS S x = ⟨S.sets, S.fol, ⟨[], [], true, 0⟩ :: S.st⟩ := by unfold stepS; rw [if_neg (by omega), if_pos e]
theorem step5 (S : SM) (x : Rx) (a : Pt) (r : List Pt) (hs : S.st = a :: r) (e : x.kind = 5 ∨ x.kind = 6 ∨ x.kind = 7) : stepS S x = ⟨S.sets, if x.kind = 7 then S.fol else a.last.foldl (updF a.first) S.fol, ⟨a.first, a.last, a.free || decide (x.kind ≠ 6), a.n⟩ :: r⟩ := by
  unfold stepS
  rw [if_neg (by omega), if_neg (by omega), if_neg (by omega), if_neg (by omega), hs]

theorem stepS_st (s : SM) (x : Rx) : (stepS s x).st.length ≤ s.st.length + 1 := by
  obtain ⟨sets, fol, st⟩ := s
  unfold stepS
  split
  · simp
  split
  · simp
  split
  · split <;> simp_all <;> omega
  split
  · split <;> simp_all <;> omega
  split <;> simp_all
theorem runS_stl (l : List Rx) (k : Nat) (hk : k ≤ l.length) : (runS (l.take k)).st.length ≤ k := by
  induction k with
  | zero => simp [runS]
  | succ k ih =>
    rw [runS_succ l k hk]
    have := stepS_st (runS (l.take k)) l[k]
    have := ih (by omega)
    omega

def popV (v1 : Nat) : PV := .fn (.func 45) [] [.pp 1 0 v1]
def FrO (F : PFrame) (l : List Rx) (vx v1 k : Nat) : Prop := F 0 = slX l ∧ F 3 = .pp 0 0 vx ∧ F 4 = .pp 1 0 v1 ∧ F 5 = popV v1 ∧ F 18 = slX l ∧ F 19 = I l.length ∧ F 20 = I k
/-- behind the switch: the new part, the stack below it -/
def MidO (l : List Rx) (vx v1 k : Nat) (S : SM) (F : PFrame) (H : PHeap) : Prop :=
  FrO F l vx v1 k ∧ ∃ v8 p st a b, F 8 = .pp 6 0 v8 ∧ S.st = p :: st ∧ H 6 = ⟨v8, some (.box 69 [a, b, B p.free, I p.n])⟩ ∧ isF a p.first ∧ isL b p.last ∧ OvH H vx v1 S.sets S.fol st

set_option maxRecDepth 20000 in
set_option maxHeartbeats 4000000 in
theorem over_in (l : List Rx) (H : PHeap) (hl : checkL l = 0) :
    PIn Try.prog 32 [slX l] H (fun q H' => ∃ vx vs vf fc a b p, q = .pp 0 0 vx ∧ (runS l).st = [p] ∧ H' 0 = ⟨vx, some (.box 71 [rowV (runS l).sets.length 3 vs, rowV (runS l).sets.length 4 vf, a, b, B p.free, I p.n])⟩ ∧ RowAt H' 56 4 (runS l).sets.length 3 vs (setCs (runS l).sets) ∧
      RowAt H' 30 1 (runS l).sets.length 4 vf fc ∧ FolAt fc (runS l).fol ∧ isF a p.first ∧ isL b p.last) := by
  have hl512 := checkL_len hl
  have nX : NoP (slX l) := .sl _ _ fun c hc => by obtain ⟨z, _, rfl⟩ := List.mem_map.1 hc; exact .agg _ (fun c hc => by simp at hc; rcases hc with rfl | rfl | rfl | rfl | rfl <;> exact .u _)
  refine PIn.intro Try.func32 rfl Try.ntmps32 (by simp) (by kernel_rfl) fun W => ?_
  refine PC.seq fun K hK => ?_
  refine PC.region ?_
  repeat (refine PL.k rfl fun KK hKK => ?_; simp [go_sem, stepK]; refine hKK _ ?_; clear hKK KK)
  refine PL.done hK ?_; clear hK
  refine PC.seq fun K hK => ?_
  refine PC.seq fun K2 hK2 => ?_
  refine PC.region ?_
  repeat (refine PL.k rfl fun KK hKK => ?_; simp [go_sem, stepK]; refine hKK _ ?_; clear hKK KK)
  refine PL.call (qs := [slX l]) rfl rfl (by kernel_rfl) (rxCheck_ok l) (by simp [go_sem]) (by simp [go_sem]) ?_ ?_
  · simp [go_sem, nX, View.noP]
  repeat (refine PL.k rfl fun KK hKK => ?_; simp [go_sem, stepK, hl]; refine hKK _ ?_; clear hKK KK)
  refine PL.done hK2 ?_; clear hK2
  refine PC.condF (by simp [go_sem]) ?_
  refine PC.skip (hK _ _ ?_); clear hK
  refine PC.seq fun K hK => ?_
  refine PC.region ?_
  repeat (refine PL.k rfl fun KK hKK => ?_; simp [go_sem, stepK]; refine hKK _ ?_; clear hKK KK)
  refine PL.boxA 0 (d := 16) rfl rfl rfl (by simp) (v := .agg [.u (.slice none 0 0), .u (.slice none 0 0), .u (.slice none 0 0), .u (.slice none 0 0), B false, I 0]) (by simp [go_sem]) rfl rfl fun vx H1 b1 o1 => ?_
  repeat (refine PL.k rfl fun KK hKK => ?_; simp [go_sem, stepK]; refine hKK _ ?_; clear hKK KK)
  refine PL.done hK ?_; clear hK
  refine PC.seq fun K hK => ?_
  refine PC.region ?_
  refine PL.allocA 1 (d := 4) rfl rfl rfl (by simp) zeroC_86 rfl rfl fun v1 H2 b2 o2 => ?_
  refine PL.done hK ?_; clear hK
  refine PC.seq fun K hK => ?_
  refine PC.region ?_
  repeat (refine PL.k rfl fun KK hKK => ?_; simp [go_sem, stepK]; refine hKK _ ?_; clear hKK KK)
  refine PL.done hK ?_; clear hK
  have hov : OvH H2 vx v1 [] [] [] := ⟨0, 0, [], .u (.slice none 0 0), [], (o2 0 (by decide)).trans b1, ⟨rfl, fun h => absurd rfl h⟩, ⟨rfl, fun h => absurd rfl h⟩, ⟨rfl, fun i p l h => by simp at h⟩, b2, .inl ⟨rfl, rfl⟩, rfl⟩
  have hlen : ∀ H, lenP Try.prog H 22 (slX l) = some (I l.length) := fun H => by simp [slX, go_sem]
  refine PC.seqM (fun F H' => FrO F l vx v1 l.length ∧ OvH H' vx v1 (runS l).sets (runS l).fol (runS l).st ∧ checkLoop [] (runS l).st.length = 0) ?_ ?_
  · refine PC.seq fun K hK => ?_
    refine PC.region ?_
    repeat (refine PL.k rfl fun KK hKK => ?_; simp [go_sem, stepK, hlen]; refine hKK _ ?_; clear hKK KK)
    refine PL.done hK ?_; clear hK
    refine PC.block ?_
    refine PC.loop (fun m F H' => ∃ k : Nat, k ≤ l.length ∧ m = l.length - k ∧ FrO F l vx v1 k ∧ OvH H' vx v1 (runS (l.take k)).sets (runS (l.take k)).fol (runS (l.take k)).st ∧ checkLoop (l.drop k) (runS (l.take k)).st.length = 0) (m := l.length) ⟨0, by omega, by omega, by simp [FrO, go_sem, popV], hov, ?_⟩ fun m F H' hI => ?_
    · unfold checkL at hl
      rw [if_neg (by omega)] at hl
      simpa [runS] using hl
    obtain ⟨k, hk, hm, ⟨f0, f3, f4, f5, f18, f19, f20⟩, hov, hchk⟩ := hI
    by_cases hlt : k < l.length
    · obtain ⟨hok, hok2⟩ := runS_ok l k hk
      have hsucc := runS_succ l k hlt
      rw [drop_cons l k hlt] at hchk
      obtain ⟨hkind, -⟩ := chk_step hchk
      obtain ⟨hnext, htwo, hone⟩ := chk_next hchk
      rw [← hsucc] at hnext
      generalize hS : runS (l.take k) = S at *
      refine PC.seq fun K2 hK2 => ?_
      refine PC.region ?_
      repeat (refine PL.k rfl fun KK hKK => ?_; simp [go_sem, stepK, f20, f19]; refine hKK _ ?_; clear hKK KK)
      refine PL.done hK2 ?_; clear hK2
      refine PC.seq fun K2 hK2 => ?_
      refine PC.condT (by simp [go_sem, hlt]) ?_
      refine PC.skip (hK2 _ _ ?_); clear hK2
      refine PC.seqM (fun F H' => FrO F l vx v1 k ∧ OvH H' vx v1 (stepS S l[k]).sets (stepS S l[k]).fol (stepS S l[k]).st) ?_ ?_
      · refine PC.block ?_
        refine PC.seq fun K2 hK2 => ?_
        refine PC.region ?_
        have h18 : F 18 = .sl 5 (l.map encX) := f18
        have hkm : k < (l.map encX).length := by simpa using hlt
        repeat (refine PL.k rfl fun KK hKK => ?_; simp [go_sem, stepK, h18, f20, hlt, hkm]; refine hKK _ ?_; clear hKK KK)
        refine PL.allocA 5 (d := 7) rfl rfl rfl (by simp) zeroC_58 rfl rfl fun v7 H3 b3 o3 => ?_
        refine PL.storeA (id := 5) rfl rfl (by simp [dstOk]) (by simp [go_sem]; rfl) b3 asz_58 (v := encX l[k]) (by simp [go_sem]; rfl) (by simp [go_sem, encX, W64]) rfl rfl (by simp) (cs' := [I l[k].kind, W64 l[k].s0, W64 l[k].s1, W64 l[k].s2, W64 l[k].s3]) rfl fun H4 b4 o4 => ?_
        refine PL.done hK2 ?_; clear hK2
        refine PC.seq fun K2 hK2 => ?_
        refine PC.region ?_
        refine PL.allocA 6 (d := 8) rfl rfl rfl (by simp) zeroC_69 rfl rfl fun v8 H5 b5 o5 => ?_
        have b45 := (o5 5 (by decide)).trans b4
        have hov5 : OvH H5 vx v1 S.sets S.fol S.st := hov.mono fun j hj => by rw [o5 j (by omega), o4 j (by omega), o3 j (by omega)]
        refine PL.done hK2 ?_; clear hK2
        refine PC.seqM (MidO l vx v1 k (stepS S l[k])) ?_ ?_
        · rcases hkind with e | e | e | e | e | e | e
          · rw [e] at b45
            refine PC.seq fun K2 hK2 => ?_
            refine PC.region ?_
            repeat (refine PL.k rfl fun KK hKK => ?_; simp [go_sem, stepK, b45]; refine hKK _ ?_; clear hKK KK)
            refine PL.done hK2 ?_; clear hK2
            refine PC.block ?_
            refine PC.seq fun K2 hK2 => ?_
            refine PC.region ?_
            repeat (refine PL.k rfl fun KK hKK => ?_; simp [go_sem, stepK]; refine hKK _ ?_; clear hKK KK)
            refine PL.done hK2 ?_; clear hK2
            refine PC.condT (by simp [go_sem]) ?_
            refine PC.region ?_
            repeat (refine PL.k rfl fun KK hKK => ?_; simp [go_sem, stepK, f3, b45]; refine hKK _ ?_; clear hKK KK)
            refine PL.inl rfl rfl (set_ov l[k] hov5 (by omega)) (by simp [go_sem]) (by simp [target, go_sem]; rfl) ?_
            rintro q H6 ⟨rfl, hov6, o6⟩
            have b6 := (o6 6 (by decide) (by decide)).trans b5
            refine PL.storeA (id := 6) rfl rfl (by simp [dstOk]) (by simp [go_sem]; rfl) b6 asz_69 (v := .agg [frI [(S.sets.length : Int)], slI [(S.sets.length : Int)], B false, I 1]) (by simp [go_sem]) (by simp [go_sem, slI]) rfl rfl (by simp) (cs' := [frI [(S.sets.length : Int)], slI [(S.sets.length : Int)], B false, I 1]) rfl fun H7 b7 o7 => ?_
            rw [step1 _ _ e]
            exact PL.nil ⟨by simp [FrO, go_sem, f0, f3, f4, f5, f18, f19, f20], v8, _, S.st, frI [(S.sets.length : Int)], slI [(S.sets.length : Int)], by simp [go_sem], rfl, b7, isF_fr _, isL_sl _, hov6.mono fun j hj => o7 j (by omega)⟩
          · rw [e] at b45
            refine PC.seq fun K2 hK2 => ?_
            refine PC.region ?_
            repeat (refine PL.k rfl fun KK hKK => ?_; simp [go_sem, stepK, b45]; refine hKK _ ?_; clear hKK KK)
            refine PL.done hK2 ?_; clear hK2
            refine PC.block ?_
            refine PC.seq fun K2 hK2 => ?_
            refine PC.region ?_
            repeat (refine PL.k rfl fun KK hKK => ?_; simp [go_sem, stepK]; refine hKK _ ?_; clear hKK KK)
            refine PL.done hK2 ?_; clear hK2
            refine PC.condF (by simp [go_sem]) ?_
            refine PC.seq fun K2 hK2 => ?_
            refine PC.region ?_
            repeat (refine PL.k rfl fun KK hKK => ?_; simp [go_sem, stepK]; refine hKK _ ?_; clear hKK KK)
            refine PL.done hK2 ?_; clear hK2
            refine PC.condT (by simp [go_sem]) ?_
            refine PC.region ?_
            repeat (refine PL.k rfl fun KK hKK => ?_; simp [go_sem, stepK, b5]; refine hKK _ ?_; clear hKK KK)
            refine PL.storeA (id := 6) rfl rfl (by simp [dstOk]) (by simp [go_sem]; rfl) b5 asz_4 (v := B true) (by simp [go_sem]) (by simp [go_sem]) rfl rfl (by simp) (cs' := [.u (.slice none 0 0), .u (.slice none 0 0), B true, I 0]) rfl fun H7 b7 o7 => ?_
            rw [step2 _ _ e]
            exact PL.nil ⟨by simp [FrO, go_sem, f0, f3, f4, f5, f18, f19, f20], v8, _, S.st, .u (.slice none 0 0), .u (.slice none 0 0), by simp [go_sem], rfl, b7, .inr ⟨rfl, rfl⟩, .inr ⟨rfl, rfl⟩, hov5.mono fun j hj => o7 j (by omega)⟩
          · rw [e] at b45
            refine PC.seq fun K2 hK2 => ?_
            refine PC.region ?_
            repeat (refine PL.k rfl fun KK hKK => ?_; simp [go_sem, stepK, b45]; refine hKK _ ?_; clear hKK KK)
            refine PL.done hK2 ?_; clear hK2
            refine PC.block ?_
            refine PC.seq fun K2 hK2 => ?_
            refine PC.region ?_
            repeat (refine PL.k rfl fun KK hKK => ?_; simp [go_sem, stepK]; refine hKK _ ?_; clear hKK KK)
            refine PL.done hK2 ?_; clear hK2
            refine PC.condF (by simp [go_sem]) ?_
            refine PC.seq fun K2 hK2 => ?_
            refine PC.region ?_
            repeat (refine PL.k rfl fun KK hKK => ?_; simp [go_sem, stepK]; refine hKK _ ?_; clear hKK KK)
            refine PL.done hK2 ?_; clear hK2
            refine PC.condF (by simp [go_sem]) ?_
            refine PC.seq fun K2 hK2 => ?_
            refine PC.region ?_
            repeat (refine PL.k rfl fun KK hKK => ?_; simp [go_sem, stepK]; refine hKK _ ?_; clear hKK KK)
            refine PL.done hK2 ?_; clear hK2
            refine PC.condT (by simp [go_sem]) ?_
            obtain ⟨pb, pa, st, hst⟩ := htwo (.inl e)
            rw [hst] at hov5
            have hpb := hok.pts pb (by rw [hst]; simp)
            have hpa := hok.pts pa (by rw [hst]; simp)
            have hsum : pa.n + pb.n ≤ S.sets.length := by
              have h1 := hok.sum
              rw [hst] at h1
              simp only [sumN] at h1
              have h2 := sumN_nonneg S.sets.length st (fun p hp => hok.pts p (by rw [hst]; simp [hp]))
              omega
            have hstl : st.length ≤ 510 := by
              have := runS_stl l k hk
              rw [hS, hst] at this
              simp at this
              omega
            refine PC.seq fun K2 hK2 => ?_
            refine PC.region ?_
            repeat (refine PL.k rfl fun KK hKK => ?_; simp [go_sem, stepK, f5]; refine hKK _ ?_; clear hKK KK)
            refine PL.inl rfl rfl (pop_ov hov5 (by simp; omega)) (by simp [go_sem]) (by simp [target, go_sem, popV]) ?_
            rintro q H6 ⟨b1', b2', rfl, hb1, hb2, hov6, o6⟩
            have b56 := (o6 6 (by decide) (by decide)).trans b5
            refine PL.allocA 7 (d := 9) rfl rfl rfl (by simp) zeroC_69 rfl rfl fun v9 H7 b7 o7 => ?_
            refine PL.storeA (id := 7) rfl rfl (by simp [dstOk]) (by simp [go_sem]; rfl) b7 asz_69 (v := .agg [b1', b2', B pb.free, I pb.n]) (by simp [go_sem]) (by simp [okC, hb1.leaf, hb2.leaf, leafB, leafI]) rfl rfl (by simp) (cs' := [b1', b2', B pb.free, I pb.n]) rfl fun H8 b8 o8 => ?_
            have b58 := (o8 6 (by decide)).trans ((o7 6 (by decide)).trans b56)
            have hov8 := hov6.mono (H' := H8) fun j hj => by rw [o8 j (by omega), o7 j (by omega)]
            refine PL.done hK2 ?_; clear hK2
            refine PC.regionMA 2 mixed (by simp) (by kernel_rfl) (by kernel_rfl) (by simp [dstOk]) ?_
            simp only [List.take_succ_cons, List.take_zero, movesF, moveOf, List.foldl_cons, List.foldl_nil]
            refine PA.two (i := 2) (i' := 3) (by kernel_rfl) rfl rfl rfl rfl ?_ ?_
            · refine PE.inl (pop_ov hov8 (by omega)) (by simp [go_sem]) rfl (by simp [target, go_sem, popV, evP, f5]) ?_
              rintro q H9 ⟨a1, a2, rfl, ha1, ha2, hov9, o9⟩
              refine PA.one (i := 3) (by kernel_rfl) rfl rfl ?_
              refine PE.k (p := .agg [b1', b2', B pb.free, I pb.n]) (by simp [dstOk]) (by simp [go_sem, (o9 7 (by decide) (by decide)).trans b8]) ?_
              refine PA.one (i := 4) (by kernel_rfl) rfl rfl ?_
              refine PE.inl (cat_ov pa pb hov9 (by omega) hok.len hok.fol hpa hpb hsum ha1 ha2 hb1 hb2) (by simp [go_sem]) rfl (by simp [target, go_sem, evP, f3]) ?_
              rintro q H10 ⟨f', l', rfl, hf', hl', hov10, o10⟩
              have b510 := (o10 6 (by decide) (by decide)).trans ((o9 6 (by decide) (by decide)).trans b58)
              refine PA.one (i := 5) (by kernel_rfl) rfl rfl ?_
              refine PE.storeA (id := 6) rfl (by simp [dstOk]) (by simp [go_sem]; rfl) b510 asz_69 (v := .agg [f', l', B (pa.free && pb.free), I (pa.n + pb.n)]) (by simp [go_sem]) (by simp [okC, hf'.leaf, hl'.leaf, leafB, leafI]) rfl rfl (by simp) (cs' := [f', l', B (pa.free && pb.free), I (pa.n + pb.n)]) rfl fun H11 b11 o11 => ?_
              rw [step3 S _ pb pa st hst e]
              exact PA.done (by kernel_rfl) ⟨by simp [FrO, go_sem, f0, f3, f4, f5, f18, f19, f20], v8, _, st, f', l', by simp [go_sem], rfl, b11, hf', hl', hov10.mono fun j hj => o11 j (by omega)⟩
            · refine PE.k (p := .agg [b1', b2', B pb.free, I pb.n]) (by simp [dstOk]) (by simp [go_sem, b8]) ?_
              refine PA.one (i := 2) (by kernel_rfl) rfl rfl ?_
              refine PE.inl (pop_ov hov8 (by omega)) (by simp [go_sem]) rfl (by simp [target, go_sem, popV, evP, f5]) ?_
              rintro q H9 ⟨a1, a2, rfl, ha1, ha2, hov9, o9⟩
              refine PA.one (i := 4) (by kernel_rfl) rfl rfl ?_
              refine PE.inl (cat_ov pa pb hov9 (by omega) hok.len hok.fol hpa hpb hsum ha1 ha2 hb1 hb2) (by simp [go_sem]) rfl (by simp [target, go_sem, evP, f3]) ?_
              rintro q H10 ⟨f', l', rfl, hf', hl', hov10, o10⟩
              have b510 := (o10 6 (by decide) (by decide)).trans ((o9 6 (by decide) (by decide)).trans b58)
              refine PA.one (i := 5) (by kernel_rfl) rfl rfl ?_
              refine PE.storeA (id := 6) rfl (by simp [dstOk]) (by simp [go_sem]; rfl) b510 asz_69 (v := .agg [f', l', B (pa.free && pb.free), I (pa.n + pb.n)]) (by simp [go_sem]) (by simp [okC, hf'.leaf, hl'.leaf, leafB, leafI]) rfl rfl (by simp) (cs' := [f', l', B (pa.free && pb.free), I (pa.n + pb.n)]) rfl fun H11 b11 o11 => ?_
              rw [step3 S _ pb pa st hst e]
              exact PA.done (by kernel_rfl) ⟨by simp [FrO, go_sem, f0, f3, f4, f5, f18, f19, f20], v8, _, st, f', l', by simp [go_sem], rfl, b11, hf', hl', hov10.mono fun j hj => o11 j (by omega)⟩
          · rw [e] at b45
            refine PC.seq fun K2 hK2 => ?_
            refine PC.region ?_
            repeat (refine PL.k rfl fun KK hKK => ?_; simp [go_sem, stepK, b45]; refine hKK _ ?_; clear hKK KK)
            refine PL.done hK2 ?_; clear hK2
            refine PC.block ?_
            refine PC.seq fun K2 hK2 => ?_
            refine PC.region ?_
            repeat (refine PL.k rfl fun KK hKK => ?_; simp [go_sem, stepK]; refine hKK _ ?_; clear hKK KK)
            refine PL.done hK2 ?_; clear hK2
            refine PC.condF (by simp [go_sem]) ?_
            refine PC.seq fun K2 hK2 => ?_
            refine PC.region ?_
            repeat (refine PL.k rfl fun KK hKK => ?_; simp [go_sem, stepK]; refine hKK _ ?_; clear hKK KK)
            refine PL.done hK2 ?_; clear hK2
            refine PC.condF (by simp [go_sem]) ?_
            refine PC.seq fun K2 hK2 => ?_
            refine PC.region ?_
            repeat (refine PL.k rfl fun KK hKK => ?_; simp [go_sem, stepK]; refine hKK _ ?_; clear hKK KK)
            refine PL.done hK2 ?_; clear hK2
            refine PC.condF (by simp [go_sem]) ?_
            refine PC.seq fun K2 hK2 => ?_
            refine PC.region ?_
            repeat (refine PL.k rfl fun KK hKK => ?_; simp [go_sem, stepK]; refine hKK _ ?_; clear hKK KK)
            refine PL.done hK2 ?_; clear hK2
            refine PC.condT (by simp [go_sem]) ?_
            obtain ⟨pb, pa, st, hst⟩ := htwo (.inr e)
            rw [hst] at hov5
            have hpb := hok.pts pb (by rw [hst]; simp)
            have hpa := hok.pts pa (by rw [hst]; simp)
            have hsum : pa.n + pb.n ≤ S.sets.length := by
              have h1 := hok.sum
              rw [hst] at h1
              simp only [sumN] at h1
              have h2 := sumN_nonneg S.sets.length st (fun p hp => hok.pts p (by rw [hst]; simp [hp]))
              omega
            have hstl : st.length ≤ 510 := by
              have := runS_stl l k hk
              rw [hS, hst] at this
              simp at this
              omega
            have lpt : ∀ (p : Pt), PtOk S.sets.length p → p.first.length ≤ 1000 ∧ p.last.length ≤ 1000 := fun p hp => by
              have h1 := rising_le _ hp.1.1 _ hp.1.2
              have h2 := rising_le _ hp.2.1.1 _ hp.2.1.2
              omega
            have la := lpt pa hpa
            have lb := lpt pb hpb
            have na := hpa.2.2
            have nb := hpb.2.2
            refine PC.seq fun K2 hK2 => ?_
            refine PC.region ?_
            repeat (refine PL.k rfl fun KK hKK => ?_; simp [go_sem, stepK, f5]; refine hKK _ ?_; clear hKK KK)
            refine PL.inl rfl rfl (pop_ov hov5 (by simp; omega)) (by simp [go_sem]) (by simp [target, go_sem, popV]) ?_
            rintro q H6 ⟨b1', b2', rfl, hb1, hb2, hov6, o6⟩
            have b56 := (o6 6 (by decide) (by decide)).trans b5
            repeat (refine PL.k rfl fun KK hKK => ?_; simp [go_sem, stepK, f5]; refine hKK _ ?_; clear hKK KK)
            refine PL.inl rfl rfl (pop_ov hov6 (by omega)) (by simp [go_sem]) (by simp [target, go_sem, popV]) ?_
            rintro q H6' ⟨a1', a2', rfl, ha1, ha2, hov6', o6'⟩
            have b56' := (o6' 6 (by decide) (by decide)).trans b56
            refine PL.allocA 8 (d := 10) rfl rfl rfl (by simp) zeroC_69 rfl rfl fun v10 H7 b7 o7 => ?_
            refine PL.allocA 9 (d := 11) rfl rfl rfl (by simp) zeroC_69 rfl rfl fun v11 H8 b8 o8 => ?_
            refine PL.storeA (id := 8) rfl rfl (by simp [dstOk]) (by simp [go_sem]; rfl) ((o8 8 (by decide)).trans b7) asz_69 (v := .agg [b1', b2', B pb.free, I pb.n]) (by simp [go_sem]) (by simp [okC, hb1.leaf, hb2.leaf, leafB, leafI]) rfl rfl (by simp) (cs' := [b1', b2', B pb.free, I pb.n]) rfl fun H9 b9 o9 => ?_
            refine PL.storeA (id := 9) rfl rfl (by simp [dstOk]) (by simp [go_sem]; rfl) ((o9 9 (by decide)).trans b8) asz_69 (v := .agg [a1', a2', B pa.free, I pa.n]) (by simp [go_sem]) (by simp [okC, ha1.leaf, ha2.leaf, leafB, leafI]) rfl rfl (by simp) (cs' := [a1', a2', B pa.free, I pa.n]) rfl fun H10 b10 o10 => ?_
            have b9' := (o10 8 (by decide)).trans b9
            have b510 : H10 6 = _ := (o10 6 (by decide)).trans ((o9 6 (by decide)).trans ((o8 6 (by decide)).trans ((o7 6 (by decide)).trans b56')))
            have hov10 := hov6'.mono (H' := H10) fun j hj => by rw [o10 j (by omega), o9 j (by omega), o8 j (by omega), o7 j (by omega)]
            refine PL.done hK2 ?_; clear hK2
            have hA : ∀ (t : Nat) (x y : Operand), binP Try.prog .add t x y (I pa.n) (I pb.n) = some (I (pa.n + pb.n)) := fun t x y => binP_add (by omega) (by omega)
            refine PC.regionT 29 mixed (by kernel_rfl) ?_
            simp only [List.take_succ_cons, List.take_zero, List.drop_succ_cons, List.drop_zero]
            repeat (refine QF.k rfl fun KK hKK => ?_; simp [go_sem, stepK, b9', b10]; refine hKK _ ?_; clear hKK KK)
            refine QF.callB (qs := [slI pa.first, slI pb.first]) rfl rfl (by kernel_rfl) (unionF_ok _ _ (by omega)) (by simp [go_sem]) ?_ ?_ ?_
            · simp [go_sem, ha1.noP, hb1.noP]
            · simp [go_sem, ha1.view, hb1.view]
            repeat (refine QF.k rfl fun KK hKK => ?_; simp [go_sem, stepK, b9', b10]; refine hKK _ ?_; clear hKK KK)
            refine QF.callB (qs := [slI pa.last, slI pb.last]) rfl rfl (by kernel_rfl) (union_ok _ _ (by omega)) (by simp [go_sem]) ?_ ?_ ?_
            · simp [go_sem, ha2.noP, hb2.noP]
            · simp [go_sem, ha2.view, hb2.view]
            repeat (refine QF.k rfl fun KK hKK => ?_; simp [go_sem, stepK, b9', b10]; refine hKK _ ?_; clear hKK KK)
            cases ha : pa.free
            · rw [ha] at b10
              repeat (refine QF.g rfl rfl fun KK hKK => ?_; simp (disch := omega) [go_sem, L.stepG, b9', b10]; refine hKK _ ?_; clear hKK KK)
              repeat (refine QF.k rfl fun KK hKK => ?_; simp [go_sem, stepK, b9', b10, hA]; refine hKK _ ?_; clear hKK KK)
              refine QF.nil ?_
              refine PL.storeA (id := 6) rfl rfl (by simp [dstOk]) (by simp [go_sem]; rfl) b510 asz_69 (v := .agg [frI (riseL (pa.first ++ pb.first)), slI (riseL (pa.last ++ pb.last)), B (false || pb.free), I (pa.n + pb.n)]) (by simp [go_sem]) (by simp [okC, leafB, leafI]; exact ⟨rfl, rfl⟩) rfl rfl (by simp) (cs' := [frI (riseL (pa.first ++ pb.first)), slI (riseL (pa.last ++ pb.last)), B (false || pb.free), I (pa.n + pb.n)]) rfl fun H11 b11 o11 => ?_
              rw [step4 S _ pb pa st hst e]
              exact PL.nil ⟨by simp [FrO, go_sem, f0, f3, f4, f5, f18, f19, f20], v8, _, st, frI (riseL (pa.first ++ pb.first)), slI (riseL (pa.last ++ pb.last)), by simp [go_sem], rfl, by rw [b11, ha], isF_fr _, isL_sl _, hov10.mono fun j hj => o11 j (by omega)⟩
            · rw [ha] at b10
              repeat (refine QF.g rfl rfl fun KK hKK => ?_; simp (disch := omega) [go_sem, L.stepG, b9', b10]; refine hKK _ ?_; clear hKK KK)
              repeat (refine QF.k rfl fun KK hKK => ?_; simp [go_sem, stepK, b9', b10, hA]; refine hKK _ ?_; clear hKK KK)
              refine QF.nil ?_
              refine PL.storeA (id := 6) rfl rfl (by simp [dstOk]) (by simp [go_sem]; rfl) b510 asz_69 (v := .agg [frI (riseL (pa.first ++ pb.first)), slI (riseL (pa.last ++ pb.last)), B (true || pb.free), I (pa.n + pb.n)]) (by simp [go_sem]) (by simp [okC, leafB, leafI]; exact ⟨rfl, rfl⟩) rfl rfl (by simp) (cs' := [frI (riseL (pa.first ++ pb.first)), slI (riseL (pa.last ++ pb.last)), B (true || pb.free), I (pa.n + pb.n)]) rfl fun H11 b11 o11 => ?_
              rw [step4 S _ pb pa st hst e]
              exact PL.nil ⟨by simp [FrO, go_sem, f0, f3, f4, f5, f18, f19, f20], v8, _, st, frI (riseL (pa.first ++ pb.first)), slI (riseL (pa.last ++ pb.last)), by simp [go_sem], rfl, by rw [b11, ha], isF_fr _, isL_sl _, hov10.mono fun j hj => o11 j (by omega)⟩
          · rw [e] at b45
            refine PC.seq fun K2 hK2 => ?_
            refine PC.region ?_
            repeat (refine PL.k rfl fun KK hKK => ?_; simp [go_sem, stepK, b45]; refine hKK _ ?_; clear hKK KK)
            refine PL.done hK2 ?_; clear hK2
            refine PC.block ?_
            refine PC.seq fun K2 hK2 => ?_
            refine PC.region ?_
            repeat (refine PL.k rfl fun KK hKK => ?_; simp [go_sem, stepK]; refine hKK _ ?_; clear hKK KK)
            refine PL.done hK2 ?_; clear hK2
            refine PC.condF (by simp [go_sem]) ?_
            refine PC.seq fun K2 hK2 => ?_
            refine PC.region ?_
            repeat (refine PL.k rfl fun KK hKK => ?_; simp [go_sem, stepK]; refine hKK _ ?_; clear hKK KK)
            refine PL.done hK2 ?_; clear hK2
            refine PC.condF (by simp [go_sem]) ?_
            refine PC.seq fun K2 hK2 => ?_
            refine PC.region ?_
            repeat (refine PL.k rfl fun KK hKK => ?_; simp [go_sem, stepK]; refine hKK _ ?_; clear hKK KK)
            refine PL.done hK2 ?_; clear hK2
            refine PC.condF (by simp [go_sem]) ?_
            refine PC.seq fun K2 hK2 => ?_
            refine PC.region ?_
            repeat (refine PL.k rfl fun KK hKK => ?_; simp [go_sem, stepK]; refine hKK _ ?_; clear hKK KK)
            refine PL.done hK2 ?_; clear hK2
            refine PC.condF (by simp [go_sem]) ?_
            obtain ⟨pa, st, hst⟩ := hone (.inl e)
            rw [hst] at hov5
            have hpa := hok.pts pa (by rw [hst]; simp)
            have hstl : st.length ≤ 511 := by
              have := runS_stl l k hk
              rw [hS, hst] at this
              simp at this
              omega
            refine PC.seq fun K2 hK2 => ?_
            refine PC.region ?_
            repeat (refine PL.k rfl fun KK hKK => ?_; simp [go_sem, stepK, f5]; refine hKK _ ?_; clear hKK KK)
            refine PL.inl rfl rfl (pop_ov hov5 (by omega)) (by simp [go_sem]) (by simp [target, go_sem, popV]) ?_
            rintro q H6 ⟨a1, a2, rfl, ha1, ha2, hov6, o6⟩
            have b56 := (o6 6 (by decide) (by decide)).trans b5
            have b46 := (o6 5 (by decide) (by decide)).trans b45
            refine PL.storeA (id := 6) rfl rfl (by simp [dstOk]) (by simp [go_sem]; rfl) b56 asz_69 (v := .agg [a1, a2, B pa.free, I pa.n]) (by simp [go_sem]) (by simp [okC, ha1.leaf, ha2.leaf, leafB, leafI]) rfl rfl (by simp) (cs' := [a1, a2, B pa.free, I pa.n]) rfl fun H7 b7 o7 => ?_
            have b47 := (o7 5 (by decide)).trans b46
            have hov7 := hov6.mono (H' := H7) fun j hj => o7 j (by omega)
            refine PL.done hK2 ?_; clear hK2
            refine PC.seq fun K2 hK2 => ?_
            refine PC.seq fun K3 hK3 => ?_
            refine PC.region ?_
            repeat (refine PL.k rfl fun KK hKK => ?_; simp [go_sem, stepK, b47]; refine hKK _ ?_; clear hKK KK)
            refine PL.done hK3 ?_; clear hK3
            refine PC.condT (by simp [go_sem]) ?_
            refine PC.region ?_
            repeat (refine PL.k rfl fun KK hKK => ?_; simp [go_sem, stepK, b7, f3]; refine hKK _ ?_; clear hKK KK)
            refine PL.inl rfl rfl (behind_ov pa.last pa.first hov7 (by omega) hok.len ha2 ha1 hok.fol hpa.1 hpa.2.1) (by simp [go_sem]) (by simp [target, go_sem]) ?_
            rintro q H8 ⟨rfl, hov8, o8⟩
            have b78 := (o8 6 (by decide)).trans b7
            have b48 := (o8 5 (by decide)).trans b47
            refine PL.done hK2 ?_; clear hK2
            refine PC.region ?_
            repeat (refine PL.k rfl fun KK hKK => ?_; simp [go_sem, stepK, b78, b48]; refine hKK _ ?_; clear hKK KK)
            cases ha : pa.free
            · rw [ha] at b78
              repeat (refine PL.g rfl rfl fun KK hKK => ?_; simp (disch := omega) [go_sem, L.stepG, b78, b48]; refine hKK _ ?_; clear hKK KK)
              repeat (refine PL.k rfl fun KK hKK => ?_; simp [go_sem, stepK, b78, b48]; refine hKK _ ?_; clear hKK KK)
              refine PL.storeA (id := 6) rfl rfl (by simp [dstOk]) (by simp [go_sem]; rfl) b78 asz_4 (v := B true) (by simp [go_sem]) (by simp [go_sem]) rfl rfl (by simp) (cs' := [a1, a2, B true, I pa.n]) rfl fun H11 b11 o11 => ?_
              rw [step5 S _ pa st hst (.inl e)]
              exact PL.nil ⟨by simp [FrO, go_sem, f0, f3, f4, f5, f18, f19, f20], v8, _, st, a1, a2, by simp [go_sem], rfl, by rw [b11, ha]; simp [e], ha1, ha2, by simp only [e]; exact hov8.mono fun j hj => o11 j (by omega)⟩
            · rw [ha] at b78
              repeat (refine PL.g rfl rfl fun KK hKK => ?_; simp (disch := omega) [go_sem, L.stepG, b78, b48]; refine hKK _ ?_; clear hKK KK)
              repeat (refine PL.k rfl fun KK hKK => ?_; simp [go_sem, stepK, b78, b48]; refine hKK _ ?_; clear hKK KK)
              refine PL.storeA (id := 6) rfl rfl (by simp [dstOk]) (by simp [go_sem]; rfl) b78 asz_4 (v := B true) (by simp [go_sem]) (by simp [go_sem]) rfl rfl (by simp) (cs' := [a1, a2, B true, I pa.n]) rfl fun H11 b11 o11 => ?_
              rw [step5 S _ pa st hst (.inl e)]
              exact PL.nil ⟨by simp [FrO, go_sem, f0, f3, f4, f5, f18, f19, f20], v8, _, st, a1, a2, by simp [go_sem], rfl, by rw [b11, ha]; simp [e], ha1, ha2, by simp only [e]; exact hov8.mono fun j hj => o11 j (by omega)⟩
          · rw [e] at b45
            refine PC.seq fun K2 hK2 => ?_
            refine PC.region ?_
            repeat (refine PL.k rfl fun KK hKK => ?_; simp [go_sem, stepK, b45]; refine hKK _ ?_; clear hKK KK)
            refine PL.done hK2 ?_; clear hK2
            refine PC.block ?_
            refine PC.seq fun K2 hK2 => ?_
            refine PC.region ?_
            repeat (refine PL.k rfl fun KK hKK => ?_; simp [go_sem, stepK]; refine hKK _ ?_; clear hKK KK)
            refine PL.done hK2 ?_; clear hK2
            refine PC.condF (by simp [go_sem]) ?_
            refine PC.seq fun K2 hK2 => ?_
            refine PC.region ?_
            repeat (refine PL.k rfl fun KK hKK => ?_; simp [go_sem, stepK]; refine hKK _ ?_; clear hKK KK)
            refine PL.done hK2 ?_; clear hK2
            refine PC.condF (by simp [go_sem]) ?_
            refine PC.seq fun K2 hK2 => ?_
            refine PC.region ?_
            repeat (refine PL.k rfl fun KK hKK => ?_; simp [go_sem, stepK]; refine hKK _ ?_; clear hKK KK)
            refine PL.done hK2 ?_; clear hK2
            refine PC.condF (by simp [go_sem]) ?_
            refine PC.seq fun K2 hK2 => ?_
            refine PC.region ?_
            repeat (refine PL.k rfl fun KK hKK => ?_; simp [go_sem, stepK]; refine hKK _ ?_; clear hKK KK)
            refine PL.done hK2 ?_; clear hK2
            refine PC.condF (by simp [go_sem]) ?_
            obtain ⟨pa, st, hst⟩ := hone (.inr (.inl e))
            rw [hst] at hov5
            have hpa := hok.pts pa (by rw [hst]; simp)
            have hstl : st.length ≤ 511 := by
              have := runS_stl l k hk
              rw [hS, hst] at this
              simp at this
              omega
            refine PC.seq fun K2 hK2 => ?_
            refine PC.region ?_
            repeat (refine PL.k rfl fun KK hKK => ?_; simp [go_sem, stepK, f5]; refine hKK _ ?_; clear hKK KK)
            refine PL.inl rfl rfl (pop_ov hov5 (by omega)) (by simp [go_sem]) (by simp [target, go_sem, popV]) ?_
            rintro q H6 ⟨a1, a2, rfl, ha1, ha2, hov6, o6⟩
            have b56 := (o6 6 (by decide) (by decide)).trans b5
            have b46 := (o6 5 (by decide) (by decide)).trans b45
            refine PL.storeA (id := 6) rfl rfl (by simp [dstOk]) (by simp [go_sem]; rfl) b56 asz_69 (v := .agg [a1, a2, B pa.free, I pa.n]) (by simp [go_sem]) (by simp [okC, ha1.leaf, ha2.leaf, leafB, leafI]) rfl rfl (by simp) (cs' := [a1, a2, B pa.free, I pa.n]) rfl fun H7 b7 o7 => ?_
            have b47 := (o7 5 (by decide)).trans b46
            have hov7 := hov6.mono (H' := H7) fun j hj => o7 j (by omega)
            refine PL.done hK2 ?_; clear hK2
            refine PC.seq fun K2 hK2 => ?_
            refine PC.seq fun K3 hK3 => ?_
            refine PC.region ?_
            repeat (refine PL.k rfl fun KK hKK => ?_; simp [go_sem, stepK, b47]; refine hKK _ ?_; clear hKK KK)
            refine PL.done hK3 ?_; clear hK3
            refine PC.condT (by simp [go_sem]) ?_
            refine PC.region ?_
            repeat (refine PL.k rfl fun KK hKK => ?_; simp [go_sem, stepK, b7, f3]; refine hKK _ ?_; clear hKK KK)
            refine PL.inl rfl rfl (behind_ov pa.last pa.first hov7 (by omega) hok.len ha2 ha1 hok.fol hpa.1 hpa.2.1) (by simp [go_sem]) (by simp [target, go_sem]) ?_
            rintro q H8 ⟨rfl, hov8, o8⟩
            have b78 := (o8 6 (by decide)).trans b7
            have b48 := (o8 5 (by decide)).trans b47
            refine PL.done hK2 ?_; clear hK2
            refine PC.region ?_
            repeat (refine PL.k rfl fun KK hKK => ?_; simp [go_sem, stepK, b78, b48]; refine hKK _ ?_; clear hKK KK)
            cases ha : pa.free
            · rw [ha] at b78
              repeat (refine PL.g rfl rfl fun KK hKK => ?_; simp (disch := omega) [go_sem, L.stepG, b78, b48]; refine hKK _ ?_; clear hKK KK)
              repeat (refine PL.k rfl fun KK hKK => ?_; simp [go_sem, stepK, b78, b48]; refine hKK _ ?_; clear hKK KK)
              refine PL.storeA (id := 6) rfl rfl (by simp [dstOk]) (by simp [go_sem]; rfl) b78 asz_4 (v := B false) (by simp [go_sem]) (by simp [go_sem]) rfl rfl (by simp) (cs' := [a1, a2, B false, I pa.n]) rfl fun H11 b11 o11 => ?_
              rw [step5 S _ pa st hst (.inr (.inl e))]
              exact PL.nil ⟨by simp [FrO, go_sem, f0, f3, f4, f5, f18, f19, f20], v8, _, st, a1, a2, by simp [go_sem], rfl, by rw [b11, ha]; simp [e], ha1, ha2, by simp only [e]; exact hov8.mono fun j hj => o11 j (by omega)⟩
            · rw [ha] at b78
              repeat (refine PL.g rfl rfl fun KK hKK => ?_; simp (disch := omega) [go_sem, L.stepG, b78, b48]; refine hKK _ ?_; clear hKK KK)
              repeat (refine PL.k rfl fun KK hKK => ?_; simp [go_sem, stepK, b78, b48]; refine hKK _ ?_; clear hKK KK)
              refine PL.storeA (id := 6) rfl rfl (by simp [dstOk]) (by simp [go_sem]; rfl) b78 asz_4 (v := B true) (by simp [go_sem]) (by simp [go_sem]) rfl rfl (by simp) (cs' := [a1, a2, B true, I pa.n]) rfl fun H11 b11 o11 => ?_
              rw [step5 S _ pa st hst (.inr (.inl e))]
              exact PL.nil ⟨by simp [FrO, go_sem, f0, f3, f4, f5, f18, f19, f20], v8, _, st, a1, a2, by simp [go_sem], rfl, by rw [b11, ha]; simp [e], ha1, ha2, by simp only [e]; exact hov8.mono fun j hj => o11 j (by omega)⟩
          · rw [e] at b45
            refine PC.seq fun K2 hK2 => ?_
            refine PC.region ?_
            repeat (refine PL.k rfl fun KK hKK => ?_; simp [go_sem, stepK, b45]; refine hKK _ ?_; clear hKK KK)
            refine PL.done hK2 ?_; clear hK2
            refine PC.block ?_
            refine PC.seq fun K2 hK2 => ?_
            refine PC.region ?_
            repeat (refine PL.k rfl fun KK hKK => ?_; simp [go_sem, stepK]; refine hKK _ ?_; clear hKK KK)
            refine PL.done hK2 ?_; clear hK2
            refine PC.condF (by simp [go_sem]) ?_
            refine PC.seq fun K2 hK2 => ?_
            refine PC.region ?_
            repeat (refine PL.k rfl fun KK hKK => ?_; simp [go_sem, stepK]; refine hKK _ ?_; clear hKK KK)
            refine PL.done hK2 ?_; clear hK2
            refine PC.condF (by simp [go_sem]) ?_
            refine PC.seq fun K2 hK2 => ?_
            refine PC.region ?_
            repeat (refine PL.k rfl fun KK hKK => ?_; simp [go_sem, stepK]; refine hKK _ ?_; clear hKK KK)
            refine PL.done hK2 ?_; clear hK2
            refine PC.condF (by simp [go_sem]) ?_
            refine PC.seq fun K2 hK2 => ?_
            refine PC.region ?_
            repeat (refine PL.k rfl fun KK hKK => ?_; simp [go_sem, stepK]; refine hKK _ ?_; clear hKK KK)
            refine PL.done hK2 ?_; clear hK2
            refine PC.condF (by simp [go_sem]) ?_
            obtain ⟨pa, st, hst⟩ := hone (.inr (.inr e))
            rw [hst] at hov5
            have hpa := hok.pts pa (by rw [hst]; simp)
            have hstl : st.length ≤ 511 := by
              have := runS_stl l k hk
              rw [hS, hst] at this
              simp at this
              omega
            refine PC.seq fun K2 hK2 => ?_
            refine PC.region ?_
            repeat (refine PL.k rfl fun KK hKK => ?_; simp [go_sem, stepK, f5]; refine hKK _ ?_; clear hKK KK)
            refine PL.inl rfl rfl (pop_ov hov5 (by omega)) (by simp [go_sem]) (by simp [target, go_sem, popV]) ?_
            rintro q H6 ⟨a1, a2, rfl, ha1, ha2, hov6, o6⟩
            have b56 := (o6 6 (by decide) (by decide)).trans b5
            have b46 := (o6 5 (by decide) (by decide)).trans b45
            refine PL.storeA (id := 6) rfl rfl (by simp [dstOk]) (by simp [go_sem]; rfl) b56 asz_69 (v := .agg [a1, a2, B pa.free, I pa.n]) (by simp [go_sem]) (by simp [okC, ha1.leaf, ha2.leaf, leafB, leafI]) rfl rfl (by simp) (cs' := [a1, a2, B pa.free, I pa.n]) rfl fun H7 b7 o7 => ?_
            have b47 := (o7 5 (by decide)).trans b46
            have hov7 := hov6.mono (H' := H7) fun j hj => o7 j (by omega)
            refine PL.done hK2 ?_; clear hK2
            refine PC.seq fun K2 hK2 => ?_
            refine PC.seq fun K3 hK3 => ?_
            refine PC.region ?_
            repeat (refine PL.k rfl fun KK hKK => ?_; simp [go_sem, stepK, b47]; refine hKK _ ?_; clear hKK KK)
            refine PL.done hK3 ?_; clear hK3
            refine PC.condF (by simp [go_sem]) ?_
            refine PC.skip (hK2 _ _ ?_); clear hK2
            refine PC.region ?_
            repeat (refine PL.k rfl fun KK hKK => ?_; simp [go_sem, stepK, b7, b47]; refine hKK _ ?_; clear hKK KK)
            cases ha : pa.free
            · rw [ha] at b7
              repeat (refine PL.g rfl rfl fun KK hKK => ?_; simp (disch := omega) [go_sem, L.stepG, b7, b47]; refine hKK _ ?_; clear hKK KK)
              repeat (refine PL.k rfl fun KK hKK => ?_; simp [go_sem, stepK, b7, b47]; refine hKK _ ?_; clear hKK KK)
              refine PL.storeA (id := 6) rfl rfl (by simp [dstOk]) (by simp [go_sem]; rfl) b7 asz_4 (v := B true) (by simp [go_sem]) (by simp [go_sem]) rfl rfl (by simp) (cs' := [a1, a2, B true, I pa.n]) rfl fun H11 b11 o11 => ?_
              rw [step5 S _ pa st hst (.inr (.inr e))]
              exact PL.nil ⟨by simp [FrO, go_sem, f0, f3, f4, f5, f18, f19, f20], v8, _, st, a1, a2, by simp [go_sem], rfl, by rw [b11, ha]; simp [e], ha1, ha2, by simp only [e]; exact hov7.mono fun j hj => o11 j (by omega)⟩
            · rw [ha] at b7
              repeat (refine PL.g rfl rfl fun KK hKK => ?_; simp (disch := omega) [go_sem, L.stepG, b7, b47]; refine hKK _ ?_; clear hKK KK)
              repeat (refine PL.k rfl fun KK hKK => ?_; simp [go_sem, stepK, b7, b47]; refine hKK _ ?_; clear hKK KK)
              refine PL.storeA (id := 6) rfl rfl (by simp [dstOk]) (by simp [go_sem]; rfl) b7 asz_4 (v := B true) (by simp [go_sem]) (by simp [go_sem]) rfl rfl (by simp) (cs' := [a1, a2, B true, I pa.n]) rfl fun H11 b11 o11 => ?_
              rw [step5 S _ pa st hst (.inr (.inr e))]
              exact PL.nil ⟨by simp [FrO, go_sem, f0, f3, f4, f5, f18, f19, f20], v8, _, st, a1, a2, by simp [go_sem], rfl, by rw [b11, ha]; simp [e], ha1, ha2, by simp only [e]; exact hov7.mono fun j hj => o11 j (by omega)⟩
        -- behind the switch
        · rintro F H6 ⟨⟨f0, f3, f4, f5, f18, f19, f20⟩, v8, p, st, a, b, f8, hst, b6, ha, hb, hov6⟩
          have hstl : st.length + 1 ≤ 512 := by
            have := runS_stl l (k + 1) hlt
            rw [hsucc, hst] at this
            simp at this
            omega
          obtain ⟨vs, vf, fc, sv, cs, h0, h1, h2, h3, h4, h5, h6⟩ := hov6
          refine PC.region ?_
          repeat (refine PL.k rfl fun KK hKK => ?_; simp [go_sem, stepK, f4, f8, h4, b6]; refine hKK _ ?_; clear hKK KK)
          refine PL.buildSliceR (d := 105) rfl rfl rfl (by simp) selem_86 rfl (by omega) (ips := [(0, .agg [a, b, B p.free, I p.n])]) (by simp [go_sem]) (by simp [litOk, okC, ha.leaf, hb.leaf, leafB, leafI, PV.cells]) (ps := [.agg [a, b, B p.free, I p.n]]) rfl ?_
          refine PL.appendS (d := 106) (m := st.length) (cs2 := [a, b, B p.free, I p.n]) (sv := sv) (px := .sl 4 [.agg [a, b, B p.free, I p.n]]) rfl rfl rfl (by simp) selem_86 (by simp [go_sem]) h5 h6.len (by simp [go_sem]) rfl (by simp [ha.leaf, hb.leaf, leafB, leafI]) (by unfold maxLen; omega) (by omega) fun vt H7 b7 o7 => ?_
          refine PL.storeA (id := 1) rfl rfl (by simp [dstOk]) (by simp [go_sem, f4]; rfl) ((o7 1 (by decide)).trans h4) asz_86 (v := .ps 2 vt) (by simp [go_sem]) (by simp [okC, leafOk, liveRow, b7]) rfl rfl (by simp) (cs' := [.ps 2 vt]) rfl fun H8 b8 o8 => ?_
          refine PL.nil ⟨by simp [FrO, go_sem, f0, f3, f4, f5, f18, f19, f20], ?_⟩
          rw [hst]
          have ho : ∀ j, j ≠ 1 → j ≠ 2 → H8 j = H6 j := fun j e1 e2 => by rw [o8 j e1, o7 j e2]
          exact ⟨vs, vf, fc, .ps 2 vt, cs ++ [a, b, B p.free, I p.n], (ho 0 (by omega) (by omega)).trans h0, h1.mono (ho 3 (by omega) (by omega)), h2.mono (ho 4 (by omega) (by omega)), h3, b8, .inr ⟨vt, rfl, (o8 2 (by decide)).trans b7⟩, cs, a, b, rfl, ha, hb, h6⟩
      · rintro F H6 ⟨⟨f0, f3, f4, f5, f18, f19, f20⟩, hov6⟩
        have hA : ∀ (t : Nat) (x y : Operand), binP Try.prog .add t x y (I (k : Int)) (I 1) = some (I ((k : Int) + 1)) := fun t x y => binP_add (by omega) (by omega)
        refine PC.region ?_
        repeat (refine PL.k rfl fun KK hKK => ?_; simp [go_sem, stepK, f20, hA]; refine hKK _ ?_; clear hKK KK)
        refine PL.nil ⟨l.length - (k + 1), by omega, k + 1, by omega, by omega, by simp [FrO, go_sem, f0, f3, f4, f5, f18, f19, f20], by rw [hsucc]; exact hov6, hnext⟩
    · have hka : k = l.length := by omega
      subst hka
      rw [List.take_of_length_le (Nat.le_refl _)] at hov hchk
      rw [List.drop_of_length_le (Nat.le_refl _)] at hchk
      refine PC.seq fun K2 hK2 => ?_
      refine PC.region ?_
      repeat (refine PL.k rfl fun KK hKK => ?_; simp [go_sem, stepK, f20, f19]; refine hKK _ ?_; clear hKK KK)
      refine PL.done hK2 ?_; clear hK2
      refine PC.seq fun K2 hK2 => ?_
      refine PC.condF (by simp [go_sem]) ?_
      exact PC.exit ⟨by simp [FrO, go_sem, f0, f3, f4, f5, f18, f19, f20], hov, hchk⟩
  · rintro F H6 ⟨⟨f0, f3, f4, f5, f18, f19, f20⟩, hov6, hone⟩
    have hend : ∃ p, (runS l).st = [p] := by
      rw [checkLoop] at hone
      split at hone
      · rename_i hq
        have hq1 : (runS l).st.length = 1 := by omega
        exact List.length_eq_one_iff.1 hq1
      · cases hone
    obtain ⟨p, hp⟩ := hend
    obtain ⟨vs, vf, fc, sv, cs, h0, h1, h2, h3, h4, h5, h6⟩ := hov6
    rw [hp] at h5 h6
    obtain ⟨cs', a, b, rfl, ha, hb, hc'⟩ := h6
    have : cs' = [] := hc'
    subst this
    rcases h5 with ⟨_, h5⟩ | ⟨vt, rfl, h5⟩
    · cases h5
    refine PC.seq fun K hK => ?_
    refine PC.region ?_
    repeat (refine PL.k rfl fun KK hKK => ?_; simp [go_sem, stepK, f3, f4, h4, h5, h0]; refine hKK _ ?_; clear hKK KK)
    refine PL.storeA (id := 0) rfl rfl (by simp [dstOk]) (by simp [go_sem, f3]; rfl) h0 asz_69 (v := .agg [a, b, B p.free, I p.n]) (by simp [go_sem]) (by simp [okC, ha.leaf, hb.leaf, leafB, leafI]) rfl rfl (by simp) (cs' := [rowV (runS l).sets.length 3 vs, rowV (runS l).sets.length 4 vf, a, b, B p.free, I p.n]) rfl fun H8 b8 o8 => ?_
    refine PL.done hK ?_; clear hK
    refine PC.seq fun K hK => ?_
    refine PC.region ?_
    repeat (refine PL.k rfl fun KK hKK => ?_; simp [go_sem, stepK, f3]; refine hKK _ ?_; clear hKK KK)
    refine PL.done hK ?_; clear hK
    refine PC.ret ?_
    refine ⟨.inr rfl, .pp 0 0 vx, ?_, vx, vs, vf, fc, a, b, p, rfl, hp, b8, h1.mono (o8 3 (by decide)), h2.mono (o8 4 (by decide)), h3, ha, hb⟩
    simp [resP, resP1, Try.results32, go_sem]
end Go.Proofs.Ythcckhpogmlgjaa

/-
  The package spot over pure values: Sets, First, Last, Follow, Free.
-/
namespace Go.Proofs.Ythcckhpogmlgjaa
open Go Go.RowKit L
set_option linter.unusedVariables false
set_option linter.unusedSimpArgs false

set_option maxRecDepth 20000 in
theorem over_bad (l : List Rx) (H : PHeap) (hl : checkL l ≠ 0) : PIn Try.prog 32 [slX l] H (fun q H' => q = .u (.pointer none)) := by
  refine PIn.intro Try.func32 rfl Try.ntmps32 (by simp) (by kernel_rfl) fun W => ?_
  refine PC.seq fun K hK => ?_
  refine PC.region ?_
  repeat (refine PL.k rfl fun KK hKK => ?_; simp [go_sem, stepK]; refine hKK _ ?_; clear hKK KK)
  refine PL.done hK ?_; clear hK
  refine PC.seq fun K hK => ?_
  refine PC.seq fun K2 hK2 => ?_
  refine PC.region ?_
  repeat (refine PL.k rfl fun KK hKK => ?_; simp [go_sem, stepK]; refine hKK _ ?_; clear hKK KK)
  refine PL.call (qs := [slX l]) rfl rfl (by kernel_rfl) (rxCheck_ok l) (by simp [go_sem]) (by simp [go_sem]) ?_ ?_
  · simp [go_sem, slX_noP, View.noP]
  repeat (refine PL.k rfl fun KK hKK => ?_; simp [go_sem, stepK, hl]; refine hKK _ ?_; clear hKK KK)
  refine PL.done hK2 ?_; clear hK2
  refine PC.condT (by simp [go_sem, hl]) ?_
  refine PC.seq fun K hK => ?_
  refine PC.region ?_
  repeat (refine PL.k rfl fun KK hKK => ?_; simp [go_sem, stepK]; refine hKK _ ?_; clear hKK KK)
  refine PL.done hK ?_; clear hK
  refine PC.ret ?_
  refine ⟨.inr rfl, .u (.pointer none), ?_, rfl⟩
  simp [resP, resP1, Try.results32, go_sem]

def topS (l : List Rx) : Pt := (runS l).st.headD ⟨[], [], false, 0⟩
def spSets (l : List Rx) : List Rx := if checkL l = 0 then (runS l).sets else []
def spFirst (l : List Rx) : List Int := if checkL l = 0 then (topS l).first else []
def spLast (l : List Rx) : List Int := if checkL l = 0 then (topS l).last else []
def spFree (l : List Rx) : Bool := if checkL l = 0 then (topS l).free else false
def spFollow (l : List Rx) (i : Int) : List Int := if checkL l = 0 ∧ 0 ≤ i ∧ i < (topS l).n then ((runS l).fol)[i.toNat]?.getD [] else []

theorem setCs_map (l : List Rx) : (l.map encS).flatMap PV.cells = setCs l := by
  induction l with
  | nil => rfl
  | cons x l ih => rw [List.map_cons, List.flatMap_cons, ih]; rfl
theorem setsView {H : PHeap} {l : List Rx} {id vs : Nat} (h : RowAt H 56 4 l.length id vs (setCs l)) : View H (rowV l.length id vs) (slS l) := by
  unfold rowV
  split
  · rename_i h0
    have : l = [] := List.eq_nil_of_length_eq_zero h0
    subst this
    exact View.nil _ _ _
  · rename_i h0
    refine View.row (t := 56) (k := 4) (n := l.length) (cs := setCs l) (by simp [liveRow, h.2 h0]) (l.map encS) (by simp) (fun y hy => by obtain ⟨z, _, rfl⟩ := List.mem_map.1 hy; rfl) fun i p q h1 h2 => ?_
    rw [setCs_map] at h2
    rw [h1] at h2
    cases h2
    have hm := List.mem_of_getElem? h1
    unfold setCs at hm
    obtain ⟨x, _, hx⟩ := List.mem_flatMap.1 hm
    refine View.noP ?_
    simp at hx
    rcases hx with rfl | rfl | rfl | rfl <;> exact .u _

set_option maxRecDepth 20000 in
theorem FirstF_ok (l : List Rx) : PCall Try.prog 12 [slX l] (· = frI (spFirst l)) := by
  refine PCall.intro' Try.func12 rfl Try.ntmps12 (by simp) fun W => ?_
  refine PC.seq fun K hK => ?_
  refine PC.region ?_
  repeat (refine PL.k rfl fun KK hKK => ?_; simp [go_sem, stepK]; refine hKK _ ?_; clear hKK KK)
  refine PL.done hK ?_; clear hK
  refine PC.seq fun K hK => ?_
  refine PC.seq fun K2 hK2 => ?_
  refine PC.region ?_
  repeat (refine PL.k rfl fun KK hKK => ?_; simp [go_sem, stepK]; refine hKK _ ?_; clear hKK KK)
  by_cases hl : checkL l = 0
  · refine PL.inl rfl rfl (over_in l _ hl) (by simp [go_sem]) (by simp [target, go_sem]) ?_
    rintro q H' ⟨vx, vs, vf, fc, a, b, p, rfl, hst, h0, h1, h2, h3, ha, hb⟩
    have ht : topS l = p := by unfold topS; rw [hst]; rfl
    repeat (refine PL.k rfl fun KK hKK => ?_; simp [go_sem, stepK]; refine hKK _ ?_; clear hKK KK)
    refine PL.done hK2 ?_; clear hK2
    refine PC.seq fun K2 hK2 => ?_
    refine PC.region ?_
    repeat (refine PL.k rfl fun KK hKK => ?_; simp [go_sem, stepK, h0]; refine hKK _ ?_; clear hKK KK)
    refine PL.done hK2 ?_; clear hK2
    refine PC.condT (by simp [go_sem, h0]) ?_
    refine PC.seq fun K hK => ?_
    refine PC.region ?_
    repeat (refine PL.k rfl fun KK hKK => ?_; simp [go_sem, stepK, h0]; refine hKK _ ?_; clear hKK KK)
    refine PL.done hK ?_; clear hK
    refine PC.ret ?_
    refine ⟨.inr rfl, a, frI (spFirst l), ?_, ?_, ?_, rfl⟩
    · simp [resP, resP1, Try.results12, go_sem]
    · rw [show spFirst l = p.first by unfold spFirst; rw [if_pos hl, ht]]; exact ha.viewF _
    · exact frI_noP _
  · refine PL.inl rfl rfl (over_bad l _ hl) (by simp [go_sem]) (by simp [target, go_sem]) ?_
    rintro q H' rfl
    repeat (refine PL.k rfl fun KK hKK => ?_; simp [go_sem, stepK]; refine hKK _ ?_; clear hKK KK)
    refine PL.done hK2 ?_; clear hK2
    refine PC.seq fun K2 hK2 => ?_
    refine PC.region ?_
    repeat (refine PL.k rfl fun KK hKK => ?_; simp [go_sem, stepK]; refine hKK _ ?_; clear hKK KK)
    refine PL.done hK2 ?_; clear hK2
    refine PC.condF (by simp [go_sem]) ?_
    refine PC.skip (hK _ _ ?_); clear hK
    refine PC.seq fun K hK => ?_
    refine PC.region ?_
    repeat (refine PL.k rfl fun KK hKK => ?_; simp [go_sem, stepK]; refine hKK _ ?_; clear hKK KK)
    refine PL.done hK ?_; clear hK
    refine PC.ret ?_
    refine ⟨.inr rfl, .u (.slice none 0 0), frI (spFirst l), ?_, ?_, ?_, rfl⟩
    · simp [resP, resP1, Try.results12, go_sem]
    · rw [show frI (spFirst l) = .fr 3 1 [] by unfold spFirst; rw [if_neg hl]; rfl]; exact View.nilFr
    · exact frI_noP _
theorem First_ok (l : List Rx) : PCall Try.prog 12 [slX l] (· = slI (spFirst l)) := (FirstF_ok l).forget
set_option maxRecDepth 20000 in
theorem Last_ok (l : List Rx) : PCall Try.prog 11 [slX l] (· = slI (spLast l)) := by
  refine PCall.intro' Try.func11 rfl Try.ntmps11 (by simp) fun W => ?_
  refine PC.seq fun K hK => ?_
  refine PC.region ?_
  repeat (refine PL.k rfl fun KK hKK => ?_; simp [go_sem, stepK]; refine hKK _ ?_; clear hKK KK)
  refine PL.done hK ?_; clear hK
  refine PC.seq fun K hK => ?_
  refine PC.seq fun K2 hK2 => ?_
  refine PC.region ?_
  repeat (refine PL.k rfl fun KK hKK => ?_; simp [go_sem, stepK]; refine hKK _ ?_; clear hKK KK)
  by_cases hl : checkL l = 0
  · refine PL.inl rfl rfl (over_in l _ hl) (by simp [go_sem]) (by simp [target, go_sem]) ?_
    rintro q H' ⟨vx, vs, vf, fc, a, b, p, rfl, hst, h0, h1, h2, h3, ha, hb⟩
    have ht : topS l = p := by unfold topS; rw [hst]; rfl
    repeat (refine PL.k rfl fun KK hKK => ?_; simp [go_sem, stepK]; refine hKK _ ?_; clear hKK KK)
    refine PL.done hK2 ?_; clear hK2
    refine PC.seq fun K2 hK2 => ?_
    refine PC.region ?_
    repeat (refine PL.k rfl fun KK hKK => ?_; simp [go_sem, stepK, h0]; refine hKK _ ?_; clear hKK KK)
    refine PL.done hK2 ?_; clear hK2
    refine PC.condT (by simp [go_sem, h0]) ?_
    refine PC.seq fun K hK => ?_
    refine PC.region ?_
    repeat (refine PL.k rfl fun KK hKK => ?_; simp [go_sem, stepK, h0]; refine hKK _ ?_; clear hKK KK)
    refine PL.done hK ?_; clear hK
    refine PC.ret ?_
    refine ⟨.inr rfl, b, slI (spLast l), ?_, ?_, ?_, rfl⟩
    · simp [resP, resP1, Try.results11, go_sem]
    · rw [show spLast l = p.last by unfold spLast; rw [if_pos hl, ht]]; exact hb.view _
    · exact noP_slI _
  · refine PL.inl rfl rfl (over_bad l _ hl) (by simp [go_sem]) (by simp [target, go_sem]) ?_
    rintro q H' rfl
    repeat (refine PL.k rfl fun KK hKK => ?_; simp [go_sem, stepK]; refine hKK _ ?_; clear hKK KK)
    refine PL.done hK2 ?_; clear hK2
    refine PC.seq fun K2 hK2 => ?_
    refine PC.region ?_
    repeat (refine PL.k rfl fun KK hKK => ?_; simp [go_sem, stepK]; refine hKK _ ?_; clear hKK KK)
    refine PL.done hK2 ?_; clear hK2
    refine PC.condF (by simp [go_sem]) ?_
    refine PC.skip (hK _ _ ?_); clear hK
    refine PC.seq fun K hK => ?_
    refine PC.region ?_
    repeat (refine PL.k rfl fun KK hKK => ?_; simp [go_sem, stepK]; refine hKK _ ?_; clear hKK KK)
    refine PL.done hK ?_; clear hK
    refine PC.ret ?_
    refine ⟨.inr rfl, .u (.slice none 0 0), slI (spLast l), ?_, ?_, ?_, rfl⟩
    · simp [resP, resP1, Try.results11, go_sem]
    · rw [show slI (spLast l) = .sl 1 [] by unfold spLast; rw [if_neg hl]; rfl]; exact View.nil _ _ _
    · rw [show slI (spLast l) = .sl 1 [] by unfold spLast; rw [if_neg hl]; rfl]; exact .sl _ _ fun c hc => by cases hc
set_option maxRecDepth 20000 in
theorem Sets_ok (l : List Rx) : PCall Try.prog 10 [slX l] (· = slS (spSets l)) := by
  refine PCall.intro' Try.func10 rfl Try.ntmps10 (by simp) fun W => ?_
  refine PC.seq fun K hK => ?_
  refine PC.region ?_
  repeat (refine PL.k rfl fun KK hKK => ?_; simp [go_sem, stepK]; refine hKK _ ?_; clear hKK KK)
  refine PL.done hK ?_; clear hK
  refine PC.seq fun K hK => ?_
  refine PC.seq fun K2 hK2 => ?_
  refine PC.region ?_
  repeat (refine PL.k rfl fun KK hKK => ?_; simp [go_sem, stepK]; refine hKK _ ?_; clear hKK KK)
  by_cases hl : checkL l = 0
  · refine PL.inl rfl rfl (over_in l _ hl) (by simp [go_sem]) (by simp [target, go_sem]) ?_
    rintro q H' ⟨vx, vs, vf, fc, a, b, p, rfl, hst, h0, h1, h2, h3, ha, hb⟩
    have ht : topS l = p := by unfold topS; rw [hst]; rfl
    repeat (refine PL.k rfl fun KK hKK => ?_; simp [go_sem, stepK]; refine hKK _ ?_; clear hKK KK)
    refine PL.done hK2 ?_; clear hK2
    refine PC.seq fun K2 hK2 => ?_
    refine PC.region ?_
    repeat (refine PL.k rfl fun KK hKK => ?_; simp [go_sem, stepK, h0]; refine hKK _ ?_; clear hKK KK)
    refine PL.done hK2 ?_; clear hK2
    refine PC.condT (by simp [go_sem, h0]) ?_
    refine PC.seq fun K hK => ?_
    refine PC.region ?_
    repeat (refine PL.k rfl fun KK hKK => ?_; simp [go_sem, stepK, h0]; refine hKK _ ?_; clear hKK KK)
    refine PL.done hK ?_; clear hK
    refine PC.ret ?_
    refine ⟨.inr rfl, rowV (runS l).sets.length 3 vs, slS (spSets l), ?_, ?_, ?_, rfl⟩
    · simp [resP, resP1, Try.results10, go_sem]
    · rw [show spSets l = (runS l).sets by unfold spSets; rw [if_pos hl]]; exact setsView h1
    · exact slS_noP _
  · refine PL.inl rfl rfl (over_bad l _ hl) (by simp [go_sem]) (by simp [target, go_sem]) ?_
    rintro q H' rfl
    repeat (refine PL.k rfl fun KK hKK => ?_; simp [go_sem, stepK]; refine hKK _ ?_; clear hKK KK)
    refine PL.done hK2 ?_; clear hK2
    refine PC.seq fun K2 hK2 => ?_
    refine PC.region ?_
    repeat (refine PL.k rfl fun KK hKK => ?_; simp [go_sem, stepK]; refine hKK _ ?_; clear hKK KK)
    refine PL.done hK2 ?_; clear hK2
    refine PC.condF (by simp [go_sem]) ?_
    refine PC.skip (hK _ _ ?_); clear hK
    refine PC.seq fun K hK => ?_
    refine PC.region ?_
    repeat (refine PL.k rfl fun KK hKK => ?_; simp [go_sem, stepK]; refine hKK _ ?_; clear hKK KK)
    refine PL.done hK ?_; clear hK
    refine PC.ret ?_
    refine ⟨.inr rfl, .u (.slice none 0 0), slS (spSets l), ?_, ?_, ?_, rfl⟩
    · simp [resP, resP1, Try.results10, go_sem]
    · rw [show slS (spSets l) = .sl 4 [] by unfold slS spSets; rw [if_neg hl]; rfl]; exact View.nil _ _ _
    · rw [show slS (spSets l) = .sl 4 [] by unfold slS spSets; rw [if_neg hl]; rfl]; exact .sl _ _ fun c hc => by cases hc
end Go.Proofs.Ythcckhpogmlgjaa

/-
  The package spot over pure values: Free, Follow.
-/
namespace Go.Proofs.Ythcckhpogmlgjaa
open Go Go.RowKit L
set_option linter.unusedVariables false
set_option linter.unusedSimpArgs false

set_option maxRecDepth 20000 in
theorem Free_ok (l : List Rx) : PCall Try.prog 16 [slX l] (· = B (spFree l)) := by
  refine PCall.intro' Try.func16 rfl Try.ntmps16 (by simp) fun W => ?_
  refine PC.seq fun K hK => ?_
  refine PC.region ?_
  repeat (refine PL.k rfl fun KK hKK => ?_; simp [go_sem, stepK]; refine hKK _ ?_; clear hKK KK)
  refine PL.done hK ?_; clear hK
  refine PC.seq fun K hK => ?_
  refine PC.region ?_
  repeat (refine PL.k rfl fun KK hKK => ?_; simp [go_sem, stepK]; refine hKK _ ?_; clear hKK KK)
  by_cases hl : checkL l = 0
  · refine PL.inl rfl rfl (over_in l _ hl) (by simp [go_sem]) (by simp [target, go_sem]) ?_
    rintro q H' ⟨vx, vs, vf, fc, a, b, p, rfl, hst, h0, h1, h2, h3, ha, hb⟩
    have ht : spFree l = p.free := by unfold spFree topS; rw [if_pos hl, hst]; rfl
    repeat (refine PL.k rfl fun KK hKK => ?_; simp [go_sem, stepK]; refine hKK _ ?_; clear hKK KK)
    refine PL.done hK ?_; clear hK
    refine PC.seq fun K hK => ?_
    refine PC.region ?_
    repeat (refine PL.k rfl fun KK hKK => ?_; simp [go_sem, stepK, h0]; refine hKK _ ?_; clear hKK KK)
    repeat (refine PL.g rfl rfl fun KK hKK => ?_; simp (disch := omega) [go_sem, L.stepG, h0]; refine hKK _ ?_; clear hKK KK)
    repeat (refine PL.k rfl fun KK hKK => ?_; simp [go_sem, stepK, h0]; refine hKK _ ?_; clear hKK KK)
    refine PL.done hK ?_; clear hK
    refine PC.ret ?_
    refine fin (.inr rfl) ?_ (.u _)
    simp [resP, resP1, Try.results16, go_sem, ht]
  · refine PL.inl rfl rfl (over_bad l _ hl) (by simp [go_sem]) (by simp [target, go_sem]) ?_
    rintro q H' rfl
    have ht : spFree l = false := by unfold spFree; rw [if_neg hl]
    repeat (refine PL.k rfl fun KK hKK => ?_; simp [go_sem, stepK]; refine hKK _ ?_; clear hKK KK)
    refine PL.done hK ?_; clear hK
    refine PC.seq fun K hK => ?_
    refine PC.region ?_
    repeat (refine PL.k rfl fun KK hKK => ?_; simp [go_sem, stepK]; refine hKK _ ?_; clear hKK KK)
    repeat (refine PL.g rfl rfl fun KK hKK => ?_; simp (disch := omega) [go_sem, L.stepG]; refine hKK _ ?_; clear hKK KK)
    repeat (refine PL.k rfl fun KK hKK => ?_; simp [go_sem, stepK]; refine hKK _ ?_; clear hKK KK)
    refine PL.done hK ?_; clear hK
    refine PC.ret ?_
    refine fin (.inr rfl) ?_ (.u _)
    simp [resP, resP1, Try.results16, go_sem, ht]

theorem top_n {l : List Rx} {p : Pt} (hst : (runS l).st = [p]) : p.n ≤ (runS l).sets.length ∧ (runS l).fol.length = (runS l).sets.length := by
  have := (runS_ok l l.length (Nat.le_refl _)).1
  rw [List.take_of_length_le (Nat.le_refl _)] at this
  refine ⟨?_, this.len⟩
  have h := this.sum
  rw [hst] at h
  simpa [sumN] using h

set_option maxRecDepth 20000 in
set_option maxHeartbeats 1000000 in
theorem Follow_ok (l : List Rx) (i : Int) : PCall Try.prog 13 [slX l, I i] (· = slI (spFollow l i)) := by
  refine PCall.intro' Try.func13 rfl Try.ntmps13 (by simp) fun W => ?_
  refine PC.seq fun K hK => ?_
  refine PC.region ?_
  repeat (refine PL.k rfl fun KK hKK => ?_; simp [go_sem, stepK]; refine hKK _ ?_; clear hKK KK)
  refine PL.done hK ?_; clear hK
  refine PC.seq fun K hK => ?_
  refine PC.seq fun K2 hK2 => ?_
  refine PC.region ?_
  repeat (refine PL.k rfl fun KK hKK => ?_; simp [go_sem, stepK]; refine hKK _ ?_; clear hKK KK)
  have bad : spFollow l i = [] → ∀ (F : PFrame) (H : PHeap), K F H := fun he F H => by
    refine hK _ _ ?_
    refine PC.seq fun K hK => ?_
    refine PC.region ?_
    repeat (refine PL.k rfl fun KK hKK => ?_; simp [go_sem, stepK]; refine hKK _ ?_; clear hKK KK)
    refine PL.done hK ?_; clear hK
    refine PC.ret ?_
    refine ⟨.inr rfl, .u (.slice none 0 0), slI (spFollow l i), ?_, ?_, ?_, rfl⟩
    · simp [resP, resP1, Try.results13, go_sem]
    · rw [he]; exact View.nil _ _ _
    · exact noP_slI _
  by_cases hl : checkL l = 0
  · refine PL.inl rfl rfl (over_in l _ hl) (by simp [go_sem]) (by simp [target, go_sem]) ?_
    rintro q H' ⟨vx, vs, vf, fc, a, b, p, rfl, hst, h0, h1, h2, h3, ha, hb⟩
    have ht : topS l = p := by unfold topS; rw [hst]; rfl
    have hn := top_n hst
    repeat (refine PL.k rfl fun KK hKK => ?_; simp [go_sem, stepK]; refine hKK _ ?_; clear hKK KK)
    refine PL.done hK2 ?_; clear hK2
    refine PC.seq fun K2 hK2 => ?_
    refine PC.region ?_
    repeat (refine PL.k rfl fun KK hKK => ?_; simp [go_sem, stepK, h0]; refine hKK _ ?_; clear hKK KK)
    by_cases hi0 : 0 ≤ i
    · repeat (refine PL.g rfl rfl fun KK hKK => ?_; simp (disch := omega) [go_sem, L.stepG, h0, hi0]; refine hKK _ ?_; clear hKK KK)
      repeat (refine PL.k rfl fun KK hKK => ?_; simp [go_sem, stepK, h0, hi0]; refine hKK _ ?_; clear hKK KK)
      repeat (refine PL.g rfl rfl fun KK hKK => ?_; simp (disch := omega) [go_sem, L.stepG, h0, hi0]; refine hKK _ ?_; clear hKK KK)
      repeat (refine PL.k rfl fun KK hKK => ?_; simp [go_sem, stepK, h0, hi0]; refine hKK _ ?_; clear hKK KK)
      refine PL.done hK2 ?_; clear hK2
      by_cases hin : i < p.n
      · refine PC.condT (by simp [go_sem, hin]) ?_
        obtain ⟨u, rfl⟩ : ∃ u : Nat, i = (u : Int) := ⟨i.toNat, by omega⟩
        have hu : u < (runS l).sets.length := by omega
        have hfl : fc.length = (runS l).sets.length := by rw [h3.1]; exact hn.2
        have hfu : u < fc.length := by omega
        have hrow := h2.2 (by omega)
        rw [rowV_pos (m := (runS l).sets.length) (by omega) 4] at h0
        obtain ⟨lu, hlu⟩ : ∃ lu, (runS l).fol[u]? = some lu := ⟨_, List.getElem?_eq_getElem (by rw [hn.2]; exact hu)⟩
        have hisl := h3.2 u _ lu (List.getElem?_eq_getElem hfu) hlu
        have hcell : fc[u]? = some fc[u] := List.getElem?_eq_getElem hfu
        refine PC.seq fun K hK => ?_
        refine PC.region ?_
        repeat (refine PL.k rfl fun KK hKK => ?_; simp [go_sem, stepK, h0, hrow, hu, hfu, hcell]; refine hKK _ ?_; clear hKK KK)
        refine PL.done hK ?_; clear hK
        refine PC.ret ?_
        have he : spFollow l u = lu := by unfold spFollow; rw [if_pos ⟨hl, hi0, by rw [ht]; exact hin⟩]; simp [hlu]
        refine ⟨.inr rfl, fc[u], slI (spFollow l u), ?_, ?_, noP_slI _, rfl⟩
        · simp [resP, resP1, Try.results13, go_sem]
        · rw [he]; exact hisl.view _
      · refine PC.condF (by simp [go_sem, hin]) ?_
        exact PC.skip (bad (by unfold spFollow; rw [if_neg (fun h => hin (by rw [← ht]; exact h.2.2))]) _ _)
    · repeat (refine PL.g rfl rfl fun KK hKK => ?_; simp (disch := omega) [go_sem, L.stepG, h0, hi0]; refine hKK _ ?_; clear hKK KK)
      repeat (refine PL.k rfl fun KK hKK => ?_; simp [go_sem, stepK, h0, hi0]; refine hKK _ ?_; clear hKK KK)
      repeat (refine PL.g rfl rfl fun KK hKK => ?_; simp (disch := omega) [go_sem, L.stepG, h0, hi0]; refine hKK _ ?_; clear hKK KK)
      repeat (refine PL.k rfl fun KK hKK => ?_; simp [go_sem, stepK, h0, hi0]; refine hKK _ ?_; clear hKK KK)
      refine PL.done hK2 ?_; clear hK2
      refine PC.condF (by simp [go_sem]) ?_
      exact PC.skip (bad (by unfold spFollow; rw [if_neg (fun h => hi0 h.2.1)]) _ _)
  · refine PL.inl rfl rfl (over_bad l _ hl) (by simp [go_sem]) (by simp [target, go_sem]) ?_
    rintro q H' rfl
    repeat (refine PL.k rfl fun KK hKK => ?_; simp [go_sem, stepK]; refine hKK _ ?_; clear hKK KK)
    refine PL.done hK2 ?_; clear hK2
    refine PC.seq fun K2 hK2 => ?_
    refine PC.region ?_
    repeat (refine PL.k rfl fun KK hKK => ?_; simp [go_sem, stepK]; refine hKK _ ?_; clear hKK KK)
    repeat (refine PL.g rfl rfl fun KK hKK => ?_; simp (disch := omega) [go_sem, L.stepG]; refine hKK _ ?_; clear hKK KK)
    repeat (refine PL.k rfl fun KK hKK => ?_; simp [go_sem, stepK]; refine hKK _ ?_; clear hKK KK)
    repeat (refine PL.g rfl rfl fun KK hKK => ?_; simp (disch := omega) [go_sem, L.stepG]; refine hKK _ ?_; clear hKK KK)
    repeat (refine PL.k rfl fun KK hKK => ?_; simp [go_sem, stepK]; refine hKK _ ?_; clear hKK KK)
    refine PL.done hK2 ?_; clear hK2
    refine PC.condF (by simp [go_sem]) ?_
    exact PC.skip (bad (by unfold spFollow; rw [if_neg (fun h => hl h.1)]) _ _)
end Go.Proofs.Ythcckhpogmlgjaa
