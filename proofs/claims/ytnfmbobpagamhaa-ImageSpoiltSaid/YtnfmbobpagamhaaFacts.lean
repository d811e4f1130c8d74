import Derived.Test.YtnfmbobpagamhaaVm
import Derived.Test.YtnfmbobpagamhaaProg
namespace Go.Proofs.Ytnfmbobpagamhaa
open Go.Vc Go.Proofs
theorem eqKind_0 : eqKind Try.prog 0 = 0 := by kernel_rfl
theorem tyK_0 : tyK Try.prog 0 = some none := by kernel_rfl
theorem elemK_0 : elemK Try.prog 0 = none := by kernel_rfl
theorem eqKind_1 : eqKind Try.prog 1 = 5 := by kernel_rfl
theorem tyK_1 : tyK Try.prog 1 = some none := by kernel_rfl
theorem elemK_1 : elemK Try.prog 1 = none := by kernel_rfl
theorem eqKind_2 : eqKind Try.prog 2 = 0 := by kernel_rfl
theorem tyK_2 : tyK Try.prog 2 = some none := by kernel_rfl
theorem elemK_2 : elemK Try.prog 2 = none := by kernel_rfl
theorem eqKind_3 : eqKind Try.prog 3 = 0 := by kernel_rfl
theorem tyK_3 : tyK Try.prog 3 = some none := by kernel_rfl
theorem elemK_3 : elemK Try.prog 3 = none := by kernel_rfl
theorem eqKind_4 : eqKind Try.prog 4 = 6 := by kernel_rfl
theorem tyK_4 : tyK Try.prog 4 = some none := by kernel_rfl
theorem elemK_4 : elemK Try.prog 4 = none := by kernel_rfl
theorem eqKind_5 : eqKind Try.prog 5 = 0 := by kernel_rfl
theorem tyK_5 : tyK Try.prog 5 = some none := by kernel_rfl
theorem elemK_5 : elemK Try.prog 5 = none := by kernel_rfl
theorem eqKind_6 : eqKind Try.prog 6 = 0 := by kernel_rfl
theorem tyK_6 : tyK Try.prog 6 = some none := by kernel_rfl
theorem elemK_6 : elemK Try.prog 6 = none := by kernel_rfl
theorem eqKind_7 : eqKind Try.prog 7 = 0 := by kernel_rfl
theorem tyK_7 : tyK Try.prog 7 = some (some 4) := by kernel_rfl
theorem bldI_7 : bldI Try.prog 7 = some ([.int .i64 0, .int .i64 0, .bool false, .int .u8 0], [(0, 1), (1, 1), (2, 1), (3, 1)]) := by kernel_rfl
theorem elemK_7 : elemK Try.prog 7 = none := by kernel_rfl
theorem fieldK_7_0 : fieldK Try.prog 7 0 = some (0, none) := by kernel_rfl
theorem fieldK_7_1 : fieldK Try.prog 7 1 = some (1, none) := by kernel_rfl
theorem fieldK_7_2 : fieldK Try.prog 7 2 = some (2, none) := by kernel_rfl
theorem fieldK_7_3 : fieldK Try.prog 7 3 = some (3, none) := by kernel_rfl
theorem eqKind_8 : eqKind Try.prog 8 = 0 := by kernel_rfl
theorem tyK_8 : tyK Try.prog 8 = some (some 4) := by kernel_rfl
theorem bldI_8 : bldI Try.prog 8 = some ([.int .i64 0, .int .i64 0, .bool false, .int .u8 0], [(0, 1), (1, 1), (2, 1), (3, 1)]) := by kernel_rfl
theorem elemK_8 : elemK Try.prog 8 = none := by kernel_rfl
theorem fieldK_8_0 : fieldK Try.prog 8 0 = some (0, none) := by kernel_rfl
theorem fieldK_8_1 : fieldK Try.prog 8 1 = some (1, none) := by kernel_rfl
theorem fieldK_8_2 : fieldK Try.prog 8 2 = some (2, none) := by kernel_rfl
theorem fieldK_8_3 : fieldK Try.prog 8 3 = some (3, none) := by kernel_rfl
theorem eqKind_9 : eqKind Try.prog 9 = 0 := by kernel_rfl
theorem tyK_9 : tyK Try.prog 9 = some none := by kernel_rfl
theorem elemK_9 : elemK Try.prog 9 = none := by kernel_rfl
theorem eqKind_10 : eqKind Try.prog 10 = 0 := by kernel_rfl
theorem tyK_10 : tyK Try.prog 10 = some none := by kernel_rfl
theorem elemK_10 : elemK Try.prog 10 = none := by kernel_rfl
theorem eqKind_11 : eqKind Try.prog 11 = 0 := by kernel_rfl
theorem tyK_11 : tyK Try.prog 11 = some none := by kernel_rfl
theorem elemK_11 : elemK Try.prog 11 = none := by kernel_rfl
theorem eqKind_12 : eqKind Try.prog 12 = 0 := by kernel_rfl
theorem tyK_12 : tyK Try.prog 12 = some none := by kernel_rfl
theorem elemK_12 : elemK Try.prog 12 = none := by kernel_rfl
theorem eqKind_13 : eqKind Try.prog 13 = 0 := by kernel_rfl
theorem tyK_13 : tyK Try.prog 13 = some (some 2) := by kernel_rfl
theorem bldI_13 : bldI Try.prog 13 = some ([str [], .int .u64 0], [(0, 1), (1, 1)]) := by kernel_rfl
theorem elemK_13 : elemK Try.prog 13 = none := by kernel_rfl
theorem fieldK_13_0 : fieldK Try.prog 13 0 = some (0, none) := by kernel_rfl
theorem fieldK_13_1 : fieldK Try.prog 13 1 = some (1, none) := by kernel_rfl
theorem eqKind_14 : eqKind Try.prog 14 = 0 := by kernel_rfl
theorem tyK_14 : tyK Try.prog 14 = some (some 2) := by kernel_rfl
theorem bldI_14 : bldI Try.prog 14 = some ([str [], .int .u64 0], [(0, 1), (1, 1)]) := by kernel_rfl
theorem elemK_14 : elemK Try.prog 14 = none := by kernel_rfl
theorem fieldK_14_0 : fieldK Try.prog 14 0 = some (0, none) := by kernel_rfl
theorem fieldK_14_1 : fieldK Try.prog 14 1 = some (1, none) := by kernel_rfl
theorem eqKind_15 : eqKind Try.prog 15 = 2 := by kernel_rfl
theorem tyK_15 : tyK Try.prog 15 = some none := by kernel_rfl
theorem elemK_15 : elemK Try.prog 15 = none := by kernel_rfl
theorem eqKind_16 : eqKind Try.prog 16 = 2 := by kernel_rfl
theorem tyK_16 : tyK Try.prog 16 = some none := by kernel_rfl
theorem elemK_16 : elemK Try.prog 16 = none := by kernel_rfl
theorem eqKind_17 : eqKind Try.prog 17 = 2 := by kernel_rfl
theorem tyK_17 : tyK Try.prog 17 = some none := by kernel_rfl
theorem elemK_17 : elemK Try.prog 17 = none := by kernel_rfl
theorem eqKind_18 : eqKind Try.prog 18 = 0 := by kernel_rfl
theorem tyK_18 : tyK Try.prog 18 = some (some 1) := by kernel_rfl
theorem bldI_18 : bldI Try.prog 18 = some ([.pointer none], [(0, 1)]) := by kernel_rfl
theorem elemK_18 : elemK Try.prog 18 = none := by kernel_rfl
theorem fieldK_18_0 : fieldK Try.prog 18 0 = some (0, none) := by kernel_rfl
theorem eqKind_19 : eqKind Try.prog 19 = 0 := by kernel_rfl
theorem tyK_19 : tyK Try.prog 19 = some (some 1) := by kernel_rfl
theorem bldI_19 : bldI Try.prog 19 = some ([.pointer none], [(0, 1)]) := by kernel_rfl
theorem elemK_19 : elemK Try.prog 19 = none := by kernel_rfl
theorem fieldK_19_0 : fieldK Try.prog 19 0 = some (0, none) := by kernel_rfl
theorem eqKind_20 : eqKind Try.prog 20 = 1 := by kernel_rfl
theorem tyK_20 : tyK Try.prog 20 = some none := by kernel_rfl
theorem elemK_20 : elemK Try.prog 20 = none := by kernel_rfl
theorem eqKind_21 : eqKind Try.prog 21 = 0 := by kernel_rfl
theorem tyK_21 : tyK Try.prog 21 = some none := by kernel_rfl
theorem elemK_21 : elemK Try.prog 21 = none := by kernel_rfl
theorem eqKind_22 : eqKind Try.prog 22 = 3 := by kernel_rfl
theorem tyK_22 : tyK Try.prog 22 = some none := by kernel_rfl
theorem elemK_22 : elemK Try.prog 22 = some (51, 1) := by kernel_rfl
theorem elI_22 : elI Try.prog 22 = some (51, 1, 24) := by kernel_rfl
theorem eqKind_23 : eqKind Try.prog 23 = 3 := by kernel_rfl
theorem tyK_23 : tyK Try.prog 23 = some none := by kernel_rfl
theorem elemK_23 : elemK Try.prog 23 = some (31, 3) := by kernel_rfl
theorem elI_23 : elI Try.prog 23 = some (31, 3, 24) := by kernel_rfl
theorem eqKind_24 : eqKind Try.prog 24 = 0 := by kernel_rfl
theorem tyK_24 : tyK Try.prog 24 = some (some 2) := by kernel_rfl
theorem bldI_24 : bldI Try.prog 24 = some ([.slice none 0 0, .slice none 0 0], [(0, 1), (1, 1)]) := by kernel_rfl
theorem elemK_24 : elemK Try.prog 24 = none := by kernel_rfl
theorem fieldK_24_0 : fieldK Try.prog 24 0 = some (0, none) := by kernel_rfl
theorem fieldK_24_1 : fieldK Try.prog 24 1 = some (1, none) := by kernel_rfl
theorem eqKind_25 : eqKind Try.prog 25 = 0 := by kernel_rfl
theorem tyK_25 : tyK Try.prog 25 = some (some 2) := by kernel_rfl
theorem bldI_25 : bldI Try.prog 25 = some ([.slice none 0 0, .slice none 0 0], [(0, 1), (1, 1)]) := by kernel_rfl
theorem elemK_25 : elemK Try.prog 25 = none := by kernel_rfl
theorem fieldK_25_0 : fieldK Try.prog 25 0 = some (0, none) := by kernel_rfl
theorem fieldK_25_1 : fieldK Try.prog 25 1 = some (1, none) := by kernel_rfl
theorem eqKind_26 : eqKind Try.prog 26 = 3 := by kernel_rfl
theorem tyK_26 : tyK Try.prog 26 = some none := by kernel_rfl
theorem elemK_26 : elemK Try.prog 26 = some (3, 1) := by kernel_rfl
theorem elI_26 : elI Try.prog 26 = some (3, 1, 8) := by kernel_rfl
theorem eqKind_27 : eqKind Try.prog 27 = 5 := by kernel_rfl
theorem tyK_27 : tyK Try.prog 27 = some none := by kernel_rfl
theorem elemK_27 : elemK Try.prog 27 = none := by kernel_rfl
theorem eqKind_28 : eqKind Try.prog 28 = 5 := by kernel_rfl
theorem tyK_28 : tyK Try.prog 28 = some none := by kernel_rfl
theorem elemK_28 : elemK Try.prog 28 = none := by kernel_rfl
theorem eqKind_29 : eqKind Try.prog 29 = 5 := by kernel_rfl
theorem tyK_29 : tyK Try.prog 29 = some none := by kernel_rfl
theorem elemK_29 : elemK Try.prog 29 = none := by kernel_rfl
theorem eqKind_30 : eqKind Try.prog 30 = 10 := by kernel_rfl
theorem tyK_30 : tyK Try.prog 30 = some (some 3) := by kernel_rfl
theorem bldI_30 : bldI Try.prog 30 = some ([.int .i64 0, .int .i64 0, .int .i64 0], [(0, 1), (1, 1), (2, 1)]) := by kernel_rfl
theorem elemK_30 : elemK Try.prog 30 = none := by kernel_rfl
theorem fieldK_30_0 : fieldK Try.prog 30 0 = some (0, none) := by kernel_rfl
theorem fieldK_30_1 : fieldK Try.prog 30 1 = some (1, none) := by kernel_rfl
theorem fieldK_30_2 : fieldK Try.prog 30 2 = some (2, none) := by kernel_rfl
theorem eqKind_31 : eqKind Try.prog 31 = 10 := by kernel_rfl
theorem tyK_31 : tyK Try.prog 31 = some (some 3) := by kernel_rfl
theorem bldI_31 : bldI Try.prog 31 = some ([.int .i64 0, .int .i64 0, .int .i64 0], [(0, 1), (1, 1), (2, 1)]) := by kernel_rfl
theorem elemK_31 : elemK Try.prog 31 = none := by kernel_rfl
theorem fieldK_31_0 : fieldK Try.prog 31 0 = some (0, none) := by kernel_rfl
theorem fieldK_31_1 : fieldK Try.prog 31 1 = some (1, none) := by kernel_rfl
theorem fieldK_31_2 : fieldK Try.prog 31 2 = some (2, none) := by kernel_rfl
theorem eqKind_32 : eqKind Try.prog 32 = 1 := by kernel_rfl
theorem tyK_32 : tyK Try.prog 32 = some none := by kernel_rfl
theorem elemK_32 : elemK Try.prog 32 = none := by kernel_rfl
theorem eqKind_33 : eqKind Try.prog 33 = 1 := by kernel_rfl
theorem tyK_33 : tyK Try.prog 33 = some none := by kernel_rfl
theorem elemK_33 : elemK Try.prog 33 = none := by kernel_rfl
theorem eqKind_34 : eqKind Try.prog 34 = 0 := by kernel_rfl
theorem tyK_34 : tyK Try.prog 34 = some none := by kernel_rfl
theorem elemK_34 : elemK Try.prog 34 = none := by kernel_rfl
theorem eqKind_35 : eqKind Try.prog 35 = 5 := by kernel_rfl
theorem tyK_35 : tyK Try.prog 35 = some none := by kernel_rfl
theorem elemK_35 : elemK Try.prog 35 = none := by kernel_rfl
theorem eqKind_36 : eqKind Try.prog 36 = 5 := by kernel_rfl
theorem tyK_36 : tyK Try.prog 36 = some none := by kernel_rfl
theorem elemK_36 : elemK Try.prog 36 = none := by kernel_rfl
theorem eqKind_37 : eqKind Try.prog 37 = 3 := by kernel_rfl
theorem tyK_37 : tyK Try.prog 37 = some none := by kernel_rfl
theorem elemK_37 : elemK Try.prog 37 = some (68, 5) := by kernel_rfl
theorem elI_37 : elI Try.prog 37 = some (68, 5, 104) := by kernel_rfl
theorem eqKind_38 : eqKind Try.prog 38 = 0 := by kernel_rfl
theorem tyK_38 : tyK Try.prog 38 = some (some 2) := by kernel_rfl
theorem bldI_38 : bldI Try.prog 38 = some ([.slice none 0 0, .bool false], [(0, 1), (1, 1)]) := by kernel_rfl
theorem elemK_38 : elemK Try.prog 38 = none := by kernel_rfl
theorem fieldK_38_0 : fieldK Try.prog 38 0 = some (0, none) := by kernel_rfl
theorem fieldK_38_1 : fieldK Try.prog 38 1 = some (1, none) := by kernel_rfl
theorem eqKind_39 : eqKind Try.prog 39 = 0 := by kernel_rfl
theorem tyK_39 : tyK Try.prog 39 = some (some 2) := by kernel_rfl
theorem bldI_39 : bldI Try.prog 39 = some ([.slice none 0 0, .bool false], [(0, 1), (1, 1)]) := by kernel_rfl
theorem elemK_39 : elemK Try.prog 39 = none := by kernel_rfl
theorem fieldK_39_0 : fieldK Try.prog 39 0 = some (0, none) := by kernel_rfl
theorem fieldK_39_1 : fieldK Try.prog 39 1 = some (1, none) := by kernel_rfl
theorem eqKind_40 : eqKind Try.prog 40 = 5 := by kernel_rfl
theorem tyK_40 : tyK Try.prog 40 = some none := by kernel_rfl
theorem elemK_40 : elemK Try.prog 40 = none := by kernel_rfl
theorem eqKind_41 : eqKind Try.prog 41 = 0 := by kernel_rfl
theorem tyK_41 : tyK Try.prog 41 = some none := by kernel_rfl
theorem elemK_41 : elemK Try.prog 41 = none := by kernel_rfl
theorem eqKind_42 : eqKind Try.prog 42 = 5 := by kernel_rfl
theorem tyK_42 : tyK Try.prog 42 = some none := by kernel_rfl
theorem elemK_42 : elemK Try.prog 42 = none := by kernel_rfl
theorem eqKind_43 : eqKind Try.prog 43 = 3 := by kernel_rfl
theorem tyK_43 : tyK Try.prog 43 = some none := by kernel_rfl
theorem elemK_43 : elemK Try.prog 43 = some (5, 1) := by kernel_rfl
theorem elI_43 : elI Try.prog 43 = some (5, 1, 1) := by kernel_rfl
theorem eqKind_44 : eqKind Try.prog 44 = 0 := by kernel_rfl
theorem tyK_44 : tyK Try.prog 44 = some none := by kernel_rfl
theorem elemK_44 : elemK Try.prog 44 = none := by kernel_rfl
theorem eqKind_45 : eqKind Try.prog 45 = 5 := by kernel_rfl
theorem tyK_45 : tyK Try.prog 45 = some none := by kernel_rfl
theorem elemK_45 : elemK Try.prog 45 = none := by kernel_rfl
theorem eqKind_46 : eqKind Try.prog 46 = 5 := by kernel_rfl
theorem tyK_46 : tyK Try.prog 46 = some none := by kernel_rfl
theorem elemK_46 : elemK Try.prog 46 = none := by kernel_rfl
theorem eqKind_47 : eqKind Try.prog 47 = 5 := by kernel_rfl
theorem tyK_47 : tyK Try.prog 47 = some none := by kernel_rfl
theorem elemK_47 : elemK Try.prog 47 = none := by kernel_rfl
theorem eqKind_48 : eqKind Try.prog 48 = 5 := by kernel_rfl
theorem tyK_48 : tyK Try.prog 48 = some none := by kernel_rfl
theorem elemK_48 : elemK Try.prog 48 = none := by kernel_rfl
theorem eqKind_49 : eqKind Try.prog 49 = 5 := by kernel_rfl
theorem tyK_49 : tyK Try.prog 49 = some none := by kernel_rfl
theorem elemK_49 : elemK Try.prog 49 = none := by kernel_rfl
theorem eqKind_50 : eqKind Try.prog 50 = 3 := by kernel_rfl
theorem tyK_50 : tyK Try.prog 50 = some none := by kernel_rfl
theorem elemK_50 : elemK Try.prog 50 = some (54, 2) := by kernel_rfl
theorem elI_50 : elI Try.prog 50 = some (54, 2, 16) := by kernel_rfl
theorem eqKind_51 : eqKind Try.prog 51 = 3 := by kernel_rfl
theorem tyK_51 : tyK Try.prog 51 = some none := by kernel_rfl
theorem elemK_51 : elemK Try.prog 51 = some (54, 2) := by kernel_rfl
theorem elI_51 : elI Try.prog 51 = some (54, 2, 16) := by kernel_rfl
theorem eqKind_52 : eqKind Try.prog 52 = 5 := by kernel_rfl
theorem tyK_52 : tyK Try.prog 52 = some none := by kernel_rfl
theorem elemK_52 : elemK Try.prog 52 = none := by kernel_rfl
theorem eqKind_53 : eqKind Try.prog 53 = 9 := by kernel_rfl
theorem tyK_53 : tyK Try.prog 53 = some (some 2) := by kernel_rfl
theorem bldI_53 : bldI Try.prog 53 = some ([.int .i64 0, .int .i64 0], [(0, 1), (1, 1)]) := by kernel_rfl
theorem elemK_53 : elemK Try.prog 53 = none := by kernel_rfl
theorem fieldK_53_0 : fieldK Try.prog 53 0 = some (0, none) := by kernel_rfl
theorem fieldK_53_1 : fieldK Try.prog 53 1 = some (1, none) := by kernel_rfl
theorem eqKind_54 : eqKind Try.prog 54 = 9 := by kernel_rfl
theorem tyK_54 : tyK Try.prog 54 = some (some 2) := by kernel_rfl
theorem bldI_54 : bldI Try.prog 54 = some ([.int .i64 0, .int .i64 0], [(0, 1), (1, 1)]) := by kernel_rfl
theorem elemK_54 : elemK Try.prog 54 = none := by kernel_rfl
theorem fieldK_54_0 : fieldK Try.prog 54 0 = some (0, none) := by kernel_rfl
theorem fieldK_54_1 : fieldK Try.prog 54 1 = some (1, none) := by kernel_rfl
theorem eqKind_55 : eqKind Try.prog 55 = 5 := by kernel_rfl
theorem tyK_55 : tyK Try.prog 55 = some none := by kernel_rfl
theorem elemK_55 : elemK Try.prog 55 = none := by kernel_rfl
theorem eqKind_56 : eqKind Try.prog 56 = 5 := by kernel_rfl
theorem tyK_56 : tyK Try.prog 56 = some none := by kernel_rfl
theorem elemK_56 : elemK Try.prog 56 = none := by kernel_rfl
theorem eqKind_57 : eqKind Try.prog 57 = 5 := by kernel_rfl
theorem tyK_57 : tyK Try.prog 57 = some none := by kernel_rfl
theorem elemK_57 : elemK Try.prog 57 = none := by kernel_rfl
theorem eqKind_58 : eqKind Try.prog 58 = 0 := by kernel_rfl
theorem tyK_58 : tyK Try.prog 58 = some none := by kernel_rfl
theorem elemK_58 : elemK Try.prog 58 = none := by kernel_rfl
theorem eqKind_59 : eqKind Try.prog 59 = 0 := by kernel_rfl
theorem tyK_59 : tyK Try.prog 59 = some none := by kernel_rfl
theorem elemK_59 : elemK Try.prog 59 = none := by kernel_rfl
theorem eqKind_60 : eqKind Try.prog 60 = 2 := by kernel_rfl
theorem tyK_60 : tyK Try.prog 60 = some none := by kernel_rfl
theorem elemK_60 : elemK Try.prog 60 = none := by kernel_rfl
theorem eqKind_61 : eqKind Try.prog 61 = 3 := by kernel_rfl
theorem tyK_61 : tyK Try.prog 61 = some none := by kernel_rfl
theorem elemK_61 : elemK Try.prog 61 = some (4, 1) := by kernel_rfl
theorem elI_61 : elI Try.prog 61 = some (4, 1, 1) := by kernel_rfl
theorem eqKind_62 : eqKind Try.prog 62 = 0 := by kernel_rfl
theorem tyK_62 : tyK Try.prog 62 = some (some 2) := by kernel_rfl
theorem bldI_62 : bldI Try.prog 62 = some ([.slice none 0 0, .slice none 0 0], [(0, 1), (1, 1)]) := by kernel_rfl
theorem elemK_62 : elemK Try.prog 62 = none := by kernel_rfl
theorem fieldK_62_0 : fieldK Try.prog 62 0 = some (0, none) := by kernel_rfl
theorem fieldK_62_1 : fieldK Try.prog 62 1 = some (1, none) := by kernel_rfl
theorem eqKind_63 : eqKind Try.prog 63 = 0 := by kernel_rfl
theorem tyK_63 : tyK Try.prog 63 = some (some 2) := by kernel_rfl
theorem bldI_63 : bldI Try.prog 63 = some ([.slice none 0 0, .slice none 0 0], [(0, 1), (1, 1)]) := by kernel_rfl
theorem elemK_63 : elemK Try.prog 63 = none := by kernel_rfl
theorem fieldK_63_0 : fieldK Try.prog 63 0 = some (0, none) := by kernel_rfl
theorem fieldK_63_1 : fieldK Try.prog 63 1 = some (1, none) := by kernel_rfl
theorem eqKind_64 : eqKind Try.prog 64 = 5 := by kernel_rfl
theorem tyK_64 : tyK Try.prog 64 = some none := by kernel_rfl
theorem elemK_64 : elemK Try.prog 64 = none := by kernel_rfl
theorem eqKind_65 : eqKind Try.prog 65 = 5 := by kernel_rfl
theorem tyK_65 : tyK Try.prog 65 = some none := by kernel_rfl
theorem elemK_65 : elemK Try.prog 65 = none := by kernel_rfl
theorem eqKind_66 : eqKind Try.prog 66 = 5 := by kernel_rfl
theorem tyK_66 : tyK Try.prog 66 = some none := by kernel_rfl
theorem elemK_66 : elemK Try.prog 66 = none := by kernel_rfl
theorem eqKind_67 : eqKind Try.prog 67 = 0 := by kernel_rfl
theorem tyK_67 : tyK Try.prog 67 = some (some 5) := by kernel_rfl
theorem bldI_67 : bldI Try.prog 67 = some ([.bool false, .slice none 0 0, .slice none 0 0, .slice none 0 0, .slice none 0 0], [(0, 1), (1, 2), (3, 2)]) := by kernel_rfl
theorem elemK_67 : elemK Try.prog 67 = none := by kernel_rfl
theorem fieldK_67_0 : fieldK Try.prog 67 0 = some (0, none) := by kernel_rfl
theorem fieldK_67_1 : fieldK Try.prog 67 1 = some (1, (some 2)) := by kernel_rfl
theorem fieldK_67_2 : fieldK Try.prog 67 2 = some (3, (some 2)) := by kernel_rfl
theorem eqKind_68 : eqKind Try.prog 68 = 0 := by kernel_rfl
theorem tyK_68 : tyK Try.prog 68 = some (some 5) := by kernel_rfl
theorem bldI_68 : bldI Try.prog 68 = some ([.bool false, .slice none 0 0, .slice none 0 0, .slice none 0 0, .slice none 0 0], [(0, 1), (1, 2), (3, 2)]) := by kernel_rfl
theorem elemK_68 : elemK Try.prog 68 = none := by kernel_rfl
theorem fieldK_68_0 : fieldK Try.prog 68 0 = some (0, none) := by kernel_rfl
theorem fieldK_68_1 : fieldK Try.prog 68 1 = some (1, (some 2)) := by kernel_rfl
theorem fieldK_68_2 : fieldK Try.prog 68 2 = some (3, (some 2)) := by kernel_rfl
theorem eqKind_69 : eqKind Try.prog 69 = 5 := by kernel_rfl
theorem tyK_69 : tyK Try.prog 69 = some none := by kernel_rfl
theorem elemK_69 : elemK Try.prog 69 = none := by kernel_rfl
theorem eqKind_70 : eqKind Try.prog 70 = 0 := by kernel_rfl
theorem tyK_70 : tyK Try.prog 70 = some none := by kernel_rfl
theorem elemK_70 : elemK Try.prog 70 = none := by kernel_rfl
theorem eqKind_71 : eqKind Try.prog 71 = 5 := by kernel_rfl
theorem tyK_71 : tyK Try.prog 71 = some none := by kernel_rfl
theorem elemK_71 : elemK Try.prog 71 = none := by kernel_rfl
theorem eqKind_72 : eqKind Try.prog 72 = 5 := by kernel_rfl
theorem tyK_72 : tyK Try.prog 72 = some none := by kernel_rfl
theorem elemK_72 : elemK Try.prog 72 = none := by kernel_rfl
theorem eqKind_73 : eqKind Try.prog 73 = 5 := by kernel_rfl
theorem tyK_73 : tyK Try.prog 73 = some none := by kernel_rfl
theorem elemK_73 : elemK Try.prog 73 = none := by kernel_rfl
theorem eqKind_74 : eqKind Try.prog 74 = 5 := by kernel_rfl
theorem tyK_74 : tyK Try.prog 74 = some none := by kernel_rfl
theorem elemK_74 : elemK Try.prog 74 = none := by kernel_rfl
theorem eqKind_75 : eqKind Try.prog 75 = 2 := by kernel_rfl
theorem tyK_75 : tyK Try.prog 75 = some none := by kernel_rfl
theorem elemK_75 : elemK Try.prog 75 = none := by kernel_rfl
theorem eqKind_76 : eqKind Try.prog 76 = 0 := by kernel_rfl
theorem tyK_76 : tyK Try.prog 76 = some (some 2) := by kernel_rfl
theorem bldI_76 : bldI Try.prog 76 = some ([str [], .bool false], [(0, 1), (1, 1)]) := by kernel_rfl
theorem elemK_76 : elemK Try.prog 76 = none := by kernel_rfl
theorem fieldK_76_0 : fieldK Try.prog 76 0 = some (0, none) := by kernel_rfl
theorem fieldK_76_1 : fieldK Try.prog 76 1 = some (1, none) := by kernel_rfl
theorem eqKind_77 : eqKind Try.prog 77 = 0 := by kernel_rfl
theorem tyK_77 : tyK Try.prog 77 = some (some 2) := by kernel_rfl
theorem bldI_77 : bldI Try.prog 77 = some ([str [], .bool false], [(0, 1), (1, 1)]) := by kernel_rfl
theorem elemK_77 : elemK Try.prog 77 = none := by kernel_rfl
theorem fieldK_77_0 : fieldK Try.prog 77 0 = some (0, none) := by kernel_rfl
theorem fieldK_77_1 : fieldK Try.prog 77 1 = some (1, none) := by kernel_rfl
theorem eqKind_78 : eqKind Try.prog 78 = 5 := by kernel_rfl
theorem tyK_78 : tyK Try.prog 78 = some none := by kernel_rfl
theorem elemK_78 : elemK Try.prog 78 = none := by kernel_rfl
theorem eqKind_79 : eqKind Try.prog 79 = 5 := by kernel_rfl
theorem tyK_79 : tyK Try.prog 79 = some none := by kernel_rfl
theorem elemK_79 : elemK Try.prog 79 = none := by kernel_rfl
theorem eqKind_80 : eqKind Try.prog 80 = 5 := by kernel_rfl
theorem tyK_80 : tyK Try.prog 80 = some none := by kernel_rfl
theorem elemK_80 : elemK Try.prog 80 = none := by kernel_rfl
theorem eqKind_81 : eqKind Try.prog 81 = 5 := by kernel_rfl
theorem tyK_81 : tyK Try.prog 81 = some none := by kernel_rfl
theorem elemK_81 : elemK Try.prog 81 = none := by kernel_rfl
theorem eqKind_82 : eqKind Try.prog 82 = 5 := by kernel_rfl
theorem tyK_82 : tyK Try.prog 82 = some none := by kernel_rfl
theorem elemK_82 : elemK Try.prog 82 = none := by kernel_rfl
theorem eqKind_83 : eqKind Try.prog 83 = 5 := by kernel_rfl
theorem tyK_83 : tyK Try.prog 83 = some none := by kernel_rfl
theorem elemK_83 : elemK Try.prog 83 = none := by kernel_rfl
theorem eqKind_84 : eqKind Try.prog 84 = 5 := by kernel_rfl
theorem tyK_84 : tyK Try.prog 84 = some none := by kernel_rfl
theorem elemK_84 : elemK Try.prog 84 = none := by kernel_rfl
theorem eqKind_85 : eqKind Try.prog 85 = 5 := by kernel_rfl
theorem tyK_85 : tyK Try.prog 85 = some none := by kernel_rfl
theorem elemK_85 : elemK Try.prog 85 = none := by kernel_rfl
theorem eqKind_86 : eqKind Try.prog 86 = 5 := by kernel_rfl
theorem tyK_86 : tyK Try.prog 86 = some none := by kernel_rfl
theorem elemK_86 : elemK Try.prog 86 = none := by kernel_rfl
theorem eqKind_87 : eqKind Try.prog 87 = 5 := by kernel_rfl
theorem tyK_87 : tyK Try.prog 87 = some none := by kernel_rfl
theorem elemK_87 : elemK Try.prog 87 = none := by kernel_rfl
theorem eqKind_88 : eqKind Try.prog 88 = 5 := by kernel_rfl
theorem tyK_88 : tyK Try.prog 88 = some none := by kernel_rfl
theorem elemK_88 : elemK Try.prog 88 = none := by kernel_rfl
theorem eqKind_89 : eqKind Try.prog 89 = 0 := by kernel_rfl
theorem tyK_89 : tyK Try.prog 89 = some none := by kernel_rfl
theorem elemK_89 : elemK Try.prog 89 = none := by kernel_rfl
theorem eqKind_90 : eqKind Try.prog 90 = 5 := by kernel_rfl
theorem tyK_90 : tyK Try.prog 90 = some none := by kernel_rfl
theorem elemK_90 : elemK Try.prog 90 = none := by kernel_rfl
theorem eqKind_91 : eqKind Try.prog 91 = 5 := by kernel_rfl
theorem tyK_91 : tyK Try.prog 91 = some none := by kernel_rfl
theorem elemK_91 : elemK Try.prog 91 = none := by kernel_rfl
theorem eqKind_92 : eqKind Try.prog 92 = 5 := by kernel_rfl
theorem tyK_92 : tyK Try.prog 92 = some none := by kernel_rfl
theorem elemK_92 : elemK Try.prog 92 = none := by kernel_rfl
theorem eqKind_93 : eqKind Try.prog 93 = 5 := by kernel_rfl
theorem tyK_93 : tyK Try.prog 93 = some none := by kernel_rfl
theorem elemK_93 : elemK Try.prog 93 = none := by kernel_rfl
theorem eqKind_94 : eqKind Try.prog 94 = 0 := by kernel_rfl
theorem tyK_94 : tyK Try.prog 94 = some (some 4) := by kernel_rfl
theorem bldI_94 : bldI Try.prog 94 = some ([.pointer none, .pointer none, .pointer none, str []], [(0, 1), (1, 1), (2, 1), (3, 1)]) := by kernel_rfl
theorem elemK_94 : elemK Try.prog 94 = none := by kernel_rfl
theorem fieldK_94_0 : fieldK Try.prog 94 0 = some (0, none) := by kernel_rfl
theorem fieldK_94_1 : fieldK Try.prog 94 1 = some (1, none) := by kernel_rfl
theorem fieldK_94_2 : fieldK Try.prog 94 2 = some (2, none) := by kernel_rfl
theorem fieldK_94_3 : fieldK Try.prog 94 3 = some (3, none) := by kernel_rfl
theorem eqKind_95 : eqKind Try.prog 95 = 0 := by kernel_rfl
theorem tyK_95 : tyK Try.prog 95 = some (some 4) := by kernel_rfl
theorem bldI_95 : bldI Try.prog 95 = some ([.pointer none, .pointer none, .pointer none, str []], [(0, 1), (1, 1), (2, 1), (3, 1)]) := by kernel_rfl
theorem elemK_95 : elemK Try.prog 95 = none := by kernel_rfl
theorem fieldK_95_0 : fieldK Try.prog 95 0 = some (0, none) := by kernel_rfl
theorem fieldK_95_1 : fieldK Try.prog 95 1 = some (1, none) := by kernel_rfl
theorem fieldK_95_2 : fieldK Try.prog 95 2 = some (2, none) := by kernel_rfl
theorem fieldK_95_3 : fieldK Try.prog 95 3 = some (3, none) := by kernel_rfl
theorem eqKind_96 : eqKind Try.prog 96 = 0 := by kernel_rfl
theorem tyK_96 : tyK Try.prog 96 = some (some 0) := by kernel_rfl
theorem elemK_96 : elemK Try.prog 96 = none := by kernel_rfl
theorem arrK_96 : arrK Try.prog 96 = some (0, 16, 1) := by kernel_rfl
theorem eqKind_97 : eqKind Try.prog 97 = 0 := by kernel_rfl
theorem tyK_97 : tyK Try.prog 97 = some (some 0) := by kernel_rfl
theorem bldI_97 : bldI Try.prog 97 = some ([], [(0, 0)]) := by kernel_rfl
theorem elemK_97 : elemK Try.prog 97 = none := by kernel_rfl
theorem eqKind_98 : eqKind Try.prog 98 = 0 := by kernel_rfl
theorem tyK_98 : tyK Try.prog 98 = some (some 0) := by kernel_rfl
theorem bldI_98 : bldI Try.prog 98 = some ([], [(0, 0)]) := by kernel_rfl
theorem elemK_98 : elemK Try.prog 98 = none := by kernel_rfl
theorem eqKind_99 : eqKind Try.prog 99 = 0 := by kernel_rfl
theorem tyK_99 : tyK Try.prog 99 = some none := by kernel_rfl
theorem elemK_99 : elemK Try.prog 99 = none := by kernel_rfl
theorem eqKind_100 : eqKind Try.prog 100 = 0 := by kernel_rfl
theorem tyK_100 : tyK Try.prog 100 = some none := by kernel_rfl
theorem elemK_100 : elemK Try.prog 100 = none := by kernel_rfl
theorem eqKind_101 : eqKind Try.prog 101 = 5 := by kernel_rfl
theorem tyK_101 : tyK Try.prog 101 = some none := by kernel_rfl
theorem elemK_101 : elemK Try.prog 101 = none := by kernel_rfl
theorem eqKind_102 : eqKind Try.prog 102 = 2 := by kernel_rfl
theorem tyK_102 : tyK Try.prog 102 = some none := by kernel_rfl
theorem elemK_102 : elemK Try.prog 102 = none := by kernel_rfl
theorem eqKind_103 : eqKind Try.prog 103 = 0 := by kernel_rfl
theorem tyK_103 : tyK Try.prog 103 = some none := by kernel_rfl
theorem elemK_103 : elemK Try.prog 103 = none := by kernel_rfl
theorem eqKind_104 : eqKind Try.prog 104 = 0 := by kernel_rfl
theorem tyK_104 : tyK Try.prog 104 = some none := by kernel_rfl
theorem elemK_104 : elemK Try.prog 104 = none := by kernel_rfl
theorem eqKind_105 : eqKind Try.prog 105 = 0 := by kernel_rfl
theorem tyK_105 : tyK Try.prog 105 = some (some 11) := by kernel_rfl
theorem bldI_105 : bldI Try.prog 105 = some ([.int .u64 0, .int .u64 0, .int .u32 0, .int .u8 0, .int .u8 0, .int .u8 0, .int .u8 0, .nilFunc, .pointer none, .int .i32 0, .int .i32 0], [(0, 1), (1, 1), (2, 1), (3, 1), (4, 1), (5, 1), (6, 1), (7, 1), (8, 1), (9, 1), (10, 1)]) := by kernel_rfl
theorem elemK_105 : elemK Try.prog 105 = none := by kernel_rfl
theorem fieldK_105_0 : fieldK Try.prog 105 0 = some (0, none) := by kernel_rfl
theorem fieldK_105_1 : fieldK Try.prog 105 1 = some (1, none) := by kernel_rfl
theorem fieldK_105_2 : fieldK Try.prog 105 2 = some (2, none) := by kernel_rfl
theorem fieldK_105_3 : fieldK Try.prog 105 3 = some (3, none) := by kernel_rfl
theorem fieldK_105_4 : fieldK Try.prog 105 4 = some (4, none) := by kernel_rfl
theorem fieldK_105_5 : fieldK Try.prog 105 5 = some (5, none) := by kernel_rfl
theorem fieldK_105_6 : fieldK Try.prog 105 6 = some (6, none) := by kernel_rfl
theorem fieldK_105_7 : fieldK Try.prog 105 7 = some (7, none) := by kernel_rfl
theorem fieldK_105_8 : fieldK Try.prog 105 8 = some (8, none) := by kernel_rfl
theorem fieldK_105_9 : fieldK Try.prog 105 9 = some (9, none) := by kernel_rfl
theorem fieldK_105_10 : fieldK Try.prog 105 10 = some (10, none) := by kernel_rfl
theorem eqKind_106 : eqKind Try.prog 106 = 0 := by kernel_rfl
theorem tyK_106 : tyK Try.prog 106 = some (some 11) := by kernel_rfl
theorem bldI_106 : bldI Try.prog 106 = some ([.int .u64 0, .int .u64 0, .int .u32 0, .int .u8 0, .int .u8 0, .int .u8 0, .int .u8 0, .nilFunc, .pointer none, .int .i32 0, .int .i32 0], [(0, 1), (1, 1), (2, 1), (3, 1), (4, 1), (5, 1), (6, 1), (7, 1), (8, 1), (9, 1), (10, 1)]) := by kernel_rfl
theorem elemK_106 : elemK Try.prog 106 = none := by kernel_rfl
theorem fieldK_106_0 : fieldK Try.prog 106 0 = some (0, none) := by kernel_rfl
theorem fieldK_106_1 : fieldK Try.prog 106 1 = some (1, none) := by kernel_rfl
theorem fieldK_106_2 : fieldK Try.prog 106 2 = some (2, none) := by kernel_rfl
theorem fieldK_106_3 : fieldK Try.prog 106 3 = some (3, none) := by kernel_rfl
theorem fieldK_106_4 : fieldK Try.prog 106 4 = some (4, none) := by kernel_rfl
theorem fieldK_106_5 : fieldK Try.prog 106 5 = some (5, none) := by kernel_rfl
theorem fieldK_106_6 : fieldK Try.prog 106 6 = some (6, none) := by kernel_rfl
theorem fieldK_106_7 : fieldK Try.prog 106 7 = some (7, none) := by kernel_rfl
theorem fieldK_106_8 : fieldK Try.prog 106 8 = some (8, none) := by kernel_rfl
theorem fieldK_106_9 : fieldK Try.prog 106 9 = some (9, none) := by kernel_rfl
theorem fieldK_106_10 : fieldK Try.prog 106 10 = some (10, none) := by kernel_rfl
theorem eqKind_107 : eqKind Try.prog 107 = 0 := by kernel_rfl
theorem tyK_107 : tyK Try.prog 107 = some none := by kernel_rfl
theorem elemK_107 : elemK Try.prog 107 = none := by kernel_rfl
theorem mixed : Try.prog.follows .mixedOrders = true := by kernel_rfl
attribute [push_cast] eqKind_0 tyK_0 elemK_0 eqKind_1 tyK_1 elemK_1 Try.underlying1 eqKind_2 tyK_2 elemK_2 Try.underlying2 eqKind_3 tyK_3 elemK_3 Try.underlying3 eqKind_4 tyK_4 elemK_4 Try.underlying4 eqKind_5 tyK_5 elemK_5 Try.underlying5 eqKind_6 tyK_6 elemK_6 Try.underlying6 eqKind_7 tyK_7 bldI_7 elemK_7 fieldK_7_0 fieldK_7_1 fieldK_7_2 fieldK_7_3 eqKind_8 tyK_8 bldI_8 elemK_8 fieldK_8_0 fieldK_8_1 fieldK_8_2 fieldK_8_3 eqKind_9 tyK_9 elemK_9 Try.underlying9 eqKind_10 tyK_10 elemK_10 Try.underlying10 eqKind_11 tyK_11 elemK_11 Try.underlying11 eqKind_12 tyK_12 elemK_12 Try.underlying12 eqKind_13 tyK_13 bldI_13 elemK_13 fieldK_13_0 fieldK_13_1 eqKind_14 tyK_14 bldI_14 elemK_14 fieldK_14_0 fieldK_14_1 eqKind_15 tyK_15 elemK_15 Try.underlying15 eqKind_16 tyK_16 elemK_16 Try.underlying16 eqKind_17 tyK_17 elemK_17 Try.underlying17 eqKind_18 tyK_18 bldI_18 elemK_18 fieldK_18_0 eqKind_19 tyK_19 bldI_19 elemK_19 fieldK_19_0 eqKind_20 tyK_20 elemK_20 eqKind_21 tyK_21 elemK_21 Try.underlying21 eqKind_22 tyK_22 elemK_22 Try.underlying22 eqKind_23 tyK_23 elemK_23 Try.underlying23 eqKind_24 tyK_24 bldI_24 elemK_24 fieldK_24_0 fieldK_24_1 eqKind_25 tyK_25 bldI_25 elemK_25 fieldK_25_0 fieldK_25_1 eqKind_26 tyK_26 elemK_26 Try.underlying26 eqKind_27 tyK_27 elemK_27 Try.underlying27 eqKind_28 tyK_28 elemK_28 Try.underlying28 eqKind_29 tyK_29 elemK_29 Try.underlying29 eqKind_30 tyK_30 bldI_30 elemK_30 fieldK_30_0 fieldK_30_1 fieldK_30_2 eqKind_31 tyK_31 bldI_31 elemK_31 fieldK_31_0 fieldK_31_1 fieldK_31_2 eqKind_32 tyK_32 elemK_32 eqKind_33 tyK_33 elemK_33 eqKind_34 tyK_34 elemK_34 eqKind_35 tyK_35 elemK_35 Try.underlying35 eqKind_36 tyK_36 elemK_36 Try.underlying36 eqKind_37 tyK_37 elemK_37 Try.underlying37 eqKind_38 tyK_38 bldI_38 elemK_38 fieldK_38_0 fieldK_38_1 eqKind_39 tyK_39 bldI_39 elemK_39 fieldK_39_0 fieldK_39_1 eqKind_40 tyK_40 elemK_40 Try.underlying40 eqKind_41 tyK_41 elemK_41 eqKind_42 tyK_42 elemK_42 Try.underlying42 eqKind_43 tyK_43 elemK_43 Try.underlying43 eqKind_44 tyK_44 elemK_44 eqKind_45 tyK_45 elemK_45 Try.underlying45 eqKind_46 tyK_46 elemK_46 Try.underlying46 eqKind_47 tyK_47 elemK_47 Try.underlying47 eqKind_48 tyK_48 elemK_48 Try.underlying48 eqKind_49 tyK_49 elemK_49 Try.underlying49 eqKind_50 tyK_50 elemK_50 Try.underlying50 eqKind_51 tyK_51 elemK_51 Try.underlying51 eqKind_52 tyK_52 elemK_52 Try.underlying52 eqKind_53 tyK_53 bldI_53 elemK_53 fieldK_53_0 fieldK_53_1 eqKind_54 tyK_54 bldI_54 elemK_54 fieldK_54_0 fieldK_54_1 eqKind_55 tyK_55 elemK_55 Try.underlying55 eqKind_56 tyK_56 elemK_56 Try.underlying56 eqKind_57 tyK_57 elemK_57 Try.underlying57 eqKind_58 tyK_58 elemK_58 Try.underlying58 eqKind_59 tyK_59 elemK_59 Try.underlying59 eqKind_60 tyK_60 elemK_60 Try.underlying60 eqKind_61 tyK_61 elemK_61 Try.underlying61 eqKind_62 tyK_62 bldI_62 elemK_62 fieldK_62_0 fieldK_62_1 eqKind_63 tyK_63 bldI_63 elemK_63 fieldK_63_0 fieldK_63_1 eqKind_64 tyK_64 elemK_64 Try.underlying64 eqKind_65 tyK_65 elemK_65 Try.underlying65 eqKind_66 tyK_66 elemK_66 Try.underlying66 eqKind_67 tyK_67 bldI_67 elemK_67 fieldK_67_0 fieldK_67_1 fieldK_67_2 eqKind_68 tyK_68 bldI_68 elemK_68 fieldK_68_0 fieldK_68_1 fieldK_68_2 eqKind_69 tyK_69 elemK_69 Try.underlying69 eqKind_70 tyK_70 elemK_70 Try.underlying70 eqKind_71 tyK_71 elemK_71 Try.underlying71 eqKind_72 tyK_72 elemK_72 Try.underlying72 eqKind_73 tyK_73 elemK_73 Try.underlying73 eqKind_74 tyK_74 elemK_74 Try.underlying74 eqKind_75 tyK_75 elemK_75 Try.underlying75 eqKind_76 tyK_76 bldI_76 elemK_76 fieldK_76_0 fieldK_76_1 eqKind_77 tyK_77 bldI_77 elemK_77 fieldK_77_0 fieldK_77_1 eqKind_78 tyK_78 elemK_78 Try.underlying78 eqKind_79 tyK_79 elemK_79 Try.underlying79 eqKind_80 tyK_80 elemK_80 Try.underlying80 eqKind_81 tyK_81 elemK_81 Try.underlying81 eqKind_82 tyK_82 elemK_82 Try.underlying82 eqKind_83 tyK_83 elemK_83 Try.underlying83 eqKind_84 tyK_84 elemK_84 Try.underlying84 eqKind_85 tyK_85 elemK_85 Try.underlying85 eqKind_86 tyK_86 elemK_86 Try.underlying86 eqKind_87 tyK_87 elemK_87 Try.underlying87 eqKind_88 tyK_88 elemK_88 Try.underlying88 eqKind_89 tyK_89 elemK_89 eqKind_90 tyK_90 elemK_90 Try.underlying90 eqKind_91 tyK_91 elemK_91 Try.underlying91 eqKind_92 tyK_92 elemK_92 Try.underlying92 eqKind_93 tyK_93 elemK_93 Try.underlying93 eqKind_94 tyK_94 bldI_94 elemK_94 fieldK_94_0 fieldK_94_1 fieldK_94_2 fieldK_94_3 eqKind_95 tyK_95 bldI_95 elemK_95 fieldK_95_0 fieldK_95_1 fieldK_95_2 fieldK_95_3 eqKind_96 tyK_96 elemK_96 arrK_96 eqKind_97 tyK_97 bldI_97 elemK_97 eqKind_98 tyK_98 bldI_98 elemK_98 eqKind_99 tyK_99 elemK_99 Try.underlying99 eqKind_100 tyK_100 elemK_100 Try.underlying100 eqKind_101 tyK_101 elemK_101 Try.underlying101 eqKind_102 tyK_102 elemK_102 Try.underlying102 eqKind_103 tyK_103 elemK_103 Try.underlying103 eqKind_104 tyK_104 elemK_104 Try.underlying104 eqKind_105 tyK_105 bldI_105 elemK_105 fieldK_105_0 fieldK_105_1 fieldK_105_2 fieldK_105_3 fieldK_105_4 fieldK_105_5 fieldK_105_6 fieldK_105_7 fieldK_105_8 fieldK_105_9 fieldK_105_10 eqKind_106 tyK_106 bldI_106 elemK_106 fieldK_106_0 fieldK_106_1 fieldK_106_2 fieldK_106_3 fieldK_106_4 fieldK_106_5 fieldK_106_6 fieldK_106_7 fieldK_106_8 fieldK_106_9 fieldK_106_10 eqKind_107 tyK_107 elemK_107
end Go.Proofs.Ytnfmbobpagamhaa
