import Derived.Test.YtplbgmoeannobaaGreatDoorV
import Derived.Test.YtplbgmoeannobaaGreatDoorProg
namespace Go.Proofs.YtplbgmoeannobaaGreatDoor
open Go.Vc Go.Proofs
theorem eqKind_0 : eqKind Tryz.prog 0 = 0 := by kernel_rfl
theorem tyK_0 : tyK Tryz.prog 0 = some none := by kernel_rfl
theorem elemK_0 : elemK Tryz.prog 0 = none := by kernel_rfl
theorem eqKind_1 : eqKind Tryz.prog 1 = 5 := by kernel_rfl
theorem tyK_1 : tyK Tryz.prog 1 = some none := by kernel_rfl
theorem elemK_1 : elemK Tryz.prog 1 = none := by kernel_rfl
theorem eqKind_2 : eqKind Tryz.prog 2 = 0 := by kernel_rfl
theorem tyK_2 : tyK Tryz.prog 2 = some none := by kernel_rfl
theorem elemK_2 : elemK Tryz.prog 2 = none := by kernel_rfl
theorem eqKind_3 : eqKind Tryz.prog 3 = 0 := by kernel_rfl
theorem tyK_3 : tyK Tryz.prog 3 = some none := by kernel_rfl
theorem elemK_3 : elemK Tryz.prog 3 = none := by kernel_rfl
theorem eqKind_4 : eqKind Tryz.prog 4 = 6 := by kernel_rfl
theorem tyK_4 : tyK Tryz.prog 4 = some none := by kernel_rfl
theorem elemK_4 : elemK Tryz.prog 4 = none := by kernel_rfl
theorem eqKind_5 : eqKind Tryz.prog 5 = 0 := by kernel_rfl
theorem tyK_5 : tyK Tryz.prog 5 = some none := by kernel_rfl
theorem elemK_5 : elemK Tryz.prog 5 = none := by kernel_rfl
theorem eqKind_6 : eqKind Tryz.prog 6 = 0 := by kernel_rfl
theorem tyK_6 : tyK Tryz.prog 6 = some none := by kernel_rfl
theorem elemK_6 : elemK Tryz.prog 6 = none := by kernel_rfl
theorem eqKind_7 : eqKind Tryz.prog 7 = 0 := by kernel_rfl
theorem tyK_7 : tyK Tryz.prog 7 = some (some 4) := by kernel_rfl
theorem bldI_7 : bldI Tryz.prog 7 = some ([.int .i64 0, .int .i64 0, .bool false, .int .u8 0], [(0, 1), (1, 1), (2, 1), (3, 1)]) := by kernel_rfl
theorem elemK_7 : elemK Tryz.prog 7 = none := by kernel_rfl
theorem fieldK_7_0 : fieldK Tryz.prog 7 0 = some (0, none) := by kernel_rfl
theorem fieldK_7_1 : fieldK Tryz.prog 7 1 = some (1, none) := by kernel_rfl
theorem fieldK_7_2 : fieldK Tryz.prog 7 2 = some (2, none) := by kernel_rfl
theorem fieldK_7_3 : fieldK Tryz.prog 7 3 = some (3, none) := by kernel_rfl
theorem eqKind_8 : eqKind Tryz.prog 8 = 0 := by kernel_rfl
theorem tyK_8 : tyK Tryz.prog 8 = some (some 4) := by kernel_rfl
theorem bldI_8 : bldI Tryz.prog 8 = some ([.int .i64 0, .int .i64 0, .bool false, .int .u8 0], [(0, 1), (1, 1), (2, 1), (3, 1)]) := by kernel_rfl
theorem elemK_8 : elemK Tryz.prog 8 = none := by kernel_rfl
theorem fieldK_8_0 : fieldK Tryz.prog 8 0 = some (0, none) := by kernel_rfl
theorem fieldK_8_1 : fieldK Tryz.prog 8 1 = some (1, none) := by kernel_rfl
theorem fieldK_8_2 : fieldK Tryz.prog 8 2 = some (2, none) := by kernel_rfl
theorem fieldK_8_3 : fieldK Tryz.prog 8 3 = some (3, none) := by kernel_rfl
theorem eqKind_9 : eqKind Tryz.prog 9 = 0 := by kernel_rfl
theorem tyK_9 : tyK Tryz.prog 9 = some none := by kernel_rfl
theorem elemK_9 : elemK Tryz.prog 9 = none := by kernel_rfl
theorem eqKind_10 : eqKind Tryz.prog 10 = 0 := by kernel_rfl
theorem tyK_10 : tyK Tryz.prog 10 = some none := by kernel_rfl
theorem elemK_10 : elemK Tryz.prog 10 = none := by kernel_rfl
theorem eqKind_11 : eqKind Tryz.prog 11 = 0 := by kernel_rfl
theorem tyK_11 : tyK Tryz.prog 11 = some none := by kernel_rfl
theorem elemK_11 : elemK Tryz.prog 11 = none := by kernel_rfl
theorem eqKind_12 : eqKind Tryz.prog 12 = 0 := by kernel_rfl
theorem tyK_12 : tyK Tryz.prog 12 = some none := by kernel_rfl
theorem elemK_12 : elemK Tryz.prog 12 = none := by kernel_rfl
theorem eqKind_13 : eqKind Tryz.prog 13 = 0 := by kernel_rfl
theorem tyK_13 : tyK Tryz.prog 13 = some (some 2) := by kernel_rfl
theorem bldI_13 : bldI Tryz.prog 13 = some ([str [], .int .u64 0], [(0, 1), (1, 1)]) := by kernel_rfl
theorem elemK_13 : elemK Tryz.prog 13 = none := by kernel_rfl
theorem fieldK_13_0 : fieldK Tryz.prog 13 0 = some (0, none) := by kernel_rfl
theorem fieldK_13_1 : fieldK Tryz.prog 13 1 = some (1, none) := by kernel_rfl
theorem eqKind_14 : eqKind Tryz.prog 14 = 0 := by kernel_rfl
theorem tyK_14 : tyK Tryz.prog 14 = some (some 2) := by kernel_rfl
theorem bldI_14 : bldI Tryz.prog 14 = some ([str [], .int .u64 0], [(0, 1), (1, 1)]) := by kernel_rfl
theorem elemK_14 : elemK Tryz.prog 14 = none := by kernel_rfl
theorem fieldK_14_0 : fieldK Tryz.prog 14 0 = some (0, none) := by kernel_rfl
theorem fieldK_14_1 : fieldK Tryz.prog 14 1 = some (1, none) := by kernel_rfl
theorem eqKind_15 : eqKind Tryz.prog 15 = 2 := by kernel_rfl
theorem tyK_15 : tyK Tryz.prog 15 = some none := by kernel_rfl
theorem elemK_15 : elemK Tryz.prog 15 = none := by kernel_rfl
theorem eqKind_16 : eqKind Tryz.prog 16 = 2 := by kernel_rfl
theorem tyK_16 : tyK Tryz.prog 16 = some none := by kernel_rfl
theorem elemK_16 : elemK Tryz.prog 16 = none := by kernel_rfl
theorem eqKind_17 : eqKind Tryz.prog 17 = 2 := by kernel_rfl
theorem tyK_17 : tyK Tryz.prog 17 = some none := by kernel_rfl
theorem elemK_17 : elemK Tryz.prog 17 = none := by kernel_rfl
theorem eqKind_18 : eqKind Tryz.prog 18 = 0 := by kernel_rfl
theorem tyK_18 : tyK Tryz.prog 18 = some (some 1) := by kernel_rfl
theorem bldI_18 : bldI Tryz.prog 18 = some ([.pointer none], [(0, 1)]) := by kernel_rfl
theorem elemK_18 : elemK Tryz.prog 18 = none := by kernel_rfl
theorem fieldK_18_0 : fieldK Tryz.prog 18 0 = some (0, none) := by kernel_rfl
theorem eqKind_19 : eqKind Tryz.prog 19 = 0 := by kernel_rfl
theorem tyK_19 : tyK Tryz.prog 19 = some (some 1) := by kernel_rfl
theorem bldI_19 : bldI Tryz.prog 19 = some ([.pointer none], [(0, 1)]) := by kernel_rfl
theorem elemK_19 : elemK Tryz.prog 19 = none := by kernel_rfl
theorem fieldK_19_0 : fieldK Tryz.prog 19 0 = some (0, none) := by kernel_rfl
theorem eqKind_20 : eqKind Tryz.prog 20 = 1 := by kernel_rfl
theorem tyK_20 : tyK Tryz.prog 20 = some none := by kernel_rfl
theorem elemK_20 : elemK Tryz.prog 20 = none := by kernel_rfl
theorem eqKind_21 : eqKind Tryz.prog 21 = 0 := by kernel_rfl
theorem tyK_21 : tyK Tryz.prog 21 = some none := by kernel_rfl
theorem elemK_21 : elemK Tryz.prog 21 = none := by kernel_rfl
theorem eqKind_22 : eqKind Tryz.prog 22 = 3 := by kernel_rfl
theorem tyK_22 : tyK Tryz.prog 22 = some none := by kernel_rfl
theorem elemK_22 : elemK Tryz.prog 22 = some (42, 2) := by kernel_rfl
theorem elI_22 : elI Tryz.prog 22 = some (42, 2, 16) := by kernel_rfl
theorem eqKind_23 : eqKind Tryz.prog 23 = 5 := by kernel_rfl
theorem tyK_23 : tyK Tryz.prog 23 = some none := by kernel_rfl
theorem elemK_23 : elemK Tryz.prog 23 = none := by kernel_rfl
theorem eqKind_24 : eqKind Tryz.prog 24 = 3 := by kernel_rfl
theorem tyK_24 : tyK Tryz.prog 24 = some none := by kernel_rfl
theorem elemK_24 : elemK Tryz.prog 24 = some (42, 2) := by kernel_rfl
theorem elI_24 : elI Tryz.prog 24 = some (42, 2, 16) := by kernel_rfl
theorem eqKind_25 : eqKind Tryz.prog 25 = 5 := by kernel_rfl
theorem tyK_25 : tyK Tryz.prog 25 = some none := by kernel_rfl
theorem elemK_25 : elemK Tryz.prog 25 = none := by kernel_rfl
theorem eqKind_26 : eqKind Tryz.prog 26 = 5 := by kernel_rfl
theorem tyK_26 : tyK Tryz.prog 26 = some none := by kernel_rfl
theorem elemK_26 : elemK Tryz.prog 26 = none := by kernel_rfl
theorem eqKind_27 : eqKind Tryz.prog 27 = 5 := by kernel_rfl
theorem tyK_27 : tyK Tryz.prog 27 = some none := by kernel_rfl
theorem elemK_27 : elemK Tryz.prog 27 = none := by kernel_rfl
theorem eqKind_28 : eqKind Tryz.prog 28 = 5 := by kernel_rfl
theorem tyK_28 : tyK Tryz.prog 28 = some none := by kernel_rfl
theorem elemK_28 : elemK Tryz.prog 28 = none := by kernel_rfl
theorem eqKind_29 : eqKind Tryz.prog 29 = 5 := by kernel_rfl
theorem tyK_29 : tyK Tryz.prog 29 = some none := by kernel_rfl
theorem elemK_29 : elemK Tryz.prog 29 = none := by kernel_rfl
theorem eqKind_30 : eqKind Tryz.prog 30 = 5 := by kernel_rfl
theorem tyK_30 : tyK Tryz.prog 30 = some none := by kernel_rfl
theorem elemK_30 : elemK Tryz.prog 30 = none := by kernel_rfl
theorem eqKind_31 : eqKind Tryz.prog 31 = 0 := by kernel_rfl
theorem tyK_31 : tyK Tryz.prog 31 = some none := by kernel_rfl
theorem elemK_31 : elemK Tryz.prog 31 = none := by kernel_rfl
theorem eqKind_32 : eqKind Tryz.prog 32 = 0 := by kernel_rfl
theorem tyK_32 : tyK Tryz.prog 32 = some none := by kernel_rfl
theorem elemK_32 : elemK Tryz.prog 32 = none := by kernel_rfl
theorem eqKind_33 : eqKind Tryz.prog 33 = 5 := by kernel_rfl
theorem tyK_33 : tyK Tryz.prog 33 = some none := by kernel_rfl
theorem elemK_33 : elemK Tryz.prog 33 = none := by kernel_rfl
theorem eqKind_34 : eqKind Tryz.prog 34 = 1 := by kernel_rfl
theorem tyK_34 : tyK Tryz.prog 34 = some none := by kernel_rfl
theorem elemK_34 : elemK Tryz.prog 34 = none := by kernel_rfl
theorem eqKind_35 : eqKind Tryz.prog 35 = 1 := by kernel_rfl
theorem tyK_35 : tyK Tryz.prog 35 = some none := by kernel_rfl
theorem elemK_35 : elemK Tryz.prog 35 = none := by kernel_rfl
theorem eqKind_36 : eqKind Tryz.prog 36 = 0 := by kernel_rfl
theorem tyK_36 : tyK Tryz.prog 36 = some none := by kernel_rfl
theorem elemK_36 : elemK Tryz.prog 36 = none := by kernel_rfl
theorem eqKind_37 : eqKind Tryz.prog 37 = 5 := by kernel_rfl
theorem tyK_37 : tyK Tryz.prog 37 = some none := by kernel_rfl
theorem elemK_37 : elemK Tryz.prog 37 = none := by kernel_rfl
theorem eqKind_38 : eqKind Tryz.prog 38 = 5 := by kernel_rfl
theorem tyK_38 : tyK Tryz.prog 38 = some none := by kernel_rfl
theorem elemK_38 : elemK Tryz.prog 38 = none := by kernel_rfl
theorem eqKind_39 : eqKind Tryz.prog 39 = 5 := by kernel_rfl
theorem tyK_39 : tyK Tryz.prog 39 = some none := by kernel_rfl
theorem elemK_39 : elemK Tryz.prog 39 = none := by kernel_rfl
theorem eqKind_40 : eqKind Tryz.prog 40 = 5 := by kernel_rfl
theorem tyK_40 : tyK Tryz.prog 40 = some none := by kernel_rfl
theorem elemK_40 : elemK Tryz.prog 40 = none := by kernel_rfl
theorem eqKind_41 : eqKind Tryz.prog 41 = 9 := by kernel_rfl
theorem tyK_41 : tyK Tryz.prog 41 = some (some 2) := by kernel_rfl
theorem bldI_41 : bldI Tryz.prog 41 = some ([.int .i64 0, .int .i64 0], [(0, 1), (1, 1)]) := by kernel_rfl
theorem elemK_41 : elemK Tryz.prog 41 = none := by kernel_rfl
theorem fieldK_41_0 : fieldK Tryz.prog 41 0 = some (0, none) := by kernel_rfl
theorem fieldK_41_1 : fieldK Tryz.prog 41 1 = some (1, none) := by kernel_rfl
theorem eqKind_42 : eqKind Tryz.prog 42 = 9 := by kernel_rfl
theorem tyK_42 : tyK Tryz.prog 42 = some (some 2) := by kernel_rfl
theorem bldI_42 : bldI Tryz.prog 42 = some ([.int .i64 0, .int .i64 0], [(0, 1), (1, 1)]) := by kernel_rfl
theorem elemK_42 : elemK Tryz.prog 42 = none := by kernel_rfl
theorem fieldK_42_0 : fieldK Tryz.prog 42 0 = some (0, none) := by kernel_rfl
theorem fieldK_42_1 : fieldK Tryz.prog 42 1 = some (1, none) := by kernel_rfl
theorem eqKind_43 : eqKind Tryz.prog 43 = 5 := by kernel_rfl
theorem tyK_43 : tyK Tryz.prog 43 = some none := by kernel_rfl
theorem elemK_43 : elemK Tryz.prog 43 = none := by kernel_rfl
theorem eqKind_44 : eqKind Tryz.prog 44 = 5 := by kernel_rfl
theorem tyK_44 : tyK Tryz.prog 44 = some none := by kernel_rfl
theorem elemK_44 : elemK Tryz.prog 44 = none := by kernel_rfl
theorem eqKind_45 : eqKind Tryz.prog 45 = 5 := by kernel_rfl
theorem tyK_45 : tyK Tryz.prog 45 = some none := by kernel_rfl
theorem elemK_45 : elemK Tryz.prog 45 = none := by kernel_rfl
theorem eqKind_46 : eqKind Tryz.prog 46 = 5 := by kernel_rfl
theorem tyK_46 : tyK Tryz.prog 46 = some none := by kernel_rfl
theorem elemK_46 : elemK Tryz.prog 46 = none := by kernel_rfl
theorem eqKind_47 : eqKind Tryz.prog 47 = 5 := by kernel_rfl
theorem tyK_47 : tyK Tryz.prog 47 = some none := by kernel_rfl
theorem elemK_47 : elemK Tryz.prog 47 = none := by kernel_rfl
theorem eqKind_48 : eqKind Tryz.prog 48 = 5 := by kernel_rfl
theorem tyK_48 : tyK Tryz.prog 48 = some none := by kernel_rfl
theorem elemK_48 : elemK Tryz.prog 48 = none := by kernel_rfl
theorem eqKind_49 : eqKind Tryz.prog 49 = 5 := by kernel_rfl
theorem tyK_49 : tyK Tryz.prog 49 = some none := by kernel_rfl
theorem elemK_49 : elemK Tryz.prog 49 = none := by kernel_rfl
theorem eqKind_50 : eqKind Tryz.prog 50 = 0 := by kernel_rfl
theorem tyK_50 : tyK Tryz.prog 50 = some none := by kernel_rfl
theorem elemK_50 : elemK Tryz.prog 50 = none := by kernel_rfl
theorem eqKind_51 : eqKind Tryz.prog 51 = 5 := by kernel_rfl
theorem tyK_51 : tyK Tryz.prog 51 = some none := by kernel_rfl
theorem elemK_51 : elemK Tryz.prog 51 = none := by kernel_rfl
theorem eqKind_52 : eqKind Tryz.prog 52 = 5 := by kernel_rfl
theorem tyK_52 : tyK Tryz.prog 52 = some none := by kernel_rfl
theorem elemK_52 : elemK Tryz.prog 52 = none := by kernel_rfl
theorem eqKind_53 : eqKind Tryz.prog 53 = 5 := by kernel_rfl
theorem tyK_53 : tyK Tryz.prog 53 = some none := by kernel_rfl
theorem elemK_53 : elemK Tryz.prog 53 = none := by kernel_rfl
theorem eqKind_54 : eqKind Tryz.prog 54 = 3 := by kernel_rfl
theorem tyK_54 : tyK Tryz.prog 54 = some none := by kernel_rfl
theorem elemK_54 : elemK Tryz.prog 54 = some (9, 1) := by kernel_rfl
theorem elI_54 : elI Tryz.prog 54 = some (9, 1, 16) := by kernel_rfl
theorem eqKind_55 : eqKind Tryz.prog 55 = 5 := by kernel_rfl
theorem tyK_55 : tyK Tryz.prog 55 = some none := by kernel_rfl
theorem elemK_55 : elemK Tryz.prog 55 = none := by kernel_rfl
theorem eqKind_56 : eqKind Tryz.prog 56 = 5 := by kernel_rfl
theorem tyK_56 : tyK Tryz.prog 56 = some none := by kernel_rfl
theorem elemK_56 : elemK Tryz.prog 56 = none := by kernel_rfl
theorem eqKind_57 : eqKind Tryz.prog 57 = 5 := by kernel_rfl
theorem tyK_57 : tyK Tryz.prog 57 = some none := by kernel_rfl
theorem elemK_57 : elemK Tryz.prog 57 = none := by kernel_rfl
theorem eqKind_58 : eqKind Tryz.prog 58 = 0 := by kernel_rfl
theorem tyK_58 : tyK Tryz.prog 58 = some none := by kernel_rfl
theorem elemK_58 : elemK Tryz.prog 58 = none := by kernel_rfl
theorem eqKind_59 : eqKind Tryz.prog 59 = 5 := by kernel_rfl
theorem tyK_59 : tyK Tryz.prog 59 = some none := by kernel_rfl
theorem elemK_59 : elemK Tryz.prog 59 = none := by kernel_rfl
theorem eqKind_60 : eqKind Tryz.prog 60 = 0 := by kernel_rfl
theorem tyK_60 : tyK Tryz.prog 60 = some none := by kernel_rfl
theorem elemK_60 : elemK Tryz.prog 60 = none := by kernel_rfl
theorem eqKind_61 : eqKind Tryz.prog 61 = 5 := by kernel_rfl
theorem tyK_61 : tyK Tryz.prog 61 = some none := by kernel_rfl
theorem elemK_61 : elemK Tryz.prog 61 = none := by kernel_rfl
theorem eqKind_62 : eqKind Tryz.prog 62 = 5 := by kernel_rfl
theorem tyK_62 : tyK Tryz.prog 62 = some none := by kernel_rfl
theorem elemK_62 : elemK Tryz.prog 62 = none := by kernel_rfl
theorem eqKind_63 : eqKind Tryz.prog 63 = 5 := by kernel_rfl
theorem tyK_63 : tyK Tryz.prog 63 = some none := by kernel_rfl
theorem elemK_63 : elemK Tryz.prog 63 = none := by kernel_rfl
theorem eqKind_64 : eqKind Tryz.prog 64 = 5 := by kernel_rfl
theorem tyK_64 : tyK Tryz.prog 64 = some none := by kernel_rfl
theorem elemK_64 : elemK Tryz.prog 64 = none := by kernel_rfl
theorem eqKind_65 : eqKind Tryz.prog 65 = 0 := by kernel_rfl
theorem tyK_65 : tyK Tryz.prog 65 = some none := by kernel_rfl
theorem elemK_65 : elemK Tryz.prog 65 = none := by kernel_rfl
theorem eqKind_66 : eqKind Tryz.prog 66 = 5 := by kernel_rfl
theorem tyK_66 : tyK Tryz.prog 66 = some none := by kernel_rfl
theorem elemK_66 : elemK Tryz.prog 66 = none := by kernel_rfl
theorem eqKind_67 : eqKind Tryz.prog 67 = 5 := by kernel_rfl
theorem tyK_67 : tyK Tryz.prog 67 = some none := by kernel_rfl
theorem elemK_67 : elemK Tryz.prog 67 = none := by kernel_rfl
theorem eqKind_68 : eqKind Tryz.prog 68 = 9 := by kernel_rfl
theorem tyK_68 : tyK Tryz.prog 68 = some (some 2) := by kernel_rfl
theorem bldI_68 : bldI Tryz.prog 68 = some ([.int .i64 0, .int .i64 0], [(0, 1), (1, 1)]) := by kernel_rfl
theorem elemK_68 : elemK Tryz.prog 68 = none := by kernel_rfl
theorem fieldK_68_0 : fieldK Tryz.prog 68 0 = some (0, none) := by kernel_rfl
theorem fieldK_68_1 : fieldK Tryz.prog 68 1 = some (1, none) := by kernel_rfl
theorem eqKind_69 : eqKind Tryz.prog 69 = 9 := by kernel_rfl
theorem tyK_69 : tyK Tryz.prog 69 = some (some 2) := by kernel_rfl
theorem bldI_69 : bldI Tryz.prog 69 = some ([.int .i64 0, .int .i64 0], [(0, 1), (1, 1)]) := by kernel_rfl
theorem elemK_69 : elemK Tryz.prog 69 = none := by kernel_rfl
theorem fieldK_69_0 : fieldK Tryz.prog 69 0 = some (0, none) := by kernel_rfl
theorem fieldK_69_1 : fieldK Tryz.prog 69 1 = some (1, none) := by kernel_rfl
theorem eqKind_70 : eqKind Tryz.prog 70 = 5 := by kernel_rfl
theorem tyK_70 : tyK Tryz.prog 70 = some none := by kernel_rfl
theorem elemK_70 : elemK Tryz.prog 70 = none := by kernel_rfl
theorem eqKind_71 : eqKind Tryz.prog 71 = 5 := by kernel_rfl
theorem tyK_71 : tyK Tryz.prog 71 = some none := by kernel_rfl
theorem elemK_71 : elemK Tryz.prog 71 = none := by kernel_rfl
theorem eqKind_72 : eqKind Tryz.prog 72 = 5 := by kernel_rfl
theorem tyK_72 : tyK Tryz.prog 72 = some none := by kernel_rfl
theorem elemK_72 : elemK Tryz.prog 72 = none := by kernel_rfl
theorem eqKind_73 : eqKind Tryz.prog 73 = 5 := by kernel_rfl
theorem tyK_73 : tyK Tryz.prog 73 = some none := by kernel_rfl
theorem elemK_73 : elemK Tryz.prog 73 = none := by kernel_rfl
theorem eqKind_74 : eqKind Tryz.prog 74 = 3 := by kernel_rfl
theorem tyK_74 : tyK Tryz.prog 74 = some none := by kernel_rfl
theorem elemK_74 : elemK Tryz.prog 74 = some (22, 1) := by kernel_rfl
theorem elI_74 : elI Tryz.prog 74 = some (22, 1, 24) := by kernel_rfl
theorem eqKind_75 : eqKind Tryz.prog 75 = 3 := by kernel_rfl
theorem tyK_75 : tyK Tryz.prog 75 = some none := by kernel_rfl
theorem elemK_75 : elemK Tryz.prog 75 = some (3, 1) := by kernel_rfl
theorem elI_75 : elI Tryz.prog 75 = some (3, 1, 8) := by kernel_rfl
theorem eqKind_76 : eqKind Tryz.prog 76 = 5 := by kernel_rfl
theorem tyK_76 : tyK Tryz.prog 76 = some none := by kernel_rfl
theorem elemK_76 : elemK Tryz.prog 76 = none := by kernel_rfl
theorem eqKind_77 : eqKind Tryz.prog 77 = 5 := by kernel_rfl
theorem tyK_77 : tyK Tryz.prog 77 = some none := by kernel_rfl
theorem elemK_77 : elemK Tryz.prog 77 = none := by kernel_rfl
theorem eqKind_78 : eqKind Tryz.prog 78 = 5 := by kernel_rfl
theorem tyK_78 : tyK Tryz.prog 78 = some none := by kernel_rfl
theorem elemK_78 : elemK Tryz.prog 78 = none := by kernel_rfl
theorem eqKind_79 : eqKind Tryz.prog 79 = 0 := by kernel_rfl
theorem tyK_79 : tyK Tryz.prog 79 = some none := by kernel_rfl
theorem elemK_79 : elemK Tryz.prog 79 = none := by kernel_rfl
theorem eqKind_80 : eqKind Tryz.prog 80 = 3 := by kernel_rfl
theorem tyK_80 : tyK Tryz.prog 80 = some none := by kernel_rfl
theorem elemK_80 : elemK Tryz.prog 80 = some (24, 1) := by kernel_rfl
theorem elI_80 : elI Tryz.prog 80 = some (24, 1, 24) := by kernel_rfl
theorem eqKind_81 : eqKind Tryz.prog 81 = 5 := by kernel_rfl
theorem tyK_81 : tyK Tryz.prog 81 = some none := by kernel_rfl
theorem elemK_81 : elemK Tryz.prog 81 = none := by kernel_rfl
theorem eqKind_82 : eqKind Tryz.prog 82 = 0 := by kernel_rfl
theorem tyK_82 : tyK Tryz.prog 82 = some (some 256) := by kernel_rfl
theorem elemK_82 : elemK Tryz.prog 82 = none := by kernel_rfl
theorem arrK_82 : arrK Tryz.prog 82 = some (256, 5, 1) := by kernel_rfl
theorem eqKind_83 : eqKind Tryz.prog 83 = 5 := by kernel_rfl
theorem tyK_83 : tyK Tryz.prog 83 = some none := by kernel_rfl
theorem elemK_83 : elemK Tryz.prog 83 = none := by kernel_rfl
theorem eqKind_84 : eqKind Tryz.prog 84 = 5 := by kernel_rfl
theorem tyK_84 : tyK Tryz.prog 84 = some none := by kernel_rfl
theorem elemK_84 : elemK Tryz.prog 84 = none := by kernel_rfl
theorem eqKind_85 : eqKind Tryz.prog 85 = 5 := by kernel_rfl
theorem tyK_85 : tyK Tryz.prog 85 = some none := by kernel_rfl
theorem elemK_85 : elemK Tryz.prog 85 = none := by kernel_rfl
theorem eqKind_86 : eqKind Tryz.prog 86 = 0 := by kernel_rfl
theorem tyK_86 : tyK Tryz.prog 86 = some (some 256) := by kernel_rfl
theorem elemK_86 : elemK Tryz.prog 86 = none := by kernel_rfl
theorem arrK_86 : arrK Tryz.prog 86 = some (256, 4, 1) := by kernel_rfl
theorem eqKind_87 : eqKind Tryz.prog 87 = 0 := by kernel_rfl
theorem tyK_87 : tyK Tryz.prog 87 = some (some 256) := by kernel_rfl
theorem elemK_87 : elemK Tryz.prog 87 = none := by kernel_rfl
theorem arrK_87 : arrK Tryz.prog 87 = some (256, 4, 1) := by kernel_rfl
theorem eqKind_88 : eqKind Tryz.prog 88 = 0 := by kernel_rfl
theorem tyK_88 : tyK Tryz.prog 88 = some none := by kernel_rfl
theorem elemK_88 : elemK Tryz.prog 88 = none := by kernel_rfl
theorem eqKind_89 : eqKind Tryz.prog 89 = 5 := by kernel_rfl
theorem tyK_89 : tyK Tryz.prog 89 = some none := by kernel_rfl
theorem elemK_89 : elemK Tryz.prog 89 = none := by kernel_rfl
theorem eqKind_90 : eqKind Tryz.prog 90 = 5 := by kernel_rfl
theorem tyK_90 : tyK Tryz.prog 90 = some none := by kernel_rfl
theorem elemK_90 : elemK Tryz.prog 90 = none := by kernel_rfl
theorem eqKind_91 : eqKind Tryz.prog 91 = 2 := by kernel_rfl
theorem tyK_91 : tyK Tryz.prog 91 = some none := by kernel_rfl
theorem elemK_91 : elemK Tryz.prog 91 = none := by kernel_rfl
theorem eqKind_92 : eqKind Tryz.prog 92 = 5 := by kernel_rfl
theorem tyK_92 : tyK Tryz.prog 92 = some none := by kernel_rfl
theorem elemK_92 : elemK Tryz.prog 92 = none := by kernel_rfl
theorem eqKind_93 : eqKind Tryz.prog 93 = 5 := by kernel_rfl
theorem tyK_93 : tyK Tryz.prog 93 = some none := by kernel_rfl
theorem elemK_93 : elemK Tryz.prog 93 = none := by kernel_rfl
theorem eqKind_94 : eqKind Tryz.prog 94 = 5 := by kernel_rfl
theorem tyK_94 : tyK Tryz.prog 94 = some none := by kernel_rfl
theorem elemK_94 : elemK Tryz.prog 94 = none := by kernel_rfl
theorem eqKind_95 : eqKind Tryz.prog 95 = 0 := by kernel_rfl
theorem tyK_95 : tyK Tryz.prog 95 = some none := by kernel_rfl
theorem elemK_95 : elemK Tryz.prog 95 = none := by kernel_rfl
theorem eqKind_96 : eqKind Tryz.prog 96 = 5 := by kernel_rfl
theorem tyK_96 : tyK Tryz.prog 96 = some none := by kernel_rfl
theorem elemK_96 : elemK Tryz.prog 96 = none := by kernel_rfl
theorem eqKind_97 : eqKind Tryz.prog 97 = 2 := by kernel_rfl
theorem tyK_97 : tyK Tryz.prog 97 = some none := by kernel_rfl
theorem elemK_97 : elemK Tryz.prog 97 = none := by kernel_rfl
theorem eqKind_98 : eqKind Tryz.prog 98 = 3 := by kernel_rfl
theorem tyK_98 : tyK Tryz.prog 98 = some none := by kernel_rfl
theorem elemK_98 : elemK Tryz.prog 98 = some (5, 1) := by kernel_rfl
theorem elI_98 : elI Tryz.prog 98 = some (5, 1, 1) := by kernel_rfl
theorem eqKind_99 : eqKind Tryz.prog 99 = 0 := by kernel_rfl
theorem tyK_99 : tyK Tryz.prog 99 = some (some 2) := by kernel_rfl
theorem bldI_99 : bldI Tryz.prog 99 = some ([.pointer none, .slice none 0 0], [(0, 1), (1, 1)]) := by kernel_rfl
theorem elemK_99 : elemK Tryz.prog 99 = none := by kernel_rfl
theorem fieldK_99_0 : fieldK Tryz.prog 99 0 = some (0, none) := by kernel_rfl
theorem fieldK_99_1 : fieldK Tryz.prog 99 1 = some (1, none) := by kernel_rfl
theorem eqKind_100 : eqKind Tryz.prog 100 = 0 := by kernel_rfl
theorem tyK_100 : tyK Tryz.prog 100 = some (some 2) := by kernel_rfl
theorem bldI_100 : bldI Tryz.prog 100 = some ([.pointer none, .slice none 0 0], [(0, 1), (1, 1)]) := by kernel_rfl
theorem elemK_100 : elemK Tryz.prog 100 = none := by kernel_rfl
theorem fieldK_100_0 : fieldK Tryz.prog 100 0 = some (0, none) := by kernel_rfl
theorem fieldK_100_1 : fieldK Tryz.prog 100 1 = some (1, none) := by kernel_rfl
theorem eqKind_101 : eqKind Tryz.prog 101 = 5 := by kernel_rfl
theorem tyK_101 : tyK Tryz.prog 101 = some none := by kernel_rfl
theorem elemK_101 : elemK Tryz.prog 101 = none := by kernel_rfl
theorem eqKind_102 : eqKind Tryz.prog 102 = 0 := by kernel_rfl
theorem tyK_102 : tyK Tryz.prog 102 = some none := by kernel_rfl
theorem elemK_102 : elemK Tryz.prog 102 = none := by kernel_rfl
theorem eqKind_103 : eqKind Tryz.prog 103 = 5 := by kernel_rfl
theorem tyK_103 : tyK Tryz.prog 103 = some none := by kernel_rfl
theorem elemK_103 : elemK Tryz.prog 103 = none := by kernel_rfl
theorem eqKind_104 : eqKind Tryz.prog 104 = 5 := by kernel_rfl
theorem tyK_104 : tyK Tryz.prog 104 = some none := by kernel_rfl
theorem elemK_104 : elemK Tryz.prog 104 = none := by kernel_rfl
theorem eqKind_105 : eqKind Tryz.prog 105 = 5 := by kernel_rfl
theorem tyK_105 : tyK Tryz.prog 105 = some none := by kernel_rfl
theorem elemK_105 : elemK Tryz.prog 105 = none := by kernel_rfl
theorem eqKind_106 : eqKind Tryz.prog 106 = 0 := by kernel_rfl
theorem tyK_106 : tyK Tryz.prog 106 = some none := by kernel_rfl
theorem elemK_106 : elemK Tryz.prog 106 = none := by kernel_rfl
theorem eqKind_107 : eqKind Tryz.prog 107 = 0 := by kernel_rfl
theorem tyK_107 : tyK Tryz.prog 107 = some none := by kernel_rfl
theorem elemK_107 : elemK Tryz.prog 107 = none := by kernel_rfl
theorem eqKind_108 : eqKind Tryz.prog 108 = 5 := by kernel_rfl
theorem tyK_108 : tyK Tryz.prog 108 = some none := by kernel_rfl
theorem elemK_108 : elemK Tryz.prog 108 = none := by kernel_rfl
theorem eqKind_109 : eqKind Tryz.prog 109 = 5 := by kernel_rfl
theorem tyK_109 : tyK Tryz.prog 109 = some none := by kernel_rfl
theorem elemK_109 : elemK Tryz.prog 109 = none := by kernel_rfl
theorem eqKind_110 : eqKind Tryz.prog 110 = 5 := by kernel_rfl
theorem tyK_110 : tyK Tryz.prog 110 = some none := by kernel_rfl
theorem elemK_110 : elemK Tryz.prog 110 = none := by kernel_rfl
theorem eqKind_111 : eqKind Tryz.prog 111 = 5 := by kernel_rfl
theorem tyK_111 : tyK Tryz.prog 111 = some none := by kernel_rfl
theorem elemK_111 : elemK Tryz.prog 111 = none := by kernel_rfl
theorem eqKind_112 : eqKind Tryz.prog 112 = 5 := by kernel_rfl
theorem tyK_112 : tyK Tryz.prog 112 = some none := by kernel_rfl
theorem elemK_112 : elemK Tryz.prog 112 = none := by kernel_rfl
theorem eqKind_113 : eqKind Tryz.prog 113 = 0 := by kernel_rfl
theorem tyK_113 : tyK Tryz.prog 113 = some none := by kernel_rfl
theorem elemK_113 : elemK Tryz.prog 113 = none := by kernel_rfl
theorem eqKind_114 : eqKind Tryz.prog 114 = 5 := by kernel_rfl
theorem tyK_114 : tyK Tryz.prog 114 = some none := by kernel_rfl
theorem elemK_114 : elemK Tryz.prog 114 = none := by kernel_rfl
theorem eqKind_115 : eqKind Tryz.prog 115 = 0 := by kernel_rfl
theorem tyK_115 : tyK Tryz.prog 115 = some none := by kernel_rfl
theorem elemK_115 : elemK Tryz.prog 115 = none := by kernel_rfl
theorem eqKind_116 : eqKind Tryz.prog 116 = 3 := by kernel_rfl
theorem tyK_116 : tyK Tryz.prog 116 = some none := by kernel_rfl
theorem elemK_116 : elemK Tryz.prog 116 = some (118, 2) := by kernel_rfl
theorem elI_116 : elI Tryz.prog 116 = some (118, 2, 16) := by kernel_rfl
theorem eqKind_117 : eqKind Tryz.prog 117 = 9 := by kernel_rfl
theorem tyK_117 : tyK Tryz.prog 117 = some (some 2) := by kernel_rfl
theorem bldI_117 : bldI Tryz.prog 117 = some ([.int .i64 0, .int .i64 0], [(0, 1), (1, 1)]) := by kernel_rfl
theorem elemK_117 : elemK Tryz.prog 117 = none := by kernel_rfl
theorem fieldK_117_0 : fieldK Tryz.prog 117 0 = some (0, none) := by kernel_rfl
theorem fieldK_117_1 : fieldK Tryz.prog 117 1 = some (1, none) := by kernel_rfl
theorem eqKind_118 : eqKind Tryz.prog 118 = 9 := by kernel_rfl
theorem tyK_118 : tyK Tryz.prog 118 = some (some 2) := by kernel_rfl
theorem bldI_118 : bldI Tryz.prog 118 = some ([.int .i64 0, .int .i64 0], [(0, 1), (1, 1)]) := by kernel_rfl
theorem elemK_118 : elemK Tryz.prog 118 = none := by kernel_rfl
theorem fieldK_118_0 : fieldK Tryz.prog 118 0 = some (0, none) := by kernel_rfl
theorem fieldK_118_1 : fieldK Tryz.prog 118 1 = some (1, none) := by kernel_rfl
theorem eqKind_119 : eqKind Tryz.prog 119 = 5 := by kernel_rfl
theorem tyK_119 : tyK Tryz.prog 119 = some none := by kernel_rfl
theorem elemK_119 : elemK Tryz.prog 119 = none := by kernel_rfl
theorem eqKind_120 : eqKind Tryz.prog 120 = 2 := by kernel_rfl
theorem tyK_120 : tyK Tryz.prog 120 = some none := by kernel_rfl
theorem elemK_120 : elemK Tryz.prog 120 = none := by kernel_rfl
theorem eqKind_121 : eqKind Tryz.prog 121 = 5 := by kernel_rfl
theorem tyK_121 : tyK Tryz.prog 121 = some none := by kernel_rfl
theorem elemK_121 : elemK Tryz.prog 121 = none := by kernel_rfl
theorem eqKind_122 : eqKind Tryz.prog 122 = 0 := by kernel_rfl
theorem tyK_122 : tyK Tryz.prog 122 = some none := by kernel_rfl
theorem elemK_122 : elemK Tryz.prog 122 = none := by kernel_rfl
theorem eqKind_123 : eqKind Tryz.prog 123 = 5 := by kernel_rfl
theorem tyK_123 : tyK Tryz.prog 123 = some none := by kernel_rfl
theorem elemK_123 : elemK Tryz.prog 123 = none := by kernel_rfl
theorem eqKind_124 : eqKind Tryz.prog 124 = 5 := by kernel_rfl
theorem tyK_124 : tyK Tryz.prog 124 = some none := by kernel_rfl
theorem elemK_124 : elemK Tryz.prog 124 = none := by kernel_rfl
theorem eqKind_125 : eqKind Tryz.prog 125 = 5 := by kernel_rfl
theorem tyK_125 : tyK Tryz.prog 125 = some none := by kernel_rfl
theorem elemK_125 : elemK Tryz.prog 125 = none := by kernel_rfl
theorem eqKind_126 : eqKind Tryz.prog 126 = 5 := by kernel_rfl
theorem tyK_126 : tyK Tryz.prog 126 = some none := by kernel_rfl
theorem elemK_126 : elemK Tryz.prog 126 = none := by kernel_rfl
theorem eqKind_127 : eqKind Tryz.prog 127 = 0 := by kernel_rfl
theorem tyK_127 : tyK Tryz.prog 127 = some none := by kernel_rfl
theorem elemK_127 : elemK Tryz.prog 127 = none := by kernel_rfl
theorem eqKind_128 : eqKind Tryz.prog 128 = 0 := by kernel_rfl
theorem tyK_128 : tyK Tryz.prog 128 = some none := by kernel_rfl
theorem elemK_128 : elemK Tryz.prog 128 = none := by kernel_rfl
theorem eqKind_129 : eqKind Tryz.prog 129 = 5 := by kernel_rfl
theorem tyK_129 : tyK Tryz.prog 129 = some none := by kernel_rfl
theorem elemK_129 : elemK Tryz.prog 129 = none := by kernel_rfl
theorem eqKind_130 : eqKind Tryz.prog 130 = 2 := by kernel_rfl
theorem tyK_130 : tyK Tryz.prog 130 = some none := by kernel_rfl
theorem elemK_130 : elemK Tryz.prog 130 = none := by kernel_rfl
theorem eqKind_131 : eqKind Tryz.prog 131 = 5 := by kernel_rfl
theorem tyK_131 : tyK Tryz.prog 131 = some none := by kernel_rfl
theorem elemK_131 : elemK Tryz.prog 131 = none := by kernel_rfl
theorem eqKind_132 : eqKind Tryz.prog 132 = 5 := by kernel_rfl
theorem tyK_132 : tyK Tryz.prog 132 = some none := by kernel_rfl
theorem elemK_132 : elemK Tryz.prog 132 = none := by kernel_rfl
theorem eqKind_133 : eqKind Tryz.prog 133 = 5 := by kernel_rfl
theorem tyK_133 : tyK Tryz.prog 133 = some none := by kernel_rfl
theorem elemK_133 : elemK Tryz.prog 133 = none := by kernel_rfl
theorem eqKind_134 : eqKind Tryz.prog 134 = 5 := by kernel_rfl
theorem tyK_134 : tyK Tryz.prog 134 = some none := by kernel_rfl
theorem elemK_134 : elemK Tryz.prog 134 = none := by kernel_rfl
theorem eqKind_135 : eqKind Tryz.prog 135 = 5 := by kernel_rfl
theorem tyK_135 : tyK Tryz.prog 135 = some none := by kernel_rfl
theorem elemK_135 : elemK Tryz.prog 135 = none := by kernel_rfl
theorem eqKind_136 : eqKind Tryz.prog 136 = 2 := by kernel_rfl
theorem tyK_136 : tyK Tryz.prog 136 = some none := by kernel_rfl
theorem elemK_136 : elemK Tryz.prog 136 = none := by kernel_rfl
theorem eqKind_137 : eqKind Tryz.prog 137 = 0 := by kernel_rfl
theorem tyK_137 : tyK Tryz.prog 137 = some none := by kernel_rfl
theorem elemK_137 : elemK Tryz.prog 137 = none := by kernel_rfl
theorem eqKind_138 : eqKind Tryz.prog 138 = 9 := by kernel_rfl
theorem tyK_138 : tyK Tryz.prog 138 = some (some 2) := by kernel_rfl
theorem bldI_138 : bldI Tryz.prog 138 = some ([.int .i64 0, .int .i64 0], [(0, 1), (1, 1)]) := by kernel_rfl
theorem elemK_138 : elemK Tryz.prog 138 = none := by kernel_rfl
theorem fieldK_138_0 : fieldK Tryz.prog 138 0 = some (0, none) := by kernel_rfl
theorem fieldK_138_1 : fieldK Tryz.prog 138 1 = some (1, none) := by kernel_rfl
theorem eqKind_139 : eqKind Tryz.prog 139 = 1 := by kernel_rfl
theorem tyK_139 : tyK Tryz.prog 139 = some none := by kernel_rfl
theorem elemK_139 : elemK Tryz.prog 139 = none := by kernel_rfl
theorem eqKind_140 : eqKind Tryz.prog 140 = 0 := by kernel_rfl
theorem tyK_140 : tyK Tryz.prog 140 = some none := by kernel_rfl
theorem elemK_140 : elemK Tryz.prog 140 = none := by kernel_rfl
theorem eqKind_141 : eqKind Tryz.prog 141 = 5 := by kernel_rfl
theorem tyK_141 : tyK Tryz.prog 141 = some none := by kernel_rfl
theorem elemK_141 : elemK Tryz.prog 141 = none := by kernel_rfl
theorem eqKind_142 : eqKind Tryz.prog 142 = 2 := by kernel_rfl
theorem tyK_142 : tyK Tryz.prog 142 = some none := by kernel_rfl
theorem elemK_142 : elemK Tryz.prog 142 = none := by kernel_rfl
theorem eqKind_143 : eqKind Tryz.prog 143 = 0 := by kernel_rfl
theorem tyK_143 : tyK Tryz.prog 143 = some (some 24) := by kernel_rfl
theorem elemK_143 : elemK Tryz.prog 143 = none := by kernel_rfl
theorem arrK_143 : arrK Tryz.prog 143 = some (24, 5, 1) := by kernel_rfl
theorem eqKind_144 : eqKind Tryz.prog 144 = 5 := by kernel_rfl
theorem tyK_144 : tyK Tryz.prog 144 = some none := by kernel_rfl
theorem elemK_144 : elemK Tryz.prog 144 = none := by kernel_rfl
theorem eqKind_145 : eqKind Tryz.prog 145 = 0 := by kernel_rfl
theorem tyK_145 : tyK Tryz.prog 145 = some none := by kernel_rfl
theorem elemK_145 : elemK Tryz.prog 145 = none := by kernel_rfl
theorem eqKind_146 : eqKind Tryz.prog 146 = 5 := by kernel_rfl
theorem tyK_146 : tyK Tryz.prog 146 = some none := by kernel_rfl
theorem elemK_146 : elemK Tryz.prog 146 = none := by kernel_rfl
theorem eqKind_147 : eqKind Tryz.prog 147 = 5 := by kernel_rfl
theorem tyK_147 : tyK Tryz.prog 147 = some none := by kernel_rfl
theorem elemK_147 : elemK Tryz.prog 147 = none := by kernel_rfl
theorem eqKind_148 : eqKind Tryz.prog 148 = 0 := by kernel_rfl
theorem tyK_148 : tyK Tryz.prog 148 = some none := by kernel_rfl
theorem elemK_148 : elemK Tryz.prog 148 = none := by kernel_rfl
theorem eqKind_149 : eqKind Tryz.prog 149 = 5 := by kernel_rfl
theorem tyK_149 : tyK Tryz.prog 149 = some none := by kernel_rfl
theorem elemK_149 : elemK Tryz.prog 149 = none := by kernel_rfl
theorem eqKind_150 : eqKind Tryz.prog 150 = 5 := by kernel_rfl
theorem tyK_150 : tyK Tryz.prog 150 = some none := by kernel_rfl
theorem elemK_150 : elemK Tryz.prog 150 = none := by kernel_rfl
theorem eqKind_151 : eqKind Tryz.prog 151 = 5 := by kernel_rfl
theorem tyK_151 : tyK Tryz.prog 151 = some none := by kernel_rfl
theorem elemK_151 : elemK Tryz.prog 151 = none := by kernel_rfl
theorem eqKind_152 : eqKind Tryz.prog 152 = 2 := by kernel_rfl
theorem tyK_152 : tyK Tryz.prog 152 = some none := by kernel_rfl
theorem elemK_152 : elemK Tryz.prog 152 = none := by kernel_rfl
theorem eqKind_153 : eqKind Tryz.prog 153 = 5 := by kernel_rfl
theorem tyK_153 : tyK Tryz.prog 153 = some none := by kernel_rfl
theorem elemK_153 : elemK Tryz.prog 153 = none := by kernel_rfl
theorem eqKind_154 : eqKind Tryz.prog 154 = 3 := by kernel_rfl
theorem tyK_154 : tyK Tryz.prog 154 = some none := by kernel_rfl
theorem elemK_154 : elemK Tryz.prog 154 = some (160, 3) := by kernel_rfl
theorem elI_154 : elI Tryz.prog 154 = some (160, 3, 6) := by kernel_rfl
theorem eqKind_155 : eqKind Tryz.prog 155 = 3 := by kernel_rfl
theorem tyK_155 : tyK Tryz.prog 155 = some none := by kernel_rfl
theorem elemK_155 : elemK Tryz.prog 155 = some (163, 3) := by kernel_rfl
theorem elI_155 : elI Tryz.prog 155 = some (163, 3, 12) := by kernel_rfl
theorem eqKind_156 : eqKind Tryz.prog 156 = 0 := by kernel_rfl
theorem tyK_156 : tyK Tryz.prog 156 = some (some 3) := by kernel_rfl
theorem bldI_156 : bldI Tryz.prog 156 = some ([.slice none 0 0, .slice none 0 0, .int .i64 0], [(0, 1), (1, 1), (2, 1)]) := by kernel_rfl
theorem elemK_156 : elemK Tryz.prog 156 = none := by kernel_rfl
theorem fieldK_156_0 : fieldK Tryz.prog 156 0 = some (0, none) := by kernel_rfl
theorem fieldK_156_1 : fieldK Tryz.prog 156 1 = some (1, none) := by kernel_rfl
theorem fieldK_156_2 : fieldK Tryz.prog 156 2 = some (2, none) := by kernel_rfl
theorem eqKind_157 : eqKind Tryz.prog 157 = 0 := by kernel_rfl
theorem tyK_157 : tyK Tryz.prog 157 = some (some 3) := by kernel_rfl
theorem bldI_157 : bldI Tryz.prog 157 = some ([.slice none 0 0, .slice none 0 0, .int .i64 0], [(0, 1), (1, 1), (2, 1)]) := by kernel_rfl
theorem elemK_157 : elemK Tryz.prog 157 = none := by kernel_rfl
theorem fieldK_157_0 : fieldK Tryz.prog 157 0 = some (0, none) := by kernel_rfl
theorem fieldK_157_1 : fieldK Tryz.prog 157 1 = some (1, none) := by kernel_rfl
theorem fieldK_157_2 : fieldK Tryz.prog 157 2 = some (2, none) := by kernel_rfl
theorem eqKind_158 : eqKind Tryz.prog 158 = 0 := by kernel_rfl
theorem tyK_158 : tyK Tryz.prog 158 = some none := by kernel_rfl
theorem elemK_158 : elemK Tryz.prog 158 = none := by kernel_rfl
theorem eqKind_159 : eqKind Tryz.prog 159 = 10 := by kernel_rfl
theorem tyK_159 : tyK Tryz.prog 159 = some (some 3) := by kernel_rfl
theorem bldI_159 : bldI Tryz.prog 159 = some ([.int .u16 0, .int .u16 0, .int .u16 0], [(0, 1), (1, 1), (2, 1)]) := by kernel_rfl
theorem elemK_159 : elemK Tryz.prog 159 = none := by kernel_rfl
theorem fieldK_159_0 : fieldK Tryz.prog 159 0 = some (0, none) := by kernel_rfl
theorem fieldK_159_1 : fieldK Tryz.prog 159 1 = some (1, none) := by kernel_rfl
theorem fieldK_159_2 : fieldK Tryz.prog 159 2 = some (2, none) := by kernel_rfl
theorem eqKind_160 : eqKind Tryz.prog 160 = 10 := by kernel_rfl
theorem tyK_160 : tyK Tryz.prog 160 = some (some 3) := by kernel_rfl
theorem bldI_160 : bldI Tryz.prog 160 = some ([.int .u16 0, .int .u16 0, .int .u16 0], [(0, 1), (1, 1), (2, 1)]) := by kernel_rfl
theorem elemK_160 : elemK Tryz.prog 160 = none := by kernel_rfl
theorem fieldK_160_0 : fieldK Tryz.prog 160 0 = some (0, none) := by kernel_rfl
theorem fieldK_160_1 : fieldK Tryz.prog 160 1 = some (1, none) := by kernel_rfl
theorem fieldK_160_2 : fieldK Tryz.prog 160 2 = some (2, none) := by kernel_rfl
theorem eqKind_161 : eqKind Tryz.prog 161 = 5 := by kernel_rfl
theorem tyK_161 : tyK Tryz.prog 161 = some none := by kernel_rfl
theorem elemK_161 : elemK Tryz.prog 161 = none := by kernel_rfl
theorem eqKind_162 : eqKind Tryz.prog 162 = 10 := by kernel_rfl
theorem tyK_162 : tyK Tryz.prog 162 = some (some 3) := by kernel_rfl
theorem bldI_162 : bldI Tryz.prog 162 = some ([.int .u32 0, .int .u32 0, .int .u32 0], [(0, 1), (1, 1), (2, 1)]) := by kernel_rfl
theorem elemK_162 : elemK Tryz.prog 162 = none := by kernel_rfl
theorem fieldK_162_0 : fieldK Tryz.prog 162 0 = some (0, none) := by kernel_rfl
theorem fieldK_162_1 : fieldK Tryz.prog 162 1 = some (1, none) := by kernel_rfl
theorem fieldK_162_2 : fieldK Tryz.prog 162 2 = some (2, none) := by kernel_rfl
theorem eqKind_163 : eqKind Tryz.prog 163 = 10 := by kernel_rfl
theorem tyK_163 : tyK Tryz.prog 163 = some (some 3) := by kernel_rfl
theorem bldI_163 : bldI Tryz.prog 163 = some ([.int .u32 0, .int .u32 0, .int .u32 0], [(0, 1), (1, 1), (2, 1)]) := by kernel_rfl
theorem elemK_163 : elemK Tryz.prog 163 = none := by kernel_rfl
theorem fieldK_163_0 : fieldK Tryz.prog 163 0 = some (0, none) := by kernel_rfl
theorem fieldK_163_1 : fieldK Tryz.prog 163 1 = some (1, none) := by kernel_rfl
theorem fieldK_163_2 : fieldK Tryz.prog 163 2 = some (2, none) := by kernel_rfl
theorem eqKind_164 : eqKind Tryz.prog 164 = 5 := by kernel_rfl
theorem tyK_164 : tyK Tryz.prog 164 = some none := by kernel_rfl
theorem elemK_164 : elemK Tryz.prog 164 = none := by kernel_rfl
theorem eqKind_165 : eqKind Tryz.prog 165 = 5 := by kernel_rfl
theorem tyK_165 : tyK Tryz.prog 165 = some none := by kernel_rfl
theorem elemK_165 : elemK Tryz.prog 165 = none := by kernel_rfl
theorem eqKind_166 : eqKind Tryz.prog 166 = 5 := by kernel_rfl
theorem tyK_166 : tyK Tryz.prog 166 = some none := by kernel_rfl
theorem elemK_166 : elemK Tryz.prog 166 = none := by kernel_rfl
theorem eqKind_167 : eqKind Tryz.prog 167 = 5 := by kernel_rfl
theorem tyK_167 : tyK Tryz.prog 167 = some none := by kernel_rfl
theorem elemK_167 : elemK Tryz.prog 167 = none := by kernel_rfl
theorem eqKind_168 : eqKind Tryz.prog 168 = 5 := by kernel_rfl
theorem tyK_168 : tyK Tryz.prog 168 = some none := by kernel_rfl
theorem elemK_168 : elemK Tryz.prog 168 = none := by kernel_rfl
theorem eqKind_169 : eqKind Tryz.prog 169 = 5 := by kernel_rfl
theorem tyK_169 : tyK Tryz.prog 169 = some none := by kernel_rfl
theorem elemK_169 : elemK Tryz.prog 169 = none := by kernel_rfl
theorem eqKind_170 : eqKind Tryz.prog 170 = 0 := by kernel_rfl
theorem tyK_170 : tyK Tryz.prog 170 = some (some 3) := by kernel_rfl
theorem bldI_170 : bldI Tryz.prog 170 = some ([str [], str [], .nilIface], [(0, 1), (1, 1), (2, 1)]) := by kernel_rfl
theorem elemK_170 : elemK Tryz.prog 170 = none := by kernel_rfl
theorem fieldK_170_0 : fieldK Tryz.prog 170 0 = some (0, none) := by kernel_rfl
theorem fieldK_170_1 : fieldK Tryz.prog 170 1 = some (1, none) := by kernel_rfl
theorem fieldK_170_2 : fieldK Tryz.prog 170 2 = some (2, none) := by kernel_rfl
theorem eqKind_171 : eqKind Tryz.prog 171 = 0 := by kernel_rfl
theorem tyK_171 : tyK Tryz.prog 171 = some (some 3) := by kernel_rfl
theorem bldI_171 : bldI Tryz.prog 171 = some ([str [], str [], .nilIface], [(0, 1), (1, 1), (2, 1)]) := by kernel_rfl
theorem elemK_171 : elemK Tryz.prog 171 = none := by kernel_rfl
theorem fieldK_171_0 : fieldK Tryz.prog 171 0 = some (0, none) := by kernel_rfl
theorem fieldK_171_1 : fieldK Tryz.prog 171 1 = some (1, none) := by kernel_rfl
theorem fieldK_171_2 : fieldK Tryz.prog 171 2 = some (2, none) := by kernel_rfl
theorem eqKind_172 : eqKind Tryz.prog 172 = 5 := by kernel_rfl
theorem tyK_172 : tyK Tryz.prog 172 = some none := by kernel_rfl
theorem elemK_172 : elemK Tryz.prog 172 = none := by kernel_rfl
theorem eqKind_173 : eqKind Tryz.prog 173 = 5 := by kernel_rfl
theorem tyK_173 : tyK Tryz.prog 173 = some none := by kernel_rfl
theorem elemK_173 : elemK Tryz.prog 173 = none := by kernel_rfl
theorem eqKind_174 : eqKind Tryz.prog 174 = 5 := by kernel_rfl
theorem tyK_174 : tyK Tryz.prog 174 = some none := by kernel_rfl
theorem elemK_174 : elemK Tryz.prog 174 = none := by kernel_rfl
theorem eqKind_175 : eqKind Tryz.prog 175 = 2 := by kernel_rfl
theorem tyK_175 : tyK Tryz.prog 175 = some none := by kernel_rfl
theorem elemK_175 : elemK Tryz.prog 175 = none := by kernel_rfl
theorem eqKind_176 : eqKind Tryz.prog 176 = 0 := by kernel_rfl
theorem tyK_176 : tyK Tryz.prog 176 = some none := by kernel_rfl
theorem elemK_176 : elemK Tryz.prog 176 = none := by kernel_rfl
theorem eqKind_177 : eqKind Tryz.prog 177 = 5 := by kernel_rfl
theorem tyK_177 : tyK Tryz.prog 177 = some none := by kernel_rfl
theorem elemK_177 : elemK Tryz.prog 177 = none := by kernel_rfl
theorem eqKind_178 : eqKind Tryz.prog 178 = 5 := by kernel_rfl
theorem tyK_178 : tyK Tryz.prog 178 = some none := by kernel_rfl
theorem elemK_178 : elemK Tryz.prog 178 = none := by kernel_rfl
theorem eqKind_179 : eqKind Tryz.prog 179 = 5 := by kernel_rfl
theorem tyK_179 : tyK Tryz.prog 179 = some none := by kernel_rfl
theorem elemK_179 : elemK Tryz.prog 179 = none := by kernel_rfl
theorem eqKind_180 : eqKind Tryz.prog 180 = 0 := by kernel_rfl
theorem tyK_180 : tyK Tryz.prog 180 = some (some 20) := by kernel_rfl
theorem elemK_180 : elemK Tryz.prog 180 = none := by kernel_rfl
theorem arrK_180 : arrK Tryz.prog 180 = some (20, 115, 1) := by kernel_rfl
theorem eqKind_181 : eqKind Tryz.prog 181 = 0 := by kernel_rfl
theorem tyK_181 : tyK Tryz.prog 181 = some (some 65) := by kernel_rfl
theorem elemK_181 : elemK Tryz.prog 181 = none := by kernel_rfl
theorem arrK_181 : arrK Tryz.prog 181 = some (65, 5, 1) := by kernel_rfl
theorem eqKind_182 : eqKind Tryz.prog 182 = 5 := by kernel_rfl
theorem tyK_182 : tyK Tryz.prog 182 = some none := by kernel_rfl
theorem elemK_182 : elemK Tryz.prog 182 = none := by kernel_rfl
theorem eqKind_183 : eqKind Tryz.prog 183 = 5 := by kernel_rfl
theorem tyK_183 : tyK Tryz.prog 183 = some none := by kernel_rfl
theorem elemK_183 : elemK Tryz.prog 183 = none := by kernel_rfl
theorem eqKind_184 : eqKind Tryz.prog 184 = 5 := by kernel_rfl
theorem tyK_184 : tyK Tryz.prog 184 = some none := by kernel_rfl
theorem elemK_184 : elemK Tryz.prog 184 = none := by kernel_rfl
theorem eqKind_185 : eqKind Tryz.prog 185 = 5 := by kernel_rfl
theorem tyK_185 : tyK Tryz.prog 185 = some none := by kernel_rfl
theorem elemK_185 : elemK Tryz.prog 185 = none := by kernel_rfl
theorem eqKind_186 : eqKind Tryz.prog 186 = 5 := by kernel_rfl
theorem tyK_186 : tyK Tryz.prog 186 = some none := by kernel_rfl
theorem elemK_186 : elemK Tryz.prog 186 = none := by kernel_rfl
theorem eqKind_187 : eqKind Tryz.prog 187 = 5 := by kernel_rfl
theorem tyK_187 : tyK Tryz.prog 187 = some none := by kernel_rfl
theorem elemK_187 : elemK Tryz.prog 187 = none := by kernel_rfl
theorem eqKind_188 : eqKind Tryz.prog 188 = 2 := by kernel_rfl
theorem tyK_188 : tyK Tryz.prog 188 = some none := by kernel_rfl
theorem elemK_188 : elemK Tryz.prog 188 = none := by kernel_rfl
theorem eqKind_189 : eqKind Tryz.prog 189 = 0 := by kernel_rfl
theorem tyK_189 : tyK Tryz.prog 189 = some none := by kernel_rfl
theorem elemK_189 : elemK Tryz.prog 189 = none := by kernel_rfl
theorem eqKind_190 : eqKind Tryz.prog 190 = 5 := by kernel_rfl
theorem tyK_190 : tyK Tryz.prog 190 = some none := by kernel_rfl
theorem elemK_190 : elemK Tryz.prog 190 = none := by kernel_rfl
theorem eqKind_191 : eqKind Tryz.prog 191 = 2 := by kernel_rfl
theorem tyK_191 : tyK Tryz.prog 191 = some none := by kernel_rfl
theorem elemK_191 : elemK Tryz.prog 191 = none := by kernel_rfl
theorem eqKind_192 : eqKind Tryz.prog 192 = 2 := by kernel_rfl
theorem tyK_192 : tyK Tryz.prog 192 = some none := by kernel_rfl
theorem elemK_192 : elemK Tryz.prog 192 = none := by kernel_rfl
theorem eqKind_193 : eqKind Tryz.prog 193 = 9 := by kernel_rfl
theorem tyK_193 : tyK Tryz.prog 193 = some (some 2) := by kernel_rfl
theorem bldI_193 : bldI Tryz.prog 193 = some ([.int .u8 0, .int .u8 0], [(0, 1), (1, 1)]) := by kernel_rfl
theorem elemK_193 : elemK Tryz.prog 193 = none := by kernel_rfl
theorem fieldK_193_0 : fieldK Tryz.prog 193 0 = some (0, none) := by kernel_rfl
theorem fieldK_193_1 : fieldK Tryz.prog 193 1 = some (1, none) := by kernel_rfl
theorem eqKind_194 : eqKind Tryz.prog 194 = 9 := by kernel_rfl
theorem tyK_194 : tyK Tryz.prog 194 = some (some 2) := by kernel_rfl
theorem bldI_194 : bldI Tryz.prog 194 = some ([.int .u8 0, .int .u8 0], [(0, 1), (1, 1)]) := by kernel_rfl
theorem elemK_194 : elemK Tryz.prog 194 = none := by kernel_rfl
theorem fieldK_194_0 : fieldK Tryz.prog 194 0 = some (0, none) := by kernel_rfl
theorem fieldK_194_1 : fieldK Tryz.prog 194 1 = some (1, none) := by kernel_rfl
theorem eqKind_195 : eqKind Tryz.prog 195 = 0 := by kernel_rfl
theorem tyK_195 : tyK Tryz.prog 195 = some (some 32) := by kernel_rfl
theorem elemK_195 : elemK Tryz.prog 195 = none := by kernel_rfl
theorem arrK_195 : arrK Tryz.prog 195 = some (16, 194, 2) := by kernel_rfl
theorem eqKind_196 : eqKind Tryz.prog 196 = 2 := by kernel_rfl
theorem tyK_196 : tyK Tryz.prog 196 = some none := by kernel_rfl
theorem elemK_196 : elemK Tryz.prog 196 = none := by kernel_rfl
theorem eqKind_197 : eqKind Tryz.prog 197 = 0 := by kernel_rfl
theorem tyK_197 : tyK Tryz.prog 197 = some (some 1) := by kernel_rfl
theorem bldI_197 : bldI Tryz.prog 197 = some ([str []], [(0, 1)]) := by kernel_rfl
theorem elemK_197 : elemK Tryz.prog 197 = none := by kernel_rfl
theorem fieldK_197_0 : fieldK Tryz.prog 197 0 = some (0, none) := by kernel_rfl
theorem eqKind_198 : eqKind Tryz.prog 198 = 0 := by kernel_rfl
theorem tyK_198 : tyK Tryz.prog 198 = some (some 1) := by kernel_rfl
theorem bldI_198 : bldI Tryz.prog 198 = some ([str []], [(0, 1)]) := by kernel_rfl
theorem elemK_198 : elemK Tryz.prog 198 = none := by kernel_rfl
theorem fieldK_198_0 : fieldK Tryz.prog 198 0 = some (0, none) := by kernel_rfl
theorem eqKind_199 : eqKind Tryz.prog 199 = 0 := by kernel_rfl
theorem tyK_199 : tyK Tryz.prog 199 = some none := by kernel_rfl
theorem elemK_199 : elemK Tryz.prog 199 = none := by kernel_rfl
theorem eqKind_200 : eqKind Tryz.prog 200 = 5 := by kernel_rfl
theorem tyK_200 : tyK Tryz.prog 200 = some none := by kernel_rfl
theorem elemK_200 : elemK Tryz.prog 200 = none := by kernel_rfl
theorem eqKind_201 : eqKind Tryz.prog 201 = 0 := by kernel_rfl
theorem tyK_201 : tyK Tryz.prog 201 = some none := by kernel_rfl
theorem elemK_201 : elemK Tryz.prog 201 = none := by kernel_rfl
theorem eqKind_202 : eqKind Tryz.prog 202 = 0 := by kernel_rfl
theorem tyK_202 : tyK Tryz.prog 202 = some (some 3) := by kernel_rfl
theorem bldI_202 : bldI Tryz.prog 202 = some ([.pointer none, .pointer none, .int .u64 0], [(0, 1), (1, 1), (2, 1)]) := by kernel_rfl
theorem elemK_202 : elemK Tryz.prog 202 = none := by kernel_rfl
theorem fieldK_202_0 : fieldK Tryz.prog 202 0 = some (0, none) := by kernel_rfl
theorem fieldK_202_1 : fieldK Tryz.prog 202 1 = some (1, none) := by kernel_rfl
theorem fieldK_202_2 : fieldK Tryz.prog 202 2 = some (2, none) := by kernel_rfl
theorem eqKind_203 : eqKind Tryz.prog 203 = 0 := by kernel_rfl
theorem tyK_203 : tyK Tryz.prog 203 = some (some 3) := by kernel_rfl
theorem bldI_203 : bldI Tryz.prog 203 = some ([.pointer none, .pointer none, .int .u64 0], [(0, 1), (1, 1), (2, 1)]) := by kernel_rfl
theorem elemK_203 : elemK Tryz.prog 203 = none := by kernel_rfl
theorem fieldK_203_0 : fieldK Tryz.prog 203 0 = some (0, none) := by kernel_rfl
theorem fieldK_203_1 : fieldK Tryz.prog 203 1 = some (1, none) := by kernel_rfl
theorem fieldK_203_2 : fieldK Tryz.prog 203 2 = some (2, none) := by kernel_rfl
theorem eqKind_204 : eqKind Tryz.prog 204 = 5 := by kernel_rfl
theorem tyK_204 : tyK Tryz.prog 204 = some none := by kernel_rfl
theorem elemK_204 : elemK Tryz.prog 204 = none := by kernel_rfl
theorem eqKind_205 : eqKind Tryz.prog 205 = 1 := by kernel_rfl
theorem tyK_205 : tyK Tryz.prog 205 = some none := by kernel_rfl
theorem elemK_205 : elemK Tryz.prog 205 = none := by kernel_rfl
theorem eqKind_206 : eqKind Tryz.prog 206 = 1 := by kernel_rfl
theorem tyK_206 : tyK Tryz.prog 206 = some none := by kernel_rfl
theorem elemK_206 : elemK Tryz.prog 206 = none := by kernel_rfl
theorem eqKind_207 : eqKind Tryz.prog 207 = 5 := by kernel_rfl
theorem tyK_207 : tyK Tryz.prog 207 = some none := by kernel_rfl
theorem elemK_207 : elemK Tryz.prog 207 = none := by kernel_rfl
theorem eqKind_208 : eqKind Tryz.prog 208 = 0 := by kernel_rfl
theorem tyK_208 : tyK Tryz.prog 208 = some none := by kernel_rfl
theorem elemK_208 : elemK Tryz.prog 208 = none := by kernel_rfl
theorem eqKind_209 : eqKind Tryz.prog 209 = 5 := by kernel_rfl
theorem tyK_209 : tyK Tryz.prog 209 = some none := by kernel_rfl
theorem elemK_209 : elemK Tryz.prog 209 = none := by kernel_rfl
theorem eqKind_210 : eqKind Tryz.prog 210 = 5 := by kernel_rfl
theorem tyK_210 : tyK Tryz.prog 210 = some none := by kernel_rfl
theorem elemK_210 : elemK Tryz.prog 210 = none := by kernel_rfl
theorem eqKind_211 : eqKind Tryz.prog 211 = 5 := by kernel_rfl
theorem tyK_211 : tyK Tryz.prog 211 = some none := by kernel_rfl
theorem elemK_211 : elemK Tryz.prog 211 = none := by kernel_rfl
theorem eqKind_212 : eqKind Tryz.prog 212 = 5 := by kernel_rfl
theorem tyK_212 : tyK Tryz.prog 212 = some none := by kernel_rfl
theorem elemK_212 : elemK Tryz.prog 212 = none := by kernel_rfl
theorem eqKind_213 : eqKind Tryz.prog 213 = 5 := by kernel_rfl
theorem tyK_213 : tyK Tryz.prog 213 = some none := by kernel_rfl
theorem elemK_213 : elemK Tryz.prog 213 = none := by kernel_rfl
theorem eqKind_214 : eqKind Tryz.prog 214 = 5 := by kernel_rfl
theorem tyK_214 : tyK Tryz.prog 214 = some none := by kernel_rfl
theorem elemK_214 : elemK Tryz.prog 214 = none := by kernel_rfl
theorem eqKind_215 : eqKind Tryz.prog 215 = 0 := by kernel_rfl
theorem tyK_215 : tyK Tryz.prog 215 = some (some 1) := by kernel_rfl
theorem bldI_215 : bldI Tryz.prog 215 = some ([.pointer none], [(0, 1)]) := by kernel_rfl
theorem elemK_215 : elemK Tryz.prog 215 = none := by kernel_rfl
theorem fieldK_215_0 : fieldK Tryz.prog 215 0 = some (0, none) := by kernel_rfl
theorem eqKind_216 : eqKind Tryz.prog 216 = 0 := by kernel_rfl
theorem tyK_216 : tyK Tryz.prog 216 = some (some 1) := by kernel_rfl
theorem bldI_216 : bldI Tryz.prog 216 = some ([.pointer none], [(0, 1)]) := by kernel_rfl
theorem elemK_216 : elemK Tryz.prog 216 = none := by kernel_rfl
theorem fieldK_216_0 : fieldK Tryz.prog 216 0 = some (0, none) := by kernel_rfl
theorem eqKind_217 : eqKind Tryz.prog 217 = 2 := by kernel_rfl
theorem tyK_217 : tyK Tryz.prog 217 = some none := by kernel_rfl
theorem elemK_217 : elemK Tryz.prog 217 = none := by kernel_rfl
theorem eqKind_218 : eqKind Tryz.prog 218 = 5 := by kernel_rfl
theorem tyK_218 : tyK Tryz.prog 218 = some none := by kernel_rfl
theorem elemK_218 : elemK Tryz.prog 218 = none := by kernel_rfl
theorem eqKind_219 : eqKind Tryz.prog 219 = 5 := by kernel_rfl
theorem tyK_219 : tyK Tryz.prog 219 = some none := by kernel_rfl
theorem elemK_219 : elemK Tryz.prog 219 = none := by kernel_rfl
theorem eqKind_220 : eqKind Tryz.prog 220 = 5 := by kernel_rfl
theorem tyK_220 : tyK Tryz.prog 220 = some none := by kernel_rfl
theorem elemK_220 : elemK Tryz.prog 220 = none := by kernel_rfl
theorem eqKind_221 : eqKind Tryz.prog 221 = 1 := by kernel_rfl
theorem tyK_221 : tyK Tryz.prog 221 = some none := by kernel_rfl
theorem elemK_221 : elemK Tryz.prog 221 = none := by kernel_rfl
theorem eqKind_222 : eqKind Tryz.prog 222 = 0 := by kernel_rfl
theorem tyK_222 : tyK Tryz.prog 222 = some none := by kernel_rfl
theorem elemK_222 : elemK Tryz.prog 222 = none := by kernel_rfl
theorem eqKind_223 : eqKind Tryz.prog 223 = 5 := by kernel_rfl
theorem tyK_223 : tyK Tryz.prog 223 = some none := by kernel_rfl
theorem elemK_223 : elemK Tryz.prog 223 = none := by kernel_rfl
theorem eqKind_224 : eqKind Tryz.prog 224 = 1 := by kernel_rfl
theorem tyK_224 : tyK Tryz.prog 224 = some none := by kernel_rfl
theorem elemK_224 : elemK Tryz.prog 224 = none := by kernel_rfl
theorem eqKind_225 : eqKind Tryz.prog 225 = 3 := by kernel_rfl
theorem tyK_225 : tyK Tryz.prog 225 = some none := by kernel_rfl
theorem elemK_225 : elemK Tryz.prog 225 = some (35, 1) := by kernel_rfl
theorem elI_225 : elI Tryz.prog 225 = some (35, 1, 16) := by kernel_rfl
theorem eqKind_226 : eqKind Tryz.prog 226 = 5 := by kernel_rfl
theorem tyK_226 : tyK Tryz.prog 226 = some none := by kernel_rfl
theorem elemK_226 : elemK Tryz.prog 226 = none := by kernel_rfl
theorem eqKind_227 : eqKind Tryz.prog 227 = 0 := by kernel_rfl
theorem tyK_227 : tyK Tryz.prog 227 = some (some 32) := by kernel_rfl
theorem elemK_227 : elemK Tryz.prog 227 = none := by kernel_rfl
theorem arrK_227 : arrK Tryz.prog 227 = some (32, 5, 1) := by kernel_rfl
theorem eqKind_228 : eqKind Tryz.prog 228 = 0 := by kernel_rfl
theorem tyK_228 : tyK Tryz.prog 228 = some (some 64) := by kernel_rfl
theorem elemK_228 : elemK Tryz.prog 228 = none := by kernel_rfl
theorem arrK_228 : arrK Tryz.prog 228 = some (64, 5, 1) := by kernel_rfl
theorem eqKind_229 : eqKind Tryz.prog 229 = 5 := by kernel_rfl
theorem tyK_229 : tyK Tryz.prog 229 = some none := by kernel_rfl
theorem elemK_229 : elemK Tryz.prog 229 = none := by kernel_rfl
theorem eqKind_230 : eqKind Tryz.prog 230 = 0 := by kernel_rfl
theorem tyK_230 : tyK Tryz.prog 230 = some (some 4) := by kernel_rfl
theorem bldI_230 : bldI Tryz.prog 230 = some ([.pointer none, .pointer none, .pointer none, str []], [(0, 1), (1, 1), (2, 1), (3, 1)]) := by kernel_rfl
theorem elemK_230 : elemK Tryz.prog 230 = none := by kernel_rfl
theorem fieldK_230_0 : fieldK Tryz.prog 230 0 = some (0, none) := by kernel_rfl
theorem fieldK_230_1 : fieldK Tryz.prog 230 1 = some (1, none) := by kernel_rfl
theorem fieldK_230_2 : fieldK Tryz.prog 230 2 = some (2, none) := by kernel_rfl
theorem fieldK_230_3 : fieldK Tryz.prog 230 3 = some (3, none) := by kernel_rfl
theorem eqKind_231 : eqKind Tryz.prog 231 = 0 := by kernel_rfl
theorem tyK_231 : tyK Tryz.prog 231 = some (some 4) := by kernel_rfl
theorem bldI_231 : bldI Tryz.prog 231 = some ([.pointer none, .pointer none, .pointer none, str []], [(0, 1), (1, 1), (2, 1), (3, 1)]) := by kernel_rfl
theorem elemK_231 : elemK Tryz.prog 231 = none := by kernel_rfl
theorem fieldK_231_0 : fieldK Tryz.prog 231 0 = some (0, none) := by kernel_rfl
theorem fieldK_231_1 : fieldK Tryz.prog 231 1 = some (1, none) := by kernel_rfl
theorem fieldK_231_2 : fieldK Tryz.prog 231 2 = some (2, none) := by kernel_rfl
theorem fieldK_231_3 : fieldK Tryz.prog 231 3 = some (3, none) := by kernel_rfl
theorem eqKind_232 : eqKind Tryz.prog 232 = 0 := by kernel_rfl
theorem tyK_232 : tyK Tryz.prog 232 = some (some 0) := by kernel_rfl
theorem elemK_232 : elemK Tryz.prog 232 = none := by kernel_rfl
theorem arrK_232 : arrK Tryz.prog 232 = some (0, 16, 1) := by kernel_rfl
theorem eqKind_233 : eqKind Tryz.prog 233 = 0 := by kernel_rfl
theorem tyK_233 : tyK Tryz.prog 233 = some (some 0) := by kernel_rfl
theorem bldI_233 : bldI Tryz.prog 233 = some ([], [(0, 0)]) := by kernel_rfl
theorem elemK_233 : elemK Tryz.prog 233 = none := by kernel_rfl
theorem eqKind_234 : eqKind Tryz.prog 234 = 0 := by kernel_rfl
theorem tyK_234 : tyK Tryz.prog 234 = some (some 0) := by kernel_rfl
theorem bldI_234 : bldI Tryz.prog 234 = some ([], [(0, 0)]) := by kernel_rfl
theorem elemK_234 : elemK Tryz.prog 234 = none := by kernel_rfl
theorem eqKind_235 : eqKind Tryz.prog 235 = 5 := by kernel_rfl
theorem tyK_235 : tyK Tryz.prog 235 = some none := by kernel_rfl
theorem elemK_235 : elemK Tryz.prog 235 = none := by kernel_rfl
theorem eqKind_236 : eqKind Tryz.prog 236 = 5 := by kernel_rfl
theorem tyK_236 : tyK Tryz.prog 236 = some none := by kernel_rfl
theorem elemK_236 : elemK Tryz.prog 236 = none := by kernel_rfl
theorem eqKind_237 : eqKind Tryz.prog 237 = 0 := by kernel_rfl
theorem tyK_237 : tyK Tryz.prog 237 = some none := by kernel_rfl
theorem elemK_237 : elemK Tryz.prog 237 = none := by kernel_rfl
theorem eqKind_238 : eqKind Tryz.prog 238 = 5 := by kernel_rfl
theorem tyK_238 : tyK Tryz.prog 238 = some none := by kernel_rfl
theorem elemK_238 : elemK Tryz.prog 238 = none := by kernel_rfl
theorem eqKind_239 : eqKind Tryz.prog 239 = 0 := by kernel_rfl
theorem tyK_239 : tyK Tryz.prog 239 = some none := by kernel_rfl
theorem elemK_239 : elemK Tryz.prog 239 = none := by kernel_rfl
theorem eqKind_240 : eqKind Tryz.prog 240 = 0 := by kernel_rfl
theorem tyK_240 : tyK Tryz.prog 240 = some none := by kernel_rfl
theorem elemK_240 : elemK Tryz.prog 240 = none := by kernel_rfl
theorem eqKind_241 : eqKind Tryz.prog 241 = 0 := by kernel_rfl
theorem tyK_241 : tyK Tryz.prog 241 = some (some 11) := by kernel_rfl
theorem bldI_241 : bldI Tryz.prog 241 = some ([.int .u64 0, .int .u64 0, .int .u32 0, .int .u8 0, .int .u8 0, .int .u8 0, .int .u8 0, .nilFunc, .pointer none, .int .i32 0, .int .i32 0], [(0, 1), (1, 1), (2, 1), (3, 1), (4, 1), (5, 1), (6, 1), (7, 1), (8, 1), (9, 1), (10, 1)]) := by kernel_rfl
theorem elemK_241 : elemK Tryz.prog 241 = none := by kernel_rfl
theorem fieldK_241_0 : fieldK Tryz.prog 241 0 = some (0, none) := by kernel_rfl
theorem fieldK_241_1 : fieldK Tryz.prog 241 1 = some (1, none) := by kernel_rfl
theorem fieldK_241_2 : fieldK Tryz.prog 241 2 = some (2, none) := by kernel_rfl
theorem fieldK_241_3 : fieldK Tryz.prog 241 3 = some (3, none) := by kernel_rfl
theorem fieldK_241_4 : fieldK Tryz.prog 241 4 = some (4, none) := by kernel_rfl
theorem fieldK_241_5 : fieldK Tryz.prog 241 5 = some (5, none) := by kernel_rfl
theorem fieldK_241_6 : fieldK Tryz.prog 241 6 = some (6, none) := by kernel_rfl
theorem fieldK_241_7 : fieldK Tryz.prog 241 7 = some (7, none) := by kernel_rfl
theorem fieldK_241_8 : fieldK Tryz.prog 241 8 = some (8, none) := by kernel_rfl
theorem fieldK_241_9 : fieldK Tryz.prog 241 9 = some (9, none) := by kernel_rfl
theorem fieldK_241_10 : fieldK Tryz.prog 241 10 = some (10, none) := by kernel_rfl
theorem eqKind_242 : eqKind Tryz.prog 242 = 0 := by kernel_rfl
theorem tyK_242 : tyK Tryz.prog 242 = some (some 11) := by kernel_rfl
theorem bldI_242 : bldI Tryz.prog 242 = some ([.int .u64 0, .int .u64 0, .int .u32 0, .int .u8 0, .int .u8 0, .int .u8 0, .int .u8 0, .nilFunc, .pointer none, .int .i32 0, .int .i32 0], [(0, 1), (1, 1), (2, 1), (3, 1), (4, 1), (5, 1), (6, 1), (7, 1), (8, 1), (9, 1), (10, 1)]) := by kernel_rfl
theorem elemK_242 : elemK Tryz.prog 242 = none := by kernel_rfl
theorem fieldK_242_0 : fieldK Tryz.prog 242 0 = some (0, none) := by kernel_rfl
theorem fieldK_242_1 : fieldK Tryz.prog 242 1 = some (1, none) := by kernel_rfl
theorem fieldK_242_2 : fieldK Tryz.prog 242 2 = some (2, none) := by kernel_rfl
theorem fieldK_242_3 : fieldK Tryz.prog 242 3 = some (3, none) := by kernel_rfl
theorem fieldK_242_4 : fieldK Tryz.prog 242 4 = some (4, none) := by kernel_rfl
theorem fieldK_242_5 : fieldK Tryz.prog 242 5 = some (5, none) := by kernel_rfl
theorem fieldK_242_6 : fieldK Tryz.prog 242 6 = some (6, none) := by kernel_rfl
theorem fieldK_242_7 : fieldK Tryz.prog 242 7 = some (7, none) := by kernel_rfl
theorem fieldK_242_8 : fieldK Tryz.prog 242 8 = some (8, none) := by kernel_rfl
theorem fieldK_242_9 : fieldK Tryz.prog 242 9 = some (9, none) := by kernel_rfl
theorem fieldK_242_10 : fieldK Tryz.prog 242 10 = some (10, none) := by kernel_rfl
theorem eqKind_243 : eqKind Tryz.prog 243 = 5 := by kernel_rfl
theorem tyK_243 : tyK Tryz.prog 243 = some none := by kernel_rfl
theorem elemK_243 : elemK Tryz.prog 243 = none := by kernel_rfl
theorem eqKind_244 : eqKind Tryz.prog 244 = 5 := by kernel_rfl
theorem tyK_244 : tyK Tryz.prog 244 = some none := by kernel_rfl
theorem elemK_244 : elemK Tryz.prog 244 = none := by kernel_rfl
theorem eqKind_245 : eqKind Tryz.prog 245 = 0 := by kernel_rfl
theorem tyK_245 : tyK Tryz.prog 245 = some (some 2) := by kernel_rfl
theorem bldI_245 : bldI Tryz.prog 245 = some ([str [], .int .u8 0], [(0, 1), (1, 1)]) := by kernel_rfl
theorem elemK_245 : elemK Tryz.prog 245 = none := by kernel_rfl
theorem fieldK_245_0 : fieldK Tryz.prog 245 0 = some (0, none) := by kernel_rfl
theorem fieldK_245_1 : fieldK Tryz.prog 245 1 = some (1, none) := by kernel_rfl
theorem eqKind_246 : eqKind Tryz.prog 246 = 0 := by kernel_rfl
theorem tyK_246 : tyK Tryz.prog 246 = some (some 2) := by kernel_rfl
theorem bldI_246 : bldI Tryz.prog 246 = some ([str [], .int .u8 0], [(0, 1), (1, 1)]) := by kernel_rfl
theorem elemK_246 : elemK Tryz.prog 246 = none := by kernel_rfl
theorem fieldK_246_0 : fieldK Tryz.prog 246 0 = some (0, none) := by kernel_rfl
theorem fieldK_246_1 : fieldK Tryz.prog 246 1 = some (1, none) := by kernel_rfl
theorem eqKind_247 : eqKind Tryz.prog 247 = 2 := by kernel_rfl
theorem tyK_247 : tyK Tryz.prog 247 = some none := by kernel_rfl
theorem elemK_247 : elemK Tryz.prog 247 = none := by kernel_rfl
theorem eqKind_248 : eqKind Tryz.prog 248 = 5 := by kernel_rfl
theorem tyK_248 : tyK Tryz.prog 248 = some none := by kernel_rfl
theorem elemK_248 : elemK Tryz.prog 248 = none := by kernel_rfl
theorem eqKind_249 : eqKind Tryz.prog 249 = 0 := by kernel_rfl
theorem tyK_249 : tyK Tryz.prog 249 = some (some 5) := by kernel_rfl
theorem bldI_249 : bldI Tryz.prog 249 = some ([.int .i32 0, .int .u16 0, .int .u16 0, .int .u32 0, .int .u32 0], [(0, 1), (1, 1), (2, 1), (3, 1), (4, 1)]) := by kernel_rfl
theorem elemK_249 : elemK Tryz.prog 249 = none := by kernel_rfl
theorem fieldK_249_0 : fieldK Tryz.prog 249 0 = some (0, none) := by kernel_rfl
theorem fieldK_249_1 : fieldK Tryz.prog 249 1 = some (1, none) := by kernel_rfl
theorem fieldK_249_2 : fieldK Tryz.prog 249 2 = some (2, none) := by kernel_rfl
theorem fieldK_249_3 : fieldK Tryz.prog 249 3 = some (3, none) := by kernel_rfl
theorem fieldK_249_4 : fieldK Tryz.prog 249 4 = some (4, none) := by kernel_rfl
theorem eqKind_250 : eqKind Tryz.prog 250 = 0 := by kernel_rfl
theorem tyK_250 : tyK Tryz.prog 250 = some (some 5) := by kernel_rfl
theorem bldI_250 : bldI Tryz.prog 250 = some ([.int .i32 0, .int .u16 0, .int .u16 0, .int .u32 0, .int .u32 0], [(0, 1), (1, 1), (2, 1), (3, 1), (4, 1)]) := by kernel_rfl
theorem elemK_250 : elemK Tryz.prog 250 = none := by kernel_rfl
theorem fieldK_250_0 : fieldK Tryz.prog 250 0 = some (0, none) := by kernel_rfl
theorem fieldK_250_1 : fieldK Tryz.prog 250 1 = some (1, none) := by kernel_rfl
theorem fieldK_250_2 : fieldK Tryz.prog 250 2 = some (2, none) := by kernel_rfl
theorem fieldK_250_3 : fieldK Tryz.prog 250 3 = some (3, none) := by kernel_rfl
theorem fieldK_250_4 : fieldK Tryz.prog 250 4 = some (4, none) := by kernel_rfl
theorem eqKind_251 : eqKind Tryz.prog 251 = 3 := by kernel_rfl
theorem tyK_251 : tyK Tryz.prog 251 = some none := by kernel_rfl
theorem elemK_251 : elemK Tryz.prog 251 = some (254, 4) := by kernel_rfl
theorem elI_251 : elI Tryz.prog 251 = some (254, 4, 16) := by kernel_rfl
theorem eqKind_252 : eqKind Tryz.prog 252 = 0 := by kernel_rfl
theorem tyK_252 : tyK Tryz.prog 252 = some none := by kernel_rfl
theorem elemK_252 : elemK Tryz.prog 252 = none := by kernel_rfl
theorem eqKind_253 : eqKind Tryz.prog 253 = 0 := by kernel_rfl
theorem tyK_253 : tyK Tryz.prog 253 = some (some 4) := by kernel_rfl
theorem bldI_253 : bldI Tryz.prog 253 = some ([.int .i32 0, .int .i32 0, .int .i32 0, .int .i32 0], [(0, 1), (1, 1), (2, 1), (3, 1)]) := by kernel_rfl
theorem elemK_253 : elemK Tryz.prog 253 = none := by kernel_rfl
theorem fieldK_253_0 : fieldK Tryz.prog 253 0 = some (0, none) := by kernel_rfl
theorem fieldK_253_1 : fieldK Tryz.prog 253 1 = some (1, none) := by kernel_rfl
theorem fieldK_253_2 : fieldK Tryz.prog 253 2 = some (2, none) := by kernel_rfl
theorem fieldK_253_3 : fieldK Tryz.prog 253 3 = some (3, none) := by kernel_rfl
theorem eqKind_254 : eqKind Tryz.prog 254 = 0 := by kernel_rfl
theorem tyK_254 : tyK Tryz.prog 254 = some (some 4) := by kernel_rfl
theorem bldI_254 : bldI Tryz.prog 254 = some ([.int .i32 0, .int .i32 0, .int .i32 0, .int .i32 0], [(0, 1), (1, 1), (2, 1), (3, 1)]) := by kernel_rfl
theorem elemK_254 : elemK Tryz.prog 254 = none := by kernel_rfl
theorem fieldK_254_0 : fieldK Tryz.prog 254 0 = some (0, none) := by kernel_rfl
theorem fieldK_254_1 : fieldK Tryz.prog 254 1 = some (1, none) := by kernel_rfl
theorem fieldK_254_2 : fieldK Tryz.prog 254 2 = some (2, none) := by kernel_rfl
theorem fieldK_254_3 : fieldK Tryz.prog 254 3 = some (3, none) := by kernel_rfl
theorem eqKind_255 : eqKind Tryz.prog 255 = 2 := by kernel_rfl
theorem tyK_255 : tyK Tryz.prog 255 = some none := by kernel_rfl
theorem elemK_255 : elemK Tryz.prog 255 = none := by kernel_rfl
theorem mixed : Tryz.prog.follows .mixedOrders = true := by kernel_rfl
attribute [push_cast] eqKind_0 tyK_0 elemK_0 eqKind_1 tyK_1 elemK_1 Tryz.underlying1 eqKind_2 tyK_2 elemK_2 Tryz.underlying2 eqKind_3 tyK_3 elemK_3 Tryz.underlying3 eqKind_4 tyK_4 elemK_4 Tryz.underlying4 eqKind_5 tyK_5 elemK_5 Tryz.underlying5 eqKind_6 tyK_6 elemK_6 Tryz.underlying6 eqKind_7 tyK_7 bldI_7 elemK_7 fieldK_7_0 fieldK_7_1 fieldK_7_2 fieldK_7_3 eqKind_8 tyK_8 bldI_8 elemK_8 fieldK_8_0 fieldK_8_1 fieldK_8_2 fieldK_8_3 eqKind_9 tyK_9 elemK_9 Tryz.underlying9 eqKind_10 tyK_10 elemK_10 Tryz.underlying10 eqKind_11 tyK_11 elemK_11 Tryz.underlying11 eqKind_12 tyK_12 elemK_12 Tryz.underlying12 eqKind_13 tyK_13 bldI_13 elemK_13 fieldK_13_0 fieldK_13_1 eqKind_14 tyK_14 bldI_14 elemK_14 fieldK_14_0 fieldK_14_1 eqKind_15 tyK_15 elemK_15 Tryz.underlying15 eqKind_16 tyK_16 elemK_16 Tryz.underlying16 eqKind_17 tyK_17 elemK_17 Tryz.underlying17 eqKind_18 tyK_18 bldI_18 elemK_18 fieldK_18_0 eqKind_19 tyK_19 bldI_19 elemK_19 fieldK_19_0 eqKind_20 tyK_20 elemK_20 eqKind_21 tyK_21 elemK_21 Tryz.underlying21 eqKind_22 tyK_22 elemK_22 Tryz.underlying22 eqKind_23 tyK_23 elemK_23 Tryz.underlying23 eqKind_24 tyK_24 elemK_24 Tryz.underlying24 eqKind_25 tyK_25 elemK_25 Tryz.underlying25 eqKind_26 tyK_26 elemK_26 Tryz.underlying26 eqKind_27 tyK_27 elemK_27 Tryz.underlying27 eqKind_28 tyK_28 elemK_28 Tryz.underlying28 eqKind_29 tyK_29 elemK_29 Tryz.underlying29 eqKind_30 tyK_30 elemK_30 Tryz.underlying30 eqKind_31 tyK_31 elemK_31 Tryz.underlying31 eqKind_32 tyK_32 elemK_32 eqKind_33 tyK_33 elemK_33 Tryz.underlying33 eqKind_34 tyK_34 elemK_34 eqKind_35 tyK_35 elemK_35 eqKind_36 tyK_36 elemK_36 eqKind_37 tyK_37 elemK_37 Tryz.underlying37 eqKind_38 tyK_38 elemK_38 Tryz.underlying38 eqKind_39 tyK_39 elemK_39 Tryz.underlying39 eqKind_40 tyK_40 elemK_40 Tryz.underlying40 eqKind_41 tyK_41 bldI_41 elemK_41 fieldK_41_0 fieldK_41_1 eqKind_42 tyK_42 bldI_42 elemK_42 fieldK_42_0 fieldK_42_1 eqKind_43 tyK_43 elemK_43 Tryz.underlying43 eqKind_44 tyK_44 elemK_44 Tryz.underlying44 eqKind_45 tyK_45 elemK_45 Tryz.underlying45 eqKind_46 tyK_46 elemK_46 Tryz.underlying46 eqKind_47 tyK_47 elemK_47 Tryz.underlying47 eqKind_48 tyK_48 elemK_48 Tryz.underlying48 eqKind_49 tyK_49 elemK_49 Tryz.underlying49 eqKind_50 tyK_50 elemK_50 eqKind_51 tyK_51 elemK_51 Tryz.underlying51 eqKind_52 tyK_52 elemK_52 Tryz.underlying52 eqKind_53 tyK_53 elemK_53 Tryz.underlying53 eqKind_54 tyK_54 elemK_54 Tryz.underlying54 eqKind_55 tyK_55 elemK_55 Tryz.underlying55 eqKind_56 tyK_56 elemK_56 Tryz.underlying56 eqKind_57 tyK_57 elemK_57 Tryz.underlying57 eqKind_58 tyK_58 elemK_58 eqKind_59 tyK_59 elemK_59 Tryz.underlying59 eqKind_60 tyK_60 elemK_60 eqKind_61 tyK_61 elemK_61 Tryz.underlying61 eqKind_62 tyK_62 elemK_62 Tryz.underlying62 eqKind_63 tyK_63 elemK_63 Tryz.underlying63 eqKind_64 tyK_64 elemK_64 Tryz.underlying64 eqKind_65 tyK_65 elemK_65 eqKind_66 tyK_66 elemK_66 Tryz.underlying66 eqKind_67 tyK_67 elemK_67 Tryz.underlying67 eqKind_68 tyK_68 bldI_68 elemK_68 fieldK_68_0 fieldK_68_1 eqKind_69 tyK_69 bldI_69 elemK_69 fieldK_69_0 fieldK_69_1 eqKind_70 tyK_70 elemK_70 Tryz.underlying70 eqKind_71 tyK_71 elemK_71 Tryz.underlying71 eqKind_72 tyK_72 elemK_72 Tryz.underlying72 eqKind_73 tyK_73 elemK_73 Tryz.underlying73 eqKind_74 tyK_74 elemK_74 Tryz.underlying74 eqKind_75 tyK_75 elemK_75 Tryz.underlying75 eqKind_76 tyK_76 elemK_76 Tryz.underlying76 eqKind_77 tyK_77 elemK_77 Tryz.underlying77 eqKind_78 tyK_78 elemK_78 Tryz.underlying78 eqKind_79 tyK_79 elemK_79 Tryz.underlying79 eqKind_80 tyK_80 elemK_80 Tryz.underlying80 eqKind_81 tyK_81 elemK_81 Tryz.underlying81 eqKind_82 tyK_82 elemK_82 arrK_82 eqKind_83 tyK_83 elemK_83 Tryz.underlying83 eqKind_84 tyK_84 elemK_84 Tryz.underlying84 eqKind_85 tyK_85 elemK_85 Tryz.underlying85 eqKind_86 tyK_86 elemK_86 arrK_86 eqKind_87 tyK_87 elemK_87 arrK_87 eqKind_88 tyK_88 elemK_88 eqKind_89 tyK_89 elemK_89 Tryz.underlying89 eqKind_90 tyK_90 elemK_90 Tryz.underlying90 eqKind_91 tyK_91 elemK_91 Tryz.underlying91 eqKind_92 tyK_92 elemK_92 Tryz.underlying92 eqKind_93 tyK_93 elemK_93 Tryz.underlying93 eqKind_94 tyK_94 elemK_94 Tryz.underlying94 eqKind_95 tyK_95 elemK_95 eqKind_96 tyK_96 elemK_96 Tryz.underlying96 eqKind_97 tyK_97 elemK_97 Tryz.underlying97 eqKind_98 tyK_98 elemK_98 Tryz.underlying98 eqKind_99 tyK_99 bldI_99 elemK_99 fieldK_99_0 fieldK_99_1 eqKind_100 tyK_100 bldI_100 elemK_100 fieldK_100_0 fieldK_100_1 eqKind_101 tyK_101 elemK_101 Tryz.underlying101 eqKind_102 tyK_102 elemK_102 eqKind_103 tyK_103 elemK_103 Tryz.underlying103 eqKind_104 tyK_104 elemK_104 Tryz.underlying104 eqKind_105 tyK_105 elemK_105 Tryz.underlying105 eqKind_106 tyK_106 elemK_106 Tryz.underlying106 eqKind_107 tyK_107 elemK_107 eqKind_108 tyK_108 elemK_108 Tryz.underlying108 eqKind_109 tyK_109 elemK_109 Tryz.underlying109 eqKind_110 tyK_110 elemK_110 Tryz.underlying110 eqKind_111 tyK_111 elemK_111 Tryz.underlying111 eqKind_112 tyK_112 elemK_112 Tryz.underlying112 eqKind_113 tyK_113 elemK_113 Tryz.underlying113 eqKind_114 tyK_114 elemK_114 Tryz.underlying114 eqKind_115 tyK_115 elemK_115 Tryz.underlying115 eqKind_116 tyK_116 elemK_116 Tryz.underlying116 eqKind_117 tyK_117 bldI_117 elemK_117 fieldK_117_0 fieldK_117_1 eqKind_118 tyK_118 bldI_118 elemK_118 fieldK_118_0 fieldK_118_1 eqKind_119 tyK_119 elemK_119 Tryz.underlying119 eqKind_120 tyK_120 elemK_120 Tryz.underlying120 eqKind_121 tyK_121 elemK_121 Tryz.underlying121 eqKind_122 tyK_122 elemK_122 eqKind_123 tyK_123 elemK_123 Tryz.underlying123 eqKind_124 tyK_124 elemK_124 Tryz.underlying124 eqKind_125 tyK_125 elemK_125 Tryz.underlying125 eqKind_126 tyK_126 elemK_126 Tryz.underlying126 eqKind_127 tyK_127 elemK_127 Tryz.underlying127 eqKind_128 tyK_128 elemK_128 eqKind_129 tyK_129 elemK_129 Tryz.underlying129 eqKind_130 tyK_130 elemK_130 Tryz.underlying130 eqKind_131 tyK_131 elemK_131 Tryz.underlying131 eqKind_132 tyK_132 elemK_132 Tryz.underlying132 eqKind_133 tyK_133 elemK_133 Tryz.underlying133 eqKind_134 tyK_134 elemK_134 Tryz.underlying134 eqKind_135 tyK_135 elemK_135 Tryz.underlying135 eqKind_136 tyK_136 elemK_136 Tryz.underlying136 eqKind_137 tyK_137 elemK_137 eqKind_138 tyK_138 bldI_138 elemK_138 fieldK_138_0 fieldK_138_1 eqKind_139 tyK_139 elemK_139 eqKind_140 tyK_140 elemK_140 eqKind_141 tyK_141 elemK_141 Tryz.underlying141 eqKind_142 tyK_142 elemK_142 Tryz.underlying142 eqKind_143 tyK_143 elemK_143 arrK_143 eqKind_144 tyK_144 elemK_144 Tryz.underlying144 eqKind_145 tyK_145 elemK_145 eqKind_146 tyK_146 elemK_146 Tryz.underlying146 eqKind_147 tyK_147 elemK_147 Tryz.underlying147 eqKind_148 tyK_148 elemK_148 Tryz.underlying148 eqKind_149 tyK_149 elemK_149 Tryz.underlying149 eqKind_150 tyK_150 elemK_150 Tryz.underlying150 eqKind_151 tyK_151 elemK_151 Tryz.underlying151 eqKind_152 tyK_152 elemK_152 Tryz.underlying152 eqKind_153 tyK_153 elemK_153 Tryz.underlying153 eqKind_154 tyK_154 elemK_154 Tryz.underlying154 eqKind_155 tyK_155 elemK_155 Tryz.underlying155 eqKind_156 tyK_156 bldI_156 elemK_156 fieldK_156_0 fieldK_156_1 fieldK_156_2 eqKind_157 tyK_157 bldI_157 elemK_157 fieldK_157_0 fieldK_157_1 fieldK_157_2 eqKind_158 tyK_158 elemK_158 Tryz.underlying158 eqKind_159 tyK_159 bldI_159 elemK_159 fieldK_159_0 fieldK_159_1 fieldK_159_2 eqKind_160 tyK_160 bldI_160 elemK_160 fieldK_160_0 fieldK_160_1 fieldK_160_2 eqKind_161 tyK_161 elemK_161 Tryz.underlying161 eqKind_162 tyK_162 bldI_162 elemK_162 fieldK_162_0 fieldK_162_1 fieldK_162_2 eqKind_163 tyK_163 bldI_163 elemK_163 fieldK_163_0 fieldK_163_1 fieldK_163_2 eqKind_164 tyK_164 elemK_164 Tryz.underlying164 eqKind_165 tyK_165 elemK_165 Tryz.underlying165 eqKind_166 tyK_166 elemK_166 Tryz.underlying166 eqKind_167 tyK_167 elemK_167 Tryz.underlying167 eqKind_168 tyK_168 elemK_168 Tryz.underlying168 eqKind_169 tyK_169 elemK_169 Tryz.underlying169 eqKind_170 tyK_170 bldI_170 elemK_170 fieldK_170_0 fieldK_170_1 fieldK_170_2 eqKind_171 tyK_171 bldI_171 elemK_171 fieldK_171_0 fieldK_171_1 fieldK_171_2 eqKind_172 tyK_172 elemK_172 Tryz.underlying172 eqKind_173 tyK_173 elemK_173 Tryz.underlying173 eqKind_174 tyK_174 elemK_174 Tryz.underlying174 eqKind_175 tyK_175 elemK_175 Tryz.underlying175 eqKind_176 tyK_176 elemK_176 eqKind_177 tyK_177 elemK_177 Tryz.underlying177 eqKind_178 tyK_178 elemK_178 Tryz.underlying178 eqKind_179 tyK_179 elemK_179 Tryz.underlying179 eqKind_180 tyK_180 elemK_180 arrK_180 eqKind_181 tyK_181 elemK_181 arrK_181 eqKind_182 tyK_182 elemK_182 Tryz.underlying182 eqKind_183 tyK_183 elemK_183 Tryz.underlying183 eqKind_184 tyK_184 elemK_184 Tryz.underlying184 eqKind_185 tyK_185 elemK_185 Tryz.underlying185 eqKind_186 tyK_186 elemK_186 Tryz.underlying186 eqKind_187 tyK_187 elemK_187 Tryz.underlying187 eqKind_188 tyK_188 elemK_188 Tryz.underlying188 eqKind_189 tyK_189 elemK_189 eqKind_190 tyK_190 elemK_190 Tryz.underlying190 eqKind_191 tyK_191 elemK_191 Tryz.underlying191 eqKind_192 tyK_192 elemK_192 Tryz.underlying192 eqKind_193 tyK_193 bldI_193 elemK_193 fieldK_193_0 fieldK_193_1 eqKind_194 tyK_194 bldI_194 elemK_194 fieldK_194_0 fieldK_194_1 eqKind_195 tyK_195 elemK_195 arrK_195 eqKind_196 tyK_196 elemK_196 Tryz.underlying196 eqKind_197 tyK_197 bldI_197 elemK_197 fieldK_197_0 eqKind_198 tyK_198 bldI_198 elemK_198 fieldK_198_0 eqKind_199 tyK_199 elemK_199 eqKind_200 tyK_200 elemK_200 Tryz.underlying200 eqKind_201 tyK_201 elemK_201 Tryz.underlying201 eqKind_202 tyK_202 bldI_202 elemK_202 fieldK_202_0 fieldK_202_1 fieldK_202_2 eqKind_203 tyK_203 bldI_203 elemK_203 fieldK_203_0 fieldK_203_1 fieldK_203_2 eqKind_204 tyK_204 elemK_204 Tryz.underlying204 eqKind_205 tyK_205 elemK_205 eqKind_206 tyK_206 elemK_206 eqKind_207 tyK_207 elemK_207 Tryz.underlying207 eqKind_208 tyK_208 elemK_208 Tryz.underlying208 eqKind_209 tyK_209 elemK_209 Tryz.underlying209 eqKind_210 tyK_210 elemK_210 Tryz.underlying210 eqKind_211 tyK_211 elemK_211 Tryz.underlying211 eqKind_212 tyK_212 elemK_212 Tryz.underlying212 eqKind_213 tyK_213 elemK_213 Tryz.underlying213 eqKind_214 tyK_214 elemK_214 Tryz.underlying214 eqKind_215 tyK_215 bldI_215 elemK_215 fieldK_215_0 eqKind_216 tyK_216 bldI_216 elemK_216 fieldK_216_0 eqKind_217 tyK_217 elemK_217 Tryz.underlying217 eqKind_218 tyK_218 elemK_218 Tryz.underlying218 eqKind_219 tyK_219 elemK_219 Tryz.underlying219 eqKind_220 tyK_220 elemK_220 Tryz.underlying220 eqKind_221 tyK_221 elemK_221 eqKind_222 tyK_222 elemK_222 eqKind_223 tyK_223 elemK_223 Tryz.underlying223 eqKind_224 tyK_224 elemK_224 eqKind_225 tyK_225 elemK_225 Tryz.underlying225 eqKind_226 tyK_226 elemK_226 Tryz.underlying226 eqKind_227 tyK_227 elemK_227 arrK_227 eqKind_228 tyK_228 elemK_228 arrK_228 eqKind_229 tyK_229 elemK_229 Tryz.underlying229 eqKind_230 tyK_230 bldI_230 elemK_230 fieldK_230_0 fieldK_230_1 fieldK_230_2 fieldK_230_3 eqKind_231 tyK_231 bldI_231 elemK_231 fieldK_231_0 fieldK_231_1 fieldK_231_2 fieldK_231_3 eqKind_232 tyK_232 elemK_232 arrK_232 eqKind_233 tyK_233 bldI_233 elemK_233 eqKind_234 tyK_234 bldI_234 elemK_234 eqKind_235 tyK_235 elemK_235 Tryz.underlying235 eqKind_236 tyK_236 elemK_236 Tryz.underlying236 eqKind_237 tyK_237 elemK_237 Tryz.underlying237 eqKind_238 tyK_238 elemK_238 Tryz.underlying238 eqKind_239 tyK_239 elemK_239 Tryz.underlying239 eqKind_240 tyK_240 elemK_240 Tryz.underlying240 eqKind_241 tyK_241 bldI_241 elemK_241 fieldK_241_0 fieldK_241_1 fieldK_241_2 fieldK_241_3 fieldK_241_4 fieldK_241_5 fieldK_241_6 fieldK_241_7 fieldK_241_8 fieldK_241_9 fieldK_241_10 eqKind_242 tyK_242 bldI_242 elemK_242 fieldK_242_0 fieldK_242_1 fieldK_242_2 fieldK_242_3 fieldK_242_4 fieldK_242_5 fieldK_242_6 fieldK_242_7 fieldK_242_8 fieldK_242_9 fieldK_242_10 eqKind_243 tyK_243 elemK_243 Tryz.underlying243 eqKind_244 tyK_244 elemK_244 Tryz.underlying244 eqKind_245 tyK_245 bldI_245 elemK_245 fieldK_245_0 fieldK_245_1 eqKind_246 tyK_246 bldI_246 elemK_246 fieldK_246_0 fieldK_246_1 eqKind_247 tyK_247 elemK_247 Tryz.underlying247 eqKind_248 tyK_248 elemK_248 Tryz.underlying248 eqKind_249 tyK_249 bldI_249 elemK_249 fieldK_249_0 fieldK_249_1 fieldK_249_2 fieldK_249_3 fieldK_249_4 eqKind_250 tyK_250 bldI_250 elemK_250 fieldK_250_0 fieldK_250_1 fieldK_250_2 fieldK_250_3 fieldK_250_4 eqKind_251 tyK_251 elemK_251 Tryz.underlying251 eqKind_252 tyK_252 elemK_252 Tryz.underlying252 eqKind_253 tyK_253 bldI_253 elemK_253 fieldK_253_0 fieldK_253_1 fieldK_253_2 fieldK_253_3 eqKind_254 tyK_254 bldI_254 elemK_254 fieldK_254_0 fieldK_254_1 fieldK_254_2 fieldK_254_3 eqKind_255 tyK_255 elemK_255 Tryz.underlying255
end Go.Proofs.YtplbgmoeannobaaGreatDoor
