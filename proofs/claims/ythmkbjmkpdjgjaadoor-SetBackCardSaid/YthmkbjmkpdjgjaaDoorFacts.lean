import Derived.Test.YthmkbjmkpdjgjaaDoorV
import Derived.Test.YthmkbjmkpdjgjaaDoorProg
namespace Go.Proofs.YthmkbjmkpdjgjaaDoor
open Go.Vc Go.Proofs
theorem eqKind_0 : eqKind Tryd.prog 0 = 0 := by kernel_rfl
theorem tyK_0 : tyK Tryd.prog 0 = some none := by kernel_rfl
theorem elemK_0 : elemK Tryd.prog 0 = none := by kernel_rfl
theorem eqKind_1 : eqKind Tryd.prog 1 = 5 := by kernel_rfl
theorem tyK_1 : tyK Tryd.prog 1 = some none := by kernel_rfl
theorem elemK_1 : elemK Tryd.prog 1 = none := by kernel_rfl
theorem eqKind_2 : eqKind Tryd.prog 2 = 0 := by kernel_rfl
theorem tyK_2 : tyK Tryd.prog 2 = some none := by kernel_rfl
theorem elemK_2 : elemK Tryd.prog 2 = none := by kernel_rfl
theorem eqKind_3 : eqKind Tryd.prog 3 = 0 := by kernel_rfl
theorem tyK_3 : tyK Tryd.prog 3 = some none := by kernel_rfl
theorem elemK_3 : elemK Tryd.prog 3 = none := by kernel_rfl
theorem eqKind_4 : eqKind Tryd.prog 4 = 6 := by kernel_rfl
theorem tyK_4 : tyK Tryd.prog 4 = some none := by kernel_rfl
theorem elemK_4 : elemK Tryd.prog 4 = none := by kernel_rfl
theorem eqKind_5 : eqKind Tryd.prog 5 = 0 := by kernel_rfl
theorem tyK_5 : tyK Tryd.prog 5 = some none := by kernel_rfl
theorem elemK_5 : elemK Tryd.prog 5 = none := by kernel_rfl
theorem eqKind_6 : eqKind Tryd.prog 6 = 0 := by kernel_rfl
theorem tyK_6 : tyK Tryd.prog 6 = some none := by kernel_rfl
theorem elemK_6 : elemK Tryd.prog 6 = none := by kernel_rfl
theorem eqKind_7 : eqKind Tryd.prog 7 = 0 := by kernel_rfl
theorem tyK_7 : tyK Tryd.prog 7 = some (some 4) := by kernel_rfl
theorem bldI_7 : bldI Tryd.prog 7 = some ([.int .i64 0, .int .i64 0, .bool false, .int .u8 0], [(0, 1), (1, 1), (2, 1), (3, 1)]) := by kernel_rfl
theorem elemK_7 : elemK Tryd.prog 7 = none := by kernel_rfl
theorem fieldK_7_0 : fieldK Tryd.prog 7 0 = some (0, none) := by kernel_rfl
theorem fieldK_7_1 : fieldK Tryd.prog 7 1 = some (1, none) := by kernel_rfl
theorem fieldK_7_2 : fieldK Tryd.prog 7 2 = some (2, none) := by kernel_rfl
theorem fieldK_7_3 : fieldK Tryd.prog 7 3 = some (3, none) := by kernel_rfl
theorem eqKind_8 : eqKind Tryd.prog 8 = 0 := by kernel_rfl
theorem tyK_8 : tyK Tryd.prog 8 = some (some 4) := by kernel_rfl
theorem bldI_8 : bldI Tryd.prog 8 = some ([.int .i64 0, .int .i64 0, .bool false, .int .u8 0], [(0, 1), (1, 1), (2, 1), (3, 1)]) := by kernel_rfl
theorem elemK_8 : elemK Tryd.prog 8 = none := by kernel_rfl
theorem fieldK_8_0 : fieldK Tryd.prog 8 0 = some (0, none) := by kernel_rfl
theorem fieldK_8_1 : fieldK Tryd.prog 8 1 = some (1, none) := by kernel_rfl
theorem fieldK_8_2 : fieldK Tryd.prog 8 2 = some (2, none) := by kernel_rfl
theorem fieldK_8_3 : fieldK Tryd.prog 8 3 = some (3, none) := by kernel_rfl
theorem eqKind_9 : eqKind Tryd.prog 9 = 0 := by kernel_rfl
theorem tyK_9 : tyK Tryd.prog 9 = some none := by kernel_rfl
theorem elemK_9 : elemK Tryd.prog 9 = none := by kernel_rfl
theorem eqKind_10 : eqKind Tryd.prog 10 = 0 := by kernel_rfl
theorem tyK_10 : tyK Tryd.prog 10 = some none := by kernel_rfl
theorem elemK_10 : elemK Tryd.prog 10 = none := by kernel_rfl
theorem eqKind_11 : eqKind Tryd.prog 11 = 0 := by kernel_rfl
theorem tyK_11 : tyK Tryd.prog 11 = some none := by kernel_rfl
theorem elemK_11 : elemK Tryd.prog 11 = none := by kernel_rfl
theorem eqKind_12 : eqKind Tryd.prog 12 = 0 := by kernel_rfl
theorem tyK_12 : tyK Tryd.prog 12 = some none := by kernel_rfl
theorem elemK_12 : elemK Tryd.prog 12 = none := by kernel_rfl
theorem eqKind_13 : eqKind Tryd.prog 13 = 0 := by kernel_rfl
theorem tyK_13 : tyK Tryd.prog 13 = some (some 2) := by kernel_rfl
theorem bldI_13 : bldI Tryd.prog 13 = some ([str [], .int .u64 0], [(0, 1), (1, 1)]) := by kernel_rfl
theorem elemK_13 : elemK Tryd.prog 13 = none := by kernel_rfl
theorem fieldK_13_0 : fieldK Tryd.prog 13 0 = some (0, none) := by kernel_rfl
theorem fieldK_13_1 : fieldK Tryd.prog 13 1 = some (1, none) := by kernel_rfl
theorem eqKind_14 : eqKind Tryd.prog 14 = 0 := by kernel_rfl
theorem tyK_14 : tyK Tryd.prog 14 = some (some 2) := by kernel_rfl
theorem bldI_14 : bldI Tryd.prog 14 = some ([str [], .int .u64 0], [(0, 1), (1, 1)]) := by kernel_rfl
theorem elemK_14 : elemK Tryd.prog 14 = none := by kernel_rfl
theorem fieldK_14_0 : fieldK Tryd.prog 14 0 = some (0, none) := by kernel_rfl
theorem fieldK_14_1 : fieldK Tryd.prog 14 1 = some (1, none) := by kernel_rfl
theorem eqKind_15 : eqKind Tryd.prog 15 = 2 := by kernel_rfl
theorem tyK_15 : tyK Tryd.prog 15 = some none := by kernel_rfl
theorem elemK_15 : elemK Tryd.prog 15 = none := by kernel_rfl
theorem eqKind_16 : eqKind Tryd.prog 16 = 2 := by kernel_rfl
theorem tyK_16 : tyK Tryd.prog 16 = some none := by kernel_rfl
theorem elemK_16 : elemK Tryd.prog 16 = none := by kernel_rfl
theorem eqKind_17 : eqKind Tryd.prog 17 = 2 := by kernel_rfl
theorem tyK_17 : tyK Tryd.prog 17 = some none := by kernel_rfl
theorem elemK_17 : elemK Tryd.prog 17 = none := by kernel_rfl
theorem eqKind_18 : eqKind Tryd.prog 18 = 0 := by kernel_rfl
theorem tyK_18 : tyK Tryd.prog 18 = some (some 1) := by kernel_rfl
theorem bldI_18 : bldI Tryd.prog 18 = some ([.pointer none], [(0, 1)]) := by kernel_rfl
theorem elemK_18 : elemK Tryd.prog 18 = none := by kernel_rfl
theorem fieldK_18_0 : fieldK Tryd.prog 18 0 = some (0, none) := by kernel_rfl
theorem eqKind_19 : eqKind Tryd.prog 19 = 0 := by kernel_rfl
theorem tyK_19 : tyK Tryd.prog 19 = some (some 1) := by kernel_rfl
theorem bldI_19 : bldI Tryd.prog 19 = some ([.pointer none], [(0, 1)]) := by kernel_rfl
theorem elemK_19 : elemK Tryd.prog 19 = none := by kernel_rfl
theorem fieldK_19_0 : fieldK Tryd.prog 19 0 = some (0, none) := by kernel_rfl
theorem eqKind_20 : eqKind Tryd.prog 20 = 1 := by kernel_rfl
theorem tyK_20 : tyK Tryd.prog 20 = some none := by kernel_rfl
theorem elemK_20 : elemK Tryd.prog 20 = none := by kernel_rfl
theorem eqKind_21 : eqKind Tryd.prog 21 = 0 := by kernel_rfl
theorem tyK_21 : tyK Tryd.prog 21 = some none := by kernel_rfl
theorem elemK_21 : elemK Tryd.prog 21 = none := by kernel_rfl
theorem eqKind_22 : eqKind Tryd.prog 22 = 3 := by kernel_rfl
theorem tyK_22 : tyK Tryd.prog 22 = some none := by kernel_rfl
theorem elemK_22 : elemK Tryd.prog 22 = some (29, 2) := by kernel_rfl
theorem elI_22 : elI Tryd.prog 22 = some (29, 2, 16) := by kernel_rfl
theorem eqKind_23 : eqKind Tryd.prog 23 = 5 := by kernel_rfl
theorem tyK_23 : tyK Tryd.prog 23 = some none := by kernel_rfl
theorem elemK_23 : elemK Tryd.prog 23 = none := by kernel_rfl
theorem eqKind_24 : eqKind Tryd.prog 24 = 3 := by kernel_rfl
theorem tyK_24 : tyK Tryd.prog 24 = some none := by kernel_rfl
theorem elemK_24 : elemK Tryd.prog 24 = some (29, 2) := by kernel_rfl
theorem elI_24 : elI Tryd.prog 24 = some (29, 2, 16) := by kernel_rfl
theorem eqKind_25 : eqKind Tryd.prog 25 = 5 := by kernel_rfl
theorem tyK_25 : tyK Tryd.prog 25 = some none := by kernel_rfl
theorem elemK_25 : elemK Tryd.prog 25 = none := by kernel_rfl
theorem eqKind_26 : eqKind Tryd.prog 26 = 5 := by kernel_rfl
theorem tyK_26 : tyK Tryd.prog 26 = some none := by kernel_rfl
theorem elemK_26 : elemK Tryd.prog 26 = none := by kernel_rfl
theorem eqKind_27 : eqKind Tryd.prog 27 = 5 := by kernel_rfl
theorem tyK_27 : tyK Tryd.prog 27 = some none := by kernel_rfl
theorem elemK_27 : elemK Tryd.prog 27 = none := by kernel_rfl
theorem eqKind_28 : eqKind Tryd.prog 28 = 9 := by kernel_rfl
theorem tyK_28 : tyK Tryd.prog 28 = some (some 2) := by kernel_rfl
theorem bldI_28 : bldI Tryd.prog 28 = some ([.int .i64 0, .int .i64 0], [(0, 1), (1, 1)]) := by kernel_rfl
theorem elemK_28 : elemK Tryd.prog 28 = none := by kernel_rfl
theorem fieldK_28_0 : fieldK Tryd.prog 28 0 = some (0, none) := by kernel_rfl
theorem fieldK_28_1 : fieldK Tryd.prog 28 1 = some (1, none) := by kernel_rfl
theorem eqKind_29 : eqKind Tryd.prog 29 = 9 := by kernel_rfl
theorem tyK_29 : tyK Tryd.prog 29 = some (some 2) := by kernel_rfl
theorem bldI_29 : bldI Tryd.prog 29 = some ([.int .i64 0, .int .i64 0], [(0, 1), (1, 1)]) := by kernel_rfl
theorem elemK_29 : elemK Tryd.prog 29 = none := by kernel_rfl
theorem fieldK_29_0 : fieldK Tryd.prog 29 0 = some (0, none) := by kernel_rfl
theorem fieldK_29_1 : fieldK Tryd.prog 29 1 = some (1, none) := by kernel_rfl
theorem eqKind_30 : eqKind Tryd.prog 30 = 5 := by kernel_rfl
theorem tyK_30 : tyK Tryd.prog 30 = some none := by kernel_rfl
theorem elemK_30 : elemK Tryd.prog 30 = none := by kernel_rfl
theorem eqKind_31 : eqKind Tryd.prog 31 = 5 := by kernel_rfl
theorem tyK_31 : tyK Tryd.prog 31 = some none := by kernel_rfl
theorem elemK_31 : elemK Tryd.prog 31 = none := by kernel_rfl
theorem eqKind_32 : eqKind Tryd.prog 32 = 5 := by kernel_rfl
theorem tyK_32 : tyK Tryd.prog 32 = some none := by kernel_rfl
theorem elemK_32 : elemK Tryd.prog 32 = none := by kernel_rfl
theorem eqKind_33 : eqKind Tryd.prog 33 = 5 := by kernel_rfl
theorem tyK_33 : tyK Tryd.prog 33 = some none := by kernel_rfl
theorem elemK_33 : elemK Tryd.prog 33 = none := by kernel_rfl
theorem eqKind_34 : eqKind Tryd.prog 34 = 5 := by kernel_rfl
theorem tyK_34 : tyK Tryd.prog 34 = some none := by kernel_rfl
theorem elemK_34 : elemK Tryd.prog 34 = none := by kernel_rfl
theorem eqKind_35 : eqKind Tryd.prog 35 = 5 := by kernel_rfl
theorem tyK_35 : tyK Tryd.prog 35 = some none := by kernel_rfl
theorem elemK_35 : elemK Tryd.prog 35 = none := by kernel_rfl
theorem eqKind_36 : eqKind Tryd.prog 36 = 5 := by kernel_rfl
theorem tyK_36 : tyK Tryd.prog 36 = some none := by kernel_rfl
theorem elemK_36 : elemK Tryd.prog 36 = none := by kernel_rfl
theorem eqKind_37 : eqKind Tryd.prog 37 = 1 := by kernel_rfl
theorem tyK_37 : tyK Tryd.prog 37 = some none := by kernel_rfl
theorem elemK_37 : elemK Tryd.prog 37 = none := by kernel_rfl
theorem eqKind_38 : eqKind Tryd.prog 38 = 1 := by kernel_rfl
theorem tyK_38 : tyK Tryd.prog 38 = some none := by kernel_rfl
theorem elemK_38 : elemK Tryd.prog 38 = none := by kernel_rfl
theorem eqKind_39 : eqKind Tryd.prog 39 = 0 := by kernel_rfl
theorem tyK_39 : tyK Tryd.prog 39 = some none := by kernel_rfl
theorem elemK_39 : elemK Tryd.prog 39 = none := by kernel_rfl
theorem eqKind_40 : eqKind Tryd.prog 40 = 5 := by kernel_rfl
theorem tyK_40 : tyK Tryd.prog 40 = some none := by kernel_rfl
theorem elemK_40 : elemK Tryd.prog 40 = none := by kernel_rfl
theorem eqKind_41 : eqKind Tryd.prog 41 = 5 := by kernel_rfl
theorem tyK_41 : tyK Tryd.prog 41 = some none := by kernel_rfl
theorem elemK_41 : elemK Tryd.prog 41 = none := by kernel_rfl
theorem eqKind_42 : eqKind Tryd.prog 42 = 5 := by kernel_rfl
theorem tyK_42 : tyK Tryd.prog 42 = some none := by kernel_rfl
theorem elemK_42 : elemK Tryd.prog 42 = none := by kernel_rfl
theorem eqKind_43 : eqKind Tryd.prog 43 = 5 := by kernel_rfl
theorem tyK_43 : tyK Tryd.prog 43 = some none := by kernel_rfl
theorem elemK_43 : elemK Tryd.prog 43 = none := by kernel_rfl
theorem eqKind_44 : eqKind Tryd.prog 44 = 5 := by kernel_rfl
theorem tyK_44 : tyK Tryd.prog 44 = some none := by kernel_rfl
theorem elemK_44 : elemK Tryd.prog 44 = none := by kernel_rfl
theorem eqKind_45 : eqKind Tryd.prog 45 = 5 := by kernel_rfl
theorem tyK_45 : tyK Tryd.prog 45 = some none := by kernel_rfl
theorem elemK_45 : elemK Tryd.prog 45 = none := by kernel_rfl
theorem eqKind_46 : eqKind Tryd.prog 46 = 5 := by kernel_rfl
theorem tyK_46 : tyK Tryd.prog 46 = some none := by kernel_rfl
theorem elemK_46 : elemK Tryd.prog 46 = none := by kernel_rfl
theorem eqKind_47 : eqKind Tryd.prog 47 = 0 := by kernel_rfl
theorem tyK_47 : tyK Tryd.prog 47 = some none := by kernel_rfl
theorem elemK_47 : elemK Tryd.prog 47 = none := by kernel_rfl
theorem eqKind_48 : eqKind Tryd.prog 48 = 0 := by kernel_rfl
theorem tyK_48 : tyK Tryd.prog 48 = some none := by kernel_rfl
theorem elemK_48 : elemK Tryd.prog 48 = none := by kernel_rfl
theorem eqKind_49 : eqKind Tryd.prog 49 = 5 := by kernel_rfl
theorem tyK_49 : tyK Tryd.prog 49 = some none := by kernel_rfl
theorem elemK_49 : elemK Tryd.prog 49 = none := by kernel_rfl
theorem eqKind_50 : eqKind Tryd.prog 50 = 5 := by kernel_rfl
theorem tyK_50 : tyK Tryd.prog 50 = some none := by kernel_rfl
theorem elemK_50 : elemK Tryd.prog 50 = none := by kernel_rfl
theorem eqKind_51 : eqKind Tryd.prog 51 = 5 := by kernel_rfl
theorem tyK_51 : tyK Tryd.prog 51 = some none := by kernel_rfl
theorem elemK_51 : elemK Tryd.prog 51 = none := by kernel_rfl
theorem eqKind_52 : eqKind Tryd.prog 52 = 0 := by kernel_rfl
theorem tyK_52 : tyK Tryd.prog 52 = some none := by kernel_rfl
theorem elemK_52 : elemK Tryd.prog 52 = none := by kernel_rfl
theorem eqKind_53 : eqKind Tryd.prog 53 = 5 := by kernel_rfl
theorem tyK_53 : tyK Tryd.prog 53 = some none := by kernel_rfl
theorem elemK_53 : elemK Tryd.prog 53 = none := by kernel_rfl
theorem eqKind_54 : eqKind Tryd.prog 54 = 0 := by kernel_rfl
theorem tyK_54 : tyK Tryd.prog 54 = some none := by kernel_rfl
theorem elemK_54 : elemK Tryd.prog 54 = none := by kernel_rfl
theorem eqKind_55 : eqKind Tryd.prog 55 = 5 := by kernel_rfl
theorem tyK_55 : tyK Tryd.prog 55 = some none := by kernel_rfl
theorem elemK_55 : elemK Tryd.prog 55 = none := by kernel_rfl
theorem eqKind_56 : eqKind Tryd.prog 56 = 5 := by kernel_rfl
theorem tyK_56 : tyK Tryd.prog 56 = some none := by kernel_rfl
theorem elemK_56 : elemK Tryd.prog 56 = none := by kernel_rfl
theorem eqKind_57 : eqKind Tryd.prog 57 = 5 := by kernel_rfl
theorem tyK_57 : tyK Tryd.prog 57 = some none := by kernel_rfl
theorem elemK_57 : elemK Tryd.prog 57 = none := by kernel_rfl
theorem eqKind_58 : eqKind Tryd.prog 58 = 0 := by kernel_rfl
theorem tyK_58 : tyK Tryd.prog 58 = some none := by kernel_rfl
theorem elemK_58 : elemK Tryd.prog 58 = none := by kernel_rfl
theorem eqKind_59 : eqKind Tryd.prog 59 = 5 := by kernel_rfl
theorem tyK_59 : tyK Tryd.prog 59 = some none := by kernel_rfl
theorem elemK_59 : elemK Tryd.prog 59 = none := by kernel_rfl
theorem eqKind_60 : eqKind Tryd.prog 60 = 0 := by kernel_rfl
theorem tyK_60 : tyK Tryd.prog 60 = some none := by kernel_rfl
theorem elemK_60 : elemK Tryd.prog 60 = none := by kernel_rfl
theorem eqKind_61 : eqKind Tryd.prog 61 = 5 := by kernel_rfl
theorem tyK_61 : tyK Tryd.prog 61 = some none := by kernel_rfl
theorem elemK_61 : elemK Tryd.prog 61 = none := by kernel_rfl
theorem eqKind_62 : eqKind Tryd.prog 62 = 3 := by kernel_rfl
theorem tyK_62 : tyK Tryd.prog 62 = some none := by kernel_rfl
theorem elemK_62 : elemK Tryd.prog 62 = some (9, 1) := by kernel_rfl
theorem elI_62 : elI Tryd.prog 62 = some (9, 1, 16) := by kernel_rfl
theorem eqKind_63 : eqKind Tryd.prog 63 = 5 := by kernel_rfl
theorem tyK_63 : tyK Tryd.prog 63 = some none := by kernel_rfl
theorem elemK_63 : elemK Tryd.prog 63 = none := by kernel_rfl
theorem eqKind_64 : eqKind Tryd.prog 64 = 5 := by kernel_rfl
theorem tyK_64 : tyK Tryd.prog 64 = some none := by kernel_rfl
theorem elemK_64 : elemK Tryd.prog 64 = none := by kernel_rfl
theorem eqKind_65 : eqKind Tryd.prog 65 = 5 := by kernel_rfl
theorem tyK_65 : tyK Tryd.prog 65 = some none := by kernel_rfl
theorem elemK_65 : elemK Tryd.prog 65 = none := by kernel_rfl
theorem eqKind_66 : eqKind Tryd.prog 66 = 5 := by kernel_rfl
theorem tyK_66 : tyK Tryd.prog 66 = some none := by kernel_rfl
theorem elemK_66 : elemK Tryd.prog 66 = none := by kernel_rfl
theorem eqKind_67 : eqKind Tryd.prog 67 = 5 := by kernel_rfl
theorem tyK_67 : tyK Tryd.prog 67 = some none := by kernel_rfl
theorem elemK_67 : elemK Tryd.prog 67 = none := by kernel_rfl
theorem eqKind_68 : eqKind Tryd.prog 68 = 3 := by kernel_rfl
theorem tyK_68 : tyK Tryd.prog 68 = some none := by kernel_rfl
theorem elemK_68 : elemK Tryd.prog 68 = some (24, 1) := by kernel_rfl
theorem elI_68 : elI Tryd.prog 68 = some (24, 1, 24) := by kernel_rfl
theorem eqKind_69 : eqKind Tryd.prog 69 = 5 := by kernel_rfl
theorem tyK_69 : tyK Tryd.prog 69 = some none := by kernel_rfl
theorem elemK_69 : elemK Tryd.prog 69 = none := by kernel_rfl
theorem eqKind_70 : eqKind Tryd.prog 70 = 5 := by kernel_rfl
theorem tyK_70 : tyK Tryd.prog 70 = some none := by kernel_rfl
theorem elemK_70 : elemK Tryd.prog 70 = none := by kernel_rfl
theorem eqKind_71 : eqKind Tryd.prog 71 = 5 := by kernel_rfl
theorem tyK_71 : tyK Tryd.prog 71 = some none := by kernel_rfl
theorem elemK_71 : elemK Tryd.prog 71 = none := by kernel_rfl
theorem eqKind_72 : eqKind Tryd.prog 72 = 5 := by kernel_rfl
theorem tyK_72 : tyK Tryd.prog 72 = some none := by kernel_rfl
theorem elemK_72 : elemK Tryd.prog 72 = none := by kernel_rfl
theorem eqKind_73 : eqKind Tryd.prog 73 = 2 := by kernel_rfl
theorem tyK_73 : tyK Tryd.prog 73 = some none := by kernel_rfl
theorem elemK_73 : elemK Tryd.prog 73 = none := by kernel_rfl
theorem eqKind_74 : eqKind Tryd.prog 74 = 3 := by kernel_rfl
theorem tyK_74 : tyK Tryd.prog 74 = some none := by kernel_rfl
theorem elemK_74 : elemK Tryd.prog 74 = some (5, 1) := by kernel_rfl
theorem elI_74 : elI Tryd.prog 74 = some (5, 1, 1) := by kernel_rfl
theorem eqKind_75 : eqKind Tryd.prog 75 = 0 := by kernel_rfl
theorem tyK_75 : tyK Tryd.prog 75 = some (some 2) := by kernel_rfl
theorem bldI_75 : bldI Tryd.prog 75 = some ([.pointer none, .slice none 0 0], [(0, 1), (1, 1)]) := by kernel_rfl
theorem elemK_75 : elemK Tryd.prog 75 = none := by kernel_rfl
theorem fieldK_75_0 : fieldK Tryd.prog 75 0 = some (0, none) := by kernel_rfl
theorem fieldK_75_1 : fieldK Tryd.prog 75 1 = some (1, none) := by kernel_rfl
theorem eqKind_76 : eqKind Tryd.prog 76 = 0 := by kernel_rfl
theorem tyK_76 : tyK Tryd.prog 76 = some (some 2) := by kernel_rfl
theorem bldI_76 : bldI Tryd.prog 76 = some ([.pointer none, .slice none 0 0], [(0, 1), (1, 1)]) := by kernel_rfl
theorem elemK_76 : elemK Tryd.prog 76 = none := by kernel_rfl
theorem fieldK_76_0 : fieldK Tryd.prog 76 0 = some (0, none) := by kernel_rfl
theorem fieldK_76_1 : fieldK Tryd.prog 76 1 = some (1, none) := by kernel_rfl
theorem eqKind_77 : eqKind Tryd.prog 77 = 5 := by kernel_rfl
theorem tyK_77 : tyK Tryd.prog 77 = some none := by kernel_rfl
theorem elemK_77 : elemK Tryd.prog 77 = none := by kernel_rfl
theorem eqKind_78 : eqKind Tryd.prog 78 = 0 := by kernel_rfl
theorem tyK_78 : tyK Tryd.prog 78 = some none := by kernel_rfl
theorem elemK_78 : elemK Tryd.prog 78 = none := by kernel_rfl
theorem eqKind_79 : eqKind Tryd.prog 79 = 5 := by kernel_rfl
theorem tyK_79 : tyK Tryd.prog 79 = some none := by kernel_rfl
theorem elemK_79 : elemK Tryd.prog 79 = none := by kernel_rfl
theorem eqKind_80 : eqKind Tryd.prog 80 = 5 := by kernel_rfl
theorem tyK_80 : tyK Tryd.prog 80 = some none := by kernel_rfl
theorem elemK_80 : elemK Tryd.prog 80 = none := by kernel_rfl
theorem eqKind_81 : eqKind Tryd.prog 81 = 5 := by kernel_rfl
theorem tyK_81 : tyK Tryd.prog 81 = some none := by kernel_rfl
theorem elemK_81 : elemK Tryd.prog 81 = none := by kernel_rfl
theorem eqKind_82 : eqKind Tryd.prog 82 = 0 := by kernel_rfl
theorem tyK_82 : tyK Tryd.prog 82 = some none := by kernel_rfl
theorem elemK_82 : elemK Tryd.prog 82 = none := by kernel_rfl
theorem eqKind_83 : eqKind Tryd.prog 83 = 0 := by kernel_rfl
theorem tyK_83 : tyK Tryd.prog 83 = some none := by kernel_rfl
theorem elemK_83 : elemK Tryd.prog 83 = none := by kernel_rfl
theorem eqKind_84 : eqKind Tryd.prog 84 = 5 := by kernel_rfl
theorem tyK_84 : tyK Tryd.prog 84 = some none := by kernel_rfl
theorem elemK_84 : elemK Tryd.prog 84 = none := by kernel_rfl
theorem eqKind_85 : eqKind Tryd.prog 85 = 5 := by kernel_rfl
theorem tyK_85 : tyK Tryd.prog 85 = some none := by kernel_rfl
theorem elemK_85 : elemK Tryd.prog 85 = none := by kernel_rfl
theorem eqKind_86 : eqKind Tryd.prog 86 = 5 := by kernel_rfl
theorem tyK_86 : tyK Tryd.prog 86 = some none := by kernel_rfl
theorem elemK_86 : elemK Tryd.prog 86 = none := by kernel_rfl
theorem eqKind_87 : eqKind Tryd.prog 87 = 5 := by kernel_rfl
theorem tyK_87 : tyK Tryd.prog 87 = some none := by kernel_rfl
theorem elemK_87 : elemK Tryd.prog 87 = none := by kernel_rfl
theorem eqKind_88 : eqKind Tryd.prog 88 = 5 := by kernel_rfl
theorem tyK_88 : tyK Tryd.prog 88 = some none := by kernel_rfl
theorem elemK_88 : elemK Tryd.prog 88 = none := by kernel_rfl
theorem eqKind_89 : eqKind Tryd.prog 89 = 0 := by kernel_rfl
theorem tyK_89 : tyK Tryd.prog 89 = some none := by kernel_rfl
theorem elemK_89 : elemK Tryd.prog 89 = none := by kernel_rfl
theorem eqKind_90 : eqKind Tryd.prog 90 = 5 := by kernel_rfl
theorem tyK_90 : tyK Tryd.prog 90 = some none := by kernel_rfl
theorem elemK_90 : elemK Tryd.prog 90 = none := by kernel_rfl
theorem eqKind_91 : eqKind Tryd.prog 91 = 0 := by kernel_rfl
theorem tyK_91 : tyK Tryd.prog 91 = some none := by kernel_rfl
theorem elemK_91 : elemK Tryd.prog 91 = none := by kernel_rfl
theorem eqKind_92 : eqKind Tryd.prog 92 = 5 := by kernel_rfl
theorem tyK_92 : tyK Tryd.prog 92 = some none := by kernel_rfl
theorem elemK_92 : elemK Tryd.prog 92 = none := by kernel_rfl
theorem eqKind_93 : eqKind Tryd.prog 93 = 5 := by kernel_rfl
theorem tyK_93 : tyK Tryd.prog 93 = some none := by kernel_rfl
theorem elemK_93 : elemK Tryd.prog 93 = none := by kernel_rfl
theorem eqKind_94 : eqKind Tryd.prog 94 = 0 := by kernel_rfl
theorem tyK_94 : tyK Tryd.prog 94 = some none := by kernel_rfl
theorem elemK_94 : elemK Tryd.prog 94 = none := by kernel_rfl
theorem eqKind_95 : eqKind Tryd.prog 95 = 5 := by kernel_rfl
theorem tyK_95 : tyK Tryd.prog 95 = some none := by kernel_rfl
theorem elemK_95 : elemK Tryd.prog 95 = none := by kernel_rfl
theorem eqKind_96 : eqKind Tryd.prog 96 = 5 := by kernel_rfl
theorem tyK_96 : tyK Tryd.prog 96 = some none := by kernel_rfl
theorem elemK_96 : elemK Tryd.prog 96 = none := by kernel_rfl
theorem eqKind_97 : eqKind Tryd.prog 97 = 0 := by kernel_rfl
theorem tyK_97 : tyK Tryd.prog 97 = some none := by kernel_rfl
theorem elemK_97 : elemK Tryd.prog 97 = none := by kernel_rfl
theorem eqKind_98 : eqKind Tryd.prog 98 = 0 := by kernel_rfl
theorem tyK_98 : tyK Tryd.prog 98 = some none := by kernel_rfl
theorem elemK_98 : elemK Tryd.prog 98 = none := by kernel_rfl
theorem eqKind_99 : eqKind Tryd.prog 99 = 5 := by kernel_rfl
theorem tyK_99 : tyK Tryd.prog 99 = some none := by kernel_rfl
theorem elemK_99 : elemK Tryd.prog 99 = none := by kernel_rfl
theorem eqKind_100 : eqKind Tryd.prog 100 = 2 := by kernel_rfl
theorem tyK_100 : tyK Tryd.prog 100 = some none := by kernel_rfl
theorem elemK_100 : elemK Tryd.prog 100 = none := by kernel_rfl
theorem eqKind_101 : eqKind Tryd.prog 101 = 5 := by kernel_rfl
theorem tyK_101 : tyK Tryd.prog 101 = some none := by kernel_rfl
theorem elemK_101 : elemK Tryd.prog 101 = none := by kernel_rfl
theorem eqKind_102 : eqKind Tryd.prog 102 = 5 := by kernel_rfl
theorem tyK_102 : tyK Tryd.prog 102 = some none := by kernel_rfl
theorem elemK_102 : elemK Tryd.prog 102 = none := by kernel_rfl
theorem eqKind_103 : eqKind Tryd.prog 103 = 2 := by kernel_rfl
theorem tyK_103 : tyK Tryd.prog 103 = some none := by kernel_rfl
theorem elemK_103 : elemK Tryd.prog 103 = none := by kernel_rfl
theorem eqKind_104 : eqKind Tryd.prog 104 = 0 := by kernel_rfl
theorem tyK_104 : tyK Tryd.prog 104 = some none := by kernel_rfl
theorem elemK_104 : elemK Tryd.prog 104 = none := by kernel_rfl
theorem eqKind_105 : eqKind Tryd.prog 105 = 5 := by kernel_rfl
theorem tyK_105 : tyK Tryd.prog 105 = some none := by kernel_rfl
theorem elemK_105 : elemK Tryd.prog 105 = none := by kernel_rfl
theorem eqKind_106 : eqKind Tryd.prog 106 = 5 := by kernel_rfl
theorem tyK_106 : tyK Tryd.prog 106 = some none := by kernel_rfl
theorem elemK_106 : elemK Tryd.prog 106 = none := by kernel_rfl
theorem eqKind_107 : eqKind Tryd.prog 107 = 5 := by kernel_rfl
theorem tyK_107 : tyK Tryd.prog 107 = some none := by kernel_rfl
theorem elemK_107 : elemK Tryd.prog 107 = none := by kernel_rfl
theorem eqKind_108 : eqKind Tryd.prog 108 = 2 := by kernel_rfl
theorem tyK_108 : tyK Tryd.prog 108 = some none := by kernel_rfl
theorem elemK_108 : elemK Tryd.prog 108 = none := by kernel_rfl
theorem eqKind_109 : eqKind Tryd.prog 109 = 5 := by kernel_rfl
theorem tyK_109 : tyK Tryd.prog 109 = some none := by kernel_rfl
theorem elemK_109 : elemK Tryd.prog 109 = none := by kernel_rfl
theorem eqKind_110 : eqKind Tryd.prog 110 = 5 := by kernel_rfl
theorem tyK_110 : tyK Tryd.prog 110 = some none := by kernel_rfl
theorem elemK_110 : elemK Tryd.prog 110 = none := by kernel_rfl
theorem eqKind_111 : eqKind Tryd.prog 111 = 5 := by kernel_rfl
theorem tyK_111 : tyK Tryd.prog 111 = some none := by kernel_rfl
theorem elemK_111 : elemK Tryd.prog 111 = none := by kernel_rfl
theorem eqKind_112 : eqKind Tryd.prog 112 = 5 := by kernel_rfl
theorem tyK_112 : tyK Tryd.prog 112 = some none := by kernel_rfl
theorem elemK_112 : elemK Tryd.prog 112 = none := by kernel_rfl
theorem eqKind_113 : eqKind Tryd.prog 113 = 5 := by kernel_rfl
theorem tyK_113 : tyK Tryd.prog 113 = some none := by kernel_rfl
theorem elemK_113 : elemK Tryd.prog 113 = none := by kernel_rfl
theorem eqKind_114 : eqKind Tryd.prog 114 = 0 := by kernel_rfl
theorem tyK_114 : tyK Tryd.prog 114 = some (some 3) := by kernel_rfl
theorem bldI_114 : bldI Tryd.prog 114 = some ([str [], str [], .nilIface], [(0, 1), (1, 1), (2, 1)]) := by kernel_rfl
theorem elemK_114 : elemK Tryd.prog 114 = none := by kernel_rfl
theorem fieldK_114_0 : fieldK Tryd.prog 114 0 = some (0, none) := by kernel_rfl
theorem fieldK_114_1 : fieldK Tryd.prog 114 1 = some (1, none) := by kernel_rfl
theorem fieldK_114_2 : fieldK Tryd.prog 114 2 = some (2, none) := by kernel_rfl
theorem eqKind_115 : eqKind Tryd.prog 115 = 0 := by kernel_rfl
theorem tyK_115 : tyK Tryd.prog 115 = some (some 3) := by kernel_rfl
theorem bldI_115 : bldI Tryd.prog 115 = some ([str [], str [], .nilIface], [(0, 1), (1, 1), (2, 1)]) := by kernel_rfl
theorem elemK_115 : elemK Tryd.prog 115 = none := by kernel_rfl
theorem fieldK_115_0 : fieldK Tryd.prog 115 0 = some (0, none) := by kernel_rfl
theorem fieldK_115_1 : fieldK Tryd.prog 115 1 = some (1, none) := by kernel_rfl
theorem fieldK_115_2 : fieldK Tryd.prog 115 2 = some (2, none) := by kernel_rfl
theorem eqKind_116 : eqKind Tryd.prog 116 = 5 := by kernel_rfl
theorem tyK_116 : tyK Tryd.prog 116 = some none := by kernel_rfl
theorem elemK_116 : elemK Tryd.prog 116 = none := by kernel_rfl
theorem eqKind_117 : eqKind Tryd.prog 117 = 0 := by kernel_rfl
theorem tyK_117 : tyK Tryd.prog 117 = some (some 24) := by kernel_rfl
theorem elemK_117 : elemK Tryd.prog 117 = none := by kernel_rfl
theorem arrK_117 : arrK Tryd.prog 117 = some (24, 5, 1) := by kernel_rfl
theorem eqKind_118 : eqKind Tryd.prog 118 = 5 := by kernel_rfl
theorem tyK_118 : tyK Tryd.prog 118 = some none := by kernel_rfl
theorem elemK_118 : elemK Tryd.prog 118 = none := by kernel_rfl
theorem eqKind_119 : eqKind Tryd.prog 119 = 0 := by kernel_rfl
theorem tyK_119 : tyK Tryd.prog 119 = some none := by kernel_rfl
theorem elemK_119 : elemK Tryd.prog 119 = none := by kernel_rfl
theorem eqKind_120 : eqKind Tryd.prog 120 = 5 := by kernel_rfl
theorem tyK_120 : tyK Tryd.prog 120 = some none := by kernel_rfl
theorem elemK_120 : elemK Tryd.prog 120 = none := by kernel_rfl
theorem eqKind_121 : eqKind Tryd.prog 121 = 0 := by kernel_rfl
theorem tyK_121 : tyK Tryd.prog 121 = some none := by kernel_rfl
theorem elemK_121 : elemK Tryd.prog 121 = none := by kernel_rfl
theorem eqKind_122 : eqKind Tryd.prog 122 = 5 := by kernel_rfl
theorem tyK_122 : tyK Tryd.prog 122 = some none := by kernel_rfl
theorem elemK_122 : elemK Tryd.prog 122 = none := by kernel_rfl
theorem eqKind_123 : eqKind Tryd.prog 123 = 5 := by kernel_rfl
theorem tyK_123 : tyK Tryd.prog 123 = some none := by kernel_rfl
theorem elemK_123 : elemK Tryd.prog 123 = none := by kernel_rfl
theorem eqKind_124 : eqKind Tryd.prog 124 = 2 := by kernel_rfl
theorem tyK_124 : tyK Tryd.prog 124 = some none := by kernel_rfl
theorem elemK_124 : elemK Tryd.prog 124 = none := by kernel_rfl
theorem eqKind_125 : eqKind Tryd.prog 125 = 0 := by kernel_rfl
theorem tyK_125 : tyK Tryd.prog 125 = some none := by kernel_rfl
theorem elemK_125 : elemK Tryd.prog 125 = none := by kernel_rfl
theorem eqKind_126 : eqKind Tryd.prog 126 = 5 := by kernel_rfl
theorem tyK_126 : tyK Tryd.prog 126 = some none := by kernel_rfl
theorem elemK_126 : elemK Tryd.prog 126 = none := by kernel_rfl
theorem eqKind_127 : eqKind Tryd.prog 127 = 0 := by kernel_rfl
theorem tyK_127 : tyK Tryd.prog 127 = some (some 256) := by kernel_rfl
theorem elemK_127 : elemK Tryd.prog 127 = none := by kernel_rfl
theorem arrK_127 : arrK Tryd.prog 127 = some (256, 5, 1) := by kernel_rfl
theorem eqKind_128 : eqKind Tryd.prog 128 = 9 := by kernel_rfl
theorem tyK_128 : tyK Tryd.prog 128 = some (some 2) := by kernel_rfl
theorem bldI_128 : bldI Tryd.prog 128 = some ([.int .u8 0, .int .u8 0], [(0, 1), (1, 1)]) := by kernel_rfl
theorem elemK_128 : elemK Tryd.prog 128 = none := by kernel_rfl
theorem fieldK_128_0 : fieldK Tryd.prog 128 0 = some (0, none) := by kernel_rfl
theorem fieldK_128_1 : fieldK Tryd.prog 128 1 = some (1, none) := by kernel_rfl
theorem eqKind_129 : eqKind Tryd.prog 129 = 9 := by kernel_rfl
theorem tyK_129 : tyK Tryd.prog 129 = some (some 2) := by kernel_rfl
theorem bldI_129 : bldI Tryd.prog 129 = some ([.int .u8 0, .int .u8 0], [(0, 1), (1, 1)]) := by kernel_rfl
theorem elemK_129 : elemK Tryd.prog 129 = none := by kernel_rfl
theorem fieldK_129_0 : fieldK Tryd.prog 129 0 = some (0, none) := by kernel_rfl
theorem fieldK_129_1 : fieldK Tryd.prog 129 1 = some (1, none) := by kernel_rfl
theorem eqKind_130 : eqKind Tryd.prog 130 = 0 := by kernel_rfl
theorem tyK_130 : tyK Tryd.prog 130 = some (some 32) := by kernel_rfl
theorem elemK_130 : elemK Tryd.prog 130 = none := by kernel_rfl
theorem arrK_130 : arrK Tryd.prog 130 = some (16, 129, 2) := by kernel_rfl
theorem eqKind_131 : eqKind Tryd.prog 131 = 0 := by kernel_rfl
theorem tyK_131 : tyK Tryd.prog 131 = some none := by kernel_rfl
theorem elemK_131 : elemK Tryd.prog 131 = none := by kernel_rfl
theorem eqKind_132 : eqKind Tryd.prog 132 = 5 := by kernel_rfl
theorem tyK_132 : tyK Tryd.prog 132 = some none := by kernel_rfl
theorem elemK_132 : elemK Tryd.prog 132 = none := by kernel_rfl
theorem eqKind_133 : eqKind Tryd.prog 133 = 2 := by kernel_rfl
theorem tyK_133 : tyK Tryd.prog 133 = some none := by kernel_rfl
theorem elemK_133 : elemK Tryd.prog 133 = none := by kernel_rfl
theorem eqKind_134 : eqKind Tryd.prog 134 = 0 := by kernel_rfl
theorem tyK_134 : tyK Tryd.prog 134 = some (some 1) := by kernel_rfl
theorem bldI_134 : bldI Tryd.prog 134 = some ([str []], [(0, 1)]) := by kernel_rfl
theorem elemK_134 : elemK Tryd.prog 134 = none := by kernel_rfl
theorem fieldK_134_0 : fieldK Tryd.prog 134 0 = some (0, none) := by kernel_rfl
theorem eqKind_135 : eqKind Tryd.prog 135 = 0 := by kernel_rfl
theorem tyK_135 : tyK Tryd.prog 135 = some (some 1) := by kernel_rfl
theorem bldI_135 : bldI Tryd.prog 135 = some ([str []], [(0, 1)]) := by kernel_rfl
theorem elemK_135 : elemK Tryd.prog 135 = none := by kernel_rfl
theorem fieldK_135_0 : fieldK Tryd.prog 135 0 = some (0, none) := by kernel_rfl
theorem eqKind_136 : eqKind Tryd.prog 136 = 5 := by kernel_rfl
theorem tyK_136 : tyK Tryd.prog 136 = some none := by kernel_rfl
theorem elemK_136 : elemK Tryd.prog 136 = none := by kernel_rfl
theorem eqKind_137 : eqKind Tryd.prog 137 = 0 := by kernel_rfl
theorem tyK_137 : tyK Tryd.prog 137 = some (some 20) := by kernel_rfl
theorem elemK_137 : elemK Tryd.prog 137 = none := by kernel_rfl
theorem arrK_137 : arrK Tryd.prog 137 = some (20, 91, 1) := by kernel_rfl
theorem eqKind_138 : eqKind Tryd.prog 138 = 0 := by kernel_rfl
theorem tyK_138 : tyK Tryd.prog 138 = some (some 65) := by kernel_rfl
theorem elemK_138 : elemK Tryd.prog 138 = none := by kernel_rfl
theorem arrK_138 : arrK Tryd.prog 138 = some (65, 5, 1) := by kernel_rfl
theorem eqKind_139 : eqKind Tryd.prog 139 = 0 := by kernel_rfl
theorem tyK_139 : tyK Tryd.prog 139 = some (some 32) := by kernel_rfl
theorem elemK_139 : elemK Tryd.prog 139 = none := by kernel_rfl
theorem arrK_139 : arrK Tryd.prog 139 = some (32, 5, 1) := by kernel_rfl
theorem eqKind_140 : eqKind Tryd.prog 140 = 0 := by kernel_rfl
theorem tyK_140 : tyK Tryd.prog 140 = some (some 64) := by kernel_rfl
theorem elemK_140 : elemK Tryd.prog 140 = none := by kernel_rfl
theorem arrK_140 : arrK Tryd.prog 140 = some (64, 5, 1) := by kernel_rfl
theorem eqKind_141 : eqKind Tryd.prog 141 = 0 := by kernel_rfl
theorem tyK_141 : tyK Tryd.prog 141 = some (some 4) := by kernel_rfl
theorem bldI_141 : bldI Tryd.prog 141 = some ([.pointer none, .pointer none, .pointer none, str []], [(0, 1), (1, 1), (2, 1), (3, 1)]) := by kernel_rfl
theorem elemK_141 : elemK Tryd.prog 141 = none := by kernel_rfl
theorem fieldK_141_0 : fieldK Tryd.prog 141 0 = some (0, none) := by kernel_rfl
theorem fieldK_141_1 : fieldK Tryd.prog 141 1 = some (1, none) := by kernel_rfl
theorem fieldK_141_2 : fieldK Tryd.prog 141 2 = some (2, none) := by kernel_rfl
theorem fieldK_141_3 : fieldK Tryd.prog 141 3 = some (3, none) := by kernel_rfl
theorem eqKind_142 : eqKind Tryd.prog 142 = 0 := by kernel_rfl
theorem tyK_142 : tyK Tryd.prog 142 = some (some 4) := by kernel_rfl
theorem bldI_142 : bldI Tryd.prog 142 = some ([.pointer none, .pointer none, .pointer none, str []], [(0, 1), (1, 1), (2, 1), (3, 1)]) := by kernel_rfl
theorem elemK_142 : elemK Tryd.prog 142 = none := by kernel_rfl
theorem fieldK_142_0 : fieldK Tryd.prog 142 0 = some (0, none) := by kernel_rfl
theorem fieldK_142_1 : fieldK Tryd.prog 142 1 = some (1, none) := by kernel_rfl
theorem fieldK_142_2 : fieldK Tryd.prog 142 2 = some (2, none) := by kernel_rfl
theorem fieldK_142_3 : fieldK Tryd.prog 142 3 = some (3, none) := by kernel_rfl
theorem eqKind_143 : eqKind Tryd.prog 143 = 0 := by kernel_rfl
theorem tyK_143 : tyK Tryd.prog 143 = some (some 0) := by kernel_rfl
theorem elemK_143 : elemK Tryd.prog 143 = none := by kernel_rfl
theorem arrK_143 : arrK Tryd.prog 143 = some (0, 16, 1) := by kernel_rfl
theorem eqKind_144 : eqKind Tryd.prog 144 = 0 := by kernel_rfl
theorem tyK_144 : tyK Tryd.prog 144 = some (some 0) := by kernel_rfl
theorem bldI_144 : bldI Tryd.prog 144 = some ([], [(0, 0)]) := by kernel_rfl
theorem elemK_144 : elemK Tryd.prog 144 = none := by kernel_rfl
theorem eqKind_145 : eqKind Tryd.prog 145 = 0 := by kernel_rfl
theorem tyK_145 : tyK Tryd.prog 145 = some (some 0) := by kernel_rfl
theorem bldI_145 : bldI Tryd.prog 145 = some ([], [(0, 0)]) := by kernel_rfl
theorem elemK_145 : elemK Tryd.prog 145 = none := by kernel_rfl
theorem eqKind_146 : eqKind Tryd.prog 146 = 5 := by kernel_rfl
theorem tyK_146 : tyK Tryd.prog 146 = some none := by kernel_rfl
theorem elemK_146 : elemK Tryd.prog 146 = none := by kernel_rfl
theorem eqKind_147 : eqKind Tryd.prog 147 = 0 := by kernel_rfl
theorem tyK_147 : tyK Tryd.prog 147 = some none := by kernel_rfl
theorem elemK_147 : elemK Tryd.prog 147 = none := by kernel_rfl
theorem eqKind_148 : eqKind Tryd.prog 148 = 0 := by kernel_rfl
theorem tyK_148 : tyK Tryd.prog 148 = some none := by kernel_rfl
theorem elemK_148 : elemK Tryd.prog 148 = none := by kernel_rfl
theorem eqKind_149 : eqKind Tryd.prog 149 = 5 := by kernel_rfl
theorem tyK_149 : tyK Tryd.prog 149 = some none := by kernel_rfl
theorem elemK_149 : elemK Tryd.prog 149 = none := by kernel_rfl
theorem eqKind_150 : eqKind Tryd.prog 150 = 0 := by kernel_rfl
theorem tyK_150 : tyK Tryd.prog 150 = some none := by kernel_rfl
theorem elemK_150 : elemK Tryd.prog 150 = none := by kernel_rfl
theorem eqKind_151 : eqKind Tryd.prog 151 = 0 := by kernel_rfl
theorem tyK_151 : tyK Tryd.prog 151 = some none := by kernel_rfl
theorem elemK_151 : elemK Tryd.prog 151 = none := by kernel_rfl
theorem eqKind_152 : eqKind Tryd.prog 152 = 0 := by kernel_rfl
theorem tyK_152 : tyK Tryd.prog 152 = some (some 11) := by kernel_rfl
theorem bldI_152 : bldI Tryd.prog 152 = some ([.int .u64 0, .int .u64 0, .int .u32 0, .int .u8 0, .int .u8 0, .int .u8 0, .int .u8 0, .nilFunc, .pointer none, .int .i32 0, .int .i32 0], [(0, 1), (1, 1), (2, 1), (3, 1), (4, 1), (5, 1), (6, 1), (7, 1), (8, 1), (9, 1), (10, 1)]) := by kernel_rfl
theorem elemK_152 : elemK Tryd.prog 152 = none := by kernel_rfl
theorem fieldK_152_0 : fieldK Tryd.prog 152 0 = some (0, none) := by kernel_rfl
theorem fieldK_152_1 : fieldK Tryd.prog 152 1 = some (1, none) := by kernel_rfl
theorem fieldK_152_2 : fieldK Tryd.prog 152 2 = some (2, none) := by kernel_rfl
theorem fieldK_152_3 : fieldK Tryd.prog 152 3 = some (3, none) := by kernel_rfl
theorem fieldK_152_4 : fieldK Tryd.prog 152 4 = some (4, none) := by kernel_rfl
theorem fieldK_152_5 : fieldK Tryd.prog 152 5 = some (5, none) := by kernel_rfl
theorem fieldK_152_6 : fieldK Tryd.prog 152 6 = some (6, none) := by kernel_rfl
theorem fieldK_152_7 : fieldK Tryd.prog 152 7 = some (7, none) := by kernel_rfl
theorem fieldK_152_8 : fieldK Tryd.prog 152 8 = some (8, none) := by kernel_rfl
theorem fieldK_152_9 : fieldK Tryd.prog 152 9 = some (9, none) := by kernel_rfl
theorem fieldK_152_10 : fieldK Tryd.prog 152 10 = some (10, none) := by kernel_rfl
theorem eqKind_153 : eqKind Tryd.prog 153 = 0 := by kernel_rfl
theorem tyK_153 : tyK Tryd.prog 153 = some (some 11) := by kernel_rfl
theorem bldI_153 : bldI Tryd.prog 153 = some ([.int .u64 0, .int .u64 0, .int .u32 0, .int .u8 0, .int .u8 0, .int .u8 0, .int .u8 0, .nilFunc, .pointer none, .int .i32 0, .int .i32 0], [(0, 1), (1, 1), (2, 1), (3, 1), (4, 1), (5, 1), (6, 1), (7, 1), (8, 1), (9, 1), (10, 1)]) := by kernel_rfl
theorem elemK_153 : elemK Tryd.prog 153 = none := by kernel_rfl
theorem fieldK_153_0 : fieldK Tryd.prog 153 0 = some (0, none) := by kernel_rfl
theorem fieldK_153_1 : fieldK Tryd.prog 153 1 = some (1, none) := by kernel_rfl
theorem fieldK_153_2 : fieldK Tryd.prog 153 2 = some (2, none) := by kernel_rfl
theorem fieldK_153_3 : fieldK Tryd.prog 153 3 = some (3, none) := by kernel_rfl
theorem fieldK_153_4 : fieldK Tryd.prog 153 4 = some (4, none) := by kernel_rfl
theorem fieldK_153_5 : fieldK Tryd.prog 153 5 = some (5, none) := by kernel_rfl
theorem fieldK_153_6 : fieldK Tryd.prog 153 6 = some (6, none) := by kernel_rfl
theorem fieldK_153_7 : fieldK Tryd.prog 153 7 = some (7, none) := by kernel_rfl
theorem fieldK_153_8 : fieldK Tryd.prog 153 8 = some (8, none) := by kernel_rfl
theorem fieldK_153_9 : fieldK Tryd.prog 153 9 = some (9, none) := by kernel_rfl
theorem fieldK_153_10 : fieldK Tryd.prog 153 10 = some (10, none) := by kernel_rfl
theorem mixed : Tryd.prog.follows .mixedOrders = true := by kernel_rfl
attribute [push_cast] eqKind_0 tyK_0 elemK_0 eqKind_1 tyK_1 elemK_1 Tryd.underlying1 eqKind_2 tyK_2 elemK_2 Tryd.underlying2 eqKind_3 tyK_3 elemK_3 Tryd.underlying3 eqKind_4 tyK_4 elemK_4 Tryd.underlying4 eqKind_5 tyK_5 elemK_5 Tryd.underlying5 eqKind_6 tyK_6 elemK_6 Tryd.underlying6 eqKind_7 tyK_7 bldI_7 elemK_7 fieldK_7_0 fieldK_7_1 fieldK_7_2 fieldK_7_3 eqKind_8 tyK_8 bldI_8 elemK_8 fieldK_8_0 fieldK_8_1 fieldK_8_2 fieldK_8_3 eqKind_9 tyK_9 elemK_9 Tryd.underlying9 eqKind_10 tyK_10 elemK_10 Tryd.underlying10 eqKind_11 tyK_11 elemK_11 Tryd.underlying11 eqKind_12 tyK_12 elemK_12 Tryd.underlying12 eqKind_13 tyK_13 bldI_13 elemK_13 fieldK_13_0 fieldK_13_1 eqKind_14 tyK_14 bldI_14 elemK_14 fieldK_14_0 fieldK_14_1 eqKind_15 tyK_15 elemK_15 Tryd.underlying15 eqKind_16 tyK_16 elemK_16 Tryd.underlying16 eqKind_17 tyK_17 elemK_17 Tryd.underlying17 eqKind_18 tyK_18 bldI_18 elemK_18 fieldK_18_0 eqKind_19 tyK_19 bldI_19 elemK_19 fieldK_19_0 eqKind_20 tyK_20 elemK_20 eqKind_21 tyK_21 elemK_21 Tryd.underlying21 eqKind_22 tyK_22 elemK_22 Tryd.underlying22 eqKind_23 tyK_23 elemK_23 Tryd.underlying23 eqKind_24 tyK_24 elemK_24 Tryd.underlying24 eqKind_25 tyK_25 elemK_25 Tryd.underlying25 eqKind_26 tyK_26 elemK_26 Tryd.underlying26 eqKind_27 tyK_27 elemK_27 Tryd.underlying27 eqKind_28 tyK_28 bldI_28 elemK_28 fieldK_28_0 fieldK_28_1 eqKind_29 tyK_29 bldI_29 elemK_29 fieldK_29_0 fieldK_29_1 eqKind_30 tyK_30 elemK_30 Tryd.underlying30 eqKind_31 tyK_31 elemK_31 Tryd.underlying31 eqKind_32 tyK_32 elemK_32 Tryd.underlying32 eqKind_33 tyK_33 elemK_33 Tryd.underlying33 eqKind_34 tyK_34 elemK_34 Tryd.underlying34 eqKind_35 tyK_35 elemK_35 Tryd.underlying35 eqKind_36 tyK_36 elemK_36 Tryd.underlying36 eqKind_37 tyK_37 elemK_37 eqKind_38 tyK_38 elemK_38 eqKind_39 tyK_39 elemK_39 eqKind_40 tyK_40 elemK_40 Tryd.underlying40 eqKind_41 tyK_41 elemK_41 Tryd.underlying41 eqKind_42 tyK_42 elemK_42 Tryd.underlying42 eqKind_43 tyK_43 elemK_43 Tryd.underlying43 eqKind_44 tyK_44 elemK_44 Tryd.underlying44 eqKind_45 tyK_45 elemK_45 Tryd.underlying45 eqKind_46 tyK_46 elemK_46 Tryd.underlying46 eqKind_47 tyK_47 elemK_47 Tryd.underlying47 eqKind_48 tyK_48 elemK_48 eqKind_49 tyK_49 elemK_49 Tryd.underlying49 eqKind_50 tyK_50 elemK_50 Tryd.underlying50 eqKind_51 tyK_51 elemK_51 Tryd.underlying51 eqKind_52 tyK_52 elemK_52 eqKind_53 tyK_53 elemK_53 Tryd.underlying53 eqKind_54 tyK_54 elemK_54 Tryd.underlying54 eqKind_55 tyK_55 elemK_55 Tryd.underlying55 eqKind_56 tyK_56 elemK_56 Tryd.underlying56 eqKind_57 tyK_57 elemK_57 Tryd.underlying57 eqKind_58 tyK_58 elemK_58 eqKind_59 tyK_59 elemK_59 Tryd.underlying59 eqKind_60 tyK_60 elemK_60 eqKind_61 tyK_61 elemK_61 Tryd.underlying61 eqKind_62 tyK_62 elemK_62 Tryd.underlying62 eqKind_63 tyK_63 elemK_63 Tryd.underlying63 eqKind_64 tyK_64 elemK_64 Tryd.underlying64 eqKind_65 tyK_65 elemK_65 Tryd.underlying65 eqKind_66 tyK_66 elemK_66 Tryd.underlying66 eqKind_67 tyK_67 elemK_67 Tryd.underlying67 eqKind_68 tyK_68 elemK_68 Tryd.underlying68 eqKind_69 tyK_69 elemK_69 Tryd.underlying69 eqKind_70 tyK_70 elemK_70 Tryd.underlying70 eqKind_71 tyK_71 elemK_71 Tryd.underlying71 eqKind_72 tyK_72 elemK_72 Tryd.underlying72 eqKind_73 tyK_73 elemK_73 Tryd.underlying73 eqKind_74 tyK_74 elemK_74 Tryd.underlying74 eqKind_75 tyK_75 bldI_75 elemK_75 fieldK_75_0 fieldK_75_1 eqKind_76 tyK_76 bldI_76 elemK_76 fieldK_76_0 fieldK_76_1 eqKind_77 tyK_77 elemK_77 Tryd.underlying77 eqKind_78 tyK_78 elemK_78 eqKind_79 tyK_79 elemK_79 Tryd.underlying79 eqKind_80 tyK_80 elemK_80 Tryd.underlying80 eqKind_81 tyK_81 elemK_81 Tryd.underlying81 eqKind_82 tyK_82 elemK_82 Tryd.underlying82 eqKind_83 tyK_83 elemK_83 eqKind_84 tyK_84 elemK_84 Tryd.underlying84 eqKind_85 tyK_85 elemK_85 Tryd.underlying85 eqKind_86 tyK_86 elemK_86 Tryd.underlying86 eqKind_87 tyK_87 elemK_87 Tryd.underlying87 eqKind_88 tyK_88 elemK_88 Tryd.underlying88 eqKind_89 tyK_89 elemK_89 Tryd.underlying89 eqKind_90 tyK_90 elemK_90 Tryd.underlying90 eqKind_91 tyK_91 elemK_91 Tryd.underlying91 eqKind_92 tyK_92 elemK_92 Tryd.underlying92 eqKind_93 tyK_93 elemK_93 Tryd.underlying93 eqKind_94 tyK_94 elemK_94 eqKind_95 tyK_95 elemK_95 Tryd.underlying95 eqKind_96 tyK_96 elemK_96 Tryd.underlying96 eqKind_97 tyK_97 elemK_97 Tryd.underlying97 eqKind_98 tyK_98 elemK_98 eqKind_99 tyK_99 elemK_99 Tryd.underlying99 eqKind_100 tyK_100 elemK_100 Tryd.underlying100 eqKind_101 tyK_101 elemK_101 Tryd.underlying101 eqKind_102 tyK_102 elemK_102 Tryd.underlying102 eqKind_103 tyK_103 elemK_103 Tryd.underlying103 eqKind_104 tyK_104 elemK_104 Tryd.underlying104 eqKind_105 tyK_105 elemK_105 Tryd.underlying105 eqKind_106 tyK_106 elemK_106 Tryd.underlying106 eqKind_107 tyK_107 elemK_107 Tryd.underlying107 eqKind_108 tyK_108 elemK_108 Tryd.underlying108 eqKind_109 tyK_109 elemK_109 Tryd.underlying109 eqKind_110 tyK_110 elemK_110 Tryd.underlying110 eqKind_111 tyK_111 elemK_111 Tryd.underlying111 eqKind_112 tyK_112 elemK_112 Tryd.underlying112 eqKind_113 tyK_113 elemK_113 Tryd.underlying113 eqKind_114 tyK_114 bldI_114 elemK_114 fieldK_114_0 fieldK_114_1 fieldK_114_2 eqKind_115 tyK_115 bldI_115 elemK_115 fieldK_115_0 fieldK_115_1 fieldK_115_2 eqKind_116 tyK_116 elemK_116 Tryd.underlying116 eqKind_117 tyK_117 elemK_117 arrK_117 eqKind_118 tyK_118 elemK_118 Tryd.underlying118 eqKind_119 tyK_119 elemK_119 eqKind_120 tyK_120 elemK_120 Tryd.underlying120 eqKind_121 tyK_121 elemK_121 eqKind_122 tyK_122 elemK_122 Tryd.underlying122 eqKind_123 tyK_123 elemK_123 Tryd.underlying123 eqKind_124 tyK_124 elemK_124 Tryd.underlying124 eqKind_125 tyK_125 elemK_125 eqKind_126 tyK_126 elemK_126 Tryd.underlying126 eqKind_127 tyK_127 elemK_127 arrK_127 eqKind_128 tyK_128 bldI_128 elemK_128 fieldK_128_0 fieldK_128_1 eqKind_129 tyK_129 bldI_129 elemK_129 fieldK_129_0 fieldK_129_1 eqKind_130 tyK_130 elemK_130 arrK_130 eqKind_131 tyK_131 elemK_131 eqKind_132 tyK_132 elemK_132 Tryd.underlying132 eqKind_133 tyK_133 elemK_133 Tryd.underlying133 eqKind_134 tyK_134 bldI_134 elemK_134 fieldK_134_0 eqKind_135 tyK_135 bldI_135 elemK_135 fieldK_135_0 eqKind_136 tyK_136 elemK_136 Tryd.underlying136 eqKind_137 tyK_137 elemK_137 arrK_137 eqKind_138 tyK_138 elemK_138 arrK_138 eqKind_139 tyK_139 elemK_139 arrK_139 eqKind_140 tyK_140 elemK_140 arrK_140 eqKind_141 tyK_141 bldI_141 elemK_141 fieldK_141_0 fieldK_141_1 fieldK_141_2 fieldK_141_3 eqKind_142 tyK_142 bldI_142 elemK_142 fieldK_142_0 fieldK_142_1 fieldK_142_2 fieldK_142_3 eqKind_143 tyK_143 elemK_143 arrK_143 eqKind_144 tyK_144 bldI_144 elemK_144 eqKind_145 tyK_145 bldI_145 elemK_145 eqKind_146 tyK_146 elemK_146 Tryd.underlying146 eqKind_147 tyK_147 elemK_147 Tryd.underlying147 eqKind_148 tyK_148 elemK_148 Tryd.underlying148 eqKind_149 tyK_149 elemK_149 Tryd.underlying149 eqKind_150 tyK_150 elemK_150 Tryd.underlying150 eqKind_151 tyK_151 elemK_151 Tryd.underlying151 eqKind_152 tyK_152 bldI_152 elemK_152 fieldK_152_0 fieldK_152_1 fieldK_152_2 fieldK_152_3 fieldK_152_4 fieldK_152_5 fieldK_152_6 fieldK_152_7 fieldK_152_8 fieldK_152_9 fieldK_152_10 eqKind_153 tyK_153 bldI_153 elemK_153 fieldK_153_0 fieldK_153_1 fieldK_153_2 fieldK_153_3 fieldK_153_4 fieldK_153_5 fieldK_153_6 fieldK_153_7 fieldK_153_8 fieldK_153_9 fieldK_153_10
end Go.Proofs.YthmkbjmkpdjgjaaDoor
