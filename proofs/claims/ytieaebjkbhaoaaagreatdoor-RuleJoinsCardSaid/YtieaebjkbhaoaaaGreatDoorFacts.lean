import Derived.Test.YtieaebjkbhaoaaaGreatDoorV
import Derived.Test.YtieaebjkbhaoaaaGreatDoorProg
namespace Go.Proofs.YtieaebjkbhaoaaaGreatDoor
open Go.Vc Go.Proofs
theorem eqKind_0 : eqKind Tryz.prog 0 = 0 := by kernel_rfl
theorem tyK_0 : tyK Tryz.prog 0 = some none := by kernel_rfl
theorem elemK_0 : elemK Tryz.prog 0 = none := by kernel_rfl
theorem eqKind_1 : eqKind Tryz.prog 1 = 5 := by kernel_rfl
theorem tyK_1 : tyK Tryz.prog 1 = some none := by kernel_rfl
theorem elemK_1 : elemK Tryz.prog 1 = none := by kernel_rfl
theorem eqKind_2 : eqKind Tryz.prog 2 = 0 := by kernel_rfl
theorem tyK_2 : tyK Tryz.prog 2 = some none := by kernel_rfl
theorem elemK_2 : elemK Tryz.prog 2 = none := by kernel_rfl
theorem eqKind_3 : eqKind Tryz.prog 3 = 0 := by kernel_rfl
theorem tyK_3 : tyK Tryz.prog 3 = some none := by kernel_rfl
theorem elemK_3 : elemK Tryz.prog 3 = none := by kernel_rfl
theorem eqKind_4 : eqKind Tryz.prog 4 = 6 := by kernel_rfl
theorem tyK_4 : tyK Tryz.prog 4 = some none := by kernel_rfl
theorem elemK_4 : elemK Tryz.prog 4 = none := by kernel_rfl
theorem eqKind_5 : eqKind Tryz.prog 5 = 0 := by kernel_rfl
theorem tyK_5 : tyK Tryz.prog 5 = some none := by kernel_rfl
theorem elemK_5 : elemK Tryz.prog 5 = none := by kernel_rfl
theorem eqKind_6 : eqKind Tryz.prog 6 = 0 := by kernel_rfl
theorem tyK_6 : tyK Tryz.prog 6 = some none := by kernel_rfl
theorem elemK_6 : elemK Tryz.prog 6 = none := by kernel_rfl
theorem eqKind_7 : eqKind Tryz.prog 7 = 0 := by kernel_rfl
theorem tyK_7 : tyK Tryz.prog 7 = some (some 4) := by kernel_rfl
theorem bldI_7 : bldI Tryz.prog 7 = some ([.int .i64 0, .int .i64 0, .bool false, .int .u8 0], [(0, 1), (1, 1), (2, 1), (3, 1)]) := by kernel_rfl
theorem elemK_7 : elemK Tryz.prog 7 = none := by kernel_rfl
theorem fieldK_7_0 : fieldK Tryz.prog 7 0 = some (0, none) := by kernel_rfl
theorem fieldK_7_1 : fieldK Tryz.prog 7 1 = some (1, none) := by kernel_rfl
theorem fieldK_7_2 : fieldK Tryz.prog 7 2 = some (2, none) := by kernel_rfl
theorem fieldK_7_3 : fieldK Tryz.prog 7 3 = some (3, none) := by kernel_rfl
theorem eqKind_8 : eqKind Tryz.prog 8 = 0 := by kernel_rfl
theorem tyK_8 : tyK Tryz.prog 8 = some (some 4) := by kernel_rfl
theorem bldI_8 : bldI Tryz.prog 8 = some ([.int .i64 0, .int .i64 0, .bool false, .int .u8 0], [(0, 1), (1, 1), (2, 1), (3, 1)]) := by kernel_rfl
theorem elemK_8 : elemK Tryz.prog 8 = none := by kernel_rfl
theorem fieldK_8_0 : fieldK Tryz.prog 8 0 = some (0, none) := by kernel_rfl
theorem fieldK_8_1 : fieldK Tryz.prog 8 1 = some (1, none) := by kernel_rfl
theorem fieldK_8_2 : fieldK Tryz.prog 8 2 = some (2, none) := by kernel_rfl
theorem fieldK_8_3 : fieldK Tryz.prog 8 3 = some (3, none) := by kernel_rfl
theorem eqKind_9 : eqKind Tryz.prog 9 = 0 := by kernel_rfl
theorem tyK_9 : tyK Tryz.prog 9 = some none := by kernel_rfl
theorem elemK_9 : elemK Tryz.prog 9 = none := by kernel_rfl
theorem eqKind_10 : eqKind Tryz.prog 10 = 0 := by kernel_rfl
theorem tyK_10 : tyK Tryz.prog 10 = some none := by kernel_rfl
theorem elemK_10 : elemK Tryz.prog 10 = none := by kernel_rfl
theorem eqKind_11 : eqKind Tryz.prog 11 = 0 := by kernel_rfl
theorem tyK_11 : tyK Tryz.prog 11 = some none := by kernel_rfl
theorem elemK_11 : elemK Tryz.prog 11 = none := by kernel_rfl
theorem eqKind_12 : eqKind Tryz.prog 12 = 0 := by kernel_rfl
theorem tyK_12 : tyK Tryz.prog 12 = some none := by kernel_rfl
theorem elemK_12 : elemK Tryz.prog 12 = none := by kernel_rfl
theorem eqKind_13 : eqKind Tryz.prog 13 = 0 := by kernel_rfl
theorem tyK_13 : tyK Tryz.prog 13 = some (some 2) := by kernel_rfl
theorem bldI_13 : bldI Tryz.prog 13 = some ([str [], .int .u64 0], [(0, 1), (1, 1)]) := by kernel_rfl
theorem elemK_13 : elemK Tryz.prog 13 = none := by kernel_rfl
theorem fieldK_13_0 : fieldK Tryz.prog 13 0 = some (0, none) := by kernel_rfl
theorem fieldK_13_1 : fieldK Tryz.prog 13 1 = some (1, none) := by kernel_rfl
theorem eqKind_14 : eqKind Tryz.prog 14 = 0 := by kernel_rfl
theorem tyK_14 : tyK Tryz.prog 14 = some (some 2) := by kernel_rfl
theorem bldI_14 : bldI Tryz.prog 14 = some ([str [], .int .u64 0], [(0, 1), (1, 1)]) := by kernel_rfl
theorem elemK_14 : elemK Tryz.prog 14 = none := by kernel_rfl
theorem fieldK_14_0 : fieldK Tryz.prog 14 0 = some (0, none) := by kernel_rfl
theorem fieldK_14_1 : fieldK Tryz.prog 14 1 = some (1, none) := by kernel_rfl
theorem eqKind_15 : eqKind Tryz.prog 15 = 2 := by kernel_rfl
theorem tyK_15 : tyK Tryz.prog 15 = some none := by kernel_rfl
theorem elemK_15 : elemK Tryz.prog 15 = none := by kernel_rfl
theorem eqKind_16 : eqKind Tryz.prog 16 = 2 := by kernel_rfl
theorem tyK_16 : tyK Tryz.prog 16 = some none := by kernel_rfl
theorem elemK_16 : elemK Tryz.prog 16 = none := by kernel_rfl
theorem eqKind_17 : eqKind Tryz.prog 17 = 2 := by kernel_rfl
theorem tyK_17 : tyK Tryz.prog 17 = some none := by kernel_rfl
theorem elemK_17 : elemK Tryz.prog 17 = none := by kernel_rfl
theorem eqKind_18 : eqKind Tryz.prog 18 = 0 := by kernel_rfl
theorem tyK_18 : tyK Tryz.prog 18 = some (some 1) := by kernel_rfl
theorem bldI_18 : bldI Tryz.prog 18 = some ([.pointer none], [(0, 1)]) := by kernel_rfl
theorem elemK_18 : elemK Tryz.prog 18 = none := by kernel_rfl
theorem fieldK_18_0 : fieldK Tryz.prog 18 0 = some (0, none) := by kernel_rfl
theorem eqKind_19 : eqKind Tryz.prog 19 = 0 := by kernel_rfl
theorem tyK_19 : tyK Tryz.prog 19 = some (some 1) := by kernel_rfl
theorem bldI_19 : bldI Tryz.prog 19 = some ([.pointer none], [(0, 1)]) := by kernel_rfl
theorem elemK_19 : elemK Tryz.prog 19 = none := by kernel_rfl
theorem fieldK_19_0 : fieldK Tryz.prog 19 0 = some (0, none) := by kernel_rfl
theorem eqKind_20 : eqKind Tryz.prog 20 = 1 := by kernel_rfl
theorem tyK_20 : tyK Tryz.prog 20 = some none := by kernel_rfl
theorem elemK_20 : elemK Tryz.prog 20 = none := by kernel_rfl
theorem eqKind_21 : eqKind Tryz.prog 21 = 0 := by kernel_rfl
theorem tyK_21 : tyK Tryz.prog 21 = some none := by kernel_rfl
theorem elemK_21 : elemK Tryz.prog 21 = none := by kernel_rfl
theorem eqKind_22 : eqKind Tryz.prog 22 = 5 := by kernel_rfl
theorem tyK_22 : tyK Tryz.prog 22 = some none := by kernel_rfl
theorem elemK_22 : elemK Tryz.prog 22 = none := by kernel_rfl
theorem eqKind_23 : eqKind Tryz.prog 23 = 3 := by kernel_rfl
theorem tyK_23 : tyK Tryz.prog 23 = some none := by kernel_rfl
theorem elemK_23 : elemK Tryz.prog 23 = some (58, 3) := by kernel_rfl
theorem elI_23 : elI Tryz.prog 23 = some (58, 3, 32) := by kernel_rfl
theorem eqKind_24 : eqKind Tryz.prog 24 = 3 := by kernel_rfl
theorem tyK_24 : tyK Tryz.prog 24 = some none := by kernel_rfl
theorem elemK_24 : elemK Tryz.prog 24 = some (64, 4) := by kernel_rfl
theorem elI_24 : elI Tryz.prog 24 = some (64, 4, 32) := by kernel_rfl
theorem eqKind_25 : eqKind Tryz.prog 25 = 0 := by kernel_rfl
theorem tyK_25 : tyK Tryz.prog 25 = some (some 3) := by kernel_rfl
theorem bldI_25 : bldI Tryz.prog 25 = some ([.slice none 0 0, .slice none 0 0, .bool false], [(0, 1), (1, 1), (2, 1)]) := by kernel_rfl
theorem elemK_25 : elemK Tryz.prog 25 = none := by kernel_rfl
theorem fieldK_25_0 : fieldK Tryz.prog 25 0 = some (0, none) := by kernel_rfl
theorem fieldK_25_1 : fieldK Tryz.prog 25 1 = some (1, none) := by kernel_rfl
theorem fieldK_25_2 : fieldK Tryz.prog 25 2 = some (2, none) := by kernel_rfl
theorem eqKind_26 : eqKind Tryz.prog 26 = 0 := by kernel_rfl
theorem tyK_26 : tyK Tryz.prog 26 = some (some 3) := by kernel_rfl
theorem bldI_26 : bldI Tryz.prog 26 = some ([.slice none 0 0, .slice none 0 0, .bool false], [(0, 1), (1, 1), (2, 1)]) := by kernel_rfl
theorem elemK_26 : elemK Tryz.prog 26 = none := by kernel_rfl
theorem fieldK_26_0 : fieldK Tryz.prog 26 0 = some (0, none) := by kernel_rfl
theorem fieldK_26_1 : fieldK Tryz.prog 26 1 = some (1, none) := by kernel_rfl
theorem fieldK_26_2 : fieldK Tryz.prog 26 2 = some (2, none) := by kernel_rfl
theorem eqKind_27 : eqKind Tryz.prog 27 = 1 := by kernel_rfl
theorem tyK_27 : tyK Tryz.prog 27 = some none := by kernel_rfl
theorem elemK_27 : elemK Tryz.prog 27 = none := by kernel_rfl
theorem eqKind_28 : eqKind Tryz.prog 28 = 1 := by kernel_rfl
theorem tyK_28 : tyK Tryz.prog 28 = some none := by kernel_rfl
theorem elemK_28 : elemK Tryz.prog 28 = none := by kernel_rfl
theorem eqKind_29 : eqKind Tryz.prog 29 = 0 := by kernel_rfl
theorem tyK_29 : tyK Tryz.prog 29 = some none := by kernel_rfl
theorem elemK_29 : elemK Tryz.prog 29 = none := by kernel_rfl
theorem eqKind_30 : eqKind Tryz.prog 30 = 5 := by kernel_rfl
theorem tyK_30 : tyK Tryz.prog 30 = some none := by kernel_rfl
theorem elemK_30 : elemK Tryz.prog 30 = none := by kernel_rfl
theorem eqKind_31 : eqKind Tryz.prog 31 = 5 := by kernel_rfl
theorem tyK_31 : tyK Tryz.prog 31 = some none := by kernel_rfl
theorem elemK_31 : elemK Tryz.prog 31 = none := by kernel_rfl
theorem eqKind_32 : eqKind Tryz.prog 32 = 5 := by kernel_rfl
theorem tyK_32 : tyK Tryz.prog 32 = some none := by kernel_rfl
theorem elemK_32 : elemK Tryz.prog 32 = none := by kernel_rfl
theorem eqKind_33 : eqKind Tryz.prog 33 = 3 := by kernel_rfl
theorem tyK_33 : tyK Tryz.prog 33 = some none := by kernel_rfl
theorem elemK_33 : elemK Tryz.prog 33 = some (3, 1) := by kernel_rfl
theorem elI_33 : elI Tryz.prog 33 = some (3, 1, 8) := by kernel_rfl
theorem eqKind_34 : eqKind Tryz.prog 34 = 0 := by kernel_rfl
theorem tyK_34 : tyK Tryz.prog 34 = some (some 4) := by kernel_rfl
theorem elemK_34 : elemK Tryz.prog 34 = none := by kernel_rfl
theorem arrK_34 : arrK Tryz.prog 34 = some (4, 9, 1) := by kernel_rfl
theorem eqKind_35 : eqKind Tryz.prog 35 = 5 := by kernel_rfl
theorem tyK_35 : tyK Tryz.prog 35 = some none := by kernel_rfl
theorem elemK_35 : elemK Tryz.prog 35 = none := by kernel_rfl
theorem eqKind_36 : eqKind Tryz.prog 36 = 5 := by kernel_rfl
theorem tyK_36 : tyK Tryz.prog 36 = some none := by kernel_rfl
theorem elemK_36 : elemK Tryz.prog 36 = none := by kernel_rfl
theorem eqKind_37 : eqKind Tryz.prog 37 = 5 := by kernel_rfl
theorem tyK_37 : tyK Tryz.prog 37 = some none := by kernel_rfl
theorem elemK_37 : elemK Tryz.prog 37 = none := by kernel_rfl
theorem eqKind_38 : eqKind Tryz.prog 38 = 0 := by kernel_rfl
theorem tyK_38 : tyK Tryz.prog 38 = some (some 1) := by kernel_rfl
theorem bldI_38 : bldI Tryz.prog 38 = some ([.nilIface], [(0, 1)]) := by kernel_rfl
theorem elemK_38 : elemK Tryz.prog 38 = none := by kernel_rfl
theorem fieldK_38_0 : fieldK Tryz.prog 38 0 = some (0, none) := by kernel_rfl
theorem eqKind_39 : eqKind Tryz.prog 39 = 0 := by kernel_rfl
theorem tyK_39 : tyK Tryz.prog 39 = some (some 1) := by kernel_rfl
theorem bldI_39 : bldI Tryz.prog 39 = some ([.nilIface], [(0, 1)]) := by kernel_rfl
theorem elemK_39 : elemK Tryz.prog 39 = none := by kernel_rfl
theorem fieldK_39_0 : fieldK Tryz.prog 39 0 = some (0, none) := by kernel_rfl
theorem eqKind_40 : eqKind Tryz.prog 40 = 0 := by kernel_rfl
theorem tyK_40 : tyK Tryz.prog 40 = some none := by kernel_rfl
theorem elemK_40 : elemK Tryz.prog 40 = none := by kernel_rfl
theorem eqKind_41 : eqKind Tryz.prog 41 = 3 := by kernel_rfl
theorem tyK_41 : tyK Tryz.prog 41 = some none := by kernel_rfl
theorem elemK_41 : elemK Tryz.prog 41 = some (49, 3) := by kernel_rfl
theorem elI_41 : elI Tryz.prog 41 = some (49, 3, 32) := by kernel_rfl
theorem eqKind_42 : eqKind Tryz.prog 42 = 0 := by kernel_rfl
theorem tyK_42 : tyK Tryz.prog 42 = some none := by kernel_rfl
theorem elemK_42 : elemK Tryz.prog 42 = none := by kernel_rfl
theorem eqKind_43 : eqKind Tryz.prog 43 = 5 := by kernel_rfl
theorem tyK_43 : tyK Tryz.prog 43 = some none := by kernel_rfl
theorem elemK_43 : elemK Tryz.prog 43 = none := by kernel_rfl
theorem eqKind_44 : eqKind Tryz.prog 44 = 2 := by kernel_rfl
theorem tyK_44 : tyK Tryz.prog 44 = some none := by kernel_rfl
theorem elemK_44 : elemK Tryz.prog 44 = none := by kernel_rfl
theorem eqKind_45 : eqKind Tryz.prog 45 = 0 := by kernel_rfl
theorem tyK_45 : tyK Tryz.prog 45 = some (some 1) := by kernel_rfl
theorem bldI_45 : bldI Tryz.prog 45 = some ([.slice none 0 0], [(0, 1)]) := by kernel_rfl
theorem elemK_45 : elemK Tryz.prog 45 = none := by kernel_rfl
theorem fieldK_45_0 : fieldK Tryz.prog 45 0 = some (0, none) := by kernel_rfl
theorem eqKind_46 : eqKind Tryz.prog 46 = 0 := by kernel_rfl
theorem tyK_46 : tyK Tryz.prog 46 = some (some 1) := by kernel_rfl
theorem bldI_46 : bldI Tryz.prog 46 = some ([.slice none 0 0], [(0, 1)]) := by kernel_rfl
theorem elemK_46 : elemK Tryz.prog 46 = none := by kernel_rfl
theorem fieldK_46_0 : fieldK Tryz.prog 46 0 = some (0, none) := by kernel_rfl
theorem eqKind_47 : eqKind Tryz.prog 47 = 5 := by kernel_rfl
theorem tyK_47 : tyK Tryz.prog 47 = some none := by kernel_rfl
theorem elemK_47 : elemK Tryz.prog 47 = none := by kernel_rfl
theorem eqKind_48 : eqKind Tryz.prog 48 = 0 := by kernel_rfl
theorem tyK_48 : tyK Tryz.prog 48 = some (some 3) := by kernel_rfl
theorem bldI_48 : bldI Tryz.prog 48 = some ([.int .i64 0, str [], .int .i64 0], [(0, 1), (1, 1), (2, 1)]) := by kernel_rfl
theorem elemK_48 : elemK Tryz.prog 48 = none := by kernel_rfl
theorem fieldK_48_0 : fieldK Tryz.prog 48 0 = some (0, none) := by kernel_rfl
theorem fieldK_48_1 : fieldK Tryz.prog 48 1 = some (1, none) := by kernel_rfl
theorem fieldK_48_2 : fieldK Tryz.prog 48 2 = some (2, none) := by kernel_rfl
theorem eqKind_49 : eqKind Tryz.prog 49 = 0 := by kernel_rfl
theorem tyK_49 : tyK Tryz.prog 49 = some (some 3) := by kernel_rfl
theorem bldI_49 : bldI Tryz.prog 49 = some ([.int .i64 0, str [], .int .i64 0], [(0, 1), (1, 1), (2, 1)]) := by kernel_rfl
theorem elemK_49 : elemK Tryz.prog 49 = none := by kernel_rfl
theorem fieldK_49_0 : fieldK Tryz.prog 49 0 = some (0, none) := by kernel_rfl
theorem fieldK_49_1 : fieldK Tryz.prog 49 1 = some (1, none) := by kernel_rfl
theorem fieldK_49_2 : fieldK Tryz.prog 49 2 = some (2, none) := by kernel_rfl
theorem eqKind_50 : eqKind Tryz.prog 50 = 5 := by kernel_rfl
theorem tyK_50 : tyK Tryz.prog 50 = some none := by kernel_rfl
theorem elemK_50 : elemK Tryz.prog 50 = none := by kernel_rfl
theorem eqKind_51 : eqKind Tryz.prog 51 = 0 := by kernel_rfl
theorem tyK_51 : tyK Tryz.prog 51 = some none := by kernel_rfl
theorem elemK_51 : elemK Tryz.prog 51 = none := by kernel_rfl
theorem eqKind_52 : eqKind Tryz.prog 52 = 2 := by kernel_rfl
theorem tyK_52 : tyK Tryz.prog 52 = some none := by kernel_rfl
theorem elemK_52 : elemK Tryz.prog 52 = none := by kernel_rfl
theorem eqKind_53 : eqKind Tryz.prog 53 = 3 := by kernel_rfl
theorem tyK_53 : tyK Tryz.prog 53 = some none := by kernel_rfl
theorem elemK_53 : elemK Tryz.prog 53 = some (5, 1) := by kernel_rfl
theorem elI_53 : elI Tryz.prog 53 = some (5, 1, 1) := by kernel_rfl
theorem eqKind_54 : eqKind Tryz.prog 54 = 0 := by kernel_rfl
theorem tyK_54 : tyK Tryz.prog 54 = some (some 2) := by kernel_rfl
theorem bldI_54 : bldI Tryz.prog 54 = some ([.pointer none, .slice none 0 0], [(0, 1), (1, 1)]) := by kernel_rfl
theorem elemK_54 : elemK Tryz.prog 54 = none := by kernel_rfl
theorem fieldK_54_0 : fieldK Tryz.prog 54 0 = some (0, none) := by kernel_rfl
theorem fieldK_54_1 : fieldK Tryz.prog 54 1 = some (1, none) := by kernel_rfl
theorem eqKind_55 : eqKind Tryz.prog 55 = 0 := by kernel_rfl
theorem tyK_55 : tyK Tryz.prog 55 = some (some 2) := by kernel_rfl
theorem bldI_55 : bldI Tryz.prog 55 = some ([.pointer none, .slice none 0 0], [(0, 1), (1, 1)]) := by kernel_rfl
theorem elemK_55 : elemK Tryz.prog 55 = none := by kernel_rfl
theorem fieldK_55_0 : fieldK Tryz.prog 55 0 = some (0, none) := by kernel_rfl
theorem fieldK_55_1 : fieldK Tryz.prog 55 1 = some (1, none) := by kernel_rfl
theorem eqKind_56 : eqKind Tryz.prog 56 = 2 := by kernel_rfl
theorem tyK_56 : tyK Tryz.prog 56 = some none := by kernel_rfl
theorem elemK_56 : elemK Tryz.prog 56 = none := by kernel_rfl
theorem eqKind_57 : eqKind Tryz.prog 57 = 0 := by kernel_rfl
theorem tyK_57 : tyK Tryz.prog 57 = some (some 3) := by kernel_rfl
theorem bldI_57 : bldI Tryz.prog 57 = some ([str [], .int .i64 0, .pointer none], [(0, 1), (1, 1), (2, 1)]) := by kernel_rfl
theorem elemK_57 : elemK Tryz.prog 57 = none := by kernel_rfl
theorem fieldK_57_0 : fieldK Tryz.prog 57 0 = some (0, none) := by kernel_rfl
theorem fieldK_57_1 : fieldK Tryz.prog 57 1 = some (1, none) := by kernel_rfl
theorem fieldK_57_2 : fieldK Tryz.prog 57 2 = some (2, none) := by kernel_rfl
theorem eqKind_58 : eqKind Tryz.prog 58 = 0 := by kernel_rfl
theorem tyK_58 : tyK Tryz.prog 58 = some (some 3) := by kernel_rfl
theorem bldI_58 : bldI Tryz.prog 58 = some ([str [], .int .i64 0, .pointer none], [(0, 1), (1, 1), (2, 1)]) := by kernel_rfl
theorem elemK_58 : elemK Tryz.prog 58 = none := by kernel_rfl
theorem fieldK_58_0 : fieldK Tryz.prog 58 0 = some (0, none) := by kernel_rfl
theorem fieldK_58_1 : fieldK Tryz.prog 58 1 = some (1, none) := by kernel_rfl
theorem fieldK_58_2 : fieldK Tryz.prog 58 2 = some (2, none) := by kernel_rfl
theorem eqKind_59 : eqKind Tryz.prog 59 = 0 := by kernel_rfl
theorem tyK_59 : tyK Tryz.prog 59 = some none := by kernel_rfl
theorem elemK_59 : elemK Tryz.prog 59 = none := by kernel_rfl
theorem eqKind_60 : eqKind Tryz.prog 60 = 5 := by kernel_rfl
theorem tyK_60 : tyK Tryz.prog 60 = some none := by kernel_rfl
theorem elemK_60 : elemK Tryz.prog 60 = none := by kernel_rfl
theorem eqKind_61 : eqKind Tryz.prog 61 = 5 := by kernel_rfl
theorem tyK_61 : tyK Tryz.prog 61 = some none := by kernel_rfl
theorem elemK_61 : elemK Tryz.prog 61 = none := by kernel_rfl
theorem eqKind_62 : eqKind Tryz.prog 62 = 2 := by kernel_rfl
theorem tyK_62 : tyK Tryz.prog 62 = some none := by kernel_rfl
theorem elemK_62 : elemK Tryz.prog 62 = none := by kernel_rfl
theorem eqKind_63 : eqKind Tryz.prog 63 = 0 := by kernel_rfl
theorem tyK_63 : tyK Tryz.prog 63 = some (some 4) := by kernel_rfl
theorem bldI_63 : bldI Tryz.prog 63 = some ([.int .i64 0, .bool false, .pointer none, .pointer none], [(0, 1), (1, 1), (2, 1), (3, 1)]) := by kernel_rfl
theorem elemK_63 : elemK Tryz.prog 63 = none := by kernel_rfl
theorem fieldK_63_0 : fieldK Tryz.prog 63 0 = some (0, none) := by kernel_rfl
theorem fieldK_63_1 : fieldK Tryz.prog 63 1 = some (1, none) := by kernel_rfl
theorem fieldK_63_2 : fieldK Tryz.prog 63 2 = some (2, none) := by kernel_rfl
theorem fieldK_63_3 : fieldK Tryz.prog 63 3 = some (3, none) := by kernel_rfl
theorem eqKind_64 : eqKind Tryz.prog 64 = 0 := by kernel_rfl
theorem tyK_64 : tyK Tryz.prog 64 = some (some 4) := by kernel_rfl
theorem bldI_64 : bldI Tryz.prog 64 = some ([.int .i64 0, .bool false, .pointer none, .pointer none], [(0, 1), (1, 1), (2, 1), (3, 1)]) := by kernel_rfl
theorem elemK_64 : elemK Tryz.prog 64 = none := by kernel_rfl
theorem fieldK_64_0 : fieldK Tryz.prog 64 0 = some (0, none) := by kernel_rfl
theorem fieldK_64_1 : fieldK Tryz.prog 64 1 = some (1, none) := by kernel_rfl
theorem fieldK_64_2 : fieldK Tryz.prog 64 2 = some (2, none) := by kernel_rfl
theorem fieldK_64_3 : fieldK Tryz.prog 64 3 = some (3, none) := by kernel_rfl
theorem eqKind_65 : eqKind Tryz.prog 65 = 5 := by kernel_rfl
theorem tyK_65 : tyK Tryz.prog 65 = some none := by kernel_rfl
theorem elemK_65 : elemK Tryz.prog 65 = none := by kernel_rfl
theorem eqKind_66 : eqKind Tryz.prog 66 = 5 := by kernel_rfl
theorem tyK_66 : tyK Tryz.prog 66 = some none := by kernel_rfl
theorem elemK_66 : elemK Tryz.prog 66 = none := by kernel_rfl
theorem eqKind_67 : eqKind Tryz.prog 67 = 0 := by kernel_rfl
theorem tyK_67 : tyK Tryz.prog 67 = some none := by kernel_rfl
theorem elemK_67 : elemK Tryz.prog 67 = none := by kernel_rfl
theorem eqKind_68 : eqKind Tryz.prog 68 = 5 := by kernel_rfl
theorem tyK_68 : tyK Tryz.prog 68 = some none := by kernel_rfl
theorem elemK_68 : elemK Tryz.prog 68 = none := by kernel_rfl
theorem eqKind_69 : eqKind Tryz.prog 69 = 5 := by kernel_rfl
theorem tyK_69 : tyK Tryz.prog 69 = some none := by kernel_rfl
theorem elemK_69 : elemK Tryz.prog 69 = none := by kernel_rfl
theorem eqKind_70 : eqKind Tryz.prog 70 = 5 := by kernel_rfl
theorem tyK_70 : tyK Tryz.prog 70 = some none := by kernel_rfl
theorem elemK_70 : elemK Tryz.prog 70 = none := by kernel_rfl
theorem eqKind_71 : eqKind Tryz.prog 71 = 0 := by kernel_rfl
theorem tyK_71 : tyK Tryz.prog 71 = some none := by kernel_rfl
theorem elemK_71 : elemK Tryz.prog 71 = none := by kernel_rfl
theorem eqKind_72 : eqKind Tryz.prog 72 = 5 := by kernel_rfl
theorem tyK_72 : tyK Tryz.prog 72 = some none := by kernel_rfl
theorem elemK_72 : elemK Tryz.prog 72 = none := by kernel_rfl
theorem eqKind_73 : eqKind Tryz.prog 73 = 2 := by kernel_rfl
theorem tyK_73 : tyK Tryz.prog 73 = some none := by kernel_rfl
theorem elemK_73 : elemK Tryz.prog 73 = none := by kernel_rfl
theorem eqKind_74 : eqKind Tryz.prog 74 = 9 := by kernel_rfl
theorem tyK_74 : tyK Tryz.prog 74 = some (some 2) := by kernel_rfl
theorem bldI_74 : bldI Tryz.prog 74 = some ([.int .i64 0, .int .i64 0], [(0, 1), (1, 1)]) := by kernel_rfl
theorem elemK_74 : elemK Tryz.prog 74 = none := by kernel_rfl
theorem fieldK_74_0 : fieldK Tryz.prog 74 0 = some (0, none) := by kernel_rfl
theorem fieldK_74_1 : fieldK Tryz.prog 74 1 = some (1, none) := by kernel_rfl
theorem eqKind_75 : eqKind Tryz.prog 75 = 9 := by kernel_rfl
theorem tyK_75 : tyK Tryz.prog 75 = some (some 2) := by kernel_rfl
theorem bldI_75 : bldI Tryz.prog 75 = some ([.int .i64 0, .int .i64 0], [(0, 1), (1, 1)]) := by kernel_rfl
theorem elemK_75 : elemK Tryz.prog 75 = none := by kernel_rfl
theorem fieldK_75_0 : fieldK Tryz.prog 75 0 = some (0, none) := by kernel_rfl
theorem fieldK_75_1 : fieldK Tryz.prog 75 1 = some (1, none) := by kernel_rfl
theorem eqKind_76 : eqKind Tryz.prog 76 = 5 := by kernel_rfl
theorem tyK_76 : tyK Tryz.prog 76 = some none := by kernel_rfl
theorem elemK_76 : elemK Tryz.prog 76 = none := by kernel_rfl
theorem eqKind_77 : eqKind Tryz.prog 77 = 5 := by kernel_rfl
theorem tyK_77 : tyK Tryz.prog 77 = some none := by kernel_rfl
theorem elemK_77 : elemK Tryz.prog 77 = none := by kernel_rfl
theorem eqKind_78 : eqKind Tryz.prog 78 = 5 := by kernel_rfl
theorem tyK_78 : tyK Tryz.prog 78 = some none := by kernel_rfl
theorem elemK_78 : elemK Tryz.prog 78 = none := by kernel_rfl
theorem eqKind_79 : eqKind Tryz.prog 79 = 3 := by kernel_rfl
theorem tyK_79 : tyK Tryz.prog 79 = some none := by kernel_rfl
theorem elemK_79 : elemK Tryz.prog 79 = some (95, 2) := by kernel_rfl
theorem elI_79 : elI Tryz.prog 79 = some (95, 2, 16) := by kernel_rfl
theorem eqKind_80 : eqKind Tryz.prog 80 = 3 := by kernel_rfl
theorem tyK_80 : tyK Tryz.prog 80 = some none := by kernel_rfl
theorem elemK_80 : elemK Tryz.prog 80 = some (95, 2) := by kernel_rfl
theorem elI_80 : elI Tryz.prog 80 = some (95, 2, 16) := by kernel_rfl
theorem eqKind_81 : eqKind Tryz.prog 81 = 0 := by kernel_rfl
theorem tyK_81 : tyK Tryz.prog 81 = some (some 6) := by kernel_rfl
theorem bldI_81 : bldI Tryz.prog 81 = some ([.int .i64 0, .int .i64 0, .slice none 0 0, str [], .pointer none, .pointer none], [(0, 1), (1, 1), (2, 1), (3, 1), (4, 1), (5, 1)]) := by kernel_rfl
theorem elemK_81 : elemK Tryz.prog 81 = none := by kernel_rfl
theorem fieldK_81_0 : fieldK Tryz.prog 81 0 = some (0, none) := by kernel_rfl
theorem fieldK_81_1 : fieldK Tryz.prog 81 1 = some (1, none) := by kernel_rfl
theorem fieldK_81_2 : fieldK Tryz.prog 81 2 = some (2, none) := by kernel_rfl
theorem fieldK_81_3 : fieldK Tryz.prog 81 3 = some (3, none) := by kernel_rfl
theorem fieldK_81_4 : fieldK Tryz.prog 81 4 = some (4, none) := by kernel_rfl
theorem fieldK_81_5 : fieldK Tryz.prog 81 5 = some (5, none) := by kernel_rfl
theorem eqKind_82 : eqKind Tryz.prog 82 = 0 := by kernel_rfl
theorem tyK_82 : tyK Tryz.prog 82 = some (some 6) := by kernel_rfl
theorem bldI_82 : bldI Tryz.prog 82 = some ([.int .i64 0, .int .i64 0, .slice none 0 0, str [], .pointer none, .pointer none], [(0, 1), (1, 1), (2, 1), (3, 1), (4, 1), (5, 1)]) := by kernel_rfl
theorem elemK_82 : elemK Tryz.prog 82 = none := by kernel_rfl
theorem fieldK_82_0 : fieldK Tryz.prog 82 0 = some (0, none) := by kernel_rfl
theorem fieldK_82_1 : fieldK Tryz.prog 82 1 = some (1, none) := by kernel_rfl
theorem fieldK_82_2 : fieldK Tryz.prog 82 2 = some (2, none) := by kernel_rfl
theorem fieldK_82_3 : fieldK Tryz.prog 82 3 = some (3, none) := by kernel_rfl
theorem fieldK_82_4 : fieldK Tryz.prog 82 4 = some (4, none) := by kernel_rfl
theorem fieldK_82_5 : fieldK Tryz.prog 82 5 = some (5, none) := by kernel_rfl
theorem eqKind_83 : eqKind Tryz.prog 83 = 5 := by kernel_rfl
theorem tyK_83 : tyK Tryz.prog 83 = some none := by kernel_rfl
theorem elemK_83 : elemK Tryz.prog 83 = none := by kernel_rfl
theorem eqKind_84 : eqKind Tryz.prog 84 = 5 := by kernel_rfl
theorem tyK_84 : tyK Tryz.prog 84 = some none := by kernel_rfl
theorem elemK_84 : elemK Tryz.prog 84 = none := by kernel_rfl
theorem eqKind_85 : eqKind Tryz.prog 85 = 2 := by kernel_rfl
theorem tyK_85 : tyK Tryz.prog 85 = some none := by kernel_rfl
theorem elemK_85 : elemK Tryz.prog 85 = none := by kernel_rfl
theorem eqKind_86 : eqKind Tryz.prog 86 = 5 := by kernel_rfl
theorem tyK_86 : tyK Tryz.prog 86 = some none := by kernel_rfl
theorem elemK_86 : elemK Tryz.prog 86 = none := by kernel_rfl
theorem eqKind_87 : eqKind Tryz.prog 87 = 5 := by kernel_rfl
theorem tyK_87 : tyK Tryz.prog 87 = some none := by kernel_rfl
theorem elemK_87 : elemK Tryz.prog 87 = none := by kernel_rfl
theorem eqKind_88 : eqKind Tryz.prog 88 = 3 := by kernel_rfl
theorem tyK_88 : tyK Tryz.prog 88 = some none := by kernel_rfl
theorem elemK_88 : elemK Tryz.prog 88 = some (62, 1) := by kernel_rfl
theorem elI_88 : elI Tryz.prog 88 = some (62, 1, 8) := by kernel_rfl
theorem eqKind_89 : eqKind Tryz.prog 89 = 0 := by kernel_rfl
theorem tyK_89 : tyK Tryz.prog 89 = some (some 5) := by kernel_rfl
theorem bldI_89 : bldI Tryz.prog 89 = some ([.int .i64 0, .pointer none, .slice none 0 0, .int .i64 0, .int .i64 0], [(0, 1), (1, 1), (2, 1), (3, 1), (4, 1)]) := by kernel_rfl
theorem elemK_89 : elemK Tryz.prog 89 = none := by kernel_rfl
theorem fieldK_89_0 : fieldK Tryz.prog 89 0 = some (0, none) := by kernel_rfl
theorem fieldK_89_1 : fieldK Tryz.prog 89 1 = some (1, none) := by kernel_rfl
theorem fieldK_89_2 : fieldK Tryz.prog 89 2 = some (2, none) := by kernel_rfl
theorem fieldK_89_3 : fieldK Tryz.prog 89 3 = some (3, none) := by kernel_rfl
theorem fieldK_89_4 : fieldK Tryz.prog 89 4 = some (4, none) := by kernel_rfl
theorem eqKind_90 : eqKind Tryz.prog 90 = 0 := by kernel_rfl
theorem tyK_90 : tyK Tryz.prog 90 = some (some 5) := by kernel_rfl
theorem bldI_90 : bldI Tryz.prog 90 = some ([.int .i64 0, .pointer none, .slice none 0 0, .int .i64 0, .int .i64 0], [(0, 1), (1, 1), (2, 1), (3, 1), (4, 1)]) := by kernel_rfl
theorem elemK_90 : elemK Tryz.prog 90 = none := by kernel_rfl
theorem fieldK_90_0 : fieldK Tryz.prog 90 0 = some (0, none) := by kernel_rfl
theorem fieldK_90_1 : fieldK Tryz.prog 90 1 = some (1, none) := by kernel_rfl
theorem fieldK_90_2 : fieldK Tryz.prog 90 2 = some (2, none) := by kernel_rfl
theorem fieldK_90_3 : fieldK Tryz.prog 90 3 = some (3, none) := by kernel_rfl
theorem fieldK_90_4 : fieldK Tryz.prog 90 4 = some (4, none) := by kernel_rfl
theorem eqKind_91 : eqKind Tryz.prog 91 = 0 := by kernel_rfl
theorem tyK_91 : tyK Tryz.prog 91 = some none := by kernel_rfl
theorem elemK_91 : elemK Tryz.prog 91 = none := by kernel_rfl
theorem eqKind_92 : eqKind Tryz.prog 92 = 5 := by kernel_rfl
theorem tyK_92 : tyK Tryz.prog 92 = some none := by kernel_rfl
theorem elemK_92 : elemK Tryz.prog 92 = none := by kernel_rfl
theorem eqKind_93 : eqKind Tryz.prog 93 = 3 := by kernel_rfl
theorem tyK_93 : tyK Tryz.prog 93 = some none := by kernel_rfl
theorem elemK_93 : elemK Tryz.prog 93 = some (9, 1) := by kernel_rfl
theorem elI_93 : elI Tryz.prog 93 = some (9, 1, 16) := by kernel_rfl
theorem eqKind_94 : eqKind Tryz.prog 94 = 9 := by kernel_rfl
theorem tyK_94 : tyK Tryz.prog 94 = some (some 2) := by kernel_rfl
theorem bldI_94 : bldI Tryz.prog 94 = some ([.int .i64 0, .int .i64 0], [(0, 1), (1, 1)]) := by kernel_rfl
theorem elemK_94 : elemK Tryz.prog 94 = none := by kernel_rfl
theorem fieldK_94_0 : fieldK Tryz.prog 94 0 = some (0, none) := by kernel_rfl
theorem fieldK_94_1 : fieldK Tryz.prog 94 1 = some (1, none) := by kernel_rfl
theorem eqKind_95 : eqKind Tryz.prog 95 = 9 := by kernel_rfl
theorem tyK_95 : tyK Tryz.prog 95 = some (some 2) := by kernel_rfl
theorem bldI_95 : bldI Tryz.prog 95 = some ([.int .i64 0, .int .i64 0], [(0, 1), (1, 1)]) := by kernel_rfl
theorem elemK_95 : elemK Tryz.prog 95 = none := by kernel_rfl
theorem fieldK_95_0 : fieldK Tryz.prog 95 0 = some (0, none) := by kernel_rfl
theorem fieldK_95_1 : fieldK Tryz.prog 95 1 = some (1, none) := by kernel_rfl
theorem eqKind_96 : eqKind Tryz.prog 96 = 5 := by kernel_rfl
theorem tyK_96 : tyK Tryz.prog 96 = some none := by kernel_rfl
theorem elemK_96 : elemK Tryz.prog 96 = none := by kernel_rfl
theorem eqKind_97 : eqKind Tryz.prog 97 = 5 := by kernel_rfl
theorem tyK_97 : tyK Tryz.prog 97 = some none := by kernel_rfl
theorem elemK_97 : elemK Tryz.prog 97 = none := by kernel_rfl
theorem eqKind_98 : eqKind Tryz.prog 98 = 5 := by kernel_rfl
theorem tyK_98 : tyK Tryz.prog 98 = some none := by kernel_rfl
theorem elemK_98 : elemK Tryz.prog 98 = none := by kernel_rfl
theorem eqKind_99 : eqKind Tryz.prog 99 = 5 := by kernel_rfl
theorem tyK_99 : tyK Tryz.prog 99 = some none := by kernel_rfl
theorem elemK_99 : elemK Tryz.prog 99 = none := by kernel_rfl
theorem eqKind_100 : eqKind Tryz.prog 100 = 0 := by kernel_rfl
theorem tyK_100 : tyK Tryz.prog 100 = some none := by kernel_rfl
theorem elemK_100 : elemK Tryz.prog 100 = none := by kernel_rfl
theorem eqKind_101 : eqKind Tryz.prog 101 = 5 := by kernel_rfl
theorem tyK_101 : tyK Tryz.prog 101 = some none := by kernel_rfl
theorem elemK_101 : elemK Tryz.prog 101 = none := by kernel_rfl
theorem eqKind_102 : eqKind Tryz.prog 102 = 5 := by kernel_rfl
theorem tyK_102 : tyK Tryz.prog 102 = some none := by kernel_rfl
theorem elemK_102 : elemK Tryz.prog 102 = none := by kernel_rfl
theorem eqKind_103 : eqKind Tryz.prog 103 = 0 := by kernel_rfl
theorem tyK_103 : tyK Tryz.prog 103 = some none := by kernel_rfl
theorem elemK_103 : elemK Tryz.prog 103 = none := by kernel_rfl
theorem eqKind_104 : eqKind Tryz.prog 104 = 0 := by kernel_rfl
theorem tyK_104 : tyK Tryz.prog 104 = some none := by kernel_rfl
theorem elemK_104 : elemK Tryz.prog 104 = none := by kernel_rfl
theorem eqKind_105 : eqKind Tryz.prog 105 = 5 := by kernel_rfl
theorem tyK_105 : tyK Tryz.prog 105 = some none := by kernel_rfl
theorem elemK_105 : elemK Tryz.prog 105 = none := by kernel_rfl
theorem eqKind_106 : eqKind Tryz.prog 106 = 4 := by kernel_rfl
theorem tyK_106 : tyK Tryz.prog 106 = some none := by kernel_rfl
theorem elemK_106 : elemK Tryz.prog 106 = none := by kernel_rfl
theorem eqKind_107 : eqKind Tryz.prog 107 = 0 := by kernel_rfl
theorem tyK_107 : tyK Tryz.prog 107 = some none := by kernel_rfl
theorem elemK_107 : elemK Tryz.prog 107 = none := by kernel_rfl
theorem eqKind_108 : eqKind Tryz.prog 108 = 5 := by kernel_rfl
theorem tyK_108 : tyK Tryz.prog 108 = some none := by kernel_rfl
theorem elemK_108 : elemK Tryz.prog 108 = none := by kernel_rfl
theorem eqKind_109 : eqKind Tryz.prog 109 = 5 := by kernel_rfl
theorem tyK_109 : tyK Tryz.prog 109 = some none := by kernel_rfl
theorem elemK_109 : elemK Tryz.prog 109 = none := by kernel_rfl
theorem eqKind_110 : eqKind Tryz.prog 110 = 5 := by kernel_rfl
theorem tyK_110 : tyK Tryz.prog 110 = some none := by kernel_rfl
theorem elemK_110 : elemK Tryz.prog 110 = none := by kernel_rfl
theorem eqKind_111 : eqKind Tryz.prog 111 = 5 := by kernel_rfl
theorem tyK_111 : tyK Tryz.prog 111 = some none := by kernel_rfl
theorem elemK_111 : elemK Tryz.prog 111 = none := by kernel_rfl
theorem eqKind_112 : eqKind Tryz.prog 112 = 0 := by kernel_rfl
theorem tyK_112 : tyK Tryz.prog 112 = some none := by kernel_rfl
theorem elemK_112 : elemK Tryz.prog 112 = none := by kernel_rfl
theorem eqKind_113 : eqKind Tryz.prog 113 = 5 := by kernel_rfl
theorem tyK_113 : tyK Tryz.prog 113 = some none := by kernel_rfl
theorem elemK_113 : elemK Tryz.prog 113 = none := by kernel_rfl
theorem eqKind_114 : eqKind Tryz.prog 114 = 0 := by kernel_rfl
theorem tyK_114 : tyK Tryz.prog 114 = some none := by kernel_rfl
theorem elemK_114 : elemK Tryz.prog 114 = none := by kernel_rfl
theorem eqKind_115 : eqKind Tryz.prog 115 = 5 := by kernel_rfl
theorem tyK_115 : tyK Tryz.prog 115 = some none := by kernel_rfl
theorem elemK_115 : elemK Tryz.prog 115 = none := by kernel_rfl
theorem eqKind_116 : eqKind Tryz.prog 116 = 5 := by kernel_rfl
theorem tyK_116 : tyK Tryz.prog 116 = some none := by kernel_rfl
theorem elemK_116 : elemK Tryz.prog 116 = none := by kernel_rfl
theorem eqKind_117 : eqKind Tryz.prog 117 = 5 := by kernel_rfl
theorem tyK_117 : tyK Tryz.prog 117 = some none := by kernel_rfl
theorem elemK_117 : elemK Tryz.prog 117 = none := by kernel_rfl
theorem eqKind_118 : eqKind Tryz.prog 118 = 5 := by kernel_rfl
theorem tyK_118 : tyK Tryz.prog 118 = some none := by kernel_rfl
theorem elemK_118 : elemK Tryz.prog 118 = none := by kernel_rfl
theorem eqKind_119 : eqKind Tryz.prog 119 = 5 := by kernel_rfl
theorem tyK_119 : tyK Tryz.prog 119 = some none := by kernel_rfl
theorem elemK_119 : elemK Tryz.prog 119 = none := by kernel_rfl
theorem eqKind_120 : eqKind Tryz.prog 120 = 0 := by kernel_rfl
theorem tyK_120 : tyK Tryz.prog 120 = some (some 24) := by kernel_rfl
theorem elemK_120 : elemK Tryz.prog 120 = none := by kernel_rfl
theorem arrK_120 : arrK Tryz.prog 120 = some (24, 5, 1) := by kernel_rfl
theorem eqKind_121 : eqKind Tryz.prog 121 = 0 := by kernel_rfl
theorem tyK_121 : tyK Tryz.prog 121 = some none := by kernel_rfl
theorem elemK_121 : elemK Tryz.prog 121 = none := by kernel_rfl
theorem eqKind_122 : eqKind Tryz.prog 122 = 5 := by kernel_rfl
theorem tyK_122 : tyK Tryz.prog 122 = some none := by kernel_rfl
theorem elemK_122 : elemK Tryz.prog 122 = none := by kernel_rfl
theorem eqKind_123 : eqKind Tryz.prog 123 = 5 := by kernel_rfl
theorem tyK_123 : tyK Tryz.prog 123 = some none := by kernel_rfl
theorem elemK_123 : elemK Tryz.prog 123 = none := by kernel_rfl
theorem eqKind_124 : eqKind Tryz.prog 124 = 0 := by kernel_rfl
theorem tyK_124 : tyK Tryz.prog 124 = some none := by kernel_rfl
theorem elemK_124 : elemK Tryz.prog 124 = none := by kernel_rfl
theorem eqKind_125 : eqKind Tryz.prog 125 = 5 := by kernel_rfl
theorem tyK_125 : tyK Tryz.prog 125 = some none := by kernel_rfl
theorem elemK_125 : elemK Tryz.prog 125 = none := by kernel_rfl
theorem eqKind_126 : eqKind Tryz.prog 126 = 5 := by kernel_rfl
theorem tyK_126 : tyK Tryz.prog 126 = some none := by kernel_rfl
theorem elemK_126 : elemK Tryz.prog 126 = none := by kernel_rfl
theorem eqKind_127 : eqKind Tryz.prog 127 = 0 := by kernel_rfl
theorem tyK_127 : tyK Tryz.prog 127 = some none := by kernel_rfl
theorem elemK_127 : elemK Tryz.prog 127 = none := by kernel_rfl
theorem eqKind_128 : eqKind Tryz.prog 128 = 5 := by kernel_rfl
theorem tyK_128 : tyK Tryz.prog 128 = some none := by kernel_rfl
theorem elemK_128 : elemK Tryz.prog 128 = none := by kernel_rfl
theorem eqKind_129 : eqKind Tryz.prog 129 = 0 := by kernel_rfl
theorem tyK_129 : tyK Tryz.prog 129 = some none := by kernel_rfl
theorem elemK_129 : elemK Tryz.prog 129 = none := by kernel_rfl
theorem eqKind_130 : eqKind Tryz.prog 130 = 0 := by kernel_rfl
theorem tyK_130 : tyK Tryz.prog 130 = some none := by kernel_rfl
theorem elemK_130 : elemK Tryz.prog 130 = none := by kernel_rfl
theorem eqKind_131 : eqKind Tryz.prog 131 = 5 := by kernel_rfl
theorem tyK_131 : tyK Tryz.prog 131 = some none := by kernel_rfl
theorem elemK_131 : elemK Tryz.prog 131 = none := by kernel_rfl
theorem eqKind_132 : eqKind Tryz.prog 132 = 2 := by kernel_rfl
theorem tyK_132 : tyK Tryz.prog 132 = some none := by kernel_rfl
theorem elemK_132 : elemK Tryz.prog 132 = none := by kernel_rfl
theorem eqKind_133 : eqKind Tryz.prog 133 = 5 := by kernel_rfl
theorem tyK_133 : tyK Tryz.prog 133 = some none := by kernel_rfl
theorem elemK_133 : elemK Tryz.prog 133 = none := by kernel_rfl
theorem eqKind_134 : eqKind Tryz.prog 134 = 5 := by kernel_rfl
theorem tyK_134 : tyK Tryz.prog 134 = some none := by kernel_rfl
theorem elemK_134 : elemK Tryz.prog 134 = none := by kernel_rfl
theorem eqKind_135 : eqKind Tryz.prog 135 = 5 := by kernel_rfl
theorem tyK_135 : tyK Tryz.prog 135 = some none := by kernel_rfl
theorem elemK_135 : elemK Tryz.prog 135 = none := by kernel_rfl
theorem eqKind_136 : eqKind Tryz.prog 136 = 0 := by kernel_rfl
theorem tyK_136 : tyK Tryz.prog 136 = some (some 20) := by kernel_rfl
theorem elemK_136 : elemK Tryz.prog 136 = none := by kernel_rfl
theorem arrK_136 : arrK Tryz.prog 136 = some (20, 121, 1) := by kernel_rfl
theorem eqKind_137 : eqKind Tryz.prog 137 = 0 := by kernel_rfl
theorem tyK_137 : tyK Tryz.prog 137 = some (some 65) := by kernel_rfl
theorem elemK_137 : elemK Tryz.prog 137 = none := by kernel_rfl
theorem arrK_137 : arrK Tryz.prog 137 = some (65, 5, 1) := by kernel_rfl
theorem eqKind_138 : eqKind Tryz.prog 138 = 5 := by kernel_rfl
theorem tyK_138 : tyK Tryz.prog 138 = some none := by kernel_rfl
theorem elemK_138 : elemK Tryz.prog 138 = none := by kernel_rfl
theorem eqKind_139 : eqKind Tryz.prog 139 = 5 := by kernel_rfl
theorem tyK_139 : tyK Tryz.prog 139 = some none := by kernel_rfl
theorem elemK_139 : elemK Tryz.prog 139 = none := by kernel_rfl
theorem eqKind_140 : eqKind Tryz.prog 140 = 5 := by kernel_rfl
theorem tyK_140 : tyK Tryz.prog 140 = some none := by kernel_rfl
theorem elemK_140 : elemK Tryz.prog 140 = none := by kernel_rfl
theorem eqKind_141 : eqKind Tryz.prog 141 = 5 := by kernel_rfl
theorem tyK_141 : tyK Tryz.prog 141 = some none := by kernel_rfl
theorem elemK_141 : elemK Tryz.prog 141 = none := by kernel_rfl
theorem eqKind_142 : eqKind Tryz.prog 142 = 0 := by kernel_rfl
theorem tyK_142 : tyK Tryz.prog 142 = some (some 3) := by kernel_rfl
theorem bldI_142 : bldI Tryz.prog 142 = some ([str [], str [], .nilIface], [(0, 1), (1, 1), (2, 1)]) := by kernel_rfl
theorem elemK_142 : elemK Tryz.prog 142 = none := by kernel_rfl
theorem fieldK_142_0 : fieldK Tryz.prog 142 0 = some (0, none) := by kernel_rfl
theorem fieldK_142_1 : fieldK Tryz.prog 142 1 = some (1, none) := by kernel_rfl
theorem fieldK_142_2 : fieldK Tryz.prog 142 2 = some (2, none) := by kernel_rfl
theorem eqKind_143 : eqKind Tryz.prog 143 = 0 := by kernel_rfl
theorem tyK_143 : tyK Tryz.prog 143 = some (some 3) := by kernel_rfl
theorem bldI_143 : bldI Tryz.prog 143 = some ([str [], str [], .nilIface], [(0, 1), (1, 1), (2, 1)]) := by kernel_rfl
theorem elemK_143 : elemK Tryz.prog 143 = none := by kernel_rfl
theorem fieldK_143_0 : fieldK Tryz.prog 143 0 = some (0, none) := by kernel_rfl
theorem fieldK_143_1 : fieldK Tryz.prog 143 1 = some (1, none) := by kernel_rfl
theorem fieldK_143_2 : fieldK Tryz.prog 143 2 = some (2, none) := by kernel_rfl
theorem eqKind_144 : eqKind Tryz.prog 144 = 5 := by kernel_rfl
theorem tyK_144 : tyK Tryz.prog 144 = some none := by kernel_rfl
theorem elemK_144 : elemK Tryz.prog 144 = none := by kernel_rfl
theorem eqKind_145 : eqKind Tryz.prog 145 = 5 := by kernel_rfl
theorem tyK_145 : tyK Tryz.prog 145 = some none := by kernel_rfl
theorem elemK_145 : elemK Tryz.prog 145 = none := by kernel_rfl
theorem eqKind_146 : eqKind Tryz.prog 146 = 0 := by kernel_rfl
theorem tyK_146 : tyK Tryz.prog 146 = some (some 256) := by kernel_rfl
theorem elemK_146 : elemK Tryz.prog 146 = none := by kernel_rfl
theorem arrK_146 : arrK Tryz.prog 146 = some (256, 5, 1) := by kernel_rfl
theorem eqKind_147 : eqKind Tryz.prog 147 = 9 := by kernel_rfl
theorem tyK_147 : tyK Tryz.prog 147 = some (some 2) := by kernel_rfl
theorem bldI_147 : bldI Tryz.prog 147 = some ([.int .u8 0, .int .u8 0], [(0, 1), (1, 1)]) := by kernel_rfl
theorem elemK_147 : elemK Tryz.prog 147 = none := by kernel_rfl
theorem fieldK_147_0 : fieldK Tryz.prog 147 0 = some (0, none) := by kernel_rfl
theorem fieldK_147_1 : fieldK Tryz.prog 147 1 = some (1, none) := by kernel_rfl
theorem eqKind_148 : eqKind Tryz.prog 148 = 9 := by kernel_rfl
theorem tyK_148 : tyK Tryz.prog 148 = some (some 2) := by kernel_rfl
theorem bldI_148 : bldI Tryz.prog 148 = some ([.int .u8 0, .int .u8 0], [(0, 1), (1, 1)]) := by kernel_rfl
theorem elemK_148 : elemK Tryz.prog 148 = none := by kernel_rfl
theorem fieldK_148_0 : fieldK Tryz.prog 148 0 = some (0, none) := by kernel_rfl
theorem fieldK_148_1 : fieldK Tryz.prog 148 1 = some (1, none) := by kernel_rfl
theorem eqKind_149 : eqKind Tryz.prog 149 = 0 := by kernel_rfl
theorem tyK_149 : tyK Tryz.prog 149 = some (some 32) := by kernel_rfl
theorem elemK_149 : elemK Tryz.prog 149 = none := by kernel_rfl
theorem arrK_149 : arrK Tryz.prog 149 = some (16, 148, 2) := by kernel_rfl
theorem eqKind_150 : eqKind Tryz.prog 150 = 2 := by kernel_rfl
theorem tyK_150 : tyK Tryz.prog 150 = some none := by kernel_rfl
theorem elemK_150 : elemK Tryz.prog 150 = none := by kernel_rfl
theorem eqKind_151 : eqKind Tryz.prog 151 = 0 := by kernel_rfl
theorem tyK_151 : tyK Tryz.prog 151 = some (some 1) := by kernel_rfl
theorem bldI_151 : bldI Tryz.prog 151 = some ([str []], [(0, 1)]) := by kernel_rfl
theorem elemK_151 : elemK Tryz.prog 151 = none := by kernel_rfl
theorem fieldK_151_0 : fieldK Tryz.prog 151 0 = some (0, none) := by kernel_rfl
theorem eqKind_152 : eqKind Tryz.prog 152 = 0 := by kernel_rfl
theorem tyK_152 : tyK Tryz.prog 152 = some (some 1) := by kernel_rfl
theorem bldI_152 : bldI Tryz.prog 152 = some ([str []], [(0, 1)]) := by kernel_rfl
theorem elemK_152 : elemK Tryz.prog 152 = none := by kernel_rfl
theorem fieldK_152_0 : fieldK Tryz.prog 152 0 = some (0, none) := by kernel_rfl
theorem eqKind_153 : eqKind Tryz.prog 153 = 0 := by kernel_rfl
theorem tyK_153 : tyK Tryz.prog 153 = some (some 32) := by kernel_rfl
theorem elemK_153 : elemK Tryz.prog 153 = none := by kernel_rfl
theorem arrK_153 : arrK Tryz.prog 153 = some (32, 5, 1) := by kernel_rfl
theorem eqKind_154 : eqKind Tryz.prog 154 = 0 := by kernel_rfl
theorem tyK_154 : tyK Tryz.prog 154 = some (some 64) := by kernel_rfl
theorem elemK_154 : elemK Tryz.prog 154 = none := by kernel_rfl
theorem arrK_154 : arrK Tryz.prog 154 = some (64, 5, 1) := by kernel_rfl
theorem eqKind_155 : eqKind Tryz.prog 155 = 0 := by kernel_rfl
theorem tyK_155 : tyK Tryz.prog 155 = some (some 4) := by kernel_rfl
theorem bldI_155 : bldI Tryz.prog 155 = some ([.pointer none, .pointer none, .pointer none, str []], [(0, 1), (1, 1), (2, 1), (3, 1)]) := by kernel_rfl
theorem elemK_155 : elemK Tryz.prog 155 = none := by kernel_rfl
theorem fieldK_155_0 : fieldK Tryz.prog 155 0 = some (0, none) := by kernel_rfl
theorem fieldK_155_1 : fieldK Tryz.prog 155 1 = some (1, none) := by kernel_rfl
theorem fieldK_155_2 : fieldK Tryz.prog 155 2 = some (2, none) := by kernel_rfl
theorem fieldK_155_3 : fieldK Tryz.prog 155 3 = some (3, none) := by kernel_rfl
theorem eqKind_156 : eqKind Tryz.prog 156 = 0 := by kernel_rfl
theorem tyK_156 : tyK Tryz.prog 156 = some (some 4) := by kernel_rfl
theorem bldI_156 : bldI Tryz.prog 156 = some ([.pointer none, .pointer none, .pointer none, str []], [(0, 1), (1, 1), (2, 1), (3, 1)]) := by kernel_rfl
theorem elemK_156 : elemK Tryz.prog 156 = none := by kernel_rfl
theorem fieldK_156_0 : fieldK Tryz.prog 156 0 = some (0, none) := by kernel_rfl
theorem fieldK_156_1 : fieldK Tryz.prog 156 1 = some (1, none) := by kernel_rfl
theorem fieldK_156_2 : fieldK Tryz.prog 156 2 = some (2, none) := by kernel_rfl
theorem fieldK_156_3 : fieldK Tryz.prog 156 3 = some (3, none) := by kernel_rfl
theorem eqKind_157 : eqKind Tryz.prog 157 = 0 := by kernel_rfl
theorem tyK_157 : tyK Tryz.prog 157 = some (some 0) := by kernel_rfl
theorem elemK_157 : elemK Tryz.prog 157 = none := by kernel_rfl
theorem arrK_157 : arrK Tryz.prog 157 = some (0, 16, 1) := by kernel_rfl
theorem eqKind_158 : eqKind Tryz.prog 158 = 0 := by kernel_rfl
theorem tyK_158 : tyK Tryz.prog 158 = some (some 0) := by kernel_rfl
theorem bldI_158 : bldI Tryz.prog 158 = some ([], [(0, 0)]) := by kernel_rfl
theorem elemK_158 : elemK Tryz.prog 158 = none := by kernel_rfl
theorem eqKind_159 : eqKind Tryz.prog 159 = 0 := by kernel_rfl
theorem tyK_159 : tyK Tryz.prog 159 = some (some 0) := by kernel_rfl
theorem bldI_159 : bldI Tryz.prog 159 = some ([], [(0, 0)]) := by kernel_rfl
theorem elemK_159 : elemK Tryz.prog 159 = none := by kernel_rfl
theorem eqKind_160 : eqKind Tryz.prog 160 = 0 := by kernel_rfl
theorem tyK_160 : tyK Tryz.prog 160 = some none := by kernel_rfl
theorem elemK_160 : elemK Tryz.prog 160 = none := by kernel_rfl
theorem eqKind_161 : eqKind Tryz.prog 161 = 0 := by kernel_rfl
theorem tyK_161 : tyK Tryz.prog 161 = some none := by kernel_rfl
theorem elemK_161 : elemK Tryz.prog 161 = none := by kernel_rfl
theorem eqKind_162 : eqKind Tryz.prog 162 = 5 := by kernel_rfl
theorem tyK_162 : tyK Tryz.prog 162 = some none := by kernel_rfl
theorem elemK_162 : elemK Tryz.prog 162 = none := by kernel_rfl
theorem eqKind_163 : eqKind Tryz.prog 163 = 0 := by kernel_rfl
theorem tyK_163 : tyK Tryz.prog 163 = some none := by kernel_rfl
theorem elemK_163 : elemK Tryz.prog 163 = none := by kernel_rfl
theorem eqKind_164 : eqKind Tryz.prog 164 = 0 := by kernel_rfl
theorem tyK_164 : tyK Tryz.prog 164 = some none := by kernel_rfl
theorem elemK_164 : elemK Tryz.prog 164 = none := by kernel_rfl
theorem eqKind_165 : eqKind Tryz.prog 165 = 0 := by kernel_rfl
theorem tyK_165 : tyK Tryz.prog 165 = some (some 11) := by kernel_rfl
theorem bldI_165 : bldI Tryz.prog 165 = some ([.int .u64 0, .int .u64 0, .int .u32 0, .int .u8 0, .int .u8 0, .int .u8 0, .int .u8 0, .nilFunc, .pointer none, .int .i32 0, .int .i32 0], [(0, 1), (1, 1), (2, 1), (3, 1), (4, 1), (5, 1), (6, 1), (7, 1), (8, 1), (9, 1), (10, 1)]) := by kernel_rfl
theorem elemK_165 : elemK Tryz.prog 165 = none := by kernel_rfl
theorem fieldK_165_0 : fieldK Tryz.prog 165 0 = some (0, none) := by kernel_rfl
theorem fieldK_165_1 : fieldK Tryz.prog 165 1 = some (1, none) := by kernel_rfl
theorem fieldK_165_2 : fieldK Tryz.prog 165 2 = some (2, none) := by kernel_rfl
theorem fieldK_165_3 : fieldK Tryz.prog 165 3 = some (3, none) := by kernel_rfl
theorem fieldK_165_4 : fieldK Tryz.prog 165 4 = some (4, none) := by kernel_rfl
theorem fieldK_165_5 : fieldK Tryz.prog 165 5 = some (5, none) := by kernel_rfl
theorem fieldK_165_6 : fieldK Tryz.prog 165 6 = some (6, none) := by kernel_rfl
theorem fieldK_165_7 : fieldK Tryz.prog 165 7 = some (7, none) := by kernel_rfl
theorem fieldK_165_8 : fieldK Tryz.prog 165 8 = some (8, none) := by kernel_rfl
theorem fieldK_165_9 : fieldK Tryz.prog 165 9 = some (9, none) := by kernel_rfl
theorem fieldK_165_10 : fieldK Tryz.prog 165 10 = some (10, none) := by kernel_rfl
theorem eqKind_166 : eqKind Tryz.prog 166 = 0 := by kernel_rfl
theorem tyK_166 : tyK Tryz.prog 166 = some (some 11) := by kernel_rfl
theorem bldI_166 : bldI Tryz.prog 166 = some ([.int .u64 0, .int .u64 0, .int .u32 0, .int .u8 0, .int .u8 0, .int .u8 0, .int .u8 0, .nilFunc, .pointer none, .int .i32 0, .int .i32 0], [(0, 1), (1, 1), (2, 1), (3, 1), (4, 1), (5, 1), (6, 1), (7, 1), (8, 1), (9, 1), (10, 1)]) := by kernel_rfl
theorem elemK_166 : elemK Tryz.prog 166 = none := by kernel_rfl
theorem fieldK_166_0 : fieldK Tryz.prog 166 0 = some (0, none) := by kernel_rfl
theorem fieldK_166_1 : fieldK Tryz.prog 166 1 = some (1, none) := by kernel_rfl
theorem fieldK_166_2 : fieldK Tryz.prog 166 2 = some (2, none) := by kernel_rfl
theorem fieldK_166_3 : fieldK Tryz.prog 166 3 = some (3, none) := by kernel_rfl
theorem fieldK_166_4 : fieldK Tryz.prog 166 4 = some (4, none) := by kernel_rfl
theorem fieldK_166_5 : fieldK Tryz.prog 166 5 = some (5, none) := by kernel_rfl
theorem fieldK_166_6 : fieldK Tryz.prog 166 6 = some (6, none) := by kernel_rfl
theorem fieldK_166_7 : fieldK Tryz.prog 166 7 = some (7, none) := by kernel_rfl
theorem fieldK_166_8 : fieldK Tryz.prog 166 8 = some (8, none) := by kernel_rfl
theorem fieldK_166_9 : fieldK Tryz.prog 166 9 = some (9, none) := by kernel_rfl
theorem fieldK_166_10 : fieldK Tryz.prog 166 10 = some (10, none) := by kernel_rfl
theorem mixed : Tryz.prog.follows .mixedOrders = true := by kernel_rfl
attribute [push_cast] eqKind_0 tyK_0 elemK_0 eqKind_1 tyK_1 elemK_1 Tryz.underlying1 eqKind_2 tyK_2 elemK_2 Tryz.underlying2 eqKind_3 tyK_3 elemK_3 Tryz.underlying3 eqKind_4 tyK_4 elemK_4 Tryz.underlying4 eqKind_5 tyK_5 elemK_5 Tryz.underlying5 eqKind_6 tyK_6 elemK_6 Tryz.underlying6 eqKind_7 tyK_7 bldI_7 elemK_7 fieldK_7_0 fieldK_7_1 fieldK_7_2 fieldK_7_3 eqKind_8 tyK_8 bldI_8 elemK_8 fieldK_8_0 fieldK_8_1 fieldK_8_2 fieldK_8_3 eqKind_9 tyK_9 elemK_9 Tryz.underlying9 eqKind_10 tyK_10 elemK_10 Tryz.underlying10 eqKind_11 tyK_11 elemK_11 Tryz.underlying11 eqKind_12 tyK_12 elemK_12 Tryz.underlying12 eqKind_13 tyK_13 bldI_13 elemK_13 fieldK_13_0 fieldK_13_1 eqKind_14 tyK_14 bldI_14 elemK_14 fieldK_14_0 fieldK_14_1 eqKind_15 tyK_15 elemK_15 Tryz.underlying15 eqKind_16 tyK_16 elemK_16 Tryz.underlying16 eqKind_17 tyK_17 elemK_17 Tryz.underlying17 eqKind_18 tyK_18 bldI_18 elemK_18 fieldK_18_0 eqKind_19 tyK_19 bldI_19 elemK_19 fieldK_19_0 eqKind_20 tyK_20 elemK_20 eqKind_21 tyK_21 elemK_21 Tryz.underlying21 eqKind_22 tyK_22 elemK_22 Tryz.underlying22 eqKind_23 tyK_23 elemK_23 Tryz.underlying23 eqKind_24 tyK_24 elemK_24 Tryz.underlying24 eqKind_25 tyK_25 bldI_25 elemK_25 fieldK_25_0 fieldK_25_1 fieldK_25_2 eqKind_26 tyK_26 bldI_26 elemK_26 fieldK_26_0 fieldK_26_1 fieldK_26_2 eqKind_27 tyK_27 elemK_27 eqKind_28 tyK_28 elemK_28 eqKind_29 tyK_29 elemK_29 eqKind_30 tyK_30 elemK_30 Tryz.underlying30 eqKind_31 tyK_31 elemK_31 Tryz.underlying31 eqKind_32 tyK_32 elemK_32 Tryz.underlying32 eqKind_33 tyK_33 elemK_33 Tryz.underlying33 eqKind_34 tyK_34 elemK_34 arrK_34 eqKind_35 tyK_35 elemK_35 Tryz.underlying35 eqKind_36 tyK_36 elemK_36 Tryz.underlying36 eqKind_37 tyK_37 elemK_37 Tryz.underlying37 eqKind_38 tyK_38 bldI_38 elemK_38 fieldK_38_0 eqKind_39 tyK_39 bldI_39 elemK_39 fieldK_39_0 eqKind_40 tyK_40 elemK_40 eqKind_41 tyK_41 elemK_41 Tryz.underlying41 eqKind_42 tyK_42 elemK_42 eqKind_43 tyK_43 elemK_43 Tryz.underlying43 eqKind_44 tyK_44 elemK_44 Tryz.underlying44 eqKind_45 tyK_45 bldI_45 elemK_45 fieldK_45_0 eqKind_46 tyK_46 bldI_46 elemK_46 fieldK_46_0 eqKind_47 tyK_47 elemK_47 Tryz.underlying47 eqKind_48 tyK_48 bldI_48 elemK_48 fieldK_48_0 fieldK_48_1 fieldK_48_2 eqKind_49 tyK_49 bldI_49 elemK_49 fieldK_49_0 fieldK_49_1 fieldK_49_2 eqKind_50 tyK_50 elemK_50 Tryz.underlying50 eqKind_51 tyK_51 elemK_51 Tryz.underlying51 eqKind_52 tyK_52 elemK_52 Tryz.underlying52 eqKind_53 tyK_53 elemK_53 Tryz.underlying53 eqKind_54 tyK_54 bldI_54 elemK_54 fieldK_54_0 fieldK_54_1 eqKind_55 tyK_55 bldI_55 elemK_55 fieldK_55_0 fieldK_55_1 eqKind_56 tyK_56 elemK_56 Tryz.underlying56 eqKind_57 tyK_57 bldI_57 elemK_57 fieldK_57_0 fieldK_57_1 fieldK_57_2 eqKind_58 tyK_58 bldI_58 elemK_58 fieldK_58_0 fieldK_58_1 fieldK_58_2 eqKind_59 tyK_59 elemK_59 eqKind_60 tyK_60 elemK_60 Tryz.underlying60 eqKind_61 tyK_61 elemK_61 Tryz.underlying61 eqKind_62 tyK_62 elemK_62 Tryz.underlying62 eqKind_63 tyK_63 bldI_63 elemK_63 fieldK_63_0 fieldK_63_1 fieldK_63_2 fieldK_63_3 eqKind_64 tyK_64 bldI_64 elemK_64 fieldK_64_0 fieldK_64_1 fieldK_64_2 fieldK_64_3 eqKind_65 tyK_65 elemK_65 Tryz.underlying65 eqKind_66 tyK_66 elemK_66 Tryz.underlying66 eqKind_67 tyK_67 elemK_67 Tryz.underlying67 eqKind_68 tyK_68 elemK_68 Tryz.underlying68 eqKind_69 tyK_69 elemK_69 Tryz.underlying69 eqKind_70 tyK_70 elemK_70 Tryz.underlying70 eqKind_71 tyK_71 elemK_71 eqKind_72 tyK_72 elemK_72 Tryz.underlying72 eqKind_73 tyK_73 elemK_73 Tryz.underlying73 eqKind_74 tyK_74 bldI_74 elemK_74 fieldK_74_0 fieldK_74_1 eqKind_75 tyK_75 bldI_75 elemK_75 fieldK_75_0 fieldK_75_1 eqKind_76 tyK_76 elemK_76 Tryz.underlying76 eqKind_77 tyK_77 elemK_77 Tryz.underlying77 eqKind_78 tyK_78 elemK_78 Tryz.underlying78 eqKind_79 tyK_79 elemK_79 Tryz.underlying79 eqKind_80 tyK_80 elemK_80 Tryz.underlying80 eqKind_81 tyK_81 bldI_81 elemK_81 fieldK_81_0 fieldK_81_1 fieldK_81_2 fieldK_81_3 fieldK_81_4 fieldK_81_5 eqKind_82 tyK_82 bldI_82 elemK_82 fieldK_82_0 fieldK_82_1 fieldK_82_2 fieldK_82_3 fieldK_82_4 fieldK_82_5 eqKind_83 tyK_83 elemK_83 Tryz.underlying83 eqKind_84 tyK_84 elemK_84 Tryz.underlying84 eqKind_85 tyK_85 elemK_85 Tryz.underlying85 eqKind_86 tyK_86 elemK_86 Tryz.underlying86 eqKind_87 tyK_87 elemK_87 Tryz.underlying87 eqKind_88 tyK_88 elemK_88 Tryz.underlying88 eqKind_89 tyK_89 bldI_89 elemK_89 fieldK_89_0 fieldK_89_1 fieldK_89_2 fieldK_89_3 fieldK_89_4 eqKind_90 tyK_90 bldI_90 elemK_90 fieldK_90_0 fieldK_90_1 fieldK_90_2 fieldK_90_3 fieldK_90_4 eqKind_91 tyK_91 elemK_91 eqKind_92 tyK_92 elemK_92 Tryz.underlying92 eqKind_93 tyK_93 elemK_93 Tryz.underlying93 eqKind_94 tyK_94 bldI_94 elemK_94 fieldK_94_0 fieldK_94_1 eqKind_95 tyK_95 bldI_95 elemK_95 fieldK_95_0 fieldK_95_1 eqKind_96 tyK_96 elemK_96 Tryz.underlying96 eqKind_97 tyK_97 elemK_97 Tryz.underlying97 eqKind_98 tyK_98 elemK_98 Tryz.underlying98 eqKind_99 tyK_99 elemK_99 Tryz.underlying99 eqKind_100 tyK_100 elemK_100 eqKind_101 tyK_101 elemK_101 Tryz.underlying101 eqKind_102 tyK_102 elemK_102 Tryz.underlying102 eqKind_103 tyK_103 elemK_103 Tryz.underlying103 eqKind_104 tyK_104 elemK_104 eqKind_105 tyK_105 elemK_105 Tryz.underlying105 eqKind_106 tyK_106 elemK_106 Tryz.underlying106 eqKind_107 tyK_107 elemK_107 eqKind_108 tyK_108 elemK_108 Tryz.underlying108 eqKind_109 tyK_109 elemK_109 Tryz.underlying109 eqKind_110 tyK_110 elemK_110 Tryz.underlying110 eqKind_111 tyK_111 elemK_111 Tryz.underlying111 eqKind_112 tyK_112 elemK_112 eqKind_113 tyK_113 elemK_113 Tryz.underlying113 eqKind_114 tyK_114 elemK_114 eqKind_115 tyK_115 elemK_115 Tryz.underlying115 eqKind_116 tyK_116 elemK_116 Tryz.underlying116 eqKind_117 tyK_117 elemK_117 Tryz.underlying117 eqKind_118 tyK_118 elemK_118 Tryz.underlying118 eqKind_119 tyK_119 elemK_119 Tryz.underlying119 eqKind_120 tyK_120 elemK_120 arrK_120 eqKind_121 tyK_121 elemK_121 Tryz.underlying121 eqKind_122 tyK_122 elemK_122 Tryz.underlying122 eqKind_123 tyK_123 elemK_123 Tryz.underlying123 eqKind_124 tyK_124 elemK_124 eqKind_125 tyK_125 elemK_125 Tryz.underlying125 eqKind_126 tyK_126 elemK_126 Tryz.underlying126 eqKind_127 tyK_127 elemK_127 eqKind_128 tyK_128 elemK_128 Tryz.underlying128 eqKind_129 tyK_129 elemK_129 Tryz.underlying129 eqKind_130 tyK_130 elemK_130 eqKind_131 tyK_131 elemK_131 Tryz.underlying131 eqKind_132 tyK_132 elemK_132 Tryz.underlying132 eqKind_133 tyK_133 elemK_133 Tryz.underlying133 eqKind_134 tyK_134 elemK_134 Tryz.underlying134 eqKind_135 tyK_135 elemK_135 Tryz.underlying135 eqKind_136 tyK_136 elemK_136 arrK_136 eqKind_137 tyK_137 elemK_137 arrK_137 eqKind_138 tyK_138 elemK_138 Tryz.underlying138 eqKind_139 tyK_139 elemK_139 Tryz.underlying139 eqKind_140 tyK_140 elemK_140 Tryz.underlying140 eqKind_141 tyK_141 elemK_141 Tryz.underlying141 eqKind_142 tyK_142 bldI_142 elemK_142 fieldK_142_0 fieldK_142_1 fieldK_142_2 eqKind_143 tyK_143 bldI_143 elemK_143 fieldK_143_0 fieldK_143_1 fieldK_143_2 eqKind_144 tyK_144 elemK_144 Tryz.underlying144 eqKind_145 tyK_145 elemK_145 Tryz.underlying145 eqKind_146 tyK_146 elemK_146 arrK_146 eqKind_147 tyK_147 bldI_147 elemK_147 fieldK_147_0 fieldK_147_1 eqKind_148 tyK_148 bldI_148 elemK_148 fieldK_148_0 fieldK_148_1 eqKind_149 tyK_149 elemK_149 arrK_149 eqKind_150 tyK_150 elemK_150 Tryz.underlying150 eqKind_151 tyK_151 bldI_151 elemK_151 fieldK_151_0 eqKind_152 tyK_152 bldI_152 elemK_152 fieldK_152_0 eqKind_153 tyK_153 elemK_153 arrK_153 eqKind_154 tyK_154 elemK_154 arrK_154 eqKind_155 tyK_155 bldI_155 elemK_155 fieldK_155_0 fieldK_155_1 fieldK_155_2 fieldK_155_3 eqKind_156 tyK_156 bldI_156 elemK_156 fieldK_156_0 fieldK_156_1 fieldK_156_2 fieldK_156_3 eqKind_157 tyK_157 elemK_157 arrK_157 eqKind_158 tyK_158 bldI_158 elemK_158 eqKind_159 tyK_159 bldI_159 elemK_159 eqKind_160 tyK_160 elemK_160 Tryz.underlying160 eqKind_161 tyK_161 elemK_161 Tryz.underlying161 eqKind_162 tyK_162 elemK_162 Tryz.underlying162 eqKind_163 tyK_163 elemK_163 Tryz.underlying163 eqKind_164 tyK_164 elemK_164 Tryz.underlying164 eqKind_165 tyK_165 bldI_165 elemK_165 fieldK_165_0 fieldK_165_1 fieldK_165_2 fieldK_165_3 fieldK_165_4 fieldK_165_5 fieldK_165_6 fieldK_165_7 fieldK_165_8 fieldK_165_9 fieldK_165_10 eqKind_166 tyK_166 bldI_166 elemK_166 fieldK_166_0 fieldK_166_1 fieldK_166_2 fieldK_166_3 fieldK_166_4 fieldK_166_5 fieldK_166_6 fieldK_166_7 fieldK_166_8 fieldK_166_9 fieldK_166_10
end Go.Proofs.YtieaebjkbhaoaaaGreatDoor
