import Derived.Test.YtimjpijbcnjaaaaDoorV
import Derived.Test.YtimjpijbcnjaaaaDoorProg
namespace Go.Proofs.YtimjpijbcnjaaaaDoor
open Go.Vc Go.Proofs
theorem eqKind_0 : eqKind Tryd.prog 0 = 0 := by kernel_rfl
theorem tyK_0 : tyK Tryd.prog 0 = some none := by kernel_rfl
theorem elemK_0 : elemK Tryd.prog 0 = none := by kernel_rfl
theorem eqKind_1 : eqKind Tryd.prog 1 = 5 := by kernel_rfl
theorem tyK_1 : tyK Tryd.prog 1 = some none := by kernel_rfl
theorem elemK_1 : elemK Tryd.prog 1 = none := by kernel_rfl
theorem eqKind_2 : eqKind Tryd.prog 2 = 0 := by kernel_rfl
theorem tyK_2 : tyK Tryd.prog 2 = some none := by kernel_rfl
theorem elemK_2 : elemK Tryd.prog 2 = none := by kernel_rfl
theorem eqKind_3 : eqKind Tryd.prog 3 = 0 := by kernel_rfl
theorem tyK_3 : tyK Tryd.prog 3 = some none := by kernel_rfl
theorem elemK_3 : elemK Tryd.prog 3 = none := by kernel_rfl
theorem eqKind_4 : eqKind Tryd.prog 4 = 6 := by kernel_rfl
theorem tyK_4 : tyK Tryd.prog 4 = some none := by kernel_rfl
theorem elemK_4 : elemK Tryd.prog 4 = none := by kernel_rfl
theorem eqKind_5 : eqKind Tryd.prog 5 = 0 := by kernel_rfl
theorem tyK_5 : tyK Tryd.prog 5 = some none := by kernel_rfl
theorem elemK_5 : elemK Tryd.prog 5 = none := by kernel_rfl
theorem eqKind_6 : eqKind Tryd.prog 6 = 0 := by kernel_rfl
theorem tyK_6 : tyK Tryd.prog 6 = some none := by kernel_rfl
theorem elemK_6 : elemK Tryd.prog 6 = none := by kernel_rfl
theorem eqKind_7 : eqKind Tryd.prog 7 = 0 := by kernel_rfl
theorem tyK_7 : tyK Tryd.prog 7 = some (some 4) := by kernel_rfl
theorem bldI_7 : bldI Tryd.prog 7 = some ([.int .i64 0, .int .i64 0, .bool false, .int .u8 0], [(0, 1), (1, 1), (2, 1), (3, 1)]) := by kernel_rfl
theorem elemK_7 : elemK Tryd.prog 7 = none := by kernel_rfl
theorem fieldK_7_0 : fieldK Tryd.prog 7 0 = some (0, none) := by kernel_rfl
theorem fieldK_7_1 : fieldK Tryd.prog 7 1 = some (1, none) := by kernel_rfl
theorem fieldK_7_2 : fieldK Tryd.prog 7 2 = some (2, none) := by kernel_rfl
theorem fieldK_7_3 : fieldK Tryd.prog 7 3 = some (3, none) := by kernel_rfl
theorem eqKind_8 : eqKind Tryd.prog 8 = 0 := by kernel_rfl
theorem tyK_8 : tyK Tryd.prog 8 = some (some 4) := by kernel_rfl
theorem bldI_8 : bldI Tryd.prog 8 = some ([.int .i64 0, .int .i64 0, .bool false, .int .u8 0], [(0, 1), (1, 1), (2, 1), (3, 1)]) := by kernel_rfl
theorem elemK_8 : elemK Tryd.prog 8 = none := by kernel_rfl
theorem fieldK_8_0 : fieldK Tryd.prog 8 0 = some (0, none) := by kernel_rfl
theorem fieldK_8_1 : fieldK Tryd.prog 8 1 = some (1, none) := by kernel_rfl
theorem fieldK_8_2 : fieldK Tryd.prog 8 2 = some (2, none) := by kernel_rfl
theorem fieldK_8_3 : fieldK Tryd.prog 8 3 = some (3, none) := by kernel_rfl
theorem eqKind_9 : eqKind Tryd.prog 9 = 0 := by kernel_rfl
theorem tyK_9 : tyK Tryd.prog 9 = some none := by kernel_rfl
theorem elemK_9 : elemK Tryd.prog 9 = none := by kernel_rfl
theorem eqKind_10 : eqKind Tryd.prog 10 = 0 := by kernel_rfl
theorem tyK_10 : tyK Tryd.prog 10 = some none := by kernel_rfl
theorem elemK_10 : elemK Tryd.prog 10 = none := by kernel_rfl
theorem eqKind_11 : eqKind Tryd.prog 11 = 0 := by kernel_rfl
theorem tyK_11 : tyK Tryd.prog 11 = some none := by kernel_rfl
theorem elemK_11 : elemK Tryd.prog 11 = none := by kernel_rfl
theorem eqKind_12 : eqKind Tryd.prog 12 = 0 := by kernel_rfl
theorem tyK_12 : tyK Tryd.prog 12 = some none := by kernel_rfl
theorem elemK_12 : elemK Tryd.prog 12 = none := by kernel_rfl
theorem eqKind_13 : eqKind Tryd.prog 13 = 0 := by kernel_rfl
theorem tyK_13 : tyK Tryd.prog 13 = some (some 2) := by kernel_rfl
theorem bldI_13 : bldI Tryd.prog 13 = some ([str [], .int .u64 0], [(0, 1), (1, 1)]) := by kernel_rfl
theorem elemK_13 : elemK Tryd.prog 13 = none := by kernel_rfl
theorem fieldK_13_0 : fieldK Tryd.prog 13 0 = some (0, none) := by kernel_rfl
theorem fieldK_13_1 : fieldK Tryd.prog 13 1 = some (1, none) := by kernel_rfl
theorem eqKind_14 : eqKind Tryd.prog 14 = 0 := by kernel_rfl
theorem tyK_14 : tyK Tryd.prog 14 = some (some 2) := by kernel_rfl
theorem bldI_14 : bldI Tryd.prog 14 = some ([str [], .int .u64 0], [(0, 1), (1, 1)]) := by kernel_rfl
theorem elemK_14 : elemK Tryd.prog 14 = none := by kernel_rfl
theorem fieldK_14_0 : fieldK Tryd.prog 14 0 = some (0, none) := by kernel_rfl
theorem fieldK_14_1 : fieldK Tryd.prog 14 1 = some (1, none) := by kernel_rfl
theorem eqKind_15 : eqKind Tryd.prog 15 = 2 := by kernel_rfl
theorem tyK_15 : tyK Tryd.prog 15 = some none := by kernel_rfl
theorem elemK_15 : elemK Tryd.prog 15 = none := by kernel_rfl
theorem eqKind_16 : eqKind Tryd.prog 16 = 2 := by kernel_rfl
theorem tyK_16 : tyK Tryd.prog 16 = some none := by kernel_rfl
theorem elemK_16 : elemK Tryd.prog 16 = none := by kernel_rfl
theorem eqKind_17 : eqKind Tryd.prog 17 = 2 := by kernel_rfl
theorem tyK_17 : tyK Tryd.prog 17 = some none := by kernel_rfl
theorem elemK_17 : elemK Tryd.prog 17 = none := by kernel_rfl
theorem eqKind_18 : eqKind Tryd.prog 18 = 0 := by kernel_rfl
theorem tyK_18 : tyK Tryd.prog 18 = some (some 1) := by kernel_rfl
theorem bldI_18 : bldI Tryd.prog 18 = some ([.pointer none], [(0, 1)]) := by kernel_rfl
theorem elemK_18 : elemK Tryd.prog 18 = none := by kernel_rfl
theorem fieldK_18_0 : fieldK Tryd.prog 18 0 = some (0, none) := by kernel_rfl
theorem eqKind_19 : eqKind Tryd.prog 19 = 0 := by kernel_rfl
theorem tyK_19 : tyK Tryd.prog 19 = some (some 1) := by kernel_rfl
theorem bldI_19 : bldI Tryd.prog 19 = some ([.pointer none], [(0, 1)]) := by kernel_rfl
theorem elemK_19 : elemK Tryd.prog 19 = none := by kernel_rfl
theorem fieldK_19_0 : fieldK Tryd.prog 19 0 = some (0, none) := by kernel_rfl
theorem eqKind_20 : eqKind Tryd.prog 20 = 1 := by kernel_rfl
theorem tyK_20 : tyK Tryd.prog 20 = some none := by kernel_rfl
theorem elemK_20 : elemK Tryd.prog 20 = none := by kernel_rfl
theorem eqKind_21 : eqKind Tryd.prog 21 = 0 := by kernel_rfl
theorem tyK_21 : tyK Tryd.prog 21 = some none := by kernel_rfl
theorem elemK_21 : elemK Tryd.prog 21 = none := by kernel_rfl
theorem eqKind_22 : eqKind Tryd.prog 22 = 3 := by kernel_rfl
theorem tyK_22 : tyK Tryd.prog 22 = some none := by kernel_rfl
theorem elemK_22 : elemK Tryd.prog 22 = some (76, 1) := by kernel_rfl
theorem elI_22 : elI Tryd.prog 22 = some (76, 1, 24) := by kernel_rfl
theorem eqKind_23 : eqKind Tryd.prog 23 = 3 := by kernel_rfl
theorem tyK_23 : tyK Tryd.prog 23 = some none := by kernel_rfl
theorem elemK_23 : elemK Tryd.prog 23 = some (37, 3) := by kernel_rfl
theorem elI_23 : elI Tryd.prog 23 = some (37, 3, 24) := by kernel_rfl
theorem eqKind_24 : eqKind Tryd.prog 24 = 0 := by kernel_rfl
theorem tyK_24 : tyK Tryd.prog 24 = some (some 2) := by kernel_rfl
theorem bldI_24 : bldI Tryd.prog 24 = some ([.slice none 0 0, .slice none 0 0], [(0, 1), (1, 1)]) := by kernel_rfl
theorem elemK_24 : elemK Tryd.prog 24 = none := by kernel_rfl
theorem fieldK_24_0 : fieldK Tryd.prog 24 0 = some (0, none) := by kernel_rfl
theorem fieldK_24_1 : fieldK Tryd.prog 24 1 = some (1, none) := by kernel_rfl
theorem eqKind_25 : eqKind Tryd.prog 25 = 0 := by kernel_rfl
theorem tyK_25 : tyK Tryd.prog 25 = some (some 2) := by kernel_rfl
theorem bldI_25 : bldI Tryd.prog 25 = some ([.slice none 0 0, .slice none 0 0], [(0, 1), (1, 1)]) := by kernel_rfl
theorem elemK_25 : elemK Tryd.prog 25 = none := by kernel_rfl
theorem fieldK_25_0 : fieldK Tryd.prog 25 0 = some (0, none) := by kernel_rfl
theorem fieldK_25_1 : fieldK Tryd.prog 25 1 = some (1, none) := by kernel_rfl
theorem eqKind_26 : eqKind Tryd.prog 26 = 3 := by kernel_rfl
theorem tyK_26 : tyK Tryd.prog 26 = some none := by kernel_rfl
theorem elemK_26 : elemK Tryd.prog 26 = some (3, 1) := by kernel_rfl
theorem elI_26 : elI Tryd.prog 26 = some (3, 1, 8) := by kernel_rfl
theorem eqKind_27 : eqKind Tryd.prog 27 = 5 := by kernel_rfl
theorem tyK_27 : tyK Tryd.prog 27 = some none := by kernel_rfl
theorem elemK_27 : elemK Tryd.prog 27 = none := by kernel_rfl
theorem eqKind_28 : eqKind Tryd.prog 28 = 5 := by kernel_rfl
theorem tyK_28 : tyK Tryd.prog 28 = some none := by kernel_rfl
theorem elemK_28 : elemK Tryd.prog 28 = none := by kernel_rfl
theorem eqKind_29 : eqKind Tryd.prog 29 = 1 := by kernel_rfl
theorem tyK_29 : tyK Tryd.prog 29 = some none := by kernel_rfl
theorem elemK_29 : elemK Tryd.prog 29 = none := by kernel_rfl
theorem eqKind_30 : eqKind Tryd.prog 30 = 1 := by kernel_rfl
theorem tyK_30 : tyK Tryd.prog 30 = some none := by kernel_rfl
theorem elemK_30 : elemK Tryd.prog 30 = none := by kernel_rfl
theorem eqKind_31 : eqKind Tryd.prog 31 = 0 := by kernel_rfl
theorem tyK_31 : tyK Tryd.prog 31 = some none := by kernel_rfl
theorem elemK_31 : elemK Tryd.prog 31 = none := by kernel_rfl
theorem eqKind_32 : eqKind Tryd.prog 32 = 5 := by kernel_rfl
theorem tyK_32 : tyK Tryd.prog 32 = some none := by kernel_rfl
theorem elemK_32 : elemK Tryd.prog 32 = none := by kernel_rfl
theorem eqKind_33 : eqKind Tryd.prog 33 = 0 := by kernel_rfl
theorem tyK_33 : tyK Tryd.prog 33 = some none := by kernel_rfl
theorem elemK_33 : elemK Tryd.prog 33 = none := by kernel_rfl
theorem eqKind_34 : eqKind Tryd.prog 34 = 5 := by kernel_rfl
theorem tyK_34 : tyK Tryd.prog 34 = some none := by kernel_rfl
theorem elemK_34 : elemK Tryd.prog 34 = none := by kernel_rfl
theorem eqKind_35 : eqKind Tryd.prog 35 = 5 := by kernel_rfl
theorem tyK_35 : tyK Tryd.prog 35 = some none := by kernel_rfl
theorem elemK_35 : elemK Tryd.prog 35 = none := by kernel_rfl
theorem eqKind_36 : eqKind Tryd.prog 36 = 10 := by kernel_rfl
theorem tyK_36 : tyK Tryd.prog 36 = some (some 3) := by kernel_rfl
theorem bldI_36 : bldI Tryd.prog 36 = some ([.int .i64 0, .int .i64 0, .int .i64 0], [(0, 1), (1, 1), (2, 1)]) := by kernel_rfl
theorem elemK_36 : elemK Tryd.prog 36 = none := by kernel_rfl
theorem fieldK_36_0 : fieldK Tryd.prog 36 0 = some (0, none) := by kernel_rfl
theorem fieldK_36_1 : fieldK Tryd.prog 36 1 = some (1, none) := by kernel_rfl
theorem fieldK_36_2 : fieldK Tryd.prog 36 2 = some (2, none) := by kernel_rfl
theorem eqKind_37 : eqKind Tryd.prog 37 = 10 := by kernel_rfl
theorem tyK_37 : tyK Tryd.prog 37 = some (some 3) := by kernel_rfl
theorem bldI_37 : bldI Tryd.prog 37 = some ([.int .i64 0, .int .i64 0, .int .i64 0], [(0, 1), (1, 1), (2, 1)]) := by kernel_rfl
theorem elemK_37 : elemK Tryd.prog 37 = none := by kernel_rfl
theorem fieldK_37_0 : fieldK Tryd.prog 37 0 = some (0, none) := by kernel_rfl
theorem fieldK_37_1 : fieldK Tryd.prog 37 1 = some (1, none) := by kernel_rfl
theorem fieldK_37_2 : fieldK Tryd.prog 37 2 = some (2, none) := by kernel_rfl
theorem eqKind_38 : eqKind Tryd.prog 38 = 5 := by kernel_rfl
theorem tyK_38 : tyK Tryd.prog 38 = some none := by kernel_rfl
theorem elemK_38 : elemK Tryd.prog 38 = none := by kernel_rfl
theorem eqKind_39 : eqKind Tryd.prog 39 = 5 := by kernel_rfl
theorem tyK_39 : tyK Tryd.prog 39 = some none := by kernel_rfl
theorem elemK_39 : elemK Tryd.prog 39 = none := by kernel_rfl
theorem eqKind_40 : eqKind Tryd.prog 40 = 5 := by kernel_rfl
theorem tyK_40 : tyK Tryd.prog 40 = some none := by kernel_rfl
theorem elemK_40 : elemK Tryd.prog 40 = none := by kernel_rfl
theorem eqKind_41 : eqKind Tryd.prog 41 = 3 := by kernel_rfl
theorem tyK_41 : tyK Tryd.prog 41 = some none := by kernel_rfl
theorem elemK_41 : elemK Tryd.prog 41 = some (61, 5) := by kernel_rfl
theorem elI_41 : elI Tryd.prog 41 = some (61, 5, 104) := by kernel_rfl
theorem eqKind_42 : eqKind Tryd.prog 42 = 0 := by kernel_rfl
theorem tyK_42 : tyK Tryd.prog 42 = some (some 2) := by kernel_rfl
theorem bldI_42 : bldI Tryd.prog 42 = some ([.slice none 0 0, .bool false], [(0, 1), (1, 1)]) := by kernel_rfl
theorem elemK_42 : elemK Tryd.prog 42 = none := by kernel_rfl
theorem fieldK_42_0 : fieldK Tryd.prog 42 0 = some (0, none) := by kernel_rfl
theorem fieldK_42_1 : fieldK Tryd.prog 42 1 = some (1, none) := by kernel_rfl
theorem eqKind_43 : eqKind Tryd.prog 43 = 0 := by kernel_rfl
theorem tyK_43 : tyK Tryd.prog 43 = some (some 2) := by kernel_rfl
theorem bldI_43 : bldI Tryd.prog 43 = some ([.slice none 0 0, .bool false], [(0, 1), (1, 1)]) := by kernel_rfl
theorem elemK_43 : elemK Tryd.prog 43 = none := by kernel_rfl
theorem fieldK_43_0 : fieldK Tryd.prog 43 0 = some (0, none) := by kernel_rfl
theorem fieldK_43_1 : fieldK Tryd.prog 43 1 = some (1, none) := by kernel_rfl
theorem eqKind_44 : eqKind Tryd.prog 44 = 5 := by kernel_rfl
theorem tyK_44 : tyK Tryd.prog 44 = some none := by kernel_rfl
theorem elemK_44 : elemK Tryd.prog 44 = none := by kernel_rfl
theorem eqKind_45 : eqKind Tryd.prog 45 = 0 := by kernel_rfl
theorem tyK_45 : tyK Tryd.prog 45 = some none := by kernel_rfl
theorem elemK_45 : elemK Tryd.prog 45 = none := by kernel_rfl
theorem eqKind_46 : eqKind Tryd.prog 46 = 5 := by kernel_rfl
theorem tyK_46 : tyK Tryd.prog 46 = some none := by kernel_rfl
theorem elemK_46 : elemK Tryd.prog 46 = none := by kernel_rfl
theorem eqKind_47 : eqKind Tryd.prog 47 = 5 := by kernel_rfl
theorem tyK_47 : tyK Tryd.prog 47 = some none := by kernel_rfl
theorem elemK_47 : elemK Tryd.prog 47 = none := by kernel_rfl
theorem eqKind_48 : eqKind Tryd.prog 48 = 0 := by kernel_rfl
theorem tyK_48 : tyK Tryd.prog 48 = some none := by kernel_rfl
theorem elemK_48 : elemK Tryd.prog 48 = none := by kernel_rfl
theorem eqKind_49 : eqKind Tryd.prog 49 = 5 := by kernel_rfl
theorem tyK_49 : tyK Tryd.prog 49 = some none := by kernel_rfl
theorem elemK_49 : elemK Tryd.prog 49 = none := by kernel_rfl
theorem eqKind_50 : eqKind Tryd.prog 50 = 0 := by kernel_rfl
theorem tyK_50 : tyK Tryd.prog 50 = some none := by kernel_rfl
theorem elemK_50 : elemK Tryd.prog 50 = none := by kernel_rfl
theorem eqKind_51 : eqKind Tryd.prog 51 = 5 := by kernel_rfl
theorem tyK_51 : tyK Tryd.prog 51 = some none := by kernel_rfl
theorem elemK_51 : elemK Tryd.prog 51 = none := by kernel_rfl
theorem eqKind_52 : eqKind Tryd.prog 52 = 5 := by kernel_rfl
theorem tyK_52 : tyK Tryd.prog 52 = some none := by kernel_rfl
theorem elemK_52 : elemK Tryd.prog 52 = none := by kernel_rfl
theorem eqKind_53 : eqKind Tryd.prog 53 = 5 := by kernel_rfl
theorem tyK_53 : tyK Tryd.prog 53 = some none := by kernel_rfl
theorem elemK_53 : elemK Tryd.prog 53 = none := by kernel_rfl
theorem eqKind_54 : eqKind Tryd.prog 54 = 0 := by kernel_rfl
theorem tyK_54 : tyK Tryd.prog 54 = some none := by kernel_rfl
theorem elemK_54 : elemK Tryd.prog 54 = none := by kernel_rfl
theorem eqKind_55 : eqKind Tryd.prog 55 = 5 := by kernel_rfl
theorem tyK_55 : tyK Tryd.prog 55 = some none := by kernel_rfl
theorem elemK_55 : elemK Tryd.prog 55 = none := by kernel_rfl
theorem eqKind_56 : eqKind Tryd.prog 56 = 3 := by kernel_rfl
theorem tyK_56 : tyK Tryd.prog 56 = some none := by kernel_rfl
theorem elemK_56 : elemK Tryd.prog 56 = some (26, 1) := by kernel_rfl
theorem elI_56 : elI Tryd.prog 56 = some (26, 1, 24) := by kernel_rfl
theorem eqKind_57 : eqKind Tryd.prog 57 = 0 := by kernel_rfl
theorem tyK_57 : tyK Tryd.prog 57 = some none := by kernel_rfl
theorem elemK_57 : elemK Tryd.prog 57 = none := by kernel_rfl
theorem eqKind_58 : eqKind Tryd.prog 58 = 5 := by kernel_rfl
theorem tyK_58 : tyK Tryd.prog 58 = some none := by kernel_rfl
theorem elemK_58 : elemK Tryd.prog 58 = none := by kernel_rfl
theorem eqKind_59 : eqKind Tryd.prog 59 = 5 := by kernel_rfl
theorem tyK_59 : tyK Tryd.prog 59 = some none := by kernel_rfl
theorem elemK_59 : elemK Tryd.prog 59 = none := by kernel_rfl
theorem eqKind_60 : eqKind Tryd.prog 60 = 0 := by kernel_rfl
theorem tyK_60 : tyK Tryd.prog 60 = some (some 5) := by kernel_rfl
theorem bldI_60 : bldI Tryd.prog 60 = some ([.bool false, .slice none 0 0, .slice none 0 0, .slice none 0 0, .slice none 0 0], [(0, 1), (1, 2), (3, 2)]) := by kernel_rfl
theorem elemK_60 : elemK Tryd.prog 60 = none := by kernel_rfl
theorem fieldK_60_0 : fieldK Tryd.prog 60 0 = some (0, none) := by kernel_rfl
theorem fieldK_60_1 : fieldK Tryd.prog 60 1 = some (1, (some 2)) := by kernel_rfl
theorem fieldK_60_2 : fieldK Tryd.prog 60 2 = some (3, (some 2)) := by kernel_rfl
theorem eqKind_61 : eqKind Tryd.prog 61 = 0 := by kernel_rfl
theorem tyK_61 : tyK Tryd.prog 61 = some (some 5) := by kernel_rfl
theorem bldI_61 : bldI Tryd.prog 61 = some ([.bool false, .slice none 0 0, .slice none 0 0, .slice none 0 0, .slice none 0 0], [(0, 1), (1, 2), (3, 2)]) := by kernel_rfl
theorem elemK_61 : elemK Tryd.prog 61 = none := by kernel_rfl
theorem fieldK_61_0 : fieldK Tryd.prog 61 0 = some (0, none) := by kernel_rfl
theorem fieldK_61_1 : fieldK Tryd.prog 61 1 = some (1, (some 2)) := by kernel_rfl
theorem fieldK_61_2 : fieldK Tryd.prog 61 2 = some (3, (some 2)) := by kernel_rfl
theorem eqKind_62 : eqKind Tryd.prog 62 = 5 := by kernel_rfl
theorem tyK_62 : tyK Tryd.prog 62 = some none := by kernel_rfl
theorem elemK_62 : elemK Tryd.prog 62 = none := by kernel_rfl
theorem eqKind_63 : eqKind Tryd.prog 63 = 0 := by kernel_rfl
theorem tyK_63 : tyK Tryd.prog 63 = some none := by kernel_rfl
theorem elemK_63 : elemK Tryd.prog 63 = none := by kernel_rfl
theorem eqKind_64 : eqKind Tryd.prog 64 = 5 := by kernel_rfl
theorem tyK_64 : tyK Tryd.prog 64 = some none := by kernel_rfl
theorem elemK_64 : elemK Tryd.prog 64 = none := by kernel_rfl
theorem eqKind_65 : eqKind Tryd.prog 65 = 0 := by kernel_rfl
theorem tyK_65 : tyK Tryd.prog 65 = some none := by kernel_rfl
theorem elemK_65 : elemK Tryd.prog 65 = none := by kernel_rfl
theorem eqKind_66 : eqKind Tryd.prog 66 = 5 := by kernel_rfl
theorem tyK_66 : tyK Tryd.prog 66 = some none := by kernel_rfl
theorem elemK_66 : elemK Tryd.prog 66 = none := by kernel_rfl
theorem eqKind_67 : eqKind Tryd.prog 67 = 0 := by kernel_rfl
theorem tyK_67 : tyK Tryd.prog 67 = some none := by kernel_rfl
theorem elemK_67 : elemK Tryd.prog 67 = none := by kernel_rfl
theorem eqKind_68 : eqKind Tryd.prog 68 = 5 := by kernel_rfl
theorem tyK_68 : tyK Tryd.prog 68 = some none := by kernel_rfl
theorem elemK_68 : elemK Tryd.prog 68 = none := by kernel_rfl
theorem eqKind_69 : eqKind Tryd.prog 69 = 0 := by kernel_rfl
theorem tyK_69 : tyK Tryd.prog 69 = some none := by kernel_rfl
theorem elemK_69 : elemK Tryd.prog 69 = none := by kernel_rfl
theorem eqKind_70 : eqKind Tryd.prog 70 = 5 := by kernel_rfl
theorem tyK_70 : tyK Tryd.prog 70 = some none := by kernel_rfl
theorem elemK_70 : elemK Tryd.prog 70 = none := by kernel_rfl
theorem eqKind_71 : eqKind Tryd.prog 71 = 5 := by kernel_rfl
theorem tyK_71 : tyK Tryd.prog 71 = some none := by kernel_rfl
theorem elemK_71 : elemK Tryd.prog 71 = none := by kernel_rfl
theorem eqKind_72 : eqKind Tryd.prog 72 = 5 := by kernel_rfl
theorem tyK_72 : tyK Tryd.prog 72 = some none := by kernel_rfl
theorem elemK_72 : elemK Tryd.prog 72 = none := by kernel_rfl
theorem eqKind_73 : eqKind Tryd.prog 73 = 5 := by kernel_rfl
theorem tyK_73 : tyK Tryd.prog 73 = some none := by kernel_rfl
theorem elemK_73 : elemK Tryd.prog 73 = none := by kernel_rfl
theorem eqKind_74 : eqKind Tryd.prog 74 = 5 := by kernel_rfl
theorem tyK_74 : tyK Tryd.prog 74 = some none := by kernel_rfl
theorem elemK_74 : elemK Tryd.prog 74 = none := by kernel_rfl
theorem eqKind_75 : eqKind Tryd.prog 75 = 3 := by kernel_rfl
theorem tyK_75 : tyK Tryd.prog 75 = some none := by kernel_rfl
theorem elemK_75 : elemK Tryd.prog 75 = some (79, 2) := by kernel_rfl
theorem elI_75 : elI Tryd.prog 75 = some (79, 2, 16) := by kernel_rfl
theorem eqKind_76 : eqKind Tryd.prog 76 = 3 := by kernel_rfl
theorem tyK_76 : tyK Tryd.prog 76 = some none := by kernel_rfl
theorem elemK_76 : elemK Tryd.prog 76 = some (79, 2) := by kernel_rfl
theorem elI_76 : elI Tryd.prog 76 = some (79, 2, 16) := by kernel_rfl
theorem eqKind_77 : eqKind Tryd.prog 77 = 5 := by kernel_rfl
theorem tyK_77 : tyK Tryd.prog 77 = some none := by kernel_rfl
theorem elemK_77 : elemK Tryd.prog 77 = none := by kernel_rfl
theorem eqKind_78 : eqKind Tryd.prog 78 = 9 := by kernel_rfl
theorem tyK_78 : tyK Tryd.prog 78 = some (some 2) := by kernel_rfl
theorem bldI_78 : bldI Tryd.prog 78 = some ([.int .i64 0, .int .i64 0], [(0, 1), (1, 1)]) := by kernel_rfl
theorem elemK_78 : elemK Tryd.prog 78 = none := by kernel_rfl
theorem fieldK_78_0 : fieldK Tryd.prog 78 0 = some (0, none) := by kernel_rfl
theorem fieldK_78_1 : fieldK Tryd.prog 78 1 = some (1, none) := by kernel_rfl
theorem eqKind_79 : eqKind Tryd.prog 79 = 9 := by kernel_rfl
theorem tyK_79 : tyK Tryd.prog 79 = some (some 2) := by kernel_rfl
theorem bldI_79 : bldI Tryd.prog 79 = some ([.int .i64 0, .int .i64 0], [(0, 1), (1, 1)]) := by kernel_rfl
theorem elemK_79 : elemK Tryd.prog 79 = none := by kernel_rfl
theorem fieldK_79_0 : fieldK Tryd.prog 79 0 = some (0, none) := by kernel_rfl
theorem fieldK_79_1 : fieldK Tryd.prog 79 1 = some (1, none) := by kernel_rfl
theorem eqKind_80 : eqKind Tryd.prog 80 = 2 := by kernel_rfl
theorem tyK_80 : tyK Tryd.prog 80 = some none := by kernel_rfl
theorem elemK_80 : elemK Tryd.prog 80 = none := by kernel_rfl
theorem eqKind_81 : eqKind Tryd.prog 81 = 3 := by kernel_rfl
theorem tyK_81 : tyK Tryd.prog 81 = some none := by kernel_rfl
theorem elemK_81 : elemK Tryd.prog 81 = some (4, 1) := by kernel_rfl
theorem elI_81 : elI Tryd.prog 81 = some (4, 1, 1) := by kernel_rfl
theorem eqKind_82 : eqKind Tryd.prog 82 = 0 := by kernel_rfl
theorem tyK_82 : tyK Tryd.prog 82 = some (some 2) := by kernel_rfl
theorem bldI_82 : bldI Tryd.prog 82 = some ([.slice none 0 0, .slice none 0 0], [(0, 1), (1, 1)]) := by kernel_rfl
theorem elemK_82 : elemK Tryd.prog 82 = none := by kernel_rfl
theorem fieldK_82_0 : fieldK Tryd.prog 82 0 = some (0, none) := by kernel_rfl
theorem fieldK_82_1 : fieldK Tryd.prog 82 1 = some (1, none) := by kernel_rfl
theorem eqKind_83 : eqKind Tryd.prog 83 = 0 := by kernel_rfl
theorem tyK_83 : tyK Tryd.prog 83 = some (some 2) := by kernel_rfl
theorem bldI_83 : bldI Tryd.prog 83 = some ([.slice none 0 0, .slice none 0 0], [(0, 1), (1, 1)]) := by kernel_rfl
theorem elemK_83 : elemK Tryd.prog 83 = none := by kernel_rfl
theorem fieldK_83_0 : fieldK Tryd.prog 83 0 = some (0, none) := by kernel_rfl
theorem fieldK_83_1 : fieldK Tryd.prog 83 1 = some (1, none) := by kernel_rfl
theorem eqKind_84 : eqKind Tryd.prog 84 = 5 := by kernel_rfl
theorem tyK_84 : tyK Tryd.prog 84 = some none := by kernel_rfl
theorem elemK_84 : elemK Tryd.prog 84 = none := by kernel_rfl
theorem eqKind_85 : eqKind Tryd.prog 85 = 5 := by kernel_rfl
theorem tyK_85 : tyK Tryd.prog 85 = some none := by kernel_rfl
theorem elemK_85 : elemK Tryd.prog 85 = none := by kernel_rfl
theorem eqKind_86 : eqKind Tryd.prog 86 = 5 := by kernel_rfl
theorem tyK_86 : tyK Tryd.prog 86 = some none := by kernel_rfl
theorem elemK_86 : elemK Tryd.prog 86 = none := by kernel_rfl
theorem eqKind_87 : eqKind Tryd.prog 87 = 5 := by kernel_rfl
theorem tyK_87 : tyK Tryd.prog 87 = some none := by kernel_rfl
theorem elemK_87 : elemK Tryd.prog 87 = none := by kernel_rfl
theorem eqKind_88 : eqKind Tryd.prog 88 = 2 := by kernel_rfl
theorem tyK_88 : tyK Tryd.prog 88 = some none := by kernel_rfl
theorem elemK_88 : elemK Tryd.prog 88 = none := by kernel_rfl
theorem eqKind_89 : eqKind Tryd.prog 89 = 5 := by kernel_rfl
theorem tyK_89 : tyK Tryd.prog 89 = some none := by kernel_rfl
theorem elemK_89 : elemK Tryd.prog 89 = none := by kernel_rfl
theorem eqKind_90 : eqKind Tryd.prog 90 = 4 := by kernel_rfl
theorem tyK_90 : tyK Tryd.prog 90 = some none := by kernel_rfl
theorem elemK_90 : elemK Tryd.prog 90 = none := by kernel_rfl
theorem eqKind_91 : eqKind Tryd.prog 91 = 5 := by kernel_rfl
theorem tyK_91 : tyK Tryd.prog 91 = some none := by kernel_rfl
theorem elemK_91 : elemK Tryd.prog 91 = none := by kernel_rfl
theorem eqKind_92 : eqKind Tryd.prog 92 = 5 := by kernel_rfl
theorem tyK_92 : tyK Tryd.prog 92 = some none := by kernel_rfl
theorem elemK_92 : elemK Tryd.prog 92 = none := by kernel_rfl
theorem eqKind_93 : eqKind Tryd.prog 93 = 9 := by kernel_rfl
theorem tyK_93 : tyK Tryd.prog 93 = some (some 2) := by kernel_rfl
theorem bldI_93 : bldI Tryd.prog 93 = some ([.int .i64 0, .int .i64 0], [(0, 1), (1, 1)]) := by kernel_rfl
theorem elemK_93 : elemK Tryd.prog 93 = none := by kernel_rfl
theorem fieldK_93_0 : fieldK Tryd.prog 93 0 = some (0, none) := by kernel_rfl
theorem fieldK_93_1 : fieldK Tryd.prog 93 1 = some (1, none) := by kernel_rfl
theorem eqKind_94 : eqKind Tryd.prog 94 = 9 := by kernel_rfl
theorem tyK_94 : tyK Tryd.prog 94 = some (some 2) := by kernel_rfl
theorem bldI_94 : bldI Tryd.prog 94 = some ([.int .i64 0, .int .i64 0], [(0, 1), (1, 1)]) := by kernel_rfl
theorem elemK_94 : elemK Tryd.prog 94 = none := by kernel_rfl
theorem fieldK_94_0 : fieldK Tryd.prog 94 0 = some (0, none) := by kernel_rfl
theorem fieldK_94_1 : fieldK Tryd.prog 94 1 = some (1, none) := by kernel_rfl
theorem eqKind_95 : eqKind Tryd.prog 95 = 5 := by kernel_rfl
theorem tyK_95 : tyK Tryd.prog 95 = some none := by kernel_rfl
theorem elemK_95 : elemK Tryd.prog 95 = none := by kernel_rfl
theorem eqKind_96 : eqKind Tryd.prog 96 = 5 := by kernel_rfl
theorem tyK_96 : tyK Tryd.prog 96 = some none := by kernel_rfl
theorem elemK_96 : elemK Tryd.prog 96 = none := by kernel_rfl
theorem eqKind_97 : eqKind Tryd.prog 97 = 5 := by kernel_rfl
theorem tyK_97 : tyK Tryd.prog 97 = some none := by kernel_rfl
theorem elemK_97 : elemK Tryd.prog 97 = none := by kernel_rfl
theorem eqKind_98 : eqKind Tryd.prog 98 = 5 := by kernel_rfl
theorem tyK_98 : tyK Tryd.prog 98 = some none := by kernel_rfl
theorem elemK_98 : elemK Tryd.prog 98 = none := by kernel_rfl
theorem eqKind_99 : eqKind Tryd.prog 99 = 0 := by kernel_rfl
theorem tyK_99 : tyK Tryd.prog 99 = some none := by kernel_rfl
theorem elemK_99 : elemK Tryd.prog 99 = none := by kernel_rfl
theorem eqKind_100 : eqKind Tryd.prog 100 = 5 := by kernel_rfl
theorem tyK_100 : tyK Tryd.prog 100 = some none := by kernel_rfl
theorem elemK_100 : elemK Tryd.prog 100 = none := by kernel_rfl
theorem eqKind_101 : eqKind Tryd.prog 101 = 5 := by kernel_rfl
theorem tyK_101 : tyK Tryd.prog 101 = some none := by kernel_rfl
theorem elemK_101 : elemK Tryd.prog 101 = none := by kernel_rfl
theorem eqKind_102 : eqKind Tryd.prog 102 = 5 := by kernel_rfl
theorem tyK_102 : tyK Tryd.prog 102 = some none := by kernel_rfl
theorem elemK_102 : elemK Tryd.prog 102 = none := by kernel_rfl
theorem eqKind_103 : eqKind Tryd.prog 103 = 5 := by kernel_rfl
theorem tyK_103 : tyK Tryd.prog 103 = some none := by kernel_rfl
theorem elemK_103 : elemK Tryd.prog 103 = none := by kernel_rfl
theorem eqKind_104 : eqKind Tryd.prog 104 = 5 := by kernel_rfl
theorem tyK_104 : tyK Tryd.prog 104 = some none := by kernel_rfl
theorem elemK_104 : elemK Tryd.prog 104 = none := by kernel_rfl
theorem eqKind_105 : eqKind Tryd.prog 105 = 5 := by kernel_rfl
theorem tyK_105 : tyK Tryd.prog 105 = some none := by kernel_rfl
theorem elemK_105 : elemK Tryd.prog 105 = none := by kernel_rfl
theorem eqKind_106 : eqKind Tryd.prog 106 = 5 := by kernel_rfl
theorem tyK_106 : tyK Tryd.prog 106 = some none := by kernel_rfl
theorem elemK_106 : elemK Tryd.prog 106 = none := by kernel_rfl
theorem eqKind_107 : eqKind Tryd.prog 107 = 3 := by kernel_rfl
theorem tyK_107 : tyK Tryd.prog 107 = some none := by kernel_rfl
theorem elemK_107 : elemK Tryd.prog 107 = some (5, 1) := by kernel_rfl
theorem elI_107 : elI Tryd.prog 107 = some (5, 1, 1) := by kernel_rfl
theorem eqKind_108 : eqKind Tryd.prog 108 = 5 := by kernel_rfl
theorem tyK_108 : tyK Tryd.prog 108 = some none := by kernel_rfl
theorem elemK_108 : elemK Tryd.prog 108 = none := by kernel_rfl
theorem eqKind_109 : eqKind Tryd.prog 109 = 5 := by kernel_rfl
theorem tyK_109 : tyK Tryd.prog 109 = some none := by kernel_rfl
theorem elemK_109 : elemK Tryd.prog 109 = none := by kernel_rfl
theorem eqKind_110 : eqKind Tryd.prog 110 = 5 := by kernel_rfl
theorem tyK_110 : tyK Tryd.prog 110 = some none := by kernel_rfl
theorem elemK_110 : elemK Tryd.prog 110 = none := by kernel_rfl
theorem eqKind_111 : eqKind Tryd.prog 111 = 0 := by kernel_rfl
theorem tyK_111 : tyK Tryd.prog 111 = some none := by kernel_rfl
theorem elemK_111 : elemK Tryd.prog 111 = none := by kernel_rfl
theorem eqKind_112 : eqKind Tryd.prog 112 = 2 := by kernel_rfl
theorem tyK_112 : tyK Tryd.prog 112 = some none := by kernel_rfl
theorem elemK_112 : elemK Tryd.prog 112 = none := by kernel_rfl
theorem eqKind_113 : eqKind Tryd.prog 113 = 0 := by kernel_rfl
theorem tyK_113 : tyK Tryd.prog 113 = some (some 2) := by kernel_rfl
theorem bldI_113 : bldI Tryd.prog 113 = some ([str [], .bool false], [(0, 1), (1, 1)]) := by kernel_rfl
theorem elemK_113 : elemK Tryd.prog 113 = none := by kernel_rfl
theorem fieldK_113_0 : fieldK Tryd.prog 113 0 = some (0, none) := by kernel_rfl
theorem fieldK_113_1 : fieldK Tryd.prog 113 1 = some (1, none) := by kernel_rfl
theorem eqKind_114 : eqKind Tryd.prog 114 = 0 := by kernel_rfl
theorem tyK_114 : tyK Tryd.prog 114 = some (some 2) := by kernel_rfl
theorem bldI_114 : bldI Tryd.prog 114 = some ([str [], .bool false], [(0, 1), (1, 1)]) := by kernel_rfl
theorem elemK_114 : elemK Tryd.prog 114 = none := by kernel_rfl
theorem fieldK_114_0 : fieldK Tryd.prog 114 0 = some (0, none) := by kernel_rfl
theorem fieldK_114_1 : fieldK Tryd.prog 114 1 = some (1, none) := by kernel_rfl
theorem eqKind_115 : eqKind Tryd.prog 115 = 5 := by kernel_rfl
theorem tyK_115 : tyK Tryd.prog 115 = some none := by kernel_rfl
theorem elemK_115 : elemK Tryd.prog 115 = none := by kernel_rfl
theorem eqKind_116 : eqKind Tryd.prog 116 = 5 := by kernel_rfl
theorem tyK_116 : tyK Tryd.prog 116 = some none := by kernel_rfl
theorem elemK_116 : elemK Tryd.prog 116 = none := by kernel_rfl
theorem eqKind_117 : eqKind Tryd.prog 117 = 2 := by kernel_rfl
theorem tyK_117 : tyK Tryd.prog 117 = some none := by kernel_rfl
theorem elemK_117 : elemK Tryd.prog 117 = none := by kernel_rfl
theorem eqKind_118 : eqKind Tryd.prog 118 = 0 := by kernel_rfl
theorem tyK_118 : tyK Tryd.prog 118 = some (some 2) := by kernel_rfl
theorem bldI_118 : bldI Tryd.prog 118 = some ([str [], .bool false], [(0, 1), (1, 1)]) := by kernel_rfl
theorem elemK_118 : elemK Tryd.prog 118 = none := by kernel_rfl
theorem fieldK_118_0 : fieldK Tryd.prog 118 0 = some (0, none) := by kernel_rfl
theorem fieldK_118_1 : fieldK Tryd.prog 118 1 = some (1, none) := by kernel_rfl
theorem eqKind_119 : eqKind Tryd.prog 119 = 0 := by kernel_rfl
theorem tyK_119 : tyK Tryd.prog 119 = some (some 2) := by kernel_rfl
theorem bldI_119 : bldI Tryd.prog 119 = some ([str [], .bool false], [(0, 1), (1, 1)]) := by kernel_rfl
theorem elemK_119 : elemK Tryd.prog 119 = none := by kernel_rfl
theorem fieldK_119_0 : fieldK Tryd.prog 119 0 = some (0, none) := by kernel_rfl
theorem fieldK_119_1 : fieldK Tryd.prog 119 1 = some (1, none) := by kernel_rfl
theorem eqKind_120 : eqKind Tryd.prog 120 = 5 := by kernel_rfl
theorem tyK_120 : tyK Tryd.prog 120 = some none := by kernel_rfl
theorem elemK_120 : elemK Tryd.prog 120 = none := by kernel_rfl
theorem eqKind_121 : eqKind Tryd.prog 121 = 5 := by kernel_rfl
theorem tyK_121 : tyK Tryd.prog 121 = some none := by kernel_rfl
theorem elemK_121 : elemK Tryd.prog 121 = none := by kernel_rfl
theorem eqKind_122 : eqKind Tryd.prog 122 = 5 := by kernel_rfl
theorem tyK_122 : tyK Tryd.prog 122 = some none := by kernel_rfl
theorem elemK_122 : elemK Tryd.prog 122 = none := by kernel_rfl
theorem eqKind_123 : eqKind Tryd.prog 123 = 0 := by kernel_rfl
theorem tyK_123 : tyK Tryd.prog 123 = some none := by kernel_rfl
theorem elemK_123 : elemK Tryd.prog 123 = none := by kernel_rfl
theorem eqKind_124 : eqKind Tryd.prog 124 = 5 := by kernel_rfl
theorem tyK_124 : tyK Tryd.prog 124 = some none := by kernel_rfl
theorem elemK_124 : elemK Tryd.prog 124 = none := by kernel_rfl
theorem eqKind_125 : eqKind Tryd.prog 125 = 5 := by kernel_rfl
theorem tyK_125 : tyK Tryd.prog 125 = some none := by kernel_rfl
theorem elemK_125 : elemK Tryd.prog 125 = none := by kernel_rfl
theorem eqKind_126 : eqKind Tryd.prog 126 = 5 := by kernel_rfl
theorem tyK_126 : tyK Tryd.prog 126 = some none := by kernel_rfl
theorem elemK_126 : elemK Tryd.prog 126 = none := by kernel_rfl
theorem eqKind_127 : eqKind Tryd.prog 127 = 0 := by kernel_rfl
theorem tyK_127 : tyK Tryd.prog 127 = some none := by kernel_rfl
theorem elemK_127 : elemK Tryd.prog 127 = none := by kernel_rfl
theorem eqKind_128 : eqKind Tryd.prog 128 = 0 := by kernel_rfl
theorem tyK_128 : tyK Tryd.prog 128 = some none := by kernel_rfl
theorem elemK_128 : elemK Tryd.prog 128 = none := by kernel_rfl
theorem eqKind_129 : eqKind Tryd.prog 129 = 0 := by kernel_rfl
theorem tyK_129 : tyK Tryd.prog 129 = some (some 3) := by kernel_rfl
theorem bldI_129 : bldI Tryd.prog 129 = some ([.pointer none, .pointer none, .int .u64 0], [(0, 1), (1, 1), (2, 1)]) := by kernel_rfl
theorem elemK_129 : elemK Tryd.prog 129 = none := by kernel_rfl
theorem fieldK_129_0 : fieldK Tryd.prog 129 0 = some (0, none) := by kernel_rfl
theorem fieldK_129_1 : fieldK Tryd.prog 129 1 = some (1, none) := by kernel_rfl
theorem fieldK_129_2 : fieldK Tryd.prog 129 2 = some (2, none) := by kernel_rfl
theorem eqKind_130 : eqKind Tryd.prog 130 = 0 := by kernel_rfl
theorem tyK_130 : tyK Tryd.prog 130 = some (some 3) := by kernel_rfl
theorem bldI_130 : bldI Tryd.prog 130 = some ([.pointer none, .pointer none, .int .u64 0], [(0, 1), (1, 1), (2, 1)]) := by kernel_rfl
theorem elemK_130 : elemK Tryd.prog 130 = none := by kernel_rfl
theorem fieldK_130_0 : fieldK Tryd.prog 130 0 = some (0, none) := by kernel_rfl
theorem fieldK_130_1 : fieldK Tryd.prog 130 1 = some (1, none) := by kernel_rfl
theorem fieldK_130_2 : fieldK Tryd.prog 130 2 = some (2, none) := by kernel_rfl
theorem eqKind_131 : eqKind Tryd.prog 131 = 5 := by kernel_rfl
theorem tyK_131 : tyK Tryd.prog 131 = some none := by kernel_rfl
theorem elemK_131 : elemK Tryd.prog 131 = none := by kernel_rfl
theorem eqKind_132 : eqKind Tryd.prog 132 = 1 := by kernel_rfl
theorem tyK_132 : tyK Tryd.prog 132 = some none := by kernel_rfl
theorem elemK_132 : elemK Tryd.prog 132 = none := by kernel_rfl
theorem eqKind_133 : eqKind Tryd.prog 133 = 1 := by kernel_rfl
theorem tyK_133 : tyK Tryd.prog 133 = some none := by kernel_rfl
theorem elemK_133 : elemK Tryd.prog 133 = none := by kernel_rfl
theorem eqKind_134 : eqKind Tryd.prog 134 = 5 := by kernel_rfl
theorem tyK_134 : tyK Tryd.prog 134 = some none := by kernel_rfl
theorem elemK_134 : elemK Tryd.prog 134 = none := by kernel_rfl
theorem eqKind_135 : eqKind Tryd.prog 135 = 0 := by kernel_rfl
theorem tyK_135 : tyK Tryd.prog 135 = some none := by kernel_rfl
theorem elemK_135 : elemK Tryd.prog 135 = none := by kernel_rfl
theorem eqKind_136 : eqKind Tryd.prog 136 = 5 := by kernel_rfl
theorem tyK_136 : tyK Tryd.prog 136 = some none := by kernel_rfl
theorem elemK_136 : elemK Tryd.prog 136 = none := by kernel_rfl
theorem eqKind_137 : eqKind Tryd.prog 137 = 5 := by kernel_rfl
theorem tyK_137 : tyK Tryd.prog 137 = some none := by kernel_rfl
theorem elemK_137 : elemK Tryd.prog 137 = none := by kernel_rfl
theorem eqKind_138 : eqKind Tryd.prog 138 = 5 := by kernel_rfl
theorem tyK_138 : tyK Tryd.prog 138 = some none := by kernel_rfl
theorem elemK_138 : elemK Tryd.prog 138 = none := by kernel_rfl
theorem eqKind_139 : eqKind Tryd.prog 139 = 0 := by kernel_rfl
theorem tyK_139 : tyK Tryd.prog 139 = some none := by kernel_rfl
theorem elemK_139 : elemK Tryd.prog 139 = none := by kernel_rfl
theorem eqKind_140 : eqKind Tryd.prog 140 = 5 := by kernel_rfl
theorem tyK_140 : tyK Tryd.prog 140 = some none := by kernel_rfl
theorem elemK_140 : elemK Tryd.prog 140 = none := by kernel_rfl
theorem eqKind_141 : eqKind Tryd.prog 141 = 5 := by kernel_rfl
theorem tyK_141 : tyK Tryd.prog 141 = some none := by kernel_rfl
theorem elemK_141 : elemK Tryd.prog 141 = none := by kernel_rfl
theorem eqKind_142 : eqKind Tryd.prog 142 = 5 := by kernel_rfl
theorem tyK_142 : tyK Tryd.prog 142 = some none := by kernel_rfl
theorem elemK_142 : elemK Tryd.prog 142 = none := by kernel_rfl
theorem eqKind_143 : eqKind Tryd.prog 143 = 5 := by kernel_rfl
theorem tyK_143 : tyK Tryd.prog 143 = some none := by kernel_rfl
theorem elemK_143 : elemK Tryd.prog 143 = none := by kernel_rfl
theorem eqKind_144 : eqKind Tryd.prog 144 = 4 := by kernel_rfl
theorem tyK_144 : tyK Tryd.prog 144 = some none := by kernel_rfl
theorem elemK_144 : elemK Tryd.prog 144 = none := by kernel_rfl
theorem eqKind_145 : eqKind Tryd.prog 145 = 5 := by kernel_rfl
theorem tyK_145 : tyK Tryd.prog 145 = some none := by kernel_rfl
theorem elemK_145 : elemK Tryd.prog 145 = none := by kernel_rfl
theorem eqKind_146 : eqKind Tryd.prog 146 = 5 := by kernel_rfl
theorem tyK_146 : tyK Tryd.prog 146 = some none := by kernel_rfl
theorem elemK_146 : elemK Tryd.prog 146 = none := by kernel_rfl
theorem eqKind_147 : eqKind Tryd.prog 147 = 0 := by kernel_rfl
theorem tyK_147 : tyK Tryd.prog 147 = some (some 1) := by kernel_rfl
theorem bldI_147 : bldI Tryd.prog 147 = some ([.pointer none], [(0, 1)]) := by kernel_rfl
theorem elemK_147 : elemK Tryd.prog 147 = none := by kernel_rfl
theorem fieldK_147_0 : fieldK Tryd.prog 147 0 = some (0, none) := by kernel_rfl
theorem eqKind_148 : eqKind Tryd.prog 148 = 0 := by kernel_rfl
theorem tyK_148 : tyK Tryd.prog 148 = some (some 1) := by kernel_rfl
theorem bldI_148 : bldI Tryd.prog 148 = some ([.pointer none], [(0, 1)]) := by kernel_rfl
theorem elemK_148 : elemK Tryd.prog 148 = none := by kernel_rfl
theorem fieldK_148_0 : fieldK Tryd.prog 148 0 = some (0, none) := by kernel_rfl
theorem eqKind_149 : eqKind Tryd.prog 149 = 2 := by kernel_rfl
theorem tyK_149 : tyK Tryd.prog 149 = some none := by kernel_rfl
theorem elemK_149 : elemK Tryd.prog 149 = none := by kernel_rfl
theorem eqKind_150 : eqKind Tryd.prog 150 = 5 := by kernel_rfl
theorem tyK_150 : tyK Tryd.prog 150 = some none := by kernel_rfl
theorem elemK_150 : elemK Tryd.prog 150 = none := by kernel_rfl
theorem eqKind_151 : eqKind Tryd.prog 151 = 5 := by kernel_rfl
theorem tyK_151 : tyK Tryd.prog 151 = some none := by kernel_rfl
theorem elemK_151 : elemK Tryd.prog 151 = none := by kernel_rfl
theorem eqKind_152 : eqKind Tryd.prog 152 = 5 := by kernel_rfl
theorem tyK_152 : tyK Tryd.prog 152 = some none := by kernel_rfl
theorem elemK_152 : elemK Tryd.prog 152 = none := by kernel_rfl
theorem eqKind_153 : eqKind Tryd.prog 153 = 1 := by kernel_rfl
theorem tyK_153 : tyK Tryd.prog 153 = some none := by kernel_rfl
theorem elemK_153 : elemK Tryd.prog 153 = none := by kernel_rfl
theorem eqKind_154 : eqKind Tryd.prog 154 = 0 := by kernel_rfl
theorem tyK_154 : tyK Tryd.prog 154 = some none := by kernel_rfl
theorem elemK_154 : elemK Tryd.prog 154 = none := by kernel_rfl
theorem eqKind_155 : eqKind Tryd.prog 155 = 5 := by kernel_rfl
theorem tyK_155 : tyK Tryd.prog 155 = some none := by kernel_rfl
theorem elemK_155 : elemK Tryd.prog 155 = none := by kernel_rfl
theorem eqKind_156 : eqKind Tryd.prog 156 = 1 := by kernel_rfl
theorem tyK_156 : tyK Tryd.prog 156 = some none := by kernel_rfl
theorem elemK_156 : elemK Tryd.prog 156 = none := by kernel_rfl
theorem eqKind_157 : eqKind Tryd.prog 157 = 5 := by kernel_rfl
theorem tyK_157 : tyK Tryd.prog 157 = some none := by kernel_rfl
theorem elemK_157 : elemK Tryd.prog 157 = none := by kernel_rfl
theorem eqKind_158 : eqKind Tryd.prog 158 = 1 := by kernel_rfl
theorem tyK_158 : tyK Tryd.prog 158 = some none := by kernel_rfl
theorem elemK_158 : elemK Tryd.prog 158 = none := by kernel_rfl
theorem eqKind_159 : eqKind Tryd.prog 159 = 3 := by kernel_rfl
theorem tyK_159 : tyK Tryd.prog 159 = some none := by kernel_rfl
theorem elemK_159 : elemK Tryd.prog 159 = some (30, 1) := by kernel_rfl
theorem elI_159 : elI Tryd.prog 159 = some (30, 1, 16) := by kernel_rfl
theorem eqKind_160 : eqKind Tryd.prog 160 = 5 := by kernel_rfl
theorem tyK_160 : tyK Tryd.prog 160 = some none := by kernel_rfl
theorem elemK_160 : elemK Tryd.prog 160 = none := by kernel_rfl
theorem eqKind_161 : eqKind Tryd.prog 161 = 2 := by kernel_rfl
theorem tyK_161 : tyK Tryd.prog 161 = some none := by kernel_rfl
theorem elemK_161 : elemK Tryd.prog 161 = none := by kernel_rfl
theorem eqKind_162 : eqKind Tryd.prog 162 = 0 := by kernel_rfl
theorem tyK_162 : tyK Tryd.prog 162 = some none := by kernel_rfl
theorem elemK_162 : elemK Tryd.prog 162 = none := by kernel_rfl
theorem eqKind_163 : eqKind Tryd.prog 163 = 9 := by kernel_rfl
theorem tyK_163 : tyK Tryd.prog 163 = some (some 2) := by kernel_rfl
theorem bldI_163 : bldI Tryd.prog 163 = some ([.int .i64 0, .int .i64 0], [(0, 1), (1, 1)]) := by kernel_rfl
theorem elemK_163 : elemK Tryd.prog 163 = none := by kernel_rfl
theorem fieldK_163_0 : fieldK Tryd.prog 163 0 = some (0, none) := by kernel_rfl
theorem fieldK_163_1 : fieldK Tryd.prog 163 1 = some (1, none) := by kernel_rfl
theorem eqKind_164 : eqKind Tryd.prog 164 = 0 := by kernel_rfl
theorem tyK_164 : tyK Tryd.prog 164 = some none := by kernel_rfl
theorem elemK_164 : elemK Tryd.prog 164 = none := by kernel_rfl
theorem eqKind_165 : eqKind Tryd.prog 165 = 5 := by kernel_rfl
theorem tyK_165 : tyK Tryd.prog 165 = some none := by kernel_rfl
theorem elemK_165 : elemK Tryd.prog 165 = none := by kernel_rfl
theorem eqKind_166 : eqKind Tryd.prog 166 = 0 := by kernel_rfl
theorem tyK_166 : tyK Tryd.prog 166 = some (some 4) := by kernel_rfl
theorem bldI_166 : bldI Tryd.prog 166 = some ([.pointer none, .pointer none, .pointer none, str []], [(0, 1), (1, 1), (2, 1), (3, 1)]) := by kernel_rfl
theorem elemK_166 : elemK Tryd.prog 166 = none := by kernel_rfl
theorem fieldK_166_0 : fieldK Tryd.prog 166 0 = some (0, none) := by kernel_rfl
theorem fieldK_166_1 : fieldK Tryd.prog 166 1 = some (1, none) := by kernel_rfl
theorem fieldK_166_2 : fieldK Tryd.prog 166 2 = some (2, none) := by kernel_rfl
theorem fieldK_166_3 : fieldK Tryd.prog 166 3 = some (3, none) := by kernel_rfl
theorem eqKind_167 : eqKind Tryd.prog 167 = 0 := by kernel_rfl
theorem tyK_167 : tyK Tryd.prog 167 = some (some 4) := by kernel_rfl
theorem bldI_167 : bldI Tryd.prog 167 = some ([.pointer none, .pointer none, .pointer none, str []], [(0, 1), (1, 1), (2, 1), (3, 1)]) := by kernel_rfl
theorem elemK_167 : elemK Tryd.prog 167 = none := by kernel_rfl
theorem fieldK_167_0 : fieldK Tryd.prog 167 0 = some (0, none) := by kernel_rfl
theorem fieldK_167_1 : fieldK Tryd.prog 167 1 = some (1, none) := by kernel_rfl
theorem fieldK_167_2 : fieldK Tryd.prog 167 2 = some (2, none) := by kernel_rfl
theorem fieldK_167_3 : fieldK Tryd.prog 167 3 = some (3, none) := by kernel_rfl
theorem eqKind_168 : eqKind Tryd.prog 168 = 0 := by kernel_rfl
theorem tyK_168 : tyK Tryd.prog 168 = some (some 0) := by kernel_rfl
theorem elemK_168 : elemK Tryd.prog 168 = none := by kernel_rfl
theorem arrK_168 : arrK Tryd.prog 168 = some (0, 16, 1) := by kernel_rfl
theorem eqKind_169 : eqKind Tryd.prog 169 = 0 := by kernel_rfl
theorem tyK_169 : tyK Tryd.prog 169 = some (some 0) := by kernel_rfl
theorem bldI_169 : bldI Tryd.prog 169 = some ([], [(0, 0)]) := by kernel_rfl
theorem elemK_169 : elemK Tryd.prog 169 = none := by kernel_rfl
theorem eqKind_170 : eqKind Tryd.prog 170 = 0 := by kernel_rfl
theorem tyK_170 : tyK Tryd.prog 170 = some (some 0) := by kernel_rfl
theorem bldI_170 : bldI Tryd.prog 170 = some ([], [(0, 0)]) := by kernel_rfl
theorem elemK_170 : elemK Tryd.prog 170 = none := by kernel_rfl
theorem eqKind_171 : eqKind Tryd.prog 171 = 5 := by kernel_rfl
theorem tyK_171 : tyK Tryd.prog 171 = some none := by kernel_rfl
theorem elemK_171 : elemK Tryd.prog 171 = none := by kernel_rfl
theorem eqKind_172 : eqKind Tryd.prog 172 = 0 := by kernel_rfl
theorem tyK_172 : tyK Tryd.prog 172 = some none := by kernel_rfl
theorem elemK_172 : elemK Tryd.prog 172 = none := by kernel_rfl
theorem eqKind_173 : eqKind Tryd.prog 173 = 5 := by kernel_rfl
theorem tyK_173 : tyK Tryd.prog 173 = some none := by kernel_rfl
theorem elemK_173 : elemK Tryd.prog 173 = none := by kernel_rfl
theorem eqKind_174 : eqKind Tryd.prog 174 = 2 := by kernel_rfl
theorem tyK_174 : tyK Tryd.prog 174 = some none := by kernel_rfl
theorem elemK_174 : elemK Tryd.prog 174 = none := by kernel_rfl
theorem eqKind_175 : eqKind Tryd.prog 175 = 0 := by kernel_rfl
theorem tyK_175 : tyK Tryd.prog 175 = some none := by kernel_rfl
theorem elemK_175 : elemK Tryd.prog 175 = none := by kernel_rfl
theorem eqKind_176 : eqKind Tryd.prog 176 = 0 := by kernel_rfl
theorem tyK_176 : tyK Tryd.prog 176 = some none := by kernel_rfl
theorem elemK_176 : elemK Tryd.prog 176 = none := by kernel_rfl
theorem eqKind_177 : eqKind Tryd.prog 177 = 0 := by kernel_rfl
theorem tyK_177 : tyK Tryd.prog 177 = some (some 11) := by kernel_rfl
theorem bldI_177 : bldI Tryd.prog 177 = some ([.int .u64 0, .int .u64 0, .int .u32 0, .int .u8 0, .int .u8 0, .int .u8 0, .int .u8 0, .nilFunc, .pointer none, .int .i32 0, .int .i32 0], [(0, 1), (1, 1), (2, 1), (3, 1), (4, 1), (5, 1), (6, 1), (7, 1), (8, 1), (9, 1), (10, 1)]) := by kernel_rfl
theorem elemK_177 : elemK Tryd.prog 177 = none := by kernel_rfl
theorem fieldK_177_0 : fieldK Tryd.prog 177 0 = some (0, none) := by kernel_rfl
theorem fieldK_177_1 : fieldK Tryd.prog 177 1 = some (1, none) := by kernel_rfl
theorem fieldK_177_2 : fieldK Tryd.prog 177 2 = some (2, none) := by kernel_rfl
theorem fieldK_177_3 : fieldK Tryd.prog 177 3 = some (3, none) := by kernel_rfl
theorem fieldK_177_4 : fieldK Tryd.prog 177 4 = some (4, none) := by kernel_rfl
theorem fieldK_177_5 : fieldK Tryd.prog 177 5 = some (5, none) := by kernel_rfl
theorem fieldK_177_6 : fieldK Tryd.prog 177 6 = some (6, none) := by kernel_rfl
theorem fieldK_177_7 : fieldK Tryd.prog 177 7 = some (7, none) := by kernel_rfl
theorem fieldK_177_8 : fieldK Tryd.prog 177 8 = some (8, none) := by kernel_rfl
theorem fieldK_177_9 : fieldK Tryd.prog 177 9 = some (9, none) := by kernel_rfl
theorem fieldK_177_10 : fieldK Tryd.prog 177 10 = some (10, none) := by kernel_rfl
theorem eqKind_178 : eqKind Tryd.prog 178 = 0 := by kernel_rfl
theorem tyK_178 : tyK Tryd.prog 178 = some (some 11) := by kernel_rfl
theorem bldI_178 : bldI Tryd.prog 178 = some ([.int .u64 0, .int .u64 0, .int .u32 0, .int .u8 0, .int .u8 0, .int .u8 0, .int .u8 0, .nilFunc, .pointer none, .int .i32 0, .int .i32 0], [(0, 1), (1, 1), (2, 1), (3, 1), (4, 1), (5, 1), (6, 1), (7, 1), (8, 1), (9, 1), (10, 1)]) := by kernel_rfl
theorem elemK_178 : elemK Tryd.prog 178 = none := by kernel_rfl
theorem fieldK_178_0 : fieldK Tryd.prog 178 0 = some (0, none) := by kernel_rfl
theorem fieldK_178_1 : fieldK Tryd.prog 178 1 = some (1, none) := by kernel_rfl
theorem fieldK_178_2 : fieldK Tryd.prog 178 2 = some (2, none) := by kernel_rfl
theorem fieldK_178_3 : fieldK Tryd.prog 178 3 = some (3, none) := by kernel_rfl
theorem fieldK_178_4 : fieldK Tryd.prog 178 4 = some (4, none) := by kernel_rfl
theorem fieldK_178_5 : fieldK Tryd.prog 178 5 = some (5, none) := by kernel_rfl
theorem fieldK_178_6 : fieldK Tryd.prog 178 6 = some (6, none) := by kernel_rfl
theorem fieldK_178_7 : fieldK Tryd.prog 178 7 = some (7, none) := by kernel_rfl
theorem fieldK_178_8 : fieldK Tryd.prog 178 8 = some (8, none) := by kernel_rfl
theorem fieldK_178_9 : fieldK Tryd.prog 178 9 = some (9, none) := by kernel_rfl
theorem fieldK_178_10 : fieldK Tryd.prog 178 10 = some (10, none) := by kernel_rfl
theorem eqKind_179 : eqKind Tryd.prog 179 = 5 := by kernel_rfl
theorem tyK_179 : tyK Tryd.prog 179 = some none := by kernel_rfl
theorem elemK_179 : elemK Tryd.prog 179 = none := by kernel_rfl
theorem eqKind_180 : eqKind Tryd.prog 180 = 5 := by kernel_rfl
theorem tyK_180 : tyK Tryd.prog 180 = some none := by kernel_rfl
theorem elemK_180 : elemK Tryd.prog 180 = none := by kernel_rfl
theorem eqKind_181 : eqKind Tryd.prog 181 = 0 := by kernel_rfl
theorem tyK_181 : tyK Tryd.prog 181 = some (some 2) := by kernel_rfl
theorem bldI_181 : bldI Tryd.prog 181 = some ([str [], .int .u8 0], [(0, 1), (1, 1)]) := by kernel_rfl
theorem elemK_181 : elemK Tryd.prog 181 = none := by kernel_rfl
theorem fieldK_181_0 : fieldK Tryd.prog 181 0 = some (0, none) := by kernel_rfl
theorem fieldK_181_1 : fieldK Tryd.prog 181 1 = some (1, none) := by kernel_rfl
theorem eqKind_182 : eqKind Tryd.prog 182 = 0 := by kernel_rfl
theorem tyK_182 : tyK Tryd.prog 182 = some (some 2) := by kernel_rfl
theorem bldI_182 : bldI Tryd.prog 182 = some ([str [], .int .u8 0], [(0, 1), (1, 1)]) := by kernel_rfl
theorem elemK_182 : elemK Tryd.prog 182 = none := by kernel_rfl
theorem fieldK_182_0 : fieldK Tryd.prog 182 0 = some (0, none) := by kernel_rfl
theorem fieldK_182_1 : fieldK Tryd.prog 182 1 = some (1, none) := by kernel_rfl
theorem eqKind_183 : eqKind Tryd.prog 183 = 2 := by kernel_rfl
theorem tyK_183 : tyK Tryd.prog 183 = some none := by kernel_rfl
theorem elemK_183 : elemK Tryd.prog 183 = none := by kernel_rfl
theorem eqKind_184 : eqKind Tryd.prog 184 = 5 := by kernel_rfl
theorem tyK_184 : tyK Tryd.prog 184 = some none := by kernel_rfl
theorem elemK_184 : elemK Tryd.prog 184 = none := by kernel_rfl
theorem eqKind_185 : eqKind Tryd.prog 185 = 0 := by kernel_rfl
theorem tyK_185 : tyK Tryd.prog 185 = some none := by kernel_rfl
theorem elemK_185 : elemK Tryd.prog 185 = none := by kernel_rfl
theorem eqKind_186 : eqKind Tryd.prog 186 = 0 := by kernel_rfl
theorem tyK_186 : tyK Tryd.prog 186 = some (some 5) := by kernel_rfl
theorem bldI_186 : bldI Tryd.prog 186 = some ([.int .i32 0, .int .u16 0, .int .u16 0, .int .u32 0, .int .u32 0], [(0, 1), (1, 1), (2, 1), (3, 1), (4, 1)]) := by kernel_rfl
theorem elemK_186 : elemK Tryd.prog 186 = none := by kernel_rfl
theorem fieldK_186_0 : fieldK Tryd.prog 186 0 = some (0, none) := by kernel_rfl
theorem fieldK_186_1 : fieldK Tryd.prog 186 1 = some (1, none) := by kernel_rfl
theorem fieldK_186_2 : fieldK Tryd.prog 186 2 = some (2, none) := by kernel_rfl
theorem fieldK_186_3 : fieldK Tryd.prog 186 3 = some (3, none) := by kernel_rfl
theorem fieldK_186_4 : fieldK Tryd.prog 186 4 = some (4, none) := by kernel_rfl
theorem eqKind_187 : eqKind Tryd.prog 187 = 0 := by kernel_rfl
theorem tyK_187 : tyK Tryd.prog 187 = some (some 5) := by kernel_rfl
theorem bldI_187 : bldI Tryd.prog 187 = some ([.int .i32 0, .int .u16 0, .int .u16 0, .int .u32 0, .int .u32 0], [(0, 1), (1, 1), (2, 1), (3, 1), (4, 1)]) := by kernel_rfl
theorem elemK_187 : elemK Tryd.prog 187 = none := by kernel_rfl
theorem fieldK_187_0 : fieldK Tryd.prog 187 0 = some (0, none) := by kernel_rfl
theorem fieldK_187_1 : fieldK Tryd.prog 187 1 = some (1, none) := by kernel_rfl
theorem fieldK_187_2 : fieldK Tryd.prog 187 2 = some (2, none) := by kernel_rfl
theorem fieldK_187_3 : fieldK Tryd.prog 187 3 = some (3, none) := by kernel_rfl
theorem fieldK_187_4 : fieldK Tryd.prog 187 4 = some (4, none) := by kernel_rfl
theorem eqKind_188 : eqKind Tryd.prog 188 = 3 := by kernel_rfl
theorem tyK_188 : tyK Tryd.prog 188 = some none := by kernel_rfl
theorem elemK_188 : elemK Tryd.prog 188 = some (191, 4) := by kernel_rfl
theorem elI_188 : elI Tryd.prog 188 = some (191, 4, 16) := by kernel_rfl
theorem eqKind_189 : eqKind Tryd.prog 189 = 0 := by kernel_rfl
theorem tyK_189 : tyK Tryd.prog 189 = some none := by kernel_rfl
theorem elemK_189 : elemK Tryd.prog 189 = none := by kernel_rfl
theorem eqKind_190 : eqKind Tryd.prog 190 = 0 := by kernel_rfl
theorem tyK_190 : tyK Tryd.prog 190 = some (some 4) := by kernel_rfl
theorem bldI_190 : bldI Tryd.prog 190 = some ([.int .i32 0, .int .i32 0, .int .i32 0, .int .i32 0], [(0, 1), (1, 1), (2, 1), (3, 1)]) := by kernel_rfl
theorem elemK_190 : elemK Tryd.prog 190 = none := by kernel_rfl
theorem fieldK_190_0 : fieldK Tryd.prog 190 0 = some (0, none) := by kernel_rfl
theorem fieldK_190_1 : fieldK Tryd.prog 190 1 = some (1, none) := by kernel_rfl
theorem fieldK_190_2 : fieldK Tryd.prog 190 2 = some (2, none) := by kernel_rfl
theorem fieldK_190_3 : fieldK Tryd.prog 190 3 = some (3, none) := by kernel_rfl
theorem eqKind_191 : eqKind Tryd.prog 191 = 0 := by kernel_rfl
theorem tyK_191 : tyK Tryd.prog 191 = some (some 4) := by kernel_rfl
theorem bldI_191 : bldI Tryd.prog 191 = some ([.int .i32 0, .int .i32 0, .int .i32 0, .int .i32 0], [(0, 1), (1, 1), (2, 1), (3, 1)]) := by kernel_rfl
theorem elemK_191 : elemK Tryd.prog 191 = none := by kernel_rfl
theorem fieldK_191_0 : fieldK Tryd.prog 191 0 = some (0, none) := by kernel_rfl
theorem fieldK_191_1 : fieldK Tryd.prog 191 1 = some (1, none) := by kernel_rfl
theorem fieldK_191_2 : fieldK Tryd.prog 191 2 = some (2, none) := by kernel_rfl
theorem fieldK_191_3 : fieldK Tryd.prog 191 3 = some (3, none) := by kernel_rfl
theorem eqKind_192 : eqKind Tryd.prog 192 = 2 := by kernel_rfl
theorem tyK_192 : tyK Tryd.prog 192 = some none := by kernel_rfl
theorem elemK_192 : elemK Tryd.prog 192 = none := by kernel_rfl
theorem mixed : Tryd.prog.follows .mixedOrders = true := by kernel_rfl
attribute [push_cast] eqKind_0 tyK_0 elemK_0 eqKind_1 tyK_1 elemK_1 Tryd.underlying1 eqKind_2 tyK_2 elemK_2 Tryd.underlying2 eqKind_3 tyK_3 elemK_3 Tryd.underlying3 eqKind_4 tyK_4 elemK_4 Tryd.underlying4 eqKind_5 tyK_5 elemK_5 Tryd.underlying5 eqKind_6 tyK_6 elemK_6 Tryd.underlying6 eqKind_7 tyK_7 bldI_7 elemK_7 fieldK_7_0 fieldK_7_1 fieldK_7_2 fieldK_7_3 eqKind_8 tyK_8 bldI_8 elemK_8 fieldK_8_0 fieldK_8_1 fieldK_8_2 fieldK_8_3 eqKind_9 tyK_9 elemK_9 Tryd.underlying9 eqKind_10 tyK_10 elemK_10 Tryd.underlying10 eqKind_11 tyK_11 elemK_11 Tryd.underlying11 eqKind_12 tyK_12 elemK_12 Tryd.underlying12 eqKind_13 tyK_13 bldI_13 elemK_13 fieldK_13_0 fieldK_13_1 eqKind_14 tyK_14 bldI_14 elemK_14 fieldK_14_0 fieldK_14_1 eqKind_15 tyK_15 elemK_15 Tryd.underlying15 eqKind_16 tyK_16 elemK_16 Tryd.underlying16 eqKind_17 tyK_17 elemK_17 Tryd.underlying17 eqKind_18 tyK_18 bldI_18 elemK_18 fieldK_18_0 eqKind_19 tyK_19 bldI_19 elemK_19 fieldK_19_0 eqKind_20 tyK_20 elemK_20 eqKind_21 tyK_21 elemK_21 Tryd.underlying21 eqKind_22 tyK_22 elemK_22 Tryd.underlying22 eqKind_23 tyK_23 elemK_23 Tryd.underlying23 eqKind_24 tyK_24 bldI_24 elemK_24 fieldK_24_0 fieldK_24_1 eqKind_25 tyK_25 bldI_25 elemK_25 fieldK_25_0 fieldK_25_1 eqKind_26 tyK_26 elemK_26 Tryd.underlying26 eqKind_27 tyK_27 elemK_27 Tryd.underlying27 eqKind_28 tyK_28 elemK_28 Tryd.underlying28 eqKind_29 tyK_29 elemK_29 eqKind_30 tyK_30 elemK_30 eqKind_31 tyK_31 elemK_31 eqKind_32 tyK_32 elemK_32 Tryd.underlying32 eqKind_33 tyK_33 elemK_33 Tryd.underlying33 eqKind_34 tyK_34 elemK_34 Tryd.underlying34 eqKind_35 tyK_35 elemK_35 Tryd.underlying35 eqKind_36 tyK_36 bldI_36 elemK_36 fieldK_36_0 fieldK_36_1 fieldK_36_2 eqKind_37 tyK_37 bldI_37 elemK_37 fieldK_37_0 fieldK_37_1 fieldK_37_2 eqKind_38 tyK_38 elemK_38 Tryd.underlying38 eqKind_39 tyK_39 elemK_39 Tryd.underlying39 eqKind_40 tyK_40 elemK_40 Tryd.underlying40 eqKind_41 tyK_41 elemK_41 Tryd.underlying41 eqKind_42 tyK_42 bldI_42 elemK_42 fieldK_42_0 fieldK_42_1 eqKind_43 tyK_43 bldI_43 elemK_43 fieldK_43_0 fieldK_43_1 eqKind_44 tyK_44 elemK_44 Tryd.underlying44 eqKind_45 tyK_45 elemK_45 eqKind_46 tyK_46 elemK_46 Tryd.underlying46 eqKind_47 tyK_47 elemK_47 Tryd.underlying47 eqKind_48 tyK_48 elemK_48 eqKind_49 tyK_49 elemK_49 Tryd.underlying49 eqKind_50 tyK_50 elemK_50 eqKind_51 tyK_51 elemK_51 Tryd.underlying51 eqKind_52 tyK_52 elemK_52 Tryd.underlying52 eqKind_53 tyK_53 elemK_53 Tryd.underlying53 eqKind_54 tyK_54 elemK_54 eqKind_55 tyK_55 elemK_55 Tryd.underlying55 eqKind_56 tyK_56 elemK_56 Tryd.underlying56 eqKind_57 tyK_57 elemK_57 eqKind_58 tyK_58 elemK_58 Tryd.underlying58 eqKind_59 tyK_59 elemK_59 Tryd.underlying59 eqKind_60 tyK_60 bldI_60 elemK_60 fieldK_60_0 fieldK_60_1 fieldK_60_2 eqKind_61 tyK_61 bldI_61 elemK_61 fieldK_61_0 fieldK_61_1 fieldK_61_2 eqKind_62 tyK_62 elemK_62 Tryd.underlying62 eqKind_63 tyK_63 elemK_63 eqKind_64 tyK_64 elemK_64 Tryd.underlying64 eqKind_65 tyK_65 elemK_65 eqKind_66 tyK_66 elemK_66 Tryd.underlying66 eqKind_67 tyK_67 elemK_67 Tryd.underlying67 eqKind_68 tyK_68 elemK_68 Tryd.underlying68 eqKind_69 tyK_69 elemK_69 eqKind_70 tyK_70 elemK_70 Tryd.underlying70 eqKind_71 tyK_71 elemK_71 Tryd.underlying71 eqKind_72 tyK_72 elemK_72 Tryd.underlying72 eqKind_73 tyK_73 elemK_73 Tryd.underlying73 eqKind_74 tyK_74 elemK_74 Tryd.underlying74 eqKind_75 tyK_75 elemK_75 Tryd.underlying75 eqKind_76 tyK_76 elemK_76 Tryd.underlying76 eqKind_77 tyK_77 elemK_77 Tryd.underlying77 eqKind_78 tyK_78 bldI_78 elemK_78 fieldK_78_0 fieldK_78_1 eqKind_79 tyK_79 bldI_79 elemK_79 fieldK_79_0 fieldK_79_1 eqKind_80 tyK_80 elemK_80 Tryd.underlying80 eqKind_81 tyK_81 elemK_81 Tryd.underlying81 eqKind_82 tyK_82 bldI_82 elemK_82 fieldK_82_0 fieldK_82_1 eqKind_83 tyK_83 bldI_83 elemK_83 fieldK_83_0 fieldK_83_1 eqKind_84 tyK_84 elemK_84 Tryd.underlying84 eqKind_85 tyK_85 elemK_85 Tryd.underlying85 eqKind_86 tyK_86 elemK_86 Tryd.underlying86 eqKind_87 tyK_87 elemK_87 Tryd.underlying87 eqKind_88 tyK_88 elemK_88 Tryd.underlying88 eqKind_89 tyK_89 elemK_89 Tryd.underlying89 eqKind_90 tyK_90 elemK_90 Tryd.underlying90 eqKind_91 tyK_91 elemK_91 Tryd.underlying91 eqKind_92 tyK_92 elemK_92 Tryd.underlying92 eqKind_93 tyK_93 bldI_93 elemK_93 fieldK_93_0 fieldK_93_1 eqKind_94 tyK_94 bldI_94 elemK_94 fieldK_94_0 fieldK_94_1 eqKind_95 tyK_95 elemK_95 Tryd.underlying95 eqKind_96 tyK_96 elemK_96 Tryd.underlying96 eqKind_97 tyK_97 elemK_97 Tryd.underlying97 eqKind_98 tyK_98 elemK_98 Tryd.underlying98 eqKind_99 tyK_99 elemK_99 eqKind_100 tyK_100 elemK_100 Tryd.underlying100 eqKind_101 tyK_101 elemK_101 Tryd.underlying101 eqKind_102 tyK_102 elemK_102 Tryd.underlying102 eqKind_103 tyK_103 elemK_103 Tryd.underlying103 eqKind_104 tyK_104 elemK_104 Tryd.underlying104 eqKind_105 tyK_105 elemK_105 Tryd.underlying105 eqKind_106 tyK_106 elemK_106 Tryd.underlying106 eqKind_107 tyK_107 elemK_107 Tryd.underlying107 eqKind_108 tyK_108 elemK_108 Tryd.underlying108 eqKind_109 tyK_109 elemK_109 Tryd.underlying109 eqKind_110 tyK_110 elemK_110 Tryd.underlying110 eqKind_111 tyK_111 elemK_111 Tryd.underlying111 eqKind_112 tyK_112 elemK_112 Tryd.underlying112 eqKind_113 tyK_113 bldI_113 elemK_113 fieldK_113_0 fieldK_113_1 eqKind_114 tyK_114 bldI_114 elemK_114 fieldK_114_0 fieldK_114_1 eqKind_115 tyK_115 elemK_115 Tryd.underlying115 eqKind_116 tyK_116 elemK_116 Tryd.underlying116 eqKind_117 tyK_117 elemK_117 Tryd.underlying117 eqKind_118 tyK_118 bldI_118 elemK_118 fieldK_118_0 fieldK_118_1 eqKind_119 tyK_119 bldI_119 elemK_119 fieldK_119_0 fieldK_119_1 eqKind_120 tyK_120 elemK_120 Tryd.underlying120 eqKind_121 tyK_121 elemK_121 Tryd.underlying121 eqKind_122 tyK_122 elemK_122 Tryd.underlying122 eqKind_123 tyK_123 elemK_123 eqKind_124 tyK_124 elemK_124 Tryd.underlying124 eqKind_125 tyK_125 elemK_125 Tryd.underlying125 eqKind_126 tyK_126 elemK_126 Tryd.underlying126 eqKind_127 tyK_127 elemK_127 eqKind_128 tyK_128 elemK_128 Tryd.underlying128 eqKind_129 tyK_129 bldI_129 elemK_129 fieldK_129_0 fieldK_129_1 fieldK_129_2 eqKind_130 tyK_130 bldI_130 elemK_130 fieldK_130_0 fieldK_130_1 fieldK_130_2 eqKind_131 tyK_131 elemK_131 Tryd.underlying131 eqKind_132 tyK_132 elemK_132 eqKind_133 tyK_133 elemK_133 eqKind_134 tyK_134 elemK_134 Tryd.underlying134 eqKind_135 tyK_135 elemK_135 Tryd.underlying135 eqKind_136 tyK_136 elemK_136 Tryd.underlying136 eqKind_137 tyK_137 elemK_137 Tryd.underlying137 eqKind_138 tyK_138 elemK_138 Tryd.underlying138 eqKind_139 tyK_139 elemK_139 eqKind_140 tyK_140 elemK_140 Tryd.underlying140 eqKind_141 tyK_141 elemK_141 Tryd.underlying141 eqKind_142 tyK_142 elemK_142 Tryd.underlying142 eqKind_143 tyK_143 elemK_143 Tryd.underlying143 eqKind_144 tyK_144 elemK_144 Tryd.underlying144 eqKind_145 tyK_145 elemK_145 Tryd.underlying145 eqKind_146 tyK_146 elemK_146 Tryd.underlying146 eqKind_147 tyK_147 bldI_147 elemK_147 fieldK_147_0 eqKind_148 tyK_148 bldI_148 elemK_148 fieldK_148_0 eqKind_149 tyK_149 elemK_149 Tryd.underlying149 eqKind_150 tyK_150 elemK_150 Tryd.underlying150 eqKind_151 tyK_151 elemK_151 Tryd.underlying151 eqKind_152 tyK_152 elemK_152 Tryd.underlying152 eqKind_153 tyK_153 elemK_153 eqKind_154 tyK_154 elemK_154 eqKind_155 tyK_155 elemK_155 Tryd.underlying155 eqKind_156 tyK_156 elemK_156 eqKind_157 tyK_157 elemK_157 Tryd.underlying157 eqKind_158 tyK_158 elemK_158 eqKind_159 tyK_159 elemK_159 Tryd.underlying159 eqKind_160 tyK_160 elemK_160 Tryd.underlying160 eqKind_161 tyK_161 elemK_161 Tryd.underlying161 eqKind_162 tyK_162 elemK_162 eqKind_163 tyK_163 bldI_163 elemK_163 fieldK_163_0 fieldK_163_1 eqKind_164 tyK_164 elemK_164 eqKind_165 tyK_165 elemK_165 Tryd.underlying165 eqKind_166 tyK_166 bldI_166 elemK_166 fieldK_166_0 fieldK_166_1 fieldK_166_2 fieldK_166_3 eqKind_167 tyK_167 bldI_167 elemK_167 fieldK_167_0 fieldK_167_1 fieldK_167_2 fieldK_167_3 eqKind_168 tyK_168 elemK_168 arrK_168 eqKind_169 tyK_169 bldI_169 elemK_169 eqKind_170 tyK_170 bldI_170 elemK_170 eqKind_171 tyK_171 elemK_171 Tryd.underlying171 eqKind_172 tyK_172 elemK_172 Tryd.underlying172 eqKind_173 tyK_173 elemK_173 Tryd.underlying173 eqKind_174 tyK_174 elemK_174 Tryd.underlying174 eqKind_175 tyK_175 elemK_175 Tryd.underlying175 eqKind_176 tyK_176 elemK_176 Tryd.underlying176 eqKind_177 tyK_177 bldI_177 elemK_177 fieldK_177_0 fieldK_177_1 fieldK_177_2 fieldK_177_3 fieldK_177_4 fieldK_177_5 fieldK_177_6 fieldK_177_7 fieldK_177_8 fieldK_177_9 fieldK_177_10 eqKind_178 tyK_178 bldI_178 elemK_178 fieldK_178_0 fieldK_178_1 fieldK_178_2 fieldK_178_3 fieldK_178_4 fieldK_178_5 fieldK_178_6 fieldK_178_7 fieldK_178_8 fieldK_178_9 fieldK_178_10 eqKind_179 tyK_179 elemK_179 Tryd.underlying179 eqKind_180 tyK_180 elemK_180 Tryd.underlying180 eqKind_181 tyK_181 bldI_181 elemK_181 fieldK_181_0 fieldK_181_1 eqKind_182 tyK_182 bldI_182 elemK_182 fieldK_182_0 fieldK_182_1 eqKind_183 tyK_183 elemK_183 Tryd.underlying183 eqKind_184 tyK_184 elemK_184 Tryd.underlying184 eqKind_185 tyK_185 elemK_185 Tryd.underlying185 eqKind_186 tyK_186 bldI_186 elemK_186 fieldK_186_0 fieldK_186_1 fieldK_186_2 fieldK_186_3 fieldK_186_4 eqKind_187 tyK_187 bldI_187 elemK_187 fieldK_187_0 fieldK_187_1 fieldK_187_2 fieldK_187_3 fieldK_187_4 eqKind_188 tyK_188 elemK_188 Tryd.underlying188 eqKind_189 tyK_189 elemK_189 Tryd.underlying189 eqKind_190 tyK_190 bldI_190 elemK_190 fieldK_190_0 fieldK_190_1 fieldK_190_2 fieldK_190_3 eqKind_191 tyK_191 bldI_191 elemK_191 fieldK_191_0 fieldK_191_1 fieldK_191_2 fieldK_191_3 eqKind_192 tyK_192 elemK_192 Tryd.underlying192
end Go.Proofs.YtimjpijbcnjaaaaDoor
