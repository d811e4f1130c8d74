/- Texts of this claim, merged: Open, Facts. -/
import Derived.Test.YtphebgkbkdjjoaaGreatDoorM1
import Derived.WalkKit
import Derived.ProofKit
import Derived.Handy
import Derived.OpenShut
import Derived.LaidMore
import Derived.Deep.Strs
import Derived.Test.YtphebgkbkdjjoaaGreatDoorProg
section
set_option linter.unusedSimpArgs false
set_option linter.unusedVariables false
namespace Go.Vc
open Go.RowKit

end Go.Vc
end
section
namespace Go.Proofs.YtphebgkbkdjjoaaGreatDoor
open Go.Vc Go.Proofs
theorem tyK_3 : tyK Tryz.prog 3 = some none := by kernel_rfl
theorem eqKind_4 : eqKind Tryz.prog 4 = 6 := by kernel_rfl
theorem tyK_4 : tyK Tryz.prog 4 = some none := by kernel_rfl
theorem tyK_5 : tyK Tryz.prog 5 = some none := by kernel_rfl
theorem eqKind_9 : eqKind Tryz.prog 9 = 0 := by kernel_rfl
theorem tyK_9 : tyK Tryz.prog 9 = some none := by kernel_rfl
theorem elemK_9 : elemK Tryz.prog 9 = none := by kernel_rfl
theorem eqKind_20 : eqKind Tryz.prog 20 = 1 := by kernel_rfl
theorem elemK_24 : elemK Tryz.prog 24 = some (9, 1) := by kernel_rfl
theorem elI_24 : elI Tryz.prog 24 = some (9, 1, 16) := by kernel_rfl
theorem tyK_25 : tyK Tryz.prog 25 = some none := by kernel_rfl
theorem elemK_25 : elemK Tryz.prog 25 = some (58, 3) := by kernel_rfl
theorem elI_25 : elI Tryz.prog 25 = some (58, 3, 32) := by kernel_rfl
theorem tyK_26 : tyK Tryz.prog 26 = some none := by kernel_rfl
theorem elemK_26 : elemK Tryz.prog 26 = some (44, 4) := by kernel_rfl
theorem elI_26 : elI Tryz.prog 26 = some (44, 4, 32) := by kernel_rfl
theorem tyK_28 : tyK Tryz.prog 28 = some (some 3) := by kernel_rfl
theorem bldI_28 : bldI Tryz.prog 28 = some ([.slice none 0 0, .slice none 0 0, .bool false], [(0, 1), (1, 1), (2, 1)]) := by kernel_rfl
theorem fieldK_28_0 : fieldK Tryz.prog 28 0 = some (0, none) := by kernel_rfl
theorem fieldK_28_1 : fieldK Tryz.prog 28 1 = some (1, none) := by kernel_rfl
theorem fieldK_28_2 : fieldK Tryz.prog 28 2 = some (2, none) := by kernel_rfl
theorem eqKind_29 : eqKind Tryz.prog 29 = 0 := by kernel_rfl
theorem tyK_29 : tyK Tryz.prog 29 = some none := by kernel_rfl
theorem eqKind_31 : eqKind Tryz.prog 31 = 9 := by kernel_rfl
theorem tyK_31 : tyK Tryz.prog 31 = some (some 2) := by kernel_rfl
theorem bldI_31 : bldI Tryz.prog 31 = some ([.int .i64 0, .int .i64 0], [(0, 1), (1, 1)]) := by kernel_rfl
theorem fieldK_31_0 : fieldK Tryz.prog 31 0 = some (0, none) := by kernel_rfl
theorem fieldK_31_1 : fieldK Tryz.prog 31 1 = some (1, none) := by kernel_rfl
theorem eqKind_35 : eqKind Tryz.prog 35 = 1 := by kernel_rfl
theorem tyK_35 : tyK Tryz.prog 35 = some none := by kernel_rfl
theorem eqKind_42 : eqKind Tryz.prog 42 = 2 := by kernel_rfl
theorem tyK_42 : tyK Tryz.prog 42 = some none := by kernel_rfl
theorem tyK_44 : tyK Tryz.prog 44 = some (some 4) := by kernel_rfl
theorem bldI_44 : bldI Tryz.prog 44 = some ([.int .i64 0, .bool false, .pointer none, .pointer none], [(0, 1), (1, 1), (2, 1), (3, 1)]) := by kernel_rfl
theorem fieldK_44_0 : fieldK Tryz.prog 44 0 = some (0, none) := by kernel_rfl
theorem fieldK_44_1 : fieldK Tryz.prog 44 1 = some (1, none) := by kernel_rfl
theorem fieldK_44_2 : fieldK Tryz.prog 44 2 = some (2, none) := by kernel_rfl
theorem fieldK_44_3 : fieldK Tryz.prog 44 3 = some (3, none) := by kernel_rfl
theorem tyK_47 : tyK Tryz.prog 47 = some none := by kernel_rfl
theorem elemK_47 : elemK Tryz.prog 47 = some (55, 3) := by kernel_rfl
theorem elI_47 : elI Tryz.prog 47 = some (55, 3, 32) := by kernel_rfl
theorem bldI_52 : bldI Tryz.prog 52 = some ([.slice none 0 0, .int .i64 0, .int .i64 0], [(0, 1), (1, 2)]) := by kernel_rfl
theorem fieldK_52_0 : fieldK Tryz.prog 52 0 = some (0, none) := by kernel_rfl
theorem fieldK_52_1 : fieldK Tryz.prog 52 1 = some (1, (some 2)) := by kernel_rfl
theorem tyK_55 : tyK Tryz.prog 55 = some (some 3) := by kernel_rfl
theorem bldI_55 : bldI Tryz.prog 55 = some ([.int .i64 0, str [], .int .i64 0], [(0, 1), (1, 1), (2, 1)]) := by kernel_rfl
theorem fieldK_55_0 : fieldK Tryz.prog 55 0 = some (0, none) := by kernel_rfl
theorem fieldK_55_1 : fieldK Tryz.prog 55 1 = some (1, none) := by kernel_rfl
theorem fieldK_55_2 : fieldK Tryz.prog 55 2 = some (2, none) := by kernel_rfl
theorem eqKind_56 : eqKind Tryz.prog 56 = 2 := by kernel_rfl
theorem tyK_56 : tyK Tryz.prog 56 = some none := by kernel_rfl
theorem tyK_58 : tyK Tryz.prog 58 = some (some 3) := by kernel_rfl
theorem bldI_58 : bldI Tryz.prog 58 = some ([str [], .int .i64 0, .pointer none], [(0, 1), (1, 1), (2, 1)]) := by kernel_rfl
theorem fieldK_58_0 : fieldK Tryz.prog 58 0 = some (0, none) := by kernel_rfl
theorem fieldK_58_1 : fieldK Tryz.prog 58 1 = some (1, none) := by kernel_rfl
theorem fieldK_58_2 : fieldK Tryz.prog 58 2 = some (2, none) := by kernel_rfl
theorem eqKind_65 : eqKind Tryz.prog 65 = 0 := by kernel_rfl
theorem tyK_65 : tyK Tryz.prog 65 = some (some 1) := by kernel_rfl
theorem bldI_65 : bldI Tryz.prog 65 = some ([.nilIface], [(0, 1)]) := by kernel_rfl
theorem fieldK_65_0 : fieldK Tryz.prog 65 0 = some (0, none) := by kernel_rfl
theorem tyK_67 : tyK Tryz.prog 67 = some none := by kernel_rfl
theorem elemK_67 : elemK Tryz.prog 67 = some (75, 3) := by kernel_rfl
theorem elI_67 : elI Tryz.prog 67 = some (75, 3, 32) := by kernel_rfl
theorem bldI_72 : bldI Tryz.prog 72 = some ([.slice none 0 0], [(0, 1)]) := by kernel_rfl
theorem fieldK_72_0 : fieldK Tryz.prog 72 0 = some (0, none) := by kernel_rfl
theorem tyK_75 : tyK Tryz.prog 75 = some (some 3) := by kernel_rfl
theorem bldI_75 : bldI Tryz.prog 75 = some ([.int .i64 0, str [], .int .i64 0], [(0, 1), (1, 1), (2, 1)]) := by kernel_rfl
theorem fieldK_75_0 : fieldK Tryz.prog 75 0 = some (0, none) := by kernel_rfl
theorem fieldK_75_1 : fieldK Tryz.prog 75 1 = some (1, none) := by kernel_rfl
theorem fieldK_75_2 : fieldK Tryz.prog 75 2 = some (2, none) := by kernel_rfl
theorem tyK_81 : tyK Tryz.prog 81 = some none := by kernel_rfl
theorem elemK_81 : elemK Tryz.prog 81 = some (42, 1) := by kernel_rfl
theorem elI_81 : elI Tryz.prog 81 = some (42, 1, 8) := by kernel_rfl
theorem bldI_83 : bldI Tryz.prog 83 = some ([.int .i64 0, .pointer none, .slice none 0 0, .int .i64 0, .int .i64 0], [(0, 1), (1, 1), (2, 1), (3, 1), (4, 1)]) := by kernel_rfl
theorem fieldK_83_0 : fieldK Tryz.prog 83 0 = some (0, none) := by kernel_rfl
theorem fieldK_83_1 : fieldK Tryz.prog 83 1 = some (1, none) := by kernel_rfl
theorem fieldK_83_2 : fieldK Tryz.prog 83 2 = some (2, none) := by kernel_rfl
theorem fieldK_83_3 : fieldK Tryz.prog 83 3 = some (3, none) := by kernel_rfl
theorem fieldK_83_4 : fieldK Tryz.prog 83 4 = some (4, none) := by kernel_rfl
theorem elemK_88 : elemK Tryz.prog 88 = some (5, 1) := by kernel_rfl
theorem tyK_99 : tyK Tryz.prog 99 = some none := by kernel_rfl
theorem elemK_99 : elemK Tryz.prog 99 = some (125, 2) := by kernel_rfl
theorem elI_99 : elI Tryz.prog 99 = some (125, 2, 16) := by kernel_rfl
theorem bldI_101 : bldI Tryz.prog 101 = some ([.int .i64 0, .int .i64 0, .slice none 0 0, str [], .pointer none, .pointer none], [(0, 1), (1, 1), (2, 1), (3, 1), (4, 1), (5, 1)]) := by kernel_rfl
theorem fieldK_101_0 : fieldK Tryz.prog 101 0 = some (0, none) := by kernel_rfl
theorem fieldK_101_1 : fieldK Tryz.prog 101 1 = some (1, none) := by kernel_rfl
theorem fieldK_101_2 : fieldK Tryz.prog 101 2 = some (2, none) := by kernel_rfl
theorem fieldK_101_3 : fieldK Tryz.prog 101 3 = some (3, none) := by kernel_rfl
theorem fieldK_101_4 : fieldK Tryz.prog 101 4 = some (4, none) := by kernel_rfl
theorem fieldK_101_5 : fieldK Tryz.prog 101 5 = some (5, none) := by kernel_rfl
theorem eqKind_105 : eqKind Tryz.prog 105 = 2 := by kernel_rfl
theorem bldI_106 : bldI Tryz.prog 106 = some ([.int .i64 0, .int .i64 0], [(0, 1), (1, 1)]) := by kernel_rfl
theorem fieldK_106_0 : fieldK Tryz.prog 106 0 = some (0, none) := by kernel_rfl
theorem fieldK_106_1 : fieldK Tryz.prog 106 1 = some (1, none) := by kernel_rfl
theorem eqKind_123 : eqKind Tryz.prog 123 = 2 := by kernel_rfl
theorem eqKind_125 : eqKind Tryz.prog 125 = 9 := by kernel_rfl
theorem tyK_125 : tyK Tryz.prog 125 = some (some 2) := by kernel_rfl
theorem bldI_125 : bldI Tryz.prog 125 = some ([.int .i64 0, .int .i64 0], [(0, 1), (1, 1)]) := by kernel_rfl
theorem fieldK_125_0 : fieldK Tryz.prog 125 0 = some (0, none) := by kernel_rfl
theorem fieldK_125_1 : fieldK Tryz.prog 125 1 = some (1, none) := by kernel_rfl
theorem tyK_140 : tyK Tryz.prog 140 = some (some 3) := by kernel_rfl
theorem tyK_143 : tyK Tryz.prog 143 = some none := by kernel_rfl
theorem arrK_149 : arrK Tryz.prog 149 = some (24, 5, 1) := by kernel_rfl
theorem arrK_158 : arrK Tryz.prog 158 = some (256, 5, 1) := by kernel_rfl
theorem arrK_162 : arrK Tryz.prog 162 = some (256, 4, 1) := by kernel_rfl
theorem arrK_163 : arrK Tryz.prog 163 = some (256, 4, 1) := by kernel_rfl
theorem arrK_192 : arrK Tryz.prog 192 = some (20, 150, 1) := by kernel_rfl
theorem elemK_193 : elemK Tryz.prog 193 = none := by kernel_rfl
theorem arrK_193 : arrK Tryz.prog 193 = some (65, 5, 1) := by kernel_rfl
theorem eqKind_205 : eqKind Tryz.prog 205 = 0 := by kernel_rfl
theorem arrK_231 : arrK Tryz.prog 231 = some (32, 5, 1) := by kernel_rfl
theorem elemK_232 : elemK Tryz.prog 232 = none := by kernel_rfl
theorem arrK_232 : arrK Tryz.prog 232 = some (64, 5, 1) := by kernel_rfl
theorem arrK_237 : arrK Tryz.prog 237 = some (16, 236, 2) := by kernel_rfl
theorem arrK_243 : arrK Tryz.prog 243 = some (0, 16, 1) := by kernel_rfl
theorem mixed : Tryz.prog.follows .mixedOrders = true := by kernel_rfl
attribute [push_cast] Tryz.underlying1 Tryz.underlying2 tyK_3 Tryz.underlying3 eqKind_4 tyK_4 Tryz.underlying4 tyK_5 Tryz.underlying5 Tryz.underlying6 eqKind_9 tyK_9 elemK_9 Tryz.underlying9 Tryz.underlying10 Tryz.underlying11 Tryz.underlying12 Tryz.underlying15 Tryz.underlying16 Tryz.underlying17 eqKind_20 Tryz.underlying21 Tryz.underlying22 Tryz.underlying23 elemK_24 Tryz.underlying24 tyK_25 elemK_25 Tryz.underlying25 tyK_26 elemK_26 Tryz.underlying26 tyK_28 bldI_28 fieldK_28_0 fieldK_28_1 fieldK_28_2 eqKind_29 tyK_29 Tryz.underlying29 eqKind_31 tyK_31 bldI_31 fieldK_31_0 fieldK_31_1 Tryz.underlying33 eqKind_35 tyK_35 Tryz.underlying37 Tryz.underlying38 Tryz.underlying39 Tryz.underlying40 Tryz.underlying41 eqKind_42 tyK_42 Tryz.underlying42 tyK_44 bldI_44 fieldK_44_0 fieldK_44_1 fieldK_44_2 fieldK_44_3 Tryz.underlying45 Tryz.underlying46 tyK_47 elemK_47 Tryz.underlying47 Tryz.underlying49 Tryz.underlying50 bldI_52 fieldK_52_0 fieldK_52_1 Tryz.underlying53 tyK_55 bldI_55 fieldK_55_0 fieldK_55_1 fieldK_55_2 eqKind_56 tyK_56 Tryz.underlying56 tyK_58 bldI_58 fieldK_58_0 fieldK_58_1 fieldK_58_2 Tryz.underlying59 Tryz.underlying60 Tryz.underlying61 Tryz.underlying62 Tryz.underlying63 eqKind_65 tyK_65 bldI_65 fieldK_65_0 tyK_67 elemK_67 Tryz.underlying67 Tryz.underlying69 Tryz.underlying70 bldI_72 fieldK_72_0 Tryz.underlying73 tyK_75 bldI_75 fieldK_75_0 fieldK_75_1 fieldK_75_2 Tryz.underlying77 Tryz.underlying78 Tryz.underlying79 Tryz.underlying80 tyK_81 elemK_81 Tryz.underlying81 bldI_83 fieldK_83_0 fieldK_83_1 fieldK_83_2 fieldK_83_3 fieldK_83_4 Tryz.underlying84 Tryz.underlying85 Tryz.underlying86 Tryz.underlying87 elemK_88 Tryz.underlying88 Tryz.underlying92 Tryz.underlying93 Tryz.underlying94 Tryz.underlying95 Tryz.underlying96 Tryz.underlying97 Tryz.underlying98 tyK_99 elemK_99 Tryz.underlying99 bldI_101 fieldK_101_0 fieldK_101_1 fieldK_101_2 fieldK_101_3 fieldK_101_4 fieldK_101_5 Tryz.underlying102 Tryz.underlying104 eqKind_105 Tryz.underlying105 bldI_106 fieldK_106_0 fieldK_106_1 Tryz.underlying107 Tryz.underlying111 Tryz.underlying112 Tryz.underlying113 Tryz.underlying114 Tryz.underlying115 Tryz.underlying116 Tryz.underlying118 Tryz.underlying119 Tryz.underlying120 Tryz.underlying121 Tryz.underlying122 eqKind_123 Tryz.underlying123 eqKind_125 tyK_125 bldI_125 fieldK_125_0 fieldK_125_1 Tryz.underlying126 Tryz.underlying128 Tryz.underlying129 Tryz.underlying130 Tryz.underlying131 Tryz.underlying132 Tryz.underlying134 Tryz.underlying135 Tryz.underlying137 Tryz.underlying138 tyK_140 Tryz.underlying141 tyK_143 Tryz.underlying144 Tryz.underlying145 Tryz.underlying146 Tryz.underlying147 Tryz.underlying148 arrK_149 Tryz.underlying150 Tryz.underlying151 Tryz.underlying152 Tryz.underlying154 Tryz.underlying155 Tryz.underlying157 arrK_158 Tryz.underlying159 Tryz.underlying160 Tryz.underlying161 arrK_162 arrK_163 Tryz.underlying165 Tryz.underlying166 Tryz.underlying167 Tryz.underlying168 Tryz.underlying169 Tryz.underlying170 Tryz.underlying172 Tryz.underlying173 Tryz.underlying174 Tryz.underlying175 Tryz.underlying177 Tryz.underlying180 Tryz.underlying181 Tryz.underlying182 Tryz.underlying183 Tryz.underlying186 Tryz.underlying188 Tryz.underlying189 Tryz.underlying190 Tryz.underlying191 arrK_192 elemK_193 arrK_193 Tryz.underlying194 Tryz.underlying195 Tryz.underlying196 Tryz.underlying199 Tryz.underlying200 Tryz.underlying202 Tryz.underlying203 Tryz.underlying204 eqKind_205 Tryz.underlying205 Tryz.underlying207 Tryz.underlying208 Tryz.underlying209 Tryz.underlying210 Tryz.underlying211 Tryz.underlying212 Tryz.underlying213 Tryz.underlying214 Tryz.underlying217 Tryz.underlying220 Tryz.underlying223 Tryz.underlying224 Tryz.underlying225 Tryz.underlying226 Tryz.underlying227 Tryz.underlying230 arrK_231 elemK_232 arrK_232 Tryz.underlying233 Tryz.underlying234 arrK_237 Tryz.underlying238 arrK_243 Tryz.underlying246 Tryz.underlying247 Tryz.underlying248 Tryz.underlying249 Tryz.underlying250 Tryz.underlying253 Tryz.underlying254 Tryz.underlying257 Tryz.underlying258 Tryz.underlying261 Tryz.underlying262 Tryz.underlying265
end Go.Proofs.YtphebgkbkdjjoaaGreatDoor
end
