/- Texts of this claim, merged: Facts. -/
import Derived.Test.YtgodgfeinjminaaGreatDoorM1
import Derived.Test.YtgodgfeinjminaaGreatDoorProg
section
namespace Go.Proofs.YtgodgfeinjminaaGreatDoor
open Go.Vc Go.Proofs
theorem tyK_3 : tyK Tryz.prog 3 = some none := by kernel_rfl
theorem eqKind_4 : eqKind Tryz.prog 4 = 6 := by kernel_rfl
theorem tyK_4 : tyK Tryz.prog 4 = some none := by kernel_rfl
theorem tyK_5 : tyK Tryz.prog 5 = some none := by kernel_rfl
theorem eqKind_9 : eqKind Tryz.prog 9 = 0 := by kernel_rfl
theorem tyK_9 : tyK Tryz.prog 9 = some none := by kernel_rfl
theorem elemK_9 : elemK Tryz.prog 9 = none := by kernel_rfl
theorem eqKind_20 : eqKind Tryz.prog 20 = 1 := by kernel_rfl
theorem tyK_23 : tyK Tryz.prog 23 = some none := by kernel_rfl
theorem elemK_23 : elemK Tryz.prog 23 = some (88, 3) := by kernel_rfl
theorem elI_23 : elI Tryz.prog 23 = some (88, 3, 32) := by kernel_rfl
theorem tyK_24 : tyK Tryz.prog 24 = some none := by kernel_rfl
theorem elemK_24 : elemK Tryz.prog 24 = some (42, 4) := by kernel_rfl
theorem elI_24 : elI Tryz.prog 24 = some (42, 4, 32) := by kernel_rfl
theorem tyK_26 : tyK Tryz.prog 26 = some (some 3) := by kernel_rfl
theorem bldI_26 : bldI Tryz.prog 26 = some ([.slice none 0 0, .slice none 0 0, .bool false], [(0, 1), (1, 1), (2, 1)]) := by kernel_rfl
theorem fieldK_26_0 : fieldK Tryz.prog 26 0 = some (0, none) := by kernel_rfl
theorem fieldK_26_1 : fieldK Tryz.prog 26 1 = some (1, none) := by kernel_rfl
theorem fieldK_26_2 : fieldK Tryz.prog 26 2 = some (2, none) := by kernel_rfl
theorem eqKind_29 : eqKind Tryz.prog 29 = 3 := by kernel_rfl
theorem tyK_29 : tyK Tryz.prog 29 = some none := by kernel_rfl
theorem elemK_29 : elemK Tryz.prog 29 = some (48, 3) := by kernel_rfl
theorem elI_29 : elI Tryz.prog 29 = some (48, 3, 24) := by kernel_rfl
theorem eqKind_31 : eqKind Tryz.prog 31 = 3 := by kernel_rfl
theorem elemK_31 : elemK Tryz.prog 31 = some (3, 1) := by kernel_rfl
theorem elI_31 : elI Tryz.prog 31 = some (3, 1, 8) := by kernel_rfl
theorem eqKind_33 : eqKind Tryz.prog 33 = 1 := by kernel_rfl
theorem tyK_33 : tyK Tryz.prog 33 = some none := by kernel_rfl
theorem tyK_36 : tyK Tryz.prog 36 = some none := by kernel_rfl
theorem tyK_37 : tyK Tryz.prog 37 = some none := by kernel_rfl
theorem tyK_38 : tyK Tryz.prog 38 = some none := by kernel_rfl
theorem elemK_38 : elemK Tryz.prog 38 = some (36, 1) := by kernel_rfl
theorem elI_38 : elI Tryz.prog 38 = some (36, 1, 8) := by kernel_rfl
theorem bldI_40 : bldI Tryz.prog 40 = some ([.int .i64 0, .pointer none, .slice none 0 0, .int .i64 0, .int .i64 0], [(0, 1), (1, 1), (2, 1), (3, 1), (4, 1)]) := by kernel_rfl
theorem fieldK_40_0 : fieldK Tryz.prog 40 0 = some (0, none) := by kernel_rfl
theorem fieldK_40_1 : fieldK Tryz.prog 40 1 = some (1, none) := by kernel_rfl
theorem fieldK_40_2 : fieldK Tryz.prog 40 2 = some (2, none) := by kernel_rfl
theorem fieldK_40_3 : fieldK Tryz.prog 40 3 = some (3, none) := by kernel_rfl
theorem fieldK_40_4 : fieldK Tryz.prog 40 4 = some (4, none) := by kernel_rfl
theorem tyK_42 : tyK Tryz.prog 42 = some (some 4) := by kernel_rfl
theorem bldI_42 : bldI Tryz.prog 42 = some ([.int .i64 0, .bool false, .pointer none, .pointer none], [(0, 1), (1, 1), (2, 1), (3, 1)]) := by kernel_rfl
theorem fieldK_42_1 : fieldK Tryz.prog 42 1 = some (1, none) := by kernel_rfl
theorem fieldK_42_2 : fieldK Tryz.prog 42 2 = some (2, none) := by kernel_rfl
theorem fieldK_42_3 : fieldK Tryz.prog 42 3 = some (3, none) := by kernel_rfl
theorem tyK_48 : tyK Tryz.prog 48 = some (some 3) := by kernel_rfl
theorem bldI_48 : bldI Tryz.prog 48 = some ([.int .i64 0, .int .i64 0, .int .i64 0], [(0, 1), (1, 1), (2, 1)]) := by kernel_rfl
theorem fieldK_48_0 : fieldK Tryz.prog 48 0 = some (0, none) := by kernel_rfl
theorem tyK_57 : tyK Tryz.prog 57 = some none := by kernel_rfl
theorem eqKind_66 : eqKind Tryz.prog 66 = 0 := by kernel_rfl
theorem tyK_66 : tyK Tryz.prog 66 = some (some 1) := by kernel_rfl
theorem bldI_66 : bldI Tryz.prog 66 = some ([.nilIface], [(0, 1)]) := by kernel_rfl
theorem fieldK_66_0 : fieldK Tryz.prog 66 0 = some (0, none) := by kernel_rfl
theorem tyK_68 : tyK Tryz.prog 68 = some none := by kernel_rfl
theorem elemK_68 : elemK Tryz.prog 68 = some (76, 3) := by kernel_rfl
theorem elI_68 : elI Tryz.prog 68 = some (76, 3, 32) := by kernel_rfl
theorem bldI_73 : bldI Tryz.prog 73 = some ([.slice none 0 0], [(0, 1)]) := by kernel_rfl
theorem fieldK_73_0 : fieldK Tryz.prog 73 0 = some (0, none) := by kernel_rfl
theorem tyK_76 : tyK Tryz.prog 76 = some (some 3) := by kernel_rfl
theorem bldI_76 : bldI Tryz.prog 76 = some ([.int .i64 0, str [], .int .i64 0], [(0, 1), (1, 1), (2, 1)]) := by kernel_rfl
theorem fieldK_76_0 : fieldK Tryz.prog 76 0 = some (0, none) := by kernel_rfl
theorem fieldK_76_1 : fieldK Tryz.prog 76 1 = some (1, none) := by kernel_rfl
theorem fieldK_76_2 : fieldK Tryz.prog 76 2 = some (2, none) := by kernel_rfl
theorem eqKind_78 : eqKind Tryz.prog 78 = 0 := by kernel_rfl
theorem tyK_78 : tyK Tryz.prog 78 = some none := by kernel_rfl
theorem eqKind_80 : eqKind Tryz.prog 80 = 3 := by kernel_rfl
theorem elemK_80 : elemK Tryz.prog 80 = some (108, 2) := by kernel_rfl
theorem elI_80 : elI Tryz.prog 80 = some (108, 2, 16) := by kernel_rfl
theorem tyK_81 : tyK Tryz.prog 81 = some none := by kernel_rfl
theorem elemK_81 : elemK Tryz.prog 81 = some (108, 2) := by kernel_rfl
theorem elI_81 : elI Tryz.prog 81 = some (108, 2, 16) := by kernel_rfl
theorem elemK_86 : elemK Tryz.prog 86 = none := by kernel_rfl
theorem arrK_86 : arrK Tryz.prog 86 = some (5, 3, 1) := by kernel_rfl
theorem tyK_88 : tyK Tryz.prog 88 = some (some 3) := by kernel_rfl
theorem bldI_88 : bldI Tryz.prog 88 = some ([str [], .int .i64 0, .pointer none], [(0, 1), (1, 1), (2, 1)]) := by kernel_rfl
theorem fieldK_88_0 : fieldK Tryz.prog 88 0 = some (0, none) := by kernel_rfl
theorem fieldK_88_1 : fieldK Tryz.prog 88 1 = some (1, none) := by kernel_rfl
theorem fieldK_88_2 : fieldK Tryz.prog 88 2 = some (2, none) := by kernel_rfl
theorem eqKind_90 : eqKind Tryz.prog 90 = 2 := by kernel_rfl
theorem bldI_92 : bldI Tryz.prog 92 = some ([.int .i64 0, .int .i64 0], [(0, 1), (1, 1)]) := by kernel_rfl
theorem fieldK_92_0 : fieldK Tryz.prog 92 0 = some (0, none) := by kernel_rfl
theorem bldI_97 : bldI Tryz.prog 97 = some ([.slice none 0 0, .map none, .bool false], [(0, 1), (1, 1), (2, 1)]) := by kernel_rfl
theorem fieldK_97_0 : fieldK Tryz.prog 97 0 = some (0, none) := by kernel_rfl
theorem fieldK_97_1 : fieldK Tryz.prog 97 1 = some (1, none) := by kernel_rfl
theorem fieldK_97_2 : fieldK Tryz.prog 97 2 = some (2, none) := by kernel_rfl
theorem elI_106 : elI Tryz.prog 106 = some (9, 1, 16) := by kernel_rfl
theorem tyK_108 : tyK Tryz.prog 108 = some (some 2) := by kernel_rfl
theorem bldI_108 : bldI Tryz.prog 108 = some ([.int .i64 0, .int .i64 0], [(0, 1), (1, 1)]) := by kernel_rfl
theorem fieldK_108_0 : fieldK Tryz.prog 108 0 = some (0, none) := by kernel_rfl
theorem fieldK_108_1 : fieldK Tryz.prog 108 1 = some (1, none) := by kernel_rfl
theorem eqKind_112 : eqKind Tryz.prog 112 = 2 := by kernel_rfl
theorem bldI_114 : bldI Tryz.prog 114 = some ([.int .i64 0, .int .i64 0, .slice none 0 0, str [], .pointer none, .pointer none], [(0, 1), (1, 1), (2, 1), (3, 1), (4, 1), (5, 1)]) := by kernel_rfl
theorem fieldK_114_0 : fieldK Tryz.prog 114 0 = some (0, none) := by kernel_rfl
theorem fieldK_114_1 : fieldK Tryz.prog 114 1 = some (1, none) := by kernel_rfl
theorem fieldK_114_2 : fieldK Tryz.prog 114 2 = some (2, none) := by kernel_rfl
theorem fieldK_114_3 : fieldK Tryz.prog 114 3 = some (3, none) := by kernel_rfl
theorem fieldK_114_4 : fieldK Tryz.prog 114 4 = some (4, none) := by kernel_rfl
theorem fieldK_114_5 : fieldK Tryz.prog 114 5 = some (5, none) := by kernel_rfl
theorem elemK_125 : elemK Tryz.prog 125 = some (5, 1) := by kernel_rfl
theorem tyK_133 : tyK Tryz.prog 133 = some (some 3) := by kernel_rfl
theorem tyK_136 : tyK Tryz.prog 136 = some none := by kernel_rfl
theorem elemK_167 : elemK Tryz.prog 167 = some (81, 1) := by kernel_rfl
theorem elI_167 : elI Tryz.prog 167 = some (81, 1, 24) := by kernel_rfl
theorem arrK_196 : arrK Tryz.prog 196 = some (24, 5, 1) := by kernel_rfl
theorem arrK_214 : arrK Tryz.prog 214 = some (20, 183, 1) := by kernel_rfl
theorem elemK_215 : elemK Tryz.prog 215 = none := by kernel_rfl
theorem arrK_215 : arrK Tryz.prog 215 = some (65, 5, 1) := by kernel_rfl
theorem eqKind_226 : eqKind Tryz.prog 226 = 0 := by kernel_rfl
theorem arrK_239 : arrK Tryz.prog 239 = some (32, 5, 1) := by kernel_rfl
theorem elemK_240 : elemK Tryz.prog 240 = none := by kernel_rfl
theorem arrK_240 : arrK Tryz.prog 240 = some (64, 5, 1) := by kernel_rfl
theorem arrK_242 : arrK Tryz.prog 242 = some (256, 5, 1) := by kernel_rfl
theorem arrK_245 : arrK Tryz.prog 245 = some (16, 244, 2) := by kernel_rfl
theorem arrK_253 : arrK Tryz.prog 253 = some (0, 16, 1) := by kernel_rfl
theorem mixed : Tryz.prog.follows .mixedOrders = true := by kernel_rfl
attribute [push_cast] Tryz.underlying1 Tryz.underlying2 tyK_3 Tryz.underlying3 eqKind_4 tyK_4 Tryz.underlying4 tyK_5 Tryz.underlying5 Tryz.underlying6 eqKind_9 tyK_9 elemK_9 Tryz.underlying9 Tryz.underlying10 Tryz.underlying11 Tryz.underlying12 Tryz.underlying15 Tryz.underlying16 Tryz.underlying17 eqKind_20 Tryz.underlying21 Tryz.underlying22 tyK_23 elemK_23 Tryz.underlying23 tyK_24 elemK_24 Tryz.underlying24 tyK_26 bldI_26 fieldK_26_0 fieldK_26_1 fieldK_26_2 Tryz.underlying28 eqKind_29 tyK_29 elemK_29 Tryz.underlying29 Tryz.underlying30 eqKind_31 elemK_31 Tryz.underlying31 eqKind_33 tyK_33 Tryz.underlying35 tyK_36 Tryz.underlying36 tyK_37 Tryz.underlying37 tyK_38 elemK_38 Tryz.underlying38 bldI_40 fieldK_40_0 fieldK_40_1 fieldK_40_2 fieldK_40_3 fieldK_40_4 tyK_42 bldI_42 fieldK_42_1 fieldK_42_2 fieldK_42_3 Tryz.underlying43 Tryz.underlying44 Tryz.underlying45 Tryz.underlying46 tyK_48 bldI_48 fieldK_48_0 Tryz.underlying49 Tryz.underlying50 Tryz.underlying51 Tryz.underlying53 Tryz.underlying54 Tryz.underlying56 tyK_57 Tryz.underlying57 Tryz.underlying59 Tryz.underlying60 Tryz.underlying61 Tryz.underlying62 Tryz.underlying63 Tryz.underlying64 eqKind_66 tyK_66 bldI_66 fieldK_66_0 tyK_68 elemK_68 Tryz.underlying68 Tryz.underlying70 Tryz.underlying71 bldI_73 fieldK_73_0 Tryz.underlying74 tyK_76 bldI_76 fieldK_76_0 fieldK_76_1 fieldK_76_2 Tryz.underlying77 eqKind_78 tyK_78 Tryz.underlying78 Tryz.underlying79 eqKind_80 elemK_80 Tryz.underlying80 tyK_81 elemK_81 Tryz.underlying81 Tryz.underlying82 Tryz.underlying83 Tryz.underlying84 Tryz.underlying85 elemK_86 arrK_86 tyK_88 bldI_88 fieldK_88_0 fieldK_88_1 fieldK_88_2 eqKind_90 Tryz.underlying90 bldI_92 fieldK_92_0 Tryz.underlying94 Tryz.underlying95 bldI_97 fieldK_97_0 fieldK_97_1 fieldK_97_2 Tryz.underlying98 Tryz.underlying99 Tryz.underlying100 Tryz.underlying101 Tryz.underlying102 Tryz.underlying103 Tryz.underlying104 Tryz.underlying105 Tryz.underlying106 tyK_108 bldI_108 fieldK_108_0 fieldK_108_1 Tryz.underlying109 Tryz.underlying110 Tryz.underlying111 eqKind_112 Tryz.underlying112 bldI_114 fieldK_114_0 fieldK_114_1 fieldK_114_2 fieldK_114_3 fieldK_114_4 fieldK_114_5 Tryz.underlying115 Tryz.underlying116 Tryz.underlying117 Tryz.underlying118 Tryz.underlying119 Tryz.underlying120 Tryz.underlying121 Tryz.underlying122 Tryz.underlying123 Tryz.underlying124 elemK_125 Tryz.underlying125 Tryz.underlying129 Tryz.underlying131 tyK_133 Tryz.underlying134 tyK_136 Tryz.underlying137 Tryz.underlying138 Tryz.underlying139 Tryz.underlying140 Tryz.underlying141 Tryz.underlying142 Tryz.underlying143 Tryz.underlying144 Tryz.underlying145 Tryz.underlying146 Tryz.underlying147 Tryz.underlying148 Tryz.underlying151 Tryz.underlying152 Tryz.underlying153 Tryz.underlying154 Tryz.underlying157 Tryz.underlying159 Tryz.underlying161 Tryz.underlying162 Tryz.underlying163 Tryz.underlying164 Tryz.underlying165 Tryz.underlying166 elemK_167 Tryz.underlying167 Tryz.underlying168 Tryz.underlying170 Tryz.underlying171 Tryz.underlying172 Tryz.underlying173 Tryz.underlying175 Tryz.underlying176 Tryz.underlying177 Tryz.underlying178 Tryz.underlying179 Tryz.underlying180 Tryz.underlying181 Tryz.underlying182 Tryz.underlying183 Tryz.underlying184 Tryz.underlying186 Tryz.underlying187 Tryz.underlying188 Tryz.underlying189 Tryz.underlying191 Tryz.underlying193 Tryz.underlying194 Tryz.underlying195 arrK_196 Tryz.underlying197 Tryz.underlying199 Tryz.underlying200 Tryz.underlying201 Tryz.underlying202 Tryz.underlying203 Tryz.underlying204 Tryz.underlying205 Tryz.underlying206 Tryz.underlying207 Tryz.underlying208 Tryz.underlying209 Tryz.underlying210 Tryz.underlying211 Tryz.underlying212 Tryz.underlying213 arrK_214 elemK_215 arrK_215 Tryz.underlying216 Tryz.underlying217 Tryz.underlying218 Tryz.underlying219 Tryz.underlying220 Tryz.underlying221 Tryz.underlying222 Tryz.underlying224 Tryz.underlying225 eqKind_226 Tryz.underlying226 Tryz.underlying228 Tryz.underlying229 Tryz.underlying230 Tryz.underlying231 Tryz.underlying232 Tryz.underlying233 Tryz.underlying234 Tryz.underlying235 Tryz.underlying238 arrK_239 elemK_240 arrK_240 Tryz.underlying241 arrK_242 arrK_245 Tryz.underlying247 Tryz.underlying248 arrK_253 Tryz.underlying256 Tryz.underlying257 Tryz.underlying258 Tryz.underlying259 Tryz.underlying260 Tryz.underlying263 Tryz.underlying264 Tryz.underlying267 Tryz.underlying268 Tryz.underlying269 Tryz.underlying272 Tryz.underlying273 Tryz.underlying276
end Go.Proofs.YtgodgfeinjminaaGreatDoor
end
