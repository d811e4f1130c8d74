/- Lemmas. -/
import Derived.Test.YtledlfbbebodgaaGreatDoorM1
import Derived.Test.YtledlfbbebodgaaGreatDoorProg
set_option maxRecDepth 100000
set_option linter.unusedSimpArgs false
set_option linter.unusedVariables false
set_option maxHeartbeats 8000000
section
namespace Go.Proofs.YtledlfbbebodgaaGreatDoor
open Go.Vc Go.Proofs
theorem tyK_3:tyK Tryz.prog 3=some none:=by kernel_rfl
theorem eqKind_4:eqKind Tryz.prog 4=6:=by kernel_rfl
theorem tyK_4:tyK Tryz.prog 4=some none:=by kernel_rfl
theorem tyK_5:tyK Tryz.prog 5=some none:=by kernel_rfl
theorem eqKind_9:eqKind Tryz.prog 9=0:=by kernel_rfl
theorem tyK_9:tyK Tryz.prog 9=some none:=by kernel_rfl
theorem elemK_9:elemK Tryz.prog 9=none:=by kernel_rfl
theorem eqKind_20:eqKind Tryz.prog 20=1:=by kernel_rfl
theorem tyK_23:tyK Tryz.prog 23=some none:=by kernel_rfl
theorem elemK_23:elemK Tryz.prog 23=some (90,3):=by kernel_rfl
theorem elI_23:elI Tryz.prog 23=some (90,3,32):=by kernel_rfl
theorem tyK_24:tyK Tryz.prog 24=some none:=by kernel_rfl
theorem elemK_24:elemK Tryz.prog 24=some (50,4):=by kernel_rfl
theorem elI_24:elI Tryz.prog 24=some (50,4,32):=by kernel_rfl
theorem tyK_26:tyK Tryz.prog 26=some (some 3):=by kernel_rfl
theorem bldI_26:bldI Tryz.prog 26=some ([.slice none 0 0,.slice none 0 0,.bool false],[(0,1),(1,1),(2,1)]):=by kernel_rfl
theorem fieldK_26_0:fieldK Tryz.prog 26 0=some (0,none):=by kernel_rfl
theorem fieldK_26_1:fieldK Tryz.prog 26 1=some (1,none):=by kernel_rfl
theorem fieldK_26_2:fieldK Tryz.prog 26 2=some (2,none):=by kernel_rfl
theorem tyK_29:tyK Tryz.prog 29=some none:=by kernel_rfl
theorem eqKind_31:eqKind Tryz.prog 31=1:=by kernel_rfl
theorem tyK_31:tyK Tryz.prog 31=some none:=by kernel_rfl
theorem tyK_35:tyK Tryz.prog 35=some none:=by kernel_rfl
theorem tyK_36:tyK Tryz.prog 36=some none:=by kernel_rfl
theorem eqKind_37:eqKind Tryz.prog 37=3:=by kernel_rfl
theorem tyK_37:tyK Tryz.prog 37=some none:=by kernel_rfl
theorem elemK_37:elemK Tryz.prog 37=some (35,1):=by kernel_rfl
theorem elI_37:elI Tryz.prog 37=some (35,1,8):=by kernel_rfl
theorem bldI_39:bldI Tryz.prog 39=some ([.int .i64 0,.pointer none,.slice none 0 0,.int .i64 0,.int .i64 0],[(0,1),(1,1),(2,1),(3,1),(4,1)]):=by kernel_rfl
theorem fieldK_39_0:fieldK Tryz.prog 39 0=some (0,none):=by kernel_rfl
theorem fieldK_39_1:fieldK Tryz.prog 39 1=some (1,none):=by kernel_rfl
theorem fieldK_39_2:fieldK Tryz.prog 39 2=some (2,none):=by kernel_rfl
theorem fieldK_39_3:fieldK Tryz.prog 39 3=some (3,none):=by kernel_rfl
theorem fieldK_39_4:fieldK Tryz.prog 39 4=some (4,none):=by kernel_rfl
theorem eqKind_40:eqKind Tryz.prog 40=3:=by kernel_rfl
theorem elemK_40:elemK Tryz.prog 40=some (46,2):=by kernel_rfl
theorem elI_40:elI Tryz.prog 40=some (46,2,16):=by kernel_rfl
theorem tyK_41:tyK Tryz.prog 41=some none:=by kernel_rfl
theorem elemK_41:elemK Tryz.prog 41=some (46,2):=by kernel_rfl
theorem elI_41:elI Tryz.prog 41=some (46,2,16):=by kernel_rfl
theorem eqKind_46:eqKind Tryz.prog 46=9:=by kernel_rfl
theorem tyK_46:tyK Tryz.prog 46=some (some 2):=by kernel_rfl
theorem bldI_46:bldI Tryz.prog 46=some ([.int .i64 0,.int .i64 0],[(0,1),(1,1)]):=by kernel_rfl
theorem fieldK_46_0:fieldK Tryz.prog 46 0=some (0,none):=by kernel_rfl
theorem fieldK_46_1:fieldK Tryz.prog 46 1=some (1,none):=by kernel_rfl
theorem bldI_48:bldI Tryz.prog 48=some ([.int .i64 0,.int .i64 0,.slice none 0 0,str [],.pointer none,.pointer none],[(0,1),(1,1),(2,1),(3,1),(4,1),(5,1)]):=by kernel_rfl
theorem fieldK_48_0:fieldK Tryz.prog 48 0=some (0,none):=by kernel_rfl
theorem fieldK_48_1:fieldK Tryz.prog 48 1=some (1,none):=by kernel_rfl
theorem fieldK_48_2:fieldK Tryz.prog 48 2=some (2,none):=by kernel_rfl
theorem fieldK_48_3:fieldK Tryz.prog 48 3=some (3,none):=by kernel_rfl
theorem fieldK_48_4:fieldK Tryz.prog 48 4=some (4,none):=by kernel_rfl
theorem fieldK_48_5:fieldK Tryz.prog 48 5=some (5,none):=by kernel_rfl
theorem tyK_50:tyK Tryz.prog 50=some (some 4):=by kernel_rfl
theorem bldI_50:bldI Tryz.prog 50=some ([.int .i64 0,.bool false,.pointer none,.pointer none],[(0,1),(1,1),(2,1),(3,1)]):=by kernel_rfl
theorem fieldK_50_0:fieldK Tryz.prog 50 0=some (0,none):=by kernel_rfl
theorem fieldK_50_1:fieldK Tryz.prog 50 1=some (1,none):=by kernel_rfl
theorem fieldK_50_2:fieldK Tryz.prog 50 2=some (2,none):=by kernel_rfl
theorem fieldK_50_3:fieldK Tryz.prog 50 3=some (3,none):=by kernel_rfl
theorem tyK_51:tyK Tryz.prog 51=some none:=by kernel_rfl
theorem elemK_51:elemK Tryz.prog 51=some (100,3):=by kernel_rfl
theorem elI_51:elI Tryz.prog 51=some (100,3,24):=by kernel_rfl
theorem eqKind_53:eqKind Tryz.prog 53=3:=by kernel_rfl
theorem tyK_53:tyK Tryz.prog 53=some none:=by kernel_rfl
theorem elemK_53:elemK Tryz.prog 53=some (3,1):=by kernel_rfl
theorem elI_53:elI Tryz.prog 53=some (3,1,8):=by kernel_rfl
theorem tyK_61:tyK Tryz.prog 61=some none:=by kernel_rfl
theorem elemK_61:elemK Tryz.prog 61=some (4,1):=by kernel_rfl
theorem elI_61:elI Tryz.prog 61=some (4,1,1):=by kernel_rfl
theorem tyK_67:tyK Tryz.prog 67=some none:=by kernel_rfl
theorem elemK_67:elemK Tryz.prog 67=some (41,1):=by kernel_rfl
theorem elI_67:elI Tryz.prog 67=some (41,1,24):=by kernel_rfl
theorem tyK_68:tyK Tryz.prog 68=some none:=by kernel_rfl
theorem elemK_68:elemK Tryz.prog 68=some (109,3):=by kernel_rfl
theorem elI_68:elI Tryz.prog 68=some (109,3,24):=by kernel_rfl
theorem tyK_70:tyK Tryz.prog 70=some (some 2):=by kernel_rfl
theorem bldI_70:bldI Tryz.prog 70=some ([.slice none 0 0,.slice none 0 0],[(0,1),(1,1)]):=by kernel_rfl
theorem fieldK_70_0:fieldK Tryz.prog 70 0=some (0,none):=by kernel_rfl
theorem fieldK_70_1:fieldK Tryz.prog 70 1=some (1,none):=by kernel_rfl
theorem tyK_77:tyK Tryz.prog 77=some none:=by kernel_rfl
theorem elemK_77:elemK Tryz.prog 77=some (139,5):=by kernel_rfl
theorem elI_77:elI Tryz.prog 77=some (139,5,104):=by kernel_rfl
theorem tyK_79:tyK Tryz.prog 79=some (some 2):=by kernel_rfl
theorem bldI_79:bldI Tryz.prog 79=some ([.slice none 0 0,.bool false],[(0,1),(1,1)]):=by kernel_rfl
theorem fieldK_79_0:fieldK Tryz.prog 79 0=some (0,none):=by kernel_rfl
theorem fieldK_79_1:fieldK Tryz.prog 79 1=some (1,none):=by kernel_rfl
theorem eqKind_83:eqKind Tryz.prog 83=0:=by kernel_rfl
theorem tyK_83:tyK Tryz.prog 83=some none:=by kernel_rfl
theorem tyK_90:tyK Tryz.prog 90=some (some 3):=by kernel_rfl
theorem bldI_90:bldI Tryz.prog 90=some ([str [],.int .i64 0,.pointer none],[(0,1),(1,1),(2,1)]):=by kernel_rfl
theorem fieldK_90_0:fieldK Tryz.prog 90 0=some (0,none):=by kernel_rfl
theorem fieldK_90_1:fieldK Tryz.prog 90 1=some (1,none):=by kernel_rfl
theorem fieldK_90_2:fieldK Tryz.prog 90 2=some (2,none):=by kernel_rfl
theorem eqKind_92:eqKind Tryz.prog 92=2:=by kernel_rfl
theorem bldI_94:bldI Tryz.prog 94=some ([.int .i64 0,.int .i64 0],[(0,1),(1,1)]):=by kernel_rfl
theorem fieldK_94_0:fieldK Tryz.prog 94 0=some (0,none):=by kernel_rfl
theorem bldI_100:bldI Tryz.prog 100=some ([.int .i64 0,.int .i64 0,.int .i64 0],[(0,1),(1,1),(2,1)]):=by kernel_rfl
theorem fieldK_100_0:fieldK Tryz.prog 100 0=some (0,none):=by kernel_rfl
theorem bldI_106:bldI Tryz.prog 106=some ([.slice none 0 0,.map none,.bool false],[(0,1),(1,1),(2,1)]):=by kernel_rfl
theorem fieldK_106_0:fieldK Tryz.prog 106 0=some (0,none):=by kernel_rfl
theorem fieldK_106_1:fieldK Tryz.prog 106 1=some (1,none):=by kernel_rfl
theorem fieldK_106_2:fieldK Tryz.prog 106 2=some (2,none):=by kernel_rfl
theorem tyK_109:tyK Tryz.prog 109=some (some 3):=by kernel_rfl
theorem bldI_109:bldI Tryz.prog 109=some ([.int .i64 0,.int .i64 0,.int .i64 0],[(0,1),(1,1),(2,1)]):=by kernel_rfl
theorem fieldK_109_0:fieldK Tryz.prog 109 0=some (0,none):=by kernel_rfl
theorem fieldK_109_1:fieldK Tryz.prog 109 1=some (1,none):=by kernel_rfl
theorem fieldK_109_2:fieldK Tryz.prog 109 2=some (2,none):=by kernel_rfl
theorem eqKind_111:eqKind Tryz.prog 111=8:=by kernel_rfl
theorem tyK_111:tyK Tryz.prog 111=some (some 1):=by kernel_rfl
theorem bldI_111:bldI Tryz.prog 111=some ([.int .i64 0],[(0,1)]):=by kernel_rfl
theorem fieldK_111_0:fieldK Tryz.prog 111 0=some (0,none):=by kernel_rfl
theorem bldI_115:bldI Tryz.prog 115=some ([.slice none 0 0,.slice none 0 0,.map none,.bool false],[(0,2),(2,1),(3,1)]):=by kernel_rfl
theorem fieldK_115_0:fieldK Tryz.prog 115 0=some (0,(some 2)):=by kernel_rfl
theorem fieldK_115_1:fieldK Tryz.prog 115 1=some (2,none):=by kernel_rfl
theorem fieldK_115_2:fieldK Tryz.prog 115 2=some (3,none):=by kernel_rfl
theorem bldI_122:bldI Tryz.prog 122=some ([.slice none 0 0,.slice none 0 0],[(0,1),(1,1)]):=by kernel_rfl
theorem fieldK_122_0:fieldK Tryz.prog 122 0=some (0,none):=by kernel_rfl
theorem fieldK_122_1:fieldK Tryz.prog 122 1=some (1,none):=by kernel_rfl
theorem eqKind_126:eqKind Tryz.prog 126=0:=by kernel_rfl
theorem tyK_126:tyK Tryz.prog 126=some (some 1):=by kernel_rfl
theorem bldI_126:bldI Tryz.prog 126=some ([.nilIface],[(0,1)]):=by kernel_rfl
theorem fieldK_126_0:fieldK Tryz.prog 126 0=some (0,none):=by kernel_rfl
theorem tyK_128:tyK Tryz.prog 128=some none:=by kernel_rfl
theorem elemK_128:elemK Tryz.prog 128=some (136,3):=by kernel_rfl
theorem elI_128:elI Tryz.prog 128=some (136,3,32):=by kernel_rfl
theorem bldI_133:bldI Tryz.prog 133=some ([.slice none 0 0],[(0,1)]):=by kernel_rfl
theorem fieldK_133_0:fieldK Tryz.prog 133 0=some (0,none):=by kernel_rfl
theorem tyK_136:tyK Tryz.prog 136=some (some 3):=by kernel_rfl
theorem bldI_136:bldI Tryz.prog 136=some ([.int .i64 0,str [],.int .i64 0],[(0,1),(1,1),(2,1)]):=by kernel_rfl
theorem fieldK_136_0:fieldK Tryz.prog 136 0=some (0,none):=by kernel_rfl
theorem fieldK_136_1:fieldK Tryz.prog 136 1=some (1,none):=by kernel_rfl
theorem fieldK_136_2:fieldK Tryz.prog 136 2=some (2,none):=by kernel_rfl
theorem tyK_139:tyK Tryz.prog 139=some (some 5):=by kernel_rfl
theorem bldI_139:bldI Tryz.prog 139=some ([.bool false,.slice none 0 0,.slice none 0 0,.slice none 0 0,.slice none 0 0],[(0,1),(1,2),(3,2)]):=by kernel_rfl
theorem fieldK_139_0:fieldK Tryz.prog 139 0=some (0,none):=by kernel_rfl
theorem fieldK_139_1:fieldK Tryz.prog 139 1=some (1,(some 2)):=by kernel_rfl
theorem fieldK_139_2:fieldK Tryz.prog 139 2=some (3,(some 2)):=by kernel_rfl
theorem eqKind_142:eqKind Tryz.prog 142=2:=by kernel_rfl
theorem elemK_151:elemK Tryz.prog 151=none:=by kernel_rfl
theorem arrK_151:arrK Tryz.prog 151=some (5,3,1):=by kernel_rfl
theorem arrK_159:arrK Tryz.prog 159=some (256,4,1):=by kernel_rfl
theorem arrK_160:arrK Tryz.prog 160=some (256,4,1):=by kernel_rfl
theorem tyK_180:tyK Tryz.prog 180=some (some 3):=by kernel_rfl
theorem tyK_183:tyK Tryz.prog 183=some none:=by kernel_rfl
theorem elI_192:elI Tryz.prog 192=some (9,1,16):=by kernel_rfl
theorem elemK_229:elemK Tryz.prog 229=some (5,1):=by kernel_rfl
theorem arrK_270:arrK Tryz.prog 270=some (24,5,1):=by kernel_rfl
theorem arrK_283:arrK Tryz.prog 283=some (20,246,1):=by kernel_rfl
theorem elemK_284:elemK Tryz.prog 284=none:=by kernel_rfl
theorem arrK_284:arrK Tryz.prog 284=some (65,5,1):=by kernel_rfl
theorem eqKind_288:eqKind Tryz.prog 288=0:=by kernel_rfl
theorem arrK_299:arrK Tryz.prog 299=some (32,5,1):=by kernel_rfl
theorem elemK_300:elemK Tryz.prog 300=none:=by kernel_rfl
theorem arrK_300:arrK Tryz.prog 300=some (64,5,1):=by kernel_rfl
theorem arrK_301:arrK Tryz.prog 301=some (256,5,1):=by kernel_rfl
theorem arrK_304:arrK Tryz.prog 304=some (16,303,2):=by kernel_rfl
theorem arrK_312:arrK Tryz.prog 312=some (0,16,1):=by kernel_rfl
theorem mixed:Tryz.prog.follows .mixedOrders=true:=by kernel_rfl
attribute [push_cast] Tryz.underlying2 tyK_3 Tryz.underlying3 eqKind_4 tyK_4 Tryz.underlying4 tyK_5 Tryz.underlying5 eqKind_9 tyK_9 elemK_9 Tryz.underlying9 eqKind_20 Tryz.underlying21 tyK_23 elemK_23 Tryz.underlying23 tyK_24 elemK_24 Tryz.underlying24 tyK_26 bldI_26 fieldK_26_0 fieldK_26_1 fieldK_26_2 tyK_29 eqKind_31 tyK_31 tyK_35 tyK_36 eqKind_37 tyK_37 elemK_37 Tryz.underlying37 bldI_39 fieldK_39_0 fieldK_39_1 fieldK_39_2 fieldK_39_3 fieldK_39_4 eqKind_40 elemK_40 Tryz.underlying40 tyK_41 elemK_41 Tryz.underlying41 eqKind_46 tyK_46 bldI_46 fieldK_46_0 fieldK_46_1 bldI_48 fieldK_48_0 fieldK_48_1 fieldK_48_2 fieldK_48_3 fieldK_48_4 fieldK_48_5 tyK_50 bldI_50 fieldK_50_0 fieldK_50_1 fieldK_50_2 fieldK_50_3 tyK_51 elemK_51 Tryz.underlying51 eqKind_53 tyK_53 elemK_53 Tryz.underlying53 tyK_61 elemK_61 tyK_67 elemK_67 Tryz.underlying67 tyK_68 elemK_68 Tryz.underlying68 tyK_70 bldI_70 fieldK_70_0 fieldK_70_1 tyK_77 elemK_77 Tryz.underlying77 tyK_79 bldI_79 fieldK_79_0 fieldK_79_1 eqKind_83 tyK_83 Tryz.underlying83 tyK_90 bldI_90 fieldK_90_0 fieldK_90_1 fieldK_90_2 eqKind_92 Tryz.underlying92 bldI_94 fieldK_94_0 bldI_100 fieldK_100_0 Tryz.underlying103 bldI_106 fieldK_106_0 fieldK_106_1 fieldK_106_2 tyK_109 bldI_109 fieldK_109_0 fieldK_109_1 fieldK_109_2 eqKind_111 tyK_111 bldI_111 fieldK_111_0 bldI_115 fieldK_115_0 fieldK_115_1 fieldK_115_2 bldI_122 fieldK_122_0 fieldK_122_1 eqKind_126 tyK_126 bldI_126 fieldK_126_0 tyK_128 elemK_128 Tryz.underlying128 bldI_133 fieldK_133_0 tyK_136 bldI_136 fieldK_136_0 fieldK_136_1 fieldK_136_2 tyK_139 bldI_139 fieldK_139_0 fieldK_139_1 fieldK_139_2 eqKind_142 Tryz.underlying142 elemK_151 arrK_151 arrK_159 arrK_160 Tryz.underlying174 tyK_180 tyK_183 Tryz.underlying192 Tryz.underlying197 Tryz.underlying207 Tryz.underlying228 elemK_229 Tryz.underlying229 Tryz.underlying236 Tryz.underlying244 Tryz.underlying246 Tryz.underlying248 Tryz.underlying254 Tryz.underlying258 arrK_270 Tryz.underlying278 arrK_283 elemK_284 arrK_284 eqKind_288 Tryz.underlying288 Tryz.underlying291 arrK_299 elemK_300 arrK_300 arrK_301 arrK_304 Tryz.underlying307 arrK_312
end Go.Proofs.YtledlfbbebodgaaGreatDoor
end
