/- Texts of this claim, merged: Open, Facts. -/
import Derived.Test.YtodeeahdhnjpkaaGreatDoorM1
import Derived.ProofKit
import Derived.Handy
import Derived.OpenShut
import Derived.LaidMore
import Derived.Deep.Strs
import Derived.Test.YtodeeahdhnjpkaaGreatDoorProg
set_option maxRecDepth 100000
set_option linter.unusedSimpArgs false
set_option linter.unusedVariables false
set_option maxHeartbeats 8000000
section
namespace Go.Vc
open Go.RowKit
end Go.Vc
end
section
namespace Go.Proofs.YtodeeahdhnjpkaaGreatDoor
open Go.Vc Go.Proofs
theorem tyK_3:tyK Tryz.prog 3=some none:=by kernel_rfl
theorem tyK_4:tyK Tryz.prog 4=some none:=by kernel_rfl
theorem tyK_5:tyK Tryz.prog 5=some none:=by kernel_rfl
theorem eqKind_9:eqKind Tryz.prog 9=0:=by kernel_rfl
theorem tyK_9:tyK Tryz.prog 9=some none:=by kernel_rfl
theorem elemK_9:elemK Tryz.prog 9=none:=by kernel_rfl
theorem eqKind_20:eqKind Tryz.prog 20=1:=by kernel_rfl
theorem tyK_22:tyK Tryz.prog 22=some none:=by kernel_rfl
theorem elemK_22:elemK Tryz.prog 22=some (74,3):=by kernel_rfl
theorem elI_22:elI Tryz.prog 22=some (74,3,32):=by kernel_rfl
theorem tyK_23:tyK Tryz.prog 23=some none:=by kernel_rfl
theorem elemK_23:elemK Tryz.prog 23=some (60,4):=by kernel_rfl
theorem elI_23:elI Tryz.prog 23=some (60,4,32):=by kernel_rfl
theorem tyK_25:tyK Tryz.prog 25=some (some 3):=by kernel_rfl
theorem bldI_25:bldI Tryz.prog 25=some ([.slice none 0 0,.slice none 0 0,.bool false],[(0,1),(1,1),(2,1)]):=by kernel_rfl
theorem fieldK_25_0:fieldK Tryz.prog 25 0=some (0,none):=by kernel_rfl
theorem fieldK_25_1:fieldK Tryz.prog 25 1=some (1,none):=by kernel_rfl
theorem fieldK_25_2:fieldK Tryz.prog 25 2=some (2,none):=by kernel_rfl
theorem eqKind_26:eqKind Tryz.prog 26=0:=by kernel_rfl
theorem tyK_26:tyK Tryz.prog 26=some none:=by kernel_rfl
theorem eqKind_28:eqKind Tryz.prog 28=9:=by kernel_rfl
theorem tyK_28:tyK Tryz.prog 28=some (some 2):=by kernel_rfl
theorem bldI_28:bldI Tryz.prog 28=some ([.int .i64 0,.int .i64 0],[(0,1),(1,1)]):=by kernel_rfl
theorem fieldK_28_0:fieldK Tryz.prog 28 0=some (0,none):=by kernel_rfl
theorem fieldK_28_1:fieldK Tryz.prog 28 1=some (1,none):=by kernel_rfl
theorem eqKind_32:eqKind Tryz.prog 32=1:=by kernel_rfl
theorem tyK_32:tyK Tryz.prog 32=some none:=by kernel_rfl
theorem eqKind_43:eqKind Tryz.prog 43=3:=by kernel_rfl
theorem tyK_43:tyK Tryz.prog 43=some none:=by kernel_rfl
theorem elemK_43:elemK Tryz.prog 43=some (104,2):=by kernel_rfl
theorem elI_43:elI Tryz.prog 43=some (104,2,16):=by kernel_rfl
theorem tyK_44:tyK Tryz.prog 44=some none:=by kernel_rfl
theorem elemK_44:elemK Tryz.prog 44=some (104,2):=by kernel_rfl
theorem elI_44:elI Tryz.prog 44=some (104,2,16):=by kernel_rfl
theorem elemK_50:elemK Tryz.prog 50=some (3,1):=by kernel_rfl
theorem elI_50:elI Tryz.prog 50=some (3,1,8):=by kernel_rfl
theorem tyK_58:tyK Tryz.prog 58=some none:=by kernel_rfl
theorem tyK_60:tyK Tryz.prog 60=some (some 4):=by kernel_rfl
theorem bldI_60:bldI Tryz.prog 60=some ([.int .i64 0,.bool false,.pointer none,.pointer none],[(0,1),(1,1),(2,1),(3,1)]):=by kernel_rfl
theorem fieldK_60_1:fieldK Tryz.prog 60 1=some (1,none):=by kernel_rfl
theorem fieldK_60_2:fieldK Tryz.prog 60 2=some (2,none):=by kernel_rfl
theorem fieldK_60_3:fieldK Tryz.prog 60 3=some (3,none):=by kernel_rfl
theorem tyK_63:tyK Tryz.prog 63=some none:=by kernel_rfl
theorem elemK_63:elemK Tryz.prog 63=some (71,3):=by kernel_rfl
theorem elI_63:elI Tryz.prog 63=some (71,3,32):=by kernel_rfl
theorem bldI_68:bldI Tryz.prog 68=some ([.slice none 0 0,.int .i64 0,.int .i64 0],[(0,1),(1,2)]):=by kernel_rfl
theorem fieldK_68_0:fieldK Tryz.prog 68 0=some (0,none):=by kernel_rfl
theorem fieldK_68_1:fieldK Tryz.prog 68 1=some (1,(some 2)):=by kernel_rfl
theorem tyK_71:tyK Tryz.prog 71=some (some 3):=by kernel_rfl
theorem bldI_71:bldI Tryz.prog 71=some ([.int .i64 0,str [],.int .i64 0],[(0,1),(1,1),(2,1)]):=by kernel_rfl
theorem fieldK_71_0:fieldK Tryz.prog 71 0=some (0,none):=by kernel_rfl
theorem fieldK_71_1:fieldK Tryz.prog 71 1=some (1,none):=by kernel_rfl
theorem fieldK_71_2:fieldK Tryz.prog 71 2=some (2,none):=by kernel_rfl
theorem tyK_72:tyK Tryz.prog 72=some none:=by kernel_rfl
theorem tyK_74:tyK Tryz.prog 74=some (some 3):=by kernel_rfl
theorem bldI_74:bldI Tryz.prog 74=some ([str [],.int .i64 0,.pointer none],[(0,1),(1,1),(2,1)]):=by kernel_rfl
theorem fieldK_74_0:fieldK Tryz.prog 74 0=some (0,none):=by kernel_rfl
theorem fieldK_74_1:fieldK Tryz.prog 74 1=some (1,none):=by kernel_rfl
theorem fieldK_74_2:fieldK Tryz.prog 74 2=some (2,none):=by kernel_rfl
theorem eqKind_81:eqKind Tryz.prog 81=0:=by kernel_rfl
theorem tyK_81:tyK Tryz.prog 81=some (some 1):=by kernel_rfl
theorem bldI_81:bldI Tryz.prog 81=some ([.nilIface],[(0,1)]):=by kernel_rfl
theorem fieldK_81_0:fieldK Tryz.prog 81 0=some (0,none):=by kernel_rfl
theorem tyK_83:tyK Tryz.prog 83=some none:=by kernel_rfl
theorem elemK_83:elemK Tryz.prog 83=some (91,3):=by kernel_rfl
theorem elI_83:elI Tryz.prog 83=some (91,3,32):=by kernel_rfl
theorem bldI_88:bldI Tryz.prog 88=some ([.slice none 0 0],[(0,1)]):=by kernel_rfl
theorem fieldK_88_0:fieldK Tryz.prog 88 0=some (0,none):=by kernel_rfl
theorem tyK_91:tyK Tryz.prog 91=some (some 3):=by kernel_rfl
theorem bldI_91:bldI Tryz.prog 91=some ([.int .i64 0,str [],.int .i64 0],[(0,1),(1,1),(2,1)]):=by kernel_rfl
theorem fieldK_91_0:fieldK Tryz.prog 91 0=some (0,none):=by kernel_rfl
theorem fieldK_91_1:fieldK Tryz.prog 91 1=some (1,none):=by kernel_rfl
theorem fieldK_91_2:fieldK Tryz.prog 91 2=some (2,none):=by kernel_rfl
theorem eqKind_96:eqKind Tryz.prog 96=2:=by kernel_rfl
theorem bldI_97:bldI Tryz.prog 97=some ([.int .i64 0,.int .i64 0],[(0,1),(1,1)]):=by kernel_rfl
theorem fieldK_97_0:fieldK Tryz.prog 97 0=some (0,none):=by kernel_rfl
theorem fieldK_97_1:fieldK Tryz.prog 97 1=some (1,none):=by kernel_rfl
theorem arrK_101:arrK Tryz.prog 101=some (2,58,1):=by kernel_rfl
theorem eqKind_104:eqKind Tryz.prog 104=9:=by kernel_rfl
theorem tyK_104:tyK Tryz.prog 104=some (some 2):=by kernel_rfl
theorem bldI_104:bldI Tryz.prog 104=some ([.int .i64 0,.int .i64 0],[(0,1),(1,1)]):=by kernel_rfl
theorem fieldK_104_0:fieldK Tryz.prog 104 0=some (0,none):=by kernel_rfl
theorem fieldK_104_1:fieldK Tryz.prog 104 1=some (1,none):=by kernel_rfl
theorem bldI_126:bldI Tryz.prog 126=some ([.int .i64 0,.int .i64 0,.slice none 0 0,str [],.pointer none,.pointer none],[(0,1),(1,1),(2,1),(3,1),(4,1),(5,1)]):=by kernel_rfl
theorem fieldK_126_0:fieldK Tryz.prog 126 0=some (0,none):=by kernel_rfl
theorem fieldK_126_1:fieldK Tryz.prog 126 1=some (1,none):=by kernel_rfl
theorem fieldK_126_2:fieldK Tryz.prog 126 2=some (2,none):=by kernel_rfl
theorem fieldK_126_3:fieldK Tryz.prog 126 3=some (3,none):=by kernel_rfl
theorem fieldK_126_4:fieldK Tryz.prog 126 4=some (4,none):=by kernel_rfl
theorem fieldK_126_5:fieldK Tryz.prog 126 5=some (5,none):=by kernel_rfl
theorem tyK_127:tyK Tryz.prog 127=some none:=by kernel_rfl
theorem elemK_127:elemK Tryz.prog 127=some (58,1):=by kernel_rfl
theorem elI_127:elI Tryz.prog 127=some (58,1,8):=by kernel_rfl
theorem bldI_129:bldI Tryz.prog 129=some ([.int .i64 0,.pointer none,.slice none 0 0,.int .i64 0,.int .i64 0],[(0,1),(1,1),(2,1),(3,1),(4,1)]):=by kernel_rfl
theorem fieldK_129_0:fieldK Tryz.prog 129 0=some (0,none):=by kernel_rfl
theorem fieldK_129_1:fieldK Tryz.prog 129 1=some (1,none):=by kernel_rfl
theorem fieldK_129_2:fieldK Tryz.prog 129 2=some (2,none):=by kernel_rfl
theorem fieldK_129_3:fieldK Tryz.prog 129 3=some (3,none):=by kernel_rfl
theorem fieldK_129_4:fieldK Tryz.prog 129 4=some (4,none):=by kernel_rfl
theorem arrK_139:arrK Tryz.prog 139=some (5,3,1):=by kernel_rfl
theorem elemK_142:elemK Tryz.prog 142=some (5,1):=by kernel_rfl
theorem eqKind_154:eqKind Tryz.prog 154=2:=by kernel_rfl
theorem elemK_164:elemK Tryz.prog 164=some (9,1):=by kernel_rfl
theorem elI_164:elI Tryz.prog 164=some (9,1,16):=by kernel_rfl
theorem tyK_178:tyK Tryz.prog 178=some (some 3):=by kernel_rfl
theorem tyK_181:tyK Tryz.prog 181=some none:=by kernel_rfl
theorem elemK_187:elemK Tryz.prog 187=some (43,1):=by kernel_rfl
theorem elI_187:elI Tryz.prog 187=some (43,1,24):=by kernel_rfl
theorem elemK_192:elemK Tryz.prog 192=some (44,1):=by kernel_rfl
theorem elI_192:elI Tryz.prog 192=some (44,1,24):=by kernel_rfl
theorem arrK_211:arrK Tryz.prog 211=some (256,5,1):=by kernel_rfl
theorem arrK_215:arrK Tryz.prog 215=some (256,4,1):=by kernel_rfl
theorem arrK_216:arrK Tryz.prog 216=some (256,4,1):=by kernel_rfl
theorem eqKind_259:eqKind Tryz.prog 259=0:=by kernel_rfl
theorem arrK_292:arrK Tryz.prog 292=some (24,5,1):=by kernel_rfl
theorem arrK_305:arrK Tryz.prog 305=some (16,304,2):=by kernel_rfl
theorem arrK_311:arrK Tryz.prog 311=some (20,208,1):=by kernel_rfl
theorem elemK_312:elemK Tryz.prog 312=none:=by kernel_rfl
theorem arrK_312:arrK Tryz.prog 312=some (65,5,1):=by kernel_rfl
theorem arrK_316:arrK Tryz.prog 316=some (32,5,1):=by kernel_rfl
theorem elemK_317:elemK Tryz.prog 317=none:=by kernel_rfl
theorem arrK_317:arrK Tryz.prog 317=some (64,5,1):=by kernel_rfl
theorem arrK_320:arrK Tryz.prog 320=some (0,16,1):=by kernel_rfl
theorem mixed:Tryz.prog.follows .mixedOrders=true:=by kernel_rfl
attribute [push_cast] Tryz.underlying2 tyK_3 Tryz.underlying3 tyK_4 Tryz.underlying4 tyK_5 Tryz.underlying5 eqKind_9 tyK_9 elemK_9 Tryz.underlying9 eqKind_20 Tryz.underlying21 tyK_22 elemK_22 Tryz.underlying22 tyK_23 elemK_23 Tryz.underlying23 tyK_25 bldI_25 fieldK_25_0 fieldK_25_1 fieldK_25_2 eqKind_26 tyK_26 Tryz.underlying26 eqKind_28 tyK_28 bldI_28 fieldK_28_0 fieldK_28_1 eqKind_32 tyK_32 eqKind_43 tyK_43 elemK_43 Tryz.underlying43 tyK_44 elemK_44 Tryz.underlying44 elemK_50 Tryz.underlying50 tyK_58 tyK_60 bldI_60 fieldK_60_1 fieldK_60_2 fieldK_60_3 tyK_63 elemK_63 Tryz.underlying63 bldI_68 fieldK_68_0 fieldK_68_1 tyK_71 bldI_71 fieldK_71_0 fieldK_71_1 fieldK_71_2 tyK_72 tyK_74 bldI_74 fieldK_74_0 fieldK_74_1 fieldK_74_2 Tryz.underlying76 eqKind_81 tyK_81 bldI_81 fieldK_81_0 tyK_83 elemK_83 Tryz.underlying83 bldI_88 fieldK_88_0 tyK_91 bldI_91 fieldK_91_0 fieldK_91_1 fieldK_91_2 eqKind_96 Tryz.underlying96 bldI_97 fieldK_97_0 fieldK_97_1 arrK_101 eqKind_104 tyK_104 bldI_104 fieldK_104_0 fieldK_104_1 Tryz.underlying109 bldI_126 fieldK_126_0 fieldK_126_1 fieldK_126_2 fieldK_126_3 fieldK_126_4 fieldK_126_5 tyK_127 elemK_127 Tryz.underlying127 bldI_129 fieldK_129_0 fieldK_129_1 fieldK_129_2 fieldK_129_3 fieldK_129_4 arrK_139 elemK_142 Tryz.underlying142 eqKind_154 Tryz.underlying154 elemK_164 Tryz.underlying164 tyK_178 tyK_181 elemK_187 Tryz.underlying187 Tryz.underlying191 elemK_192 Tryz.underlying192 Tryz.underlying198 Tryz.underlying206 Tryz.underlying208 arrK_211 Tryz.underlying213 arrK_215 arrK_216 Tryz.underlying220 Tryz.underlying244 Tryz.underlying248 Tryz.underlying250 Tryz.underlying254 eqKind_259 Tryz.underlying259 Tryz.underlying262 Tryz.underlying272 Tryz.underlying274 Tryz.underlying275 Tryz.underlying278 arrK_292 Tryz.underlying296 Tryz.underlying301 Tryz.underlying302 arrK_305 Tryz.underlying306 Tryz.underlying307 arrK_311 elemK_312 arrK_312 arrK_316 elemK_317 arrK_317 arrK_320
end Go.Proofs.YtodeeahdhnjpkaaGreatDoor
end
