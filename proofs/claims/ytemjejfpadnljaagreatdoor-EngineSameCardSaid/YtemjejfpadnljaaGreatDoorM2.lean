/- Part. -/
import Derived.Test.YtemjejfpadnljaaGreatDoorM1
import Derived.Test.YtemjejfpadnljaaGreatDoorProg
set_option maxRecDepth 100000
set_option linter.unusedSimpArgs false
set_option linter.unusedVariables false
set_option maxHeartbeats 8000000
namespace Go.Proofs.YtemjejfpadnljaaGreatDoor
open Go.Vc Go.Proofs
theorem aM9:lC Tryz.prog 3=some none:=by kernel_rfl
theorem Xa:dC Tryz.prog 4=6:=by kernel_rfl
theorem aNa:lC Tryz.prog 4=some none:=by kernel_rfl
theorem aNb:lC Tryz.prog 5=some none:=by kernel_rfl
theorem Xb:dC Tryz.prog 9=0:=by kernel_rfl
theorem aNc:lC Tryz.prog 9=some none:=by kernel_rfl
theorem aCa:gT Tryz.prog 9=none:=by kernel_rfl
theorem SZ:dC Tryz.prog 20=1:=by kernel_rfl
theorem aIS:lC Tryz.prog 23=some none:=by kernel_rfl
theorem XZ:gT Tryz.prog 23=some (137,3):=by kernel_rfl
theorem XY:Bd Tryz.prog 23=some (137,3,32):=by kernel_rfl
theorem aIT:lC Tryz.prog 24=some none:=by kernel_rfl
theorem X0:gT Tryz.prog 24=some (84,4):=by kernel_rfl
theorem rJ:Bd Tryz.prog 24=some (84,4,32):=by kernel_rfl
theorem aIU:lC Tryz.prog 26=some (some 3):=by kernel_rfl
theorem aBI:lO Tryz.prog 26=some ([.slice none 0 0,.slice none 0 0,.bool false],[(0,1),(1,1),(2,1)]):=by kernel_rfl
theorem Jz:bA Tryz.prog 26 0=some (0,none):=by kernel_rfl
theorem KA:bA Tryz.prog 26 1=some (1,none):=by kernel_rfl
theorem KB:bA Tryz.prog 26 2=some (2,none):=by kernel_rfl
theorem S0:dC Tryz.prog 29=2:=by kernel_rfl
theorem S5:dC Tryz.prog 34=1:=by kernel_rfl
theorem aIV:lC Tryz.prog 34=some none:=by kernel_rfl
theorem S6:dC Tryz.prog 36=3:=by kernel_rfl
theorem aIW:lC Tryz.prog 36=some none:=by kernel_rfl
theorem X2:gT Tryz.prog 36=some (3,1):=by kernel_rfl
theorem ay:Bd Tryz.prog 36=some (3,1,8):=by kernel_rfl
theorem aIX:lC Tryz.prog 50=some none:=by kernel_rfl
theorem X3:gT Tryz.prog 50=some (55,3):=by kernel_rfl
theorem Gt:Bd Tryz.prog 50=some (55,3,24):=by kernel_rfl
theorem aIY:lC Tryz.prog 55=some (some 3):=by kernel_rfl
theorem aBJ:lO Tryz.prog 55=some ([.int .i64 0,.int .i64 0,.int .i64 0],[(0,1),(1,1),(2,1)]):=by kernel_rfl
theorem KC:bA Tryz.prog 55 0=some (0,none):=by kernel_rfl
theorem KD:bA Tryz.prog 55 1=some (1,none):=by kernel_rfl
theorem X4:gT Tryz.prog 56=some (9,1):=by kernel_rfl
theorem uE:Bd Tryz.prog 56=some (9,1,16):=by kernel_rfl
theorem aIZ:lC Tryz.prog 69=some none:=by kernel_rfl
theorem X5:gT Tryz.prog 69=some (129,5):=by kernel_rfl
theorem xl:Bd Tryz.prog 69=some (129,5,104):=by kernel_rfl
theorem aI0:lC Tryz.prog 71=some (some 2):=by kernel_rfl
theorem aBK:lO Tryz.prog 71=some ([.slice none 0 0,.bool false],[(0,1),(1,1)]):=by kernel_rfl
theorem KF:bA Tryz.prog 71 0=some (0,none):=by kernel_rfl
theorem KG:bA Tryz.prog 71 1=some (1,none):=by kernel_rfl
theorem aBL:lO Tryz.prog 73=some ([.slice none 0 0,.bool false,str [],.slice none 0 0],[(0,2),(2,1),(3,1)]):=by kernel_rfl
theorem KH:bA Tryz.prog 73 0=some (0,(some 2)):=by kernel_rfl
theorem S7:dC Tryz.prog 74=0:=by kernel_rfl
theorem aI1:lC Tryz.prog 74=some none:=by kernel_rfl
theorem aI2:lC Tryz.prog 78=some none:=by kernel_rfl
theorem aI3:lC Tryz.prog 82=some none:=by kernel_rfl
theorem aI4:lC Tryz.prog 84=some (some 4):=by kernel_rfl
theorem aBM:lO Tryz.prog 84=some ([.int .i64 0,.bool false,.pointer none,.pointer none],[(0,1),(1,1),(2,1),(3,1)]):=by kernel_rfl
theorem KI:bA Tryz.prog 84 0=some (0,none):=by kernel_rfl
theorem KJ:bA Tryz.prog 84 1=some (1,none):=by kernel_rfl
theorem KK:bA Tryz.prog 84 2=some (2,none):=by kernel_rfl
theorem KL:bA Tryz.prog 84 3=some (3,none):=by kernel_rfl
theorem X6:gT Tryz.prog 88=some (5,1):=by kernel_rfl
theorem oR:Bd Tryz.prog 88=some (5,1,1):=by kernel_rfl
theorem S8:dC Tryz.prog 97=0:=by kernel_rfl
theorem aI5:lC Tryz.prog 97=some (some 1):=by kernel_rfl
theorem aBN:lO Tryz.prog 97=some ([.nilIface],[(0,1)]):=by kernel_rfl
theorem KM:bA Tryz.prog 97 0=some (0,none):=by kernel_rfl
theorem aI6:lC Tryz.prog 99=some none:=by kernel_rfl
theorem X7:gT Tryz.prog 99=some (107,3):=by kernel_rfl
theorem Gu:Bd Tryz.prog 99=some (107,3,32):=by kernel_rfl
theorem Wb:lO Tryz.prog 104=some ([.slice none 0 0],[(0,1)]):=by kernel_rfl
theorem Gx:bA Tryz.prog 104 0=some (0,none):=by kernel_rfl
theorem aEr:lC Tryz.prog 107=some (some 3):=by kernel_rfl
theorem Wc:lO Tryz.prog 107=some ([.int .i64 0,str [],.int .i64 0],[(0,1),(1,1),(2,1)]):=by kernel_rfl
theorem Gy:bA Tryz.prog 107 0=some (0,none):=by kernel_rfl
theorem Gz:bA Tryz.prog 107 1=some (1,none):=by kernel_rfl
theorem HA:bA Tryz.prog 107 2=some (2,none):=by kernel_rfl
theorem WE:tF Tryz.prog 116=some (256,4,1):=by kernel_rfl
theorem WG:tF Tryz.prog 117=some (256,4,1):=by kernel_rfl
theorem aEs:lC Tryz.prog 124=some none:=by kernel_rfl
theorem SN:gT Tryz.prog 124=some (139,1):=by kernel_rfl
theorem nw:Bd Tryz.prog 124=some (139,1,24):=by kernel_rfl
theorem N3:dC Tryz.prog 125=3:=by kernel_rfl
theorem aEt:lC Tryz.prog 125=some none:=by kernel_rfl
theorem SO:gT Tryz.prog 125=some (164,3):=by kernel_rfl
theorem fL:Bd Tryz.prog 125=some (164,3,24):=by kernel_rfl
theorem aEu:lC Tryz.prog 127=some (some 2):=by kernel_rfl
theorem Wd:lO Tryz.prog 127=some ([.slice none 0 0,.slice none 0 0],[(0,1),(1,1)]):=by kernel_rfl
theorem HB:bA Tryz.prog 127 0=some (0,none):=by kernel_rfl
theorem HC:bA Tryz.prog 127 1=some (1,none):=by kernel_rfl
theorem aEv:lC Tryz.prog 129=some (some 5):=by kernel_rfl
theorem We:lO Tryz.prog 129=some ([.bool false,.slice none 0 0,.slice none 0 0,.slice none 0 0,.slice none 0 0],[(0,1),(1,2),(3,2)]):=by kernel_rfl
theorem HD:bA Tryz.prog 129 0=some (0,none):=by kernel_rfl
theorem HE:bA Tryz.prog 129 1=some (1,(some 2)):=by kernel_rfl
theorem HF:bA Tryz.prog 129 2=some (3,(some 2)):=by kernel_rfl
theorem SP:gT Tryz.prog 134=none:=by kernel_rfl
theorem WH:tF Tryz.prog 134=some (5,3,1):=by kernel_rfl
theorem aEw:lC Tryz.prog 135=some none:=by kernel_rfl
theorem aEx:lC Tryz.prog 137=some (some 3):=by kernel_rfl
theorem Wf:lO Tryz.prog 137=some ([str [],.int .i64 0,.pointer none],[(0,1),(1,1),(2,1)]):=by kernel_rfl
theorem HG:bA Tryz.prog 137 0=some (0,none):=by kernel_rfl
theorem HH:bA Tryz.prog 137 1=some (1,none):=by kernel_rfl
theorem HI:bA Tryz.prog 137 2=some (2,none):=by kernel_rfl
theorem N4:dC Tryz.prog 138=3:=by kernel_rfl
theorem SQ:gT Tryz.prog 138=some (208,2):=by kernel_rfl
theorem QD:Bd Tryz.prog 138=some (208,2,16):=by kernel_rfl
theorem aEy:lC Tryz.prog 139=some none:=by kernel_rfl
theorem SR:gT Tryz.prog 139=some (208,2):=by kernel_rfl
theorem fe:Bd Tryz.prog 139=some (208,2,16):=by kernel_rfl
theorem N5:dC Tryz.prog 141=2:=by kernel_rfl
theorem Wg:lO Tryz.prog 143=some ([.int .i64 0,.int .i64 0],[(0,1),(1,1)]):=by kernel_rfl
theorem Wh:lO Tryz.prog 148=some ([.slice none 0 0,.map none,.bool false],[(0,1),(1,1),(2,1)]):=by kernel_rfl
theorem HJ:bA Tryz.prog 148 0=some (0,none):=by kernel_rfl
theorem HK:bA Tryz.prog 148 1=some (1,none):=by kernel_rfl
theorem HL:bA Tryz.prog 148 2=some (2,none):=by kernel_rfl
theorem N7:dC Tryz.prog 156=3:=by kernel_rfl
theorem aEz:lC Tryz.prog 156=some none:=by kernel_rfl
theorem SS:gT Tryz.prog 156=some (82,1):=by kernel_rfl
theorem gD:Bd Tryz.prog 156=some (82,1,8):=by kernel_rfl
theorem Wi:lO Tryz.prog 158=some ([.int .i64 0,.pointer none,.slice none 0 0,.int .i64 0,.int .i64 0],[(0,1),(1,1),(2,1),(3,1),(4,1)]):=by kernel_rfl
theorem HM:bA Tryz.prog 158 0=some (0,none):=by kernel_rfl
theorem HN:bA Tryz.prog 158 1=some (1,none):=by kernel_rfl
theorem HO:bA Tryz.prog 158 2=some (2,none):=by kernel_rfl
theorem HP:bA Tryz.prog 158 3=some (3,none):=by kernel_rfl
theorem HQ:bA Tryz.prog 158 4=some (4,none):=by kernel_rfl
theorem aEA:lC Tryz.prog 164=some (some 3):=by kernel_rfl
theorem Wj:lO Tryz.prog 164=some ([.int .i64 0,.int .i64 0,.int .i64 0],[(0,1),(1,1),(2,1)]):=by kernel_rfl
theorem HR:bA Tryz.prog 164 0=some (0,none):=by kernel_rfl
theorem HS:bA Tryz.prog 164 1=some (1,none):=by kernel_rfl
theorem HT:bA Tryz.prog 164 2=some (2,none):=by kernel_rfl
theorem Wk:lO Tryz.prog 172=some ([str [],.bool false],[(0,1),(1,1)]):=by kernel_rfl
theorem HU:bA Tryz.prog 172 0=some (0,none):=by kernel_rfl
theorem HV:bA Tryz.prog 172 1=some (1,none):=by kernel_rfl
theorem aEB:lC Tryz.prog 182=some none:=by kernel_rfl
theorem SU:gT Tryz.prog 182=some (4,1):=by kernel_rfl
theorem pt:Bd Tryz.prog 182=some (4,1,1):=by kernel_rfl
theorem Wl:lO Tryz.prog 184=some ([.slice none 0 0,.slice none 0 0],[(0,1),(1,1)]):=by kernel_rfl
theorem HW:bA Tryz.prog 184 0=some (0,none):=by kernel_rfl
theorem HX:bA Tryz.prog 184 1=some (1,none):=by kernel_rfl
theorem Wm:lO Tryz.prog 187=some ([.int .i64 0,.int .i64 0,.slice none 0 0,str [],.pointer none,.pointer none],[(0,1),(1,1),(2,1),(3,1),(4,1),(5,1)]):=by kernel_rfl
theorem HY:bA Tryz.prog 187 0=some (0,none):=by kernel_rfl
theorem HZ:bA Tryz.prog 187 1=some (1,none):=by kernel_rfl
theorem H0:bA Tryz.prog 187 2=some (2,none):=by kernel_rfl
theorem H2:bA Tryz.prog 187 3=some (3,none):=by kernel_rfl
theorem H3:bA Tryz.prog 187 4=some (4,none):=by kernel_rfl
theorem H4:bA Tryz.prog 187 5=some (5,none):=by kernel_rfl
theorem N9:dC Tryz.prog 196=8:=by kernel_rfl
theorem aEC:lC Tryz.prog 196=some (some 1):=by kernel_rfl
theorem Wn:lO Tryz.prog 196=some ([.int .i64 0],[(0,1)]):=by kernel_rfl
theorem H5:bA Tryz.prog 196 0=some (0,none):=by kernel_rfl
theorem Wo:lO Tryz.prog 200=some ([.slice none 0 0,.slice none 0 0,.map none,.bool false],[(0,2),(2,1),(3,1)]):=by kernel_rfl
theorem H6:bA Tryz.prog 200 0=some (0,(some 2)):=by kernel_rfl
theorem H7:bA Tryz.prog 200 1=some (2,none):=by kernel_rfl
theorem H8:bA Tryz.prog 200 2=some (3,none):=by kernel_rfl
theorem Na:dC Tryz.prog 208=9:=by kernel_rfl
theorem aED:lC Tryz.prog 208=some (some 2):=by kernel_rfl
theorem Wp:lO Tryz.prog 208=some ([.int .i64 0,.int .i64 0],[(0,1),(1,1)]):=by kernel_rfl
theorem H9:bA Tryz.prog 208 0=some (0,none):=by kernel_rfl
theorem Ha:bA Tryz.prog 208 1=some (1,none):=by kernel_rfl
theorem Nb:dC Tryz.prog 276=0:=by kernel_rfl
theorem WI:tF Tryz.prog 291=some (256,5,1):=by kernel_rfl
theorem WJ:tF Tryz.prog 294=some (16,293,2):=by kernel_rfl
theorem WK:tF Tryz.prog 300=some (24,5,1):=by kernel_rfl
theorem WL:tF Tryz.prog 305=some (20,244,1):=by kernel_rfl
theorem SX:gT Tryz.prog 306=none:=by kernel_rfl
theorem WM:tF Tryz.prog 306=some (65,5,1):=by kernel_rfl
theorem WN:tF Tryz.prog 307=some (32,5,1):=by kernel_rfl
theorem SY:gT Tryz.prog 308=none:=by kernel_rfl
theorem WO:tF Tryz.prog 308=some (64,5,1):=by kernel_rfl
theorem WQ:tF Tryz.prog 311=some (0,16,1):=by kernel_rfl
theorem mixed:Tryz.prog.follows .mixedOrders=true:=by kernel_rfl
attribute [push_cast] Tryz.underlying2 aM9 Tryz.underlying3 Xa aNa Tryz.underlying4 aNb Tryz.underlying5 Xb aNc aCa Tryz.underlying9 SZ Tryz.underlying21 aIS XZ Tryz.underlying23 aIT X0 Tryz.underlying24 aIU aBI Jz KA KB S0 S5 aIV S6 aIW X2 Tryz.underlying36 aIX X3 Tryz.underlying50 aIY aBJ KC KD X4 Tryz.underlying56 aIZ X5 Tryz.underlying69 aI0 aBK KF KG aBL KH S7 aI1 Tryz.underlying74 aI2 aI3 aI4 aBM KI KJ KK KL Tryz.underlying87 X6 Tryz.underlying88 Tryz.underlying94 S8 aI5 aBN KM aI6 X7 Tryz.underlying99 Wb Gx aEr Wc Gy Gz HA WE WG aEs SN Tryz.underlying124 N3 aEt SO Tryz.underlying125 aEu Wd HB HC aEv We HD HE HF Tryz.underlying133 SP WH aEw aEx Wf HG HH HI N4 SQ Tryz.underlying138 aEy SR Tryz.underlying139 N5 Tryz.underlying141 Wg Wh HJ HK HL Tryz.underlying150 N7 aEz SS Tryz.underlying156 Wi HM HN HO HP HQ aEA Wj HR HS HT Tryz.underlying168 Wk HU HV Tryz.underlying178 aEB SU Tryz.underlying182 Wl HW HX Wm HY HZ H0 H2 H3 H4 N9 aEC Wn H5 Wo H6 H7 H8 Na aED Wp H9 Ha Tryz.underlying232 Tryz.underlying235 Tryz.underlying244 Tryz.underlying258 Tryz.underlying262 Tryz.underlying272 Nb Tryz.underlying276 Tryz.underlying279 WI WJ Tryz.underlying297 WK WL SX WM WN SY WO WQ
end Go.Proofs.YtemjejfpadnljaaGreatDoor
