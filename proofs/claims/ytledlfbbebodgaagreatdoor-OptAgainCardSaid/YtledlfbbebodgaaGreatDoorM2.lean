/- Texts of this claim, merged: Facts. -/
import Derived.Test.YtledlfbbebodgaaGreatDoorM1
import Derived.Test.YtledlfbbebodgaaGreatDoorProg
set_option maxRecDepth 100000
set_option linter.unusedSimpArgs false
set_option linter.unusedVariables false
set_option maxHeartbeats 8000000
section
namespace Go.Proofs.YtledlfbbebodgaaGreatDoor
open Go.Vc Go.Proofs
theorem aKi:kG Tryz.prog 3=some none:=by kernel_rfl
theorem aKj:kG Tryz.prog 4=some none:=by kernel_rfl
theorem aKk:kG Tryz.prog 5=some none:=by kernel_rfl
theorem Uw:cz Tryz.prog 9=0:=by kernel_rfl
theorem aKl:kG Tryz.prog 9=some none:=by kernel_rfl
theorem Zd:gM Tryz.prog 9=none:=by kernel_rfl
theorem PO:cz Tryz.prog 20=1:=by kernel_rfl
theorem aGe:kG Tryz.prog 23=some none:=by kernel_rfl
theorem Uj:gM Tryz.prog 23=some (90,3):=by kernel_rfl
theorem Uh:Ci Tryz.prog 23=some (90,3,32):=by kernel_rfl
theorem aGf:kG Tryz.prog 24=some none:=by kernel_rfl
theorem Uk:gM Tryz.prog 24=some (50,4):=by kernel_rfl
theorem qC:Ci Tryz.prog 24=some (50,4,32):=by kernel_rfl
theorem aGg:kG Tryz.prog 26=some (some 3):=by kernel_rfl
theorem ZI:lT Tryz.prog 26=some ([.slice none 0 0,.slice none 0 0,.bool false],[(0,1),(1,1),(2,1)]):=by kernel_rfl
theorem Hp:bB Tryz.prog 26 0=some (0,none):=by kernel_rfl
theorem Hq:bB Tryz.prog 26 1=some (1,none):=by kernel_rfl
theorem Hr:bB Tryz.prog 26 2=some (2,none):=by kernel_rfl
theorem aGh:kG Tryz.prog 29=some none:=by kernel_rfl
theorem PQ:cz Tryz.prog 31=1:=by kernel_rfl
theorem aGi:kG Tryz.prog 31=some none:=by kernel_rfl
theorem aGj:kG Tryz.prog 35=some none:=by kernel_rfl
theorem aGk:kG Tryz.prog 36=some none:=by kernel_rfl
theorem PR:cz Tryz.prog 37=3:=by kernel_rfl
theorem aGl:kG Tryz.prog 37=some none:=by kernel_rfl
theorem Ul:gM Tryz.prog 37=some (35,1):=by kernel_rfl
theorem iM:Ci Tryz.prog 37=some (35,1,8):=by kernel_rfl
theorem ZJ:lT Tryz.prog 39=some ([.int .i64 0,.pointer none,.slice none 0 0,.int .i64 0,.int .i64 0],[(0,1),(1,1),(2,1),(3,1),(4,1)]):=by kernel_rfl
theorem Hs:bB Tryz.prog 39 0=some (0,none):=by kernel_rfl
theorem Ht:bB Tryz.prog 39 1=some (1,none):=by kernel_rfl
theorem Hu:bB Tryz.prog 39 2=some (2,none):=by kernel_rfl
theorem Hv:bB Tryz.prog 39 3=some (3,none):=by kernel_rfl
theorem Hw:bB Tryz.prog 39 4=some (4,none):=by kernel_rfl
theorem PT:cz Tryz.prog 40=3:=by kernel_rfl
theorem Um:gM Tryz.prog 40=some (46,2):=by kernel_rfl
theorem Ui:Ci Tryz.prog 40=some (46,2,16):=by kernel_rfl
theorem aGm:kG Tryz.prog 41=some none:=by kernel_rfl
theorem Un:gM Tryz.prog 41=some (46,2):=by kernel_rfl
theorem ir:Ci Tryz.prog 41=some (46,2,16):=by kernel_rfl
theorem PU:cz Tryz.prog 46=9:=by kernel_rfl
theorem aGn:kG Tryz.prog 46=some (some 2):=by kernel_rfl
theorem ZK:lT Tryz.prog 46=some ([.int .i64 0,.int .i64 0],[(0,1),(1,1)]):=by kernel_rfl
theorem Hx:bB Tryz.prog 46 0=some (0,none):=by kernel_rfl
theorem Hy:bB Tryz.prog 46 1=some (1,none):=by kernel_rfl
theorem ZL:lT Tryz.prog 48=some ([.int .i64 0,.int .i64 0,.slice none 0 0,str [],.pointer none,.pointer none],[(0,1),(1,1),(2,1),(3,1),(4,1),(5,1)]):=by kernel_rfl
theorem Hz:bB Tryz.prog 48 0=some (0,none):=by kernel_rfl
theorem IA:bB Tryz.prog 48 1=some (1,none):=by kernel_rfl
theorem IB:bB Tryz.prog 48 2=some (2,none):=by kernel_rfl
theorem ID:bB Tryz.prog 48 3=some (3,none):=by kernel_rfl
theorem IE:bB Tryz.prog 48 4=some (4,none):=by kernel_rfl
theorem IG:bB Tryz.prog 48 5=some (5,none):=by kernel_rfl
theorem aGo:kG Tryz.prog 50=some (some 4):=by kernel_rfl
theorem ZM:lT Tryz.prog 50=some ([.int .i64 0,.bool false,.pointer none,.pointer none],[(0,1),(1,1),(2,1),(3,1)]):=by kernel_rfl
theorem IH:bB Tryz.prog 50 0=some (0,none):=by kernel_rfl
theorem II:bB Tryz.prog 50 1=some (1,none):=by kernel_rfl
theorem IJ:bB Tryz.prog 50 2=some (2,none):=by kernel_rfl
theorem IK:bB Tryz.prog 50 3=some (3,none):=by kernel_rfl
theorem aGp:kG Tryz.prog 51=some none:=by kernel_rfl
theorem Uo:gM Tryz.prog 51=some (100,3):=by kernel_rfl
theorem FH:Ci Tryz.prog 51=some (100,3,24):=by kernel_rfl
theorem PW:cz Tryz.prog 53=3:=by kernel_rfl
theorem aGq:kG Tryz.prog 53=some none:=by kernel_rfl
theorem Up:gM Tryz.prog 53=some (3,1):=by kernel_rfl
theorem bA:Ci Tryz.prog 53=some (3,1,8):=by kernel_rfl
theorem aGr:kG Tryz.prog 61=some none:=by kernel_rfl
theorem Uq:gM Tryz.prog 61=some (4,1):=by kernel_rfl
theorem sW:Ci Tryz.prog 61=some (4,1,1):=by kernel_rfl
theorem aGs:kG Tryz.prog 67=some none:=by kernel_rfl
theorem Ur:gM Tryz.prog 67=some (41,1):=by kernel_rfl
theorem vW:Ci Tryz.prog 67=some (41,1,24):=by kernel_rfl
theorem PX:cz Tryz.prog 68=3:=by kernel_rfl
theorem aGt:kG Tryz.prog 68=some none:=by kernel_rfl
theorem Us:gM Tryz.prog 68=some (109,3):=by kernel_rfl
theorem gj:Ci Tryz.prog 68=some (109,3,24):=by kernel_rfl
theorem aGu:kG Tryz.prog 70=some (some 2):=by kernel_rfl
theorem ZN:lT Tryz.prog 70=some ([.slice none 0 0,.slice none 0 0],[(0,1),(1,1)]):=by kernel_rfl
theorem IL:bB Tryz.prog 70 0=some (0,none):=by kernel_rfl
theorem IM:bB Tryz.prog 70 1=some (1,none):=by kernel_rfl
theorem aGv:kG Tryz.prog 77=some none:=by kernel_rfl
theorem Ut:gM Tryz.prog 77=some (139,5):=by kernel_rfl
theorem FI:Ci Tryz.prog 77=some (139,5,104):=by kernel_rfl
theorem aGw:kG Tryz.prog 79=some (some 2):=by kernel_rfl
theorem ZO:lT Tryz.prog 79=some ([.slice none 0 0,.bool false],[(0,1),(1,1)]):=by kernel_rfl
theorem IP:bB Tryz.prog 79 0=some (0,none):=by kernel_rfl
theorem IQ:bB Tryz.prog 79 1=some (1,none):=by kernel_rfl
theorem PY:cz Tryz.prog 83=0:=by kernel_rfl
theorem aGx:kG Tryz.prog 83=some none:=by kernel_rfl
theorem aGy:kG Tryz.prog 90=some (some 3):=by kernel_rfl
theorem ZP:lT Tryz.prog 90=some ([str [],.int .i64 0,.pointer none],[(0,1),(1,1),(2,1)]):=by kernel_rfl
theorem IS:bB Tryz.prog 90 0=some (0,none):=by kernel_rfl
theorem IT:bB Tryz.prog 90 1=some (1,none):=by kernel_rfl
theorem IU:bB Tryz.prog 90 2=some (2,none):=by kernel_rfl
theorem PZ:cz Tryz.prog 92=2:=by kernel_rfl
theorem ZQ:lT Tryz.prog 94=some ([.int .i64 0,.int .i64 0],[(0,1),(1,1)]):=by kernel_rfl
theorem UA:lT Tryz.prog 100=some ([.int .i64 0,.int .i64 0,.int .i64 0],[(0,1),(1,1),(2,1)]):=by kernel_rfl
theorem FK:bB Tryz.prog 100 0=some (0,none):=by kernel_rfl
theorem UB:lT Tryz.prog 106=some ([.slice none 0 0,.map none,.bool false],[(0,1),(1,1),(2,1)]):=by kernel_rfl
theorem FL:bB Tryz.prog 106 0=some (0,none):=by kernel_rfl
theorem FM:bB Tryz.prog 106 1=some (1,none):=by kernel_rfl
theorem FN:bB Tryz.prog 106 2=some (2,none):=by kernel_rfl
theorem aBV:kG Tryz.prog 109=some (some 3):=by kernel_rfl
theorem UC:lT Tryz.prog 109=some ([.int .i64 0,.int .i64 0,.int .i64 0],[(0,1),(1,1),(2,1)]):=by kernel_rfl
theorem FO:bB Tryz.prog 109 0=some (0,none):=by kernel_rfl
theorem FP:bB Tryz.prog 109 1=some (1,none):=by kernel_rfl
theorem FQ:bB Tryz.prog 109 2=some (2,none):=by kernel_rfl
theorem LW:cz Tryz.prog 111=8:=by kernel_rfl
theorem aBW:kG Tryz.prog 111=some (some 1):=by kernel_rfl
theorem UD:lT Tryz.prog 111=some ([.int .i64 0],[(0,1)]):=by kernel_rfl
theorem FR:bB Tryz.prog 111 0=some (0,none):=by kernel_rfl
theorem UE:lT Tryz.prog 115=some ([.slice none 0 0,.slice none 0 0,.map none,.bool false],[(0,2),(2,1),(3,1)]):=by kernel_rfl
theorem FT:bB Tryz.prog 115 0=some (0,(some 2)):=by kernel_rfl
theorem FU:bB Tryz.prog 115 1=some (2,none):=by kernel_rfl
theorem FV:bB Tryz.prog 115 2=some (3,none):=by kernel_rfl
theorem UF:lT Tryz.prog 122=some ([.slice none 0 0,.slice none 0 0],[(0,1),(1,1)]):=by kernel_rfl
theorem FW:bB Tryz.prog 122 0=some (0,none):=by kernel_rfl
theorem FX:bB Tryz.prog 122 1=some (1,none):=by kernel_rfl
theorem LX:cz Tryz.prog 126=0:=by kernel_rfl
theorem aBX:kG Tryz.prog 126=some (some 1):=by kernel_rfl
theorem UG:lT Tryz.prog 126=some ([.nilIface],[(0,1)]):=by kernel_rfl
theorem FY:bB Tryz.prog 126 0=some (0,none):=by kernel_rfl
theorem aBY:kG Tryz.prog 128=some none:=by kernel_rfl
theorem PJ:gM Tryz.prog 128=some (136,3):=by kernel_rfl
theorem yf:Ci Tryz.prog 128=some (136,3,32):=by kernel_rfl
theorem UH:lT Tryz.prog 133=some ([.slice none 0 0],[(0,1)]):=by kernel_rfl
theorem FZ:bB Tryz.prog 133 0=some (0,none):=by kernel_rfl
theorem aBZ:kG Tryz.prog 136=some (some 3):=by kernel_rfl
theorem UI:lT Tryz.prog 136=some ([.int .i64 0,str [],.int .i64 0],[(0,1),(1,1),(2,1)]):=by kernel_rfl
theorem F0:bB Tryz.prog 136 0=some (0,none):=by kernel_rfl
theorem F1:bB Tryz.prog 136 1=some (1,none):=by kernel_rfl
theorem F7:bB Tryz.prog 136 2=some (2,none):=by kernel_rfl
theorem aB0:kG Tryz.prog 139=some (some 5):=by kernel_rfl
theorem UJ:lT Tryz.prog 139=some ([.bool false,.slice none 0 0,.slice none 0 0,.slice none 0 0,.slice none 0 0],[(0,1),(1,2),(3,2)]):=by kernel_rfl
theorem F9:bB Tryz.prog 139 0=some (0,none):=by kernel_rfl
theorem Fa:bB Tryz.prog 139 1=some (1,(some 2)):=by kernel_rfl
theorem Fb:bB Tryz.prog 139 2=some (3,(some 2)):=by kernel_rfl
theorem PK:gM Tryz.prog 151=none:=by kernel_rfl
theorem T3:rf Tryz.prog 151=some (5,3,1):=by kernel_rfl
theorem T4:rf Tryz.prog 159=some (256,4,1):=by kernel_rfl
theorem T5:rf Tryz.prog 160=some (256,4,1):=by kernel_rfl
theorem yg:Ci Tryz.prog 192=some (9,1,16):=by kernel_rfl
theorem PL:gM Tryz.prog 229=some (5,1):=by kernel_rfl
theorem T6:rf Tryz.prog 270=some (24,5,1):=by kernel_rfl
theorem T7:rf Tryz.prog 283=some (20,246,1):=by kernel_rfl
theorem PM:gM Tryz.prog 284=none:=by kernel_rfl
theorem T8:rf Tryz.prog 284=some (65,5,1):=by kernel_rfl
theorem LY:cz Tryz.prog 288=0:=by kernel_rfl
theorem T9:rf Tryz.prog 299=some (32,5,1):=by kernel_rfl
theorem PN:gM Tryz.prog 300=none:=by kernel_rfl
theorem Tc:rf Tryz.prog 300=some (64,5,1):=by kernel_rfl
theorem Td:rf Tryz.prog 301=some (256,5,1):=by kernel_rfl
theorem Te:rf Tryz.prog 304=some (16,303,2):=by kernel_rfl
theorem Tf:rf Tryz.prog 312=some (0,16,1):=by kernel_rfl
theorem mixed:Tryz.prog.follows .mixedOrders=true:=by kernel_rfl
attribute [push_cast] Tryz.underlying2 aKi Tryz.underlying3 aKj Tryz.underlying4 aKk Tryz.underlying5 Uw aKl Zd Tryz.underlying9 PO Tryz.underlying21 aGe Uj Tryz.underlying23 aGf Uk Tryz.underlying24 aGg ZI Hp Hq Hr aGh PQ aGi aGj aGk PR aGl Ul Tryz.underlying37 ZJ Hs Ht Hu Hv Hw PT Um Tryz.underlying40 aGm Un Tryz.underlying41 PU aGn ZK Hx Hy ZL Hz IA IB ID IE IG aGo ZM IH II IJ IK aGp Uo Tryz.underlying51 PW aGq Up Tryz.underlying53 aGr Uq Tryz.underlying61 aGs Ur Tryz.underlying67 PX aGt Us Tryz.underlying68 aGu ZN IL IM aGv Ut Tryz.underlying77 aGw ZO IP IQ PY aGx Tryz.underlying83 aGy ZP IS IT IU PZ Tryz.underlying92 ZQ UA FK Tryz.underlying103 UB FL FM FN aBV UC FO FP FQ LW aBW UD FR UE FT FU FV UF FW FX LX aBX UG FY aBY PJ Tryz.underlying128 UH FZ aBZ UI F0 F1 F7 aB0 UJ F9 Fa Fb PK T3 T4 T5 Tryz.underlying174 Tryz.underlying192 Tryz.underlying197 Tryz.underlying207 Tryz.underlying228 PL Tryz.underlying229 Tryz.underlying236 Tryz.underlying244 Tryz.underlying246 Tryz.underlying248 Tryz.underlying254 Tryz.underlying258 T6 Tryz.underlying278 T7 PM T8 LY Tryz.underlying288 Tryz.underlying291 T9 PN Tc Td Te Tryz.underlying307 Tf
end Go.Proofs.YtledlfbbebodgaaGreatDoor
end
