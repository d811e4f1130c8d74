/- Texts of this claim, merged: Open, Facts. -/
import Derived.Test.YtodeeahdhnjpkaaGreatDoorM1
import Derived.ProofKit
import Derived.Handy
import Derived.OpenShut
import Derived.LaidMore
import Derived.Deep.Strs
import Derived.Test.YtodeeahdhnjpkaaGreatDoorProg
set_option maxRecDepth 100000
set_option linter.unusedSimpArgs false
set_option linter.unusedVariables false
set_option maxHeartbeats 8000000
section
namespace Go.Vc
open Go.RowKit
end Go.Vc
end
section
namespace Go.Proofs.YtodeeahdhnjpkaaGreatDoor
open Go.Vc Go.Proofs
theorem aHC:lI Tryz.prog 3=some none:=by kernel_rfl
theorem Ru:dW Tryz.prog 4=6:=by kernel_rfl
theorem aHD:lI Tryz.prog 4=some none:=by kernel_rfl
theorem aHE:lI Tryz.prog 5=some none:=by kernel_rfl
theorem Rv:dW Tryz.prog 9=0:=by kernel_rfl
theorem aHF:lI Tryz.prog 9=some none:=by kernel_rfl
theorem Ww:gE Tryz.prog 9=none:=by kernel_rfl
theorem Mc:dW Tryz.prog 20=1:=by kernel_rfl
theorem aDs:lI Tryz.prog 22=some none:=by kernel_rfl
theorem Rk:gE Tryz.prog 22=some (74,3):=by kernel_rfl
theorem CI:zC Tryz.prog 22=some (74,3,32):=by kernel_rfl
theorem aDt:lI Tryz.prog 23=some none:=by kernel_rfl
theorem Rl:gE Tryz.prog 23=some (60,4):=by kernel_rfl
theorem mw:zC Tryz.prog 23=some (60,4,32):=by kernel_rfl
theorem aDu:lI Tryz.prog 25=some (some 3):=by kernel_rfl
theorem WW:nL Tryz.prog 25=some ([.slice none 0 0,.slice none 0 0,.bool false],[(0,1),(1,1),(2,1)]):=by kernel_rfl
theorem Eu:bS Tryz.prog 25 0=some (0,none):=by kernel_rfl
theorem Ev:bS Tryz.prog 25 1=some (1,none):=by kernel_rfl
theorem Ew:bS Tryz.prog 25 2=some (2,none):=by kernel_rfl
theorem Md:dW Tryz.prog 26=0:=by kernel_rfl
theorem aDv:lI Tryz.prog 26=some none:=by kernel_rfl
theorem Mf:dW Tryz.prog 28=9:=by kernel_rfl
theorem aDw:lI Tryz.prog 28=some (some 2):=by kernel_rfl
theorem WX:nL Tryz.prog 28=some ([.int .i64 0,.int .i64 0],[(0,1),(1,1)]):=by kernel_rfl
theorem Ey:bS Tryz.prog 28 0=some (0,none):=by kernel_rfl
theorem Ez:bS Tryz.prog 28 1=some (1,none):=by kernel_rfl
theorem Mg:dW Tryz.prog 32=1:=by kernel_rfl
theorem aDx:lI Tryz.prog 32=some none:=by kernel_rfl
theorem aDy:lI Tryz.prog 36=some none:=by kernel_rfl
theorem Mh:dW Tryz.prog 43=3:=by kernel_rfl
theorem aDz:lI Tryz.prog 43=some none:=by kernel_rfl
theorem Rm:gE Tryz.prog 43=some (104,2):=by kernel_rfl
theorem Rj:zC Tryz.prog 43=some (104,2,16):=by kernel_rfl
theorem aDA:lI Tryz.prog 44=some none:=by kernel_rfl
theorem Rn:gE Tryz.prog 44=some (104,2):=by kernel_rfl
theorem fQ:zC Tryz.prog 44=some (104,2,16):=by kernel_rfl
theorem aDB:lI Tryz.prog 48=some none:=by kernel_rfl
theorem Ro:gE Tryz.prog 48=some (108,3):=by kernel_rfl
theorem pQ:zC Tryz.prog 48=some (108,3,24):=by kernel_rfl
theorem Mi:dW Tryz.prog 50=3:=by kernel_rfl
theorem Rp:gE Tryz.prog 50=some (3,1):=by kernel_rfl
theorem bw:zC Tryz.prog 50=some (3,1,8):=by kernel_rfl
theorem aDC:lI Tryz.prog 58=some none:=by kernel_rfl
theorem aDD:lI Tryz.prog 60=some (some 4):=by kernel_rfl
theorem WY:nL Tryz.prog 60=some ([.int .i64 0,.bool false,.pointer none,.pointer none],[(0,1),(1,1),(2,1),(3,1)]):=by kernel_rfl
theorem FA:bS Tryz.prog 60 1=some (1,none):=by kernel_rfl
theorem FB:bS Tryz.prog 60 2=some (2,none):=by kernel_rfl
theorem FC:bS Tryz.prog 60 3=some (3,none):=by kernel_rfl
theorem aDE:lI Tryz.prog 63=some none:=by kernel_rfl
theorem Rq:gE Tryz.prog 63=some (71,3):=by kernel_rfl
theorem CJ:zC Tryz.prog 63=some (71,3,32):=by kernel_rfl
theorem WZ:nL Tryz.prog 68=some ([.slice none 0 0,.int .i64 0,.int .i64 0],[(0,1),(1,2)]):=by kernel_rfl
theorem FD:bS Tryz.prog 68 0=some (0,none):=by kernel_rfl
theorem FE:bS Tryz.prog 68 1=some (1,(some 2)):=by kernel_rfl
theorem aDF:lI Tryz.prog 71=some (some 3):=by kernel_rfl
theorem W0:nL Tryz.prog 71=some ([.int .i64 0,str [],.int .i64 0],[(0,1),(1,1),(2,1)]):=by kernel_rfl
theorem FF:bS Tryz.prog 71 0=some (0,none):=by kernel_rfl
theorem FG:bS Tryz.prog 71 1=some (1,none):=by kernel_rfl
theorem FH:bS Tryz.prog 71 2=some (2,none):=by kernel_rfl
theorem aDG:lI Tryz.prog 72=some none:=by kernel_rfl
theorem aDH:lI Tryz.prog 74=some (some 3):=by kernel_rfl
theorem W4:nL Tryz.prog 74=some ([str [],.int .i64 0,.pointer none],[(0,1),(1,1),(2,1)]):=by kernel_rfl
theorem FI:bS Tryz.prog 74 0=some (0,none):=by kernel_rfl
theorem FJ:bS Tryz.prog 74 1=some (1,none):=by kernel_rfl
theorem FK:bS Tryz.prog 74 2=some (2,none):=by kernel_rfl
theorem Mj:dW Tryz.prog 81=0:=by kernel_rfl
theorem aDI:lI Tryz.prog 81=some (some 1):=by kernel_rfl
theorem W5:nL Tryz.prog 81=some ([.nilIface],[(0,1)]):=by kernel_rfl
theorem FL:bS Tryz.prog 81 0=some (0,none):=by kernel_rfl
theorem aDJ:lI Tryz.prog 83=some none:=by kernel_rfl
theorem Rr:gE Tryz.prog 83=some (91,3):=by kernel_rfl
theorem CK:zC Tryz.prog 83=some (91,3,32):=by kernel_rfl
theorem W6:nL Tryz.prog 88=some ([.slice none 0 0],[(0,1)]):=by kernel_rfl
theorem FM:bS Tryz.prog 88 0=some (0,none):=by kernel_rfl
theorem aDK:lI Tryz.prog 91=some (some 3):=by kernel_rfl
theorem W7:nL Tryz.prog 91=some ([.int .i64 0,str [],.int .i64 0],[(0,1),(1,1),(2,1)]):=by kernel_rfl
theorem FN:bS Tryz.prog 91 0=some (0,none):=by kernel_rfl
theorem FO:bS Tryz.prog 91 1=some (1,none):=by kernel_rfl
theorem FP:bS Tryz.prog 91 2=some (2,none):=by kernel_rfl
theorem Mk:dW Tryz.prog 96=2:=by kernel_rfl
theorem W8:nL Tryz.prog 97=some ([.int .i64 0,.int .i64 0],[(0,1),(1,1)]):=by kernel_rfl
theorem FQ:bS Tryz.prog 97 0=some (0,none):=by kernel_rfl
theorem FR:bS Tryz.prog 97 1=some (1,none):=by kernel_rfl
theorem QN:pM Tryz.prog 101=some (2,58,1):=by kernel_rfl
theorem Yt:lI Tryz.prog 104=some (some 2):=by kernel_rfl
theorem Qo:nL Tryz.prog 104=some ([.int .i64 0,.int .i64 0],[(0,1),(1,1)]):=by kernel_rfl
theorem CM:bS Tryz.prog 104 0=some (0,none):=by kernel_rfl
theorem CN:bS Tryz.prog 104 1=some (1,none):=by kernel_rfl
theorem Yu:lI Tryz.prog 108=some (some 3):=by kernel_rfl
theorem Qp:nL Tryz.prog 108=some ([.int .i64 0,.int .i64 0,.int .i64 0],[(0,1),(1,1),(2,1)]):=by kernel_rfl
theorem CO:bS Tryz.prog 108 0=some (0,none):=by kernel_rfl
theorem CP:bS Tryz.prog 108 2=some (2,none):=by kernel_rfl
theorem M0:gE Tryz.prog 115=some (4,1):=by kernel_rfl
theorem iJ:zC Tryz.prog 115=some (4,1,1):=by kernel_rfl
theorem Qq:nL Tryz.prog 119=some ([.slice none 0 0,.map none,.bool false],[(0,1),(1,1),(2,1)]):=by kernel_rfl
theorem CQ:bS Tryz.prog 119 0=some (0,none):=by kernel_rfl
theorem CS:bS Tryz.prog 119 1=some (1,none):=by kernel_rfl
theorem CT:bS Tryz.prog 119 2=some (2,none):=by kernel_rfl
theorem Qr:nL Tryz.prog 126=some ([.int .i64 0,.int .i64 0,.slice none 0 0,str [],.pointer none,.pointer none],[(0,1),(1,1),(2,1),(3,1),(4,1),(5,1)]):=by kernel_rfl
theorem CU:bS Tryz.prog 126 0=some (0,none):=by kernel_rfl
theorem CV:bS Tryz.prog 126 1=some (1,none):=by kernel_rfl
theorem CW:bS Tryz.prog 126 2=some (2,none):=by kernel_rfl
theorem CX:bS Tryz.prog 126 3=some (3,none):=by kernel_rfl
theorem CY:bS Tryz.prog 126 4=some (4,none):=by kernel_rfl
theorem CZ:bS Tryz.prog 126 5=some (5,none):=by kernel_rfl
theorem Yv:lI Tryz.prog 127=some none:=by kernel_rfl
theorem M1:gE Tryz.prog 127=some (58,1):=by kernel_rfl
theorem dj:zC Tryz.prog 127=some (58,1,8):=by kernel_rfl
theorem Qs:nL Tryz.prog 129=some ([.int .i64 0,.pointer none,.slice none 0 0,.int .i64 0,.int .i64 0],[(0,1),(1,1),(2,1),(3,1),(4,1)]):=by kernel_rfl
theorem C0:bS Tryz.prog 129 0=some (0,none):=by kernel_rfl
theorem Ck:bS Tryz.prog 129 1=some (1,none):=by kernel_rfl
theorem Cl:bS Tryz.prog 129 2=some (2,none):=by kernel_rfl
theorem Cm:bS Tryz.prog 129 3=some (3,none):=by kernel_rfl
theorem Cn:bS Tryz.prog 129 4=some (4,none):=by kernel_rfl
theorem M3:gE Tryz.prog 139=none:=by kernel_rfl
theorem QO:pM Tryz.prog 139=some (5,3,1):=by kernel_rfl
theorem M4:gE Tryz.prog 142=some (5,1):=by kernel_rfl
theorem vz:zC Tryz.prog 142=some (5,1,1):=by kernel_rfl
theorem Ij:dW Tryz.prog 154=2:=by kernel_rfl
theorem M5:gE Tryz.prog 164=some (9,1):=by kernel_rfl
theorem wA:zC Tryz.prog 164=some (9,1,16):=by kernel_rfl
theorem Yw:lI Tryz.prog 178=some (some 3):=by kernel_rfl
theorem Yx:lI Tryz.prog 181=some none:=by kernel_rfl
theorem M6:gE Tryz.prog 187=some (43,1):=by kernel_rfl
theorem wB:zC Tryz.prog 187=some (43,1,24):=by kernel_rfl
theorem M7:gE Tryz.prog 192=some (44,1):=by kernel_rfl
theorem Wv:zC Tryz.prog 192=some (44,1,24):=by kernel_rfl
theorem QP:pM Tryz.prog 211=some (256,5,1):=by kernel_rfl
theorem QQ:pM Tryz.prog 215=some (256,4,1):=by kernel_rfl
theorem QR:pM Tryz.prog 216=some (256,4,1):=by kernel_rfl
theorem Ik:dW Tryz.prog 259=0:=by kernel_rfl
theorem QS:pM Tryz.prog 292=some (24,5,1):=by kernel_rfl
theorem QT:pM Tryz.prog 305=some (16,304,2):=by kernel_rfl
theorem QU:pM Tryz.prog 311=some (20,208,1):=by kernel_rfl
theorem M8:gE Tryz.prog 312=none:=by kernel_rfl
theorem QV:pM Tryz.prog 312=some (65,5,1):=by kernel_rfl
theorem QW:pM Tryz.prog 316=some (32,5,1):=by kernel_rfl
theorem M9:gE Tryz.prog 317=none:=by kernel_rfl
theorem QX:pM Tryz.prog 317=some (64,5,1):=by kernel_rfl
theorem QY:pM Tryz.prog 320=some (0,16,1):=by kernel_rfl
theorem mixed:Tryz.prog.follows .mixedOrders=true:=by kernel_rfl
attribute [push_cast] Tryz.underlying2 aHC Tryz.underlying3 Ru aHD Tryz.underlying4 aHE Tryz.underlying5 Rv aHF Ww Tryz.underlying9 Mc Tryz.underlying21 aDs Rk Tryz.underlying22 aDt Rl Tryz.underlying23 aDu WW Eu Ev Ew Md aDv Tryz.underlying26 Mf aDw WX Ey Ez Mg aDx aDy Mh aDz Rm Tryz.underlying43 aDA Rn Tryz.underlying44 aDB Ro Tryz.underlying48 Mi Rp Tryz.underlying50 aDC aDD WY FA FB FC aDE Rq Tryz.underlying63 WZ FD FE aDF W0 FF FG FH aDG aDH W4 FI FJ FK Tryz.underlying76 Mj aDI W5 FL aDJ Rr Tryz.underlying83 W6 FM aDK W7 FN FO FP Mk Tryz.underlying96 W8 FQ FR QN Yt Qo CM CN Yu Qp CO CP Tryz.underlying109 M0 Tryz.underlying115 Qq CQ CS CT Qr CU CV CW CX CY CZ Yv M1 Tryz.underlying127 Qs C0 Ck Cl Cm Cn M3 QO M4 Tryz.underlying142 Ij Tryz.underlying154 M5 Tryz.underlying164 Yw Yx M6 Tryz.underlying187 Tryz.underlying191 M7 Tryz.underlying192 Tryz.underlying198 Tryz.underlying206 Tryz.underlying208 QP Tryz.underlying213 QQ QR Tryz.underlying220 Tryz.underlying244 Tryz.underlying248 Tryz.underlying250 Tryz.underlying254 Ik Tryz.underlying259 Tryz.underlying262 Tryz.underlying272 Tryz.underlying274 Tryz.underlying275 Tryz.underlying278 QS Tryz.underlying296 Tryz.underlying301 Tryz.underlying302 QT Tryz.underlying306 Tryz.underlying307 QU M8 QV QW M9 QX QY
end Go.Proofs.YtodeeahdhnjpkaaGreatDoor
end
