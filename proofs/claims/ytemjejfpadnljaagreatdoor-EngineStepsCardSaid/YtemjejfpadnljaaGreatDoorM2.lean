/- Texts of this claim, merged: Facts. -/
import Derived.Test.YtemjejfpadnljaaGreatDoorM1
import Derived.Test.YtemjejfpadnljaaGreatDoorProg
set_option maxRecDepth 100000
set_option linter.unusedSimpArgs false
set_option linter.unusedVariables false
set_option maxHeartbeats 8000000
section
namespace Go.Proofs.YtemjejfpadnljaaGreatDoor
open Go.Vc Go.Proofs
theorem aKm:jw Tryz.prog 3=some none:=by kernel_rfl
theorem aKn:jw Tryz.prog 4=some none:=by kernel_rfl
theorem aKo:jw Tryz.prog 5=some none:=by kernel_rfl
theorem VL:cR Tryz.prog 9=0:=by kernel_rfl
theorem aKp:jw Tryz.prog 9=some none:=by kernel_rfl
theorem Zc:fw Tryz.prog 9=none:=by kernel_rfl
theorem QC:cR Tryz.prog 20=1:=by kernel_rfl
theorem aGh:jw Tryz.prog 23=some none:=by kernel_rfl
theorem Uz:fw Tryz.prog 23=some (137,3):=by kernel_rfl
theorem Uy:Bq Tryz.prog 23=some (137,3,32):=by kernel_rfl
theorem aGi:jw Tryz.prog 24=some none:=by kernel_rfl
theorem VA:fw Tryz.prog 24=some (84,4):=by kernel_rfl
theorem qD:Bq Tryz.prog 24=some (84,4,32):=by kernel_rfl
theorem aGj:jw Tryz.prog 26=some (some 3):=by kernel_rfl
theorem ZJ:kK Tryz.prog 26=some ([.slice none 0 0,.slice none 0 0,.bool false],[(0,1),(1,1),(2,1)]):=by kernel_rfl
theorem Hr:au Tryz.prog 26 0=some (0,none):=by kernel_rfl
theorem Hs:au Tryz.prog 26 1=some (1,none):=by kernel_rfl
theorem Ht:au Tryz.prog 26 2=some (2,none):=by kernel_rfl
theorem QD:cR Tryz.prog 29=2:=by kernel_rfl
theorem QE:cR Tryz.prog 34=1:=by kernel_rfl
theorem aGk:jw Tryz.prog 34=some none:=by kernel_rfl
theorem QF:cR Tryz.prog 36=3:=by kernel_rfl
theorem aGl:jw Tryz.prog 36=some none:=by kernel_rfl
theorem VC:fw Tryz.prog 36=some (3,1):=by kernel_rfl
theorem bm:Bq Tryz.prog 36=some (3,1,8):=by kernel_rfl
theorem VD:fw Tryz.prog 50=some (55,3):=by kernel_rfl
theorem Ew:Bq Tryz.prog 50=some (55,3,24):=by kernel_rfl
theorem aGm:jw Tryz.prog 55=some (some 3):=by kernel_rfl
theorem ZK:kK Tryz.prog 55=some ([.int .i64 0,.int .i64 0,.int .i64 0],[(0,1),(1,1),(2,1)]):=by kernel_rfl
theorem Hu:au Tryz.prog 55 0=some (0,none):=by kernel_rfl
theorem Hv:au Tryz.prog 55 1=some (1,none):=by kernel_rfl
theorem VE:fw Tryz.prog 56=some (9,1):=by kernel_rfl
theorem sU:Bq Tryz.prog 56=some (9,1,16):=by kernel_rfl
theorem aGn:jw Tryz.prog 69=some none:=by kernel_rfl
theorem VF:fw Tryz.prog 69=some (129,5):=by kernel_rfl
theorem vV:Bq Tryz.prog 69=some (129,5,104):=by kernel_rfl
theorem aGo:jw Tryz.prog 71=some (some 2):=by kernel_rfl
theorem ZL:kK Tryz.prog 71=some ([.slice none 0 0,.bool false],[(0,1),(1,1)]):=by kernel_rfl
theorem Hw:au Tryz.prog 71 0=some (0,none):=by kernel_rfl
theorem Hx:au Tryz.prog 71 1=some (1,none):=by kernel_rfl
theorem ZM:kK Tryz.prog 73=some ([.slice none 0 0,.bool false,str [],.slice none 0 0],[(0,2),(2,1),(3,1)]):=by kernel_rfl
theorem Hy:au Tryz.prog 73 0=some (0,(some 2)):=by kernel_rfl
theorem Hz:au Tryz.prog 73 1=some (2,none):=by kernel_rfl
theorem IA:au Tryz.prog 73 2=some (3,none):=by kernel_rfl
theorem QG:cR Tryz.prog 74=0:=by kernel_rfl
theorem aGp:jw Tryz.prog 74=some none:=by kernel_rfl
theorem aGq:jw Tryz.prog 78=some none:=by kernel_rfl
theorem aGr:jw Tryz.prog 82=some none:=by kernel_rfl
theorem aGs:jw Tryz.prog 84=some (some 4):=by kernel_rfl
theorem ZN:kK Tryz.prog 84=some ([.int .i64 0,.bool false,.pointer none,.pointer none],[(0,1),(1,1),(2,1),(3,1)]):=by kernel_rfl
theorem IB:au Tryz.prog 84 0=some (0,none):=by kernel_rfl
theorem IC:au Tryz.prog 84 1=some (1,none):=by kernel_rfl
theorem ID:au Tryz.prog 84 2=some (2,none):=by kernel_rfl
theorem IE:au Tryz.prog 84 3=some (3,none):=by kernel_rfl
theorem VG:fw Tryz.prog 88=some (5,1):=by kernel_rfl
theorem nT:Bq Tryz.prog 88=some (5,1,1):=by kernel_rfl
theorem QH:cR Tryz.prog 97=0:=by kernel_rfl
theorem aGt:jw Tryz.prog 97=some (some 1):=by kernel_rfl
theorem ZO:kK Tryz.prog 97=some ([.nilIface],[(0,1)]):=by kernel_rfl
theorem IG:au Tryz.prog 97 0=some (0,none):=by kernel_rfl
theorem aGu:jw Tryz.prog 99=some none:=by kernel_rfl
theorem VH:fw Tryz.prog 99=some (107,3):=by kernel_rfl
theorem Ex:Bq Tryz.prog 99=some (107,3,32):=by kernel_rfl
theorem UL:kK Tryz.prog 104=some ([.slice none 0 0],[(0,1)]):=by kernel_rfl
theorem FC:au Tryz.prog 104 0=some (0,none):=by kernel_rfl
theorem aB1:jw Tryz.prog 107=some (some 3):=by kernel_rfl
theorem UM:kK Tryz.prog 107=some ([.int .i64 0,str [],.int .i64 0],[(0,1),(1,1),(2,1)]):=by kernel_rfl
theorem FD:au Tryz.prog 107 0=some (0,none):=by kernel_rfl
theorem FE:au Tryz.prog 107 1=some (1,none):=by kernel_rfl
theorem FF:au Tryz.prog 107 2=some (2,none):=by kernel_rfl
theorem Tf:r5 Tryz.prog 116=some (256,4,1):=by kernel_rfl
theorem Tg:r5 Tryz.prog 117=some (256,4,1):=by kernel_rfl
theorem aB2:jw Tryz.prog 124=some none:=by kernel_rfl
theorem Po:fw Tryz.prog 124=some (139,1):=by kernel_rfl
theorem nA:Bq Tryz.prog 124=some (139,1,24):=by kernel_rfl
theorem LR:cR Tryz.prog 125=3:=by kernel_rfl
theorem aB3:jw Tryz.prog 125=some none:=by kernel_rfl
theorem Pp:fw Tryz.prog 125=some (164,3):=by kernel_rfl
theorem ee:Bq Tryz.prog 125=some (164,3,24):=by kernel_rfl
theorem aB4:jw Tryz.prog 127=some (some 2):=by kernel_rfl
theorem UN:kK Tryz.prog 127=some ([.slice none 0 0,.slice none 0 0],[(0,1),(1,1)]):=by kernel_rfl
theorem FG:au Tryz.prog 127 0=some (0,none):=by kernel_rfl
theorem FH:au Tryz.prog 127 1=some (1,none):=by kernel_rfl
theorem aB5:jw Tryz.prog 129=some (some 5):=by kernel_rfl
theorem UO:kK Tryz.prog 129=some ([.bool false,.slice none 0 0,.slice none 0 0,.slice none 0 0,.slice none 0 0],[(0,1),(1,2),(3,2)]):=by kernel_rfl
theorem FI:au Tryz.prog 129 0=some (0,none):=by kernel_rfl
theorem FJ:au Tryz.prog 129 1=some (1,(some 2)):=by kernel_rfl
theorem FK:au Tryz.prog 129 2=some (3,(some 2)):=by kernel_rfl
theorem Pq:fw Tryz.prog 134=none:=by kernel_rfl
theorem Ti:r5 Tryz.prog 134=some (5,3,1):=by kernel_rfl
theorem aB6:jw Tryz.prog 135=some none:=by kernel_rfl
theorem aB7:jw Tryz.prog 137=some (some 3):=by kernel_rfl
theorem UP:kK Tryz.prog 137=some ([str [],.int .i64 0,.pointer none],[(0,1),(1,1),(2,1)]):=by kernel_rfl
theorem FL:au Tryz.prog 137 0=some (0,none):=by kernel_rfl
theorem FM:au Tryz.prog 137 1=some (1,none):=by kernel_rfl
theorem FN:au Tryz.prog 137 2=some (2,none):=by kernel_rfl
theorem LU:cR Tryz.prog 138=3:=by kernel_rfl
theorem Ps:fw Tryz.prog 138=some (208,2):=by kernel_rfl
theorem N1:Bq Tryz.prog 138=some (208,2,16):=by kernel_rfl
theorem aB8:jw Tryz.prog 139=some none:=by kernel_rfl
theorem Pv:fw Tryz.prog 139=some (208,2):=by kernel_rfl
theorem fI:Bq Tryz.prog 139=some (208,2,16):=by kernel_rfl
theorem LV:cR Tryz.prog 141=2:=by kernel_rfl
theorem UQ:kK Tryz.prog 143=some ([.int .i64 0,.int .i64 0],[(0,1),(1,1)]):=by kernel_rfl
theorem LW:cR Tryz.prog 156=3:=by kernel_rfl
theorem aB9:jw Tryz.prog 156=some none:=by kernel_rfl
theorem Pw:fw Tryz.prog 156=some (82,1):=by kernel_rfl
theorem fb:Bq Tryz.prog 156=some (82,1,8):=by kernel_rfl
theorem UR:kK Tryz.prog 158=some ([.int .i64 0,.pointer none,.slice none 0 0,.int .i64 0,.int .i64 0],[(0,1),(1,1),(2,1),(3,1),(4,1)]):=by kernel_rfl
theorem FO:au Tryz.prog 158 0=some (0,none):=by kernel_rfl
theorem FP:au Tryz.prog 158 1=some (1,none):=by kernel_rfl
theorem FQ:au Tryz.prog 158 2=some (2,none):=by kernel_rfl
theorem FR:au Tryz.prog 158 3=some (3,none):=by kernel_rfl
theorem FT:au Tryz.prog 158 4=some (4,none):=by kernel_rfl
theorem aCa:jw Tryz.prog 164=some (some 3):=by kernel_rfl
theorem US:kK Tryz.prog 164=some ([.int .i64 0,.int .i64 0,.int .i64 0],[(0,1),(1,1),(2,1)]):=by kernel_rfl
theorem FU:au Tryz.prog 164 0=some (0,none):=by kernel_rfl
theorem FV:au Tryz.prog 164 1=some (1,none):=by kernel_rfl
theorem FW:au Tryz.prog 164 2=some (2,none):=by kernel_rfl
theorem UT:kK Tryz.prog 172=some ([str [],.bool false],[(0,1),(1,1)]):=by kernel_rfl
theorem FX:au Tryz.prog 172 0=some (0,none):=by kernel_rfl
theorem FY:au Tryz.prog 172 1=some (1,none):=by kernel_rfl
theorem aCb:jw Tryz.prog 182=some none:=by kernel_rfl
theorem Py:fw Tryz.prog 182=some (4,1):=by kernel_rfl
theorem o7:Bq Tryz.prog 182=some (4,1,1):=by kernel_rfl
theorem UU:kK Tryz.prog 184=some ([.slice none 0 0,.slice none 0 0],[(0,1),(1,1)]):=by kernel_rfl
theorem FZ:au Tryz.prog 184 0=some (0,none):=by kernel_rfl
theorem F0:au Tryz.prog 184 1=some (1,none):=by kernel_rfl
theorem UW:kK Tryz.prog 187=some ([.int .i64 0,.int .i64 0,.slice none 0 0,str [],.pointer none,.pointer none],[(0,1),(1,1),(2,1),(3,1),(4,1),(5,1)]):=by kernel_rfl
theorem F1:au Tryz.prog 187 0=some (0,none):=by kernel_rfl
theorem F7:au Tryz.prog 187 1=some (1,none):=by kernel_rfl
theorem F8:au Tryz.prog 187 2=some (2,none):=by kernel_rfl
theorem F9:au Tryz.prog 187 3=some (3,none):=by kernel_rfl
theorem Fa:au Tryz.prog 187 4=some (4,none):=by kernel_rfl
theorem Fb:au Tryz.prog 187 5=some (5,none):=by kernel_rfl
theorem LX:cR Tryz.prog 196=8:=by kernel_rfl
theorem aCc:jw Tryz.prog 196=some (some 1):=by kernel_rfl
theorem UX:kK Tryz.prog 196=some ([.int .i64 0],[(0,1)]):=by kernel_rfl
theorem Fc:au Tryz.prog 196 0=some (0,none):=by kernel_rfl
theorem UY:kK Tryz.prog 200=some ([.slice none 0 0,.slice none 0 0,.map none,.bool false],[(0,2),(2,1),(3,1)]):=by kernel_rfl
theorem Fe:au Tryz.prog 200 0=some (0,(some 2)):=by kernel_rfl
theorem Ff:au Tryz.prog 200 1=some (2,none):=by kernel_rfl
theorem Fg:au Tryz.prog 200 2=some (3,none):=by kernel_rfl
theorem LY:cR Tryz.prog 208=9:=by kernel_rfl
theorem aCd:jw Tryz.prog 208=some (some 2):=by kernel_rfl
theorem UZ:kK Tryz.prog 208=some ([.int .i64 0,.int .i64 0],[(0,1),(1,1)]):=by kernel_rfl
theorem Fh:au Tryz.prog 208 0=some (0,none):=by kernel_rfl
theorem Fi:au Tryz.prog 208 1=some (1,none):=by kernel_rfl
theorem LZ:cR Tryz.prog 276=0:=by kernel_rfl
theorem Tj:r5 Tryz.prog 291=some (256,5,1):=by kernel_rfl
theorem Tl:r5 Tryz.prog 294=some (16,293,2):=by kernel_rfl
theorem Tm:r5 Tryz.prog 300=some (24,5,1):=by kernel_rfl
theorem Tn:r5 Tryz.prog 305=some (20,244,1):=by kernel_rfl
theorem QA:fw Tryz.prog 306=none:=by kernel_rfl
theorem To:r5 Tryz.prog 306=some (65,5,1):=by kernel_rfl
theorem Tp:r5 Tryz.prog 307=some (32,5,1):=by kernel_rfl
theorem QB:fw Tryz.prog 308=none:=by kernel_rfl
theorem Tq:r5 Tryz.prog 308=some (64,5,1):=by kernel_rfl
theorem Tr:r5 Tryz.prog 311=some (0,16,1):=by kernel_rfl
theorem mixed:Tryz.prog.follows .mixedOrders=true:=by kernel_rfl
attribute [push_cast] Tryz.underlying2 aKm Tryz.underlying3 aKn Tryz.underlying4 aKo Tryz.underlying5 VL aKp Zc Tryz.underlying9 QC Tryz.underlying21 aGh Uz Tryz.underlying23 aGi VA Tryz.underlying24 aGj ZJ Hr Hs Ht QD QE aGk QF aGl VC Tryz.underlying36 VD Tryz.underlying50 aGm ZK Hu Hv VE Tryz.underlying56 aGn VF Tryz.underlying69 aGo ZL Hw Hx ZM Hy Hz IA QG aGp Tryz.underlying74 aGq aGr aGs ZN IB IC ID IE Tryz.underlying87 VG Tryz.underlying88 Tryz.underlying94 QH aGt ZO IG aGu VH Tryz.underlying99 UL FC aB1 UM FD FE FF Tf Tg aB2 Po Tryz.underlying124 LR aB3 Pp Tryz.underlying125 aB4 UN FG FH aB5 UO FI FJ FK Tryz.underlying133 Pq Ti aB6 aB7 UP FL FM FN LU Ps Tryz.underlying138 aB8 Pv Tryz.underlying139 LV Tryz.underlying141 UQ Tryz.underlying150 LW aB9 Pw Tryz.underlying156 UR FO FP FQ FR FT aCa US FU FV FW Tryz.underlying168 UT FX FY Tryz.underlying178 aCb Py Tryz.underlying182 UU FZ F0 UW F1 F7 F8 F9 Fa Fb LX aCc UX Fc UY Fe Ff Fg LY aCd UZ Fh Fi Tryz.underlying232 Tryz.underlying235 Tryz.underlying244 Tryz.underlying258 Tryz.underlying262 Tryz.underlying272 LZ Tryz.underlying276 Tryz.underlying279 Tj Tl Tryz.underlying297 Tm Tn QA To Tp QB Tq Tr
end Go.Proofs.YtemjejfpadnljaaGreatDoor
end
