/- Texts of this claim, merged: Facts. -/
import Derived.Test.YtemjejfpadnljaaGreatDoorM1
import Derived.Test.YtemjejfpadnljaaGreatDoorProg
set_option maxRecDepth 100000
set_option linter.unusedSimpArgs false
set_option linter.unusedVariables false
set_option maxHeartbeats 8000000
namespace Go.Proofs.YtemjejfpadnljaaGreatDoor
open Go.Vc Go.Proofs
theorem aK5:jr Tryz.prog 3=some none:=by kernel_rfl
theorem Vw:cR Tryz.prog 4=6:=by kernel_rfl
theorem aK6:jr Tryz.prog 4=some none:=by kernel_rfl
theorem aK7:jr Tryz.prog 5=some none:=by kernel_rfl
theorem Vx:cR Tryz.prog 9=0:=by kernel_rfl
theorem aK8:jr Tryz.prog 9=some none:=by kernel_rfl
theorem aAp:fk Tryz.prog 9=none:=by kernel_rfl
theorem Q7:cR Tryz.prog 20=1:=by kernel_rfl
theorem aGU:jr Tryz.prog 23=some none:=by kernel_rfl
theorem Vj:fk Tryz.prog 23=some (137,3):=by kernel_rfl
theorem Vi:CI Tryz.prog 23=some (137,3,32):=by kernel_rfl
theorem aGV:jr Tryz.prog 24=some none:=by kernel_rfl
theorem Vk:fk Tryz.prog 24=some (84,4):=by kernel_rfl
theorem qL:CI Tryz.prog 24=some (84,4,32):=by kernel_rfl
theorem aGW:jr Tryz.prog 26=some (some 3):=by kernel_rfl
theorem Zk:kN Tryz.prog 26=some ([.slice none 0 0,.slice none 0 0,.bool false],[(0,1),(1,1),(2,1)]):=by kernel_rfl
theorem IK:au Tryz.prog 26 0=some (0,none):=by kernel_rfl
theorem IL:au Tryz.prog 26 1=some (1,none):=by kernel_rfl
theorem IM:au Tryz.prog 26 2=some (2,none):=by kernel_rfl
theorem Q8:cR Tryz.prog 29=2:=by kernel_rfl
theorem Q9:cR Tryz.prog 34=1:=by kernel_rfl
theorem aGX:jr Tryz.prog 34=some none:=by kernel_rfl
theorem Qa:cR Tryz.prog 36=3:=by kernel_rfl
theorem aGY:jr Tryz.prog 36=some none:=by kernel_rfl
theorem Vm:fk Tryz.prog 36=some (3,1):=by kernel_rfl
theorem bo:CI Tryz.prog 36=some (3,1,8):=by kernel_rfl
theorem Vn:fk Tryz.prog 41=some (43,3):=by kernel_rfl
theorem aGZ:jr Tryz.prog 43=some (some 3):=by kernel_rfl
theorem IP:au Tryz.prog 43 0=some (0,none):=by kernel_rfl
theorem IQ:au Tryz.prog 43 1=some (1,none):=by kernel_rfl
theorem IS:au Tryz.prog 43 2=some (2,none):=by kernel_rfl
theorem Vo:fk Tryz.prog 50=some (55,3):=by kernel_rfl
theorem FO:CI Tryz.prog 50=some (55,3,24):=by kernel_rfl
theorem aG0:jr Tryz.prog 55=some (some 3):=by kernel_rfl
theorem Zl:kN Tryz.prog 55=some ([.int .i64 0,.int .i64 0,.int .i64 0],[(0,1),(1,1),(2,1)]):=by kernel_rfl
theorem IT:au Tryz.prog 55 0=some (0,none):=by kernel_rfl
theorem IU:au Tryz.prog 55 1=some (1,none):=by kernel_rfl
theorem Vp:fk Tryz.prog 56=some (9,1):=by kernel_rfl
theorem s9:CI Tryz.prog 56=some (9,1,16):=by kernel_rfl
theorem aG1:jr Tryz.prog 69=some none:=by kernel_rfl
theorem Vq:fk Tryz.prog 69=some (129,5):=by kernel_rfl
theorem vo:CI Tryz.prog 69=some (129,5,104):=by kernel_rfl
theorem aG2:jr Tryz.prog 71=some (some 2):=by kernel_rfl
theorem Zm:kN Tryz.prog 71=some ([.slice none 0 0,.bool false],[(0,1),(1,1)]):=by kernel_rfl
theorem IV:au Tryz.prog 71 0=some (0,none):=by kernel_rfl
theorem IW:au Tryz.prog 71 1=some (1,none):=by kernel_rfl
theorem Zn:kN Tryz.prog 73=some ([.slice none 0 0,.bool false,str [],.slice none 0 0],[(0,2),(2,1),(3,1)]):=by kernel_rfl
theorem IX:au Tryz.prog 73 0=some (0,(some 2)):=by kernel_rfl
theorem IY:au Tryz.prog 73 1=some (2,none):=by kernel_rfl
theorem IZ:au Tryz.prog 73 2=some (3,none):=by kernel_rfl
theorem Qb:cR Tryz.prog 74=0:=by kernel_rfl
theorem aG3:jr Tryz.prog 74=some none:=by kernel_rfl
theorem aG4:jr Tryz.prog 78=some none:=by kernel_rfl
theorem aG5:jr Tryz.prog 82=some none:=by kernel_rfl
theorem aG6:jr Tryz.prog 84=some (some 4):=by kernel_rfl
theorem Zo:kN Tryz.prog 84=some ([.int .i64 0,.bool false,.pointer none,.pointer none],[(0,1),(1,1),(2,1),(3,1)]):=by kernel_rfl
theorem I0:au Tryz.prog 84 0=some (0,none):=by kernel_rfl
theorem I1:au Tryz.prog 84 1=some (1,none):=by kernel_rfl
theorem I2:au Tryz.prog 84 2=some (2,none):=by kernel_rfl
theorem I4:au Tryz.prog 84 3=some (3,none):=by kernel_rfl
theorem Vr:fk Tryz.prog 88=some (5,1):=by kernel_rfl
theorem nY:CI Tryz.prog 88=some (5,1,1):=by kernel_rfl
theorem Qc:cR Tryz.prog 97=0:=by kernel_rfl
theorem aG7:jr Tryz.prog 97=some (some 1):=by kernel_rfl
theorem Zp:kN Tryz.prog 97=some ([.nilIface],[(0,1)]):=by kernel_rfl
theorem I5:au Tryz.prog 97 0=some (0,none):=by kernel_rfl
theorem aG8:jr Tryz.prog 99=some none:=by kernel_rfl
theorem Vs:fk Tryz.prog 99=some (107,3):=by kernel_rfl
theorem FP:CI Tryz.prog 99=some (107,3,32):=by kernel_rfl
theorem Ug:kN Tryz.prog 104=some ([.slice none 0 0],[(0,1)]):=by kernel_rfl
theorem FT:au Tryz.prog 104 0=some (0,none):=by kernel_rfl
theorem aCC:jr Tryz.prog 107=some (some 3):=by kernel_rfl
theorem Uh:kN Tryz.prog 107=some ([.int .i64 0,str [],.int .i64 0],[(0,1),(1,1),(2,1)]):=by kernel_rfl
theorem FU:au Tryz.prog 107 0=some (0,none):=by kernel_rfl
theorem FV:au Tryz.prog 107 1=some (1,none):=by kernel_rfl
theorem FW:au Tryz.prog 107 2=some (2,none):=by kernel_rfl
theorem UL:rh Tryz.prog 116=some (256,4,1):=by kernel_rfl
theorem UM:rh Tryz.prog 117=some (256,4,1):=by kernel_rfl
theorem aCD:jr Tryz.prog 124=some none:=by kernel_rfl
theorem QT:fk Tryz.prog 124=some (139,1):=by kernel_rfl
theorem nD:CI Tryz.prog 124=some (139,1,24):=by kernel_rfl
theorem Ln:cR Tryz.prog 125=3:=by kernel_rfl
theorem aCE:jr Tryz.prog 125=some none:=by kernel_rfl
theorem QU:fk Tryz.prog 125=some (164,3):=by kernel_rfl
theorem ep:CI Tryz.prog 125=some (164,3,24):=by kernel_rfl
theorem aCF:jr Tryz.prog 127=some (some 2):=by kernel_rfl
theorem Ui:kN Tryz.prog 127=some ([.slice none 0 0,.slice none 0 0],[(0,1),(1,1)]):=by kernel_rfl
theorem FX:au Tryz.prog 127 0=some (0,none):=by kernel_rfl
theorem FY:au Tryz.prog 127 1=some (1,none):=by kernel_rfl
theorem aCG:jr Tryz.prog 129=some (some 5):=by kernel_rfl
theorem Uj:kN Tryz.prog 129=some ([.bool false,.slice none 0 0,.slice none 0 0,.slice none 0 0,.slice none 0 0],[(0,1),(1,2),(3,2)]):=by kernel_rfl
theorem FZ:au Tryz.prog 129 0=some (0,none):=by kernel_rfl
theorem F0:au Tryz.prog 129 1=some (1,(some 2)):=by kernel_rfl
theorem F1:au Tryz.prog 129 2=some (3,(some 2)):=by kernel_rfl
theorem QV:fk Tryz.prog 134=none:=by kernel_rfl
theorem UN:rh Tryz.prog 134=some (5,3,1):=by kernel_rfl
theorem aCH:jr Tryz.prog 135=some none:=by kernel_rfl
theorem aCI:jr Tryz.prog 137=some (some 3):=by kernel_rfl
theorem Uk:kN Tryz.prog 137=some ([str [],.int .i64 0,.pointer none],[(0,1),(1,1),(2,1)]):=by kernel_rfl
theorem F7:au Tryz.prog 137 0=some (0,none):=by kernel_rfl
theorem F8:au Tryz.prog 137 1=some (1,none):=by kernel_rfl
theorem F9:au Tryz.prog 137 2=some (2,none):=by kernel_rfl
theorem Lp:cR Tryz.prog 138=3:=by kernel_rfl
theorem QW:fk Tryz.prog 138=some (208,2):=by kernel_rfl
theorem Nr:CI Tryz.prog 138=some (208,2,16):=by kernel_rfl
theorem aCJ:jr Tryz.prog 139=some none:=by kernel_rfl
theorem QX:fk Tryz.prog 139=some (208,2):=by kernel_rfl
theorem fK:CI Tryz.prog 139=some (208,2,16):=by kernel_rfl
theorem Lq:cR Tryz.prog 141=2:=by kernel_rfl
theorem Ul:kN Tryz.prog 143=some ([.int .i64 0,.int .i64 0],[(0,1),(1,1)]):=by kernel_rfl
theorem Lr:cR Tryz.prog 156=3:=by kernel_rfl
theorem aCK:jr Tryz.prog 156=some none:=by kernel_rfl
theorem QY:fk Tryz.prog 156=some (82,1):=by kernel_rfl
theorem fc:CI Tryz.prog 156=some (82,1,8):=by kernel_rfl
theorem Um:kN Tryz.prog 158=some ([.int .i64 0,.pointer none,.slice none 0 0,.int .i64 0,.int .i64 0],[(0,1),(1,1),(2,1),(3,1),(4,1)]):=by kernel_rfl
theorem Fa:au Tryz.prog 158 0=some (0,none):=by kernel_rfl
theorem Fb:au Tryz.prog 158 1=some (1,none):=by kernel_rfl
theorem Fc:au Tryz.prog 158 2=some (2,none):=by kernel_rfl
theorem Fe:au Tryz.prog 158 3=some (3,none):=by kernel_rfl
theorem Ff:au Tryz.prog 158 4=some (4,none):=by kernel_rfl
theorem aCL:jr Tryz.prog 164=some (some 3):=by kernel_rfl
theorem Un:kN Tryz.prog 164=some ([.int .i64 0,.int .i64 0,.int .i64 0],[(0,1),(1,1),(2,1)]):=by kernel_rfl
theorem Fg:au Tryz.prog 164 0=some (0,none):=by kernel_rfl
theorem Fh:au Tryz.prog 164 1=some (1,none):=by kernel_rfl
theorem Fi:au Tryz.prog 164 2=some (2,none):=by kernel_rfl
theorem Uo:kN Tryz.prog 172=some ([str [],.bool false],[(0,1),(1,1)]):=by kernel_rfl
theorem Fj:au Tryz.prog 172 0=some (0,none):=by kernel_rfl
theorem Fk:au Tryz.prog 172 1=some (1,none):=by kernel_rfl
theorem aCM:jr Tryz.prog 182=some none:=by kernel_rfl
theorem QZ:fk Tryz.prog 182=some (4,1):=by kernel_rfl
theorem ou:CI Tryz.prog 182=some (4,1,1):=by kernel_rfl
theorem Up:kN Tryz.prog 184=some ([.slice none 0 0,.slice none 0 0],[(0,1),(1,1)]):=by kernel_rfl
theorem Fl:au Tryz.prog 184 0=some (0,none):=by kernel_rfl
theorem Fm:au Tryz.prog 184 1=some (1,none):=by kernel_rfl
theorem Uq:kN Tryz.prog 187=some ([.int .i64 0,.int .i64 0,.slice none 0 0,str [],.pointer none,.pointer none],[(0,1),(1,1),(2,1),(3,1),(4,1),(5,1)]):=by kernel_rfl
theorem Fo:au Tryz.prog 187 0=some (0,none):=by kernel_rfl
theorem Fp:au Tryz.prog 187 1=some (1,none):=by kernel_rfl
theorem Fq:au Tryz.prog 187 2=some (2,none):=by kernel_rfl
theorem Fs:au Tryz.prog 187 3=some (3,none):=by kernel_rfl
theorem Ft:au Tryz.prog 187 4=some (4,none):=by kernel_rfl
theorem Fv:au Tryz.prog 187 5=some (5,none):=by kernel_rfl
theorem Lt:cR Tryz.prog 196=8:=by kernel_rfl
theorem aCN:jr Tryz.prog 196=some (some 1):=by kernel_rfl
theorem Ur:kN Tryz.prog 196=some ([.int .i64 0],[(0,1)]):=by kernel_rfl
theorem Fx:au Tryz.prog 196 0=some (0,none):=by kernel_rfl
theorem Us:kN Tryz.prog 200=some ([.slice none 0 0,.slice none 0 0,.map none,.bool false],[(0,2),(2,1),(3,1)]):=by kernel_rfl
theorem Fy:au Tryz.prog 200 0=some (0,(some 2)):=by kernel_rfl
theorem Fz:au Tryz.prog 200 1=some (2,none):=by kernel_rfl
theorem GA:au Tryz.prog 200 2=some (3,none):=by kernel_rfl
theorem Lu:cR Tryz.prog 208=9:=by kernel_rfl
theorem aCO:jr Tryz.prog 208=some (some 2):=by kernel_rfl
theorem Ut:kN Tryz.prog 208=some ([.int .i64 0,.int .i64 0],[(0,1),(1,1)]):=by kernel_rfl
theorem GB:au Tryz.prog 208 0=some (0,none):=by kernel_rfl
theorem GC:au Tryz.prog 208 1=some (1,none):=by kernel_rfl
theorem Lv:cR Tryz.prog 276=0:=by kernel_rfl
theorem UO:rh Tryz.prog 291=some (256,5,1):=by kernel_rfl
theorem UP:rh Tryz.prog 294=some (16,293,2):=by kernel_rfl
theorem UQ:rh Tryz.prog 300=some (24,5,1):=by kernel_rfl
theorem UR:rh Tryz.prog 305=some (20,244,1):=by kernel_rfl
theorem Q0:fk Tryz.prog 306=none:=by kernel_rfl
theorem US:rh Tryz.prog 306=some (65,5,1):=by kernel_rfl
theorem UT:rh Tryz.prog 307=some (32,5,1):=by kernel_rfl
theorem Q5:fk Tryz.prog 308=none:=by kernel_rfl
theorem UU:rh Tryz.prog 308=some (64,5,1):=by kernel_rfl
theorem UW:rh Tryz.prog 311=some (0,16,1):=by kernel_rfl
theorem mixed:Tryz.prog.follows .mixedOrders=true:=by kernel_rfl
attribute [push_cast] Tryz.underlying2 aK5 Tryz.underlying3 Vw aK6 Tryz.underlying4 aK7 Tryz.underlying5 Vx aK8 aAp Tryz.underlying9 Q7 Tryz.underlying21 aGU Vj Tryz.underlying23 aGV Vk Tryz.underlying24 aGW Zk IK IL IM Q8 Q9 aGX Qa aGY Vm Tryz.underlying36 Vn Tryz.underlying41 aGZ IP IQ IS Vo Tryz.underlying50 aG0 Zl IT IU Vp Tryz.underlying56 aG1 Vq Tryz.underlying69 aG2 Zm IV IW Zn IX IY IZ Qb aG3 Tryz.underlying74 aG4 aG5 aG6 Zo I0 I1 I2 I4 Tryz.underlying87 Vr Tryz.underlying88 Tryz.underlying94 Qc aG7 Zp I5 aG8 Vs Tryz.underlying99 Ug FT aCC Uh FU FV FW UL UM aCD QT Tryz.underlying124 Ln aCE QU Tryz.underlying125 aCF Ui FX FY aCG Uj FZ F0 F1 Tryz.underlying133 QV UN aCH aCI Uk F7 F8 F9 Lp QW Tryz.underlying138 aCJ QX Tryz.underlying139 Lq Tryz.underlying141 Ul Tryz.underlying150 Lr aCK QY Tryz.underlying156 Um Fa Fb Fc Fe Ff aCL Un Fg Fh Fi Tryz.underlying168 Uo Fj Fk Tryz.underlying178 aCM QZ Tryz.underlying182 Up Fl Fm Uq Fo Fp Fq Fs Ft Fv Lt aCN Ur Fx Us Fy Fz GA Lu aCO Ut GB GC Tryz.underlying232 Tryz.underlying235 Tryz.underlying244 Tryz.underlying258 Tryz.underlying262 Tryz.underlying272 Lv Tryz.underlying276 Tryz.underlying279 UO UP Tryz.underlying297 UQ UR Q0 US UT Q5 UU UW
end Go.Proofs.YtemjejfpadnljaaGreatDoor
