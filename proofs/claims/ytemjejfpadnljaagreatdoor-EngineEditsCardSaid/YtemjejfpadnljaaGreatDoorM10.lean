/- Texts of this claim, merged: Mn5, Mn6, Ap2, Mn7, Mn8, Mn9, MnA, MnB, Vl0, Rl0, RowC. -/
import Derived.Test.YtemjejfpadnljaaGreatDoorM9
import Derived.Test.YtemjejfpadnljaaGreatDoorTie
import Derived.ProofKit
import Derived.Handy
import Derived.Lay
import Derived.OpenShut
import Derived.LaidMore
import Derived.Carry
import Derived.SevenTiedAt
import Derived.LaidHandle
import Derived.LaidSub
import Derived.LaidLaws
import Derived.Lib.LaidTab
import Derived.HandedShaped
import Derived.Shelf.Vars
set_option maxRecDepth 100000
set_option linter.unusedSimpArgs false
set_option linter.unusedVariables false
set_option maxHeartbeats 8000000
namespace Cae
theorem aCo {f:de}{r:dJ}(hr:r∈f.rules):pn r.before<=(mM f).length+5/\pn r.after<=(mM f).length+5:=by
 have h1:=aGJ r;have h2:=Qg ft hr;have h3:(f.rules.flatMap ft).length<=(mM f).length:=by
  unfold mM;simp only[List.length_append];omega
 have h4:=Ou r.before;have h5:=Ou r.after;have H9:pn r.before=(ag r.before 2).length+3:=rfl;have hp2:pn r.after=(ag r.after 2).length+3:=rfl;omega
end Cae
namespace Go.Proofs.YtemjejfpadnljaaGreatDoor
open Go.Vc Go.Proofs Go.RowKit Cae
attribute [local irreducible] cZ ab ai aX runK ar Sl Vc.Own vc aS bu aZ
def rj (f:de):Option (Int×Nat):=match gm [] f.cO with
 | .error e=>some (aIn e)
 | .ok nm=>(gE nm f.rules).map λe=>((7:Int),e)
theorem jn {nm:ba}:∀(a b:List dJ),gE nm (a++b)=match gE nm a with
  | some e=>some e
  | none=>gE nm b
 | [],b=>by simp only[List.nil_append,gE]
 | x::a,b=>by
  simp only[List.cons_append,gE];cases ET nm x with
  | some e=>rfl
  | none=>exact jn a b
def aD9 (f:de):Prop:=∀r∈f.rules,wd r.before<=100000/\wd r.after<=100000
theorem bE.ie {X X':Nat->Prop}{w:World}{x:aG}{v:Value}(h:bE X w v x)(hX:∀b,X' b->X b):bE X' w v x:=h.mono (Kept.refl (λ_=>False) w) (λ_ h=>h.elim) hX
theorem Nl (f:de)(bO:Eh f)(od:aD9 f)(ON:f.cO.length<=1000000)(hlr:f.rules.length<=1000000)(X:Nat->Prop)(v:Value)(w:World)(hv:kr X w v f) :
  ar Tryz.prog 25 [v] w λr w'=>zD w.heap.size (rj f) r w'/\Below w.heap.size w w':=by
 have CZ:=hv;obtain⟨cv,rv,cs,rs,rfl,iS,jV,hC,hR⟩:=hv;have Ky:=dX.len hR;obtain⟨ca,cc,rfl,hcc⟩:=iS.shape;obtain⟨ra,rc,rfl,hrc⟩:=jV.shape;refine aE Tryz.func25 rfl (by kernel_rfl) [2] rfl ?_;push_cast -dsimp(maxSteps:=9^7) [Tryz.ntmps25];refine aR ?_;intro w1 aU;have aU:mj w w1 26 [.slice ca cs.length cc,.slice ra rs.length rc,.bool f.dG]:=aU;have z1:=aU.size;have d0:aB w1 ⟨w.heap.size,0,none⟩ 0 3=some [.slice ca cs.length cc,.slice ra rs.length rc,.bool f.dG]:=aU.aL.aB;have hv1:kr X w1 (.agg #[.slice ca cs.length cc,.slice ra rs.length rc,.bool f.dG]) f:=CZ.below aU.below;push_cast -dsimp[d0];refine aA (Oh f bO.1 ON X _ w1 hv1) ?_;rintro r w2 ⟨hN,dh⟩;have z2:=dh.size;have iP:=aU.below.trans (dh.mono (by omega));have B2:=aU.aL.below dh (by omega);unfold nq at hN;cases qY:gm [] f.cO with
 | error e =>
  rw[qY]at hN;obtain⟨ev,rfl,hE⟩:=hN;obtain⟨eb,Dd,rfl,WU⟩:=hE;push_cast -dsimp;refine⟨?_,iP⟩;unfold rj;rw[qY];exact⟨eb,by omega,rfl,WU⟩
 | ok nm =>
  rw[qY]at hN;obtain⟨mb,hmb,rfl,hNV,ZY⟩:=hN;have d1:w2.cell? ⟨w.heap.size,1,none⟩=some (.slice ra rs.length rc):=B2.cell rfl;push_cast -dsimp[d1];refine aK [2,6,7,8,20,21,22,23,24,25,26,27,28,29,30,31,32,33,34,35,36,37,38] (λz wx=>∃(i:Nat),z 20=.int .i64 i/\i<=f.rules.length/\gE nm (f.rules.take i)=none/\Below w2.heap.size w2 wx) (λz _=>f.rules.length-(intOf (z 20)).toNat) ?_ ?_
  ·exact⟨0,rfl,Nat.zero_le _,by simp[gE],Below.refl _ _⟩
  intro z wx hI;obtain⟨i,kQ,hi,gH,aFg⟩:=hI;have zx:=aFg.size;have eV:=iP.trans (aFg.mono (by omega));push_cast -dsimp[kQ];refine⟨λao=>?_,λeY=>?_⟩
  ·obtain⟨c,hc,tc,_,ht⟩:=ae (l:=f.rules) (i:=i) (by omega);obtain⟨x,hx,Tr,C0,LD,yi⟩:=zK hR hc;obtain⟨xp,xb,x1,x2⟩:=x;simp only at Tr C0 LD yi;subst Tr;subst C0;obtain⟨b1,o,rfl,mO,aP⟩:=(jV.below eV).get hx;have c4:aB wx ⟨b1,o+i*4,none⟩ 0 4=some [.int .i64 c.pos,.bool c.brk,.pointer (some ⟨x1,0,none⟩),.pointer (some ⟨x2,0,none⟩)]:=aj _ 0 (λj u hu=>by simpa[ja,bx] using aP j u hu);push_cast -dsimp[c4];refine⟨⟨by omega,by omega⟩,?_⟩;refine aq (z:=[.int .i64 0,.bool false,.pointer none,.pointer none]) (by kernel_rfl) ?_;intro wa fy;have za:=fy.size;push_cast -dsimp;refine aH (n:=4) (by kernel_rfl) fy.aL rfl (by simp) (by simp[Value.oneCell']) ?_;intro wb dH;have zb:=dH.size;have j7:Below wx.heap.size wx wb:=fy.below.trans (dH.kept.below (by omega) (λi h=>by omega));have aJg:=aFg.trans (j7.mono (by omega));have GR:=eV.trans (j7.mono (by omega));have Rb:aM wb wx.heap.size 84 [.int .i64 c.pos,.bool c.brk,.pointer (some ⟨x1,0,none⟩),.pointer (some ⟨x2,0,none⟩)]:=dH.aL;have e2:wb.cell? ⟨wx.heap.size,2,none⟩=some (.pointer (some ⟨x1,0,none⟩)):=Rb.cell rfl;have oG:bE (λb=>X b/\b<w1.heap.size) wb (bx x1) c.before:=bE.ie (bE.below LD GR) (λb h=>h.1);push_cast -dsimp[e2];refine aA (Nn c.before (bO.2 c tc).1 (by have:=(od c tc).1;omega) nm ZY _ _ mb wb oG (hNV.below aJg)) ?_;rintro r3 w3 ⟨Nu,gV⟩;have z3:=gV.size;have aJf:=aJg.trans (gV.mono (by omega));have qT:=GR.trans (gV.mono (by omega));have Rc:=Rb.below gV Rb.lt
   have e3:w3.cell? ⟨wx.heap.size,3,none⟩=some (.pointer (some ⟨x2,0,none⟩)):=Rc.cell rfl;have sK:f.rules=f.rules.take (i+1)++f.rules.drop (i+1):=(List.take_append_drop _ _).symm;unfold zG at Nu;cases H9:gy nm c.before with
   | some e =>
    rw[H9]at Nu;obtain⟨eb,Dd,rfl,WU⟩:=Nu;push_cast -dsimp;refine⟨?_,qT⟩;have dD:gE nm f.rules=some e:=by
     rw[sK,jn,ht,jn,gH];simp only[gE,ET,H9]
    unfold rj;rw[qY];dsimp only;rw[dD];exact⟨eb,by omega,rfl,WU⟩
   | none =>
    rw[H9]at Nu;have Nu:r3=.nilIface:=Nu;subst Nu;have ZW:bE (λb=>X b/\b<w1.heap.size) w3 (bx x2) c.after:=bE.ie (bE.below yi qT) (λb h=>h.1);push_cast -dsimp[e3];refine aA (Nn c.after (bO.2 c tc).2 (by have:=(od c tc).2;omega) nm ZY _ _ mb w3 ZW (hNV.below aJf)) ?_;rintro r4 w4 ⟨Nv,nn⟩;have z4:=nn.size;have jg:=qT.trans (nn.mono (by omega));unfold zG at Nv;cases hp2:gy nm c.after with
    | some e =>
     rw[hp2]at Nv;obtain⟨eb,Dd,rfl,WU⟩:=Nv;push_cast -dsimp;refine⟨?_,jg⟩;have dD:gE nm f.rules=some e:=by
      rw[sK,jn,ht,jn,gH];simp only[gE,ET,H9,hp2]
     unfold rj;rw[qY];dsimp only;rw[dD];exact⟨eb,by omega,rfl,WU⟩
    | none =>
     rw[hp2]at Nv;have Nv:r4=.nilIface:=Nv;subst Nv;push_cast -dsimp;refine⟨⟨by omega,by omega⟩,⟨i+1,rfl,by omega,?_,aJf.trans (nn.mono (by omega))⟩,by rw[kQ];simp only[intOf];omega⟩;rw[ht,jn,gH];simp only[gE,ET,H9,hp2]
  rw[List.take_of_length_le (by omega)]at gH;refine⟨?_,eV⟩;unfold rj;rw[qY];dsimp only;rw[gH];rfl
theorem gA.ie {X X':Nat->Prop}{w:World}{b:Nat}{nm:ba}(h:gA X w b nm)(hX:∀b,X' b->X b):gA X' w b nm:=by
 obtain⟨gb,h2,h3⟩:=h;exact⟨gb,h2,h3.imp λa b h=>⟨h.1,h.2.1.weaken hX,h.2.2⟩⟩
theorem Lb {f:de}(h:rj f=none):∃nm,gm [] f.cO=.ok nm:=by
 unfold rj at h;cases hn:gm [] f.cO with
 | ok nm=>exact⟨nm,rfl⟩
 | error e=>rw[hn]at h;cases h
theorem Js {s:List UInt8}{f:de}(h:da s=.ok f)(hs:s.length<=5000):aD9 f:=λr hr=>by
 have h1:=ZA h;have h2:=aCo hr;have h3:=PZ r.before;have h4:=PZ r.after;omega
theorem kr.mono {X X' Y:Nat->Prop}{w w':World}{v:Value}{f:de}(h:kr X w v f)(hk:Kept Y w w')(hY:∀i,Y i->X i)(hX:∀i,X' i->X i):kr X' w' v f:=by
 obtain⟨cv,rv,cs,rs,rfl,S1,S2,A1,A2⟩:=h;exact⟨cv,rv,cs,rs,rfl,(S1.kept hk hY).weaken hX,(S2.kept hk hY).weaken hX,A1.imp λa c h=>tg.mono hk hY hX h,A2.imp λa c h=>ml.mono hk hY hX h⟩
def aEa (B:Nat)(s:List UInt8)(r:Value)(w:World):Prop:=∃(a1:Option Addr) (n1 k1:Nat) (a2:Option Addr) (n2 k2:Nat) (e b:Bool),r=.tuple #[.agg #[.slice a1 n1 k1,.slice a2 n2 k2,.bool e],.bool b] /\
 (b=true->s.length<=500/\∃f,da s=.ok f/\rj f=none/\kr (·<B) w (.agg #[.slice a1 n1 k1,.slice a2 n2 k2,.bool e]) f)
theorem Y7 (s:List UInt8)(w:World)(hd:Db w)(he:mB w)(hg:10<=w.heap.size) :
  ar Tryz.prog 7 [str s] w λr w'=>aEa w.heap.size s r w'/\Below w.heap.size w w':=by
 refine gi Tryz.func7 rfl (by kernel_rfl) [.cell 2 26,.tmp 3] rfl ?_;push_cast -dsimp(maxSteps:=9^7) [Tryz.ntmps7];refine aq (z:=[.slice none 0 0,.slice none 0 0,.bool false]) (by kernel_rfl) ?_;intro w1 aU;have z1:=aU.size;push_cast -dsimp;refine⟨λao=>?_,λeY=>?_⟩
 ·refine aH (n:=3) (by kernel_rfl) aU.aL rfl (by simp) (by intro v hv;simp only[List.mem_cons,List.not_mem_nil,or_false]at hv;rcases hv with rfl|rfl|rfl<;>rfl) ?_;intro w2 bJ;have z2:=bJ.size;have dh:Below w.heap.size w w2:=aU.below.trans (bJ.kept.below (by omega) (λi h=>by omega));have d2:aB w2 ⟨w.heap.size,0,none⟩ 0 3=some [.slice none 0 0,.slice none 0 0,.bool false]:=bJ.aL.aB;push_cast -dsimp[d2];refine⟨⟨_,_,_,_,_,_,_,_,rfl,λh=>by cases h⟩,dh⟩
 refine aA (xq s (by omega) w1 (hd.below aU.below hd.lt) (he.below aU.below) (by omega)) ?_;rintro r w2 ⟨hP,dh⟩;have z2:=dh.size;have iP:=aU.below.trans (dh.mono (by omega));rcases hP with ⟨f,v,tB,rfl,hV⟩|⟨e,pos,b,tB,rfl,Dd,WU⟩
 ·have Kt:=hV;obtain⟨cv,rv,cs,rs,rfl,S1,S2,A1,A2⟩:=hV;have RU:=Jr (by omega) tB;have hpp:=Js tB (by omega);obtain⟨ca,cc,rfl,hcc⟩:=S1.shape;obtain⟨ra,rc,rfl,hrc⟩:=S2.shape;push_cast -dsimp;refine aq (z:=[.slice none 0 0,.slice none 0 0,.bool false]) (by kernel_rfl) ?_;intro w3 cN;have z3:=cN.size;push_cast -dsimp;refine aH (n:=3) (by kernel_rfl) cN.aL rfl (by simp) (by intro v hv;simp only[List.mem_cons,List.not_mem_nil,or_false]at hv;rcases hv with rfl|rfl|rfl<;>rfl) ?_;intro w4 ah;have z4:=ah.size;have GO:Below w2.heap.size w2 w4:=cN.below.trans (ah.kept.below (by omega) (λi h=>by omega));have jg:=iP.trans (GO.mono (by omega));have B4:aM w4 w2.heap.size 26 [.slice ca cs.length cc,.slice ra rs.length rc,.bool f.dG]:=ah.aL;have R4:=(aU.aL.below dh (by omega)).below GO (by omega);have B4d:=B4.drew;have W9:=cQ w4;have d4:aB w4.drew ⟨w2.heap.size,0,none⟩ 0 3=some [.slice ca cs.length cc,.slice ra rs.length rc,.bool f.dG]:=B4d.aB;push_cast -dsimp;refine b8 (λw'=>aM w' w2.heap.size 26 [.slice ca cs.length cc,.slice ra rs.length rc,.bool f.dG]) mixed (by kernel_rfl) B4d ?_;push_cast -dsimp[d4];have iQ:∀bB,aM bB w2.heap.size 26 [.slice ca cs.length cc,.slice ra rs.length rc,.bool f.dG]->aB bB ⟨w2.heap.size,0,none⟩ 0 3=some [.slice ca cs.length cc,.slice ra rs.length rc,.bool f.dG]:=λbB h=>h.aB;refine⟨λbB h=>by rw[iQ bB h];exact rfl,λbB h=>by rw[iQ bB h];exact rfl,?_⟩;have hVd:=(Kt.below GO).below W9;refine aA (Nl f RU.1 hpp (by omega) (by omega) _ _ w4.drew hVd) ?_
  rintro r w5 ⟨hE,mn⟩;have z5:=mn.size;have B5:=B4d.below mn B4d.lt;have R5:=(R4.drew).below mn R4.drew.lt;refine⟨B5,?_⟩;have Cx:=(jg.trans (W9.mono (by omega))).trans (mn.mono (by show w.heap.size<=w4.heap.size;omega))
  have zd:w4.drew.heap.size=w4.heap.size:=rfl;cases mo:rj f with
  | some e =>
   rw[mo]at hE;obtain⟨c,e⟩:=e;obtain⟨eb,Dd,rfl,WU⟩:=hE;push_cast -dsimp;refine aH (n:=3) (by kernel_rfl) R5 rfl (by simp) (by intro v hv;simp only[List.mem_cons,List.not_mem_nil,or_false]at hv;rcases hv with rfl|rfl|rfl<;>rfl) ?_;intro w6 bQ;have z6:=bQ.size;have ob:=bQ.kept;have hbF:=Cx;have zF:=hbF.size;have B6:=aM.kept (B5) bQ.kept (λh=>by omega);have MH:Below w.heap.size w w6:=hbF.trans (bQ.kept.below (by omega) (λi h=>by omega));refine⟨B6,?_⟩;have d6:aB w6 ⟨w.heap.size,0,none⟩ 0 3=some [.slice ca cs.length cc,.slice ra rs.length rc,.bool f.dG]:=bQ.aL.aB;push_cast -dsimp[d6];exact⟨⟨_,_,_,_,_,_,_,_,rfl,λh=>by cases h⟩,MH⟩
  | none =>
   rw[mo]at hE;have hE:r=.nilIface:=hE;subst hE;push_cast -dsimp;refine aH (n:=3) (by kernel_rfl) R5 rfl (by simp) (by intro v hv;simp only[List.mem_cons,List.not_mem_nil,or_false]at hv;rcases hv with rfl|rfl|rfl<;>rfl) ?_;intro w6 bQ;have z6:=bQ.size;have ob:=bQ.kept;have hbF:=Cx;have zF:=hbF.size;have B6:=aM.kept (B5) bQ.kept (λh=>by omega);have MH:Below w.heap.size w w6:=hbF.trans (bQ.kept.below (by omega) (λi h=>by omega));refine⟨B6,?_⟩;have d6:aB w6 ⟨w.heap.size,0,none⟩ 0 3=some [.slice ca cs.length cc,.slice ra rs.length rc,.bool f.dG]:=bQ.aL.aB;push_cast -dsimp[d6];have aOa:Kept (·=w.heap.size) w2 w6:=(Kept.aN (GO.trans ((W9.mono (by omega)).trans (mn.mono (by omega)))) (λi h1 h2=>by omega)).trans bQ.kept (λ_ _ h=>h);exact⟨⟨_,_,_,_,_,_,_,_,rfl,λ_=>⟨by omega,f,tB,mo,Kt.mono aOa (λi h=>by omega) (λi h=>by omega)⟩⟩,MH⟩
 skip;push_cast -dsimp;refine aq (z:=[.slice none 0 0,.slice none 0 0,.bool false]) (by kernel_rfl) ?_;intro w3 cN;have z3:=cN.size;push_cast -dsimp;refine aH (n:=3) (by kernel_rfl) cN.aL rfl (by simp) (by intro v hv;simp only[List.mem_cons,List.not_mem_nil,or_false]at hv;rcases hv with rfl|rfl|rfl<;>rfl) ?_;intro w4 ah;have z4:=ah.size;have GO:Below w2.heap.size w2 w4:=cN.below.trans (ah.kept.below (by omega) (λi h=>by omega));have jg:=iP.trans (GO.mono (by omega));have B4:aM w4 w2.heap.size 26 [.slice none 0 0,.slice none 0 0,.bool false]:=ah.aL;have R4:=(aU.aL.below dh (by omega)).below GO (by omega);have B4d:=B4.drew;have W9:=cQ w4;have d4:aB w4.drew ⟨w2.heap.size,0,none⟩ 0 3=some [.slice none 0 0,.slice none 0 0,.bool false]:=B4d.aB;push_cast -dsimp;refine b8 (λw'=>aM w' w2.heap.size 26 [.slice none 0 0,.slice none 0 0,.bool false]) mixed (by kernel_rfl) B4d ?_;push_cast -dsimp[d4];have iQ:∀bB,aM bB w2.heap.size 26 [.slice none 0 0,.slice none 0 0,.bool false]->aB bB ⟨w2.heap.size,0,none⟩ 0 3=some [.slice none 0 0,.slice none 0 0,.bool false]:=λbB h=>h.aB;refine⟨λbB h=>by rw[iQ bB h];exact rfl,?_⟩;have zd:w4.drew.heap.size=w4.heap.size:=rfl;refine aH (n:=3) (by kernel_rfl) R4.drew rfl (by simp) (by intro v hv;simp only[List.mem_cons,List.not_mem_nil,or_false]at hv;rcases hv with rfl|rfl|rfl<;>rfl) ?_;intro w6 bQ;have z6:=bQ.size;have ob:=bQ.kept;have hbF:=(jg.trans (W9.mono (by omega)));have zF:=hbF.size;have B6:=aM.kept (B4d) bQ.kept (λh=>by omega)
 have MH:Below w.heap.size w w6:=hbF.trans (bQ.kept.below (by omega) (λi h=>by omega));refine⟨B6,?_⟩;have d6:aB w6 ⟨w.heap.size,0,none⟩ 0 3=some [.slice none 0 0,.slice none 0 0,.bool false]:=bQ.aL.aB;push_cast -dsimp[d6];exact⟨⟨_,_,_,_,_,_,_,_,rfl,λh=>by cases h⟩,MH⟩
structure Vl (w:World):Prop where
 d:Db w
 e:mB w
 l:p6 w
 g:10<=w.heap.size
theorem Vl.below {w w':World}(h:Vl w)(hb:Below w.heap.size w w'):Vl w':=⟨h.d.below hb h.d.lt,h.e.below hb,h.l.below hb,by have:=hb.size;have:=h.g;omega⟩
theorem Nk {a1 a2:Option Addr}{n1 k1 n2 k2:Nat}{e:Bool}:∀v∈[Value.slice a1 n1 k1,.slice a2 n2 k2,.bool e],v.oneCell'=true:=by
 intro v hv;simp only[List.mem_cons,List.not_mem_nil,or_false]at hv;rcases hv with rfl|rfl|rfl<;>rfl
end Go.Proofs.YtemjejfpadnljaaGreatDoor
namespace Go.Proofs.YtemjejfpadnljaaGreatDoor
open Go.ChangeShapes Go.WideShapes Go.ChangeAt Go.RowKit Go.Vc Cae
theorem own:ownKnob Tryz.prog.godebug=none:=by kernel_rfl
theorem laidOut:laidOutB Tryz.prog=true:=by kernel_rfl
def aH8:List Int:=[0,1,56,2,57,49,28,3,61,58,42,50,38,29,17,4,62,47,59,36,45,43,51,22,53,39,33,30,24,18,12,5,63,55,48,27,60,41,37,16,46,35,44,21,52,32,23,11,54,26,40,15,34,20,31,10,25,14,19,9,13,8,7,6]
theorem aH9 {W:World}{l:List (String×DataW Unit)}(hl:(l.filter λx=>x.1 == "math/bits.deBruijn64tab")=[("math/bits.deBruijn64tab",Rows.laid_math_bits_deBruijn64tab)])(h:laidMetH Tryz.prog l W):Db W:=by
 have h:=h.filter (λx=>x.1 == "math/bits.deBruijn64tab");rw[hl,MakeChecks.laidMetH_plain _ _ _ (by kernel_rfl)]at h;have hg:Tryz.prog.globalNamed "math/bits.deBruijn64tab"=some 9:=by kernel_rfl
 have ht:Lib.TabIs Tryz.prog W "math/bits.deBruijn64tab" .u8 aH8:=Lib.tabIs_of_head (n:=64) (t:=308) (e:=5) hg (by kernel_rfl) (by kernel_rfl) (by kernel_rfl) (by kernel_rfl) (by kernel_rfl) h;exact ht.cell hg 15 (by decide)
theorem aAq {W:World}{l:List (String×DataW Unit)}(h1:(l.filter λx=>x.1 == "strconv.ErrSyntax")=[("strconv.ErrSyntax",Rows.laid_strconv_ErrSyntax)])(h2:(l.filter λx=>x.1 == "strconv.ErrRange")=[("strconv.ErrRange",Rows.laid_strconv_ErrRange)])(h:laidMetH Tryz.prog l W):mB W:=by
 constructor
 ·have h:=h.filter (λx=>x.1 == "strconv.ErrSyntax");rw[h1,MakeChecks.laidMetH_plain _ _ _ (by kernel_rfl)]at h;obtain⟨ps,⟨g,t,cs,fuel,p,q,hg,ht,hv,hd,_,_⟩,_,_⟩:=h;obtain rfl:=Option.some.inj ((show Tryz.prog.globalNamed "strconv.ErrSyntax"=some 3 by kernel_rfl).symm.trans hg)
  obtain rfl:=Option.some.inj ((show (Tryz.prog.globals[3]?).map (·.type)=some 34 by kernel_rfl).symm.trans ht)
  obtain⟨_,u,v,iS,_,_⟩:=iface_of_trod Tryz.underlying34 hd;obtain⟨lc⟩:=cs;have aFm:lc=[.iface u v]:=iS;subst aFm;exact⟨u,v,by simpa using World.var?_cell hg hv 0⟩
 have h:=h.filter (λx=>x.1 == "strconv.ErrRange");rw[h2,MakeChecks.laidMetH_plain _ _ _ (by kernel_rfl)]at h;obtain⟨ps,⟨g,t,cs,fuel,p,q,hg,ht,hv,hd,_,_⟩,_,_⟩:=h;obtain rfl:=Option.some.inj ((show Tryz.prog.globalNamed "strconv.ErrRange"=some 4 by kernel_rfl).symm.trans hg)
 obtain rfl:=Option.some.inj ((show (Tryz.prog.globals[4]?).map (·.type)=some 34 by kernel_rfl).symm.trans ht)
 obtain⟨_,u,v,iS,_,_⟩:=iface_of_trod Tryz.underlying34 hd;obtain⟨lc⟩:=cs;have aFm:lc=[.iface u v]:=iS;subst aFm;exact⟨u,v,by simpa using World.var?_cell hg hv 0⟩
theorem XX {W:World}{l:List (String×DataW Unit)}(hl:(l.filter λx=>x.1 == "caesura/utf.least")=[("caesura/utf.least",Rows.laid_caesura_utf_least)])(h:laidMetH Tryz.prog l W):p6 W:=by
 have h:=h.filter (λx=>x.1 == "caesura/utf.least");rw[hl,MakeChecks.laidMetH_plain _ _ _ (by kernel_rfl)]at h;obtain⟨ps,⟨g,t,cs,fuel,p,q,hg,ht,hv,hd,_,_⟩,_,_⟩:=h;obtain rfl:=Option.some.inj ((show Tryz.prog.globalNamed "caesura/utf.least"=some 0 by kernel_rfl).symm.trans hg)
 obtain rfl:=Option.some.inj ((show (Tryz.prog.globals[0]?).map (·.type)=some 134 by kernel_rfl).symm.trans ht)
 have c5:Tryz.prog.cellsOf 3=1:=by kernel_rfl
 have c29:Tryz.prog.cellsOf 134=5:=by kernel_rfl
 obtain⟨xs,m,_,ex,hlen,hl,xQ⟩:=DataW.trod_array Tryz.underlying134 hd;rw[c29]at hlen;have key:cs=#[.int .i64 0,.int .i64 0,.int .i64 128,.int .i64 2048,.int .i64 65536]:=by
  obtain⟨l⟩:=cs;match l,hlen with
  | [a,b,c,d,e],_ =>
   match xs,hl with
   | [x0,x1,x2,x3,x4],_ =>
    have e3:=(DataW.agg.inj (Prod.mk.inj ex).1);simp only[List.map_cons,List.map_nil,List.cons.injEq,and_true]at e3;have k0:=xQ 0 (by omega);have k1:=xQ 1 (by omega);have k2:=xQ 2 (by omega);have k3:=xQ 3 (by omega);have k4:=xQ 4 (by omega);rw[c5]at k0 k1 k2 k3 k4;obtain⟨z0,a0,b0,_⟩:=DataW.trod_int Tryz.underlying3 k0;obtain⟨z1,a1,b1,_⟩:=DataW.trod_int Tryz.underlying3 k1;obtain⟨z2,a2,b2,_⟩:=DataW.trod_int Tryz.underlying3 k2;obtain⟨z3,a3,b3,_⟩:=DataW.trod_int Tryz.underlying3 k3;obtain⟨z4,a4,b4,_⟩:=DataW.trod_int Tryz.underlying3 k4;simp_all;omega
 subst key;intro k hk;rw[World.var?_cell hg hv k];have:k=0\/k=1\/k=2\/k=3\/k=4:=by omega
 rcases this with e|e|e|e|e<;>subst e<;>rfl
theorem ME {H:Type}{enc:TypeId×Value->H}{a:Assume}{C:Checked}{os:Os}{f:FuncId}{fn:Func}{s:ChangeSpec}{conds:List PathCond}{apart fresh handsOn again:Bool}{X:World->Array Value->Prop}
  (hX:∀(w w':World) (args:Array Value),w.heap=w'.heap->X w args->X w' args)
  (own:ownKnob C.prog.godebug=none) (started:os.Started) (aGu:C.prog.inits.idxOf? f=none) (hfn:C.prog.funcs[f]?=some fn)
  (witness:∃(w:World) (tape:Tape) (i:Input),w.os=os/\(w.forCall tape i).Shaped C.prog/\i.vars=[]/\Input.okWide C.prog (w.forCall tape i) .any w.heap.size f i /\
   ((s.pre enc C.prog fn conds apart (w.forCall tape i).memory i.args/\X (w.forCall tape i).memory i.args)/\sizedMet enc C.prog fn (OpenSpec.ofChange s) apart (w.forCall tape i).memory i.args)/\a.holds C.prog (lone (Frame.enter C.prog f i.args .normal) [] (w.forCall tape i)))
  (VR:∀(W:World) (base:Nat) (args:Array Value) (ds gs:List (DataW H)) (before:List MemPlace),
   (∀(j:Nat) t v,fn.params[j]?=some t->args[j]?=some v->Value.okWide C.prog W .any base t v) ->
   DataW.Whole enc C.prog fn.params.toList s.vars apart W args.toList ds gs before ->
   (DataW.weightsEach C.prog (fn.params.toList++s.plain.varTypes C.prog) (ds++gs)).all (·<=reachBytes)=true->X W args->W.ShapedOpen C.prog ->
   Calls C.prog f args W λe W'=>∃v,e=.returned v/\s.post enc C.prog fn apart fresh handsOn again W args v W') :
  ReturnsInHanded a C os f .any (λw args=>(s.pre enc C.prog fn conds apart w args/\X w args)/\sizedMet enc C.prog fn (OpenSpec.ofChange s) apart w args) (s.post enc C.prog fn apart fresh handsOn again):=by
 refine returnsInHanded_of_calls own started aGu witness ?_;intro w tape i _ eN _ bO aFN aN0;obtain⟨_,_,_,fn',aNT,_,_,_,_,uY⟩:=bO;have e:fn'=fn:=Option.some.inj (aNT.symm.trans hfn);subst e;obtain⟨⟨⟨ds,gs,before,hw,hc⟩,hx⟩,hz⟩:=aFN;have tf:=DataW.Whole.of_heap (w':=w.forCall tape i) (by rfl) hw;refine(VR (w.forCall tape i) w.heap.size i.args ds gs before uY tf (hz.weights hw) (hX _ _ _ (by rfl) hx) eN).mono λe W' ⟨v,he,hp⟩=>?_;subst he;exact ChangeSpec.post_blind hp
theorem aKP {W:World}(h:W.ShapedOpen Tryz.prog):10<=W.heap.size:=by
 obtain⟨o,o0,h1,_⟩:=h.2 10 (of_decide_eq_true (by kernel_rfl)) (of_decide_eq_true (by kernel_rfl))
 have:=(Array.getElem?_eq_some_iff.1 h1).1;omega
theorem aK9 {W:World}{l:List (String×DataW Unit)}(h1:(l.filter λx=>x.1 == "math/bits.deBruijn64tab")=[("math/bits.deBruijn64tab",Rows.laid_math_bits_deBruijn64tab)])(h2:(l.filter λx=>x.1 == "strconv.ErrSyntax")=[("strconv.ErrSyntax",Rows.laid_strconv_ErrSyntax)])(h3:(l.filter λx=>x.1 == "strconv.ErrRange")=[("strconv.ErrRange",Rows.laid_strconv_ErrRange)])(h4:(l.filter λx=>x.1 == "caesura/utf.least")=[("caesura/utf.least",Rows.laid_caesura_utf_least)])
  (h:laidMetH Tryz.prog l W) (hs:W.ShapedOpen Tryz.prog):Vl W :=
 ⟨aH9 h1 h,aAq h2 h3 h,XX h4 h,aKP hs⟩
end Go.Proofs.YtemjejfpadnljaaGreatDoor
