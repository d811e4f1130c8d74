/- Texts of this claim, merged: Mn5, Mn6, Ap2, Mn7, Mn8, Mn9, MnA, MnB, Vl0, Rl0, RowC. -/
import Derived.Test.YtemjejfpadnljaaGreatDoorM9
import Derived.Test.YtemjejfpadnljaaGreatDoorTie
import Derived.ProofKit
import Derived.Handy
import Derived.Lay
import Derived.OpenShut
import Derived.LaidMore
import Derived.Carry
import Derived.SevenTiedAt
import Derived.LaidHandle
import Derived.LaidSub
import Derived.LaidLaws
import Derived.Lib.LaidTab
import Derived.HandedShaped
import Derived.Shelf.Vars
set_option maxRecDepth 100000
set_option linter.unusedSimpArgs false
set_option linter.unusedVariables false
set_option maxHeartbeats 8000000
section
namespace Cae
open Classical
end Cae
namespace Go.Proofs.YtemjejfpadnljaaGreatDoor
open Go.Vc Go.Proofs Go.RowKit Cae
attribute [local irreducible] cg aa ag aX runK ar Sl Vc.Own vc aQ br a7
end Go.Proofs.YtemjejfpadnljaaGreatDoor
end
section
namespace Go.Proofs.YtemjejfpadnljaaGreatDoor
open Go.Vc Go.Proofs Go.RowKit Cae
attribute [local irreducible] cg aa ag aX runK ar Sl Vc.Own vc aQ br a7
end Go.Proofs.YtemjejfpadnljaaGreatDoor
end
section
namespace Go.Vc
open Go.RowKit
section
variable {P:Program} {t:Fr} {w:World} {K:VK} {Q:EP}
end
end Go.Vc
end
section
namespace Cae
section
variable {has:aw->Int->Prop} {bS:List Int} {back:Bool}
end
end Cae
namespace Go.Proofs.YtemjejfpadnljaaGreatDoor
open Go.Vc Go.Proofs Go.RowKit Cae
attribute [local irreducible] cg aa ag aX runK ar Sl Vc.Own vc aQ br a7
end Go.Proofs.YtemjejfpadnljaaGreatDoor
end
section
namespace Go.Proofs.YtemjejfpadnljaaGreatDoor
open Go.Vc Go.Proofs Go.RowKit Cae
attribute [local irreducible] cg aa ag aX runK ar Sl Vc.Own vc aQ br a7
def r8 (f:dY):Option (Int×Nat):=match gk [] f.cN with
 | .error e=>some (aHH e)
 | .ok nm=>(gD nm f.rules).map λe=>((7:Int),e)
theorem jl {nm:bZ}:∀(a b:List dG),gD nm (a++b)=match gD nm a with
  | some e=>some e
  | none=>gD nm b
 | [],b=>by simp only[List.nil_append,gD]
 | x::a,b=>by
  simp only[List.cons_append,gD];cases Dz nm x with
  | some e=>rfl
  | none=>exact jl a b
def aDB (f:dY):Prop:=∀r∈f.rules,wd r.before<=100000/\wd r.after<=100000
theorem bC.iZ {X X':Nat->Prop}{w:World}{x:aG}{v:Value}(h:bC X w v x)(hX:∀b,X' b->X b):bC X' w v x:=h.mono (Kept.refl (λ_=>False) w) (λ_ h=>h.elim) hX
theorem NV (f:dY)(bU:ES f)(oV:aDB f)(TQ:f.cN.length<=1000000)(hlr:f.rules.length<=1000000)(X:Nat->Prop)(v:Value)(w:World)(hv:kj X w v f) :
  ar Tryz.prog 25 [v] w λr w'=>yn w.heap.size (r8 f) r w'/\Below w.heap.size w w':=by
 have Nw:=hv;obtain⟨cv,rv,cs,rs,rfl,il,jU,hC,hR⟩:=hv;have Ka:=dW.len hR;obtain⟨ca,cc,rfl,hcc⟩:=il.shape;obtain⟨ra,rc,rfl,hrc⟩:=jU.shape;refine aE Tryz.func25 rfl (by kernel_rfl) [2] rfl ?_;push_cast -dsimp(maxSteps:=4000000) [Tryz.ntmps25];refine aR ?_;intro w1 aV;have aV:mg w w1 26 [.slice ca cs.length cc,.slice ra rs.length rc,.bool f.dD]:=aV;have z1:=aV.size;have d0:aB w1 ⟨w.heap.size,0,none⟩ 0 3=some [.slice ca cs.length cc,.slice ra rs.length rc,.bool f.dD]:=aV.aM.aB;have hv1:kj X w1 (.agg #[.slice ca cs.length cc,.slice ra rs.length rc,.bool f.dD]) f:=Nw.below aV.below;push_cast -dsimp[d0];refine aA (OQ f bU.1 TQ X _ w1 hv1) ?_;rintro r w2 ⟨hN,dt⟩;have z2:=dt.size;have iP:=aV.below.trans (dt.mono (by omega));have B2:=aV.aM.below dt (by omega);unfold ng at hN;cases qP:gk [] f.cN with
 | error e =>
  rw[qP]at hN;obtain⟨ev,rfl,hE⟩:=hN;obtain⟨eb,DU,rfl,Vk⟩:=hE;push_cast -dsimp;refine⟨?_,iP⟩;unfold r8;rw[qP];exact⟨eb,by omega,rfl,Vk⟩
 | ok nm =>
  rw[qP]at hN;obtain⟨mb,hmb,rfl,hNV,Yq⟩:=hN;have d1:w2.cell? ⟨w.heap.size,1,none⟩=some (.slice ra rs.length rc):=B2.cell rfl;push_cast -dsimp[d1];refine aK [2,6,7,8,20,21,22,23,24,25,26,27,28,29,30,31,32,33,34,35,36,37,38] (λz wx=>∃(i:Nat),z 20=.int .i64 i/\i<=f.rules.length/\gD nm (f.rules.take i)=none/\Below w2.heap.size w2 wx) (λz _=>f.rules.length-(intOf (z 20)).toNat) ?_ ?_
  ·exact⟨0,rfl,Nat.zero_le _,by simp[gD],Below.refl _ _⟩
  intro z wx hI;obtain⟨i,kL,hi,gG,aEF⟩:=hI;have zx:=aEF.size;have eW:=iP.trans (aEF.mono (by omega));push_cast -dsimp[kL];refine⟨λaj=>?_,λeo=>?_⟩
  ·obtain⟨c,hc,tR,_,ht⟩:=ah (l:=f.rules) (i:=i) (by omega);obtain⟨x,hx,TV,CI,Ke,y7⟩:=yw hR hc;obtain⟨xp,xb,x1,x2⟩:=x;simp only at TV CI Ke y7;subst TV;subst CI;obtain⟨b1,o,rfl,mJ,aU⟩:=(jU.below eW).get hx;have c4:aB wx ⟨b1,o+i*4,none⟩ 0 4=some [.int .i64 c.pos,.bool c.brk,.pointer (some ⟨x1,0,none⟩),.pointer (some ⟨x2,0,none⟩)]:=ak _ 0 (λj u hu=>by simpa[j8,bw] using aU j u hu);push_cast -dsimp[c4];refine⟨⟨by omega,by omega⟩,?_⟩;refine ao (z:=[.int .i64 0,.bool false,.pointer none,.pointer none]) (by kernel_rfl) ?_;intro wa fu;have za:=fu.size;push_cast -dsimp;refine aH (n:=4) (by kernel_rfl) fu.aM rfl (by simp) (by simp[Value.oneCell']) ?_;intro wb dE;have zb:=dE.size;have j6:Below wx.heap.size wx wb:=fu.below.trans (dE.kept.below (by omega) (λi h=>by omega));have aIz:=aEF.trans (j6.mono (by omega));have Fy:=eW.trans (j6.mono (by omega));have Rb:aL wb wx.heap.size 84 [.int .i64 c.pos,.bool c.brk,.pointer (some ⟨x1,0,none⟩),.pointer (some ⟨x2,0,none⟩)]:=dE.aM;have e2:wb.cell? ⟨wx.heap.size,2,none⟩=some (.pointer (some ⟨x1,0,none⟩)):=Rb.cell rfl;have nu:bC (λb=>X b/\b<w1.heap.size) wb (bw x1) c.before:=bC.iZ (bC.below Ke Fy) (λb h=>h.1);push_cast -dsimp[e2];refine aA (NW c.before (bU.2 c tR).1 (by have:=(oV c tR).1;omega) nm Yq _ _ mb wb nu (hNV.below aIz)) ?_;rintro r3 w3 ⟨N4,gV⟩;have z3:=gV.size;have aIy:=aIz.trans (gV.mono (by omega));have qK:=Fy.trans (gV.mono (by omega));have Rc:=Rb.below gV Rb.lt
   have e3:w3.cell? ⟨wx.heap.size,3,none⟩=some (.pointer (some ⟨x2,0,none⟩)):=Rc.cell rfl;have tT:f.rules=f.rules.take (i+1)++f.rules.drop (i+1):=(List.take_append_drop _ _).symm;unfold yp at N4;cases HP:gx nm c.before with
   | some e =>
    rw[HP]at N4;obtain⟨eb,DU,rfl,Vk⟩:=N4;push_cast -dsimp;refine⟨?_,qK⟩;have dA:gD nm f.rules=some e:=by
     rw[tT,jl,ht,jl,gG];simp only[gD,Dz,HP]
    unfold r8;rw[qP];dsimp only;rw[dA];exact⟨eb,by omega,rfl,Vk⟩
   | none =>
    rw[HP]at N4;have N4:r3=.nilIface:=N4;subst N4;have Yo:bC (λb=>X b/\b<w1.heap.size) w3 (bw x2) c.after:=bC.iZ (bC.below y7 qK) (λb h=>h.1);push_cast -dsimp[e3];refine aA (NW c.after (bU.2 c tR).2 (by have:=(oV c tR).2;omega) nm Yq _ _ mb w3 Yo (hNV.below aIy)) ?_;rintro r4 w4 ⟨N5,nd⟩;have z4:=nd.size;have je:=qK.trans (nd.mono (by omega));unfold yp at N5;cases hp2:gx nm c.after with
    | some e =>
     rw[hp2]at N5;obtain⟨eb,DU,rfl,Vk⟩:=N5;push_cast -dsimp;refine⟨?_,je⟩;have dA:gD nm f.rules=some e:=by
      rw[tT,jl,ht,jl,gG];simp only[gD,Dz,HP,hp2]
     unfold r8;rw[qP];dsimp only;rw[dA];exact⟨eb,by omega,rfl,Vk⟩
    | none =>
     rw[hp2]at N5;have N5:r4=.nilIface:=N5;subst N5;push_cast -dsimp;refine⟨⟨by omega,by omega⟩,⟨i+1,rfl,by omega,?_,aIy.trans (nd.mono (by omega))⟩,by rw[kL];simp only[intOf];omega⟩;rw[ht,jl,gG];simp only[gD,Dz,HP,hp2]
  rw[List.take_of_length_le (by omega)]at gG;refine⟨?_,eW⟩;unfold r8;rw[qP];dsimp only;rw[gG];rfl
end Go.Proofs.YtemjejfpadnljaaGreatDoor
end
section
namespace Cae
section
variable {has:aw->Int->Prop} {bS:List Int}
end
end Cae
namespace Go.Proofs.YtemjejfpadnljaaGreatDoor
open Go.Vc Go.Proofs Go.RowKit Cae
attribute [local irreducible] cg aa ag aX runK ar Sl Vc.Own vc aQ br a7
end Go.Proofs.YtemjejfpadnljaaGreatDoor
end
section
namespace Go.Proofs.YtemjejfpadnljaaGreatDoor
open Go.Vc Go.Proofs Go.RowKit Cae
attribute [local irreducible] cg aa ag aX runK ar Sl Vc.Own vc aQ br a7
theorem fz.iZ {X X':Nat->Prop}{w:World}{b:Nat}{nm:bZ}(h:fz X w b nm)(hX:∀b,X' b->X b):fz X' w b nm:=by
 obtain⟨gZ,h2,h3⟩:=h;exact⟨gZ,h2,h3.imp λa b h=>⟨h.1,h.2.1.weaken hX,h.2.2⟩⟩
theorem LH {f:dY}(h:r8 f=none):∃nm,gk [] f.cN=.ok nm:=by
 unfold r8 at h;cases hn:gk [] f.cN with
 | ok nm=>exact⟨nm,rfl⟩
 | error e=>rw[hn]at h;cases h
end Go.Proofs.YtemjejfpadnljaaGreatDoor
end
section
namespace Cae
theorem aBN {f:dY}{r:dG}(hr:r∈f.rules):pn r.before<=(mG f).length+5/\pn r.after<=(mG f).length+5:=by
 have h1:=aF6 r;have h2:=QL fp hr;have h3:(f.rules.flatMap fp).length<=(mG f).length:=by
  unfold mG;simp only[List.length_append];omega
 have h4:=OZ r.before;have h5:=OZ r.after;have HP:pn r.before=(ab r.before 2).length+3:=rfl;have hp2:pn r.after=(ab r.after 2).length+3:=rfl;omega
end Cae
namespace Go.Proofs.YtemjejfpadnljaaGreatDoor
open Go.Vc Go.Proofs Go.RowKit Cae
attribute [local irreducible] cg aa ag aX runK ar Sl Vc.Own vc aQ br a7
theorem J4 {s:List UInt8}{f:dY}(h:dd s=.ok f)(hs:s.length<=5000):aDB f:=λr hr=>by
 have h1:=Y3 h;have h2:=aBN hr;have h3:=Ov r.before;have h4:=Ov r.after;omega
theorem kj.mono {X X' Y:Nat->Prop}{w w':World}{v:Value}{f:dY}(h:kj X w v f)(hk:Kept Y w w')(hY:∀i,Y i->X i)(hX:∀i,X' i->X i):kj X' w' v f:=by
 obtain⟨cv,rv,cs,rs,rfl,S1,S2,A1,A2⟩:=h;exact⟨cv,rv,cs,rs,rfl,(S1.kept hk hY).weaken hX,(S2.kept hk hY).weaken hX,A1.imp λa c h=>tV.mono hk hY hX h,A2.imp λa c h=>mh.mono hk hY hX h⟩
def aDC (B:Nat)(s:List UInt8)(r:Value)(w:World):Prop:=∃(a1:Option Addr) (n1 k1:Nat) (a2:Option Addr) (n2 k2:Nat) (e b:Bool),r=.tuple #[.agg #[.slice a1 n1 k1,.slice a2 n2 k2,.bool e],.bool b] /\
 (b=true->s.length<=500/\∃f,dd s=.ok f/\r8 f=none/\kj (·<B) w (.agg #[.slice a1 n1 k1,.slice a2 n2 k2,.bool e]) f)
theorem YA (s:List UInt8)(w:World)(hd:Db w)(he:lr w)(hg:10<=w.heap.size) :
  ar Tryz.prog 7 [str s] w λr w'=>aDC w.heap.size s r w'/\Below w.heap.size w w':=by
 refine gh Tryz.func7 rfl (by kernel_rfl) [.cell 2 26,.tmp 3] rfl ?_;push_cast -dsimp(maxSteps:=4000000) [Tryz.ntmps7];refine ao (z:=[.slice none 0 0,.slice none 0 0,.bool false]) (by kernel_rfl) ?_;intro w1 aV;have z1:=aV.size;push_cast -dsimp;refine⟨λaj=>?_,λeo=>?_⟩
 ·refine aH (n:=3) (by kernel_rfl) aV.aM rfl (by simp) (by intro v hv;simp only[List.mem_cons,List.not_mem_nil,or_false]at hv;rcases hv with rfl|rfl|rfl<;>rfl) ?_;intro w2 bH;have z2:=bH.size;have dt:Below w.heap.size w w2:=aV.below.trans (bH.kept.below (by omega) (λi h=>by omega));have d2:aB w2 ⟨w.heap.size,0,none⟩ 0 3=some [.slice none 0 0,.slice none 0 0,.bool false]:=bH.aM.aB;push_cast -dsimp[d2];refine⟨⟨_,_,_,_,_,_,_,_,rfl,λh=>by cases h⟩,dt⟩
 refine aA (x7 s (by omega) w1 (hd.below aV.below hd.lt) (he.below aV.below) (by omega)) ?_;rintro r w2 ⟨hP,dt⟩;have z2:=dt.size;have iP:=aV.below.trans (dt.mono (by omega));rcases hP with ⟨f,v,qR,rfl,hV⟩|⟨e,pos,b,qR,rfl,DU,Vk⟩
 ·have K4:=hV;obtain⟨cv,rv,cs,rs,rfl,S1,S2,A1,A2⟩:=hV;have Qo:=J3 (by omega) qR;have hpp:=J4 qR (by omega);obtain⟨ca,cc,rfl,hcc⟩:=S1.shape;obtain⟨ra,rc,rfl,hrc⟩:=S2.shape;push_cast -dsimp;refine ao (z:=[.slice none 0 0,.slice none 0 0,.bool false]) (by kernel_rfl) ?_;intro w3 cM;have z3:=cM.size;push_cast -dsimp;refine aH (n:=3) (by kernel_rfl) cM.aM rfl (by simp) (by intro v hv;simp only[List.mem_cons,List.not_mem_nil,or_false]at hv;rcases hv with rfl|rfl|rfl<;>rfl) ?_;intro w4 ae;have z4:=ae.size;have Ft:Below w2.heap.size w2 w4:=cM.below.trans (ae.kept.below (by omega) (λi h=>by omega));have je:=iP.trans (Ft.mono (by omega));have B4:aL w4 w2.heap.size 26 [.slice ca cs.length cc,.slice ra rs.length rc,.bool f.dD]:=ae.aM;have R4:=(aV.aM.below dt (by omega)).below Ft (by omega);have B4d:=B4.drew;have Vy:=dI w4;have d4:aB w4.drew ⟨w2.heap.size,0,none⟩ 0 3=some [.slice ca cs.length cc,.slice ra rs.length rc,.bool f.dD]:=B4d.aB;push_cast -dsimp;refine ba (λw'=>aL w' w2.heap.size 26 [.slice ca cs.length cc,.slice ra rs.length rc,.bool f.dD]) mixed (by kernel_rfl) B4d ?_;push_cast -dsimp[d4];have iQ:∀bE,aL bE w2.heap.size 26 [.slice ca cs.length cc,.slice ra rs.length rc,.bool f.dD]->aB bE ⟨w2.heap.size,0,none⟩ 0 3=some [.slice ca cs.length cc,.slice ra rs.length rc,.bool f.dD]:=λbE h=>h.aB;refine⟨λbE h=>by rw[iQ bE h];exact rfl,λbE h=>by rw[iQ bE h];exact rfl,?_⟩;have hVd:=(K4.below Ft).below Vy;refine aA (NV f Qo.1 hpp (by omega) (by omega) _ _ w4.drew hVd) ?_
  rintro r w5 ⟨hE,mj⟩;have z5:=mj.size;have B5:=B4d.below mj B4d.lt;have R5:=(R4.drew).below mj R4.drew.lt;refine⟨B5,?_⟩;have uF:=(je.trans (Vy.mono (by omega))).trans (mj.mono (by show w.heap.size<=w4.heap.size;omega))
  have zd:w4.drew.heap.size=w4.heap.size:=rfl;cases lN:r8 f with
  | some e =>
   rw[lN]at hE;obtain⟨c,e⟩:=e;obtain⟨eb,DU,rfl,Vk⟩:=hE;push_cast -dsimp;refine aH (n:=3) (by kernel_rfl) R5 rfl (by simp) (by intro v hv;simp only[List.mem_cons,List.not_mem_nil,or_false]at hv;rcases hv with rfl|rfl|rfl<;>rfl) ?_;intro w6 bQ;have z6:=bQ.size;have mI:=bQ.kept;have hbF:=uF;have zF:=hbF.size;have B6:=aL.kept (B5) bQ.kept (λh=>by omega);have uG:Below w.heap.size w w6:=hbF.trans (bQ.kept.below (by omega) (λi h=>by omega));refine⟨B6,?_⟩;have d6:aB w6 ⟨w.heap.size,0,none⟩ 0 3=some [.slice ca cs.length cc,.slice ra rs.length rc,.bool f.dD]:=bQ.aM.aB;push_cast -dsimp[d6];exact⟨⟨_,_,_,_,_,_,_,_,rfl,λh=>by cases h⟩,uG⟩
  | none =>
   rw[lN]at hE;have hE:r=.nilIface:=hE;subst hE;push_cast -dsimp;refine aH (n:=3) (by kernel_rfl) R5 rfl (by simp) (by intro v hv;simp only[List.mem_cons,List.not_mem_nil,or_false]at hv;rcases hv with rfl|rfl|rfl<;>rfl) ?_;intro w6 bQ;have z6:=bQ.size;have mI:=bQ.kept;have hbF:=uF;have zF:=hbF.size;have B6:=aL.kept (B5) bQ.kept (λh=>by omega);have uG:Below w.heap.size w w6:=hbF.trans (bQ.kept.below (by omega) (λi h=>by omega));refine⟨B6,?_⟩;have d6:aB w6 ⟨w.heap.size,0,none⟩ 0 3=some [.slice ca cs.length cc,.slice ra rs.length rc,.bool f.dD]:=bQ.aM.aB;push_cast -dsimp[d6];have aNq:Kept (·=w.heap.size) w2 w6:=(Kept.aN (Ft.trans ((Vy.mono (by omega)).trans (mj.mono (by omega)))) (λi h1 h2=>by omega)).trans bQ.kept (λ_ _ h=>h);exact⟨⟨_,_,_,_,_,_,_,_,rfl,λ_=>⟨by omega,f,qR,lN,K4.mono aNq (λi h=>by omega) (λi h=>by omega)⟩⟩,uG⟩
 skip;push_cast -dsimp;refine ao (z:=[.slice none 0 0,.slice none 0 0,.bool false]) (by kernel_rfl) ?_;intro w3 cM;have z3:=cM.size;push_cast -dsimp;refine aH (n:=3) (by kernel_rfl) cM.aM rfl (by simp) (by intro v hv;simp only[List.mem_cons,List.not_mem_nil,or_false]at hv;rcases hv with rfl|rfl|rfl<;>rfl) ?_;intro w4 ae;have z4:=ae.size;have Ft:Below w2.heap.size w2 w4:=cM.below.trans (ae.kept.below (by omega) (λi h=>by omega));have je:=iP.trans (Ft.mono (by omega));have B4:aL w4 w2.heap.size 26 [.slice none 0 0,.slice none 0 0,.bool false]:=ae.aM;have R4:=(aV.aM.below dt (by omega)).below Ft (by omega);have B4d:=B4.drew;have Vy:=dI w4;have d4:aB w4.drew ⟨w2.heap.size,0,none⟩ 0 3=some [.slice none 0 0,.slice none 0 0,.bool false]:=B4d.aB;push_cast -dsimp;refine ba (λw'=>aL w' w2.heap.size 26 [.slice none 0 0,.slice none 0 0,.bool false]) mixed (by kernel_rfl) B4d ?_;push_cast -dsimp[d4];have iQ:∀bE,aL bE w2.heap.size 26 [.slice none 0 0,.slice none 0 0,.bool false]->aB bE ⟨w2.heap.size,0,none⟩ 0 3=some [.slice none 0 0,.slice none 0 0,.bool false]:=λbE h=>h.aB;refine⟨λbE h=>by rw[iQ bE h];exact rfl,?_⟩;have zd:w4.drew.heap.size=w4.heap.size:=rfl;refine aH (n:=3) (by kernel_rfl) R4.drew rfl (by simp) (by intro v hv;simp only[List.mem_cons,List.not_mem_nil,or_false]at hv;rcases hv with rfl|rfl|rfl<;>rfl) ?_;intro w6 bQ;have z6:=bQ.size;have mI:=bQ.kept;have hbF:=(je.trans (Vy.mono (by omega)));have zF:=hbF.size;have B6:=aL.kept (B4d) bQ.kept (λh=>by omega)
 have uG:Below w.heap.size w w6:=hbF.trans (bQ.kept.below (by omega) (λi h=>by omega));refine⟨B6,?_⟩;have d6:aB w6 ⟨w.heap.size,0,none⟩ 0 3=some [.slice none 0 0,.slice none 0 0,.bool false]:=bQ.aM.aB;push_cast -dsimp[d6];exact⟨⟨_,_,_,_,_,_,_,_,rfl,λh=>by cases h⟩,uG⟩
end Go.Proofs.YtemjejfpadnljaaGreatDoor
end
section
namespace Go.Proofs.YtemjejfpadnljaaGreatDoor
open Go.Vc Go.Proofs Go.RowKit Cae
attribute [local irreducible] cg aa ag aX runK ar Sl Vc.Own vc aQ br a7
structure Vl (w:World):Prop where
 d:Db w
 e:lr w
 l:pw w
 g:10<=w.heap.size
theorem Vl.below {w w':World}(h:Vl w)(hb:Below w.heap.size w w'):Vl w':=⟨h.d.below hb h.d.lt,h.e.below hb,h.l.below hb,by have:=hb.size;have:=h.g;omega⟩
theorem NU {a1 a2:Option Addr}{n1 k1 n2 k2:Nat}{e:Bool}:∀v∈[Value.slice a1 n1 k1,.slice a2 n2 k2,.bool e],v.oneCell'=true:=by
 intro v hv;simp only[List.mem_cons,List.not_mem_nil,or_false]at hv;rcases hv with rfl|rfl|rfl<;>rfl
end Go.Proofs.YtemjejfpadnljaaGreatDoor
end
section
namespace Go.Proofs.YtemjejfpadnljaaGreatDoor
open Go.ChangeShapes Go.WideShapes Go.ChangeAt Go.RowKit Go.Vc Cae
theorem own:ownKnob Tryz.prog.godebug=none:=by kernel_rfl
theorem laidOut:laidOutB Tryz.prog=true:=by kernel_rfl
def aHs:List Int:=[0,1,56,2,57,49,28,3,61,58,42,50,38,29,17,4,62,47,59,36,45,43,51,22,53,39,33,30,24,18,12,5,63,55,48,27,60,41,37,16,46,35,44,21,52,32,23,11,54,26,40,15,34,20,31,10,25,14,19,9,13,8,7,6]
theorem aHt {W:World}{l:List (String×DataW Unit)}(hl:(l.filter λx=>x.1 == "math/bits.deBruijn64tab")=[("math/bits.deBruijn64tab",Rows.laid_math_bits_deBruijn64tab)])(h:laidMetH Tryz.prog l W):Db W:=by
 have h:=h.filter (λx=>x.1 == "math/bits.deBruijn64tab");rw[hl,MakeChecks.laidMetH_plain _ _ _ (by kernel_rfl)]at h;have hg:Tryz.prog.globalNamed "math/bits.deBruijn64tab"=some 9:=by kernel_rfl
 have ht:Lib.TabIs Tryz.prog W "math/bits.deBruijn64tab" .u8 aHs:=Lib.tabIs_of_head (n:=64) (t:=308) (e:=5) hg (by kernel_rfl) (by kernel_rfl) (by kernel_rfl) (by kernel_rfl) (by kernel_rfl) h;exact ht.cell hg 15 (by decide)
theorem Zd {W:World}{l:List (String×DataW Unit)}(h1:(l.filter λx=>x.1 == "strconv.ErrSyntax")=[("strconv.ErrSyntax",Rows.laid_strconv_ErrSyntax)])(h2:(l.filter λx=>x.1 == "strconv.ErrRange")=[("strconv.ErrRange",Rows.laid_strconv_ErrRange)])(h:laidMetH Tryz.prog l W):lr W:=by
 constructor
 ·have h:=h.filter (λx=>x.1 == "strconv.ErrSyntax");rw[h1,MakeChecks.laidMetH_plain _ _ _ (by kernel_rfl)]at h;obtain⟨ps,⟨g,t,cs,fuel,p,q,hg,ht,hv,hd,_,_⟩,_,_⟩:=h;obtain rfl:=Option.some.inj ((show Tryz.prog.globalNamed "strconv.ErrSyntax"=some 3 by kernel_rfl).symm.trans hg)
  obtain rfl:=Option.some.inj ((show (Tryz.prog.globals[3]?).map (·.type)=some 34 by kernel_rfl).symm.trans ht)
  obtain⟨_,u,v,il,_,_⟩:=iface_of_trod Tryz.underlying34 hd;obtain⟨lc⟩:=cs;have aEL:lc=[.iface u v]:=il;subst aEL;exact⟨u,v,by simpa using World.var?_cell hg hv 0⟩
 have h:=h.filter (λx=>x.1 == "strconv.ErrRange");rw[h2,MakeChecks.laidMetH_plain _ _ _ (by kernel_rfl)]at h;obtain⟨ps,⟨g,t,cs,fuel,p,q,hg,ht,hv,hd,_,_⟩,_,_⟩:=h;obtain rfl:=Option.some.inj ((show Tryz.prog.globalNamed "strconv.ErrRange"=some 4 by kernel_rfl).symm.trans hg)
 obtain rfl:=Option.some.inj ((show (Tryz.prog.globals[4]?).map (·.type)=some 34 by kernel_rfl).symm.trans ht)
 obtain⟨_,u,v,il,_,_⟩:=iface_of_trod Tryz.underlying34 hd;obtain⟨lc⟩:=cs;have aEL:lc=[.iface u v]:=il;subst aEL;exact⟨u,v,by simpa using World.var?_cell hg hv 0⟩
theorem Ws {W:World}{l:List (String×DataW Unit)}(hl:(l.filter λx=>x.1 == "caesura/utf.least")=[("caesura/utf.least",Rows.laid_caesura_utf_least)])(h:laidMetH Tryz.prog l W):pw W:=by
 have h:=h.filter (λx=>x.1 == "caesura/utf.least");rw[hl,MakeChecks.laidMetH_plain _ _ _ (by kernel_rfl)]at h;obtain⟨ps,⟨g,t,cs,fuel,p,q,hg,ht,hv,hd,_,_⟩,_,_⟩:=h;obtain rfl:=Option.some.inj ((show Tryz.prog.globalNamed "caesura/utf.least"=some 0 by kernel_rfl).symm.trans hg)
 obtain rfl:=Option.some.inj ((show (Tryz.prog.globals[0]?).map (·.type)=some 134 by kernel_rfl).symm.trans ht)
 have c5:Tryz.prog.cellsOf 3=1:=by kernel_rfl
 have c29:Tryz.prog.cellsOf 134=5:=by kernel_rfl
 obtain⟨xs,m,_,ex,hlen,hl,yZ⟩:=DataW.trod_array Tryz.underlying134 hd;rw[c29]at hlen;have key:cs=#[.int .i64 0,.int .i64 0,.int .i64 128,.int .i64 2048,.int .i64 65536]:=by
  obtain⟨l⟩:=cs;match l,hlen with
  | [a,b,c,d,e],_ =>
   match xs,hl with
   | [x0,x1,x2,x3,x4],_ =>
    have e3:=(DataW.agg.inj (Prod.mk.inj ex).1);simp only[List.map_cons,List.map_nil,List.cons.injEq,and_true]at e3;have k0:=yZ 0 (by omega);have k1:=yZ 1 (by omega);have k2:=yZ 2 (by omega);have k3:=yZ 3 (by omega);have k4:=yZ 4 (by omega);rw[c5]at k0 k1 k2 k3 k4;obtain⟨z0,a0,b0,_⟩:=DataW.trod_int Tryz.underlying3 k0;obtain⟨z1,a1,b1,_⟩:=DataW.trod_int Tryz.underlying3 k1;obtain⟨z2,a2,b2,_⟩:=DataW.trod_int Tryz.underlying3 k2;obtain⟨z3,a3,b3,_⟩:=DataW.trod_int Tryz.underlying3 k3;obtain⟨z4,a4,b4,_⟩:=DataW.trod_int Tryz.underlying3 k4;simp_all;omega
 subst key;intro k hk;rw[World.var?_cell hg hv k];have:k=0\/k=1\/k=2\/k=3\/k=4:=by omega
 rcases this with e|e|e|e|e<;>subst e<;>rfl
theorem Lb {H:Type}{enc:TypeId×Value->H}{a:Assume}{C:Checked}{os:Os}{f:FuncId}{fn:Func}{s:ChangeSpec}{conds:List PathCond}{apart fresh handsOn again:Bool}{X:World->Array Value->Prop}
  (hX:∀(w w':World) (args:Array Value),w.heap=w'.heap->X w args->X w' args)
  (own:ownKnob C.prog.godebug=none) (started:os.Started) (aFS:C.prog.inits.idxOf? f=none) (hfn:C.prog.funcs[f]?=some fn)
  (witness:∃(w:World) (tape:Tape) (i:Input),w.os=os/\(w.forCall tape i).Shaped C.prog/\i.vars=[]/\Input.okWide C.prog (w.forCall tape i) .any w.heap.size f i /\
   ((s.pre enc C.prog fn conds apart (w.forCall tape i).memory i.args/\X (w.forCall tape i).memory i.args)/\sizedMet enc C.prog fn (OpenSpec.ofChange s) apart (w.forCall tape i).memory i.args)/\a.holds C.prog (lone (Frame.enter C.prog f i.args .normal) [] (w.forCall tape i)))
  (Um:∀(W:World) (base:Nat) (args:Array Value) (ds gs:List (DataW H)) (before:List MemPlace),
   (∀(j:Nat) t v,fn.params[j]?=some t->args[j]?=some v->Value.okWide C.prog W .any base t v) ->
   DataW.Whole enc C.prog fn.params.toList s.vars apart W args.toList ds gs before ->
   (DataW.weightsEach C.prog (fn.params.toList++s.plain.varTypes C.prog) (ds++gs)).all (·<=reachBytes)=true->X W args->W.ShapedOpen C.prog ->
   Calls C.prog f args W λe W'=>∃v,e=.returned v/\s.post enc C.prog fn apart fresh handsOn again W args v W') :
  ReturnsInHanded a C os f .any (λw args=>(s.pre enc C.prog fn conds apart w args/\X w args)/\sizedMet enc C.prog fn (OpenSpec.ofChange s) apart w args) (s.post enc C.prog fn apart fresh handsOn again):=by
 refine returnsInHanded_of_calls own started aFS witness ?_;intro w tape i _ fa _ bU aFc aNg;obtain⟨_,_,_,fn',aM9,_,_,_,_,yK⟩:=bU;have e:fn'=fn:=Option.some.inj (aM9.symm.trans hfn);subst e;obtain⟨⟨⟨ds,gs,before,hw,hc⟩,hx⟩,hz⟩:=aFc;have tU:=DataW.Whole.of_heap (w':=w.forCall tape i) (by rfl) hw;refine(Um (w.forCall tape i) w.heap.size i.args ds gs before yK tU (hz.weights hw) (hX _ _ _ (by rfl) hx) fa).mono λe W' ⟨v,he,hp⟩=>?_;subst he;exact ChangeSpec.post_blind hp
theorem aJ7 {W:World}(h:W.ShapedOpen Tryz.prog):10<=W.heap.size:=by
 obtain⟨o,o0,h1,_⟩:=h.2 10 (of_decide_eq_true (by kernel_rfl)) (of_decide_eq_true (by kernel_rfl))
 have:=(Array.getElem?_eq_some_iff.1 h1).1;omega
theorem aKq {W:World}{l:List (String×DataW Unit)}(h1:(l.filter λx=>x.1 == "math/bits.deBruijn64tab")=[("math/bits.deBruijn64tab",Rows.laid_math_bits_deBruijn64tab)])(h2:(l.filter λx=>x.1 == "strconv.ErrSyntax")=[("strconv.ErrSyntax",Rows.laid_strconv_ErrSyntax)])(h3:(l.filter λx=>x.1 == "strconv.ErrRange")=[("strconv.ErrRange",Rows.laid_strconv_ErrRange)])(h4:(l.filter λx=>x.1 == "caesura/utf.least")=[("caesura/utf.least",Rows.laid_caesura_utf_least)])
  (h:laidMetH Tryz.prog l W) (hs:W.ShapedOpen Tryz.prog):Vl W :=
 ⟨aHt h1 h,Zd h2 h3 h,Ws h4 h,aJ7 hs⟩
end Go.Proofs.YtemjejfpadnljaaGreatDoor
end
