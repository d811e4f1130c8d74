/- Texts of this claim, merged: Vm0, En4, EqS, Pmean6, Pbrk, En5, En6, En7. -/
import Derived.Test.YtemjejfpadnljaaGreatDoorM15
import Derived.Test.YtemjejfpadnljaaGreatDoorM13
set_option maxRecDepth 100000
set_option linter.unusedSimpArgs false
set_option linter.unusedVariables false
set_option maxHeartbeats 8000000
section
namespace Go.Proofs.YtemjejfpadnljaaGreatDoor
open Go.Vc Go.Proofs Go.RowKit Cae
attribute [local irreducible] cg aa ag aX runK ar Sl Vc.Own vc aQ br a7
theorem QX {s:List UInt8}{f:dY}(hl:s.length<=900)(hp:dd s=.ok f){r:dG}(hr:r∈f.rules)(h:2000<bF r.before+1\/2000<bF r.after+1):8<s.length/\((43:UInt8)∈s\/(123:UInt8)∈s):=by
 refine⟨?_,?_⟩
 ·by_cases h8:s.length<=8
  ·have:=LL h8 hp r hr;omega
  omega
 by_cases h1:(43:UInt8)∈s
 ·exact .inl h1
 by_cases h2:(123:UInt8)∈s
 ·exact .inr h2
 have:=LK hl h1 h2 hp r hr;omega
theorem aCe (n:Nat):∀(s:List UInt8) (a:Nat),s.length=n->∀u∈j7 a s,u.p<=1114111:=by
 induction n using Nat.strongRecOn with
 | _ n ih =>
  intro s a hn u hu;by_cases h:s=[]
  ·subst h;rw[qy]at hu;cases hu
  rw[rX a s h]at hu;rcases List.mem_cons.1 hu with rfl|hu
  ·show (fZ s).1<=1114111
   unfold fZ
   have:=(rY s).2.2.2;split<;>simp<;>omega
  have h1:=oN s;have h2:0<s.length:=List.length_pos_iff.2 h;exact ih (s.drop (fZ s).2).length (by simp;omega) _ _ rfl u hu
theorem M5 (t:List UInt8):∀p∈aKc (j7 0 t),0<=p/\p<=1114111:=by
 intro p hp;unfold aKc at hp;obtain⟨u,hu,rfl⟩:=List.mem_map.1 hp
 have:=aCe t.length t 0 rfl u hu;omega
theorem fy.lens {has:aw->Int->Prop}{back:Bool}{x:aG}{c:aD}(h:fy has back x c):jq c/\c.ins.length<1000000000/\c.sets.length<1000000000:=by
 have h1:=h.aJ4;have h2:=h.sets;exact⟨λs hs=>by have:=eI (h.right s hs);omega,by omega,by omega⟩
def ym (f:dY)(q:bM):Prop:=bB q=true/\∃nm,gk [] f.cN=.ok nm/\∀ps:List Int,(∀p∈ps,0<=p/\p<=1114111)->fF q ps=tj (gi nm) ps f.rules f.dD
def aDy (s:List UInt8):Prop:=8<s.length/\((43:UInt8)∈s\/(123:UInt8)∈s)
def aDw (s:List UInt8)(f:dY)(r:Value):Prop:=(∃q,ym f q/\r=.tuple #[str (iz q),.nilIface])\/(aDy s/\∃t u,r=.tuple #[str [],.iface t u])
theorem ZP (s:List UInt8)(hs:s.length<=500)(f:dY)(qR:dd s=.ok f)(lN:r8 f=none)(w:World)(hv:Vl w)(hN:iI w) :
  ar Tryz.prog 26 [str s] w λr w'=>aDw s f r/\Below w.heap.size w w':=by
 have Qo:=J3 (by omega) qR;have hpp:=J4 qR (by omega);have cW:=X9 (by omega) qR;refine aE Tryz.func26 rfl (by kernel_rfl) [2,3] rfl ?_;push_cast -dsimp(maxSteps:=4000000) [Tryz.ntmps26];refine aA (x7 s (by omega) w hv.d hv.e hv.g) ?_;rintro r w1 ⟨hP,gU⟩;have z1:=gU.size;rcases hP with ⟨f',v,Ik,rfl,hV⟩|⟨e,pos,b,Ik,_⟩
 ·obtain rfl:f=f':=by rw[qR]at Ik;cases Ik;rfl
  have K4:=hV;obtain⟨cv,rv,cs,rs,rfl,S1,S2,A1,A2⟩:=hV;have aFh:=S1.shape;obtain⟨ca,cc,rfl,hcc⟩:=aFh;have Lq:=S2.shape;obtain⟨ra,rc,rfl,hrc⟩:=Lq;push_cast -dsimp;refine ao (z:=[.slice none 0 0,.slice none 0 0,.bool false]) (by kernel_rfl) ?_;intro w2 bH;have z2:=bH.size;push_cast -dsimp;refine aH (n:=3) (by kernel_rfl) bH.aM rfl (by simp) NU ?_;intro w3 cM;have z3:=cM.size;have B3:aL w3 w1.heap.size 26 [.slice ca cs.length cc,.slice ra rs.length rc,.bool f.dD]:=cM.aM;have Vu:Below w1.heap.size w1 w3:=bH.below.trans (cM.kept.below (by omega) (λi h=>by omega));have qK:=gU.trans (Vu.mono (by omega));have IT:=K4.below Vu;have d3:aB w3 ⟨w1.heap.size,0,none⟩ 0 3=some [.slice ca cs.length cc,.slice ra rs.length rc,.bool f.dD]:=B3.aB;push_cast -dsimp[d3];refine aA (PN f Qo.1 hpp cW (by omega) (by omega) _ _ w3 IT) ?_;rintro _ w5 ⟨hC,mj⟩;have z5:=mj.size;unfold rp at hC;rw[lN]at hC;have uF:=qK.trans (mj.mono (by omega));rcases hC with ⟨nm,p,pv,qP,rfl,hPV,hPO⟩|⟨q,hq,hlen,ev,rfl,hE5⟩
  ·have hlen:=dW.len hPO.2;have hPR:=yq.right hPO (by omega);have aIe:gb (λb=>b=w5.heap.size) w5 pv p:=hPV.narrow (λb hb h=>by omega);have aL8:=aIe;obtain⟨pr,rfl,sj⟩:=aL8;have fa:=sj.shape;obtain⟨pa,pc,rfl,CG⟩:=fa;push_cast -dsimp;refine ao (z:=[.slice none 0 0,.bool false]) (by kernel_rfl) ?_;intro w6 bQ;have z6:=bQ.size;push_cast -dsimp;refine aH (n:=2) (by kernel_rfl) bQ.aM rfl (by simp) (by simp[Value.oneCell']) ?_;intro w7 fK;have z7:=fK.size;have aAj:Below w5.heap.size w5 w7:=bQ.below.trans (fK.kept.below (by omega) (λi h=>by omega));have P7:aL w7 w5.heap.size 71 [.slice pa p.rules.length pc,.bool p.dD]:=fK.aM;have p7:aB w7 ⟨w5.heap.size,0,none⟩ 0 2=some [.slice pa p.rules.length pc,.bool p.dD]:=P7.aB;have Lf:=uF.trans (aAj.mono (by omega));have aL9:=aIe.below aAj;push_cast -dsimp[p7];refine aA (SG p (qm hPR) (λb=>b=w5.heap.size) _ w7 (λb h=>by omega) (hN.below Lf) aL9) ?_;rintro _ w8 ⟨hr,ma⟩;have z8:=ma.size;unfold ET at hr;rw[if_pos hPR]at hr;obtain⟨out,qv,rfl,nu,hq⟩:=hr;have hq0:=hq;obtain⟨qr,rfl,hqr⟩:=hq;have fa:=hqr.shape;obtain⟨qa,qc,rfl,_⟩:=fa;have hQR:=nu.right' hPR p.dD;have P8:=P7.below ma (by omega);have aAl:=Lf.trans (ma.mono (by omega));push_cast -dsimp;refine aH (n:=2) (by kernel_rfl) P8 rfl (by simp) (by simp[Value.oneCell']) ?_;intro w9 Cn;have z9:=Cn.size;have B9:aL w9 w5.heap.size 71 [.slice qa out.length qc,.bool p.dD]:=Cn.aM;have p9:aB w9 ⟨w5.heap.size,0,none⟩ 0 2=some [.slice qa out.length qc,.bool p.dD]:=B9.aB
   have p8:Below w.heap.size w8 w9:=Cn.kept.below (by omega) (λi h=>by omega);have hq9:gb (λ_=>False) w9 (.agg #[.slice qa out.length qc,.bool p.dD]) ⟨out,p.dD⟩:=hq0.mono (λb hb aj=>Cn.kept.block b aj (λh=>hb h)) (λ_ h=>h.elim);push_cast -dsimp[p9];refine aA (aCr ⟨out,p.dD⟩ (qm hQR) (λh=>Ar h) _ w9 hq9) ?_;rintro _ wA ⟨rfl,hbA⟩;have zA:=hbA.size;rw[if_pos hQR];push_cast -dsimp;refine⟨.inl ⟨_,⟨hQR,nm,qP,λps sj=>?_⟩,rfl⟩,aAl.trans (p8.trans (hbA.mono (by have:=aAl.size;omega)))⟩;exact(RP nu.SX _).trans (H4 sj Qo.1.2 hPO)
  have K5:=QX (by omega) qR hq hlen;unfold yn at hE5;obtain⟨eb5,_,rfl,_⟩:=hE5;push_cast -dsimp;refine ao (z:=[.slice none 0 0,.bool false]) (by kernel_rfl) ?_;intro w6 bQ;have z6:=bQ.size;push_cast -dsimp;refine aH (n:=2) (by kernel_rfl) bQ.aM rfl (by simp) (by simp[Value.oneCell']) ?_;intro w7 fK;have z7:=fK.size;have aAj:Below w5.heap.size w5 w7:=bQ.below.trans (fK.kept.below (by omega) (λi h=>by omega));have Lf:=uF.trans (aAj.mono (by omega));push_cast -dsimp;exact⟨.inr ⟨K5,_,_,rfl⟩,Lf⟩
 rw[qR]at Ik;cases Ik
theorem aJ6 (q:bM)(hq:bB q=true)(w:World) :
  ar Tryz.prog 27 [str (iz q)] w λr w'=>(∃eb,r=.tuple #[.pointer (some ⟨eb,0,none⟩),.nilIface]/\w.heap.size<=eb/\me (λj=>j<w.heap.size\/j=eb) w' eb q [] [])/\Below w.heap.size w w':=by
 have hbl:=Ar hq;have hwl:(iz q).length=(iD q).length+4:=by unfold iz;rw[List.length_append];rfl
 have hpw:=J5 hq (Xj hq);generalize iz q=s at *
 refine aE Tryz.func27 rfl (by kernel_rfl) [2,3] rfl ?_;push_cast -dsimp(maxSteps:=4000000) [Tryz.ntmps27];refine aA (Ly s (by omega) w) ?_;rintro r w1 ⟨hP,gU⟩;have z1:=gU.size;unfold vN at hP;rw[hpw]at hP;obtain⟨v,rfl,hV⟩:=hP;have K4:=hV;obtain⟨rv,rfl,hR⟩:=hV;obtain⟨ra,rc,rfl,_⟩:=hR.shape;push_cast -dsimp;refine ao (z:=[.slice none 0 0,.bool false]) (by kernel_rfl) ?_;intro w2 bH;have z2:=bH.size;push_cast -dsimp;refine aH (n:=2) (by kernel_rfl) bH.aM rfl (by simp) (by simp[Value.oneCell']) ?_;intro w3 cM;have z3:=cM.size;have c3:aB w3 ⟨w1.heap.size,0,none⟩ 0 2=some [.slice ra q.rules.length rc,.bool q.dD]:=cM.aM.aB;have Vu:Below w1.heap.size w1 w3:=bH.below.trans (cM.kept.below (by omega) (λi h=>by omega));push_cast -dsimp[c3];refine aR ?_;intro w4 ae;have z4:=ae.size;have B4:aL w4 w3.heap.size 73 [.slice ra q.rules.length rc,.bool q.dD,str [],.slice none 0 0]:=ae.aM;push_cast -dsimp;have AG:Vc.Own w4.heap.size 3 1 bT w4 (.slice none 0 0) []:=Vc.Own.nil (enc:=bT) _ _ (λ_=>rfl) _;refine⟨⟨_,rfl,by omega,⟨⟨_,_,B4,?_,?_,?_⟩⟩⟩,gU.trans ((Vu.trans (ae.below.mono (by omega))).mono z1)⟩
 ·exact(((K4.below Vu).narrow (X':=λj=>j<w.heap.size\/j=w3.heap.size) (λb hb h=>by rcases h with h|h;exact h;omega))).below ae.below
 ·exact AG.sl.weaken (λb h=>by omega)
 exact AG.kT
theorem VN (l l':List (List UInt8))(hl:l.length<10000000)(X X':Nat->Prop)(v v':Value)(w:World)(hv:Sl X 1 (En Vc.encS) w v l)(Nv:Sl X' 1 (En Vc.encS) w v' l') :
  ar Tryz.prog 23 [v,v'] w λr w'=>r=.bool (decide (l=l'))/\Below w.heap.size w w':=by
 obtain⟨a,c,rfl,hc⟩:=hv.shape;obtain⟨a',c',rfl,hc'⟩:=Nv.shape;refine aE Tryz.func23 rfl (by kernel_rfl) [4] rfl ?_;push_cast -dsimp(maxSteps:=4000000) [Tryz.ntmps23];refine⟨λcW=>⟨?_,Below.refl _ _⟩,λhe=>?_⟩
 ·rw[decide_eq_false];intro h;subst h;omega
 have Nd:l.length=l'.length:=by omega
 refine aK [4,5,13,14,15,16,17,18,19,20,21,22,23,24,25] (λz wx=>∃(i:Nat),z 13=.int .i64 i/\i<=l.length/\l.take i=l'.take i/\Below w.heap.size w wx) (λz _=>l.length-(intOf (z 13)).toNat) ?_ ?_
 ·exact⟨0,rfl,Nat.zero_le _,rfl,Below.refl _ _⟩
 intro z wx hI;obtain⟨i,zm,hi,bU,hb⟩:=hI;push_cast -dsimp[zm];refine⟨λaj=>?_,λeo=>?_⟩
 ·obtain⟨x,hx,mm,hd,ht⟩:=ah (l:=l) (i:=i) (by omega);obtain⟨b,o,rfl,hX,aU⟩:=(hv.below hb).get hx;obtain⟨x',GJ,aJR,hd',Nr⟩:=ah (l:=l') (i:=i) (by omega);obtain⟨b',o',rfl,hX',AB⟩:=(Nv.below hb).get GJ;refine ba (λw'=>∀a,w'.cell? a=wx.cell? a) mixed (by kernel_rfl) (λ_=>rfl) ?_;have c0:wx.cell? ⟨b,o+i,none⟩=some (str x):=by simpa using aU 0 _ rfl
  have PH:wx.cell? ⟨b',o'+i,none⟩=some (str x'):=by simpa using AB 0 _ rfl
  have d0:wx.drew.cell? ⟨b,o+i,none⟩=some (str x):=c0;have d0':wx.drew.cell? ⟨b',o'+i,none⟩=some (str x'):=PH;push_cast -dsimp[d0,d0'];refine⟨⟨by omega,by omega⟩,λbE hC=>by rw[hC,c0];exact rfl,⟨by omega,by omega⟩,λbE hC=>by rw[hC,PH];exact rfl,λcW=>?_,λheq=>?_⟩
  ·refine⟨?_,hb.drew⟩;rw[decide_eq_false];intro h;subst h;rw[hx]at GJ;cases GJ;exact cW rfl
  have heq:x=x':=Classical.byContradiction heq;exact⟨⟨by omega,by omega⟩,⟨i+1,rfl,by omega,by rw[ht,Nr,bU,heq],hb.drew⟩,by rw[zm];simp only[intOf];omega⟩
 refine⟨?_,hb⟩;rw[List.take_of_length_le (by omega),List.take_of_length_le (by omega)]at bU;rw[decide_eq_true bU]
end Go.Proofs.YtemjejfpadnljaaGreatDoor
end
section
namespace Cae
open Go.Proofs.YtemjejfpadnljaaGreatDoor
def wX:List UInt8:=[97,98,32,99,100]
def pD:bZ:=[([97],[(97,122)])]
def Gd:List Int:=[97,98,32,99,100]
theorem Mm {has:aw->Int->Prop}{bS:List Int}{k:aw}{i:Nat}{back:Bool}:lW has bS (.one k) i back↔∃j p,nM bS back i=some (j,p)/\has k p:=by
 unfold lW;simp only[pY]
def Yz (i:Nat)(back:Bool):Bool:=match nM Gd back i with
 | some (_,p)=>ew [(97,122)] p
 | none=>false
theorem aCS {p:Nat}{q:Int}:gi pD (.ref p [97]) q↔ew [(97,122)] q=true:=by
 unfold gi;have e:cC pD (.ref p [97])=.ok [(97,122)]:=by kernel_rfl
 rw[e];constructor
 ·rintro⟨s,h,hh⟩;cases h;exact hh
 intro h;exact⟨_,rfl,h⟩
theorem aKg {p:Nat}{i:Nat}{back:Bool}:lW (gi pD) Gd (.one (.ref p [97])) i back↔Yz i back=true:=by
 rw[Mm];unfold Yz;cases h:nM Gd back i with
 | none =>
  constructor
  ·rintro⟨j,q,h1,_⟩;cases h1
  intro h;cases h
 | some jp =>
  obtain⟨j,q⟩:=jp;constructor
  ·rintro⟨j',q',h1,h2⟩;cases h1;exact aCS.1 h2
  intro h;exact⟨j,q,rfl,aCS.2 h⟩
open Go.Proofs.YtemjejfpadnljaaGreatDoor
def N2:List UInt8:=[99,108,97,115,115,32,97,32,61,32,91,54,49,45,55,97,93,59,32,107,101,101,112,32,97,58,32,97,59]
def sA:dY:=⟨[⟨[97],0,(.lit 10 [(97,122)])⟩],[⟨19,false,(.one (.ref 24 [97])),(.one (.ref 27 [97]))⟩],true⟩
theorem aBI:dd N2=.ok sA:=by kernel_rfl
theorem aHm:r8 sA=none:=by kernel_rfl
theorem aBr:gk [] sA.cN=.ok pD:=by kernel_rfl
theorem aOA (i:Nat):isM (gi pD) Gd sA.rules true i=(!(Yz i true && Yz i false) || decide (i=0) || decide (i=5)):=by
 have hm:RW (gi pD) Gd ⟨19,false,(.one (.ref 24 [97])),(.one (.ref 27 [97]))⟩ i↔(Yz i true && Yz i false)=true:=by
  unfold RW;rw[aKg,aKg,Bool.and_eq_true]
 unfold isM
 show (BF _ _ true i (⟨19,false,(.one (.ref 24 [97])),(.one (.ref 27 [97]))⟩::[]) || decide (i=0) || decide (i=5))=_
 rw[BF,BF];cases hb:(Yz i true && Yz i false) with
 | true=>rw[if_pos (hm.2 hb)];rfl
 | false=>rw[if_neg (λh=>by have:=hm.1 h;rw[hb]at this;cases this)];rfl
theorem U0:tj (gi pD) Gd sA.rules sA.dD=[0,2,3,5]:=by
 have e:isM (gi pD) Gd sA.rules true=λi=>(!(Yz i true && Yz i false) || decide (i=0) || decide (i=5)):=funext aOA;unfold tj;rw[if_neg (by decide)]
 show (List.range 6).filter (isM (gi pD) Gd sA.rules true)=_
 rw[e];decide +kernel
theorem Sm (n:Nat):∀(s:List UInt8) (a:Nat),s.length=n->(j7 a s).Pairwise (λu v=>u.at_<v.at_)/\∀u∈j7 a s,a<=u.at_/\u.at_<a+s.length:=by
 induction n using Nat.strongRecOn with
 | _ n ih =>
  intro s a hn;by_cases h:s=[]
  ·subst h;rw[qy];exact⟨.nil,λu hu=>by cases hu⟩
  rw[rX a s h];have h1:=oN s;have h2:=Bd s h;have h3:0<s.length:=List.length_pos_iff.2 h;have h4:(s.drop (fZ s).2).length=s.length-(fZ s).2:=List.length_drop;obtain⟨i1,i2⟩:=ih (s.drop (fZ s).2).length (by omega) (s.drop (fZ s).2) (a+(fZ s).2) rfl;refine⟨List.pairwise_cons.2 ⟨λv hv=>?_,i1⟩,λu hu=>?_⟩
  ·have:=i2 v hv
   show a<v.at_
   omega
  rcases List.mem_cons.1 hu with rfl|hu
  ·exact⟨Nat.le_refl _,by show a<_;omega⟩
  have:=i2 u hu;omega
end Cae
namespace Go.Proofs.YtemjejfpadnljaaGreatDoor
open Go.Vc Go.Proofs Go.RowKit Cae
attribute [local irreducible] cg aa ag aX runK ar Sl Vc.Own vc aQ br a7
theorem Dl {s:List UInt8}{i j:Nat}(h:i<j)(hj:j<=(j7 0 s).length):fo s i<fo s j:=by
 obtain⟨h1,h2⟩:=Sm s.length s 0 rfl;have hgi:∀k,k<(j7 0 s).length->∃u,(j7 0 s)[k]?=some u/\fo s k=u.at_:=λk hk=>by
  refine⟨_,List.getElem?_eq_getElem hk,?_⟩;unfold fo;rw[if_neg (by omega),List.getD_eq_getElem?_getD,List.getElem?_eq_getElem hk];rfl
 obtain⟨u,hu,eu⟩:=hgi i (by omega);rw[eu];by_cases hjn:j=(j7 0 s).length
 ·have:=h2 u (List.mem_of_getElem? hu);unfold fo;rw[if_pos hjn];omega
 obtain⟨v,hv,ev⟩:=hgi j (by omega);rw[ev];have e1:=(List.getElem?_eq_some_iff.1 hu).2;have e2:=(List.getElem?_eq_some_iff.1 hv).2
 have:=List.pairwise_iff_getElem.1 h1 i j (by omega) (by omega) h;rw[e1,e2]at this;exact this
theorem SF (s:List UInt8){k:Nat}(hk:k<=(j7 0 s).length):fo s k<=s.length:=by
 by_cases h:k=(j7 0 s).length
 ·unfold fo;rw[if_pos h];exact Nat.le_refl _
 have h1:=Dl (s:=s) (i:=k) (j:=(j7 0 s).length) (by omega) (Nat.le_refl _);have h2:fo s (j7 0 s).length=s.length:=by unfold fo;rw[if_pos rfl]
 omega
theorem Ev (p:bM)(s:List UInt8):(dK p s).Pairwise (·<·)/\∀k∈dK p s,k<=s.length:=by
 have hl:(bS s).length=(j7 0 s).length:=by unfold bS;rw[List.length_map]
 have hle:=(vR p (bS s)).2;rw[hl]at hle;unfold dK;refine⟨List.pairwise_map.2 ?_,λk hk=>?_⟩
 ·have hp:(fF p (bS s)).Pairwise (·<·):=by
   unfold fF bX;split
   ·exact .nil
   exact List.Pairwise.filter _ List.pairwise_lt_range
  exact List.Pairwise.imp_of_mem (λ_ hb h=>Dl h (hle _ hb)) hp
 obtain⟨j,hj,rfl⟩:=List.mem_map.1 hk;exact SF s (hle _ hj)
theorem wU (p:bM)(s:List UInt8):(dK p s).length<=s.length+1:=by
 have hl:(bS s).length=(j7 0 s).length:=by unfold bS;rw[List.length_map]
 have h1:=(vR p (bS s)).1;have h2:=xc s.length s 0 rfl;unfold dK;rw[List.length_map];omega
def tD (s:List UInt8)(l:List Nat)(k:Nat):List (List UInt8):=(List.range k).map λj=>(s.take (l.getD (j+1) 0)).drop (l.getD j 0)
def M1 (s:List UInt8)(l:List Nat):List (List UInt8):=tD s l (l.length-1)
theorem J6 (s:List UInt8)(l:List Nat)(k:Nat):tD s l (k+1)=tD s l k++[(s.take (l.getD (k+1) 0)).drop (l.getD k 0)]:=by
 unfold tD;rw[List.range_succ,List.map_append];rfl
theorem Uw (p:bM)(hr:bB p=true)(hl:jo p)(s:List UInt8)(hs:s.length<1000000)(eb:Nat)(X:Nat->Prop)(t:List UInt8)(at_:List Nat)(w:World)(hg:pw w)(he:me X w eb p t at_) :
  ar Tryz.prog 20 [.pointer (some ⟨eb,0,none⟩),str s] w λr w'=>Vc.Own w.heap.size 9 1 Vc.encS w' r (M1 s (dK p s))/\Below w.heap.size w w':=by
 refine aE Tryz.func20 rfl (by kernel_rfl) [4] rfl ?_;push_cast -dsimp(maxSteps:=4000000) [Tryz.ntmps20];refine aA (vU p hr hl s hs eb X t at_ w hg he) ?_;rintro v w1 ⟨ho,hb⟩;have ph:=hb.size;have aJA:=Ev p s;have aM7:=wU p s;generalize dK p s=l at *
 obtain⟨vM,uO⟩:=aJA;have oh:=ho.sl;have fa:=ho.slice;obtain⟨la,lc,rfl⟩:=fa;push_cast -dsimp;refine aK [5,7,11,12,13,14,15,16,17,18,19,20,21,22,23,24,25,26,27,28,29,30] (λz wx=>∃(i:Nat) (ov:Value),z 7=.int .i64 ((i+1:Nat):Int)/\z 5=ov/\(i+1<=l.length\/i=0)/\Vc.Own w1.heap.size 9 1 Vc.encS wx ov (tD s l i)/\Below w1.heap.size w1 wx) (λz _=>l.length-(intOf (z 7)).toNat) ?_ ?_
 ·exact⟨0,_,rfl,rfl,.inr rfl,Vc.Own.nil (enc:=Vc.encS) _ _ (λ_=>rfl) _,Below.refl _ _⟩
 intro z wx hI;obtain⟨i,ov,h7,h5,hi,eG,eW⟩:=hI;have yS:=eW.size;have fa:=eG.slice;obtain⟨oa,oc,rfl⟩:=fa;push_cast -dsimp[h7,h5];refine⟨λaj=>?_,λeo=>?_⟩
 ·have oU:=ah (l:=l) (i:=i) (by omega);obtain⟨x,hx,mm,_⟩:=oU;have oU:=ah (l:=l) (i:=i+1) (by omega);obtain⟨y,hy,D5,_⟩:=oU;have hxy:x<y:=by
   have e1:=(List.getElem?_eq_some_iff.1 hx);have e2:=(List.getElem?_eq_some_iff.1 hy);obtain⟨l1,e1⟩:=e1;obtain⟨l2,e2⟩:=e2
   have:=List.pairwise_iff_getElem.1 vM i (i+1) l1 l2 (by omega);rw[e1,e2]at this;exact this
  have hys:=uO y D5;have HQ:(tD s l i).length=i:=by unfold tD;simp
  have sj:=J6 s l i;rw[show l.getD i 0=x by rw[List.getD_eq_getElem?_getD,hx];rfl,show l.getD (i+1) 0=y by rw[List.getD_eq_getElem?_getD,hy];rfl]at sj
  have oU:=oh.get hx;obtain⟨b,o,rfl,_,hcx⟩:=oU;have oU:=oh.get hy;obtain⟨b',o',Nd,_,Nc⟩:=oU;cases Nd;have q0:w1.cell? ⟨b,o+i,none⟩=some (.int .i64 x):=by simpa[bT] using hcx 0 _ rfl
  have q1:w1.cell? ⟨b,o+(i+1),none⟩=some (.int .i64 y):=by simpa[bT] using Nc 0 _ rfl
  have aAz:b<w1.heap.size:=World.block_lt_of_cell? w1 _ q0;have k0:=(eW.cell aAz).trans q0;have k1:=(eW.cell aAz).trans q1;refine ba (λw'=>Below w1.heap.size wx w') mixed (by kernel_rfl) (Below.refl _ _).drew ?_;have L0:∀bE:World,Below w1.heap.size wx bE->mR (bE.cell? ⟨b,o+i,none⟩) (λu=>u=.int .i64 x) .mk:=λbE h=>by rw[h.cell aAz,k0];exact rfl
  have L1:∀bE:World,Below w1.heap.size wx bE->mR (bE.cell? ⟨b,o+(i+1),none⟩) (λu=>u=.int .i64 y) .mk:=λbE h=>by rw[h.cell aAz,k1];exact rfl
  have d0:wx.drew.cell? ⟨b,o+i,none⟩=some (.int .i64 x):=k0;have d1:wx.drew.cell? ⟨b,o+(i+1),none⟩=some (.int .i64 y):=k1;have i1:(i:Int)+1-1=i:=by omega
  have i2:((i:Int)+1).toNat=i+1:=by omega
  push_cast -dsimp[d0,d1,i1,i2];refine⟨by omega,by omega,L0,by omega,L1,by omega,?_⟩;refine cG sU rfl rfl (by omega) ?_;intro w4 ae;have KB:=ae.size;have zd:wx.drew.heap.size=wx.heap.size:=rfl;have kQ:=(eG.aJ ((Kept.refl (λ_=>False) wx).drew) (λ_ _ h=>h)).new ae;have nd:Below w1.heap.size wx w4:=((dI wx).trans ae.below).mono yS;refine⟨nd,?_⟩;push_cast -dsimp;refine aW (base:=w1.heap.size) [(s.take y).drop x] (enc:=Vc.encS) sU kQ (by rfl) (λj u hu=>by simpa[Vc.encS] using ae.cell hu) (λx=>by intro u hu;simp[Vc.encS]at hu;subst hu;rfl) (by simp only[HQ,List.length_cons,List.length_nil];omega) (by omega) ?_;intro v5 w5 CF yD _;have mj:Below w1.heap.size wx w5:=nd.trans ((Kept.grown yD (λ_ h=>h)).below (by omega) (λj h=>by have:=(kQ.block j h).1;omega));rw[<-sj]at CF;refine⟨mj,?_⟩;push_cast -dsimp[h7];exact⟨by omega,⟨i+1,_,rfl,rfl,by omega,CF,eW.trans mj⟩,by simp only[intOf];omega⟩
 have hii:i=l.length-1:=by omega
 subst hii;exact⟨eG.mono (by omega),hb.trans (eW.mono ph)⟩
end Go.Proofs.YtemjejfpadnljaaGreatDoor
end
section
namespace Go.Proofs.YtemjejfpadnljaaGreatDoor
open Go.Vc Go.Proofs Go.RowKit Cae
attribute [local irreducible] cg aa ag aX runK ar Sl Vc.Own vc aQ br a7
section
variable {X X' Y:Nat->Prop} {w w':World} {eb:Nat} {p:bM} {t:List UInt8} {bs:List Nat}
theorem me.below (h:me X w eb p t bs)(hb:Below w.heap.size w w'):me X w' eb p t bs:=by
 obtain⟨rv,av,hB,hP,hA,ha⟩:=h.st;exact⟨⟨rv,av,hB.below hb hB.lt,hP.below hb,hA.below hb,ha⟩⟩
theorem me.kept (h:me X w eb p t bs)(hk:Kept Y w w')(hY:∀b,Y b->X b)(cW:¬Y eb):me X w' eb p t bs:=by
 obtain⟨rv,av,hB,hP,hA,ha⟩:=h.st;exact⟨⟨rv,av,hB.kept hk cW,hP.mono (λb hb aj=>hk.block b aj (λh=>hb (hY b h))) (λ_ h=>h),hA.kept hk hY,ha⟩⟩
theorem me.narrow (h:me X w eb p t bs)(hX:∀b,b<w.heap.size->X' b->X b):me X' w eb p t bs:=by
 obtain⟨rv,av,hB,hP,hA,ha⟩:=h.st;exact⟨⟨rv,av,hB,hP.narrow hX,Sl.narrow hA (by omega) (λ_ _ h=>h) hX,ha⟩⟩
theorem me.lt (h:me X w eb p t bs):eb<w.heap.size:=by
 obtain⟨rv,av,hB,_⟩:=h.st;exact hB.lt
end
def aHf (B:Nat)(s:List UInt8)(f:dY)(r:Value)(w:World):Prop :=
 (∃q eb,ym f q/\r=.tuple #[.pointer (some ⟨eb,0,none⟩),.bool true]/\B<=eb/\me (λj=>j<B\/j=eb) w eb q [] [])\/(aDy s/\r=.tuple #[.pointer none,.bool false])
theorem GW (s:List UInt8)(hs:s.length<=500)(f:dY)(qR:dd s=.ok f)(lN:r8 f=none)(w:World)(hv:Vl w)(hN:iI w) :
  ar Tryz.prog 8 [str s] w λr w'=>aHf w.heap.size s f r w'/\Below w.heap.size w w':=by
 refine aE Tryz.func8 rfl (by kernel_rfl) [2,3] rfl ?_;push_cast -dsimp(maxSteps:=4000000) [Tryz.ntmps8];refine aA (ZP s hs f qR lN w hv hN) ?_;rintro _ w1 ⟨hB,gU⟩;have z1:=gU.size;rcases hB with ⟨q,hq,rfl⟩|⟨hL,t,u,rfl⟩
 ·push_cast -dsimp;refine aA (aJ6 q hq.1 w1) ?_;rintro _ w2 ⟨⟨eb,rfl,hle,hE⟩,dt⟩;push_cast -dsimp;exact⟨.inl ⟨q,eb,hq,rfl,by omega,hE.narrow (λb _ h=>h.imp (λh=>by omega) id)⟩,gU.trans (dt.mono z1)⟩
 push_cast -dsimp;exact⟨.inr ⟨hL,rfl⟩,gU⟩
theorem ym.same {f:dY}{q q':bM}(h:ym f q)(h':ym f q')(s:List UInt8):dK q s=dK q' s:=by
 obtain⟨_,nm,hn,hb⟩:=h;obtain⟨_,nm',hn',Bx⟩:=h';rw[hn]at hn';cases hn';unfold dK;rw[hb (bS s) (M5 s),Bx (bS s) (M5 s)]
theorem aOJ:bS wX=Gd:=by kernel_rfl
theorem ym.N2 {q:bM}(h:ym sA q):dK q wX=[0,2,3,5]:=by
 obtain⟨_,nm,hn,hb⟩:=h;rw[aBr]at hn;cases hn;unfold dK;rw[hb (bS wX) (M5 wX),aOJ,U0];decide +kernel
theorem U2 (w:World)(hv:Vl w)(hN:iI w):ar Tryz.prog 6 [] w λr w'=>r=.bool true/\Below w.heap.size w w':=by
 refine aE Tryz.func6 rfl (by kernel_rfl) [0] rfl ?_;push_cast -dsimp(maxSteps:=4000000) [Tryz.ntmps6];refine aA (GW N2 (by decide) sA aBI aHm w hv hN) ?_;rintro _ w1 ⟨hM,gU⟩;have z1:=gU.size;rcases hM with ⟨q,eb,hq,rfl,hle,hE⟩|⟨hL,_⟩
 ·have hq5:=hq.N2;have hqL:=qm hq.1;have xB:=hv.l.below gU;push_cast -dsimp;refine aA (vU q hq.1 hqL wX (by decide) eb _ _ _ w1 xB hE) ?_;rintro v w2 ⟨hO,dt⟩;rw[hq5]at hO;have z2:=dt.size;have iP:=gU.trans (dt.mono z1);obtain⟨va,vc,rfl⟩:=hO.slice;push_cast -dsimp;refine cG bm rfl rfl (by omega) ?_;intro w3 cM;have z3:=cM.size;have K3:Vc.Own w2.heap.size 3 1 bT w3 (.slice (some ⟨w2.heap.size,0,none⟩) 4 4) [0,2,3,5]:=cM.own (by rfl) rfl (λ_=>rfl) (by omega) (by omega);have qK:=iP.trans (cM.below.mono (by omega));push_cast -dsimp;refine aA (Hq [0,2,3,5] [0,2,3,5] (by decide) _ _ _ _ w3 (hO.new cM).sl K3.sl) ?_;rintro _ w4 ⟨rfl,nd⟩;have z4:=nd.size;have je:=qK.trans (nd.mono (by omega));have N5:=((hE.below dt).below cM.below).below nd;rw[decide_eq_true rfl];push_cast -dsimp;refine aA (Uw q hq.1 hqL wX (by decide) eb _ _ _ w4 (hv.l.below je) N5) ?_;rintro v w5 ⟨hP,mj⟩;rw[hq5]at hP;have z5:=mj.size;have uF:=je.trans (mj.mono (by omega));obtain⟨pa,pc,rfl⟩:=hP.slice;push_cast -dsimp;refine cG sU rfl rfl (by omega) ?_;intro w6 bQ;have z6:=bQ.size;have Fo:Vc.Own w5.heap.size 9 1 Vc.encS w6 (.slice (some ⟨w5.heap.size,0,none⟩) 3 3) [[97,98],[32],[99,100]]:=bQ.own (by rfl) rfl (λ_=>rfl) (by omega) (by omega);have uG:=uF.trans (bQ.below.mono (by omega));push_cast -dsimp;refine aA (VN (M1 wX [0,2,3,5]) [[97,98],[32],[99,100]] (by decide) _ _ _ _ w6 (hP.new bQ).sl Fo.sl) ?_;rintro _ w7 ⟨rfl,kr⟩;rw[decide_eq_true (show M1 wX [0,2,3,5]=[[97,98],[32],[99,100]] by decide +kernel)]
  push_cast -dsimp;exact uG.trans (kr.mono (by omega))
 exact absurd hL.2 (by decide)
end Go.Proofs.YtemjejfpadnljaaGreatDoor
end
section
namespace Go.Proofs.YtemjejfpadnljaaGreatDoor
open Go.Vc Go.Proofs Go.RowKit Cae
attribute [local irreducible] cg aa ag aX runK ar Sl Vc.Own vc aQ br a7
def stepT (back:Bool)(s:List UInt8)(i:Nat):List UInt8:=if back then s.drop (s.length-i) else s.take i
def Jw (q:bM)(back:Bool)(s:List UInt8)(i:Nat):List Nat:=if i=0 then [] else dK q (stepT back s i)
theorem Hl (q:bM):dK q []=[]:=by
 unfold dK;have:bS []=[]:=by unfold bS;rw[qy];rfl
 rw[this];unfold fF;rw[if_pos rfl];rfl
theorem EL {back:Bool}{s:List UInt8}{i:Nat}(h:i<=s.length):(stepT back s i).length=i:=by
 unfold stepT;cases back<;>simp<;>omega
theorem EK (back:Bool)(s:List UInt8):stepT back s s.length=s:=by
 unfold stepT;cases back<;>simp
def BT (back:Bool)(s:List UInt8)(i:Nat):Nat:=if back then 0 else i
def dZ (back:Bool)(s:List UInt8)(i:Nat):Nat:=if back then s.length-1-i else i
theorem Mn {back:Bool}{s:List UInt8}{i:Nat}(h:i<s.length):zV (stepT back s i) (BT back s i:Nat) 0 ((s.take (dZ back s i+1)).drop (dZ back s i))=stepT back s (i+1):=by
 have hl:=EL (back:=back) (s:=s) (i:=i) (by omega);unfold zV;cases back with
 | false =>
  have e1:BT false s i=i:=rfl;have e2:dZ false s i=i:=rfl;have e3:stepT false s i=s.take i:=rfl;have e4:stepT false s (i+1)=s.take (i+1):=rfl;have h1:(stepT false s i).take i=stepT false s i:=List.take_of_length_le (by rw[hl];exact Nat.le_refl _);have h2:(stepT false s i).drop i=[]:=List.drop_of_length_le (by rw[hl];exact Nat.le_refl _);rw[e1,e2,e4,show ((i:Int)).toNat=i by omega,show ((i:Int)+0).toNat=i by omega,h1,h2,List.append_nil,e3]
  have:=List.take_append_drop i (s.take (i+1));rw[List.take_take,Nat.min_eq_left (by omega)]at this;exact this
 | true =>
  have e1:BT true s i=0:=rfl;have e2:dZ true s i=s.length-1-i:=rfl;have e3:stepT true s i=s.drop (s.length-i):=rfl;have e4:stepT true s (i+1)=s.drop (s.length-(i+1)):=rfl;rw[e1,e2,e3,e4,show (((0:Nat):Int)).toNat=0 by omega,show (((0:Nat):Int)+0).toNat=0 by omega,List.take_zero,List.nil_append,List.drop_zero,show s.length-(i+1)=s.length-1-i by omega]
  have h1:s.length-i=s.length-1-i+1:=by omega
  rw[h1,<-List.drop_append_of_le_length (by rw[List.length_take];omega),List.take_append_drop]
theorem CT (s t:List UInt8)(back:Bool)(w:World)(hv:Vl w)(hN:iI w):ar Tryz.prog 3 [str s,str t,.bool back] w λr w'=>r=.bool true/\Below w.heap.size w w':=by
 refine aE Tryz.func3 rfl (by kernel_rfl) [6] rfl ?_;push_cast -dsimp(maxSteps:=4000000) [Tryz.ntmps3];refine⟨λaDb=>Below.refl _ _,λGG=>?_⟩;refine aA (U2 w hv hN) ?_;rintro _ w1 ⟨rfl,gU⟩;have z1:=gU.size;have hv1:=hv.below gU;push_cast -dsimp;refine aA (YA s w1 hv1.d hv1.e hv1.g) ?_;rintro _ w2 ⟨⟨a1,n1,k1,a2,n2,k2,e,b,rfl,aFe⟩,dt⟩;have z2:=dt.size;have iP:=gU.trans (dt.mono z1);push_cast -dsimp;refine ao (z:=[.slice none 0 0,.slice none 0 0,.bool false]) (by kernel_rfl) ?_;intro w3 cM;have z3:=cM.size;push_cast -dsimp;refine aH (n:=3) (by kernel_rfl) cM.aM rfl (by simp) NU ?_;intro w4 ae;have z4:=ae.size;have Ft:Below w2.heap.size w2 w4:=cM.below.trans (ae.kept.below (by omega) (λi h=>by omega));have je:=iP.trans (Ft.mono (by omega));cases b with
 | false =>
  push_cast -dsimp;exact je
 | true =>
  obtain⟨hs5,f,qR,lN,_⟩:=aFe rfl;push_cast -dsimp;refine aA (GW s hs5 f qR lN w4 (hv.below je) (hN.below je)) ?_;rintro _ w5 ⟨hM,mj⟩;have z5:=mj.size;have uF:=je.trans (mj.mono (by omega));have aAg:∀w',aDy s->ar Tryz.prog 9 [str s,str [123,43]] w' λr bE=>r=.bool true/\Below w'.heap.size w' bE:=λw' h=>Vt s w' h.1 (by omega) h.2;rcases hM with ⟨qa,ea,hqa,rfl,hla,hEa⟩|⟨hL,rfl⟩
  ·push_cast -dsimp;refine aA (GW s hs5 f qR lN w5 (hv.below uF) (hN.below uF)) ?_;rintro _ w6 ⟨hM,mI⟩;have z6:=mI.size;have uG:=uF.trans (mI.mono (by omega));rcases hM with ⟨qb,eb,hqb,rfl,hlb,hEb⟩|⟨hL,rfl⟩
   ·have aTw:=hEa.lt;have aLS:me (λj=>j<w4.heap.size\/j=ea\/j=eb) w6 ea qa [] []:=(hEa.narrow (λb _ h=>by rcases h with h|h|h;exact .inl h;exact .inr h;omega)).below mI;have aTx:=hEb.lt;have aJv:=qm hqa.1;have aN2:=qm hqb.1;have TN:0<w4.heap.size:=by have h1:=hv.g;have h2:=je.size;have h3:0<10:=(by decide);omega
    push_cast -dsimp;refine aK [6,13,14,15,50,51,52,53,54,55,56,57,58,59,60,61,62,63,64,65,66,67,68,69,70,71,72] (λz wx=>∃i:Nat,z 13=.int .i64 i/\i<=t.length/\me (λj=>j<w4.heap.size\/j=ea\/j=eb) wx ea qa (stepT back t i) (Jw qa back t i)/\me (λj=>j<w5.heap.size\/j=eb) wx eb qb [] []/\Below w.heap.size w wx/\w6.heap.size<=wx.heap.size) (λz _=>t.length-(intOf (z 13)).toNat) ?_ ?_
    ·refine⟨0,rfl,Nat.zero_le _,?_,hEb,uG,Nat.le_refl _⟩;have e1:stepT back t 0=[]:=by unfold stepT;cases back<;>simp
     rw[e1];exact aLS
    intro z wx hI;obtain⟨i,zm,hi,hA,hB,eW,yS⟩:=hI;have hXA:∀b,(b<w4.heap.size\/b=ea\/b=eb)->b<wx.heap.size:=λb h=>by omega
    push_cast -dsimp[zm];refine⟨λaj=>?_,λeo=>?_⟩
    ·have N7:=hv.l.below eW;have hlA:=EL (back:=back) hi;have hEd:=Mn (back:=back) (s:=t) (i:=i) (by omega);have i1:((i:Int)+1).toNat=i+1:=by omega
     have i2:((t.length:Int)-1-i).toNat=t.length-1-i:=by omega
     have i3:((t.length:Int)-1-i+1).toNat=t.length-1-i+1:=by omega
     cases back with
     | false =>
      push_cast -dsimp[i1];refine⟨by omega,by omega,?_⟩;have mc:((t.take (dZ false t i+1)).drop (dZ false t i)).length=1:=by rw[List.length_drop,List.length_take];unfold dZ;simp;omega
      refine aA (LO qa ((t.take (dZ false t i+1)).drop (dZ false t i)) (by omega) (BT false t i:Nat) 0 ea _ (stepT false t i) (by omega) _ wx hA hqa.1 aJv N7 (.inr (.inl rfl)) hXA (by omega) (by unfold ts BT;simp<;>omega) (by omega)) ?_;rintro _ wy ⟨rfl,TG,jI⟩;have szy:=jI.size;rw[hEd]at TG;push_cast -dsimp;refine⟨by omega,⟨i+1,rfl,by omega,?_,hB.kept jI (λb h=>.inl (by omega)) (by omega),eW.trans (jI.below (by omega) (λb h=>by omega)),by omega⟩,by rw[zm];simp only[intOf];omega⟩;unfold Jw;rw[if_neg (by omega)];exact TG
     | true =>
      push_cast -dsimp[i2,i3];refine⟨by omega,by omega,by omega,by omega,?_⟩;have mc:((t.take (dZ true t i+1)).drop (dZ true t i)).length=1:=by rw[List.length_drop,List.length_take];unfold dZ;simp;omega
      refine aA (LO qa ((t.take (dZ true t i+1)).drop (dZ true t i)) (by omega) (BT true t i:Nat) 0 ea _ (stepT true t i) (by omega) _ wx hA hqa.1 aJv N7 (.inr (.inl rfl)) hXA (by omega) (by unfold ts BT;simp<;>omega) (by omega)) ?_;rintro _ wy ⟨rfl,TG,jI⟩;have szy:=jI.size;rw[hEd]at TG;push_cast -dsimp;refine⟨by omega,⟨i+1,rfl,by omega,?_,hB.kept jI (λb h=>.inl (by omega)) (by omega),eW.trans (jI.below (by omega) (λb h=>by omega)),by omega⟩,by rw[zm];simp only[intOf];omega⟩;unfold Jw;rw[if_neg (by omega)];exact TG
    have mc:i=t.length:=by omega
    subst mc;have N7:=hv.l.below eW;rw[EK]at hA;have hXB:∀b,(b<w5.heap.size\/b=eb)->b<wx.heap.size:=λb h=>by omega
    refine aA (LO qb t (by omega) 0 0 eb _ [] (by simp) _ wx hB hqb.1 aN2 N7 (.inr rfl) hXB (by omega) (by unfold ts;simp) (by simp;omega)) ?_;rintro _ wy ⟨rfl,fx,jI⟩;have szy:=jI.size;have hed:zV [] 0 0 t=t:=by unfold zV;simp
    rw[hed]at fx;have TG:=hA.kept jI (λb h=>.inr (.inr h)) (by omega);have yB:=eW.trans (jI.below (by omega) (λb h=>by omega));have aOd:Jw qa back t t.length=dK qb t:=by
     unfold Jw;rw[EK];split
     ·have:t=[]:=List.eq_nil_of_length_eq_zero (by assumption);subst this;exact(Hl qb).symm
     exact hqa.same hqb t
    rw[aOd]at TG;have aM7:=wU qb t;push_cast -dsimp;refine aA (N0 qa ea _ t _ (by omega) wy TG) ?_;rintro _ wz ⟨⟨v1,rfl,o1⟩,iM⟩;have szz:=iM.size;obtain⟨va,vc,rfl⟩:=o1.slice;push_cast -dsimp;refine aA (N0 qb eb _ t _ (by omega) wz (fx.below iM)) ?_;rintro _ wu ⟨⟨v2,rfl,o2⟩,p6⟩;have szu:=p6.size;obtain⟨vb,vd,rfl⟩:=o2.slice;push_cast -dsimp;refine aA (Hq (dK qb t) (dK qb t) (by omega) _ _ _ _ wu (o1.sl.below p6) o2.sl) ?_;rintro _ wv ⟨rfl,aMA⟩;rw[decide_eq_true rfl];push_cast -dsimp;exact yB.trans ((iM.trans ((p6.mono szz).trans (aMA.mono (by omega)))).mono (by have:=yB.size;omega))
   push_cast -dsimp;refine aA (aAg w6 hL) ?_;rintro _ w7 ⟨rfl,kr⟩;push_cast -dsimp;exact uG.trans (kr.mono (by have:=uG.size;omega))
  push_cast -dsimp;refine aA (GW s hs5 f qR lN w5 (hv.below uF) (hN.below uF)) ?_;rintro r6 w6 ⟨hM,mI⟩;have z6:=mI.size;have uG:=uF.trans (mI.mono (by omega));have hM':∃a o,r6=Value.tuple #[.pointer a,.bool o]:=by
   rcases hM with ⟨_,eb,_,rfl,_⟩|⟨_,rfl⟩
   ·exact⟨_,_,rfl⟩
   exact⟨_,_,rfl⟩
  obtain⟨a,o,rfl⟩:=hM';push_cast -dsimp;refine aA (aAg w6 hL) ?_;rintro _ w7 ⟨rfl,kr⟩;push_cast -dsimp;exact uG.trans (kr.mono (by have:=uG.size;omega))
end Go.Proofs.YtemjejfpadnljaaGreatDoor
end
