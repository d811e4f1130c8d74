/- Part. -/
import Derived.Test.YtemjejfpadnljaaGreatDoorM15
import Derived.Test.YtemjejfpadnljaaGreatDoorM13
set_option maxRecDepth 100000
set_option linter.unusedSimpArgs false
set_option linter.unusedVariables false
set_option maxHeartbeats 8000000
namespace Go.Proofs.YtemjejfpadnljaaGreatDoor
open Go.Vc Go.Proofs Go.RowKit Cae
attribute [local irreducible] dN ae ak aY runK aw Sl Vc.Own vc aV cJ a7
theorem Su {s:List UInt8}{f:dX}(hl:s.length<=900)(hp:dy s=.ok f){r:cQ}(hr:r∈f.rules)(h:2000<bO r.before+1\/2000<bO r.after+1):8<s.length/\((43:UInt8)∈s\/(123:UInt8)∈s):=by
 refine⟨?_,?_⟩
 ·by_cases h8:s.length<=8
  ·have:=NW h8 hp r hr;omega
  omega
 by_cases h1:(43:UInt8)∈s
 ·exact .inl h1
 by_cases h2:(123:UInt8)∈s
 ·exact .inr h2
 have:=NV hl h1 h2 hp r hr;omega
theorem aEE (n:Nat):∀(s:List UInt8) (a:Nat),s.length=n->∀u∈ix a s,u.p<=1114111:=by
 induction n using Nat.strongRecOn with
 | _ n ih =>
  intro s a hn u hu;by_cases h:s=[]
  ·subst h;rw[sM]at hu;cases hu
  rw[pY a s h]at hu;rcases List.mem_cons.1 hu with rfl|hu
  ·show (gC s).1<=1114111
   unfold gC
   have:=(tD s).2.2.2;split<;>simp<;>omega
  have h1:=pZ s;have h2:0<s.length:=List.length_pos_iff.2 h;exact ih (s.drop (gC s).2).length (by simp;omega) _ _ rfl u hu
theorem aAb (t:List UInt8):∀p∈bJ (ix 0 t),0<=p/\p<=1114111:=by
 intro p hp;unfold bJ at hp;obtain⟨u,hu,rfl⟩:=List.mem_map.1 hp
 have:=aEE t.length t 0 rfl u hu;omega
def P0 (f:dX)(q:bh):Prop:=bL q=true/\∃nm,gv [] f.cT=.ok nm/\∀ps:List Int,(∀p∈ps,0<=p/\p<=1114111)->dH q ps=mT (bC nm) ps f.rules f.els
def aJR (s:List UInt8):Prop:=8<s.length/\((43:UInt8)∈s\/(123:UInt8)∈s)
def aFY (s:List UInt8)(f:dX)(r:Value):Prop:=(∃q,P0 f q/\r=.tuple #[str (j1 q),.nilIface])\/(aJR s/\∃t u,r=.tuple #[str [],.iface t u])
theorem aBO (s:List UInt8)(hs:s.length<=500)(f:dX)(rY:dy s=.ok f)(jr:ql f=none)(w:World)(hv:Vl w)(hN:iy w) :
  aw Tryz.prog 26 [str s] w λr w'=>aFY s f r/\Below w.heap.size w w':=by
 have Nz:=Cy (by omega) rY;have hpp:=Cz rY (by omega);have cf:=Zp (by omega) rY;refine aD Tryz.func26 rfl (by kernel_rfl) [2,3] rfl ?_;push_cast -dsimp(maxSteps:=9^7) [Tryz.ntmps26];refine aA (zZ s (by omega) w hv.d hv.e hv.g) ?_;rintro r w1 ⟨hP,gS⟩;have z1:=gS.size;rcases hP with ⟨f',v,Kn,rfl,hV⟩|⟨e,pos,b,Kn,_⟩
 ·obtain rfl:f=f':=by rw[rY]at Kn;cases Kn;rfl
  have JL:=hV;obtain⟨cv,rv,cs,rs,rfl,S1,S2,A1,A2⟩:=hV;have Yh:=S1.shape;obtain⟨ca,cc,rfl,hcc⟩:=Yh;have Hy:=S2.shape;obtain⟨ra,rc,rfl,hrc⟩:=Hy;push_cast -dsimp;refine ah (z:=[.slice none 0 0,.slice none 0 0,.bool false]) (by kernel_rfl) ?_;intro w2 bP;have z2:=bP.size;push_cast -dsimp;refine aI (n:=3) (by kernel_rfl) bP.aL rfl (by simp) Pv ?_;intro w3 dA;have z3:=dA.size;have B3:aN w3 w1.heap.size 26 [.slice ca cs.length cc,.slice ra rs.length rc,.bool f.els]:=dA.aL;have YI:Below w1.heap.size w1 w3:=bP.below.trans (dA.kept.below (by omega) (λi h=>by omega));have oV:=gS.trans (YI.mono (by omega));have KW:=JL.below YI;have d3:aB w3 ⟨w1.heap.size,0,none⟩ 0 3=some [.slice ca cs.length cc,.slice ra rs.length rc,.bool f.els]:=B3.aB;push_cast -dsimp[d3];refine aA (Rz f Nz.1 hpp cf (by omega) (by omega) _ _ w3 KW) ?_;rintro _ w5 ⟨hC,jq⟩;have z5:=jq.size;unfold tT at hC;rw[jr]at hC;have pz:=oV.trans (jq.mono (by omega));rcases hC with ⟨nm,p,pv,oo,rfl,hPV,hPO⟩|⟨q,hq,hlen,ev,rfl,hE5⟩
  ·have hlen:=dT.len hPO.2;have hPR:=BC.right hPO (by omega);have aKV:iz (λb=>b=w5.heap.size) w5 pv p:=hPV.narrow (λb hb h=>by omega);have aO3:=aKV;obtain⟨pr,rfl,uR⟩:=aO3;have eN:=uR.shape;obtain⟨pa,pc,rfl,wC⟩:=eN;push_cast -dsimp;refine ah (z:=[.slice none 0 0,.bool false]) (by kernel_rfl) ?_;intro w6 bW;have z6:=bW.size;push_cast -dsimp;refine aI (n:=2) (by kernel_rfl) bW.aL rfl (by simp) (by simp[Value.oneCell']) ?_;intro w7 fQ;have z7:=fQ.size;have aCH:Below w5.heap.size w5 w7:=bW.below.trans (fQ.kept.below (by omega) (λi h=>by omega));have P7:aN w7 w5.heap.size 71 [.slice pa p.rules.length pc,.bool p.els]:=fQ.aL;have p7:aB w7 ⟨w5.heap.size,0,none⟩ 0 2=some [.slice pa p.rules.length pc,.bool p.els]:=P7.aB;have jU:=pz.trans (aCH.mono (by omega));have aO4:=aKV.below aCH;push_cast -dsimp[p7];refine aA (U2 p (xF hPR) (λb=>b=w5.heap.size) _ w7 (λb h=>by omega) (hN.below jU) aO4) ?_;rintro _ w8 ⟨hr,j5⟩;have z8:=j5.size;unfold GZ at hr;rw[if_pos hPR]at hr;obtain⟨out,qv,rfl,pE,hq⟩:=hr;have hq0:=hq;obtain⟨qr,rfl,hqr⟩:=hq;have eN:=hqr.shape;obtain⟨qa,qc,rfl,_⟩:=eN;have hQR:=pE.right' hPR p.els;have P8:=P7.below j5 (by omega);have Hm:=jU.trans (j5.mono (by omega));push_cast -dsimp;refine aI (n:=2) (by kernel_rfl) P8 rfl (by simp) (by simp[Value.oneCell']) ?_;intro w9 El;have z9:=El.size;have B9:aN w9 w5.heap.size 71 [.slice qa out.length qc,.bool p.els]:=El.aL;have p9:aB w9 ⟨w5.heap.size,0,none⟩ 0 2=some [.slice qa out.length qc,.bool p.els]:=B9.aB
   have pd:Below w.heap.size w8 w9:=El.kept.below (by omega) (λi h=>by omega);have hq9:iz (λ_=>False) w9 (.agg #[.slice qa out.length qc,.bool p.els]) ⟨out,p.els⟩:=hq0.mono (λb hb aq=>El.kept.block b aq (λh=>hb h)) (λ_ h=>h.elim);push_cast -dsimp[p9];refine aA (aER ⟨out,p.els⟩ (xF hQR) (λh=>DF h) _ w9 hq9) ?_;rintro _ wA ⟨rfl,hbA⟩;have zA:=hbA.size;rw[if_pos hQR];push_cast -dsimp;refine⟨.inl ⟨_,⟨hQR,nm,oo,λps uR=>?_⟩,rfl⟩,Hm.trans (pd.trans (hbA.mono (by have:=Hm.size;omega)))⟩;exact(Tp pE.Ui _).trans (J9 uR Nz.1.2 hPO)
  have JM:=Su (by omega) rY hq hlen;unfold q9 at hE5;obtain⟨eb5,_,rfl,_⟩:=hE5;push_cast -dsimp;refine ah (z:=[.slice none 0 0,.bool false]) (by kernel_rfl) ?_;intro w6 bW;have z6:=bW.size;push_cast -dsimp;refine aI (n:=2) (by kernel_rfl) bW.aL rfl (by simp) (by simp[Value.oneCell']) ?_;intro w7 fQ;have z7:=fQ.size;have aCH:Below w5.heap.size w5 w7:=bW.below.trans (fQ.kept.below (by omega) (λi h=>by omega));have jU:=pz.trans (aCH.mono (by omega));push_cast -dsimp;exact⟨.inr ⟨JM,_,_,rfl⟩,jU⟩
 rw[rY]at Kn;cases Kn
theorem aMQ (q:bh)(hq:bL q=true)(w:World) :
  aw Tryz.prog 27 [str (j1 q)] w λr w'=>(∃eb,r=.tuple #[.pointer (some ⟨eb,0,none⟩),.nilIface]/\w.heap.size<=eb/\Ax (λj=>j<w.heap.size\/j=eb) w' eb q [] [])/\Below w.heap.size w w':=by
 have hbl:=DF hq;have hwl:(j1 q).length=(im q).length+4:=by unfold j1;rw[List.length_append];rfl
 have hpw:=La hq (Zy hq);generalize j1 q=s at *
 refine aD Tryz.func27 rfl (by kernel_rfl) [2,3] rfl ?_;push_cast -dsimp(maxSteps:=9^7) [Tryz.ntmps27];refine aA (OI s (by omega) w) ?_;rintro r w1 ⟨hP,gS⟩;have z1:=gS.size;unfold xc at hP;rw[hpw]at hP;obtain⟨v,rfl,hV⟩:=hP;have JL:=hV;obtain⟨rv,rfl,hR⟩:=hV;obtain⟨ra,rc,rfl,_⟩:=hR.shape;push_cast -dsimp;refine ah (z:=[.slice none 0 0,.bool false]) (by kernel_rfl) ?_;intro w2 bP;have z2:=bP.size;push_cast -dsimp;refine aI (n:=2) (by kernel_rfl) bP.aL rfl (by simp) (by simp[Value.oneCell']) ?_;intro w3 dA;have z3:=dA.size;have c3:aB w3 ⟨w1.heap.size,0,none⟩ 0 2=some [.slice ra q.rules.length rc,.bool q.els]:=dA.aL.aB;have YI:Below w1.heap.size w1 w3:=bP.below.trans (dA.kept.below (by omega) (λi h=>by omega));push_cast -dsimp[c3];refine aS ?_;intro w4 aj;have z4:=aj.size;have B4:aN w4 w3.heap.size 73 [.slice ra q.rules.length rc,.bool q.els,str [],.slice none 0 0]:=aj.aL;push_cast -dsimp;have uN:Vc.Own w4.heap.size 3 1 aX w4 (.slice none 0 0) []:=Vc.Own.nil (enc:=aX) _ _ (λ_=>rfl) _;refine⟨⟨_,rfl,by omega,⟨⟨_,_,B4,?_,?_,?_⟩⟩⟩,gS.trans ((YI.trans (aj.below.mono (by omega))).mono z1)⟩
 ·exact(((JL.below YI).narrow (X':=λj=>j<w.heap.size\/j=w3.heap.size) (λb hb h=>by rcases h with h|h;exact h;omega))).below aj.below
 ·exact uN.sl.weaken (λb h=>by omega)
 exact uN.di
theorem Xe (l l':List (List UInt8))(hl:l.length<10000000)(X X':Nat->Prop)(v v':Value)(w:World)(hv:Sl X 1 (En Vc.encS) w v l)(Q5:Sl X' 1 (En Vc.encS) w v' l') :
  aw Tryz.prog 23 [v,v'] w λr w'=>r=.bool (decide (l=l'))/\Below w.heap.size w w':=by
 obtain⟨a,c,rfl,hc⟩:=hv.shape;obtain⟨a',c',rfl,hc'⟩:=Q5.shape;refine aD Tryz.func23 rfl (by kernel_rfl) [4] rfl ?_;push_cast -dsimp(maxSteps:=9^7) [Tryz.ntmps23];refine⟨λcf=>⟨?_,Below.refl _ _⟩,λhe=>?_⟩
 ·rw[decide_eq_false];intro h;subst h;omega
 have QO:l.length=l'.length:=by omega
 refine aK [4,5,13,14,15,16,17,18,19,20,21,22,23,24,25] (λz wx=>∃(i:Nat),z 13=.int .i64 i/\i<=l.length/\l.take i=l'.take i/\Below w.heap.size w wx) (λz _=>l.length-(intOf (z 13)).toNat) ?_ ?_
 ·exact⟨0,rfl,Nat.zero_le _,rfl,Below.refl _ _⟩
 intro z wx hI;obtain⟨i,Hc,hi,bI,hb⟩:=hI;push_cast -dsimp[Hc];refine⟨λaq=>?_,λeo=>?_⟩
 ·obtain⟨x,hx,jJ,hd,ht⟩:=ag (l:=l) (i:=i) (by omega);obtain⟨b,o,rfl,hX,aM⟩:=(hv.below hb).get hx;obtain⟨x',ID,aMB,hd',ht'⟩:=ag (l:=l') (i:=i) (by omega);obtain⟨b',o',rfl,hX',Br⟩:=(Q5.below hb).get ID;refine bu (λw'=>∀a,w'.cell? a=wx.cell? a) mixed (by kernel_rfl) (λ_=>rfl) ?_;have c0:wx.cell? ⟨b,o+i,none⟩=some (str x):=by simpa using aM 0 _ rfl
  have Rt:wx.cell? ⟨b',o'+i,none⟩=some (str x'):=by simpa using Br 0 _ rfl
  have d0:wx.drew.cell? ⟨b,o+i,none⟩=some (str x):=c0;have d0':wx.drew.cell? ⟨b',o'+i,none⟩=some (str x'):=Rt;push_cast -dsimp[d0,d0'];refine⟨⟨by omega,by omega⟩,λbQ hC=>by rw[hC,c0];exact rfl,⟨by omega,by omega⟩,λbQ hC=>by rw[hC,Rt];exact rfl,λcf=>?_,λheq=>?_⟩
  ·refine⟨?_,hb.drew⟩;rw[decide_eq_false];intro h;subst h;rw[hx]at ID;cases ID;exact cf rfl
  have heq:x=x':=Classical.byContradiction heq;exact⟨⟨by omega,by omega⟩,⟨i+1,rfl,by omega,by rw[ht,ht',bI,heq],hb.drew⟩,by rw[Hc];simp only[intOf];omega⟩
 refine⟨?_,hb⟩;rw[List.take_of_length_le (by omega),List.take_of_length_le (by omega)]at bI;rw[decide_eq_true bI]
end Go.Proofs.YtemjejfpadnljaaGreatDoor
namespace Cae
section
open Go.Proofs.YtemjejfpadnljaaGreatDoor
def yi:List UInt8:=[97,98,32,99,100]
def qL:bK:=[([97],[(97,122)])]
def Ic:List Int:=[97,98,32,99,100]
theorem Ow {has:bB->Int->Prop}{az:List Int}{k:bB}{i:Nat}{back:Bool}:ma has az (.one k) i back↔∃j p,fS az back i=some (j,p)/\has k p:=by
 unfold ma;simp only[fG]
def stB (i:Nat)(back:Bool):Bool:=match fS Ic back i with
 | some (_,p)=>fO [(97,122)] p
 | none=>false
theorem aFm {p:Nat}{q:Int}:bC qL (.ref p [97]) q↔fO [(97,122)] q=true:=by
 unfold bC;have e:cK qL (.ref p [97])=.ok [(97,122)]:=by kernel_rfl
 rw[e];constructor
 ·rintro⟨s,h,hh⟩;cases h;exact hh
 intro h;exact⟨_,rfl,h⟩
theorem aM2 {p:Nat}{i:Nat}{back:Bool}:ma (bC qL) Ic (.one (.ref p [97])) i back↔stB i back=true:=by
 rw[Ow];unfold stB;cases h:fS Ic back i with
 | none =>
  constructor
  ·rintro⟨j,q,h1,_⟩;cases h1
  intro h;cases h
 | some jp =>
  obtain⟨j,q⟩:=jp;constructor
  ·rintro⟨j',q',h1,h2⟩;cases h1;exact aFm.1 h2
  intro h;exact⟨j,q,rfl,aFm.2 h⟩
open Go.Proofs.YtemjejfpadnljaaGreatDoor
def QE:List UInt8:=[99,108,97,115,115,32,97,32,61,32,91,54,49,45,55,97,93,59,32,107,101,101,112,32,97,58,32,97,59]
def tZ:dX:=⟨[⟨[97],0,(.lit 10 [(97,122)])⟩],[⟨19,false,(.one (.ref 24 [97])),(.one (.ref 27 [97]))⟩],true⟩
theorem aD6:dy QE=.ok tZ:=by kernel_rfl
theorem aJ0:ql tZ=none:=by kernel_rfl
theorem aDP:gv [] tZ.cT=.ok qL:=by kernel_rfl
theorem aRt (i:Nat):Q8 (bC qL) Ic tZ.rules true i=(!(stB i true && stB i false) || decide (i=0) || decide (i=5)):=by
 have hm:u5 (bC qL) Ic ⟨19,false,(.one (.ref 24 [97])),(.one (.ref 27 [97]))⟩ i↔(stB i true && stB i false)=true:=by
  unfold u5;rw[aM2,aM2,Bool.and_eq_true]
 unfold Q8
 show (oG _ _ true i (⟨19,false,(.one (.ref 24 [97])),(.one (.ref 27 [97]))⟩::[]) || decide (i=0) || decide (i=5))=_
 rw[oG,oG];cases hb:(stB i true && stB i false) with
 | true=>rw[if_pos (hm.2 hb)];rfl
 | false=>rw[if_neg (λh=>by have:=hm.1 h;rw[hb]at this;cases this)];rfl
theorem Wq:mT (bC qL) Ic tZ.rules tZ.els=[0,2,3,5]:=by
 have e:Q8 (bC qL) Ic tZ.rules true=λi=>(!(stB i true && stB i false) || decide (i=0) || decide (i=5)):=funext aRt;unfold mT;rw[if_neg (by decide)]
 show (List.range 6).filter (Q8 (bC qL) Ic tZ.rules true)=_
 rw[e];decide +kernel
theorem VC (n:Nat):∀(s:List UInt8) (a:Nat),s.length=n->(ix a s).Pairwise (λu v=>u.at_<v.at_)/\∀u∈ix a s,a<=u.at_/\u.at_<a+s.length:=by
 induction n using Nat.strongRecOn with
 | _ n ih =>
  intro s a hn;by_cases h:s=[]
  ·subst h;rw[sM];exact⟨.nil,λu hu=>by cases hu⟩
  rw[pY a s h];have h1:=pZ s;have h2:=Dd s h;have h3:0<s.length:=List.length_pos_iff.2 h;have h4:(s.drop (gC s).2).length=s.length-(gC s).2:=List.length_drop;obtain⟨i1,i2⟩:=ih (s.drop (gC s).2).length (by omega) (s.drop (gC s).2) (a+(gC s).2) rfl;refine⟨List.pairwise_cons.2 ⟨λv hv=>?_,i1⟩,λu hu=>?_⟩
  ·have:=i2 v hv
   show a<v.at_
   omega
  rcases List.mem_cons.1 hu with rfl|hu
  ·exact⟨Nat.le_refl _,by show a<_;omega⟩
  have:=i2 u hu;omega
end
section
theorem Tg (l:List (List UInt8)):Go.Lib.join l []=l.flatten:=by
 cases l with
 | nil=>rfl
 | cons x r=>rw[Go.Lib.join_cons];simp[Go.Lib.joinTail]
end
end Cae
namespace Go.Proofs.YtemjejfpadnljaaGreatDoor
open Go.Vc Go.Proofs Go.RowKit Cae
attribute [local irreducible] dN ae ak aY runK aw Sl Vc.Own vc aV cJ a7
theorem Ft {s:List UInt8}{i j:Nat}(h:i<j)(hj:j<=(ix 0 s).length):dF s i<dF s j:=by
 obtain⟨h1,h2⟩:=VC s.length s 0 rfl;have hgi:∀k,k<(ix 0 s).length->∃u,(ix 0 s)[k]?=some u/\dF s k=u.at_:=λk hk=>by
  refine⟨_,List.getElem?_eq_getElem hk,?_⟩;unfold dF;rw[if_neg (by omega),List.getD_eq_getElem?_getD,List.getElem?_eq_getElem hk];rfl
 obtain⟨u,hu,eu⟩:=hgi i (by omega);rw[eu];by_cases hjn:j=(ix 0 s).length
 ·have:=h2 u (List.mem_of_getElem? hu);unfold dF;rw[if_pos hjn];omega
 obtain⟨v,hv,ev⟩:=hgi j (by omega);rw[ev];have e1:=(List.getElem?_eq_some_iff.1 hu).2;have e2:=(List.getElem?_eq_some_iff.1 hv).2
 have:=List.pairwise_iff_getElem.1 h1 i j (by omega) (by omega) h;rw[e1,e2]at this;exact this
theorem U0 (s:List UInt8){k:Nat}(hk:k<=(ix 0 s).length):dF s k<=s.length:=by
 by_cases h:k=(ix 0 s).length
 ·unfold dF;rw[if_pos h];exact Nat.le_refl _
 have h1:=Ft (s:=s) (i:=k) (j:=(ix 0 s).length) (by omega) (Nat.le_refl _);have h2:dF s (ix 0 s).length=s.length:=by unfold dF;rw[if_pos rfl]
 omega
theorem vV (p:bh)(s:List UInt8):(br p s).Pairwise (·<·)/\∀k∈br p s,k<=s.length:=by
 have hl:(az s).length=(ix 0 s).length:=by unfold az;rw[List.length_map]
 have hle:=(sR p (az s)).2;rw[hl]at hle;unfold br;refine⟨List.pairwise_map.2 ?_,λk hk=>?_⟩
 ·have hp:(dH p (az s)).Pairwise (·<·):=by
   unfold dH bg;split
   ·exact .nil
   exact List.Pairwise.filter _ List.pairwise_lt_range
  exact List.Pairwise.imp_of_mem (λ_ hb h=>Ft h (hle _ hb)) hp
 obtain⟨j,hj,rfl⟩:=List.mem_map.1 hk;exact U0 s (hle _ hj)
theorem yf (p:bh)(s:List UInt8):(br p s).length<=s.length+1:=by
 have hl:(az s).length=(ix 0 s).length:=by unfold az;rw[List.length_map]
 have h1:=(sR p (az s)).1;have h2:=sL s.length s 0 rfl;unfold br;rw[List.length_map];omega
def kW (s:List UInt8)(l:List Nat)(k:Nat):List (List UInt8):=(List.range k).map λj=>(s.take (l.getD (j+1) 0)).drop (l.getD j 0)
def jx (s:List UInt8)(l:List Nat):List (List UInt8):=kW s l (l.length-1)
theorem zU (s:List UInt8)(l:List Nat)(k:Nat):kW s l (k+1)=kW s l k++[(s.take (l.getD (k+1) 0)).drop (l.getD k 0)]:=by
 unfold kW;rw[List.range_succ,List.map_append];rfl
theorem Js (p:bh)(hr:bL p=true)(hl:nk p)(s:List UInt8)(hs:s.length<1000000)(eb:Nat)(X:Nat->Prop)(t:List UInt8)(at_:List Nat)(w:World)(hg:vH w)(he:Ax X w eb p t at_) :
  aw Tryz.prog 20 [.pointer (some ⟨eb,0,none⟩),str s] w λr w'=>Vc.Own w.heap.size 9 1 Vc.encS w' r (jx s (br p s))/\Below w.heap.size w w':=by
 refine aD Tryz.func20 rfl (by kernel_rfl) [4] rfl ?_;push_cast -dsimp(maxSteps:=9^7) [Tryz.ntmps20];refine aA (xj p hr hl s hs eb X t at_ w hg he) ?_;rintro v w1 ⟨ho,hb⟩;have qw:=hb.size;have aMl:=vV p s;have aP2:=yf p s;generalize br p s=l at *
 obtain⟨x9,rZ⟩:=aMl;have oY:=ho.sl;have eN:=ho.slice;obtain⟨la,lc,rfl⟩:=eN;push_cast -dsimp;refine aK [5,7,11,12,13,14,15,16,17,18,19,20,21,22,23,24,25,26,27,28,29,30] (λz wx=>∃(i:Nat) (ov:Value),z 7=.int .i64 ((i+1:Nat):Int)/\z 5=ov/\(i+1<=l.length\/i=0)/\Vc.Own w1.heap.size 9 1 Vc.encS wx ov (kW s l i)/\Below w1.heap.size w1 wx) (λz _=>l.length-(intOf (z 7)).toNat) ?_ ?_
 ·exact⟨0,_,rfl,rfl,.inr rfl,Vc.Own.nil (enc:=Vc.encS) _ _ (λ_=>rfl) _,Below.refl _ _⟩
 intro z wx hI;obtain⟨i,ov,h7,h5,hi,eU,bS⟩:=hI;have A5:=bS.size;have eN:=eU.slice;obtain⟨oa,oc,rfl⟩:=eN;push_cast -dsimp[h7,h5];refine⟨λaq=>?_,λeo=>?_⟩
 ·have mH:=ag (l:=l) (i:=i) (by omega);obtain⟨x,hx,jJ,_⟩:=mH;have mH:=ag (l:=l) (i:=i+1) (by omega);obtain⟨y,hy,Fa,_⟩:=mH;have hxy:x<y:=by
   have e1:=(List.getElem?_eq_some_iff.1 hx);have e2:=(List.getElem?_eq_some_iff.1 hy);obtain⟨l1,e1⟩:=e1;obtain⟨l2,e2⟩:=e2
   have:=List.pairwise_iff_getElem.1 x9 i (i+1) l1 l2 (by omega);rw[e1,e2]at this;exact this
  have hys:=rZ y Fa;have AV:(kW s l i).length=i:=by unfold kW;simp
  have uR:=zU s l i;rw[show l.getD i 0=x by rw[List.getD_eq_getElem?_getD,hx];rfl,show l.getD (i+1) 0=y by rw[List.getD_eq_getElem?_getD,hy];rfl]at uR
  have mH:=oY.get hx;obtain⟨b,o,rfl,_,hcx⟩:=mH;have mH:=oY.get hy;obtain⟨b',o',QO,_,QN⟩:=mH;cases QO;have q0:w1.cell? ⟨b,o+i,none⟩=some (.int .i64 x):=by simpa[aX] using hcx 0 _ rfl
  have q1:w1.cell? ⟨b,o+(i+1),none⟩=some (.int .i64 y):=by simpa[aX] using QN 0 _ rfl
  have aCX:b<w1.heap.size:=World.block_lt_of_cell? w1 _ q0;have k0:=(bS.cell aCX).trans q0;have k1:=(bS.cell aCX).trans q1;refine bu (λw'=>Below w1.heap.size wx w') mixed (by kernel_rfl) (Below.refl _ _).drew ?_;have L0:∀bQ:World,Below w1.heap.size wx bQ->pP (bQ.cell? ⟨b,o+i,none⟩) (λu=>u=.int .i64 x) .mk:=λbQ h=>by rw[h.cell aCX,k0];exact rfl
  have L1:∀bQ:World,Below w1.heap.size wx bQ->pP (bQ.cell? ⟨b,o+(i+1),none⟩) (λu=>u=.int .i64 y) .mk:=λbQ h=>by rw[h.cell aCX,k1];exact rfl
  have d0:wx.drew.cell? ⟨b,o+i,none⟩=some (.int .i64 x):=k0;have d1:wx.drew.cell? ⟨b,o+(i+1),none⟩=some (.int .i64 y):=k1;have i1:(i:Int)+1-1=i:=by omega
  have i2:((i:Int)+1).toNat=i+1:=by omega
  push_cast -dsimp[d0,d1,i1,i2];refine⟨by omega,by omega,L0,by omega,L1,by omega,?_⟩;refine cF uE rfl rfl (by omega) ?_;intro w4 aj;have Mn:=aj.size;have zd:wx.drew.heap.size=wx.heap.size:=rfl;have ly:=(eU.aH ((Kept.refl (λ_=>False) wx).drew) (λ_ _ h=>h)).new aj;have kK:Below w1.heap.size wx w4:=((da wx).trans aj.below).mono A5;refine⟨kK,?_⟩;push_cast -dsimp;refine aP (base:=w1.heap.size) [(s.take y).drop x] (enc:=Vc.encS) uE ly (by rfl) (λj u hu=>by simpa[Vc.encS] using aj.cell hu) (λx=>by intro u hu;simp[Vc.encS]at hu;subst hu;rfl) (by simp only[AV,List.length_cons,List.length_nil];omega) (by omega) ?_;intro v5 w5 EC tM _;have jq:Below w1.heap.size wx w5:=kK.trans ((Kept.grown tM (λ_ h=>h)).below (by omega) (λj h=>by have:=(ly.block j h).1;omega));rw[<-uR]at EC;refine⟨jq,?_⟩;push_cast -dsimp[h7];exact⟨by omega,⟨i+1,_,rfl,rfl,by omega,EC,bS.trans jq⟩,by simp only[intOf];omega⟩
 have hii:i=l.length-1:=by omega
 subst hii;exact⟨eU.mono (by omega),hb.trans (bS.mono qw)⟩
section
variable {X X' Y:Nat->Prop} {w w':World} {eb:Nat} {p:bh} {t:List UInt8} {bs:List Nat}
theorem Ax.below (h:Ax X w eb p t bs)(hb:Below w.heap.size w w'):Ax X w' eb p t bs:=by
 obtain⟨rv,av,hB,hP,hA,ha⟩:=h.st;exact⟨⟨rv,av,hB.below hb hB.lt,hP.below hb,hA.below hb,ha⟩⟩
theorem Ax.narrow (h:Ax X w eb p t bs)(hX:∀b,b<w.heap.size->X' b->X b):Ax X' w eb p t bs:=by
 obtain⟨rv,av,hB,hP,hA,ha⟩:=h.st;exact⟨⟨rv,av,hB,hP.narrow hX,Sl.narrow hA (by omega) (λ_ _ h=>h) hX,ha⟩⟩
end
def aJS (B:Nat)(s:List UInt8)(f:dX)(r:Value)(w:World):Prop :=
 (∃q eb,P0 f q/\r=.tuple #[.pointer (some ⟨eb,0,none⟩),.bool true]/\B<=eb/\Ax (λj=>j<B\/j=eb) w eb q [] [])\/(aJR s/\r=.tuple #[.pointer none,.bool false])
theorem ZN (s:List UInt8)(hs:s.length<=500)(f:dX)(rY:dy s=.ok f)(jr:ql f=none)(w:World)(hv:Vl w)(hN:iy w) :
  aw Tryz.prog 8 [str s] w λr w'=>aJS w.heap.size s f r w'/\Below w.heap.size w w':=by
 refine aD Tryz.func8 rfl (by kernel_rfl) [2,3] rfl ?_;push_cast -dsimp(maxSteps:=9^7) [Tryz.ntmps8];refine aA (aBO s hs f rY jr w hv hN) ?_;rintro _ w1 ⟨hB,gS⟩;have z1:=gS.size;rcases hB with ⟨q,hq,rfl⟩|⟨hL,t,u,rfl⟩
 ·push_cast -dsimp;refine aA (aMQ q hq.1 w1) ?_;rintro _ w2 ⟨⟨eb,rfl,hle,hE⟩,dt⟩;push_cast -dsimp;exact⟨.inl ⟨q,eb,hq,rfl,by omega,hE.narrow (λb _ h=>h.imp (λh=>by omega) id)⟩,gS.trans (dt.mono z1)⟩
 push_cast -dsimp;exact⟨.inr ⟨hL,rfl⟩,gS⟩
theorem aRD:az yi=Ic:=by kernel_rfl
theorem P0.QE {q:bh}(h:P0 tZ q):br q yi=[0,2,3,5]:=by
 obtain⟨_,nm,hn,hb⟩:=h;rw[aDP]at hn;cases hn;unfold br;rw[hb (az yi) (aAb yi),aRD,Wq];decide +kernel
theorem Wt (w:World)(hv:Vl w)(hN:iy w):aw Tryz.prog 6 [] w λr w'=>r=.bool true/\Below w.heap.size w w':=by
 refine aD Tryz.func6 rfl (by kernel_rfl) [0] rfl ?_;push_cast -dsimp(maxSteps:=9^7) [Tryz.ntmps6];refine aA (ZN QE (by decide) tZ aD6 aJ0 w hv hN) ?_;rintro _ w1 ⟨hM,gS⟩;have z1:=gS.size;rcases hM with ⟨q,eb,hq,rfl,hle,hE⟩|⟨hL,_⟩
 ·have hq5:=hq.QE;have hqL:=xF hq.1;have yq:=hv.l.below gS;push_cast -dsimp;refine aA (xj q hq.1 hqL yi (by decide) eb _ _ _ w1 yq hE) ?_;rintro v w2 ⟨hO,dt⟩;rw[hq5]at hO;have z2:=dt.size;have fP:=gS.trans (dt.mono z1);obtain⟨va,vc,rfl⟩:=hO.slice;push_cast -dsimp;refine cF ay rfl rfl (by omega) ?_;intro w3 dA;have z3:=dA.size;have Mf:Vc.Own w2.heap.size 3 1 aX w3 (.slice (some ⟨w2.heap.size,0,none⟩) 4 4) [0,2,3,5]:=dA.own (by rfl) rfl (λ_=>rfl) (by omega) (by omega);have oV:=fP.trans (dA.below.mono (by omega));push_cast -dsimp;refine aA (Jy [0,2,3,5] [0,2,3,5] (by decide) _ _ _ _ w3 (hO.new dA).sl Mf.sl) ?_;rintro _ w4 ⟨rfl,kK⟩;have z4:=kK.size;have ir:=oV.trans (kK.mono (by omega));have QH:=((hE.below dt).below dA.below).below kK;rw[decide_eq_true rfl];push_cast -dsimp;refine aA (Js q hq.1 hqL yi (by decide) eb _ _ _ w4 (hv.l.below ir) QH) ?_;rintro v w5 ⟨hP,jq⟩;rw[hq5]at hP;have z5:=jq.size;have pz:=ir.trans (jq.mono (by omega));obtain⟨pa,pc,rfl⟩:=hP.slice;push_cast -dsimp;refine cF uE rfl rfl (by omega) ?_;intro w6 bW;have z6:=bW.size;have tI:Vc.Own w5.heap.size 9 1 Vc.encS w6 (.slice (some ⟨w5.heap.size,0,none⟩) 3 3) [[97,98],[32],[99,100]]:=bW.own (by rfl) rfl (λ_=>rfl) (by omega) (by omega);have Hl:=pz.trans (bW.below.mono (by omega));push_cast -dsimp;refine aA (Xe (jx yi [0,2,3,5]) [[97,98],[32],[99,100]] (by decide) _ _ _ _ w6 (hP.new bW).sl tI.sl) ?_;rintro _ w7 ⟨rfl,lV⟩;rw[decide_eq_true (show jx yi [0,2,3,5]=[[97,98],[32],[99,100]] by decide +kernel)]
  push_cast -dsimp;exact Hl.trans (lV.mono (by omega))
 exact absurd hL.2 (by decide)
theorem Yu (l:List (List UInt8))(hl:l.length<10000000)(y:List UInt8)(X:Nat->Prop)(v:Value)(w:World)(hv:Sl X 1 (En Vc.encS) w v l) :
  aw Tryz.prog 40 [v,str y] w λr w'=>(∃n:Int,r=.int .i64 n/\(0<=n↔y∈l))/\Below w.heap.size w w':=by
 obtain⟨a,c,rfl,hc⟩:=hv.shape;refine aD Tryz.func40 rfl (by kernel_rfl) [4] rfl ?_;push_cast -dsimp(maxSteps:=9^7) [Tryz.ntmps40];refine aK [4,5,8,9,10,11,12,13,14,15,16,17,18] (λz wx=>∃(i:Nat),z 8=.int .i64 i/\i<=l.length/\(y ∉ l.take i)/\Below w.heap.size w wx) (λz _=>l.length-(intOf (z 8)).toNat) ?_ ?_
 ·exact⟨0,rfl,Nat.zero_le _,by simp,Below.refl _ _⟩
 intro z wx hI;obtain⟨i,h8,hi,bI,hb⟩:=hI;push_cast -dsimp[h8];refine⟨λaq=>?_,λeo=>?_⟩
 ·obtain⟨x,hx,jJ,hd,ht⟩:=ag (l:=l) (i:=i) (by omega);obtain⟨b,o,rfl,hX,aM⟩:=(hv.below hb).get hx;have c0:wx.cell? ⟨b,o+i,none⟩=some (str x):=by simpa using aM 0 _ rfl
  push_cast -dsimp[c0];refine⟨⟨by omega,by omega⟩,λheq=>?_,λcf=>?_⟩
  ·exact⟨⟨i,rfl,⟨λ_=>by rw[heq];exact jJ,λ_=>by omega⟩⟩,hb⟩
  refine⟨⟨by omega,by omega⟩,⟨i+1,rfl,by omega,?_,hb⟩,by rw[h8];simp only[intOf];omega⟩;rw[ht,List.mem_append,List.mem_singleton];rintro(hy|rfl)
  ·exact bI hy
  exact cf rfl
 refine⟨⟨-1,rfl,?_⟩,hb⟩;rw[List.take_of_length_le (by omega)]at bI;constructor
 ·intro h;omega
 intro h;exact absurd h bI
theorem Jh (l:List (List UInt8))(hl:l.length<10000000)(y:List UInt8)(X:Nat->Prop)(v:Value)(w:World)(hv:Sl X 1 (En Vc.encS) w v l) :
  aw Tryz.prog 22 [v,str y] w λr w'=>(∃b:Bool,r=.bool b/\(b=true↔y∈l))/\Below w.heap.size w w':=by
 refine aD Tryz.func22 rfl (by kernel_rfl) [4] rfl ?_;push_cast -dsimp(maxSteps:=9^7) [Tryz.ntmps22];refine aA (Yu l hl y X v w hv) ?_;rintro r w1 ⟨⟨n,rfl,hn⟩,hb⟩;push_cast -dsimp;exact⟨⟨_,rfl,by rw[decide_eq_true_iff];exact hn⟩,hb⟩
theorem DC {s:List UInt8}{l:List Nat}(hr:l.Pairwise (·<·))(hl:∀k∈l,k<=s.length):∀k,k<l.length->(kW s l k).flatten=(s.take (l.getD k 0)).drop (l.getD 0 0)
 | 0,_=>by
  unfold kW;simp
 | k+1,h=>by
  have hg:∀i,(hi:i<l.length)->l.getD i 0=l[i]:=λi hi=>by rw[List.getD_eq_getElem?_getD,List.getElem?_eq_getElem hi];rfl
  have h1:l.getD k 0<l.getD (k+1) 0:=by
   rw[hg k (by omega),hg (k+1) h];exact List.pairwise_iff_getElem.1 hr k (k+1) (by omega) h (by omega)
  have h0:l.getD 0 0<=l.getD k 0:=by
   rw[hg 0 (by omega),hg k (by omega)];by_cases hk:k=0
   ·subst hk;exact Nat.le_refl _
   exact Nat.le_of_lt (List.pairwise_iff_getElem.1 hr 0 k (by omega) (by omega) (by omega))
  have h2:l.getD (k+1) 0<=s.length:=by rw[hg (k+1) h];exact hl _ (List.getElem_mem h)
  rw[zU,List.flatten_append,DC hr hl k (by omega)];simp only[List.flatten_cons,List.flatten_nil,List.append_nil];generalize l.getD (k+1) 0=c at *
  generalize l.getD k 0=b at *
  generalize l.getD 0 0=a at *
  have e:s.take c=s.take b++(s.take c).drop b:=by
   have:=List.take_append_drop b (s.take c);rw[List.take_take,Nat.min_eq_left (by omega)]at this;exact this.symm
  have e2:(s.take b++(s.take c).drop b).drop a=(s.take b).drop a++(s.take c).drop b:=List.drop_append_of_le_length (by rw[List.length_take];omega);rw[<-e2,<-e]
theorem Gs {q:bh}{s:List UInt8}(h:s≠[]):2<=(br q s).length/\(br q s).getD 0 0=0/\(br q s).getD ((br q s).length-1) 0=s.length:=by
 have hu:=pY 0 s h;have hlen:(az s).length=(ix 0 s).length:=by unfold az;rw[List.length_map]
 have hn:0<(az s).length:=by rw[hlen,hu];simp
 have cf:az s≠[]:=λe=>by rw[e]at hn;simp at hn
 have p0:dF s 0=0:=by
  unfold dF;rw[if_neg (by omega),hu];rfl
 have pn:dF s (az s).length=s.length:=by unfold dF;rw[if_pos hlen]
 have b0:gz q (az s) 0=true:=by simp[gz]
 have bn:gz q (az s) (az s).length=true:=by simp[gz]
 obtain⟨m,hm⟩:∃m,(az s).length=m+1:=⟨(az s).length-1,by omega⟩;have hb:dH q (az s)=0::(((List.range m).map (·+1)).filter (gz q (az s))++[(az s).length]):=by
  unfold dH bg;rw[if_neg cf,hm,List.range_succ,List.range_succ_eq_map,List.filter_append,List.filter_cons_of_pos b0,List.filter_cons_of_pos (by rw[<-hm];exact bn),List.filter_nil];rfl
 have he:br q s=0::((((List.range m).map (·+1)).filter (gz q (az s))).map (dF s)++[s.length]):=by
  unfold br;rw[hb,List.map_cons,List.map_append,List.map_cons,List.map_nil,p0,pn]
 rw[he];refine⟨by simp,rfl,?_⟩;rw[List.getD_eq_getElem?_getD,List.length_cons,Nat.add_sub_cancel,List.length_append,List.length_singleton,List.getElem?_cons_succ,List.getElem?_append_right (Nat.le_refl _),Nat.sub_self];rfl
theorem Lb {q:bh}{s:List UInt8}:Lib.join (jx s (br q s)) []=s/\([]:List UInt8) ∉ jx s (br q s)/\((jx s (br q s)).length=0↔s=[])/\(s≠[]->(jx s (br q s)).length=(br q s).length-1/\1<=(br q s).length):=by
 have hr:=vV q s;have AV:∀l:List Nat,(jx s l).length=l.length-1:=λl=>by unfold jx kW;simp
 have ep:([]:List UInt8) ∉ jx s (br q s):=λh=>by
  unfold jx kW at h;obtain⟨j,hj,he⟩:=List.mem_map.1 h;rw[List.mem_range]at hj;generalize br q s=l at *
  have hg:∀i,(hi:i<l.length)->l.getD i 0=l[i]:=λi hi=>by rw[List.getD_eq_getElem?_getD,List.getElem?_eq_getElem hi];rfl
  have h1:l.getD j 0<l.getD (j+1) 0:=by
   rw[hg j (by omega),hg (j+1) (by omega)];exact List.pairwise_iff_getElem.1 hr.1 j (j+1) (by omega) (by omega) (by omega)
  have h2:l.getD (j+1) 0<=s.length:=by rw[hg (j+1) (by omega)];exact hr.2 _ (List.getElem_mem (by omega))
  have:=congrArg List.length he;rw[List.length_drop,List.length_take,List.length_nil]at this;omega
 by_cases h:s=[]
 ·subst h;unfold jx;have e:br q []=[]:=by
   unfold br;have:az []=[]:=by unfold az;rw[sM];rfl
   rw[this];unfold dH;rw[if_pos rfl];rfl
  rw[e];exact⟨rfl,by simp[kW],by simp[kW],λh=>absurd rfl h⟩
 obtain⟨h2,h0,hn⟩:=Gs (q:=q) h;refine⟨?_,ep,?_,λ_=>⟨AV _,by omega⟩⟩
 ·rw[Tg];unfold jx;rw[DC hr.1 hr.2 _ (by omega),h0,hn,List.take_length];rfl
 rw[AV];constructor
 ·intro hh;omega
 intro hh;exact absurd hh h
theorem Gv (s t:List UInt8)(w:World)(hv:Vl w)(hN:iy w):aw Tryz.prog 5 [str s,str t] w λr w'=>r=.bool true/\Below w.heap.size w w':=by
 refine aD Tryz.func5 rfl (by kernel_rfl) [4] rfl ?_;push_cast -dsimp(maxSteps:=9^7) [Tryz.ntmps5];refine⟨λaFA=>Below.refl _ _,λHz=>?_⟩;refine aA (Wt w hv hN) ?_;rintro _ w1 ⟨rfl,gS⟩;have z1:=gS.size;have hv1:=hv.below gS;push_cast -dsimp;refine aA (aAp s w1 hv1.d hv1.e hv1.g) ?_;rintro _ w2 ⟨⟨a1,n1,k1,a2,n2,k2,e,b,rfl,aHO⟩,dt⟩;have z2:=dt.size;have fP:=gS.trans (dt.mono z1);push_cast -dsimp;refine ah (z:=[.slice none 0 0,.slice none 0 0,.bool false]) (by kernel_rfl) ?_;intro w3 dA;have z3:=dA.size;push_cast -dsimp;refine aI (n:=3) (by kernel_rfl) dA.aL rfl (by simp) Pv ?_;intro w4 aj;have z4:=aj.size;have B4:aN w4 w2.heap.size 26 [.slice a1 n1 k1,.slice a2 n2 k2,.bool e]:=aj.aL;have EV:Below w2.heap.size w2 w4:=dA.below.trans (aj.kept.below (by omega) (λi h=>by omega));have ir:=fP.trans (EV.mono (by omega));cases b with
 | false =>
  push_cast -dsimp;exact ir
 | true =>
  obtain⟨hs5,f,rY,jr,hV⟩:=aHO rfl;have Nz:=Cy (by omega) rY;have hpp:=Cz rY (by omega);have hV4:=hV.below EV;obtain⟨cv,rv,cs,rs,FU,S1,S2,A1,A2⟩:=hV;have Yh:=S1.shape;obtain⟨_,_,rfl,hcc⟩:=Yh;have Hy:=S2.shape;obtain⟨_,_,rfl,hrc⟩:=Hy;simp only[Value.agg.injEq,Array.mk.injEq,List.cons.injEq,Value.slice.injEq,Value.bool.injEq,and_true]at FU;obtain⟨⟨rfl,rfl,rfl⟩,⟨rfl,rfl,rfl⟩,rfl⟩:=FU;have Hw:=dT.len A2;push_cast -dsimp;refine aA (ZN s hs5 f rY jr w4 (hv.below ir) (hN.below ir)) ?_;rintro _ w5 ⟨hM,jq⟩;have z5:=jq.size;have pz:=ir.trans (jq.mono (by omega));rcases hM with ⟨q,ea,hqa,rfl,hla,hEa⟩|⟨hL,rfl⟩
  ·have hqL:=xF hqa.1;have B5:=B4.below jq (by omega);push_cast -dsimp;refine aA (Jq t (by omega) w5 (hv.l.below pz)) ?_;rintro uv w6 ⟨hU,lk⟩;have z6:=lk.size;have B6:=B5.below lk (by omega);have Hl:=pz.trans (lk.mono (by omega));have d6:aB w6 ⟨w2.heap.size,0,none⟩ 0 3=some _:=B6.aB;have uV:=sL t.length t 0 rfl;have eN:=hU.slice;obtain⟨ua,uc,rfl⟩:=eN;have Sr:kI (λ_=>False) w6 _ f:=((hV4.below jq).below lk).mono (Kept.refl (λ_=>False) _) (λ_ h=>h.elim) (λ_ h=>h.elim);push_cast -dsimp[d6];refine aA (Ws f Nz.1 hpp (by omega) (by omega) (ix 0 t) (by omega) (λ_=>False) _ _ w6 Sr (hU.sl.weaken (λ_ h=>h.elim))) ?_;rintro _ w7 ⟨hA,lV⟩;have z7:=lV.size;unfold Vs at hA;rw[jr]at hA;obtain⟨nm,av,oo,rfl,hAO⟩:=hA;have aQW:=hqa;obtain⟨_,nm',aL4,JO⟩:=aQW;have Kk:nm'=nm:=by
    rw[oo]at aL4;cases aL4;rfl
   subst Kk;have hM:mT (bC nm') (bJ (ix 0 t)) f.rules f.els=dH q (az t):=(JO (az t) (aAb t)).symm;rw[hM]at hAO;have eN:=hAO.slice;obtain⟨aa,ac,rfl⟩:=eN;have jU:=Hl.trans (lV.mono (by omega));have hE7:=(hEa.below lk).below lV;push_cast -dsimp;refine aA (xj q hqa.1 hqL t (by omega) ea _ _ _ w7 (hv.l.below jU) hE7) ?_;rintro v8 w8 ⟨hO,j5⟩;have z8:=j5.size;have Hm:=jU.trans (j5.mono (by have:=jU.size;omega));have tf:(br q t).length=(dH q (az t)).length:=by unfold br;rw[List.length_map]
   have QW:=sR q (az t);have AV:(az t).length=(ix 0 t).length:=by unfold az;rw[List.length_map]
   have aP2:=yf q t;have eN:=hO.slice;obtain⟨oa,oc,rfl⟩:=eN;push_cast -dsimp;have Nv:dH q (az t)=dH q (az t):=rfl;have heq:br q t=(dH q (az t)).map (dF t):=rfl;have hA8:=hAO.sl.below j5;have hU8:=(hU.sl.below lV).below j5;have hO8:=hO.sl;refine⟨λcf=>by omega,λ_=>?_⟩;generalize dH q (az t)=ks at *
   refine aK [4,12,13,54,55,56,57,58,59,60,61,62,63,64,65,66,67,68,69,70,71,72,73,74,75,76,77,78,79,80,81,82] (λz wx=>∃i:Nat,z 12=.int .i64 i/\i<=ks.length/\Below w8.heap.size w8 wx) (λz _=>ks.length-(intOf (z 12)).toNat) ?_ ?_
   ·exact⟨0,rfl,Nat.zero_le _,Below.refl _ _⟩
   intro z wx hI;obtain⟨i,AK,hi,bS⟩:=hI;have A5:=bS.size;push_cast -dsimp[AK];refine⟨λaq=>?_,λeo=>?_⟩
   ·have mH:=ag (l:=ks) (i:=i) (by omega);obtain⟨k,hk,vB,_⟩:=mH;have aQq:=QW.2 k vB;have hek:(br q t)[i]?=some (dF t k):=by rw[heq,List.getElem?_map,hk];rfl
    have mH:=(hA8.below bS).get hk;obtain⟨b1,o1,rfl,_,EX⟩:=mH;have k1':wx.cell? ⟨b1,o1+i,none⟩=some (.int .i64 k):=by simpa[aX] using EX 0 _ rfl
    have mH:=(hO8.below bS).get hek;obtain⟨b2,o2,rfl,_,tJ⟩:=mH;have k2':wx.cell? ⟨b2,o2+i,none⟩=some (.int .i64 (dF t k)):=by simpa[aX] using tJ 0 _ rfl
    push_cast -dsimp[k1',k2'];refine⟨by omega,λBv=>?_,λEa=>?_⟩
    ·have mH:=ag (l:=ix 0 t) (i:=k) (by omega);obtain⟨u,hu,_⟩:=mH;have mH:=(hU8.below bS).get hu;obtain⟨b3,o3,rfl,_,hc3⟩:=mH;have k3':wx.cell? ⟨b3,o3+k*3+1,none⟩=some (.int .i64 u.at_):=hc3 1 _ rfl;have aHI:dF t k=u.at_:=by unfold dF;rw[if_neg (by omega),List.getD_eq_getElem?_getD,hu];rfl
     rw[aHI]at k2';push_cast -dsimp[k1',k2',k3'];exact⟨by omega,by omega,by omega,by omega,⟨i+1,rfl,by omega,bS⟩,by rw[AK];simp only[intOf];omega⟩
    have aHI:dF t k=t.length:=by unfold dF;rw[if_pos (by omega)]
    rw[aHI]at k2';push_cast -dsimp[k2'];exact⟨by omega,λcf=>by omega,λ_=>⟨by omega,⟨i+1,rfl,by omega,bS⟩,by rw[AK];simp only[intOf];omega⟩⟩
   have Bq:=Hm.trans (bS.mono (by have:=Hm.size;omega));have hpw:=Lb (q:=q) (s:=t);refine aA (Js q hqa.1 hqL t (by omega) ea _ _ _ wx (hv.l.below Bq) ((hE7.below j5).below bS)) ?_;rintro v9 w9 ⟨hP,pd⟩;have z9:=pd.size;generalize jx t (br q t)=ps at *
   obtain⟨p1,p2,p3,p4⟩:=hpw;have aWF:ps.length<=61:=by
    by_cases ht:t=[]
    ·have:=p3.2 ht;omega
    have:=p4 ht;omega
   have eN:=hP.slice;obtain⟨pa,pc,rfl⟩:=eN;have aLm:=Bq.trans (pd.mono (by have:=Bq.size;omega));push_cast -dsimp;refine aA (ZA ps [] (by omega) (by rw[p1];omega) _ _ w9 hP.sl) ?_;rintro _ wA ⟨rfl,hbA⟩;have zA:=hbA.size;have aLn:=aLm.trans (hbA.mono (by have:=aLm.size;omega));rw[p1];push_cast -dsimp;refine aA (Jh ps (by omega) [] _ _ wA (hP.sl.below hbA)) ?_;rintro _ wB ⟨⟨b,rfl,hb⟩,JM⟩;have aLo:=aLn.trans (JM.mono (by have:=aLn.size;omega));obtain rfl:b=false:=by
    cases b with
    | false=>rfl
    | true=>exact absurd (hb.1 rfl) p2
   by_cases ht:t=[]
   ·have h0:=p3.2 ht;have EO:((ps.length:Nat):Int)=0:=by omega
    subst ht;push_cast -dsimp[EO,beq_self_eq_true];exact aLo
   have h4:=p4 ht;have EO:¬((ps.length:Nat):Int)=0:=λhh=>ht (p3.1 (by omega));have yk:((ps.length:Nat):Int)=(br q t).length-1:=by omega
   have h2':¬((br q t).length:Int)-1=0:=by omega
   push_cast -dsimp[ht,yk,h2',decide_false,beq_self_eq_true];exact⟨by omega,aLo⟩
  push_cast -dsimp;refine aA (YH s w5 hL.1 (by omega) hL.2) ?_;rintro _ w7 ⟨rfl,lV⟩;push_cast -dsimp;exact pz.trans (lV.mono (by omega))
end Go.Proofs.YtemjejfpadnljaaGreatDoor
