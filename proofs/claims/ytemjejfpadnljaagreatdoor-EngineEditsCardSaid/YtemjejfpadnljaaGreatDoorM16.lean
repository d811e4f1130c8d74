/- Texts of this claim, merged: Vm0, En4, EqS, Pmean6, Pbrk, En5, En6, En7, En8, EnO. -/
import Derived.Test.YtemjejfpadnljaaGreatDoorM15
import Derived.Test.YtemjejfpadnljaaGreatDoorM13
set_option maxRecDepth 100000
set_option linter.unusedSimpArgs false
set_option linter.unusedVariables false
set_option maxHeartbeats 8000000
namespace Go.Proofs.YtemjejfpadnljaaGreatDoor
open Go.Vc Go.Proofs Go.RowKit Cae
attribute [local irreducible] cZ ab ai aX runK ar Sl Vc.Own vc aS bu aZ
theorem Qv {s:List UInt8}{f:de}(hl:s.length<=900)(hp:da s=.ok f){r:dJ}(hr:r∈f.rules)(h:2000<bG r.before+1\/2000<bG r.after+1):8<s.length/\((43:UInt8)∈s\/(123:UInt8)∈s):=by
 refine⟨?_,?_⟩
 ·by_cases h8:s.length<=8
  ·have:=Lg h8 hp r hr;omega
  omega
 by_cases h1:(43:UInt8)∈s
 ·exact .inl h1
 by_cases h2:(123:UInt8)∈s
 ·exact .inr h2
 have:=Lf hl h1 h2 hp r hr;omega
theorem aCP (n:Nat):∀(s:List UInt8) (a:Nat),s.length=n->∀u∈j9 a s,u.p<=1114111:=by
 induction n using Nat.strongRecOn with
 | _ n ih =>
  intro s a hn u hu;by_cases h:s=[]
  ·subst h;rw[rE]at hu;cases hu
  rw[r8 a s h]at hu;rcases List.mem_cons.1 hu with rfl|hu
  ·show (fb s).1<=1114111
   unfold fb
   have:=(re s).2.2.2;split<;>simp<;>omega
  have h1:=oY s;have h2:0<s.length:=List.length_pos_iff.2 h;exact ih (s.drop (fb s).2).length (by simp;omega) _ _ rfl u hu
theorem aGD (t:List UInt8):∀p∈aKU (j9 0 t),0<=p/\p<=1114111:=by
 intro p hp;unfold aKU at hp;obtain⟨u,hu,rfl⟩:=List.mem_map.1 hp
 have:=aCP t.length t 0 rfl u hu;omega
theorem fz.lens {has:ax->Int->Prop}{back:Bool}{x:aG}{c:aD}(h:fz has back x c):jt c/\c.ins.length<1000000000/\c.sets.length<1000000000:=by
 have h1:=h.aKM;have h2:=h.sets;exact⟨λs hs=>by have:=eI (h.right s hs);omega,by omega,by omega⟩
def Na (f:de)(q:bN):Prop:=az q=true/\∃nm,gm [] f.cO=.ok nm/\∀ps:List Int,(∀p∈ps,0<=p/\p<=1114111)->fH q ps=tw (gj nm) ps f.rules f.dG
def aHV (s:List UInt8):Prop:=8<s.length/\((43:UInt8)∈s\/(123:UInt8)∈s)
def aD5 (s:List UInt8)(f:de)(r:Value):Prop:=(∃q,Na f q/\r=.tuple #[str (jA q),.nilIface])\/(aHV s/\∃t u,r=.tuple #[str [],.iface t u])
theorem Zq (s:List UInt8)(hs:s.length<=500)(f:de)(tB:da s=.ok f)(mo:rj f=none)(w:World)(hv:Vl w)(hN:iJ w) :
  ar Tryz.prog 26 [str s] w λr w'=>aD5 s f r/\Below w.heap.size w w':=by
 have RU:=Jr (by omega) tB;have hpp:=Js tB (by omega);have cY:=YK (by omega) tB;refine aE Tryz.func26 rfl (by kernel_rfl) [2,3] rfl ?_;push_cast -dsimp(maxSteps:=9^7) [Tryz.ntmps26];refine aA (xq s (by omega) w hv.d hv.e hv.g) ?_;rintro r w1 ⟨hP,fe⟩;have z1:=fe.size;rcases hP with ⟨f',v,JL,rfl,hV⟩|⟨e,pos,b,JL,_⟩
 ·obtain rfl:f=f':=by rw[tB]at JL;cases JL;rfl
  have Kt:=hV;obtain⟨cv,rv,cs,rs,rfl,S1,S2,A1,A2⟩:=hV;have aFT:=S1.shape;obtain⟨ca,cc,rfl,hcc⟩:=aFT;have MR:=S2.shape;obtain⟨ra,rc,rfl,hrc⟩:=MR;push_cast -dsimp;refine aq (z:=[.slice none 0 0,.slice none 0 0,.bool false]) (by kernel_rfl) ?_;intro w2 bJ;have z2:=bJ.size;push_cast -dsimp;refine aH (n:=3) (by kernel_rfl) bJ.aL rfl (by simp) Nk ?_;intro w3 cN;have z3:=cN.size;have B3:aM w3 w1.heap.size 26 [.slice ca cs.length cc,.slice ra rs.length rc,.bool f.dG]:=cN.aL;have W6:Below w1.heap.size w1 w3:=bJ.below.trans (cN.kept.below (by omega) (λi h=>by omega));have qT:=fe.trans (W6.mono (by omega));have Ih:=Kt.below W6;have d3:aB w3 ⟨w1.heap.size,0,none⟩ 0 3=some [.slice ca cs.length cc,.slice ra rs.length rc,.bool f.dG]:=B3.aB;push_cast -dsimp[d3];refine aA (QE f RU.1 hpp cY (by omega) (by omega) _ _ w3 Ih) ?_;rintro _ w5 ⟨hC,mn⟩;have z5:=mn.size;unfold rz at hC;rw[mo]at hC;have Cx:=qT.trans (mn.mono (by omega));rcases hC with ⟨nm,p,pv,qY,rfl,hPV,hPO⟩|⟨q,hq,hlen,ev,rfl,hE5⟩
  ·have hlen:=dX.len hPO.2;have hPR:=zH.right hPO (by omega);have aIV:gd (λb=>b=w5.heap.size) w5 pv p:=hPV.narrow (λb hb h=>by omega);have aMR:=aIV;obtain⟨pr,rfl,tC⟩:=aMR;have eN:=tC.shape;obtain⟨pa,pc,rfl,CX⟩:=eN;push_cast -dsimp;refine aq (z:=[.slice none 0 0,.bool false]) (by kernel_rfl) ?_;intro w6 bQ;have z6:=bQ.size;push_cast -dsimp;refine aH (n:=2) (by kernel_rfl) bQ.aL rfl (by simp) (by simp[Value.oneCell']) ?_;intro w7 fB;have z7:=fB.size;have aAU:Below w5.heap.size w5 w7:=bQ.below.trans (fB.kept.below (by omega) (λi h=>by omega));have P7:aM w7 w5.heap.size 71 [.slice pa p.rules.length pc,.bool p.dG]:=fB.aL;have p7:aB w7 ⟨w5.heap.size,0,none⟩ 0 2=some [.slice pa p.rules.length pc,.bool p.dG]:=P7.aB;have AR:=Cx.trans (aAU.mono (by omega));have aMS:=aIV.below aAU;push_cast -dsimp[p7];refine aA (Si p (vD hPR) (λb=>b=w5.heap.size) _ w7 (λb h=>by omega) (hN.below AR) aMS) ?_;rintro _ w8 ⟨hr,mh⟩;have z8:=mh.size;unfold Ei at hr;rw[if_pos hPR]at hr;obtain⟨out,qv,rfl,oG,hq⟩:=hr;have hq0:=hq;obtain⟨qr,rfl,hqr⟩:=hq;have eN:=hqr.shape;obtain⟨qa,qc,rfl,_⟩:=eN;have hQR:=oG.right' hPR p.dG;have P8:=P7.below mh (by omega);have Iq:=AR.trans (mh.mono (by omega));push_cast -dsimp;refine aH (n:=2) (by kernel_rfl) P8 rfl (by simp) (by simp[Value.oneCell']) ?_;intro w9 DH;have z9:=DH.size;have B9:aM w9 w5.heap.size 71 [.slice qa out.length qc,.bool p.dG]:=DH.aL;have p9:aB w9 ⟨w5.heap.size,0,none⟩ 0 2=some [.slice qa out.length qc,.bool p.dG]:=B9.aB
   have lS:Below w.heap.size w8 w9:=DH.kept.below (by omega) (λi h=>by omega);have hq9:gd (λ_=>False) w9 (.agg #[.slice qa out.length qc,.bool p.dG]) ⟨out,p.dG⟩:=hq0.mono (λb hb ao=>DH.kept.block b ao (λh=>hb h)) (λ_ h=>h.elim);push_cast -dsimp[p9];refine aA (aC2 ⟨out,p.dG⟩ (vD hQR) (λh=>BH h) _ w9 hq9) ?_;rintro _ wA ⟨rfl,Il⟩;have zA:=Il.size;rw[if_pos hQR];push_cast -dsimp;refine⟨.inl ⟨_,⟨hQR,nm,qY,λps tC=>?_⟩,rfl⟩,Iq.trans (lS.trans (Il.mono (by have:=Iq.size;omega)))⟩;exact(SA oG.TA _).trans (Hn tC RU.1.2 hPO)
  have sk:=Qv (by omega) tB hq hlen;unfold zD at hE5;obtain⟨eb5,_,rfl,_⟩:=hE5;push_cast -dsimp;refine aq (z:=[.slice none 0 0,.bool false]) (by kernel_rfl) ?_;intro w6 bQ;have z6:=bQ.size;push_cast -dsimp;refine aH (n:=2) (by kernel_rfl) bQ.aL rfl (by simp) (by simp[Value.oneCell']) ?_;intro w7 fB;have z7:=fB.size;have aAU:Below w5.heap.size w5 w7:=bQ.below.trans (fB.kept.below (by omega) (λi h=>by omega));have AR:=Cx.trans (aAU.mono (by omega));push_cast -dsimp;exact⟨.inr ⟨sk,_,_,rfl⟩,AR⟩
 rw[tB]at JL;cases JL
theorem aKO (q:bN)(hq:az q=true)(w:World) :
  ar Tryz.prog 27 [str (jA q)] w λr w'=>(∃eb,r=.tuple #[.pointer (some ⟨eb,0,none⟩),.nilIface]/\w.heap.size<=eb/\kL (λj=>j<w.heap.size\/j=eb) w' eb q [] [])/\Below w.heap.size w w':=by
 have Z0:=BH hq;have hwl:(jA q).length=(iE q).length+4:=by unfold jA;rw[List.length_append];rfl
 have hpw:=Jt hq (YT hq);generalize jA q=s at *
 refine aE Tryz.func27 rfl (by kernel_rfl) [2,3] rfl ?_;push_cast -dsimp(maxSteps:=9^7) [Tryz.ntmps27];refine aA (MY s (by omega) w) ?_;rintro r w1 ⟨hP,fe⟩;have z1:=fe.size;unfold vf at hP;rw[hpw]at hP;obtain⟨v,rfl,hV⟩:=hP;have Kt:=hV;obtain⟨rv,rfl,hR⟩:=hV;obtain⟨ra,rc,rfl,_⟩:=hR.shape;push_cast -dsimp;refine aq (z:=[.slice none 0 0,.bool false]) (by kernel_rfl) ?_;intro w2 bJ;have z2:=bJ.size;push_cast -dsimp;refine aH (n:=2) (by kernel_rfl) bJ.aL rfl (by simp) (by simp[Value.oneCell']) ?_;intro w3 cN;have z3:=cN.size;have c3:aB w3 ⟨w1.heap.size,0,none⟩ 0 2=some [.slice ra q.rules.length rc,.bool q.dG]:=cN.aL.aB;have W6:Below w1.heap.size w1 w3:=bJ.below.trans (cN.kept.below (by omega) (λi h=>by omega));push_cast -dsimp[c3];refine aR ?_;intro w4 ah;have z4:=ah.size;have B4:aM w4 w3.heap.size 73 [.slice ra q.rules.length rc,.bool q.dG,str [],.slice none 0 0]:=ah.aL;push_cast -dsimp;have AW:Vc.Own w4.heap.size 3 1 bH w4 (.slice none 0 0) []:=Vc.Own.nil (enc:=bH) _ _ (λ_=>rfl) _;refine⟨⟨_,rfl,by omega,⟨⟨_,_,B4,?_,?_,?_⟩⟩⟩,fe.trans ((W6.trans (ah.below.mono (by omega))).mono z1)⟩
 ·exact(((Kt.below W6).narrow (X':=λj=>j<w.heap.size\/j=w3.heap.size) (λb hb h=>by rcases h with h|h;exact h;omega))).below ah.below
 ·exact AW.sl.weaken (λb h=>by omega)
 exact AW.kW
theorem Vz (l l':List (List UInt8))(hl:l.length<10000000)(X X':Nat->Prop)(v v':Value)(w:World)(hv:Sl X 1 (En Vc.encS) w v l)(OU:Sl X' 1 (En Vc.encS) w v' l') :
  ar Tryz.prog 23 [v,v'] w λr w'=>r=.bool (decide (l=l'))/\Below w.heap.size w w':=by
 obtain⟨a,c,rfl,hc⟩:=hv.shape;obtain⟨a',c',rfl,hc'⟩:=OU.shape;refine aE Tryz.func23 rfl (by kernel_rfl) [4] rfl ?_;push_cast -dsimp(maxSteps:=9^7) [Tryz.ntmps23];refine⟨λcY=>⟨?_,Below.refl _ _⟩,λhe=>?_⟩
 ·rw[decide_eq_false];intro h;subst h;omega
 have OD:l.length=l'.length:=by omega
 refine aK [4,5,13,14,15,16,17,18,19,20,21,22,23,24,25] (λz wx=>∃(i:Nat),z 13=.int .i64 i/\i<=l.length/\l.take i=l'.take i/\Below w.heap.size w wx) (λz _=>l.length-(intOf (z 13)).toNat) ?_ ?_
 ·exact⟨0,rfl,Nat.zero_le _,rfl,Below.refl _ _⟩
 intro z wx hI;obtain⟨i,GF,hi,bO,hb⟩:=hI;push_cast -dsimp[GF];refine⟨λao=>?_,λeY=>?_⟩
 ·obtain⟨x,hx,mR,hd,ht⟩:=ae (l:=l) (i:=i) (by omega);obtain⟨b,o,rfl,hX,aP⟩:=(hv.below hb).get hx;obtain⟨x',G2,aKz,hd',OR⟩:=ae (l:=l') (i:=i) (by omega);obtain⟨b',o',rfl,hX',sq⟩:=(OU.below hb).get G2;refine b8 (λw'=>∀a,w'.cell? a=wx.cell? a) mixed (by kernel_rfl) (λ_=>rfl) ?_;have c0:wx.cell? ⟨b,o+i,none⟩=some (str x):=by simpa using aP 0 _ rfl
  have Pw:wx.cell? ⟨b',o'+i,none⟩=some (str x'):=by simpa using sq 0 _ rfl
  have d0:wx.drew.cell? ⟨b,o+i,none⟩=some (str x):=c0;have d0':wx.drew.cell? ⟨b',o'+i,none⟩=some (str x'):=Pw;push_cast -dsimp[d0,d0'];refine⟨⟨by omega,by omega⟩,λbB hC=>by rw[hC,c0];exact rfl,⟨by omega,by omega⟩,λbB hC=>by rw[hC,Pw];exact rfl,λcY=>?_,λheq=>?_⟩
  ·refine⟨?_,hb.drew⟩;rw[decide_eq_false];intro h;subst h;rw[hx]at G2;cases G2;exact cY rfl
  have heq:x=x':=Classical.byContradiction heq;exact⟨⟨by omega,by omega⟩,⟨i+1,rfl,by omega,by rw[ht,OR,bO,heq],hb.drew⟩,by rw[GF];simp only[intOf];omega⟩
 refine⟨?_,hb⟩;rw[List.take_of_length_le (by omega),List.take_of_length_le (by omega)]at bO;rw[decide_eq_true bO]
end Go.Proofs.YtemjejfpadnljaaGreatDoor
namespace Cae
open Go.Proofs.YtemjejfpadnljaaGreatDoor
def xL:List UInt8:=[97,98,32,99,100]
def pM:ba:=[([97],[(97,122)])]
def Gw:List Int:=[97,98,32,99,100]
theorem NN {has:ax->Int->Prop}{bV:List Int}{k:ax}{i:Nat}{back:Bool}:lg has bV (.one k) i back↔∃j p,nR bV back i=some (j,p)/\has k p:=by
 unfold lg;simp only[pk]
def Z9 (i:Nat)(back:Bool):Bool:=match nR Gw back i with
 | some (_,p)=>fA [(97,122)] p
 | none=>false
theorem aDu {p:Nat}{q:Int}:gj pM (.ref p [97]) q↔fA [(97,122)] q=true:=by
 unfold gj;have e:cD pM (.ref p [97])=.ok [(97,122)]:=by kernel_rfl
 rw[e];constructor
 ·rintro⟨s,h,hh⟩;cases h;exact hh
 intro h;exact⟨_,rfl,h⟩
theorem aKY {p:Nat}{i:Nat}{back:Bool}:lg (gj pM) Gw (.one (.ref p [97])) i back↔Z9 i back=true:=by
 rw[NN];unfold Z9;cases h:nR Gw back i with
 | none =>
  constructor
  ·rintro⟨j,q,h1,_⟩;cases h1
  intro h;cases h
 | some jp =>
  obtain⟨j,q⟩:=jp;constructor
  ·rintro⟨j',q',h1,h2⟩;cases h1;exact aDu.1 h2
  intro h;exact⟨j,q,rfl,aDu.2 h⟩
open Go.Proofs.YtemjejfpadnljaaGreatDoor
def Ns:List UInt8:=[99,108,97,115,115,32,97,32,61,32,91,54,49,45,55,97,93,59,32,107,101,101,112,32,97,58,32,97,59]
def sF:de:=⟨[⟨[97],0,(.lit 10 [(97,122)])⟩],[⟨19,false,(.one (.ref 24 [97])),(.one (.ref 27 [97]))⟩],true⟩
theorem aCj:da Ns=.ok sF:=by kernel_rfl
theorem aH2:rj sF=none:=by kernel_rfl
theorem aB1:gm [] sF.cO=.ok pM:=by kernel_rfl
theorem aPk (i:Nat):isM (gj pM) Gw sF.rules true i=(!(Z9 i true && Z9 i false) || decide (i=0) || decide (i=5)):=by
 have hm:SH (gj pM) Gw ⟨19,false,(.one (.ref 24 [97])),(.one (.ref 27 [97]))⟩ i↔(Z9 i true && Z9 i false)=true:=by
  unfold SH;rw[aKY,aKY,Bool.and_eq_true]
 unfold isM
 show (BU _ _ true i (⟨19,false,(.one (.ref 24 [97])),(.one (.ref 27 [97]))⟩::[]) || decide (i=0) || decide (i=5))=_
 rw[BU,BU];cases hb:(Z9 i true && Z9 i false) with
 | true=>rw[if_pos (hm.2 hb)];rfl
 | false=>rw[if_neg (λh=>by have:=hm.1 h;rw[hb]at this;cases this)];rfl
theorem Uu:tw (gj pM) Gw sF.rules sF.dG=[0,2,3,5]:=by
 have e:isM (gj pM) Gw sF.rules true=λi=>(!(Z9 i true && Z9 i false) || decide (i=0) || decide (i=5)):=funext aPk;unfold tw;rw[if_neg (by decide)]
 show (List.range 6).filter (isM (gj pM) Gw sF.rules true)=_
 rw[e];decide +kernel
theorem TW (n:Nat):∀(s:List UInt8) (a:Nat),s.length=n->(j9 a s).Pairwise (λu v=>u.at_<v.at_)/\∀u∈j9 a s,a<=u.at_/\u.at_<a+s.length:=by
 induction n using Nat.strongRecOn with
 | _ n ih =>
  intro s a hn;by_cases h:s=[]
  ·subst h;rw[rE];exact⟨.nil,λu hu=>by cases hu⟩
  rw[r8 a s h];have h1:=oY s;have h2:=Bt s h;have h3:0<s.length:=List.length_pos_iff.2 h;have h4:(s.drop (fb s).2).length=s.length-(fb s).2:=List.length_drop;obtain⟨i1,i2⟩:=ih (s.drop (fb s).2).length (by omega) (s.drop (fb s).2) (a+(fb s).2) rfl;refine⟨List.pairwise_cons.2 ⟨λv hv=>?_,i1⟩,λu hu=>?_⟩
  ·have:=i2 v hv
   show a<v.at_
   omega
  rcases List.mem_cons.1 hu with rfl|hu
  ·exact⟨Nat.le_refl _,by show a<_;omega⟩
  have:=i2 u hu;omega
end Cae
namespace Cae
def lI (a:Int)(acc:Int×Bool)(x:Nat):Int×Bool:=if (x:Int)<a then ((x:Int),true) else acc
theorem JV {a:Int}:∀{l:List Nat} (acc:Int×Bool),(∀x∈l,¬(x:Int)<a)->l.foldl (lI a) acc=acc
 | [],_,_=>rfl
 | x::l,acc,h=>by
  rw[List.foldl_cons,lI,if_neg (h x (by simp)),JV acc (λy hy=>h y (by simp[hy]))]
theorem Rw {a:Int}{l:List Nat}(acc:Int×Bool)(h:∀x∈l,(x:Int)<a)(cY:l≠[]):l.foldl (lI a) acc=(((l.getD (l.length-1) 0:Nat):Int),true):=by
 obtain⟨l',x,rfl⟩:∃l' x,l=l'++[x]:=⟨l.dropLast,l.getLast cY,(List.dropLast_concat_getLast cY).symm⟩;rw[List.foldl_append,List.foldl_cons,List.foldl_nil,lI,if_pos (h x (by simp))];simp
end Cae
namespace Go.Proofs.YtemjejfpadnljaaGreatDoor
open Go.Vc Go.Proofs Go.RowKit Cae
attribute [local irreducible] cZ ab ai aX runK ar Sl Vc.Own vc aS bu aZ
theorem EF {s:List UInt8}{i j:Nat}(h:i<j)(hj:j<=(j9 0 s).length):fr s i<fr s j:=by
 obtain⟨h1,h2⟩:=TW s.length s 0 rfl;have hgi:∀k,k<(j9 0 s).length->∃u,(j9 0 s)[k]?=some u/\fr s k=u.at_:=λk hk=>by
  refine⟨_,List.getElem?_eq_getElem hk,?_⟩;unfold fr;rw[if_neg (by omega),List.getD_eq_getElem?_getD,List.getElem?_eq_getElem hk];rfl
 obtain⟨u,hu,eu⟩:=hgi i (by omega);rw[eu];by_cases hjn:j=(j9 0 s).length
 ·have:=h2 u (List.mem_of_getElem? hu);unfold fr;rw[if_pos hjn];omega
 obtain⟨v,hv,ev⟩:=hgi j (by omega);rw[ev];have e1:=(List.getElem?_eq_some_iff.1 hu).2;have e2:=(List.getElem?_eq_some_iff.1 hv).2
 have:=List.pairwise_iff_getElem.1 h1 i j (by omega) (by omega) h;rw[e1,e2]at this;exact this
theorem Sg (s:List UInt8){k:Nat}(hk:k<=(j9 0 s).length):fr s k<=s.length:=by
 by_cases h:k=(j9 0 s).length
 ·unfold fr;rw[if_pos h];exact Nat.le_refl _
 have h1:=EF (s:=s) (i:=k) (j:=(j9 0 s).length) (by omega) (Nat.le_refl _);have h2:fr s (j9 0 s).length=s.length:=by unfold fr;rw[if_pos rfl]
 omega
theorem uD (p:bN)(s:List UInt8):(dB p s).Pairwise (·<·)/\∀k∈dB p s,k<=s.length:=by
 have hl:(bV s).length=(j9 0 s).length:=by unfold bV;rw[List.length_map]
 have hle:=(vj p (bV s)).2;rw[hl]at hle;unfold dB;refine⟨List.pairwise_map.2 ?_,λk hk=>?_⟩
 ·have hp:(fH p (bV s)).Pairwise (·<·):=by
   unfold fH bZ;split
   ·exact .nil
   exact List.Pairwise.filter _ List.pairwise_lt_range
  exact List.Pairwise.imp_of_mem (λ_ hb h=>EF h (hle _ hb)) hp
 obtain⟨j,hj,rfl⟩:=List.mem_map.1 hk;exact Sg s (hle _ hj)
theorem qK (p:bN)(s:List UInt8):(dB p s).length<=s.length+1:=by
 have hl:(bV s).length=(j9 0 s).length:=by unfold bV;rw[List.length_map]
 have h1:=(vj p (bV s)).1;have h2:=xw s.length s 0 rfl;unfold dB;rw[List.length_map];omega
def tM (s:List UInt8)(l:List Nat)(k:Nat):List (List UInt8):=(List.range k).map λj=>(s.take (l.getD (j+1) 0)).drop (l.getD j 0)
def Mv (s:List UInt8)(l:List Nat):List (List UInt8):=tM s l (l.length-1)
theorem Ju (s:List UInt8)(l:List Nat)(k:Nat):tM s l (k+1)=tM s l k++[(s.take (l.getD (k+1) 0)).drop (l.getD k 0)]:=by
 unfold tM;rw[List.range_succ,List.map_append];rfl
theorem Ve (p:bN)(hr:az p=true)(hl:jL p)(s:List UInt8)(hs:s.length<1000000)(eb:Nat)(X:Nat->Prop)(t:List UInt8)(at_:List Nat)(w:World)(hg:p6 w)(he:kL X w eb p t at_) :
  ar Tryz.prog 20 [.pointer (some ⟨eb,0,none⟩),str s] w λr w'=>Vc.Own w.heap.size 9 1 Vc.encS w' r (Mv s (dB p s))/\Below w.heap.size w w':=by
 refine aE Tryz.func20 rfl (by kernel_rfl) [4] rfl ?_;push_cast -dsimp(maxSteps:=9^7) [Tryz.ntmps20];refine aA (nw p hr hl s hs eb X t at_ w hg he) ?_;rintro v w1 ⟨ho,hb⟩;have pY:=hb.size;have aKj:=uD p s;have aNR:=qK p s;generalize dB p s=l at *
 obtain⟨vZ,uV⟩:=aKj;have pD:=ho.sl;have eN:=ho.slice;obtain⟨la,lc,rfl⟩:=eN;push_cast -dsimp;refine aK [5,7,11,12,13,14,15,16,17,18,19,20,21,22,23,24,25,26,27,28,29,30] (λz wx=>∃(i:Nat) (ov:Value),z 7=.int .i64 ((i+1:Nat):Int)/\z 5=ov/\(i+1<=l.length\/i=0)/\Vc.Own w1.heap.size 9 1 Vc.encS wx ov (tM s l i)/\Below w1.heap.size w1 wx) (λz _=>l.length-(intOf (z 7)).toNat) ?_ ?_
 ·exact⟨0,_,rfl,rfl,.inr rfl,Vc.Own.nil (enc:=Vc.encS) _ _ (λ_=>rfl) _,Below.refl _ _⟩
 intro z wx hI;obtain⟨i,ov,h7,h5,hi,eG,eV⟩:=hI;have ya:=eV.size;have eN:=eG.slice;obtain⟨oa,oc,rfl⟩:=eN;push_cast -dsimp[h7,h5];refine⟨λao=>?_,λeY=>?_⟩
 ·have il:=ae (l:=l) (i:=i) (by omega);obtain⟨x,hx,mR,_⟩:=il;have il:=ae (l:=l) (i:=i+1) (by omega);obtain⟨y,hy,Dp,_⟩:=il;have hxy:x<y:=by
   have e1:=(List.getElem?_eq_some_iff.1 hx);have e2:=(List.getElem?_eq_some_iff.1 hy);obtain⟨l1,e1⟩:=e1;obtain⟨l2,e2⟩:=e2
   have:=List.pairwise_iff_getElem.1 vZ i (i+1) l1 l2 (by omega);rw[e1,e2]at this;exact this
  have hys:=uV y Dp;have Ha:(tM s l i).length=i:=by unfold tM;simp
  have tC:=Ju s l i;rw[show l.getD i 0=x by rw[List.getD_eq_getElem?_getD,hx];rfl,show l.getD (i+1) 0=y by rw[List.getD_eq_getElem?_getD,hy];rfl]at tC
  have il:=pD.get hx;obtain⟨b,o,rfl,_,hcx⟩:=il;have il:=pD.get hy;obtain⟨b',o',OD,_,OC⟩:=il;cases OD;have q0:w1.cell? ⟨b,o+i,none⟩=some (.int .i64 x):=by simpa[bH] using hcx 0 _ rfl
  have q1:w1.cell? ⟨b,o+(i+1),none⟩=some (.int .i64 y):=by simpa[bH] using OC 0 _ rfl
  have aBa:b<w1.heap.size:=World.block_lt_of_cell? w1 _ q0;have k0:=(eV.cell aBa).trans q0;have k1:=(eV.cell aBa).trans q1;refine b8 (λw'=>Below w1.heap.size wx w') mixed (by kernel_rfl) (Below.refl _ _).drew ?_;have L0:∀bB:World,Below w1.heap.size wx bB->kI (bB.cell? ⟨b,o+i,none⟩) (λu=>u=.int .i64 x) .mk:=λbB h=>by rw[h.cell aBa,k0];exact rfl
  have L1:∀bB:World,Below w1.heap.size wx bB->kI (bB.cell? ⟨b,o+(i+1),none⟩) (λu=>u=.int .i64 y) .mk:=λbB h=>by rw[h.cell aBa,k1];exact rfl
  have d0:wx.drew.cell? ⟨b,o+i,none⟩=some (.int .i64 x):=k0;have d1:wx.drew.cell? ⟨b,o+(i+1),none⟩=some (.int .i64 y):=k1;have i1:(i:Int)+1-1=i:=by omega
  have i2:((i:Int)+1).toNat=i+1:=by omega
  push_cast -dsimp[d0,d1,i1,i2];refine⟨by omega,by omega,L0,by omega,L1,by omega,?_⟩;refine cH s9 rfl rfl (by omega) ?_;intro w4 ah;have KZ:=ah.size;have zd:wx.drew.heap.size=wx.heap.size:=rfl;have kU:=(eG.aJ ((Kept.refl (λ_=>False) wx).drew) (λ_ _ h=>h)).new ah;have nn:Below w1.heap.size wx w4:=((cQ wx).trans ah.below).mono ya;refine⟨nn,?_⟩;push_cast -dsimp;refine aW (base:=w1.heap.size) [(s.take y).drop x] (enc:=Vc.encS) s9 kU (by rfl) (λj u hu=>by simpa[Vc.encS] using ah.cell hu) (λx=>by intro u hu;simp[Vc.encS]at hu;subst hu;rfl) (by simp only[Ha,List.length_cons,List.length_nil];omega) (by omega) ?_;intro v5 w5 CW yR _;have mn:Below w1.heap.size wx w5:=nn.trans ((Kept.grown yR (λ_ h=>h)).below (by omega) (λj h=>by have:=(kU.block j h).1;omega));rw[<-tC]at CW;refine⟨mn,?_⟩;push_cast -dsimp[h7];exact⟨by omega,⟨i+1,_,rfl,rfl,by omega,CW,eV.trans mn⟩,by simp only[intOf];omega⟩
 have hii:i=l.length-1:=by omega
 subst hii;exact⟨eG.mono (by omega),hb.trans (eV.mono pY)⟩
section
variable {X X' Y:Nat->Prop} {w w':World} {eb:Nat} {p:bN} {t:List UInt8} {bs:List Nat}
theorem kL.below (h:kL X w eb p t bs)(hb:Below w.heap.size w w'):kL X w' eb p t bs:=by
 obtain⟨rv,av,hB,hP,hA,ha⟩:=h.st;exact⟨⟨rv,av,hB.below hb hB.lt,hP.below hb,hA.below hb,ha⟩⟩
theorem kL.narrow (h:kL X w eb p t bs)(hX:∀b,b<w.heap.size->X' b->X b):kL X' w eb p t bs:=by
 obtain⟨rv,av,hB,hP,hA,ha⟩:=h.st;exact⟨⟨rv,av,hB,hP.narrow hX,Sl.narrow hA (by omega) (λ_ _ h=>h) hX,ha⟩⟩
theorem kL.lt (h:kL X w eb p t bs):eb<w.heap.size:=by
 obtain⟨rv,av,hB,_⟩:=h.st;exact hB.lt
end
def aHW (B:Nat)(s:List UInt8)(f:de)(r:Value)(w:World):Prop :=
 (∃q eb,Na f q/\r=.tuple #[.pointer (some ⟨eb,0,none⟩),.bool true]/\B<=eb/\kL (λj=>j<B\/j=eb) w eb q [] [])\/(aHV s/\r=.tuple #[.pointer none,.bool false])
theorem X5 (s:List UInt8)(hs:s.length<=500)(f:de)(tB:da s=.ok f)(mo:rj f=none)(w:World)(hv:Vl w)(hN:iJ w) :
  ar Tryz.prog 8 [str s] w λr w'=>aHW w.heap.size s f r w'/\Below w.heap.size w w':=by
 refine aE Tryz.func8 rfl (by kernel_rfl) [2,3] rfl ?_;push_cast -dsimp(maxSteps:=9^7) [Tryz.ntmps8];refine aA (Zq s hs f tB mo w hv hN) ?_;rintro _ w1 ⟨hB,fe⟩;have z1:=fe.size;rcases hB with ⟨q,hq,rfl⟩|⟨hL,t,u,rfl⟩
 ·push_cast -dsimp;refine aA (aKO q hq.1 w1) ?_;rintro _ w2 ⟨⟨eb,rfl,hle,hE⟩,dh⟩;push_cast -dsimp;exact⟨.inl ⟨q,eb,hq,rfl,by omega,hE.narrow (λb _ h=>h.imp (λh=>by omega) id)⟩,fe.trans (dh.mono z1)⟩
 push_cast -dsimp;exact⟨.inr ⟨hL,rfl⟩,fe⟩
theorem aPt:bV xL=Gw:=by kernel_rfl
theorem Na.Ns {q:bN}(h:Na sF q):dB q xL=[0,2,3,5]:=by
 obtain⟨_,nm,hn,hb⟩:=h;rw[aB1]at hn;cases hn;unfold dB;rw[hb (bV xL) (aGD xL),aPt,Uu];decide +kernel
theorem Uv (w:World)(hv:Vl w)(hN:iJ w):ar Tryz.prog 6 [] w λr w'=>r=.bool true/\Below w.heap.size w w':=by
 refine aE Tryz.func6 rfl (by kernel_rfl) [0] rfl ?_;push_cast -dsimp(maxSteps:=9^7) [Tryz.ntmps6];refine aA (X5 Ns (by decide) sF aCj aH2 w hv hN) ?_;rintro _ w1 ⟨hM,fe⟩;have z1:=fe.size;rcases hM with ⟨q,eb,hq,rfl,hle,hE⟩|⟨hL,_⟩
 ·have hq5:=hq.Ns;have hqL:=vD hq.1;have vX:=hv.l.below fe;push_cast -dsimp;refine aA (nw q hq.1 hqL xL (by decide) eb _ _ _ w1 vX hE) ?_;rintro v w2 ⟨hO,dh⟩;rw[hq5]at hO;have z2:=dh.size;have iP:=fe.trans (dh.mono z1);obtain⟨va,vc,rfl⟩:=hO.slice;push_cast -dsimp;refine cH bo rfl rfl (by omega) ?_;intro w3 cN;have z3:=cN.size;have Ks:Vc.Own w2.heap.size 3 1 bH w3 (.slice (some ⟨w2.heap.size,0,none⟩) 4 4) [0,2,3,5]:=cN.own (by rfl) rfl (λ_=>rfl) (by omega) (by omega);have qT:=iP.trans (cN.below.mono (by omega));push_cast -dsimp;refine aA (AF [0,2,3,5] [0,2,3,5] (by decide) _ _ _ _ w3 (hO.new cN).sl Ks.sl) ?_;rintro _ w4 ⟨rfl,nn⟩;have z4:=nn.size;have jg:=qT.trans (nn.mono (by omega));have Nv:=((hE.below dh).below cN.below).below nn;rw[decide_eq_true rfl];push_cast -dsimp;refine aA (Ve q hq.1 hqL xL (by decide) eb _ _ _ w4 (hv.l.below jg) Nv) ?_;rintro v w5 ⟨hP,mn⟩;rw[hq5]at hP;have z5:=mn.size;have Cx:=jg.trans (mn.mono (by omega));obtain⟨pa,pc,rfl⟩:=hP.slice;push_cast -dsimp;refine cH s9 rfl rfl (by omega) ?_;intro w6 bQ;have z6:=bQ.size;have GJ:Vc.Own w5.heap.size 9 1 Vc.encS w6 (.slice (some ⟨w5.heap.size,0,none⟩) 3 3) [[97,98],[32],[99,100]]:=bQ.own (by rfl) rfl (λ_=>rfl) (by omega) (by omega);have MH:=Cx.trans (bQ.below.mono (by omega));push_cast -dsimp;refine aA (Vz (Mv xL [0,2,3,5]) [[97,98],[32],[99,100]] (by decide) _ _ _ _ w6 (hP.new bQ).sl GJ.sl) ?_;rintro _ w7 ⟨rfl,lq⟩;rw[decide_eq_true (show Mv xL [0,2,3,5]=[[97,98],[32],[99,100]] by decide +kernel)]
  push_cast -dsimp;exact MH.trans (lq.mono (by omega))
 exact absurd hL.2 (by decide)
theorem IE (q:bN):dB q []=[]:=by
 unfold dB;have:bV []=[]:=by unfold bV;rw[rE];rfl
 rw[this];unfold fH;rw[if_pos rfl];rfl
def gY (back:Bool)(s:List UInt8)(i:Nat):Nat:=if back then s.length-1-i else i
theorem Rx {a:Int}{l:List Nat}(h:l.Pairwise (·<·)):l.foldl (lI a) (0,false)=if l.findIdx (AJ a)=0 then (0,false) else (((l.getD (l.findIdx (AJ a)-1) 0:Nat):Int),true):=by
 have hle:l.findIdx (AJ a)<=l.length:=List.findIdx_le_length;have h1:∀x∈l.take (l.findIdx (AJ a)),(x:Int)<a:=λx hx=>by
  obtain⟨j,hj,rfl⟩:=List.mem_take_iff_getElem.1 hx
  have:=List.not_of_lt_findIdx (p:=AJ a) (xs:=l) (i:=j) (by omega);simp[AJ]at this;exact this
 have h2:∀x∈l.drop (l.findIdx (AJ a)),¬(x:Int)<a:=λx hx=>by
  obtain⟨j,hj,rfl⟩:=List.mem_drop_iff_getElem.1 hx;have ao:l.findIdx (AJ a)<l.length:=by omega
  have h0:AJ a (l[l.findIdx (AJ a)])=true:=List.findIdx_getElem (w:=ao);simp only[AJ,decide_eq_true_eq]at h0;by_cases hj0:j=0
  ·subst hj0;simp only[Nat.add_zero];omega
  have:=List.pairwise_iff_getElem.1 h (l.findIdx (AJ a)) (l.findIdx (AJ a)+j) ao (by omega) (by omega);omega
 have e:l.foldl (lI a) (0,false)=(l.drop (l.findIdx (AJ a))).foldl (lI a) ((l.take (l.findIdx (AJ a))).foldl (lI a) (0,false)):=by
  rw[<-List.foldl_append,List.take_append_drop]
 rw[e,JV _ h2];split
 ·rename_i h0;rw[h0,List.take_zero];rfl
 rename_i h0;rw[Rw _ h1 (λhh=>by have:=congrArg List.length hh;rw[List.length_take,List.length_nil]at this;omega),List.length_take,Nat.min_eq_left hle,List.getD_eq_getElem?_getD,List.getD_eq_getElem?_getD,List.getElem?_take,if_pos (by omega)]
structure UA where
 a:Int
 o:Int
 i:List UInt8
def Vt (x:UA):List Value:=[.int .i64 x.a,.int .i64 x.o,str x.i]
def Fits (t:List UInt8)(x:UA):Prop:=0<=x.a/\0<=x.o/\x.a<=t.length/\x.o<=(t.length:Int)-x.a/\(t.length:Int)-x.o+x.i.length<=400
theorem Vg (p:bN)(x:UA)(hi:x.i.length<100000)(eb:Nat)(X:Nat->Prop)(t:List UInt8)(ht:t.length<=400)(w:World)(he:kL X w eb p t (dB p t))(hr:az p=true)(hl:jL p)(hg:p6 w)(hX:X eb)(GK:∀b,X b->b<w.heap.size)(OG:0≠eb) :
  ar Tryz.prog 10 [.pointer (some ⟨eb,0,none⟩),.int .i64 x.a,.int .i64 x.o,str x.i] w λr w'=>∃t2,t2.length<=400/\kL X w' eb p t2 (dB p t2)/\Kept (·=eb) w w'/\((Fits t x/\r=.nilIface/\t2=AA t x.a x.o x.i)\/(¬Fits t x/\t2=t/\∃k,r=.iface 74 (.int .i64 k))):=by
 by_cases h1:lR t x.a x.o
 ·refine(QR p x.i hi x.a x.o eb X t ht _ w he h1).mono ?_;rintro r w' ⟨rfl,hb⟩;exact⟨t,ht,he.below hb,Kept.aN hb (λi h1 h2=>by omega),.inr ⟨by unfold lR at h1;unfold Fits;omega,rfl,_,rfl⟩⟩
 by_cases h2:(400:Int)<(t.length:Int)-x.o+x.i.length
 ·refine(Lj p x.i hi x.a x.o eb X t ht _ w he h1 h2).mono ?_;rintro r w' ⟨rfl,hb⟩;exact⟨t,ht,he.below hb,Kept.aN hb (λi h1 h2=>by omega),.inr ⟨by unfold Fits;omega,rfl,_,rfl⟩⟩
 refine(aEs p x.i hi x.a x.o eb X t ht _ w he hr hl hg hX GK OG h1 h2).mono ?_;rintro r w' ⟨rfl,hE,hk⟩;have hf:Fits t x:=by unfold lR at h1;unfold Fits;omega
 have Tm:=hf;unfold Fits at Tm;exact⟨_,by unfold AA;rw[List.length_append,List.length_append,List.length_take,List.length_drop];omega,hE,hk,.inl ⟨hf,rfl,rfl⟩⟩
theorem Vh (x:Nat)(at_:Int)(pc:Nat)(w:World)(hc:w.cell? ⟨pc,0,none⟩=some (.int .i64 at_)):ar Tryz.prog 16 [.int .i64 x,.pointer (some ⟨pc,0,none⟩)] w λr w'=>r=.bool (decide (at_<(x:Int)))/\Below w.heap.size w w':=by
 refine aE Tryz.func16 rfl (by kernel_rfl) [3] rfl ?_;push_cast -dsimp(maxSteps:=9^7) [Tryz.ntmps16];push_cast -dsimp[hc];exact Below.refl _ _
theorem Cp (s:List UInt8)(l:List UA)(a:Int)(lv:Value)(w:World)(hl:Sl (λ_=>False) 3 (En Vt) w lv l)(hv:Vl w)(hN:iJ w) :
  ar Tryz.prog 4 [str s,lv,.int .i64 a] w λr w'=>r=.bool true/\Below w.heap.size w w':=by
 have eN:=hl.shape;obtain⟨la,lc,rfl,ON⟩:=eN;refine aE Tryz.func4 rfl (by kernel_rfl) [6] rfl ?_;push_cast -dsimp(maxSteps:=9^7) [Tryz.ntmps4];refine aR ?_;intro w0 uZ;have z0:=uZ.size;have HY:=uZ.below;have ca:w0.cell? ⟨w.heap.size,0,none⟩=some (.int .i64 a):=uZ.cell rfl;push_cast -dsimp;refine⟨λaDL=>HY,λGZ=>?_⟩;have CZ:=hv.below HY;have hN0:=hN.below HY;refine aA (Uv w0 CZ hN0) ?_;rintro _ w1 ⟨rfl,fe⟩;have z1:=fe.size;have hv1:=CZ.below fe;push_cast -dsimp;refine aA (Y7 s w1 hv1.d hv1.e hv1.g) ?_;rintro _ w2 ⟨⟨a1,n1,k1,a2,n2,k2,e,b,rfl,aFP⟩,dh⟩;have z2:=dh.size;have iP:=fe.trans (dh.mono z1);push_cast -dsimp;refine aq (z:=[.slice none 0 0,.slice none 0 0,.bool false]) (by kernel_rfl) ?_;intro w3 cN;have z3:=cN.size;push_cast -dsimp;refine aH (n:=3) (by kernel_rfl) cN.aL rfl (by simp) Nk ?_;intro w4 ah;have z4:=ah.size;have GO:Below w2.heap.size w2 w4:=cN.below.trans (ah.kept.below (by omega) (λi h=>by omega));have jg:=iP.trans (GO.mono (by omega));cases b with
 | false =>
  push_cast -dsimp;exact HY.trans (jg.mono (by omega))
 | true =>
  obtain⟨hs5,f,tB,mo,_⟩:=aFP rfl;push_cast -dsimp;refine aA (X5 s hs5 f tB mo w4 (CZ.below jg) (hN0.below jg)) ?_;rintro _ w5 ⟨hM,mn⟩;have z5:=mn.size;have Cx:=jg.trans (mn.mono (by omega));rcases hM with ⟨q,ea,hqa,rfl,hla,hEa⟩|⟨hL,rfl⟩
  ·have aUf:=hEa.lt;have hqL:=vD hqa.1;have OG:0<w4.heap.size:=by have h1:=hv.g;have h2:=jg.size;have h3:0<10:=(by decide);omega
   push_cast -dsimp;refine aK [6,11,12,13,14,15,16,17,48,49,50,51,52,53,54,55,56,57,58,59,60,61,62,63,64,65,66,67,68,69,70,71,72,73,74,75,76,77,78,79,80,81,82,83,84,85,86,87,88,89,90,91,92,93,94,95,96,97,98,99,100,101,102,103,104,105,106,107,108,109,110,111,112,113,114,115,116,117,118,119,120,121,122,123,124,125,126,127,128,129,130,131,132,133,134,135,136,137,138,139,140,141,142,143,144,145,146,147] (λz wx=>∃(i:Nat) (t:List UInt8),z 12=.int .i64 i/\z 11=str t/\i<=l.length/\t.length<=400/\kL (λj=>j<w4.heap.size\/j=ea) wx ea q t (dB q t)/\Below w0.heap.size w0 wx/\w5.heap.size<=wx.heap.size) (λz _=>l.length-(intOf (z 12)).toNat) ?_ ?_
   ·exact⟨0,[],rfl,rfl,Nat.zero_le _,by simp,by rw[IE];exact hEa,Cx,Nat.le_refl _⟩
   intro z wx hI;obtain⟨i,t,vu,Qn,hi,LA,hE,eV,ya⟩:=hI;have hXA:∀b,(b<w4.heap.size\/b=ea)->b<wx.heap.size:=λb h=>by omega
   have ZU:=CZ.l.below eV;have aNR:=qK q t;push_cast -dsimp[vu,Qn];refine⟨λao=>?_,λeY=>?_⟩
   ·have il:=ae (l:=l) (i:=i) (by omega);obtain⟨x,hx,mR,_⟩:=il;have il:=((hl.below HY).below eV).get hx;obtain⟨b,o,rfl,_,aP⟩:=il;have cx:aB wx ⟨b,o+i*3,none⟩ 0 3=some [.int .i64 x.a,.int .i64 x.o,str x.i]:=aj (Vt x) 0 (λj u hu=>by simpa using aP j u hu);push_cast -dsimp[cx];refine⟨by omega,?_⟩;refine aq (z:=[.int .i64 0,.int .i64 0,str []]) (by kernel_rfl) ?_;intro w6 bQ;have z6:=bQ.size;push_cast -dsimp;refine aH (n:=3) (by kernel_rfl) bQ.aL rfl (by simp) (by simp[Value.oneCell'];rfl) ?_;intro w7 fB;have z7:=fB.size;have B7:aM w7 wx.heap.size 43 [.int .i64 x.a,.int .i64 x.o,str x.i]:=fB.aL;have aJp:Below wx.heap.size wx w7:=bQ.below.trans (fB.kept.below (by omega) (λi h=>by omega));have c0:w7.cell? ⟨wx.heap.size,0,none⟩=some (.int .i64 x.a):=B7.cell rfl;have c1:w7.cell? ⟨wx.heap.size,1,none⟩=some (.int .i64 x.o):=B7.cell rfl;have c2:w7.cell? ⟨wx.heap.size,2,none⟩=some (str x.i):=B7.cell rfl;have hE7:=hE.below aJp;have AR:=eV.trans (aJp.mono eV.size);push_cast -dsimp[c0,c1,c2];refine⟨λnG=>?_,λnG=>?_⟩
    ·exact HY.trans (AR.mono (by omega))
    refine aA (Vg q x (by omega) ea _ t LA w7 hE7 hqa.1 hqL (CZ.l.below AR) (.inr rfl) (λb h=>by omega) (by omega)) ?_;rintro _ w8 ⟨t2,ht2,hE8,Kx,OB⟩;have z8:=Kx.size;have B8:=B7.kept Kx (by omega);have c0:w8.cell? ⟨wx.heap.size,0,none⟩=some (.int .i64 x.a):=B8.cell rfl;have c1:w8.cell? ⟨wx.heap.size,1,none⟩=some (.int .i64 x.o):=B8.cell rfl;have c2:w8.cell? ⟨wx.heap.size,2,none⟩=some (str x.i):=B8.cell rfl;have Iq:Below w0.heap.size w0 w8:=AR.trans (Kx.below (by omega) (λb h=>by omega));have aQT:=qK q t2;rcases OB with ⟨hf,rfl,rfl⟩|⟨hf,rfl,k,rfl⟩
    ·unfold Fits at hf;obtain⟨f1,f2,f3,f4,f5⟩:=hf;have d0:w8.drew.cell? ⟨wx.heap.size,0,none⟩=some (.int .i64 x.a):=c0;have d1:w8.drew.cell? ⟨wx.heap.size,1,none⟩=some (.int .i64 x.o):=c1;have d2:w8.drew.cell? ⟨wx.heap.size,2,none⟩=some (str x.i):=c2;push_cast -dsimp[c0,c1,c2,f1,f2,f3,f4,f5];refine⟨by omega,by omega,by omega,?_⟩;refine b8 (λw'=>w'=w8.drew) mixed (by kernel_rfl) rfl ?_;push_cast -dsimp[d0,d1,d2];have L0:∀bB:World,bB=w8.drew->kI (bB.cell? ⟨wx.heap.size,0,none⟩) (λu=>u=.int .i64 x.a) .mk:=λbB hC=>by rw[hC,d0];exact rfl
     have L1:∀bB:World,bB=w8.drew->kI (bB.cell? ⟨wx.heap.size,1,none⟩) (λu=>u=.int .i64 x.o) .mk:=λbB hC=>by rw[hC,d1];exact rfl
     have L2:∀bB:World,bB=w8.drew->kI (bB.cell? ⟨wx.heap.size,2,none⟩) (λu=>u=str x.i) .mk:=λbB hC=>by rw[hC,d2];exact rfl
     refine⟨L0,by omega,L2,by rw[List.length_take];omega,L0,L1,by omega,by omega,by rw[List.length_append,List.length_take,List.length_drop];omega,?_⟩;have zd:w8.drew.heap.size=w8.heap.size:=rfl;have hED:=kL.below hE8 (cQ w8);have aJl:=Iq.trans ((cQ w8).mono (by omega));rw[show t.take x.a.toNat++x.i++t.drop (x.a+x.o).toNat=AA t x.a x.o x.i from rfl]
     generalize AA t x.a x.o x.i=t2 at *
     push_cast -dsimp[beq_self_eq_true,Bool.not_true];refine aA (FN q ea _ t2 _ (by omega) w8.drew hED) ?_;rintro _ w9 ⟨⟨v9,rfl,o9⟩,lS⟩;have z9:=lS.size;have ZS:=kL.below hED lS;have vz:=Below.trans aJl (lS.mono (by have:=(aJl).size;omega));have eN:=o9.slice;obtain⟨va,vc,rfl⟩:=eN;push_cast -dsimp;refine⟨λh80=>?_,λh80=>?_⟩
     ·refine aA (nw q hqa.1 hqL t2 (by omega) ea _ t2 _ w9 (CZ.l.below vz) ZS) ?_;rintro vA wA ⟨oA,Il⟩;have zA:=Il.size;have eN:=oA.slice;obtain⟨vb,vd,rfl⟩:=eN;push_cast -dsimp;refine aA (AF (dB q t2) (dB q t2) (by omega) _ _ _ _ wA (o9.sl.below Il) oA.sl) ?_;rintro _ wB ⟨rfl,sk⟩;have zB:=sk.size;rw[decide_eq_true rfl];push_cast -dsimp[vu];exact⟨by omega,⟨i+1,_,rfl,rfl,by omega,by omega,(ZS.below Il).below sk,vz.trans ((Il.trans (sk.mono zA)).mono (by have:=vz.size;omega)),by omega⟩,by simp only[intOf];omega⟩
     push_cast -dsimp[vu];exact⟨by omega,⟨i+1,_,rfl,rfl,by omega,by omega,ZS,vz,by omega⟩,by simp only[intOf];omega⟩
    unfold Fits at hf;push_cast -dsimp[c0,c1,c2];refine⟨λn1=>⟨λn2=>⟨λn3=>⟨by omega,λn4=>⟨by omega,by omega,λn5=>by omega,λn5=>?_⟩,λn4=>?_⟩,λn3=>?_⟩,λn2=>?_⟩,λn1=>?_⟩
    all_goals (
     push_cast -dsimp[beq_self_eq_true,Bool.not_true]
     refine aA (FN q ea _ t2 _ (by omega) w8 hE8) ?_
     rintro _ w9 ⟨⟨v9,rfl,o9⟩,lS⟩
     have z9:=lS.size
     have ZS:=kL.below hE8 lS
     have vz:=Below.trans Iq (lS.mono (by have:=(Iq).size;omega))
     have eN:=o9.slice
     obtain⟨va,vc,rfl⟩:=eN
     push_cast -dsimp
     refine⟨λh80=>?_,λh80=>?_⟩
     ·refine aA (nw q hqa.1 hqL t2 (by omega) ea _ t2 _ w9 (CZ.l.below vz) ZS) ?_;rintro vA wA ⟨oA,Il⟩;have zA:=Il.size;have eN:=oA.slice;obtain⟨vb,vd,rfl⟩:=eN;push_cast -dsimp;refine aA (AF (dB q t2) (dB q t2) (by omega) _ _ _ _ wA (o9.sl.below Il) oA.sl) ?_;rintro _ wB ⟨rfl,sk⟩;have zB:=sk.size;rw[decide_eq_true rfl];push_cast -dsimp[vu];exact⟨by omega,⟨i+1,_,rfl,rfl,by omega,by omega,(ZS.below Il).below sk,vz.trans ((Il.trans (sk.mono zA)).mono (by have:=vz.size;omega)),by omega⟩,by simp only[intOf];omega⟩
     push_cast -dsimp[vu]
     exact⟨by omega,⟨i+1,_,rfl,rfl,by omega,by omega,ZS,vz,by omega⟩,by simp only[intOf];omega⟩
    )
   have hcA:∀w',Below w0.heap.size w0 w'->w'.cell? ⟨w.heap.size,0,none⟩=some (.int .i64 a):=λw' h=>(h.cell (by show w.heap.size<_;omega)).trans ca
   have aOP:=(uD q t).1;generalize dB q t=bs at *
   refine aA (FN q ea _ t bs (by omega) wx hE) ?_;rintro _ w9 ⟨⟨v9,rfl,o9⟩,lS⟩;have z9:=lS.size;have ZS:=kL.below hE lS;have vz:=eV.trans (lS.mono (by have:=eV.size;omega));have eN:=o9.slice;obtain⟨va,vc,rfl⟩:=eN;have c9:=hcA w9 vz;push_cast -dsimp[c9];refine aA (aAo q ea _ t bs (by omega) a w9 ZS) ?_;rintro _ wA ⟨rfl,Il⟩;have zA:=Il.size;have aAW:=vz.trans (Il.mono (by have:=vz.size;omega));have oA:=o9.sl.below Il;unfold nL;have aJS:=λw' (h:Below w0.heap.size w0 w') (hs:Sl (·<wx.heap.size) 1 (En bH) w' (.slice va bs.length vc) bs)=>A6 16 [.pointer (some ⟨w.heap.size,0,none⟩)] (Ko a) bs (by omega) _ _ w' hs (λx bB Ql=>Vh x a _ bB (hcA bB (h.trans (Ql.mono (by have:=h.size;omega)))));have Im:Ng bs a=.tuple #[.int .i64 (bs.foldl (lI a) (0,false)).1,.bool (bs.foldl (lI a) (0,false)).2]:=by
    rw[Rx aOP];unfold Ng;split<;>rfl
   by_cases hn:firstIdx (Ko a) bs<0
   case' pos =>
    rw[if_pos hn];push_cast -dsimp;refine aA (aJS wA aAW oA) ?_;rintro _ wB ⟨rfl,sk⟩;have e1:¬0<=firstIdx (Ko a) bs:=by omega
    push_cast -dsimp[e1,decide_false,beq_self_eq_true,Bool.not_true]
   case' neg =>
    rw[if_neg hn];push_cast -dsimp;refine aA (aJS wA aAW oA) ?_;rintro _ wB ⟨rfl,sk⟩;have hf:=xM hn;obtain⟨hf1,hf2⟩:=hf;rw[hf2]at hn hf1 ⊢
    have il:=ae (l:=bs) (i:=bs.findIdx (Ko a)) (by omega);obtain⟨x,hx,_⟩:=il;have il:=(oA.below sk).get hx;obtain⟨b,o,rfl,_,aP⟩:=il;have k0:wB.cell? ⟨b,o+bs.findIdx (Ko a),none⟩=some (.int .i64 x):=by simpa[bH] using aP 0 _ rfl
    have H2:bs.getD ((bs.findIdx (Ko a):Nat):Int).toNat 0=x:=by rw[Int.toNat_natCast,List.getD_eq_getElem?_getD,hx];rfl
    rw[H2];have e1:(0:Int)<=(bs.findIdx (Ko a):Nat):=by omega
    generalize bs.findIdx (Ko a)=k at *
    push_cast -dsimp[e1,beq_self_eq_true,Bool.not_true,k0];refine⟨by omega,?_⟩
   all_goals (
    have zB:=sk.size
    have aFf:=aAW.trans (sk.mono (by have:=aAW.size;omega))
    have cB:=hcA wB aFf
    push_cast -dsimp[cB]
    refine aA (aAn q ea _ t bs (by omega) a wB ((ZS.below Il).below sk)) ?_
    rintro _ wC ⟨rfl,hbC⟩
    have zC:=hbC.size
    rw[Im]
    have aAX:=aFf.trans (hbC.mono (by have:=aFf.size;omega))
    have oC:=(oA.below sk).below hbC
    push_cast -dsimp
    refine aK [23,24,26,193,194,195,196,197,198,199,200,201] (λz wy=>∃j:Nat,z 193=.int .i64 j/\j<=bs.length/\z 23=.int .i64 ((bs.take j).foldl (lI a) (0,false)).1/\z 24=.bool ((bs.take j).foldl (lI a) (0,false)).2/\Below wC.heap.size wC wy) (λz _=>bs.length-(intOf (z 193)).toNat) ?_ ?_
    ·exact⟨0,rfl,Nat.zero_le _,by rw[List.take_zero];rfl,by rw[List.take_zero];rfl,Below.refl _ _⟩
    intro y wy hJ
    obtain⟨j,aEH,hj,h23,h24,vV⟩:=hJ
    push_cast -dsimp[aEH,h23,h24]
    refine⟨λao=>?_,λeY=>?_⟩
    ·have il:=ae (l:=bs) (i:=j) (by omega);obtain⟨u,hu,hum,hud,hut⟩:=il;have il:=(oC.below vV).get hu;obtain⟨b',o',OV,_,sq⟩:=il;have k1:wy.cell? ⟨b',o'+j,none⟩=some (.int .i64 u):=by simpa[bH] using sq 0 _ rfl
     have cy:=hcA wy (aAX.trans (vV.mono (by have:=aAX.size;omega)));have CO:(bs.take (j+1)).foldl (lI a) (0,false)=lI a ((bs.take j).foldl (lI a) (0,false)) u:=by rw[hut,List.foldl_append];rfl
     first|(subst OV)|(cases OV)
     push_cast -dsimp[k1,cy];refine⟨⟨by omega,by omega⟩,λhua=>⟨⟨by omega,by omega⟩,⟨j+1,rfl,by omega,?_,?_,vV⟩,by(try rw[aEH]);simp only[intOf];omega⟩,λhua=>⟨⟨by omega,by omega⟩,⟨j+1,rfl,by omega,?_,?_,vV⟩,by(try rw[aEH]);simp only[intOf];omega⟩⟩
     all_goals (rw[CO,lI];first|rw[if_pos hua]|rw[if_neg hua])
    rw[List.take_of_length_le (by omega)]
    push_cast -dsimp[beq_self_eq_true,decide_true]
    exact HY.trans ((aAX.trans (vV.mono (by have:=aAX.size;omega))).mono (by omega))
   )
  push_cast -dsimp;refine aA (W5 s w5 hL.1 (by omega) hL.2) ?_;rintro _ w7 ⟨rfl,lq⟩;push_cast -dsimp;exact HY.trans ((Cx.trans (lq.mono (by omega))).mono (by omega))
end Go.Proofs.YtemjejfpadnljaaGreatDoor
namespace Go.Proofs.YtemjejfpadnljaaGreatDoor
open Go.Vc Go.Proofs Go.RowKit Cae
attribute [local irreducible] cZ ab ai aX runK ar Sl Vc.Own vc aS bu aZ
open Go.Deep Go.ChangeShapes Go.WideShapes Go.ChangeAt
section
variable {H:Type} {enc:TypeId×Value->H} {W:World} {base b0:Nat} {sp:Nat->Bool} {held:Bool}
theorem YB {n:Nat}{cs:List Value}{y:DataW H×List MemPlace}(h:DataW.trod enc Tryz.prog W base sp held n 43 cs=some y):∃r:UA,cs=Vt r:=by
 obtain⟨y0,y1,y2,m,_,hl,h0,h1,h2⟩:=trod_struct3 Tryz.underlying43 h;rw[show Tryz.prog.cellsOf 43=3 by kernel_rfl]at hl
 match cs,hl with
 | [a,b,c],_ =>
  have Qm:DataW.trod enc Tryz.prog W base sp held m 3 (List.take (Tryz.prog.cellsOf 3) [a,b,c])=some y0:=h0;have Kp:DataW.trod enc Tryz.prog W base sp held m 3 (List.take (Tryz.prog.cellsOf 3) [b,c])=some y1:=h1;have WO:DataW.trod enc Tryz.prog W base sp held m 9 (List.take (Tryz.prog.cellsOf 9) [c])=some y2:=h2;rw[aDb]at Qm Kp;rw[show Tryz.prog.cellsOf 9=1 by kernel_rfl]at WO
  obtain⟨z0,e0⟩:=open_int Qm;obtain⟨z1,e1⟩:=open_int Kp;obtain⟨s,e2,_⟩:=DataW.trod_string Tryz.underlying9 WO;simp at e0 e1 e2;subst e0 e1 e2;exact⟨⟨z0,z1,s.data.toList⟩,rfl⟩
theorem UK {v:Value}{d:DataW H}{p:List MemPlace}(uY:Value.okWide Tryz.prog W .any base 41 v)
  (h:DataW.Trod enc Tryz.prog W b0 sp held 41 v d p):∃l,Sl (λ_=>False) 3 (En Vt) W v l:=by
 obtain⟨a,len,cap,rfl⟩:=okWide_slice Tryz.underlying41 uY;obtain⟨n,h⟩:=h;obtain⟨v,l,iS,hl⟩:=open_slice (k:=3) (R:=En Vt) Tryz.underlying41 (by kernel_rfl) (by omega) h λn cs y _ hh=>YB hh;have:v=.slice a len cap:=by simpa[Value.cells] using iS.symm
 exact⟨l,this▸hl⟩
end
end Go.Proofs.YtemjejfpadnljaaGreatDoor
