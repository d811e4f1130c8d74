/- Texts of this claim, merged: Par, Fp, Vq, Boom, Rp1, Rp2, Rp3, Rp4, Rp5. -/
import Derived.Test.YtemjejfpadnljaaGreatDoorM5
import Derived.Shelf.Strconv.AtoiAll
set_option maxRecDepth 100000
set_option linter.unusedSimpArgs false
set_option linter.unusedVariables false
set_option maxHeartbeats 8000000
namespace Go.Proofs.YtemjejfpadnljaaGreatDoor
open Go.Vc Go.Proofs Go.RowKit Cae
attribute [local irreducible] cZ ab ai aX runK ar Sl Vc.Own vc aS bu aZ
def LM (B:Nat)(s:List UInt8)(r:Value)(w:World):Prop :=
 (∃v l,r=.tuple #[v,.nilIface]/\Go.Vc.Own B 208 2 bA w v l/\dI s l)\/((∀l,¬dI s l)/\r=.tuple #[.slice none 0 0,.iface 74 (.int .i64 3)])
def LL (sz:Nat)(w:World)(s body:List UInt8)(pre:List (List UInt8))(W:World):Prop :=
 ∃v out,aM W sz 139 [.slice none 0 0]/\aM W (sz+1) 34 [.nilIface]/\aM W (sz+2) 9 [str body]/\aM W (sz+3) 139 [v]/\Go.Vc.Own (sz+9) 208 2 bA W v out/\out.length=pre.length/\(body=[]->out=[])/\(∀l,dI s l->out=l.take pre.length)/\Below sz w W
def Pl (sz:Nat)(w:World)(s body:List UInt8)(c:Code)(pre:List (List UInt8))(W:World):Prop :=
 (c=.ret/\aM W sz 139 [.slice none 0 0]/\aM W (sz+1) 34 [.iface 74 (.int .i64 3)]/\(∀l,¬dI s l)/\Below sz w W)\/(c=.exit 0/\body=[]/\LL sz w s body [] W)
theorem LL.kept {sz:Nat}{w W W':World}{s body:List UInt8}{pre:List (List UInt8)}(hw:sz=w.heap.size)(h:LL sz w s body pre W)(hk:Kept (λk=>k=sz+4\/k=sz+7\/k=sz+7+1) W W'):LL sz w s body pre W':=by
 obtain⟨v,out,h1,h2,h3,h4,h5,h6,h7,h8,h9⟩:=h;exact⟨v,out,h1.kept hk (by omega),h2.kept hk (by omega),h3.kept hk (by omega),h4.kept hk (by omega),h5.aJ hk (λg hg hh=>by have:=(h5.block g hg).1;omega),h6,h7,h8,h9.trans (hk.below (by have:=h9.size;omega) (λi h=>by omega))⟩
theorem Pl.kept {sz:Nat}{w W W':World}{s body:List UInt8}{c:Code}{pre:List (List UInt8)}(hw:sz=w.heap.size)(h:Pl sz w s body c pre W)(hk:Kept (λk=>k=sz+4\/k=sz+7\/k=sz+7+1) W W'):Pl sz w s body c pre W':=by
 rcases h with ⟨h0,h1,h2,h3,h9⟩|⟨h0,h1,h2⟩
 ·exact .inl ⟨h0,h1.kept hk (by omega),h2.kept hk (by omega),h3,h9.trans (hk.below (by have:=h9.size;omega) (λi h=>by omega))⟩
 exact .inr ⟨h0,h1,h2.kept hw hk⟩
theorem jj {w W:World}{s:List UInt8}{r1 r2:Value}{D:Nat}(hD:D=w.heap.size+7)(P1:aM W w.heap.size 139 [r1])(P2:aM W (w.heap.size+1) 34 [r2])(hDW:W.heap[D]?=some (.deferred (some [])))(hb:Below w.heap.size w W)
  (hR:LM w.heap.size s (.tuple #[r1,r2]) (W.putObj D (.deferred none))) {t:Fr} (h2:t.getD 2 undef=.pointer (some ⟨w.heap.size,0,none⟩)) (h3:t.getD 3 undef=.pointer (some ⟨w.heap.size+1,0,none⟩)) :
  bodyPostM Fence.wide 0 Tryz.prog Tryz.f133 (λe w'=>∃v,e=.returned v/\LM w.heap.size s v w'/\Below w.heap.size w w') .ret ⟨t.toArray,[{ target:=.collected D,args:=#[] }]⟩ W:=by
 have hk:=yl (X:=λk=>k=D) W D (.deferred none) rfl;have Q1:=P1.kept hk (by omega);have Q2:=P2.kept hk (by omega);refine aGh (rs:=[.cell 2 139,.cell 3 34]) (by rfl) hDW ?_;have d1:(W.putObj D (.deferred none)).cell? ⟨w.heap.size,0,none⟩=some r1:=Q1.cell rfl;have d2:(W.putObj D (.deferred none)).cell? ⟨w.heap.size+1,0,none⟩=some r2:=Q2.cell rfl;have hgW:∃V,W.putObj D (.deferred none)=V:=⟨_,rfl⟩;obtain⟨V,hV⟩:=hgW;rw[hV]at d1 d2 hR hk ⊢
 push_cast -dsimp[h2,h3,d1,d2];exact⟨hR,hb.trans (hk.below hb.size (λi h=>by omega))⟩
theorem aCk (s:List UInt8)(hs:s.length<=1000000)(w:World)(hd:Db w)(he:mB w):ar Tryz.prog 133 [str s] w λr w'=>LM w.heap.size s r w'/\Below w.heap.size w w':=by
 refine Qj Tryz.func133 rfl (by kernel_rfl) ?_;simp -dsimp (maxSteps:=9^7) only[push_cast,xN,Tryz.ntmps133,List.length_cons,List.length_nil,Nat.reduceAdd,Nat.reduceSub,Nat.reduceBEq,List.replicate_succ,List.replicate_zero];refine ma (ro:=none) (by rfl) ?_;push_cast -dsimp;refine aq (z:=[.slice none 0 0]) (by kernel_rfl) ?_;intro w1 aU;have pY:=aU.size;have B1:=aU.aL;have b1:=aU.below;push_cast -dsimp;refine aq (z:=[.nilIface]) (by kernel_rfl) ?_;intro w2 bJ;have Bn:=bJ.size;have B12:=B1.below bJ.below (by omega);have B22:=bJ.aL;have b2:=b1.trans (bJ.below.mono (by omega));rw[pY]at B22;push_cast -dsimp[pY];refine ma (ro:=none) (by rfl) ?_;push_cast -dsimp;refine aA (VT s [91] w2) ?_;rintro _ PX ⟨rfl,rfl⟩;push_cast -dsimp;refine aq (z:=[str []]) (by kernel_rfl) ?_;intro w3 cN;have LF:=cN.size;have B13:=B12.below cN.below (by omega);have B23:=B22.below cN.below (by omega);have B33:=cN.aL;have b3:=b2.trans (cN.below.mono (by omega));have es2:PX.heap.size=w.heap.size+2:=by omega
 rw[es2]at B33;push_cast -dsimp[es2];refine aC B33 (by simp) rfl ?_;intro w4 ah;have KZ:w4.heap.size=w3.heap.size:=ah.size;have B14:=B13.kept ah.kept (by omega);have B24:=B23.kept ah.kept (by omega);have B34:aM w4 (w.heap.size+2) 9 [str (Lib.trimPrefix s [91])]:=ah.aL;have b4:=b3.trans (ah.kept.below (B:=w.heap.size) (by omega) (λi h=>by omega));have c34:w4.cell? ⟨w.heap.size+2,0,none⟩=some (str (Lib.trimPrefix s [91])):=B34.cell rfl;have LA:(Lib.trimPrefix s [91]).length<=s.length:=by
  unfold Lib.trimPrefix;split
  ·rw[List.length_drop];omega
  exact Nat.le_refl _
 push_cast -dsimp;refine ma (ro:=none) (by rfl) ?_;push_cast -dsimp[c34];refine aA (VV (Lib.trimPrefix s [91]) [93] (by omega) w4) ?_;rintro _ w4' ⟨rfl,rfl⟩;push_cast -dsimp;refine aC B34 (by simp) rfl ?_;intro w5 cI;have NQ:w5.heap.size=w4'.heap.size:=cI.size;have B15:=B14.kept cI.kept (by omega);have B25:=B24.kept cI.kept (by omega);have CQ:∃body,Lib.trimSuffix (Lib.trimPrefix s [91]) [93]=body:=⟨_,rfl⟩;obtain⟨body,sI⟩:=CQ;have Z0:body.length<=s.length:=by
  rw[<-sI];unfold Lib.trimSuffix;split
  ·rw[List.length_take];omega
  exact LA
 rw[sI]at cI;rw[sI];have B35:aM w5 (w.heap.size+2) 9 [str body]:=cI.aL;have b5:=b4.trans (cI.kept.below (B:=w.heap.size) (by omega) (λi h=>by omega));have c15:w5.cell? ⟨w.heap.size,0,none⟩=some (.slice none 0 0):=B15.cell rfl;have hgp:∃pf,Lib.hasPrefix s [91]=pf:=⟨_,rfl⟩;obtain⟨pf,hpf⟩:=hgp;have hgq:∃sf,Lib.hasSuffix (Lib.trimPrefix s [91]) [93]=sf:=⟨_,rfl⟩;obtain⟨sf,hsf⟩:=hgq;rw[hpf,hsf];push_cast -dsimp;refine ma (ro:=none) (by rfl) ?_;cases tC:(pf && sf) with
 | false =>
  have gH:∀l,¬dI s l:=λl h=>by
   have:=rW h;rw[hpf,hsf]at this;rw[this.1,this.2.1]at tC;cases tC
  cases pf<;>cases sf<;>first|(cases tC;done)|skip
  all_goals
   push_cast -dsimp
   refine aC B15 (by simp) rfl ?_
   intro w6 bQ
   have K0:w6.heap.size=w5.heap.size:=bQ.size
   have B26:=B25.kept bQ.kept (by omega)
   have B16:aM w6 w.heap.size 139 [.slice none 0 0]:=bQ.aL
   push_cast -dsimp
   refine aC B26 (by simp) rfl ?_
   intro w7 fB
   have B17:=B16.kept fB.kept (by omega)
   have B27:aM w7 (w.heap.size+1) 34 [.iface 74 (.int .i64 3)]:=fB.aL
   have b7:=(b5.trans (bQ.kept.below (B:=w.heap.size) (by omega) (λi h=>by omega))).trans (fB.kept.below (B:=w.heap.size) (by omega) (λi h=>by omega))
   have d1:w7.cell? ⟨w.heap.size,0,none⟩=some (.slice none 0 0):=B17.cell rfl
   have d2:w7.cell? ⟨w.heap.size+1,0,none⟩=some (.iface 74 (.int .i64 3)):=B27.cell rfl
   push_cast -dsimp
   refine aGg (rs:=[.cell 2 139,.cell 3 34]) (by rfl) ?_
   push_cast -dsimp[d1,d2]
   exact⟨.inr ⟨gH,rfl⟩,b7⟩
 | true =>
  cases pf<;>cases sf<;>first|(cases tC;done)|skip
  push_cast -dsimp;refine ma (ro:=none) (by rfl) ?_;push_cast -dsimp;refine aq (z:=[.slice none 0 0]) (by kernel_rfl) ?_;intro w6 bQ;have K0:=bQ.size;have B16:=B15.below bQ.below (by omega);have B26:=B25.below bQ.below (by omega);have B36:=B35.below bQ.below (by omega);have B46:=bQ.aL;have b6:=b5.trans (bQ.below.mono (by omega));have es5:w5.heap.size=w.heap.size+3:=by omega
  rw[es5]at B46;have c36:w6.cell? ⟨w.heap.size+2,0,none⟩=some (str body):=B36.cell rfl;push_cast -dsimp[es5];refine wpIn_seq (ma (ro:=none) (by rfl) ?_);push_cast -dsimp[c36];refine aA (KU body 32 w6) ?_;rintro _ w7 ⟨rfl,hS,hP,hV,K1,lq⟩;have es6:w6.heap.size=w.heap.size+4:=by omega
  rw[es6]at hS hP hV;have B17:=B16.below lq (by omega);have B27:=B26.below lq (by omega);have B37:=B36.below lq (by omega);have B47:=B46.below lq (by omega);have b7:=b6.trans (lq.mono (by omega));push_cast -dsimp[es6];have es7:w7.heap.size=w.heap.size+7:=by omega
  have Nz:aM w7 (w.heap.size+4) 9 [str body]:=hS;refine wpIn_block (aGF (α:=List UInt8) (gf:=200) (lb:=[.pointer (some ⟨w.heap.size+4+1,0,none⟩),.pointer (some ⟨w.heap.size+4,0,none⟩),.pointer (some ⟨w.heap.size+4+2,0,none⟩)]) (by rfl) (λargs w=>bh Tryz.func200 (by kernel_rfl) (by kernel_rfl)) (en:=λx=>str x) (B:=λk=>k=w.heap.size+4) (Z:=λk=>k=w.heap.size+4\/k=w.heap.size+4+1\/k=w.heap.size+4+2)
   (λk hk=>by omega) (λk hk=>by omega) (Yu body 32 (by omega) _ _ _ _ (by omega) (by omega) w7 hS hP hV) (LL w.heap.size w s body) (Pl w.heap.size w s body) (λp W W' h hk=>h.kept rfl (by rw[es7]at hk;exact hk)) (λc p W W' h hk=>h.kept rfl (by rw[es7]at hk;exact hk)) ?_ 8 (by rfl) (by rfl) ?_ ?_ ?_ ?_)
  ·exact⟨_,[],B17,B27,B37,B47,Go.Vc.Own.nil (enc:=bA) _ _ (λ_=>rfl) _,rfl,λ_=>rfl,λl _=>rfl,b7⟩
  ·intro x W;push_cast -dsimp
  ·intro pre x W hI hA hWs;obtain⟨v,out,P1,P2,P3,P4,ho,To,fU,Wy,sk⟩:=hI;have Ti:=sk.size;have cb:W.cell? ⟨w.heap.size+2,0,none⟩=some (str body):=P3.cell rfl;have mR:x∈splitB 32 body:=hA.subset (by simp);have hxl:=pX 32 body x mR;have aQ8:pre.length<=body.length:=by
    have h1:=hA.length_le;have h2:=tU 32 body;rw[List.length_append,List.length_singleton]at h1;omega
   have Ha:∀l,dI s l->aO (-2) l=true/\body=lA l:=λl hl=>⟨hl.1,by rw[<-sI];exact(rW hl).2.2⟩;push_cast -dsimp[cb];refine⟨λso=>?_,λaAV=>?_⟩
   ·have yW:=fU so;subst yW;exact⟨Nat.le_refl _,.inr ⟨rfl,so,v,[],P1,P2,P3,P4,ho,rfl,λ_=>rfl,λl _=>rfl,sk⟩⟩
   refine aA (aH3 x 45 (by omega) W) ?_;rintro _ w8 ⟨rfl,mh⟩;have hgc:∃a b two,mI 45 x=(a,b,two):=⟨_,_,_,rfl⟩;obtain⟨a,b,two,lT⟩:=hgc;have iQ:=VS 45 x;rw[lT]at iQ;rw[lT];obtain⟨hla,hlb⟩:=iQ;dsimp only at hla hlb;cases two with
   | true =>
    have RG:∀l,dI s l->∃r,l[pre.length]?=some r/\0<=r.1/\r.1<=r.2/\r.2<=1114111/\a=gk r.1.toNat/\b=gk r.2.toNat:=λl hl=>by
     obtain⟨hr,j7⟩:=Ha l hl;obtain⟨r,vZ,Tp,uV,hr3,hr4⟩:=xo hr j7 aAV hA;rw[Tp]at lT;by_cases ao:r.1<r.2
     ·rw[Li (by omega) (by omega) (by omega) ao]at lT;exact⟨r,vZ,uV,hr3,hr4,(Prod.mk.inj lT).1.symm,(Prod.mk.inj (Prod.mk.inj lT).2).1.symm⟩
     rw[FJ (by omega) (by omega) ao]at lT;cases (Prod.mk.inj (Prod.mk.inj lT).2).2
    push_cast -dsimp;refine aA (pQ 32 (.inl rfl) a (by omega) w8 (he.below (sk.trans (mh.mono Ti)))) ?_;rintro _ w9 ⟨⟨v1,e1,rfl,he1,LD⟩,lS⟩;push_cast -dsimp;refine aA (pQ 32 (.inl rfl) b (by omega) w9 (he.below (sk.trans ((mh.tr lS).mono Ti)))) ?_;rintro _ Tz ⟨⟨v2,e2,rfl,he2,yi⟩,Qw⟩;have kD:=(mh.tr lS).tr Qw;have Q1:=P1.below kD (by omega);have Q2:=P2.below kD (by omega);have Q3:=P3.below kD (by omega);have Q4:=P4.below kD (by omega);have hoq:=ho.below kD;have hbq:=sk.trans (kD.mono Ti);have hWq:=kD.size;have H7:Kept (λ_=>False) W Tz:=Kept.aN kD (λi h1 h2=>by omega);have uY:∀l,dI s l->∃r,l[pre.length]?=some r/\v1=r.1/\v2=r.2/\e1=.nilIface/\e2=.nilIface:=λl hl=>by
     obtain⟨r,vZ,uV,hr3,hr4,MD,ha2⟩:=RG l hl;have h1:=LD _ (by omega) MD;have h2:=yi _ (by omega) ha2;exact⟨r,vZ,by rw[h1.1];omega,by rw[h2.1];omega,h1.2,h2.2⟩
    by_cases Wi:e1=.nilIface/\e2=.nilIface
    ·obtain⟨rfl,rfl⟩:=Wi;have cv:Tz.cell? ⟨w.heap.size+3,0,none⟩=some v:=Q4.cell rfl;have eN:=hoq.slice;obtain⟨oa,oc,rfl⟩:=eN;push_cast -dsimp[cv];refine cH fK rfl rfl (by omega) ?_;intro T9 ji;have aK1:=ji.size;have JK:=hoq.new ji;have R4:=Q4.below ji.below (by omega);push_cast -dsimp;refine aW (base:=w.heap.size+9) [(v1,v2)] (enc:=bA) fK JK (by rfl) (λj u hu=>by simpa[bA] using ji.cell hu) iM (by simp only[List.length_cons,List.length_nil];omega) (by omega) ?_;intro v12 Tc MP aFq aOo;have kg:Kept (λj=>(Value.slice oa out.length oc).ownBlock=some j) T9 Tc:=Kept.grown aFq (λ_ h=>h);have kH:=JK.block;have R5:aM Tc (w.heap.size+3) 139 [.slice oa out.length oc]:=R4.kept kg (λh=>by have:=(kH _ h).1;omega);push_cast -dsimp;have eN:=MP.slice;obtain⟨va,vc,rfl⟩:=eN;refine aC R5 (by simp) rfl ?_;intro xC MV;have yk:Kept (λj=>j=w.heap.size+3\/(Value.slice oa out.length oc).ownBlock=some j) Tz xC:=((Kept.new (X:=λj=>j=w.heap.size+3\/(Value.slice oa out.length oc).ownBlock=some j) ji).trans kg (λ_ _ h=>.inr h)).trans MV.kept (λ_ _ h=>.inl h);have sr:∀{k:Nat},k=w.heap.size+3\/(Value.slice oa out.length oc).ownBlock=some k->w.heap.size+9<=k\/k=w.heap.size+3:=λh=>by
      rcases h with h|h
      ·exact .inr h
      exact .inl (kH _ h).1
     have S1:=Q1.kept yk (λh=>by have:=sr h;omega);have S2:=Q2.kept yk (λh=>by have:=sr h;omega);have S3:=Q3.kept yk (λh=>by have:=sr h;omega);have S4:aM xC (w.heap.size+3) 139 [.slice va (out++[(v1,v2)]).length vc]:=MV.aL;have aFG:=MP.aJ MV.kept (λg hg h=>by have:=(MP.block g hg).1;omega);have hz:∀k,(k=w.heap.size+4\/k=w.heap.size+4+1\/k=w.heap.size+4+2)\/k=w7.heap.size\/k=w7.heap.size+1->xC.heap[k]?=W.heap[k]?:=λk hk =>
      (yk.block k (by omega) (λh=>by have:=sr h;omega)).trans (H7.block k (by omega) (λh=>h))
     have MK:LL w.heap.size w s body (pre++[x]) xC:=⟨_,out++[(v1,v2)],S1,S2,S3,S4,aFG,by rw[List.length_append,List.length_append,To];rfl,λh=>absurd h aAV,λl hl=>by
       obtain⟨r,vZ,rfl,rfl,_,_⟩:=uY l hl;have ht:l.take (pre++[x]).length=l.take pre.length++[r]:=by
        rw[List.length_append,List.length_singleton,List.take_add_one,vZ];rfl
       rw[ht,<-Wy l hl],hbq.trans (yk.below (B:=w.heap.size) (by omega) (λi h=>by have:=sr h;omega))⟩
     have XE:W.heap.size<=xC.heap.size:=by have:=yk.size;omega
     push_cast -dsimp;exact⟨XE,hz,MK⟩
    have rl:∀l,¬dI s l:=λl hl=>by
     obtain⟨r,_,_,_,h1,h2⟩:=uY l hl;exact Wi ⟨h1,h2⟩
    have fin:∀(xC:World),aM xC w.heap.size 139 [.slice none 0 0]->aM xC (w.heap.size+1) 34 [.iface 74 (.int .i64 3)]->Kept (λk=>k=w.heap.size\/k=w.heap.size+1) Tz xC->W.heap.size<=xC.heap.size/\(∀k,(k=w.heap.size+4\/k=w.heap.size+4+1\/k=w.heap.size+4+2)\/k=w7.heap.size\/k=w7.heap.size+1->xC.heap[k]?=W.heap[k]?)/\Pl w.heap.size w s body .ret (pre++[x]) xC:=λxC h1 h2 hk =>
     ⟨by have:=hk.size;omega,λk h=>(hk.block k (by omega) (by omega)).trans (H7.block k (by omega) (λh=>h)),.inl ⟨rfl,h1,h2,rl,hbq.trans (hk.below (by omega) (λi h=>by omega))⟩⟩
    rcases he1 with rfl|⟨t1,x1,rfl⟩
    ·rcases he2 with rfl|⟨t2,x2,rfl⟩
     ·exact absurd ⟨rfl,rfl⟩ Wi
     push_cast -dsimp;refine aC Q1 (by simp) rfl ?_;intro T9 ji;have T2:=Q2.kept ji.kept (by omega);have T1:aM T9 w.heap.size 139 [.slice none 0 0]:=ji.aL;push_cast -dsimp;refine aC T2 (by simp) rfl ?_;intro Tc tF;have U1:=T1.kept tF.kept (by omega);have kF:=fin Tc U1 tF.aL ((ji.kept.weaken (λi _ h=>.inl h)).trans tF.kept (λi _ h=>.inr h));push_cast -dsimp;exact kF
    push_cast -dsimp;refine aC Q1 (by simp) rfl ?_;intro T9 ji;have T2:=Q2.kept ji.kept (by omega);have T1:aM T9 w.heap.size 139 [.slice none 0 0]:=ji.aL;push_cast -dsimp;refine aC T2 (by simp) rfl ?_;intro Tc tF;have U1:=T1.kept tF.kept (by omega);have kF:=fin Tc U1 tF.aL ((ji.kept.weaken (λi _ h=>.inl h)).trans tF.kept (λi _ h=>.inr h));push_cast -dsimp;exact kF
   | false =>
    have RG:∀l,dI s l->∃r,l[pre.length]?=some r/\0<=r.1/\r.1<=r.2/\r.2<=1114111/\a=gk r.1.toNat/\a=gk r.2.toNat:=λl hl=>by
     obtain⟨hr,j7⟩:=Ha l hl;obtain⟨r,vZ,Tp,uV,hr3,hr4⟩:=xo hr j7 aAV hA;rw[Tp]at lT;by_cases ao:r.1<r.2
     ·rw[Li (by omega) (by omega) (by omega) ao]at lT;cases (Prod.mk.inj (Prod.mk.inj lT).2).2
     rw[FJ (by omega) (by omega) ao]at lT;have e2:r.2=r.1:=by omega
     exact⟨r,vZ,uV,hr3,hr4,(Prod.mk.inj lT).1.symm,by rw[e2];exact(Prod.mk.inj lT).1.symm⟩
    push_cast -dsimp;refine aA (pQ 32 (.inl rfl) a (by omega) w8 (he.below (sk.trans (mh.mono Ti)))) ?_;rintro _ w9 ⟨⟨v1,e1,rfl,he1,LD⟩,lS⟩;push_cast -dsimp;refine aA (pQ 32 (.inl rfl) a (by omega) w9 (he.below (sk.trans ((mh.tr lS).mono Ti)))) ?_;rintro _ Tz ⟨⟨v2,e2,rfl,he2,yi⟩,Qw⟩;have kD:=(mh.tr lS).tr Qw;have Q1:=P1.below kD (by omega);have Q2:=P2.below kD (by omega);have Q3:=P3.below kD (by omega);have Q4:=P4.below kD (by omega);have hoq:=ho.below kD;have hbq:=sk.trans (kD.mono Ti);have hWq:=kD.size;have H7:Kept (λ_=>False) W Tz:=Kept.aN kD (λi h1 h2=>by omega);have uY:∀l,dI s l->∃r,l[pre.length]?=some r/\v1=r.1/\v2=r.2/\e1=.nilIface/\e2=.nilIface:=λl hl=>by
     obtain⟨r,vZ,uV,hr3,hr4,MD,ha2⟩:=RG l hl;have h1:=LD _ (by omega) MD;have h2:=yi _ (by omega) ha2;exact⟨r,vZ,by rw[h1.1];omega,by rw[h2.1];omega,h1.2,h2.2⟩
    by_cases Wi:e1=.nilIface/\e2=.nilIface
    ·obtain⟨rfl,rfl⟩:=Wi;have cv:Tz.cell? ⟨w.heap.size+3,0,none⟩=some v:=Q4.cell rfl;have eN:=hoq.slice;obtain⟨oa,oc,rfl⟩:=eN;push_cast -dsimp[cv];refine cH fK rfl rfl (by omega) ?_;intro T9 ji;have aK1:=ji.size;have JK:=hoq.new ji;have R4:=Q4.below ji.below (by omega);push_cast -dsimp;refine aW (base:=w.heap.size+9) [(v1,v2)] (enc:=bA) fK JK (by rfl) (λj u hu=>by simpa[bA] using ji.cell hu) iM (by simp only[List.length_cons,List.length_nil];omega) (by omega) ?_;intro v12 Tc MP aFq aOo;have kg:Kept (λj=>(Value.slice oa out.length oc).ownBlock=some j) T9 Tc:=Kept.grown aFq (λ_ h=>h);have kH:=JK.block;have R5:aM Tc (w.heap.size+3) 139 [.slice oa out.length oc]:=R4.kept kg (λh=>by have:=(kH _ h).1;omega);push_cast -dsimp;have eN:=MP.slice;obtain⟨va,vc,rfl⟩:=eN;refine aC R5 (by simp) rfl ?_;intro xC MV;have yk:Kept (λj=>j=w.heap.size+3\/(Value.slice oa out.length oc).ownBlock=some j) Tz xC:=((Kept.new (X:=λj=>j=w.heap.size+3\/(Value.slice oa out.length oc).ownBlock=some j) ji).trans kg (λ_ _ h=>.inr h)).trans MV.kept (λ_ _ h=>.inl h);have sr:∀{k:Nat},k=w.heap.size+3\/(Value.slice oa out.length oc).ownBlock=some k->w.heap.size+9<=k\/k=w.heap.size+3:=λh=>by
      rcases h with h|h
      ·exact .inr h
      exact .inl (kH _ h).1
     have S1:=Q1.kept yk (λh=>by have:=sr h;omega);have S2:=Q2.kept yk (λh=>by have:=sr h;omega);have S3:=Q3.kept yk (λh=>by have:=sr h;omega);have S4:aM xC (w.heap.size+3) 139 [.slice va (out++[(v1,v2)]).length vc]:=MV.aL;have aFG:=MP.aJ MV.kept (λg hg h=>by have:=(MP.block g hg).1;omega);have hz:∀k,(k=w.heap.size+4\/k=w.heap.size+4+1\/k=w.heap.size+4+2)\/k=w7.heap.size\/k=w7.heap.size+1->xC.heap[k]?=W.heap[k]?:=λk hk =>
      (yk.block k (by omega) (λh=>by have:=sr h;omega)).trans (H7.block k (by omega) (λh=>h))
     have MK:LL w.heap.size w s body (pre++[x]) xC:=⟨_,out++[(v1,v2)],S1,S2,S3,S4,aFG,by rw[List.length_append,List.length_append,To];rfl,λh=>absurd h aAV,λl hl=>by
       obtain⟨r,vZ,rfl,rfl,_,_⟩:=uY l hl;have ht:l.take (pre++[x]).length=l.take pre.length++[r]:=by
        rw[List.length_append,List.length_singleton,List.take_add_one,vZ];rfl
       rw[ht,<-Wy l hl],hbq.trans (yk.below (B:=w.heap.size) (by omega) (λi h=>by have:=sr h;omega))⟩
     have XE:W.heap.size<=xC.heap.size:=by have:=yk.size;omega
     push_cast -dsimp;exact⟨XE,hz,MK⟩
    have rl:∀l,¬dI s l:=λl hl=>by
     obtain⟨r,_,_,_,h1,h2⟩:=uY l hl;exact Wi ⟨h1,h2⟩
    have fin:∀(xC:World),aM xC w.heap.size 139 [.slice none 0 0]->aM xC (w.heap.size+1) 34 [.iface 74 (.int .i64 3)]->Kept (λk=>k=w.heap.size\/k=w.heap.size+1) Tz xC->W.heap.size<=xC.heap.size/\(∀k,(k=w.heap.size+4\/k=w.heap.size+4+1\/k=w.heap.size+4+2)\/k=w7.heap.size\/k=w7.heap.size+1->xC.heap[k]?=W.heap[k]?)/\Pl w.heap.size w s body .ret (pre++[x]) xC:=λxC h1 h2 hk =>
     ⟨by have:=hk.size;omega,λk h=>(hk.block k (by omega) (by omega)).trans (H7.block k (by omega) (λh=>h)),.inl ⟨rfl,h1,h2,rl,hbq.trans (hk.below (by omega) (λi h=>by omega))⟩⟩
    rcases he1 with rfl|⟨t1,x1,rfl⟩
    ·rcases he2 with rfl|⟨t2,x2,rfl⟩
     ·exact absurd ⟨rfl,rfl⟩ Wi
     push_cast -dsimp;refine aC Q1 (by simp) rfl ?_;intro T9 ji;have T2:=Q2.kept ji.kept (by omega);have T1:aM T9 w.heap.size 139 [.slice none 0 0]:=ji.aL;push_cast -dsimp;refine aC T2 (by simp) rfl ?_;intro Tc tF;have U1:=T1.kept tF.kept (by omega);have kF:=fin Tc U1 tF.aL ((ji.kept.weaken (λi _ h=>.inl h)).trans tF.kept (λi _ h=>.inr h));push_cast -dsimp;exact kF
    push_cast -dsimp;refine aC Q1 (by simp) rfl ?_;intro T9 ji;have T2:=Q2.kept ji.kept (by omega);have T1:aM T9 w.heap.size 139 [.slice none 0 0]:=ji.aL;push_cast -dsimp;refine aC T2 (by simp) rfl ?_;intro Tc tF;have U1:=T1.kept tF.kept (by omega);have kF:=fin Tc U1 tF.aL ((ji.kept.weaken (λi _ h=>.inl h)).trans tF.kept (λi _ h=>.inr h));push_cast -dsimp;exact kF
  ·intro xs W hS hI hD;obtain⟨v,out,P1,P2,P3,P4,ho,To,fU,Wy,sk⟩:=hI;have hxl:xs.length<=body.length+1:=by rw[hS];exact tU 32 body
   have iq:∀l,dI s l->out=l:=λl hl=>by
    have j7:body=lA l:=by rw[<-sI];exact(rW hl).2.2
    by_cases HY:body=[]
    ·rw[fU HY,vi (j7.symm.trans HY)]
    have gZ:xs=l.map ry:=by rw[hS,j7];exact tV hl.1 (by rw[<-j7];exact HY)
    rw[Wy l hl,gZ,List.length_map,List.take_length]
   have hoL:out.length<10000000:=by omega
   push_cast -dsimp;refine ma (ro:=none) (by rfl) ?_;have c7:W.cell? ⟨w.heap.size+3,0,none⟩=some v:=P4.cell rfl;have eN:=ho.slice;obtain⟨va,vc,rfl⟩:=eN;push_cast -dsimp[c7];refine aA (tT out (by omega) _ _ W ho.sl) ?_;rintro _ w8 ⟨rfl,mh⟩;have Ti:=sk.size;have l4:=P4.lt;have E1:=P1.below mh (by omega);have E2:=P2.below mh (by omega);have E4:=P4.below mh (by omega);have rQ:=ho.below mh;have AO:=sk.trans (mh.mono Ti);have hD8:=(mh.block w7.heap.size (Array.getElem?_eq_some_iff.1 hD).1).trans hD;have c8:w8.cell? ⟨w.heap.size+3,0,none⟩=some (.slice va out.length vc):=E4.cell rfl;cases hr:aO (-2) out with
   | false =>
    have rl:∀l,¬dI s l:=λl hl=>by
     have:=iq l hl;subst this;rw[hl.1]at hr;cases hr
    push_cast -dsimp;refine aC E1 (by simp) rfl ?_;intro wa fy;have Ty:wa.heap.size=w8.heap.size:=fy.size;have Ta:aM wa w.heap.size 139 [.slice none 0 0]:=fy.aL;have Tb:=E2.kept fy.kept (by omega);have H4:=fy.kept;have Lz:=(H4.block w7.heap.size (by have:=(Array.getElem?_eq_some_iff.1 hD8).1;omega) (by omega)).trans hD8;have vU:=AO.trans (H4.below (B:=w.heap.size) (by have:=AO.size;omega) (λi h=>by omega));push_cast -dsimp;refine aC Tb (by simp) rfl ?_;intro wb dH;have NR:wb.heap.size=wa.heap.size:=dH.size;have Ub:=Ta.kept dH.kept (by omega);have Di:=dH.kept;have WT:=(Di.block w7.heap.size (by have:=(Array.getElem?_eq_some_iff.1 Lz).1;omega) (by omega)).trans Lz;have j7:=vU.trans (Di.below (B:=w.heap.size) (by have:=vU.size;omega) (λi h=>by omega));push_cast -dsimp;exact jj es7 Ub dH.aL WT j7 (.inr ⟨rl,rfl⟩) (by rfl) (by rfl)
   | true =>
    push_cast -dsimp[c8];refine aA (Ot out (by omega) (CG (a := -2) (by omega) hr) _ _ w8 rQ.sl (hd.below AO hd.lt)) ?_;rintro _ w9 ⟨rfl,lS⟩;have l48:=E4.lt;have E19:=E1.below lS (by have:=mh.size;omega);have E29:=E2.below lS (by have:=mh.size;omega);have E49:=E4.below lS (by have:=mh.size;omega);have yV:=rQ.below lS;have MG:=AO.trans (lS.mono AO.size);have hD9:=(lS.block w7.heap.size (Array.getElem?_eq_some_iff.1 hD8).1).trans hD8;have c9:w9.cell? ⟨w.heap.size+3,0,none⟩=some (.slice va out.length vc):=E49.cell rfl;push_cast -dsimp;refine⟨λcY=>?_,λheq=>?_⟩
    ·have rl:∀l,¬dI s l:=λl hl=>by
      have:=iq l hl;subst this;exact cY hl.2
     refine aC E19 (by simp) rfl ?_;intro wa fy;have Ty:wa.heap.size=w9.heap.size:=fy.size;have Ta:aM wa w.heap.size 139 [.slice none 0 0]:=fy.aL;have Tb:=E29.kept fy.kept (by omega);have H4:=fy.kept;have Lz:=(H4.block w7.heap.size (by have:=(Array.getElem?_eq_some_iff.1 hD9).1;omega) (by omega)).trans hD9;have vU:=MG.trans (H4.below (B:=w.heap.size) (by have:=MG.size;omega) (λi h=>by omega));push_cast -dsimp;refine aC Tb (by simp) rfl ?_;intro wb dH;have NR:wb.heap.size=wa.heap.size:=dH.size;have Ub:=Ta.kept dH.kept (by omega);have Di:=dH.kept;have WT:=(Di.block w7.heap.size (by have:=(Array.getElem?_eq_some_iff.1 Lz).1;omega) (by omega)).trans Lz;have j7:=vU.trans (Di.below (B:=w.heap.size) (by have:=vU.size;omega) (λi h=>by omega));push_cast -dsimp;exact jj es7 Ub dH.aL WT j7 (.inr ⟨rl,rfl⟩) (by rfl) (by rfl)
    refine ma (ro:=none) (by rfl) ?_;push_cast -dsimp[c9];refine aC E19 (by simp) rfl ?_;intro wa fy;have Ty:wa.heap.size=w9.heap.size:=fy.size;have H4:=fy.kept;have l49:=E49.lt;have Ta:aM wa w.heap.size 139 [.slice va out.length vc]:=fy.aL;have Tb:=E29.kept fy.kept (by omega);have hoa:=yV.aJ fy.kept (λg hg h=>by have:=(yV.block g hg).1;omega);have lD:=(Array.getElem?_eq_some_iff.1 hD9).1;have Lz:=(H4.block w7.heap.size (by omega) (by omega)).trans hD9;have vU:=MG.trans (H4.below (B:=w.heap.size) (by omega) (λi h=>by omega));push_cast -dsimp;refine aC Tb (by simp) rfl ?_;intro wb dH;have NR:wb.heap.size=wa.heap.size:=dH.size;have Di:=dH.kept;have Ub:=Ta.kept dH.kept (by omega);have Wv:=hoa.aJ dH.kept (λg hg h=>by have:=(hoa.block g hg).1;omega);have WT:=(Di.block w7.heap.size (by omega) (by omega)).trans Lz;have j7:=vU.trans (Di.below (B:=w.heap.size) (by omega) (λi h=>by omega));have yW:=Wv.aJ (yl (X:=λk=>k=w7.heap.size) wb w7.heap.size (.deferred none) rfl) (λg hg h=>by have:=(Wv.block g hg).1;omega);push_cast -dsimp;refine wpIn_ret ?_;exact jj es7 Ub dH.aL WT j7 (.inl ⟨_,out,rfl,yW.mono (by omega),hr,Classical.not_not.1 heq⟩) (by rfl) (by rfl)
  intro c pre W hSp hX hD;rcases hX with ⟨rfl,h1,h2,rl,hb⟩|⟨rfl,so,hI⟩
  ·refine wpIn_ret ?_;push_cast -dsimp;exact jj es7 h1 h2 hD hb (.inr ⟨rl,rfl⟩) (by rfl) (by rfl)
  obtain⟨v,out,P1,P2,P3,P4,ho,To,fU,Wy,sk⟩:=hI;have iq:∀l,dI s l->out=l:=λl hl=>by
   have j7:body=lA l:=by rw[<-sI];exact(rW hl).2.2
   rw[fU so,vi (j7.symm.trans so)]
  have hoL:out.length<10000000:=by rw[fU so];decide
  refine wpIn_exit ?_;push_cast -dsimp;refine ma (ro:=none) (by rfl) ?_;have c7:W.cell? ⟨w.heap.size+3,0,none⟩=some v:=P4.cell rfl;have eN:=ho.slice;obtain⟨va,vc,rfl⟩:=eN;push_cast -dsimp[c7];refine aA (tT out (by omega) _ _ W ho.sl) ?_;rintro _ w8 ⟨rfl,mh⟩;have Ti:=sk.size;have l4:=P4.lt;have E1:=P1.below mh (by omega);have E2:=P2.below mh (by omega);have E4:=P4.below mh (by omega);have rQ:=ho.below mh;have AO:=sk.trans (mh.mono Ti);have hD8:=(mh.block w7.heap.size (Array.getElem?_eq_some_iff.1 hD).1).trans hD;have c8:w8.cell? ⟨w.heap.size+3,0,none⟩=some (.slice va out.length vc):=E4.cell rfl;cases hr:aO (-2) out with
  | false =>
   have rl:∀l,¬dI s l:=λl hl=>by
    have:=iq l hl;subst this;rw[hl.1]at hr;cases hr
   push_cast -dsimp;refine aC E1 (by simp) rfl ?_;intro wa fy;have Ty:wa.heap.size=w8.heap.size:=fy.size;have Ta:aM wa w.heap.size 139 [.slice none 0 0]:=fy.aL;have Tb:=E2.kept fy.kept (by omega);have H4:=fy.kept;have Lz:=(H4.block w7.heap.size (by have:=(Array.getElem?_eq_some_iff.1 hD8).1;omega) (by omega)).trans hD8;have vU:=AO.trans (H4.below (B:=w.heap.size) (by have:=AO.size;omega) (λi h=>by omega));push_cast -dsimp;refine aC Tb (by simp) rfl ?_;intro wb dH;have NR:wb.heap.size=wa.heap.size:=dH.size;have Ub:=Ta.kept dH.kept (by omega);have Di:=dH.kept;have WT:=(Di.block w7.heap.size (by have:=(Array.getElem?_eq_some_iff.1 Lz).1;omega) (by omega)).trans Lz;have j7:=vU.trans (Di.below (B:=w.heap.size) (by have:=vU.size;omega) (λi h=>by omega));push_cast -dsimp;exact jj es7 Ub dH.aL WT j7 (.inr ⟨rl,rfl⟩) (by rfl) (by rfl)
  | true =>
   push_cast -dsimp[c8];refine aA (Ot out (by omega) (CG (a := -2) (by omega) hr) _ _ w8 rQ.sl (hd.below AO hd.lt)) ?_;rintro _ w9 ⟨rfl,lS⟩;have l48:=E4.lt;have E19:=E1.below lS (by have:=mh.size;omega);have E29:=E2.below lS (by have:=mh.size;omega);have E49:=E4.below lS (by have:=mh.size;omega);have yV:=rQ.below lS;have MG:=AO.trans (lS.mono AO.size);have hD9:=(lS.block w7.heap.size (Array.getElem?_eq_some_iff.1 hD8).1).trans hD8;have c9:w9.cell? ⟨w.heap.size+3,0,none⟩=some (.slice va out.length vc):=E49.cell rfl;push_cast -dsimp;refine⟨λcY=>?_,λheq=>?_⟩
   ·have rl:∀l,¬dI s l:=λl hl=>by
     have:=iq l hl;subst this;exact cY hl.2
    refine aC E19 (by simp) rfl ?_;intro wa fy;have Ty:wa.heap.size=w9.heap.size:=fy.size;have Ta:aM wa w.heap.size 139 [.slice none 0 0]:=fy.aL;have Tb:=E29.kept fy.kept (by omega);have H4:=fy.kept;have Lz:=(H4.block w7.heap.size (by have:=(Array.getElem?_eq_some_iff.1 hD9).1;omega) (by omega)).trans hD9;have vU:=MG.trans (H4.below (B:=w.heap.size) (by have:=MG.size;omega) (λi h=>by omega));push_cast -dsimp;refine aC Tb (by simp) rfl ?_;intro wb dH;have NR:wb.heap.size=wa.heap.size:=dH.size;have Ub:=Ta.kept dH.kept (by omega);have Di:=dH.kept;have WT:=(Di.block w7.heap.size (by have:=(Array.getElem?_eq_some_iff.1 Lz).1;omega) (by omega)).trans Lz;have j7:=vU.trans (Di.below (B:=w.heap.size) (by have:=vU.size;omega) (λi h=>by omega));push_cast -dsimp;exact jj es7 Ub dH.aL WT j7 (.inr ⟨rl,rfl⟩) (by rfl) (by rfl)
   refine ma (ro:=none) (by rfl) ?_;push_cast -dsimp[c9];refine aC E19 (by simp) rfl ?_;intro wa fy;have Ty:wa.heap.size=w9.heap.size:=fy.size;have H4:=fy.kept;have l49:=E49.lt;have Ta:aM wa w.heap.size 139 [.slice va out.length vc]:=fy.aL;have Tb:=E29.kept fy.kept (by omega);have hoa:=yV.aJ fy.kept (λg hg h=>by have:=(yV.block g hg).1;omega);have lD:=(Array.getElem?_eq_some_iff.1 hD9).1;have Lz:=(H4.block w7.heap.size (by omega) (by omega)).trans hD9;have vU:=MG.trans (H4.below (B:=w.heap.size) (by omega) (λi h=>by omega));push_cast -dsimp;refine aC Tb (by simp) rfl ?_;intro wb dH;have NR:wb.heap.size=wa.heap.size:=dH.size;have Di:=dH.kept;have Ub:=Ta.kept dH.kept (by omega);have Wv:=hoa.aJ dH.kept (λg hg h=>by have:=(hoa.block g hg).1;omega);have WT:=(Di.block w7.heap.size (by omega) (by omega)).trans Lz;have j7:=vU.trans (Di.below (B:=w.heap.size) (by omega) (λi h=>by omega));have yW:=Wv.aJ (yl (X:=λk=>k=w7.heap.size) wb w7.heap.size (.deferred none) rfl) (λg hg h=>by have:=(Wv.block g hg).1;omega);push_cast -dsimp;refine wpIn_ret ?_;exact jj es7 Ub dH.aL WT j7 (.inl ⟨_,out,rfl,yW.mono (by omega),hr,Classical.not_not.1 heq⟩) (by rfl) (by rfl)
end Go.Proofs.YtemjejfpadnljaaGreatDoor
namespace Go.Vc
open Go.RowKit
section
variable {P:Program} {t:Fr} {w:World} {K:VK} {Q:EP}
def yE (P:Program)(f:FuncId)(args:List Value)(w:World)(R:VK)(E:List PanicEntry->World->Prop):Prop :=
 (callFunc f args.toArray).run P w=.ok (.enter f args.toArray) w/\Calls P f args.toArray w λe w'=>match e with
  | .returned v=>R v w'
  | .panicked c=>E c w'
  | .outgrown=>False
theorem aF {f:FuncId}{args:List Value}{R:VK}{E:List PanicEntry->World->Prop}{p}(h:yE P f args w R E)(k:∀v w',R v w'->K v w')(ke:∀c w',E c w'->Q (.panic c) t w'):ab P f args t w K Q p:=by
 unfold ab;rw[h.1];exact h.2.mono λe w' he=>by cases e<;>first|exact k _ _ he|exact ke _ _ he|exact he.elim
theorem ar.two {f:FuncId}{args:List Value}{R:VK}(h:ar P f args w R):yE P f args w R (λ_ _=>False) :=
 ⟨h.1,h.2.mono λe w' ⟨v,he,hr⟩=>by subst he;exact hr⟩
def Y2 (P:Program)(rs:List ResultVar)(R:VK)(E:List PanicEntry->World->Prop)(_:Ph (R,E)):EP
 | .normal,t,w=>pS P t w rs λvs=>R (yb vs) w
 | .ret,t,w=>pS P t w rs λvs=>R (yb vs) w
 | .panic c,_,w=>E c w
 | _,_,_=>False
variable {R:VK} {E:List PanicEntry->World->Prop}
theorem KB (rs)(p):Y2 P rs R E p .normal t w=pS P t w rs λvs=>R (yb vs) w:=(rfl)
theorem Y3 (rs)(p):Y2 P rs R E p .ret t w=pS P t w rs λvs=>R (yb vs) w:=(rfl)
theorem Mz (rs)(c)(p):Y2 P rs R E p (.panic c) t w=E c w:=(rfl)
theorem bI {f:FuncId}{fn:Func}{c:Code}{args:List Value}(hf:P.funcs[f]?=some fn)(hb:fn.body=some c)(hn:(fn.name == "runtime.NumGoroutine")=false)
  (rs:List ResultVar) (jV:fn.results=rs.toArray) (h:vc P c (Y2 P rs R E .mk) (xN args fn.ntmps) w .mk):yE P f args w R E:=by
 refine⟨bh hf (by simp[hb]) hn,calls_of_wp hf hb ?_⟩;have h1:=sR c _ _ w h;unfold cZ at h1;have e:(args.toArray++Array.replicate (fn.ntmps-args.toArray.size) undef)=(xN args fn.ntmps).toArray:=by simp[xN]
 rw[e];refine Code.wp_mono ?_ h1;rintro e a w' ⟨hd,hh⟩;have ha:a.tmps.toList.toArray=a.tmps:=by simp
 cases e<;>simp only[Y2]at hh<;>first|exact hh.elim|skip
 ·obtain⟨vs,hv,hk⟩:=cW fn rs jV _ _ hh;exact⟨hd,_,by rw[<-ha];exact hv,hk⟩
 ·obtain⟨vs,hv,hk⟩:=cW fn rs jV _ _ hh;exact⟨hd,_,by rw[<-ha];exact hv,hk⟩
 exact⟨hd,hh⟩
theorem YJ {ty:TypeId}{v:Value}{p}(k:Q (.panic [{ v:=.iface ty v,recovered:=false }]) t w):ai P (Instr.panic (.iface ty v)) t w K Q p:=by
 unfold ai;have:((do pure (Next.value (<-Instr.panic (.iface ty v))):Sem Next).run P w)=.halt (.panic (.iface ty v)) w:=rfl;rw[this];exact k
end
attribute [push_cast] KB Y3 Mz Be ts
section
variable {P:Program} {ops:Array Oper} {m:Nat} {E:List PanicEntry->World->Prop} {w:World}
def eH (P:Program)(ops:Array Oper)(w:World)(i:Nat)(K:Act->Prop)(a:Act):Prop :=
 match ops[i]? with
 | none=>K a
 | some o=>if Region.wanted o (yielded ops a.tmps) then ∃v,(execOp a.eval o).run P w=.ok (.value v) w/\K (a.put o.dst v) else K (a.put o.dst undef)
def qJ (P:Program)(ops:Array Oper)(w:World)(m:Nat)(E:List PanicEntry->World->Prop)(a:Act):Prop :=
 a.defers=[]/\∃o,ops[m]?=some o/\Region.wanted o (yielded ops a.tmps)=true/\∃f args w',(execOp a.eval o).run P w=.ok (.enter f args) w'/\Calls P f args w' λe bB=>∃c,e=.panicked c/\E c bB
def wpB (P:Program)(ops:Array Oper)(w:World)(m:Nat)(E:List PanicEntry->World->Prop):Nat->Array Bool->Act->Prop
 | 0,_,_=>False
 | n+1,listed,a=>Region.ready .any ops listed≠[]/\∀i∈Region.ready .any ops listed,if i=m then qJ P ops w m E a else eH P ops w i (wpB P ops w m E n (listed.setIfInBounds i true)) a
theorem pR {i:Nat}{K K':Act->Prop}{a:Act}(hk:∀a,K a->K' a)(h:eH P ops w i K a):eH P ops w i K' a:=by
 unfold eH at *
 split
 ·rename_i ho;simp only[ho]at h;exact hk _ h
 rename_i o ho;simp only[ho]at h;split
 ·rename_i hw;simp only[hw,if_true]at h;obtain⟨v,h1,h2⟩:=h;exact⟨v,h1,hk _ h2⟩
 rename_i hw;simp only[hw]at h;exact hk _ h
theorem put_defers (a:Act)(d:Option Tmp)(v:Value):(a.put d v).defers=a.defers:=by cases d<;>rfl
theorem Gx {i j:Nat}{oi oj:Oper}{K:Act->Prop}{a:Act}(hi:ops[i]?=some oi)(hj:ops[j]?=some oj)(sj:oi.apart ops oj=true)
  (hsi:∀cs b,oi.op≠.select cs b) (hsj:∀cs b,oj.op≠.select cs b) (h:eH P ops w i (eH P ops w j K) a):eH P ops w j (eH P ops w i K) a:=by
 obtain⟨h1,h2,h3⟩:=Oper.apart_spec sj;have ej:∀(b:Act) (v:Value),execOp (b.put oi.dst v).eval oj=execOp b.eval oj:=λb v=>execOp_put oj hsj b oi.dst v h1;have ei:∀(b:Act) (v:Value),execOp (b.put oj.dst v).eval oi=execOp b.eval oi:=λb v=>execOp_put oi hsi b oj.dst v h3;have wj:∀(b:Act) (v:Value),Region.wanted oj (yielded ops (b.put oi.dst v).tmps)=Region.wanted oj (yielded ops b.tmps):=λb v=>wanted_put oj b oi.dst v h1;have wi:∀(b:Act) (v:Value),Region.wanted oi (yielded ops (b.put oj.dst v).tmps)=Region.wanted oi (yielded ops b.tmps):=λb v=>wanted_put oi b oj.dst v h3;have cm:∀(b:Act) (v u:Value),(b.put oi.dst v).put oj.dst u=(b.put oj.dst u).put oi.dst v:=λb v u=>Act.put_comm b v u h2;unfold eH at h ⊢
 simp only[hi,hj,ej,ei,wj,wi]at h ⊢
 cases gT:Region.wanted oi (yielded ops a.tmps)<;>cases ff:Region.wanted oj (yielded ops a.tmps)<;>simp only[gT,ff,Bool.false_eq_true,if_true,if_false]at h ⊢
 ·rw[<-cm];exact h
 ·obtain⟨v,hv,hk⟩:=h;exact⟨v,hv,by rw[<-cm];exact hk⟩
 ·obtain⟨v,hv,hk⟩:=h;exact⟨v,hv,by rw[<-cm];exact hk⟩
 obtain⟨v,hv,u,hu,hk⟩:=h;exact⟨u,hu,v,hv,by rw[<-cm];exact hk⟩
theorem Hm {i:Nat}{oi om:Oper}{a:Act}(hi:ops[i]?=some oi)(hj:ops[m]?=some om)(sj:oi.apart ops om=true)(hsj:∀cs b,om.op≠.select cs b)(h:eH P ops w i (qJ P ops w m E) a):qJ P ops w m E a:=by
 obtain⟨h1,h2,h3⟩:=Oper.apart_spec sj;have key:∀v,qJ P ops w m E (a.put oi.dst v)->qJ P ops w m E a:=λv ⟨hd,o,ho,hw,f,args,w',hr,hc⟩=>by
  rw[hj]at ho;cases ho;refine⟨by rw[<-put_defers a oi.dst v];exact hd,om,hj,by rw[<-wanted_put om a oi.dst v h1];exact hw,f,args,w',by rw[<-execOp_put om hsj a oi.dst v h1];exact hr,hc⟩
 unfold eH at h;simp only[hi]at h;split at h
 ·obtain⟨v,_,hk⟩:=h;exact key v hk
 exact key _ h
theorem Td {i:Nat}{oi:Oper}(hi:ops[i]?=some oi)(him:i≠m)(pC:∀(j:Nat) (o:Oper) cs b,ops[j]?=some o->o.op≠.select cs b) :
  ∀(fuel:Nat) (listed:Array Bool) (a:Act),po ops listed ->
   (∀j oj,ops[j]?=some oj->j≠i->listed.getD j true=false->((Region.before ops).getD j 0).testBit i=false->oi.apart ops oj=true) ->
   i∈Region.ready .any ops listed->eH P ops w i (wpB P ops w m E fuel (listed.setIfInBounds i true)) a->wpB P ops w m E (fuel+1) listed a:=by
 intro fuel;induction fuel with
 | zero =>
  intro listed a _ _ hr H;exfalso;unfold eH at H;simp only[hi]at H;split at H
  ·obtain⟨v,_,hk⟩:=H;exact hk
  exact H
 | succ fuel ih =>
  intro listed a hS lE hr H;refine⟨λh=>(by rw[h]at hr;cases hr),λj hj=>?_⟩;by_cases nH:j=i
  ·subst nH;rw[if_neg him];exact H
  obtain⟨uS,oj,qZ,dD⟩:=mem_ready.1 hj;have GW:listed.getD i false=false:=by
   have h0:=(mem_ready.1 hr).1;rcases Nat.lt_or_ge i listed.size with h'|h'
   ·simp[h']at h0 ⊢;exact h0
   simp[Array.getElem?_eq_none h']
  have AX:((Region.before ops).getD j 0).testBit i=false:=by
   cases hb:((Region.before ops).getD j 0).testBit i with
   | false=>rfl
   | true=>have:=hS.before j i oj qZ dD hb;rw[GW]at this;cases this
  have sj:=lE j oj qZ nH uS AX;have h1:eH P ops w i (λa=>if j=m then qJ P ops w m E a else eH P ops w j (wpB P ops w m E fuel ((listed.setIfInBounds i true).setIfInBounds j true)) a) a :=
   pR (λa' hh=>hh.2 j (ready_mono hj nH)) H
  by_cases MO:j=m
  ·subst MO;simp only[if_true]at h1 ⊢
   exact Hm hi qZ sj (λcs b=>pC j oj cs b qZ) h1
  simp only[if_neg MO]at h1 ⊢
  have h2:=Gx hi qZ sj (λcs b=>pC i oi cs b hi) (λcs b=>pC j oj cs b qZ) h1;refine pR (λa' h3=>ih (listed.setIfInBounds j true) a' (hS.set hj) ?_ (ready_mono hr (Ne.symm nH)) ?_) h2
  ·intro k ok hk JE A3 gH;refine lE k ok hk JE ?_ gH;by_cases MN:j=k
   ·subst MN;exact uS
   rw[getD_set_ne true MN]at A3;exact A3
  rw[Array.setIfInBounds_comm _ _ nH];exact h3
def wR (ops:Array Oper)(bf:Array Nat)(listed:Array Bool)(i:Nat):Bool :=
 match ops[i]? with
 | none=>false
 | some oi=>(List.range ops.size).all λj=>j == i || listed.getD j true || match ops[j]? with
   | some oj=>(bf.getD j 0).testBit i || oi.apart ops oj
   | none=>true
theorem BI {i:Nat}{oi:Oper}{listed:Array Bool}(hi:ops[i]?=some oi)(h:wR ops (Region.before ops) listed i=true)(j:Nat)(oj:Oper)
  (hj:ops[j]?=some oj) (cY:j≠i) (A3:listed.getD j true=false) (gH:((Region.before ops).getD j 0).testBit i=false):oi.apart ops oj=true:=by
 simp only[wR,hi,List.all_eq_true,List.mem_range]at h;have h1:=h j (Array.getElem?_eq_some_iff.1 hj).1;simp only[hj,Bool.or_eq_true,beq_iff_eq,cY,false_or,A3,Bool.false_eq_true,gH]at h1;exact h1
def qI (P:Program)(ops:Array Oper)(bf:Array Nat):Nat->Nat->Array Bool->Bool
 | 0,k,listed=>Region.ready .any ops listed == [k]
 | n+1,k,listed=>(Region.ready .any ops listed).contains k && wR ops bf listed k && qI P ops bf n (k+1) (listed.setIfInBounds k true)
def aDa (P:Program)(ops:Array Oper)(m:Nat):Bool:=Region.noSelect ops && decide (m<ops.size) && qI P ops (Region.before ops) m 0 (Array.replicate ops.size false)
def tu (P:Program)(ops:Array Oper)(w:World)(m:Nat)(E:List PanicEntry->World->Prop):List Nat->Act->Prop
 | [],a=>qJ P ops w m E a
 | i::r,a=>eH P ops w i (tu P ops w m E r) a
theorem P0 (hs:Region.noSelect ops=true):∀(n k f:Nat) (listed:Array Bool) (a:Act),k+n=m->m<ops.size->n<f->po ops listed ->
  qI P ops (Region.before ops) n k listed=true->tu P ops w m E (List.range' k n) a->wpB P ops w m E f listed a
 | 0,k,f,listed,a,hk,hm,hf,hS,hB,h=>by
  obtain⟨f',rfl⟩:∃f',f=f'+1:=⟨f-1,by omega⟩;have hr:Region.ready .any ops listed=[k]:=by simpa[qI] using hB
  have vW:k=m:=by omega
  refine⟨by rw[hr];simp,λi hi=>?_⟩;rw[hr]at hi;obtain rfl:=List.mem_singleton.1 hi;rw[if_pos vW];exact h
 | n+1,k,f,listed,a,hk,hm,hf,hS,hB,h=>by
  obtain⟨f',rfl⟩:∃f',f=f'+1:=⟨f-1,by omega⟩;simp only[qI,Bool.and_eq_true]at hB;obtain⟨⟨hr,lE⟩,o8⟩:=hB;have ao:k<ops.size:=by omega
  have jK:k∈Region.ready .any ops listed:=by simpa using hr
  refine Td (i:=k) (oi:=ops[k]) (by simp[ao]) (by omega) (Region.noSelect_spec hs) f' listed a hS (BI (by simp[ao]) lE) jK ?_;simp only[List.range'_succ,tu]at h;exact pR (λa' hh=>P0 hs n (k+1) f' _ a' (by omega) hm (by omega) (hS.set jK) o8 hh) h
theorem jy {Q:Exit->Act->World->Prop}(hq:∀c a w',a.defers=[]->E c w'->Q (.panic c) a w'):∀(fuel:Nat) (listed:Array Bool) (a:Act),wpB P ops w m E fuel listed a->wpAny P .any ops Q fuel listed a w
 | 0,_,_,h=>h.elim
 | fuel+1,listed,a,h=>⟨λh0=>absurd h0 h.1,λi hi=>by
   have h1:=h.2 i hi;by_cases him:i=m
   ·subst him;rw[if_pos rfl]at h1;obtain⟨hd,o,ho,hw,f,args,w',hr,hc⟩:=h1;unfold wpOp;simp only[ho,hw,if_true];refine .inl ?_;unfold Oper.wp;rw[hr];unfold Oper.upon;exact hc.mono λe bB ⟨c,he,hE⟩=>by subst he;exact hq c a bB hd hE
   rw[if_neg him]at h1;unfold eH at h1;unfold wpOp;split
   ·rename_i ho;simp only[ho]at h1;exact jy hq fuel _ _ h1
   rename_i o ho;simp only[ho]at h1;split
   ·rename_i hw;simp only[hw,if_true]at h1;obtain⟨v,hv,hk⟩:=h1;refine .inl ?_;unfold Oper.wp;rw[hv];exact jy hq fuel _ _ hk
   rename_i hw;simp only[hw]at h1;exact jy hq fuel _ _ h1⟩
def Hq (P:Program)(g:FuncId)(args:List Value)(w:World)(E:List PanicEntry->World->Prop)(_:Ph E):Prop:=(callFunc g args.toArray).run P w=.ok (.enter g args.toArray) w/\Calls P g args.toArray w λe bB=>∃c,e=.panicked c/\E c bB
def Hl (P:Program)(o:Oper)(t:Fr)(w:World)(E:List PanicEntry->World->Prop)(_:Ph (o,E)):Prop:=match o.guard,o.op with
 | none,.call { callee:=.value f,args,argTypes:=_ }=>(match ev t f with
  | .func (.func g) first cap=>Hq P g (first.toList++args.toList.map (ev t)++cap.toList) w E .mk
  | _=>False)
 | _,_=>False
def rF (P:Program)(ops:List Oper)(E:List PanicEntry->World->Prop):List Unit->(l:List Oper)->Fr->World->Ph (ops,E,l)->Prop
 | [],o::_,t,w,_=>Hl P o t w E .mk
 | _::n,o::r,t,w,_=>chain P o=false/\match o.guard with
  | none=>dp P o t w (·=w) (λv _=>rF P ops E n r (put t o.dst v) w .mk) .mk
  | some (j,want)=>iG (iz ops j) want t (λt'=>dp P o t' w (·=w) (λv _=>rF P ops E n r (put t' o.dst v) w .mk) .mk) (λt'=>rF P ops E n r (put t' o.dst undef) w .mk) .mk
 | _,[],_,_,_=>False
theorem ns {g:FuncId}{args:List Value}{R:VK}{E':List PanicEntry->World->Prop}{p}(h:yE P g args w R E')(hR:∀v w',¬R v w')(k:∀c w',E' c w'->E c w'):Hq P g args w E p :=
 ⟨h.1,h.2.mono λe w' he=>by cases e<;>first|exact absurd he (hR _ _)|exact⟨_,rfl,k _ _ he⟩|exact he.elim⟩
theorem oT {ops:List Oper}{i:Nat}{o:Oper}{t:Fr}{K:VK}{N:Act->Prop}(hi:ops[i]?=some o)(hw:Region.wanted o (yielded ops.toArray t.toArray)=true)(hc:chain P o=false)
  (hn:∀v,K v w->N ⟨(put t o.dst v).toArray,[]⟩) (h:dp P o t w (·=w) K .mk):eH P ops.toArray w i N ⟨t.toArray,[]⟩:=by
 unfold eH;simp only[List.getElem?_toArray,hi,hw,if_true,nE];unfold dp at h;split at h
 ·rename_i ty x ho;obtain⟨v,hr,_,hk⟩:=oL ho h;exact⟨v,hr,by rw[put_eq];exact hn _ hk⟩
 ·rename_i x ho;unfold Jh at h;split at h
  ·rename_i a hx;refine⟨_,?_,by rw[put_eq];exact hn _ h⟩;unfold execOp;simp only[ho,hx];rfl
  exact h.elim
 simp only[hc,Bool.false_eq_true,if_false]at h;rcases qx h with h|⟨v,hg,hk⟩
 ·exact h.elim
 exact⟨v,hg w,by rw[put_eq];exact hn _ hk⟩
theorem Pv {ops:List Oper}{m:Nat}{o:Oper}{t:Fr}(hi:ops[m]?=some o)(h:Hl P o t w E .mk):qJ P ops.toArray w m E ⟨t.toArray,[]⟩:=by
 unfold Hl at h;split at h
 ·rename_i f args mm hg ho;split at h
  ·rename_i g first cap hf
   refine⟨rfl,o,by simpa using hi,by simp[Region.wanted,hg],g,_,w,?_,h.2⟩;rw[nE];unfold execOp;have e:(first.toList++args.toList.map (ev t)++cap.toList).toArray=first++args.map (ev t)++cap:=by apply Array.ext';simp
   have h1:=h.1;rw[e]at h1 ⊢
   simp only[ho,resolve,hf,Deferred.ofValue,Sem.run_bind,Sem.run_pure,Result.andThen_ok,invoke];exact h1
  exact h.elim
 exact h.elim
theorem zV {ops:List Oper}{m:Nat}:∀(n:List Unit) (k:Nat) (l:List Oper) (t:Fr),k+n.length=m->(∀j,l[j]?=ops[k+j]?)->rF P ops E n l t w .mk->tu P ops.toArray w m E (List.range' k n.length) ⟨t.toArray,[]⟩
 | [],k,[],t,hk,hl,h=>h.elim
 | [],k,o::r,t,hk,hl,h=>Pv (by have:=hl 0;simpa[<-hk] using this.symm) h
 | _::n,k,[],t,hk,hl,h=>h.elim
 | _::n,k,o::r,t,hk,hl,h=>by
  have h0:ops[k]?=some o:=by simpa using(hl 0).symm
  have ih:=λt=>zV (m:=m) n (k+1) r t (by rw[List.length_cons]at hk;omega) (λj=>by have:=hl (j+1);simpa[Nat.add_assoc,Nat.add_comm 1 j] using this);simp only[List.length_cons,List.range'_succ,tu];obtain⟨hc,h⟩:=h;split at h
  ·rename_i hg;exact oT h0 (by simp[Region.wanted,hg]) hc (λv hk=>ih _ hk) h
  rename_i j want hg;rcases kC hg h with ⟨hw,hh⟩|⟨hw,hh⟩
  ·exact oT h0 hw hc (λv hk=>ih _ hk) hh
  unfold eH;simp only[List.getElem?_toArray,h0,hw,Bool.false_eq_true,if_false];rw[put_eq];exact ih _ hh
theorem oZ {id:Nat}{l:List Oper}{t:Fr}{Q:EP}{p}(m:List Unit)(hm:P.follows .mixedOrders=true)(hB:aDa P l.toArray m.length=true)(hq:∀c t w',E c w'->Q (.panic c) t w')
  (h:rF P l E m l t w.drew .mk):cZ P (.region id l.toArray true) Q t w p:=by
 unfold cZ;simp only[aDa,Bool.and_eq_true,decide_eq_true_eq]at hB;refine wp_region_any hm ?_;refine jy (E:=E) (m:=m.length) (λc a w' hd hE=>⟨hd,hq c _ w' hE⟩) _ _ _ ?_;exact P0 hB.1.1 m.length 0 _ _ _ (by omega) hB.1.2 hB.1.2 (λj o _ hl=>by simp[Array.getElem?_replicate]at hl;split at hl<;>simp at hl) hB.2 (zV m 0 l t (by omega) (λj=>by simp) h)
theorem Kc (ops)(o:Oper)(r)(p)(t:Fr):rF P ops E [] (o::r) t w p=Hl P o t w E .mk:=(rfl)
theorem HO (ops)(u:Unit)(n)(d op ty pos af r)(p)(t:Fr):rF P ops E (u::n) (⟨d,op,ty,pos,af,none⟩::r) t w p=(chain P ⟨d,op,ty,pos,af,none⟩=false/\dp P ⟨d,op,ty,pos,af,none⟩ t w (·=w) (λv _=>rF P ops E n r (put t d v) w .mk) .mk):=(rfl)
def aIp (P:Program)(f:Value)(args:List Value)(w:World)(E:List PanicEntry->World->Prop)(_:Ph E):Prop:=match f with
 | .func (.func g) first cap=>Hq P g (first.toList++args++cap.toList) w E .mk
 | _=>False
theorem L5 (d f)(args:List Operand)(mm ty pos af)(p)(t:Fr):Hl P ⟨d,.call { callee:=.value f,args:=args.toArray,argTypes:=mm },ty,pos,af,none⟩ t w E p=aIp P (ev t f) (args.map (ev t)) w E .mk:=(rfl)
theorem Qh (g:FuncId)(args:List Value)(p):aIp P (.func (.func g) #[] #[]) args w E p=Hq P g args w E .mk:=by
 show Hq P g (#[].toList++args++#[].toList) w E .mk=_
 simp
end
section
variable {P:Program}
theorem Zy (d x ty pos af g):chain P ⟨d,.move x,ty,pos,af,g⟩=false:=(rfl)
theorem Py (d x ty pos af g):chain P ⟨d,.assign x,ty,pos,af,g⟩=false:=(rfl)
theorem aEn (d x ty pos af g):chain P ⟨d,.nilCheck x,ty,pos,af,g⟩=false:=(rfl)
theorem Zx (d t x ty pos af g):chain P ⟨d,.load t x,ty,pos,af,g⟩=false:=(rfl)
theorem FF (d t x f ty pos af g):chain P ⟨d,.fieldAddr t x f,ty,pos,af,g⟩=false:=(rfl)
end
attribute [push_cast] L5 Qh Kc HO Zy Py aEn Zx FF
end Go.Vc
namespace Go.Proofs.YtemjejfpadnljaaGreatDoor
open Go.Vc Go.Proofs Go.RowKit Cae
attribute [local irreducible] cZ ab ai aX runK ar Sl Vc.Own vc aS bu aZ
theorem TX:(Tryz.prog.underlying 97).isSome=true:=by kernel_rfl
attribute [push_cast] TX
def jR (t:Tok):List Value:=[.int .i64 t.kind,str t.text,.int .i64 t.pos]
structure TL (l:List Tok):Prop where
 last:∃i e,l=i++[e]/\e.kind=5
 txt:∀t∈l,t.text.length<=1000000
 len:l.length<=900
 num:∀t∈l,t.kind=2->t.text≠[]/\∀c∈t.text,eL c=true
theorem TL.cons {l:List Tok}(h:TL l):∃t r,l=t::r:=by
 obtain⟨i,e,rfl,_⟩:=h.last;cases i with
 | nil=>exact⟨e,[],rfl⟩
 | cons x i=>exact⟨x,i++[e],rfl⟩
theorem TL.tail {t:Tok}{r:List Tok}(h:TL (t::r))(h5:t.kind≠5):TL r:=by
 obtain⟨i,e,he,Tf⟩:=h.last;refine⟨?_,λx hx=>h.txt x (List.mem_cons_of_mem _ hx),by have:=h.len;rw[List.length_cons]at this;omega,λx hx=>h.num x (List.mem_cons_of_mem _ hx)⟩;cases i with
 | nil=>simp at he;rw[he.1]at h5;exact absurd Tf h5
 | cons x i=>simp at he;exact⟨i,e,he.2,Tf⟩
structure PS (pb B:Nat)(w:World)(l:List Tok):Prop where
 st:∃v,aM w pb 104 [v]/\Sl (λb=>b=pb\/B<=b) 3 (En jR) w v l
 lt:pb<B
 le:B<=w.heap.size
 tl:TL l
 db:Db w
 er:mB w
 gl:10<=pb
theorem mB.kept {X:Nat->Prop}{w w':World}(h:mB w)(hb:Kept X w w')(hX:∀i,i<10->¬X i):mB w':=by
 obtain⟨⟨t,p,h1⟩,⟨t',p',h2⟩⟩:=h;exact⟨⟨t,p,hb.cell h1 (hX _ (by decide))⟩,⟨t',p',hb.cell h2 (hX _ (by decide))⟩⟩
theorem Db.kept {X:Nat->Prop}{w w':World}(h:Db w)(hb:Kept X w w')(hX:∀i,i<10->¬X i):Db w':=hb.cell h (hX _ (by decide))
theorem PS.kept {pb B:Nat}{w w':World}{l:List Tok}{Y:Nat->Prop}(h:PS pb B w l)(hk:Kept Y w w')(hY:∀i,Y i->B<=i):PS pb B w' l:=by
 obtain⟨v,h1,h2⟩:=h.st;have hl:=h.lt;have hg:=h.gl;exact⟨⟨v,h1.kept hk (λhh=>by have:=hY _ hh;omega),h2.kept hk (λi hi=>.inr (hY i hi))⟩,h.lt,Nat.le_trans h.le hk.size,h.tl,h.db.kept hk (λi hi hh=>by have:=hY _ hh;omega),h.er.kept hk (λi hi hh=>by have:=hY _ hh;omega),h.gl⟩
theorem PS.below {pb B:Nat}{w w':World}{l:List Tok}(h:PS pb B w l)(hk:Below w.heap.size w w'):PS pb B w' l :=
 h.kept (Kept.aN hk (X:=λi=>w.heap.size<=i) (λi h1 h2=>h1)) (λi hi=>Nat.le_trans h.le hi)
theorem PS.hd {pb B:Nat}{w:World}{t:Tok}{r:List Tok}(h:PS pb B w (t::r)):∃b o c,aM w pb 104 [.slice (some ⟨b,o,none⟩) (r.length+1) c]/\r.length+1<=c/\b≠pb /\
  w.cell? ⟨b,o,none⟩=some (.int .i64 t.kind)/\w.cell? ⟨b,o+1,none⟩=some (str t.text)/\w.cell? ⟨b,o+2,none⟩=some (.int .i64 t.pos)/\aB w ⟨b,o,none⟩ 0 3=some [.int .i64 t.kind,str t.text,.int .i64 t.pos]:=by
 obtain⟨v,h1,h2⟩:=h.st;obtain⟨a,c,rfl,hc⟩:=h2.shape;obtain⟨b,o,rfl,hb,aP⟩:=h2.get (i:=0) (x:=t) rfl;refine⟨b,o,c,h1,hc,λe=>hb (.inl e),?_,?_,?_,aj (jR t) 0 (λj u hu=>by have:=aP j u hu;simpa using this)⟩
 ·have:=aP 0 _ rfl;simpa using this
 ·have:=aP 1 _ rfl;simpa using this
 have:=aP 2 _ rfl;simpa using this
theorem PS.pop {pb B b o c:Nat}{w w':World}{t:Tok}{r:List Tok}(h:PS pb B w (t::r))(hb:aM w pb 104 [.slice (some ⟨b,o,none⟩) (r.length+1) c])(h5:t.kind≠5)
  (hp:yd w w' pb 104 [.slice (if (c:Int)=1 then some ⟨b,o,none⟩ else some ⟨b,o+3,none⟩) r.length (c-1)]):PS pb B w' r:=by
 have hl:=h.lt;have hg:=h.gl;have LA:=h.tl.tail h5;obtain⟨t2,r2,rfl⟩:=LA.cons;obtain⟨v,h1,h2⟩:=h.st;have e:v=.slice (some ⟨b,o,none⟩) ((t2::r2).length+1) c:=by
  have Kp:w.heap[pb]?=_:=h1;have Dc:w.heap[pb]?=_:=hb;rw[Kp]at Dc;simpa using Dc
 subst e;have hk:=hp.kept;have hc:(t2::r2).length+1<=c:=by
  obtain⟨a,c',he,hc⟩:=h2.shape;cases he;exact hc
 have GS:¬(c:Int)=1:=by rw[List.length_cons]at hc;omega
 have OQ:=hp.aL;rw[if_neg GS]at OQ;refine⟨⟨_,OQ,?_⟩,h.lt,by rw[hp.size];exact h.le,LA,h.db.kept hk (λi hi hh=>by omega),h.er.kept hk (λi hi hh=>by omega),h.gl⟩;unfold Sl at h2 ⊢
 obtain⟨a,c',he,hc',dD⟩:=h2;cases he;refine⟨some ⟨b,o+3,none⟩,c-1,rfl,by omega,λi x hx=>?_⟩;obtain⟨b',o',cs,ha,hX,iS,aP,hr⟩:=dD (i+1) x (by simpa using hx);cases ha;refine⟨b,o+3,cs,rfl,hX,iS,λj u hu=>?_,hr⟩
 have:=aP j u hu;rw[show o+(i+1)*3+j=o+3+i*3+j by omega]at this
 exact hk.cell this (λhh=>hX (.inl hh))
theorem HL {e e':TypeId}{b o n c:Nat}{kk:IntKind}{L:VP}{other:Prop}(p):fa (some (.slice e)) (some (e',3)) (.slice (some ⟨b,o,none⟩) (n+1) c) (some (.int kk 1)) none none L other p=((1<=n+1/\n+1<=c)/\L (.slice (if (c:Int)=1 then some ⟨b,o,none⟩ else some ⟨b,o+3,none⟩) n (c-1))):=by
 simp only[fa,gn,add_lit,Option.map_some];apply propext;constructor
 ·rintro⟨h1,h2⟩;refine⟨by omega,?_⟩;have e1:((n+1:Nat):Int).toNat-(1:Int).toNat=n:=by omega
  have e2:c-(1:Int).toNat=c-1:=by omega
  rw[e1,e2]at h2;exact h2
 rintro⟨h1,h2⟩;refine⟨by omega,?_⟩;have e1:((n+1:Nat):Int).toNat-(1:Int).toNat=n:=by omega
 have e2:c-(1:Int).toNat=c-1:=by omega
 rw[e1,e2];exact h2
def Thr (sz:Nat)(w:World)(c:List PanicEntry)(e pos:Nat):Prop:=∃b,sz<=b/\c=[{ v:=.iface 97 (.agg #[.iface 141 (.pointer (some ⟨b,0,none⟩))]),recovered:=false }]/\aM w b 143 [.int .i64 e,.int .i64 pos]
theorem Thr.mono {sz sz':Nat}{w:World}{c:List PanicEntry}{e pos:Nat}(h:Thr sz w c e pos)(hs:sz'<=sz):Thr sz' w c e pos:=by
 obtain⟨b,h1,h2,h3⟩:=h;exact⟨b,by omega,h2,h3⟩
def aL7 {α:Type}(pb B:Nat)(w:World)(l:List Tok)(p:Pa α)(V:World->Value->α->Prop):VK:=λr w'=>∃x l',p l=.ok (x,l')/\V w' r x/\PS pb B w' l'/\Kept (·=pb) w w'
def LJ {α:Type}(pb:Nat)(w:World)(l:List Tok)(p:Pa α):List PanicEntry->World->Prop:=λc w'=>∃e pos,p l=.error (e,pos)/\Thr w.heap.size w' c e pos/\Kept (·=pb) w w'
def Pc {α:Type}(f:FuncId)(args:List Value)(pb B:Nat)(w:World)(l:List Tok)(p:Pa α)(V:World->Value->α->Prop):Prop:=yE Tryz.prog f args w (aL7 pb B w l p V) (LJ pb w l p)
theorem jS (e:Nat){pb B:Nat}{w:World}{l:List Tok}(h:PS pb B w l):yE Tryz.prog 44 [.pointer (some ⟨pb,0,none⟩),.int .i64 (e:Int)] w (λ_ _=>False) (λc w'=>Thr w.heap.size w' c e (Cae.hd l).pos/\Below w.heap.size w w'):=by
 obtain⟨t,r,rfl⟩:=h.tl.cons;obtain⟨b,o,c,hB,hc,cY,c0,c1,c2,c3⟩:=h.hd;have cb:w.cell? ⟨pb,0,none⟩=some (.slice (some ⟨b,o,none⟩) (r.length+1) c):=hB.cell rfl;refine bI Tryz.func44 rfl (by kernel_rfl) [] rfl ?_;push_cast -dsimp(maxSteps:=9^7) [Tryz.ntmps44];push_cast -dsimp[cb,c2];refine⟨by omega,aR ?_⟩;intro w' tf;have fL:aM w' w.heap.size 143 [.int .i64 e,.int .i64 t.pos]:=tf.aL;have j7:=tf.below;push_cast -dsimp;refine YJ ?_;push_cast -dsimp;exact⟨⟨_,Nat.le_refl _,rfl,fL⟩,j7⟩
theorem BV (s:List UInt8){pb B:Nat}{w:World}{l:List Tok}(h:PS pb B w l):ar Tryz.prog 66 [.pointer (some ⟨pb,0,none⟩),str s] w λr w'=>r=.bool (dT s l)/\w'=w:=by
 obtain⟨t,r,rfl⟩:=h.tl.cons;obtain⟨b,o,c,hB,hc,cY,c0,c1,c2,c3⟩:=h.hd;have cb:w.cell? ⟨pb,0,none⟩=some (.slice (some ⟨b,o,none⟩) (r.length+1) c):=hB.cell rfl;have hs:dT s (t::r)=(t.kind != 5 && t.text == s):=rfl;refine aE Tryz.func66 rfl (by kernel_rfl) [4] rfl ?_;push_cast -dsimp(maxSteps:=9^7) [Tryz.ntmps66];push_cast -dsimp[cb,c0,c1];refine⟨by omega,λh5=>⟨by omega,?_⟩,λh5=>?_⟩
 ·rw[hs];have Tf:t.kind≠5:=λe=>h5 (by omega);congr 1;by_cases he:t.text=s<;>simp[he,Tf]
 rw[hs];have Tf:t.kind=5:=by omega
 simp[Tf]
theorem dW {t:Tok}{r:List Tok}(h:t.kind≠5):cL (t::r)=.ok ((),r):=by simp[cL,h]
theorem TC {s:List UInt8}{t:Tok}{r:List Tok}(h:dT s (t::r)=true):t.kind≠5:=by
 have:(t.kind != 5 && t.text == s)=true:=h;simp at this;exact this.1
def aL9 (s:List UInt8)(pb B:Nat)(w:World)(l:List Tok):VK:=λr w'=>(dT s l=true/\r=.bool true/\∃t r',l=t::r'/\t.kind≠5/\PS pb B w' r'/\Kept (·=pb) w w'/\w'.heap.size=w.heap.size)\/(dT s l=false/\r=.bool false/\w'=w)
theorem gF (s:List UInt8){pb B:Nat}{w:World}{l:List Tok}(h:PS pb B w l):ar Tryz.prog 70 [.pointer (some ⟨pb,0,none⟩),str s] w (aL9 s pb B w l):=by
 obtain⟨t,r,rfl⟩:=h.tl.cons;obtain⟨b,o,c,hB,hc,cY,c0,c1,c2,c3⟩:=h.hd;have cb:w.cell? ⟨pb,0,none⟩=some (.slice (some ⟨b,o,none⟩) (r.length+1) c):=hB.cell rfl;refine aE Tryz.func70 rfl (by kernel_rfl) [4] rfl ?_;push_cast -dsimp(maxSteps:=9^7) [Tryz.ntmps70];refine aA (BV s h) ?_;rintro _ _ ⟨rfl,rfl⟩;cases hs:dT s (t::r) with
 | false =>
  push_cast -dsimp;exact .inr ⟨hs,rfl,rfl⟩
 | true =>
  have h5:=TC hs;push_cast -dsimp[cb,HL];refine⟨by omega,?_⟩;refine aC hB (by simp) rfl ?_;intro w' tf;have tC:=h.pop hB h5 tf;have hk:=tf.kept;have hz:=tf.size;push_cast -dsimp;exact .inl ⟨hs,rfl,t,r,rfl,h5,tC,hk,hz⟩
theorem fY (s:List UInt8){pb B:Nat}{w:World}{l:List Tok}(h:PS pb B w l):Pc 67 [.pointer (some ⟨pb,0,none⟩),str s] pb B w l (cg s) (λ_ r _=>r=.tuple #[]):=by
 refine bI Tryz.func67 rfl (by kernel_rfl) [] rfl ?_;push_cast -dsimp(maxSteps:=9^7) [Tryz.ntmps67];refine aA (gF s h) ?_;rintro _ w1 hT;rcases hT with ⟨hs,rfl,t,r,rfl,h5,tC,hk,hz⟩|⟨hs,rfl,rfl⟩
 ·push_cast -dsimp;exact⟨(),r,by unfold cg ay;rw[hs];exact dW h5,rfl,tC,hk⟩
 push_cast -dsimp;refine aF (jS 3 h) (λ_ _ h=>h.elim) ?_;rintro c w2 ⟨ht,hb⟩;push_cast -dsimp;exact⟨3,_,by unfold cg ay;rw[hs];rfl,ht,Kept.aN hb (λi h1 h2=>by omega)⟩
theorem mJ (n:Int){pb B:Nat}{w:World}{l:List Tok}(h:PS pb B w l):yE Tryz.prog 108 [.pointer (some ⟨pb,0,none⟩),.int .i64 n] w (λr w'=>n<=8/\r=.tuple #[]/\w'=w) (λc w'=>8<n/\Thr w.heap.size w' c 4 (Cae.hd l).pos/\Below w.heap.size w w'):=by
 refine bI Tryz.func108 rfl (by kernel_rfl) [] rfl ?_;push_cast -dsimp(maxSteps:=9^7) [Tryz.ntmps108];refine⟨λh8=>?_,λh8=>by omega⟩;refine aF (jS 4 h) (λ_ _ h=>h.elim) ?_;rintro c w2 ⟨ht,hb⟩;push_cast -dsimp;exact⟨h8,ht,hb⟩
def O5:List (List UInt8×Value):=[([99,108,97,115,115],.int .i64 1),([98,114,101,97,107],.int .i64 1),([107,101,101,112],.int .i64 1),([101,108,115,101],.int .i64 1)]
theorem aGa (s:List UInt8)(w:World):ar Tryz.prog 132 [str s] w λr w'=>r=.bool (Ae s)/\Below w.heap.size w w':=by
 refine aE Tryz.func132 rfl (by kernel_rfl) [2] rfl ?_;push_cast -dsimp(maxSteps:=9^7) [Tryz.ntmps132];refine Al (key:=λl:List UInt8=>str l) ?_;intro w1 m1 b1 z1;push_cast -dsimp;refine jH (kt:=9) (et:=3) (k:=[99,108,97,115,115]) (by kernel_rfl) (nf (by kernel_rfl)) m1 rfl rfl ?_;intro w2 m2 k2 z2;push_cast -dsimp;refine jH (kt:=9) (et:=3) (k:=[98,114,101,97,107]) (by kernel_rfl) (nf (by kernel_rfl)) m2 rfl (by decide) ?_;intro w3 m3 k3 z3;push_cast -dsimp;refine jH (kt:=9) (et:=3) (k:=[107,101,101,112]) (by kernel_rfl) (nf (by kernel_rfl)) m3 rfl (by decide) ?_;intro w4 m4 k4 z4;push_cast -dsimp;refine jH (kt:=9) (et:=3) (k:=[101,108,115,101]) (by kernel_rfl) (nf (by kernel_rfl)) m4 rfl (by decide) ?_;intro w5 m5 k5 z5;have m6:mi (λl:List UInt8=>str l) w5 w.heap.size O5:=m5;have hb:Below w.heap.size w w5:=b1.trans ((((k2.trans k3 (λ_ _ h=>h)).trans k4 (λ_ _ h=>h)).trans k5 (λ_ _ h=>h)).below (by omega) (λi h=>by omega));push_cast -dsimp;refine Gc (kt:=9) (et:=3) (z:=.int .i64 0) (c:=false) (k:=s) (by kernel_rfl) (nf (by kernel_rfl)) (by kernel_rfl) m6 ?_;cases hk:Ae s with
 | true =>
  have ha:(eA s O5).getD (.int .i64 0)=.int .i64 1:=by
   simp only[Ae,Bool.or_eq_true,beq_iff_eq]at hk;rcases hk with ((rfl|rfl)|rfl)|rfl<;>rfl
  rw[if_neg (by decide),ha];push_cast -dsimp;exact hb
 | false =>
  have ha:(eA s O5).getD (.int .i64 0)=.int .i64 0:=by
   simp only[Ae,Bool.or_eq_false_iff,beq_eq_false_iff_ne]at hk;simp[O5,eA,hk.1.1.1,hk.1.1.2,hk.1.2,hk.2]
  rw[if_neg (by decide),ha];push_cast -dsimp;exact⟨rfl,hb⟩
theorem Gj {pb B:Nat}{w:World}{l:List Tok}(h:PS pb B w l):ar Tryz.prog 106 [.pointer (some ⟨pb,0,none⟩)] w λr w'=>r=.bool (jZ l)/\Below w.heap.size w w':=by
 obtain⟨t,r,rfl⟩:=h.tl.cons;obtain⟨b,o,c,hB,hc,cY,c0,c1,c2,c3⟩:=h.hd;have cb:w.cell? ⟨pb,0,none⟩=some (.slice (some ⟨b,o,none⟩) (r.length+1) c):=hB.cell rfl;have hs:jZ (t::r)=(t.kind == 1 && !Ae t.text):=rfl;refine aE Tryz.func106 rfl (by kernel_rfl) [2] rfl ?_;push_cast -dsimp(maxSteps:=9^7) [Tryz.ntmps106];push_cast -dsimp[cb,c0,c1];refine⟨by omega,λh5=>⟨by omega,?_⟩,λh5=>?_⟩
 ·refine aA (aGa t.text w) ?_;rintro _ w1 ⟨rfl,hb⟩;have Tf:t.kind=1:=by omega
  push_cast -dsimp;exact⟨by rw[hs,Tf];rfl,hb⟩
 have Tf:t.kind≠1:=λe=>h5 (by omega);exact⟨by rw[hs];simp[Tf],Below.refl _ _⟩
theorem Xm {pb B:Nat}{w:World}{l:List Tok}(h:PS pb B w l):Pc 68 [.pointer (some ⟨pb,0,none⟩)] pb B w l mW (λ_ r n=>r=str n):=by
 obtain⟨t,r,rfl⟩:=h.tl.cons;obtain⟨b,o,c,hB,hc,cY,c0,c1,c2,c3⟩:=h.hd;have cb:w.cell? ⟨pb,0,none⟩=some (.slice (some ⟨b,o,none⟩) (r.length+1) c):=hB.cell rfl;have hn:jZ (t::r)=(t.kind == 1 && !Ae t.text):=rfl;refine bI Tryz.func68 rfl (by kernel_rfl) [.tmp 2] rfl ?_;push_cast -dsimp(maxSteps:=9^7) [Tryz.ntmps68];push_cast -dsimp[cb,Nat.zero_mul,Nat.add_zero,c3];refine⟨by omega,?_⟩;refine aq (z:=[.int .i64 0,str [],.int .i64 0]) (by kernel_rfl) ?_;intro w1 aU;have B1:=aU.aL;have P1:=h.below aU.below;have z1:=aU.size;have b1:=aU.below;push_cast -dsimp;refine aH (xt:=107) (n:=3) (by kernel_rfl) B1 rfl (by decide) (by simp;exact⟨rfl,rfl,rfl⟩) ?_;intro w2 bJ;have B2:aM w2 w.heap.size 107 [.int .i64 t.kind,str t.text,.int .i64 t.pos]:=bJ.aL;have P2:=P1.kept bJ.kept (λi hi=>by have:=h.le;omega);have z2:=bJ.size;have b2:=b1.trans (bJ.kept.below (B:=w.heap.size) (by omega) (λi h=>by omega));push_cast -dsimp;refine aA (Gj P2) ?_;rintro _ w3 ⟨rfl,b3⟩;have P3:=P2.below b3;have B3:=B2.below b3 (by omega);have b13:Below w.heap.size w w3:=b2.trans (b3.mono (by omega));have yk:Kept (·=pb) w w3:=Kept.aN b13 (λi h1 h2=>by omega);cases qY:jZ (t::r) with
 | false =>
  push_cast -dsimp;refine aF (jS 3 P3) (λ_ _ h=>h.elim) ?_;rintro c w4 ⟨ht,hb⟩;push_cast -dsimp;have JP:=b3.size;exact⟨3,_,by unfold mW ay;rw[qY];rfl,ht.mono (by omega),yk.trans (Kept.aN hb (X:=(·=pb)) (λi h1 h2=>by omega)) (λi _ h=>h)⟩
 | true =>
  have d1:w3.cell? ⟨w.heap.size,1,none⟩=some (str t.text):=B3.cell rfl;push_cast -dsimp[d1];refine⟨λaDL=>?_,λGZ=>?_⟩
  ·refine aF (jS 4 P3) (λ_ _ h=>h.elim) ?_;rintro c w4 ⟨ht,hb⟩;push_cast -dsimp;have JP:=b3.size;have hl:Dx (t::r)=true:=decide_eq_true (show 10<t.text.length by omega)
   exact⟨4,_,by unfold mW ay;rw[qY,hl];rfl,ht.mono (by omega),yk.trans (Kept.aN hb (X:=(·=pb)) (λi h1 h2=>by omega)) (λi _ h=>h)⟩
  have hl:Dx (t::r)=false:=decide_eq_false (show ¬10<t.text.length by omega)
  have h5:t.kind≠5:=by
   rw[hn]at qY;simp at qY;omega
  have Ly:=hB.kept (Kept.aN b13 (X:=λi=>w.heap.size<=i) (λi h1 h2=>h1)) (by have:=h.lt;have:=h.le;omega);have cb3:w3.cell? ⟨pb,0,none⟩=some (.slice (some ⟨b,o,none⟩) (r.length+1) c):=Ly.cell rfl;push_cast -dsimp[cb3,HL];refine⟨by omega,?_⟩;refine aC Ly (by simp) rfl ?_;intro w4 ah;have P4:=P3.pop Ly h5 ah;have B4:=B3.kept ah.kept (by have:=h.lt;have:=h.le;omega);have d4:w4.cell? ⟨w.heap.size,1,none⟩=some (str t.text):=B4.cell rfl;have k4:=yk.trans ah.kept (λi _ h=>h);push_cast -dsimp[d4];exact⟨t.text,r,by simp[mW,ay,qY,hl,Cae.pb,dY,cL,pr,h5,Cae.hd],rfl,P4,k4⟩
def eZ (X:Nat->Prop)(w:World):Value->ax->Prop
 | v,.lit pos s=>∃b sv,v=.pointer (some ⟨b,0,none⟩)/\¬X b/\aM w b 187 [.int .i64 1,.int .i64 pos,sv,str [],.pointer none,.pointer none]/\Sl X 2 (En bA) w sv s/\Arg sv
 | v,.ref pos n=>∃b,v=.pointer (some ⟨b,0,none⟩)/\¬X b/\aM w b 187 [.int .i64 2,.int .i64 pos,.slice none 0 0,str n,.pointer none,.pointer none]
 | v,.not pos k=>∃b u,v=.pointer (some ⟨b,0,none⟩)/\¬X b/\aM w b 187 [.int .i64 6,.int .i64 pos,.slice none 0 0,str [],u,.pointer none]/\eZ X w u k
 | v,.bin c pos k r=>∃b u x,v=.pointer (some ⟨b,0,none⟩)/\¬X b/\aM w b 187 [.int .i64 c,.int .i64 pos,.slice none 0 0,str [],u,x]/\eZ X w u k/\eZ X w x r
theorem eZ.mono {X X' Y:Nat->Prop}{w w':World}(hk:Kept Y w w')(hY:∀i,Y i->X i)(hX:∀i,X' i->X i):∀{k:ax} {v:Value},eZ X w v k->eZ X' w' v k
 | .lit pos s,v,⟨b,sv,hv,hb,hB,hs,ha⟩=>⟨b,sv,hv,λhh=>hb (hX b hh),hB.kept hk (λhh=>hb (hY b hh)),(hs.kept hk hY).weaken hX,ha⟩
 | .ref pos n,v,⟨b,hv,hb,hB⟩=>⟨b,hv,λhh=>hb (hX b hh),hB.kept hk (λhh=>hb (hY b hh))⟩
 | .not pos k,v,⟨b,u,hv,hb,hB,h⟩=>⟨b,u,hv,λhh=>hb (hX b hh),hB.kept hk (λhh=>hb (hY b hh)),h.mono hk hY hX⟩
 | .bin c pos k r,v,⟨b,u,x,hv,hb,hB,h,h'⟩=>⟨b,u,x,hv,λhh=>hb (hX b hh),hB.kept hk (λhh=>hb (hY b hh)),h.mono hk hY hX,h'.mono hk hY hX⟩
theorem eZ.below {X:Nat->Prop}{w w':World}{k:ax}{v:Value}(h:eZ X w v k)(hb:Below w.heap.size w w'):eZ X w' v k:=by
 induction k generalizing v with
 | lit pos s=>obtain⟨b,sv,hv,hx,hB,hs,ha⟩:=h;exact⟨b,sv,hv,hx,hB.below hb hB.lt,hs.below hb,ha⟩
 | ref pos n=>obtain⟨b,hv,hx,hB⟩:=h;exact⟨b,hv,hx,hB.below hb hB.lt⟩
 | not pos k ih=>obtain⟨b,u,hv,hx,hB,hs⟩:=h;exact⟨b,u,hv,hx,hB.below hb hB.lt,ih hs⟩
 | bin c pos k r ih ih'=>obtain⟨b,u,x,hv,hx,hB,hs,RV⟩:=h;exact⟨b,u,x,hv,hx,hB.below hb hB.lt,ih hs,ih' RV⟩
theorem Sl.top {α:Type}{X:Nat->Prop}{k:Nat}{R:List Value->α->Prop}{w:World}{v:Value}{l:List α}(hk:0<k)(h:Sl X k R w v l):Sl (λb=>X b\/w.heap.size<=b) k R w v l:=by
 unfold Sl at h ⊢
 obtain⟨a,c,rfl,hc,h⟩:=h;refine⟨a,c,rfl,hc,λi x hx=>?_⟩;obtain⟨b,o,cs,ha,hb,iS,aP,hr⟩:=h i x hx;refine⟨b,o,cs,ha,λhh=>?_,iS,aP,hr⟩;rcases hh with hh|hh
 ·exact hb hh
 obtain⟨u,hu⟩:∃u,cs[0]?=some u:=⟨cs[0]'(by omega),List.getElem?_eq_getElem (by omega)⟩
 have:=World.block_lt_of_cell? w _ (aP 0 u hu);simp at this;omega
theorem eZ.top {X:Nat->Prop}{w:World}{k:ax}{v:Value}(h:eZ X w v k):eZ (λb=>X b\/w.heap.size<=b) w v k:=by
 induction k generalizing v with
 | lit pos s=>obtain⟨b,sv,hv,hx,hB,hs,ha⟩:=h;exact⟨b,sv,hv,λhh=>hh.elim hx (λhh=>by have:=hB.lt;omega),hB,Sl.top (by decide) hs,ha⟩
 | ref pos n=>obtain⟨b,hv,hx,hB⟩:=h;exact⟨b,hv,λhh=>hh.elim hx (λhh=>by have:=hB.lt;omega),hB⟩
 | not pos k ih=>obtain⟨b,u,hv,hx,hB,hs⟩:=h;exact⟨b,u,hv,λhh=>hh.elim hx (λhh=>by have:=hB.lt;omega),hB,ih hs⟩
 | bin c pos k r ih ih'=>obtain⟨b,u,x,hv,hx,hB,hs,RV⟩:=h;exact⟨b,u,x,hv,λhh=>hh.elim hx (λhh=>by have:=hB.lt;omega),hB,ih hs,ih' RV⟩
theorem eZ.ptr {X:Nat->Prop}{w:World}{k:ax}{v:Value}(h:eZ X w v k):∃b,v=.pointer (some ⟨b,0,none⟩)/\b<w.heap.size:=by
 cases k with
 | lit pos s=>obtain⟨b,sv,hv,hx,hB,hs⟩:=h;exact⟨b,hv,hB.lt⟩
 | ref pos n=>obtain⟨b,hv,hx,hB⟩:=h;exact⟨b,hv,hB.lt⟩
 | not pos k=>obtain⟨b,u,hv,hx,hB,hs⟩:=h;exact⟨b,hv,hB.lt⟩
 | bin c pos k r=>obtain⟨b,u,x,hv,hx,hB,hs,RV⟩:=h;exact⟨b,hv,hB.lt⟩
def xa (w:World)(pb:Nat):Nat:=match w.cell? ⟨pb,0,none⟩ with
 | some (.slice _ n _)=>n
 | _=>0
theorem PS.len {pb B:Nat}{w:World}{l:List Tok}(h:PS pb B w l):xa w pb=l.length:=by
 obtain⟨v,h1,h2⟩:=h.st;obtain⟨a,c,rfl,_⟩:=h2.shape;unfold xa;rw[h1.cell (o:=0) rfl]
def UD (d:Nat):Prop:=∀(n:Int),0<=n->n+(d:Int)=9->∀(pb B:Nat) (w:World) (l:List Tok),PS pb B w l->Pc 107 [.pointer (some ⟨pb,0,none⟩),.int .i64 n] pb B w l (kZ d) (λw' r k=>eZ (·<w.heap.size) w' r k)
def aC5 (d:Nat):Prop:=∀(n:Int),0<=n->n+(d:Int)=9->∀(pb B:Nat) (w:World) (l:List Tok),PS pb B w l->Pc 69 [.pointer (some ⟨pb,0,none⟩),.int .i64 n] pb B w l (qi d) (λw' r k=>eZ (·<w.heap.size) w' r k)
theorem O6 (d:Nat)(sw:UD d):aC5 d:=by
 intro n wI hn pb B w l0 h0;obtain⟨t,r,rfl⟩:=h0.tl.cons;obtain⟨b,o,c,hB,hc,cY,c0,c1,c2,c3⟩:=h0.hd;have cb:w.cell? ⟨pb,0,none⟩=some (.slice (some ⟨b,o,none⟩) (r.length+1) c):=hB.cell rfl;have Dk:∃l0,l0=t::r:=⟨_,rfl⟩;obtain⟨l0,Dk⟩:=Dk;rw[<-Dk]at h0 ⊢
 have Wm:Cae.hd l0=t:=by rw[Dk];rfl
 refine bI Tryz.func69 rfl (by kernel_rfl) [.tmp 4] rfl ?_;push_cast -dsimp(maxSteps:=9^7) [Tryz.ntmps69];push_cast -dsimp[cb,c2];refine⟨by omega,?_⟩;refine aF (sw n wI hn pb B w l0 h0) ?_ ?_
 ·rintro v1 w1 ⟨k0,l1,e1,V1,P1,OK⟩;have MT:qi d l0=dN (kZ d) t.pos 1000 k0 l1:=by
   unfold qi sM;rw[aI (p:=dY) (x:=Cae.hd l0) (l1:=l0) rfl,aI e1,Wm]
  push_cast -dsimp;refine aK [4,6,7,18,19,20,21,22,23,24,25,26,27,28,29,30,31,32,33,34,35] (λz w'=>∃(m:Nat) (k1:ax) (l1:List Tok),dN (kZ d) t.pos m k1 l1=qi d l0/\l1.length<m/\eZ (·<w.heap.size) w' (z 6) k1/\PS pb B w' l1/\Kept (·=pb) w w') (λz w'=>xa w' pb) ?_ ?_
  ·have ao:l1.length<1000:=by have:=P1.tl.len;omega
   exact⟨1000,k0,l1,MT.symm,ao,V1,P1,OK⟩
  rintro z w' ⟨m,k1,l1,eE,hm,V1,oG,Dj⟩;obtain⟨kb,OW,Di⟩:=V1.ptr;rw[OW]at V1;obtain⟨t1,r1,mg⟩:=oG.tl.cons;push_cast -dsimp;refine aA (gF [124] oG) ?_;rintro _ w2 hT;rcases hT with ⟨fx,rfl,t1',Tt,IG,yM,P2,kt,hz⟩|⟨fx,rfl,q9⟩
  ·obtain⟨rfl,rfl⟩:t1=t1'/\r1=Tt:=by rw[mg]at IG;exact List.cons.inj IG
   rw[mg]at fx
   ·have Cv:tq l1=.ok (3,r1):=by
     rw[mg];simp[tq,ay,fx,Cae.pb,cL,pr,yM]
    push_cast -dsimp;refine aF (sw n wI hn pb B w2 r1 P2) ?_ ?_
    ·rintro u w3 ⟨k2,l2,e2,V2,P3,k3⟩;obtain⟨ub,rfl,Hb⟩:=V2.ptr;push_cast -dsimp[OW];refine aR ?_;intro w4 ah;have B4:aM w4 w3.heap.size 187 [.int .i64 (3:Nat),.int .i64 t.pos,.slice none 0 0,str [],.pointer (some ⟨kb,0,none⟩),.pointer (some ⟨ub,0,none⟩)]:=ah.aL;have P4:=P3.below ah.below;have z4:=ah.size;have XS:Kept (·=pb) w' w4:=(kt.trans k3 (λi _ h=>h)).trans (Kept.aN ah.below (X:=(·=pb)) (λi h1 h2=>by omega)) (λi _ h=>h);have z14:=XS.size;have zw:=Dj.size;have hKa:eZ (·<w.heap.size) w4 (.pointer (some ⟨kb,0,none⟩)) k1:=V1.mono XS (λi h=>by have:=oG.lt;have:=h0.le;omega) (λ_ h=>h);have hKb:eZ (·<w.heap.size) w4 (.pointer (some ⟨ub,0,none⟩)) k2:=V2.mono (Kept.aN ah.below (X:=λi=>False) (λi h1 h2=>by omega)) (λ_ h=>h.elim) (λi h=>by have:=kt.size;omega);have xR:dN (kZ d) t.pos (m-1) (.bin 3 t.pos k1 k2) l2=qi d l0:=by
      rw[<-eE];obtain⟨m',rfl⟩:∃m',m=m'+1:=⟨m-1,by omega⟩;rw[dN,aI Cv,if_neg (by decide),aI e2];rfl
     have oy:l2.length<=r1.length:=by
      obtain⟨pre,_,e,_⟩:=pI d _ _ _ e2;rw[e,List.length_append];omega
     have vX:l1.length=r1.length+1:=by rw[mg,List.length_cons]
     have kG:=P4.len;have fM:=oG.len;push_cast -dsimp;refine⟨⟨m-1,_,l2,xR,by omega,?_,P4,Dj.trans XS (λi _ h=>h)⟩,by rw[kG,fM];omega⟩;exact⟨w3.heap.size,_,_,rfl,by have:=kt.size;have:=k3.size;omega,B4,hKa,hKb⟩
    rintro c w3 ⟨e,pos,he,ht,DD⟩;push_cast -dsimp;refine⟨e,pos,?_,ht.mono (by have:=kt.size;have:=Dj.size;omega),(Dj.trans kt (λi _ h=>h)).trans DD (λi _ h=>h)⟩;rw[<-eE];obtain⟨m',rfl⟩:∃m',m=m'+1:=⟨m-1,by omega⟩;rw[dN,aI Cv,if_neg (by decide)];unfold Cae.pb;rw[he]
  obtain rfl:w'=w2:=q9.symm;rw[mg]at fx;push_cast -dsimp;refine aA (gF [38] oG) ?_;rintro _ w2 hT;rcases hT with ⟨gZ,rfl,t1',Tt,IG,yM,P2,kt,hz⟩|⟨gZ,rfl,q9⟩
  ·obtain⟨rfl,rfl⟩:t1=t1'/\r1=Tt:=by rw[mg]at IG;exact List.cons.inj IG
   rw[mg]at gZ
   ·have Cv:tq l1=.ok (4,r1):=by
     rw[mg];simp[tq,ay,fx,gZ,Cae.pb,cL,pr,yM]
    push_cast -dsimp;refine aF (sw n wI hn pb B w2 r1 P2) ?_ ?_
    ·rintro u w3 ⟨k2,l2,e2,V2,P3,k3⟩;obtain⟨ub,rfl,Hb⟩:=V2.ptr;push_cast -dsimp[OW];refine aR ?_;intro w4 ah;have B4:aM w4 w3.heap.size 187 [.int .i64 (4:Nat),.int .i64 t.pos,.slice none 0 0,str [],.pointer (some ⟨kb,0,none⟩),.pointer (some ⟨ub,0,none⟩)]:=ah.aL;have P4:=P3.below ah.below;have z4:=ah.size;have XS:Kept (·=pb) w' w4:=(kt.trans k3 (λi _ h=>h)).trans (Kept.aN ah.below (X:=(·=pb)) (λi h1 h2=>by omega)) (λi _ h=>h);have z14:=XS.size;have zw:=Dj.size;have hKa:eZ (·<w.heap.size) w4 (.pointer (some ⟨kb,0,none⟩)) k1:=V1.mono XS (λi h=>by have:=oG.lt;have:=h0.le;omega) (λ_ h=>h);have hKb:eZ (·<w.heap.size) w4 (.pointer (some ⟨ub,0,none⟩)) k2:=V2.mono (Kept.aN ah.below (X:=λi=>False) (λi h1 h2=>by omega)) (λ_ h=>h.elim) (λi h=>by have:=kt.size;omega);have xR:dN (kZ d) t.pos (m-1) (.bin 4 t.pos k1 k2) l2=qi d l0:=by
      rw[<-eE];obtain⟨m',rfl⟩:∃m',m=m'+1:=⟨m-1,by omega⟩;rw[dN,aI Cv,if_neg (by decide),aI e2];rfl
     have oy:l2.length<=r1.length:=by
      obtain⟨pre,_,e,_⟩:=pI d _ _ _ e2;rw[e,List.length_append];omega
     have vX:l1.length=r1.length+1:=by rw[mg,List.length_cons]
     have kG:=P4.len;have fM:=oG.len;push_cast -dsimp;refine⟨⟨m-1,_,l2,xR,by omega,?_,P4,Dj.trans XS (λi _ h=>h)⟩,by rw[kG,fM];omega⟩;exact⟨w3.heap.size,_,_,rfl,by have:=kt.size;have:=k3.size;omega,B4,hKa,hKb⟩
    rintro c w3 ⟨e,pos,he,ht,DD⟩;push_cast -dsimp;refine⟨e,pos,?_,ht.mono (by have:=kt.size;have:=Dj.size;omega),(Dj.trans kt (λi _ h=>h)).trans DD (λi _ h=>h)⟩;rw[<-eE];obtain⟨m',rfl⟩:∃m',m=m'+1:=⟨m-1,by omega⟩;rw[dN,aI Cv,if_neg (by decide)];unfold Cae.pb;rw[he]
  obtain rfl:w'=w2:=q9.symm;rw[mg]at gZ;push_cast -dsimp;refine aA (gF [45] oG) ?_;rintro _ w2 hT;rcases hT with ⟨lW,rfl,t1',Tt,IG,yM,P2,kt,hz⟩|⟨lW,rfl,q9⟩
  ·obtain⟨rfl,rfl⟩:t1=t1'/\r1=Tt:=by rw[mg]at IG;exact List.cons.inj IG
   rw[mg]at lW
   ·have Cv:tq l1=.ok (5,r1):=by
     rw[mg];simp[tq,ay,fx,gZ,lW,Cae.pb,cL,pr,yM]
    push_cast -dsimp;refine aF (sw n wI hn pb B w2 r1 P2) ?_ ?_
    ·rintro u w3 ⟨k2,l2,e2,V2,P3,k3⟩;obtain⟨ub,rfl,Hb⟩:=V2.ptr;push_cast -dsimp[OW];refine aR ?_;intro w4 ah;have B4:aM w4 w3.heap.size 187 [.int .i64 (5:Nat),.int .i64 t.pos,.slice none 0 0,str [],.pointer (some ⟨kb,0,none⟩),.pointer (some ⟨ub,0,none⟩)]:=ah.aL;have P4:=P3.below ah.below;have z4:=ah.size;have XS:Kept (·=pb) w' w4:=(kt.trans k3 (λi _ h=>h)).trans (Kept.aN ah.below (X:=(·=pb)) (λi h1 h2=>by omega)) (λi _ h=>h);have z14:=XS.size;have zw:=Dj.size;have hKa:eZ (·<w.heap.size) w4 (.pointer (some ⟨kb,0,none⟩)) k1:=V1.mono XS (λi h=>by have:=oG.lt;have:=h0.le;omega) (λ_ h=>h);have hKb:eZ (·<w.heap.size) w4 (.pointer (some ⟨ub,0,none⟩)) k2:=V2.mono (Kept.aN ah.below (X:=λi=>False) (λi h1 h2=>by omega)) (λ_ h=>h.elim) (λi h=>by have:=kt.size;omega);have xR:dN (kZ d) t.pos (m-1) (.bin 5 t.pos k1 k2) l2=qi d l0:=by
      rw[<-eE];obtain⟨m',rfl⟩:∃m',m=m'+1:=⟨m-1,by omega⟩;rw[dN,aI Cv,if_neg (by decide),aI e2];rfl
     have oy:l2.length<=r1.length:=by
      obtain⟨pre,_,e,_⟩:=pI d _ _ _ e2;rw[e,List.length_append];omega
     have vX:l1.length=r1.length+1:=by rw[mg,List.length_cons]
     have kG:=P4.len;have fM:=oG.len;push_cast -dsimp;refine⟨⟨m-1,_,l2,xR,by omega,?_,P4,Dj.trans XS (λi _ h=>h)⟩,by rw[kG,fM];omega⟩;exact⟨w3.heap.size,_,_,rfl,by have:=kt.size;have:=k3.size;omega,B4,hKa,hKb⟩
    rintro c w3 ⟨e,pos,he,ht,DD⟩;push_cast -dsimp;refine⟨e,pos,?_,ht.mono (by have:=kt.size;have:=Dj.size;omega),(Dj.trans kt (λi _ h=>h)).trans DD (λi _ h=>h)⟩;rw[<-eE];obtain⟨m',rfl⟩:∃m',m=m'+1:=⟨m-1,by omega⟩;rw[dN,aI Cv,if_neg (by decide)];unfold Cae.pb;rw[he]
  obtain rfl:w'=w2:=q9.symm;rw[mg]at lW;push_cast -dsimp[OW];refine⟨k1,l1,?_,V1,oG,Dj⟩;rw[<-eE];obtain⟨m',rfl⟩:∃m',m=m'+1:=⟨m-1,by omega⟩;have Cv:tq l1=.ok (0,l1):=by
   rw[mg];simp[tq,ay,fx,gZ,lW,pr]
  rw[dN,aI Cv,if_pos rfl];rfl
 rintro c w3 ⟨e,pos,he,ht,DD⟩;push_cast -dsimp;refine⟨e,pos,?_,ht,DD⟩;unfold qi sM;rw[aI (p:=dY) (x:=Cae.hd l0) (l1:=l0) rfl];unfold Cae.pb;rw[he]
theorem Xv:UD 0:=by
 intro n wI hn pb B w l h;refine bI Tryz.func107 rfl (by kernel_rfl) [.tmp 4] rfl ?_;push_cast -dsimp(maxSteps:=9^7) [Tryz.ntmps107];refine aF (mJ n h) ?_ ?_
 ·rintro _ _ ⟨h8,rfl,rfl⟩;omega
 rintro c w' ⟨h8,ht,hb⟩;push_cast -dsimp;exact⟨4,_,rfl,ht,Kept.aN hb (λi h1 h2=>by omega)⟩
theorem Xu (d:Nat)(ih:UD d):UD (d+1):=by
 have ihk:=O6 d ih;intro n wI hn pb B w l0 h0;obtain⟨t,r,Dk⟩:=h0.tl.cons;have Wm:Cae.hd l0=t:=by rw[Dk];rfl
 have Qm:=h0;rw[Dk]at Qm;obtain⟨b,o,c,hB,hc,cY,c0,c1,c2,c3⟩:=Qm.hd;have cb:w.cell? ⟨pb,0,none⟩=some (.slice (some ⟨b,o,none⟩) (r.length+1) c):=hB.cell rfl;have hle:=h0.le;have ao:=h0.lt;refine bI Tryz.func107 rfl (by kernel_rfl) [.tmp 4] rfl ?_;push_cast -dsimp(maxSteps:=9^7) [Tryz.ntmps107];refine aF (mJ n h0) ?_ (λc w' hh=>by have:=hh.1;omega);rintro _ w0 ⟨h8,rfl,uZ⟩;obtain rfl:w=w0:=uZ.symm;push_cast -dsimp[cb,c2];refine⟨by omega,aR ?_⟩;intro w1 aU;have B1:aM w1 w.heap.size 187 [.int .i64 0,.int .i64 t.pos,.slice none 0 0,str [],.pointer none,.pointer none]:=aU.aL;have P1:=h0.below aU.below;have P1':=Qm.below aU.below;have z1:=aU.size;have k1:Kept (·=pb) w w1:=Kept.aN aU.below (λi h1 h2=>by omega);obtain⟨b',o',c',o8,hc',DE,Pw,c1',c2',c3'⟩:=P1'.hd;have cb':w1.cell? ⟨pb,0,none⟩=some (.slice (some ⟨b',o',none⟩) (r.length+1) c'):=o8.cell rfl;have A4:kZ (d+1) l0=ay (isKind 3) G9 (ay (dT [126]) (Cae.pb dY λt=>Cae.pb cL λ_=>Cae.pb (kZ d) λk=>pr (.not t.pos k))
  (ay (dT [40]) (Cae.pb cL λ_=>Cae.pb (sM (kZ d)) λk=>Cae.pb (cg [41]) λ_=>pr k)
   (Cae.pb dY λt=>Cae.pb mW λn=>pr (.ref t.pos n)))) l0:=rfl
 have hpk:∀{β:Type} (q:Tok->Pa β),Cae.pb dY q l0=q t l0:=λq=>by rw[aI (p:=dY) (x:=Cae.hd l0) (l1:=l0) rfl,Wm]
 push_cast -dsimp[cb',Pw];refine⟨by omega,λh3=>?_,λh3=>?_⟩
 ·have DD:isKind 3 l0=true:=by
   have:t.kind=3:=by omega
   simp[isKind,Wm,this]
  have h5:t.kind≠5:=by omega
  push_cast -dsimp[cb',c1'];refine⟨by omega,?_⟩;refine aA (aCk t.text (Qm.tl.txt t (by simp)) w1 P1.db P1.er) ?_;rintro rv w2 ⟨hR,b2⟩;have P2:=P1.below b2;have P2':=P1'.below b2;have B2:=B1.below b2 (by omega);have k2:Kept (·=pb) w w2:=k1.trans (Kept.aN b2 (X:=(·=pb)) (λi h1 h2=>by omega)) (λi _ h=>h);have z2:=b2.size;rcases hR with ⟨v,s,rfl,ho,hpr⟩|⟨gH,rfl⟩
  ·have tD:=aCt hpr;have hs0:=ho.sl;have ha0:Arg v:=ho.kW;obtain⟨va,vc,rfl,_⟩:=hs0.shape;push_cast -dsimp;refine aC B2 (by simp) rfl ?_;intro w3 cN;have B3:aM w3 w.heap.size 187 [.int .i64 1,.int .i64 t.pos,.slice none 0 0,str [],.pointer none,.pointer none]:=cN.aL;push_cast -dsimp;refine aC B3 (by simp) rfl ?_;intro w4 ah;have B4:aM w4 w.heap.size 187 [.int .i64 1,.int .i64 t.pos,.slice va s.length vc,str [],.pointer none,.pointer none]:=ah.aL;have k34:Kept (·=w.heap.size) w2 w4:=cN.kept.trans ah.kept (λi _ h=>h);have P4':=P2'.kept k34 (λi h=>by omega);have z4:=k34.size;have k4:Kept (·=pb) w w4:=k2.trans k34 (λi h1 h2=>by omega);obtain⟨b4,o4,c4,Cq,RD,aOu,_,_,_,_⟩:=P4'.hd;have cb4:w4.cell? ⟨pb,0,none⟩=some (.slice (some ⟨b4,o4,none⟩) (r.length+1) c4):=Cq.cell rfl;push_cast -dsimp[cb4,HL];refine⟨by omega,?_⟩;refine aC Cq (by simp) rfl ?_;intro w5 cI;have P5:=P4'.pop Cq h5 cI;have B5:=B4.kept cI.kept (by omega);have k5:=k4.trans cI.kept (λi _ h=>h);have s5:Sl (·<w.heap.size) 2 (En bA) w5 (.slice va s.length vc) s:=((hs0.kept k34 (λi h=>by omega)).kept cI.kept (λi h=>by omega)).weaken (λi h=>by omega);push_cast -dsimp;refine⟨.lit t.pos s,r,?_,⟨_,_,rfl,by omega,B5,s5,ha0⟩,P5,k5⟩;rw[A4];unfold ay;rw[DD,if_pos rfl];unfold G9;rw[hpk,tD,Dk];simp[Cae.pb,cL,h5,pr]
  have tD:=aCs gH;push_cast -dsimp;refine aF (jS 3 P2) (λ_ _ h=>h.elim) ?_;rintro c w3 ⟨ht,hb⟩;push_cast -dsimp;refine⟨3,_,?_,ht.mono (by omega),k2.trans (Kept.aN hb (X:=(·=pb)) (λi h1 h2=>by omega)) (λi _ h=>h)⟩;rw[A4];unfold ay;rw[DD,if_pos rfl];unfold G9;rw[hpk,tD];rfl
 have DD:isKind 3 l0=false:=by
  have:t.kind≠3:=λe=>h3 (by omega);simp[isKind,Wm,this]
 refine aA (gF [126] P1) ?_;rintro _ w2 hT;rcases hT with ⟨fx,rfl,t1,r1,mg,yM,P2,kt,hz⟩|⟨fx,rfl,q9⟩
 ·obtain⟨rfl,rfl⟩:t=t1/\r=r1:=by rw[Dk]at mg;exact List.cons.inj mg
  have B2:=B1.kept kt (by omega);have kV:cL l0=.ok ((),r):=by rw[Dk];exact dW yM
  have oz:kZ (d+1) l0=Cae.pb (kZ d) (λk=>pr (.not t.pos k)) r:=by
   rw[A4];unfold ay;rw[DD,fx,if_neg (by decide),if_pos rfl,hpk,aI kV]
  push_cast -dsimp;refine⟨⟨by omega,by omega⟩,?_⟩;refine aF (ih (n+1) (by omega) (by omega) pb B w2 r P2) ?_ ?_
  ·rintro u w3 ⟨k,l3,e3,V3,P3,k3⟩;obtain⟨ub,rfl,Hb⟩:=V3.ptr;have B3:=B2.kept k3 (by omega);push_cast -dsimp;refine aC B3 (by simp) rfl ?_;intro w4 ah;have B4:aM w4 w.heap.size 187 [.int .i64 6,.int .i64 t.pos,.slice none 0 0,str [],.pointer none,.pointer none]:=ah.aL;push_cast -dsimp;refine aC B4 (by simp) rfl ?_;intro w5 cI;have B5:aM w5 w.heap.size 187 [.int .i64 6,.int .i64 t.pos,.slice none 0 0,str [],.pointer (some ⟨ub,0,none⟩),.pointer none]:=cI.aL;have k35:Kept (·=w.heap.size) w3 w5:=ah.kept.trans cI.kept (λi _ h=>h);have P5:=P3.kept k35 (λi h=>by omega);have z3:=k3.size;have k5:Kept (·=pb) w w5:=((k1.trans kt (λi _ h=>h)).trans k3 (λi _ h=>h)).trans k35 (λi h1 h2=>by omega);push_cast -dsimp;refine⟨.not t.pos k,l3,?_,⟨_,_,rfl,by omega,B5,V3.mono k35 (λi h=>by omega) (λi h=>by omega)⟩,P5,k5⟩;rw[oz,aI e3];rfl
  rintro c w3 ⟨e,pos,he,ht,hk⟩;push_cast -dsimp;refine⟨e,pos,?_,ht.mono (by omega),(k1.trans kt (λi _ h=>h)).trans hk (λi _ h=>h)⟩;rw[oz];unfold Cae.pb;rw[he]
 obtain rfl:w1=w2:=q9.symm;push_cast -dsimp;refine aA (gF [40] P1) ?_;rintro _ w2 hT;rcases hT with ⟨gZ,rfl,t1,r1,mg,yM,P2,kt,hz⟩|⟨gZ,rfl,q9⟩
 ·obtain⟨rfl,rfl⟩:t=t1/\r=r1:=by rw[Dk]at mg;exact List.cons.inj mg
  have kV:cL l0=.ok ((),r):=by rw[Dk];exact dW yM
  have oz:kZ (d+1) l0=Cae.pb (qi d) (λk=>Cae.pb (cg [41]) λ_=>pr k) r:=by
   rw[A4];unfold ay;rw[DD,fx,gZ,if_neg (by decide),if_neg (by decide),if_pos rfl,aI kV];rfl
  push_cast -dsimp;refine⟨⟨by omega,by omega⟩,?_⟩;refine aF (ihk (n+1) (by omega) (by omega) pb B w2 r P2) ?_ ?_
  ·rintro u w3 ⟨k,l3,e3,V3,P3,k3⟩;push_cast -dsimp;refine aF (fY [41] P3) ?_ ?_
   ·rintro _ w4 ⟨_,l4,e4,rfl,P4,k4⟩;push_cast -dsimp;have z3:=k3.size;refine⟨k,l4,?_,V3.mono k4 (λi h=>by omega) (λi h=>by omega),P4,((k1.trans kt (λi _ h=>h)).trans k3 (λi _ h=>h)).trans k4 (λi _ h=>h)⟩;rw[oz,aI e3,aI e4];rfl
   rintro c w4 ⟨e,pos,he,ht,hk⟩;push_cast -dsimp;have z3:=k3.size;refine⟨e,pos,?_,ht.mono (by omega),((k1.trans kt (λi _ h=>h)).trans k3 (λi _ h=>h)).trans hk (λi _ h=>h)⟩;rw[oz,aI e3];unfold Cae.pb;rw[he]
  rintro c w3 ⟨e,pos,he,ht,hk⟩;push_cast -dsimp;refine⟨e,pos,?_,ht.mono (by omega),(k1.trans kt (λi _ h=>h)).trans hk (λi _ h=>h)⟩;rw[oz];unfold Cae.pb;rw[he]
 obtain rfl:w1=w2:=q9.symm;have oz:kZ (d+1) l0=Cae.pb mW (λn=>pr (.ref t.pos n)) l0:=by
  rw[A4];unfold ay;rw[DD,fx,gZ,if_neg (by decide),if_neg (by decide),if_neg (by decide),hpk]
 push_cast -dsimp;refine aF (Xm P1) ?_ ?_
 ·rintro _ w3 ⟨nm,l3,e3,rfl,P3,k3⟩;have B3:=B1.kept k3 (by omega);push_cast -dsimp;refine aC B3 (by simp) rfl ?_;intro w4 ah;have B4:aM w4 w.heap.size 187 [.int .i64 2,.int .i64 t.pos,.slice none 0 0,str [],.pointer none,.pointer none]:=ah.aL;push_cast -dsimp;refine aC B4 (by simp) rfl ?_;intro w5 cI;have B5:aM w5 w.heap.size 187 [.int .i64 2,.int .i64 t.pos,.slice none 0 0,str nm,.pointer none,.pointer none]:=cI.aL;have k35:Kept (·=w.heap.size) w3 w5:=ah.kept.trans cI.kept (λi _ h=>h);have P5:=P3.kept k35 (λi h=>by omega);have z3:=k3.size;have k5:Kept (·=pb) w w5:=(k1.trans k3 (λi _ h=>h)).trans k35 (λi h1 h2=>by omega);push_cast -dsimp;refine⟨.ref t.pos nm,l3,?_,⟨_,rfl,by omega,B5⟩,P5,k5⟩;rw[oz,aI e3];rfl
 rintro c w3 ⟨e,pos,he,ht,hk⟩;push_cast -dsimp;refine⟨e,pos,?_,ht.mono (by omega),k1.trans hk (λi _ h=>h)⟩;rw[oz];unfold Cae.pb;rw[he]
theorem On:∀d,UD d
 | 0=>Xv
 | d+1=>Xu d (On d)
theorem aGb (d:Nat):aC5 d:=O6 d (On d)
end Go.Proofs.YtemjejfpadnljaaGreatDoor
namespace Cae
theorem aAv (l:List UInt8):∀a:Nat,a<=l.foldl (λm b=>10*m+(b.toNat-48)) a:=by
 induction l with
 | nil=>exact λa=>Nat.le_refl _
 | cons b l ih=>exact λa=>Nat.le_trans (show a<=10*a+(b.toNat-48) by omega) (ih _)
theorem Oo:∀(l:List UInt8) (a:Nat),(∀c∈l,eL c=true)->Go.Lib.parseUint10 a l=.ok (l.foldl (λm b=>10*m+(b.toNat-48)) a)\/(Go.Lib.parseUint10 a l=.range/\12<l.foldl (λm b=>10*m+(b.toNat-48)) a)
 | [],a,_=>.inl rfl
 | c::r,a,h=>by
  have hc:=h c (by simp);simp only[eL,Bool.and_eq_true,decide_eq_true_eq]at hc;have h1:=aAv r (10*a+(c.toNat-48));have e:a*10+(c.toNat-48)=10*a+(c.toNat-48):=by omega
  rw[Go.Lib.parseUint10,if_pos hc,List.foldl_cons,e];split
  ·exact .inr ⟨rfl,by omega⟩
  split
  ·exact .inr ⟨rfl,by omega⟩
  exact Oo r _ (λx hx=>h x (by simp[hx]))
theorem UX {l:List UInt8}(cY:l≠[])(h:∀c∈l,eL c=true):Go.Lib.atoiAll l=.ok (yI l:Int)\/(Go.Lib.atoiAll l=.range/\12<yI l):=by
 obtain⟨c,r,rfl⟩:∃c r,l=c::r:=by cases l with
  | nil=>exact absurd rfl cY
  | cons c r=>exact⟨c,r,rfl⟩
 have hc:=h c (by simp);simp only[eL,Bool.and_eq_true,decide_eq_true_eq]at hc;rw[Go.Lib.atoiAll_plain c r (by omega) (by omega)];have hm:Go.Lib.parseMag (c::r)=Go.Lib.parseUint10 0 (c::r):=by unfold Go.Lib.parseMag;rw[if_neg (by simp)]
 rw[hm];rcases Oo (c::r) 0 h with h1|⟨h1,h2⟩
 ·rw[h1];unfold Go.Lib.signless;have e:(c::r).foldl (λm b=>10*m+(b.toNat-48)) 0=yI (c::r):=rfl;rw[e];dsimp only;split
  ·exact .inr ⟨rfl,by omega⟩
  exact .inl rfl
 rw[h1];exact .inr ⟨rfl,h2⟩
end Cae
namespace Go.Proofs.YtemjejfpadnljaaGreatDoor
open Go.Vc Go.Proofs Go.RowKit Cae
attribute [local irreducible] cZ ab ai aX runK ar Sl Vc.Own vc aS bu aZ
def Pq:Go.Shelf.Ren:=⟨λ| 172=>188|244=>210|245=>186|247=>185|279=>205|280=>206|281=>207|282=>208|287=>204|316=>218|171=>220|205=>219|321=>216|322=>217|243=>224|246=>221|283=>225|284=>226|285=>227|286=>228|129=>162|317=>229|318=>230|319=>231|320=>232|337=>233|338=>234|n=>n,λ| 9=>9|3=>3|75=>34|76=>92|4=>4|5=>5|167=>276|37=>88|0=>0|85=>253|2=>2|168=>279|53=>244|175=>277|46=>133|210=>288|127=>150|145=>299|143=>297|21=>21|171=>300|173=>302|212=>305|51=>168|20=>20|213=>306|232=>307|233=>308|80=>94|n=>n,λ| 15=>3|16=>4|17=>7|18=>8|19=>9|n=>n⟩
theorem aC7:Go.Proofs.LaysC.n172 Tryz.prog Pq:={
 mixed:=by kernel_rfl
 f129:=Tryz.func162.trans (congrArg some (by kernel_rfl))
 f171:=Tryz.func220.trans (congrArg some (by kernel_rfl))
 f172:=Tryz.func188.trans (congrArg some (by kernel_rfl))
 f205:=Tryz.func219.trans (congrArg some (by kernel_rfl))
 f243:=Tryz.func224.trans (congrArg some (by kernel_rfl))
 f244:=Tryz.func210.trans (congrArg some (by kernel_rfl))
 f245:=Tryz.func186.trans (congrArg some (by kernel_rfl))
 f246:=Tryz.func221.trans (congrArg some (by kernel_rfl))
 f247:=Tryz.func185.trans (congrArg some (by kernel_rfl))
 f279:=Tryz.func205.trans (congrArg some (by kernel_rfl))
 f280:=Tryz.func206.trans (congrArg some (by kernel_rfl))
 f281:=Tryz.func207.trans (congrArg some (by kernel_rfl))
 f282:=Tryz.func208.trans (congrArg some (by kernel_rfl))
 f283:=Tryz.func225.trans (congrArg some (by kernel_rfl))
 f284:=Tryz.func226.trans (congrArg some (by kernel_rfl))
 f285:=Tryz.func227.trans (congrArg some (by kernel_rfl))
 f286:=Tryz.func228.trans (congrArg some (by kernel_rfl))
 f287:=Tryz.func204.trans (congrArg some (by kernel_rfl))
 f316:=Tryz.func218.trans (congrArg some (by kernel_rfl))
 f317:=Tryz.func229.trans (congrArg some (by kernel_rfl))
 f318:=Tryz.func230.trans (congrArg some (by kernel_rfl))
 f319:=Tryz.func231.trans (congrArg some (by kernel_rfl))
 f320:=Tryz.func232.trans (congrArg some (by kernel_rfl))
 f321:=Tryz.func216.trans (congrArg some (by kernel_rfl))
 f322:=Tryz.func217.trans (congrArg some (by kernel_rfl))
 f337:=Tryz.func233.trans (congrArg some (by kernel_rfl))
 f338:=Tryz.func234.trans (congrArg some (by kernel_rfl))
 t0:=Tryz.underlying0
 a0:=Tryz.isAgg0
 z0:=Tryz.sizeOf0
 v0:=Tryz.zeroValue0
 t2:=Tryz.underlying2
 a2:=Tryz.isAgg2
 z2:=Tryz.sizeOf2
 v2:=Tryz.zeroValue2
 t3:=Tryz.underlying3
 a3:=Tryz.isAgg3
 z3:=Tryz.sizeOf3
 v3:=Tryz.zeroValue3
 t4:=Tryz.underlying4
 a4:=Tryz.isAgg4
 z4:=Tryz.sizeOf4
 v4:=Tryz.zeroValue4
 t5:=Tryz.underlying5
 a5:=Tryz.isAgg5
 z5:=Tryz.sizeOf5
 v5:=Tryz.zeroValue5
 t9:=Tryz.underlying9
 a9:=Tryz.isAgg9
 z9:=Tryz.sizeOf9
 v9:=Tryz.zeroValue9
 t20:=Tryz.underlying20
 a20:=Tryz.isAgg20
 z20:=Tryz.sizeOf20
 v20:=Tryz.zeroValue20
 t21:=Tryz.underlying21
 a21:=Tryz.isAgg21
 z21:=Tryz.sizeOf21
 v21:=Tryz.zeroValue21
 t37:=Tryz.underlying88
 a37:=Tryz.isAgg88
 z37:=Tryz.sizeOf88
 v37:=Tryz.zeroValue88
 t46:=Tryz.underlying133
 a46:=Tryz.isAgg133
 z46:=Tryz.sizeOf133
 v46:=Tryz.zeroValue133
 t51:=Tryz.underlying168
 a51:=Tryz.isAgg168
 z51:=Tryz.sizeOf168
 v51:=Tryz.zeroValue168
 t53:=Tryz.underlying244
 a53:=Tryz.isAgg244
 z53:=Tryz.sizeOf244
 v53:=Tryz.zeroValue244
 t75:=Tryz.underlying34
 a75:=Tryz.isAgg34
 z75:=Tryz.sizeOf34
 v75:=Tryz.zeroValue34
 t76:=Tryz.underlying92
 a76:=Tryz.isAgg92
 z76:=Tryz.sizeOf92
 v76:=Tryz.zeroValue92
 t85:=Tryz.underlying253
 a85:=Tryz.isAgg253
 z85:=Tryz.sizeOf253
 v85:=Tryz.zeroValue253
 t127:=Tryz.underlying150
 a127:=Tryz.isAgg150
 z127:=Tryz.sizeOf150
 v127:=Tryz.zeroValue150
 t143:=Tryz.underlying297
 a143:=Tryz.isAgg297
 z143:=Tryz.sizeOf297
 v143:=Tryz.zeroValue297
 t145:=Tryz.underlying299
 a145:=Tryz.isAgg299
 z145:=Tryz.sizeOf299
 v145:=Tryz.zeroValue299
 t167:=Tryz.underlying276
 a167:=Tryz.isAgg276
 z167:=Tryz.sizeOf276
 v167:=Tryz.zeroValue276
 t168:=Tryz.underlying279
 a168:=Tryz.isAgg279
 z168:=Tryz.sizeOf279
 v168:=Tryz.zeroValue279
 t171:=Tryz.underlying300
 a171:=Tryz.isAgg300
 z171:=Tryz.sizeOf300
 v171:=Tryz.zeroValue300
 t173:=Tryz.underlying302
 a173:=Tryz.isAgg302
 z173:=Tryz.sizeOf302
 v173:=Tryz.zeroValue302
 t175:=Tryz.underlying277
 a175:=Tryz.isAgg277
 z175:=Tryz.sizeOf277
 v175:=Tryz.zeroValue277
 t210:=Tryz.underlying288
 a210:=Tryz.isAgg288
 z210:=Tryz.sizeOf288
 v210:=Tryz.zeroValue288
 t212:=Tryz.underlying305
 a212:=Tryz.isAgg305
 z212:=Tryz.sizeOf305
 v212:=Tryz.zeroValue305
 t213:=Tryz.underlying306
 a213:=Tryz.isAgg306
 z213:=Tryz.sizeOf306
 t232:=Tryz.underlying307
 a232:=Tryz.isAgg307
 z232:=Tryz.sizeOf307
 v232:=Tryz.zeroValue307
 t233:=Tryz.underlying308
 a233:=Tryz.isAgg308
 z233:=Tryz.sizeOf308
 v233:=Tryz.zeroValue308
 g15:=by kernel_rfl
 g16:=by kernel_rfl
 g17:=by kernel_rfl
 g18:=by kernel_rfl
 g19:=by kernel_rfl
 t80:=Tryz.underlying94
 a80:=Tryz.isAgg94
 z80:=Tryz.sizeOf94
 v80:=Tryz.zeroValue94
 i0:=by kernel_rfl
 i2:=by kernel_rfl
 i3:=by kernel_rfl
 i4:=by kernel_rfl
 i5:=by kernel_rfl
 i9:=by kernel_rfl
 i20:=by kernel_rfl
 i21:=by kernel_rfl
 i37:=by kernel_rfl
 i46:=by kernel_rfl
 i51:=by kernel_rfl
 i53:=by kernel_rfl
 i75:=by kernel_rfl
 i76:=by kernel_rfl
 i80:=by kernel_rfl
 i85:=by kernel_rfl
 i127:=by kernel_rfl
 i143:=by kernel_rfl
 i145:=by kernel_rfl
 i167:=by kernel_rfl
 i168:=by kernel_rfl
 i171:=by kernel_rfl
 i173:=by kernel_rfl
 i175:=by kernel_rfl
 i210:=by kernel_rfl
 i212:=by kernel_rfl
 i232:=by kernel_rfl
 i233:=by kernel_rfl
 m15:=by kernel_rfl
 m16:=by kernel_rfl
 m17:=by kernel_rfl
 m18:=by kernel_rfl
 m19:=by kernel_rfl
 c0:=by kernel_rfl
 c2:=by kernel_rfl
 c3:=by kernel_rfl
 c4:=by kernel_rfl
 c5:=by kernel_rfl
 c9:=by kernel_rfl
 c20:=by kernel_rfl
 c21:=by kernel_rfl
 c37:=by kernel_rfl
 c46:=by kernel_rfl
 c51:=by kernel_rfl
 c53:=by kernel_rfl
 c75:=by kernel_rfl
 c76:=by kernel_rfl
 c80:=by kernel_rfl
 c85:=by kernel_rfl
 c127:=by kernel_rfl
 c143:=by kernel_rfl
 c145:=by kernel_rfl
 c167:=by kernel_rfl
 c168:=by kernel_rfl
 c171:=by kernel_rfl
 c173:=by kernel_rfl
 c175:=by kernel_rfl
 c210:=by kernel_rfl
 c212:=by kernel_rfl
 c213:=by kernel_rfl
 c232:=by kernel_rfl
 c233:=by kernel_rfl }
theorem aEe (s:List UInt8)(hs:s.length<=1000000)(cY:s≠[])(hd:∀c∈s,eL c=true)(w:World)(h:mB w):ar Tryz.prog 188 [str s] w λr w' =>
  (r=.tuple #[.int .i64 (yI s),.nilIface]\/(12<yI s/\∃v t p,r=.tuple #[.int .i64 v,.iface t p]))/\Below w.heap.size w w':=by
 obtain⟨⟨t1,p1,h1⟩,⟨t2,p2,h2⟩⟩:=h;refine dM Tryz.func188 (by kernel_rfl) (by kernel_rfl) ?_;rcases UX cY hd with ha|⟨ha,hb⟩
 ·refine Calls.mono (Any.strconv_Atoi_ok aC7 ⟨s.toArray⟩ (by show s.length<=_;omega) _ ha w) ?_
  rintro e w' ⟨rfl,hw⟩;refine⟨_,rfl,.inl rfl,?_⟩;rcases hw with rfl|⟨t,rfl⟩
  ·exact Below.refl _ _
  exact Lib.bytesWorld_below _ _ _
 refine Calls.mono (Any.strconv_Atoi_range aC7 ⟨s.toArray⟩ (by show s.length<=_;omega) ha _ w h2 (.inr ⟨_,_,rfl⟩)) ?_
 rintro e w' ⟨N,rfl,_,_,hw⟩;exact⟨_,rfl,.inr ⟨hb,_,_,_,rfl⟩,hw⟩
theorem PR {pb B:Nat}{w:World}{l:List Tok}(h:PS pb B w l):Pc 170 [.pointer (some ⟨pb,0,none⟩)] pb B w l j5 (λ_ r n=>r=.int .i64 (n:Int)/\n<=12):=by
 obtain⟨t,r,rfl⟩:=h.tl.cons;obtain⟨b,o,c,hB,hc,cY,c0,c1,c2,c3⟩:=h.hd;have cb:w.cell? ⟨pb,0,none⟩=some (.slice (some ⟨b,o,none⟩) (r.length+1) c):=hB.cell rfl;have hle:=h.le;have ao:=h.lt;refine bI Tryz.func170 rfl (by kernel_rfl) [.tmp 2] rfl ?_;push_cast -dsimp(maxSteps:=9^7) [Tryz.ntmps170];push_cast -dsimp[cb,Nat.zero_mul,Nat.add_zero,c3];refine⟨by omega,?_⟩;refine aq (z:=[.int .i64 0,str [],.int .i64 0]) (by kernel_rfl) ?_;intro w1 aU;have B1:=aU.aL;have P1:=h.below aU.below;have z1:=aU.size;have b1:=aU.below;push_cast -dsimp;refine aH (xt:=107) (n:=3) (by kernel_rfl) B1 rfl (by decide) (by simp;exact⟨rfl,rfl,rfl⟩) ?_;intro w2 bJ;have B2:aM w2 w.heap.size 107 [.int .i64 t.kind,str t.text,.int .i64 t.pos]:=bJ.aL;have P2:=P1.kept bJ.kept (λi hi=>by omega);have z2:=bJ.size;have b2:=b1.trans (bJ.kept.below (B:=w.heap.size) (by omega) (λi h=>by omega));have k2:Kept (·=pb) w w2:=Kept.aN b2 (λi h1 h2=>by omega);have d0:w2.cell? ⟨w.heap.size,0,none⟩=some (.int .i64 t.kind):=B2.cell rfl;have d1:w2.cell? ⟨w.heap.size,1,none⟩=some (str t.text):=B2.cell rfl;push_cast -dsimp[d0];refine⟨λhk=>?_,λhk=>?_⟩
 ·have lV:isKind 2 (t::r)=false:=by
   have:t.kind≠2:=λe=>hk (by omega);simp[isKind,Cae.hd,this]
  refine aF (jS 3 P2) (λ_ _ h=>h.elim) ?_;rintro c w4 ⟨ht,hb⟩;push_cast -dsimp;exact⟨3,_,by unfold j5 ay;rw[lV];rfl,ht.mono (by omega),k2.trans (Kept.aN hb (X:=(·=pb)) (λi h1 h2=>by omega)) (λi _ h=>h)⟩
 have CU:t.kind=2:=by omega
 have lV:isKind 2 (t::r)=true:=by simp[isKind,Cae.hd,CU]
 have Wu:=h.tl.num t (by simp) CU;push_cast -dsimp[d1];refine aA (aEe t.text (h.tl.txt t (by simp)) Wu.1 Wu.2 w2 P2.er) ?_;rintro rv w3 ⟨hr,b3⟩;have P3:=P2.below b3;have z3:=b3.size;have k3:Kept (·=pb) w w3:=k2.trans (Kept.aN b3 (X:=(·=pb)) (λi h1 h2=>by omega)) (λi _ h=>h);have rl:12<yI t.text->j5 (t::r)=.error (4,(Cae.hd (t::r)).pos):=λvu=>by
  unfold j5 ay;rw[lV];simp[Cae.pb,dY,Cae.hd,vu,dt]
 rcases hr with rfl|⟨vu,v,t',p,rfl⟩
 ·push_cast -dsimp;refine⟨λhh=>?_,λhh=>?_⟩
  ·refine aF (jS 4 P3) (λ_ _ h=>h.elim) ?_;rintro c w4 ⟨ht,hb⟩;push_cast -dsimp;exact⟨4,_,rl (by omega),ht.mono (by omega),k3.trans (Kept.aN hb (X:=(·=pb)) (λi h1 h2=>by omega)) (λi _ h=>h)⟩
  have h5:t.kind≠5:=by omega
  obtain⟨b4,o4,c4,Cq,RD,aOu,_,_,_,_⟩:=P3.hd;have cb4:w3.cell? ⟨pb,0,none⟩=some (.slice (some ⟨b4,o4,none⟩) (r.length+1) c4):=Cq.cell rfl;push_cast -dsimp[cb4,HL];refine⟨by omega,?_⟩;refine aC Cq (by simp) rfl ?_;intro w4 ah;have P4:=P3.pop Cq h5 ah;have k4:=k3.trans ah.kept (λi _ h=>h);push_cast -dsimp;have vu:¬12<yI t.text:=by omega
  exact⟨yI t.text,r,by unfold j5 ay;rw[lV];simp[Cae.pb,dY,Cae.hd,vu,cL,h5,pr],⟨rfl,by omega⟩,P4,k4⟩
 push_cast -dsimp;refine aF (jS 4 P3) (λ_ _ h=>h.elim) ?_;rintro c w4 ⟨ht,hb⟩;push_cast -dsimp;exact⟨4,_,rl (by omega),ht.mono (by omega),k3.trans (Kept.aN hb (X:=(·=pb)) (λi h1 h2=>by omega)) (λi _ h=>h)⟩
def bx (b:Nat):Value:=.pointer (some ⟨b,0,none⟩)
def fm (b:Nat):List Value:=[bx b]
theorem mK (b:Nat):∀u∈fm b,u.oneCell'=true:=by
 intro u hu;simp[fm,bx]at hu;subst hu;rfl
mutual
def bE (X:Nat->Prop)(w:World):Value->aG->Prop
 | v,.one k=>∃b u,v=.pointer (some ⟨b,0,none⟩)/\¬X b/\aM w b 158 [.int .i64 1,u,.slice none 0 0,.int .i64 0,.int .i64 0]/\eZ X w u k
 | v,.any=>∃b,v=.pointer (some ⟨b,0,none⟩)/\¬X b/\aM w b 158 [.int .i64 2,.pointer none,.slice none 0 0,.int .i64 0,.int .i64 0]
 | v,.gh=>∃b,v=.pointer (some ⟨b,0,none⟩)/\¬X b/\aM w b 158 [.int .i64 3,.pointer none,.slice none 0 0,.int .i64 0,.int .i64 0]
 | v,.cat l=>∃b sv vs,v=.pointer (some ⟨b,0,none⟩)/\¬X b/\aM w b 158 [.int .i64 4,.pointer none,sv,.int .i64 0,.int .i64 0]/\Sl X 1 (En fm) w sv vs/\aQ X w vs l
 | v,.alt l=>∃b sv vs,v=.pointer (some ⟨b,0,none⟩)/\¬X b/\aM w b 158 [.int .i64 5,.pointer none,sv,.int .i64 0,.int .i64 0]/\Sl X 1 (En fm) w sv vs/\aQ X w vs l
 | v,.many x lo hi=>∃b sv u,v=.pointer (some ⟨b,0,none⟩)/\¬X b/\aM w b 158 [.int .i64 6,.pointer none,sv,.int .i64 lo,.int .i64 hi]/\Sl X 1 (En fm) w sv [u]/\bE X w (bx u) x
def aQ (X:Nat->Prop)(w:World):List Nat->List aG->Prop
 | [],[]=>True
 | v::vs,x::l=>bE X w (bx v) x/\aQ X w vs l
 | _,_=>False
end
mutual
theorem bE.mono {X X' Y:Nat->Prop}{w w':World}(hk:Kept Y w w')(hY:∀i,Y i->X i)(hX:∀i,X' i->X i):∀{x:aG} {v:Value},bE X w v x->bE X' w' v x
 | .one k,v,h=>by
  simp only[bE]at h ⊢
  obtain⟨b,u,hv,hb,hB,h⟩:=h;exact⟨b,u,hv,λhh=>hb (hX b hh),hB.kept hk (λhh=>hb (hY b hh)),h.mono hk hY hX⟩
 | .any,v,h=>by
  simp only[bE]at h ⊢
  obtain⟨b,hv,hb,hB⟩:=h;exact⟨b,hv,λhh=>hb (hX b hh),hB.kept hk (λhh=>hb (hY b hh))⟩
 | .gh,v,h=>by
  simp only[bE]at h ⊢
  obtain⟨b,hv,hb,hB⟩:=h;exact⟨b,hv,λhh=>hb (hX b hh),hB.kept hk (λhh=>hb (hY b hh))⟩
 | .cat l,v,h=>by
  simp only[bE]at h ⊢
  obtain⟨b,sv,vs,hv,hb,hB,hs,h⟩:=h;exact⟨b,sv,vs,hv,λhh=>hb (hX b hh),hB.kept hk (λhh=>hb (hY b hh)),(hs.kept hk hY).weaken hX,aQ.mono hk hY hX h⟩
 | .alt l,v,h=>by
  simp only[bE]at h ⊢
  obtain⟨b,sv,vs,hv,hb,hB,hs,h⟩:=h;exact⟨b,sv,vs,hv,λhh=>hb (hX b hh),hB.kept hk (λhh=>hb (hY b hh)),(hs.kept hk hY).weaken hX,aQ.mono hk hY hX h⟩
 | .many x lo hi,v,h=>by
  simp only[bE]at h ⊢
  obtain⟨b,sv,u,hv,hb,hB,hs,h⟩:=h;exact⟨b,sv,u,hv,λhh=>hb (hX b hh),hB.kept hk (λhh=>hb (hY b hh)),(hs.kept hk hY).weaken hX,bE.mono hk hY hX h⟩
theorem aQ.mono {X X' Y:Nat->Prop}{w w':World}(hk:Kept Y w w')(hY:∀i,Y i->X i)(hX:∀i,X' i->X i):∀{l:List aG} {vs:List Nat},aQ X w vs l->aQ X' w' vs l
 | [],[],_=>by simp only[aQ]
 | [],_::_,h=>by simp only[aQ]at h
 | _::_,[],h=>by simp only[aQ]at h
 | x::l,v::vs,h=>by
  simp only[aQ]at h ⊢
  exact⟨bE.mono hk hY hX h.1,aQ.mono hk hY hX h.2⟩
end
mutual
theorem bE.top {X:Nat->Prop}{w:World}:∀{x:aG} {v:Value},bE X w v x->bE (λb=>X b\/w.heap.size<=b) w v x
 | .one k,v,h=>by
  simp only[bE]at h ⊢
  obtain⟨b,u,hv,hb,hB,h⟩:=h;exact⟨b,u,hv,λhh=>hh.elim hb (λhh=>by have:=hB.lt;omega),hB,h.top⟩
 | .any,v,h=>by
  simp only[bE]at h ⊢
  obtain⟨b,hv,hb,hB⟩:=h;exact⟨b,hv,λhh=>hh.elim hb (λhh=>by have:=hB.lt;omega),hB⟩
 | .gh,v,h=>by
  simp only[bE]at h ⊢
  obtain⟨b,hv,hb,hB⟩:=h;exact⟨b,hv,λhh=>hh.elim hb (λhh=>by have:=hB.lt;omega),hB⟩
 | .cat l,v,h=>by
  simp only[bE]at h ⊢
  obtain⟨b,sv,vs,hv,hb,hB,hs,h⟩:=h;exact⟨b,sv,vs,hv,λhh=>hh.elim hb (λhh=>by have:=hB.lt;omega),hB,Sl.top (by decide) hs,aQ.top h⟩
 | .alt l,v,h=>by
  simp only[bE]at h ⊢
  obtain⟨b,sv,vs,hv,hb,hB,hs,h⟩:=h;exact⟨b,sv,vs,hv,λhh=>hh.elim hb (λhh=>by have:=hB.lt;omega),hB,Sl.top (by decide) hs,aQ.top h⟩
 | .many x lo hi,v,h=>by
  simp only[bE]at h ⊢
  obtain⟨b,sv,u,hv,hb,hB,hs,h⟩:=h;exact⟨b,sv,u,hv,λhh=>hh.elim hb (λhh=>by have:=hB.lt;omega),hB,Sl.top (by decide) hs,bE.top h⟩
theorem aQ.top {X:Nat->Prop}{w:World}:∀{l:List aG} {vs:List Nat},aQ X w vs l->aQ (λb=>X b\/w.heap.size<=b) w vs l
 | [],[],_=>by simp only[aQ]
 | [],_::_,h=>by simp only[aQ]at h
 | _::_,[],h=>by simp only[aQ]at h
 | x::l,v::vs,h=>by
  simp only[aQ]at h ⊢
  exact⟨bE.top h.1,aQ.top h.2⟩
end
theorem bE.ptr {X:Nat->Prop}{w:World}{x:aG}{v:Value}(h:bE X w v x):∃b,v=.pointer (some ⟨b,0,none⟩)/\b<w.heap.size/\¬X b:=by
 cases x<;>simp only[bE]at h
 ·obtain⟨b,u,hv,hx,hB,_⟩:=h;exact⟨b,hv,hB.lt,hx⟩
 ·obtain⟨b,hv,hx,hB⟩:=h;exact⟨b,hv,hB.lt,hx⟩
 ·obtain⟨b,hv,hx,hB⟩:=h;exact⟨b,hv,hB.lt,hx⟩
 ·obtain⟨b,_,_,hv,hx,hB,_⟩:=h;exact⟨b,hv,hB.lt,hx⟩
 ·obtain⟨b,_,_,hv,hx,hB,_⟩:=h;exact⟨b,hv,hB.lt,hx⟩
 obtain⟨b,_,_,hv,hx,hB,_⟩:=h;exact⟨b,hv,hB.lt,hx⟩
theorem bE.below {X:Nat->Prop}{w w':World}{x:aG}{v:Value}(h:bE X w v x)(hb:Below w.heap.size w w'):bE X w' v x :=
 h.mono (X:=X) (Kept.aN hb (X:=λ_=>False) (λi h1 h2=>by omega)) (λ_ h=>h.elim) (λ_ h=>h)
theorem aQ.snoc {X:Nat->Prop}{w:World}:∀{l:List aG} {vs:List Nat} {x:aG} {v:Nat},aQ X w vs l->bE X w (bx v) x->aQ X w (vs++[v]) (l++[x])
 | [],[],_,_,_,hx=>by
  simp only[List.nil_append,aQ];exact⟨hx,trivial⟩
 | [],_::_,_,_,h,_=>by simp only[aQ]at h
 | _::_,[],_,_,h,_=>by simp only[aQ]at h
 | x::l,v::vs,y,u,h,hx=>by
  simp only[aQ,List.cons_append]at h ⊢
  exact⟨h.1,aQ.snoc h.2 hx⟩
theorem aQ.len {X:Nat->Prop}{w:World}:∀{l:List aG} {vs:List Nat},aQ X w vs l->vs.length=l.length
 | [],[],_=>rfl
 | [],_::_,h=>by simp only[aQ]at h
 | _::_,[],h=>by simp only[aQ]at h
 | x::l,v::vs,h=>by
  simp only[aQ]at h;simp[aQ.len h.2]
def Nd (d:Nat):Prop:=∀(n:Int),0<=n->n+(d:Int)=9->∀(pb B:Nat) (w:World) (l:List Tok),PS pb B w l->Pc 169 [.pointer (some ⟨pb,0,none⟩),.int .i64 n] pb B w l (aw d) (λw' r x=>bE (·<w.heap.size) w' r x)
def UB (d:Nat):Prop:=∀(n:Int),0<=n->n+(d:Int)=9->∀(pb B:Nat) (w:World) (l:List Tok),PS pb B w l->Pc 134 [.pointer (some ⟨pb,0,none⟩),.int .i64 n] pb B w l (aY d (aw d)) (λw' r x=>bE (·<w.heap.size) w' r x)
def aHY (d:Nat):Prop:=∀(n:Int),0<=n->n+(d:Int)=9->∀(pb B:Nat) (w:World) (l:List Tok),PS pb B w l->Pc 109 [.pointer (some ⟨pb,0,none⟩),.int .i64 n] pb B w l (iI (aY d (aw d))) (λw' r x=>bE (·<w.heap.size) w' r x)
def aD8 (d:Nat):Prop:=∀(n:Int),0<=n->n+(d:Int)=9->∀(pb B:Nat) (w:World) (l:List Tok),PS pb B w l->Pc 71 [.pointer (some ⟨pb,0,none⟩),.int .i64 n] pb B w l (qu d) (λw' r x=>bE (·<w.heap.size) w' r x)
theorem Ee:Nd 0:=by
 intro n wI hn pb B w l h;refine bI Tryz.func169 rfl (by kernel_rfl) [.tmp 4] rfl ?_;push_cast -dsimp(maxSteps:=9^7) [Tryz.ntmps169];refine aF (mJ n h) ?_ ?_
 ·rintro _ _ ⟨h8,rfl,rfl⟩;omega
 rintro c w' ⟨h8,ht,hb⟩;push_cast -dsimp;exact⟨4,_,rfl,ht,Kept.aN hb (λi h1 h2=>by omega)⟩
theorem Ed (d:Nat)(ihp:aD8 d):Nd (d+1):=by
 intro n wI hn pb B w l0 h0;obtain⟨t,r,Dk⟩:=h0.tl.cons;have Wm:Cae.hd l0=t:=by rw[Dk];rfl
 have Qm:=h0;rw[Dk]at Qm;obtain⟨b,o,c,hB,hc,cY,c0,c1,c2,c3⟩:=Qm.hd;have cb:w.cell? ⟨pb,0,none⟩=some (.slice (some ⟨b,o,none⟩) (r.length+1) c):=hB.cell rfl;have hle:=h0.le;have ao:=h0.lt;have A4:aw (d+1) l0=ay (dT [46]) (Cae.pb cL λ_=>pr .any)
  (ay (dT [36]) (Cae.pb cL λ_=>pr .gh)
  (ay (dT [40]) (Cae.pb cL λ_=>Cae.pb (qu d) λx=>Cae.pb (cg [41]) λ_=>pr x)
  (ay jG (Cae.pb (kZ (d+1)) λk=>pr (.one k)) (dt 3)))) l0:=rfl
 refine bI Tryz.func169 rfl (by kernel_rfl) [.tmp 4] rfl ?_;push_cast -dsimp(maxSteps:=9^7) [Tryz.ntmps169];refine aF (mJ n h0) ?_ (λc w' hh=>by have:=hh.1;omega);rintro _ w0 ⟨h8,rfl,uZ⟩;obtain rfl:w=w0:=uZ.symm;push_cast -dsimp;refine aA (gF [46] h0) ?_;rintro _ w2 hT;rcases hT with ⟨fx,rfl,t1,r1,mg,yM,P2,kt,hz⟩|⟨fx,rfl,q9⟩
 ·have kV:cL l0=.ok ((),r1):=by rw[mg];exact dW yM
  push_cast -dsimp;refine aR ?_;intro w3 cN;have B3:aM w3 w2.heap.size 158 [.int .i64 2,.pointer none,.slice none 0 0,.int .i64 0,.int .i64 0]:=cN.aL;have P3:=P2.below cN.below;have k3:=kt.trans (Kept.new (X:=(·=pb)) cN) (λi _ h=>h);push_cast -dsimp;refine⟨.any,r1,?_,?_,P3,k3⟩
  ·rw[A4];unfold ay;rw[fx,if_pos rfl,aI kV];rfl
  simp only[bE];exact⟨_,rfl,by omega,B3⟩
 obtain rfl:w=w2:=q9.symm;push_cast -dsimp;refine aA (gF [36] h0) ?_;rintro _ w2 hT;rcases hT with ⟨gZ,rfl,t1,r1,mg,yM,P2,kt,hz⟩|⟨gZ,rfl,q9⟩
 ·have kV:cL l0=.ok ((),r1):=by rw[mg];exact dW yM
  push_cast -dsimp;refine aR ?_;intro w3 cN;have B3:aM w3 w2.heap.size 158 [.int .i64 3,.pointer none,.slice none 0 0,.int .i64 0,.int .i64 0]:=cN.aL;have P3:=P2.below cN.below;have k3:=kt.trans (Kept.new (X:=(·=pb)) cN) (λi _ h=>h);push_cast -dsimp;refine⟨.gh,r1,?_,?_,P3,k3⟩
  ·rw[A4];unfold ay;rw[fx,gZ,if_neg (by decide),if_pos rfl,aI kV];rfl
  simp only[bE];exact⟨_,rfl,by omega,B3⟩
 obtain rfl:w=w2:=q9.symm;push_cast -dsimp;refine aA (gF [40] h0) ?_;rintro _ w2 hT;rcases hT with ⟨lW,rfl,t1,r1,mg,yM,P2,kt,hz⟩|⟨lW,rfl,q9⟩
 ·have kV:cL l0=.ok ((),r1):=by rw[mg];exact dW yM
  have oz:aw (d+1) l0=Cae.pb (qu d) (λx=>Cae.pb (cg [41]) λ_=>pr x) r1:=by
   rw[A4];unfold ay;rw[fx,gZ,lW,if_neg (by decide),if_neg (by decide),if_pos rfl,aI kV]
  push_cast -dsimp;refine⟨⟨by omega,by omega⟩,?_⟩;refine aF (ihp (n+1) (by omega) (by omega) pb B w2 r1 P2) ?_ ?_
  ·rintro u w3 ⟨x,l3,e3,V3,P3,k3⟩;push_cast -dsimp;refine aF (fY [41] P3) ?_ ?_
   ·rintro _ w4 ⟨_,l4,e4,rfl,P4,k4⟩;push_cast -dsimp;have z3:=k3.size;refine⟨x,l4,?_,V3.mono k4 (λi h=>by omega) (λi h=>by omega),P4,(kt.trans k3 (λi _ h=>h)).trans k4 (λi _ h=>h)⟩;rw[oz,aI e3,aI e4];rfl
   rintro c w4 ⟨e,pos,he,ht,hk⟩;push_cast -dsimp;have z3:=k3.size;refine⟨e,pos,?_,ht.mono (by omega),(kt.trans k3 (λi _ h=>h)).trans hk (λi _ h=>h)⟩;rw[oz,aI e3];unfold Cae.pb;rw[he]
  rintro c w3 ⟨e,pos,he,ht,hk⟩;push_cast -dsimp;refine⟨e,pos,?_,ht.mono (by omega),kt.trans hk (λi _ h=>h)⟩;rw[oz];unfold Cae.pb;rw[he]
 obtain rfl:w=w2:=q9.symm;have qE:jG l0=(t.kind == 3 || jZ l0):=by unfold jG isKind;rw[Wm]
 push_cast -dsimp[cb,c0];have sw:jG l0=true->aw (d+1) l0=Cae.pb (kZ (d+1)) (λk=>pr (.one k)) l0:=λhu=>by
  rw[A4];unfold ay;rw[fx,gZ,lW,hu,if_neg (by decide),if_neg (by decide),if_neg (by decide),if_pos rfl]
 refine⟨by omega,λh3=>?_,λh3=>?_⟩
 ·refine aA (Gj h0) ?_;rintro _ w1 ⟨rfl,b1⟩;have P1:=h0.below b1;have k1:Kept (·=pb) w w1:=Kept.aN b1 (λi h1 h2=>by omega);have z1:=b1.size;have DD:(t.kind == 3)=false:=by
   have:t.kind≠3:=λe=>h3 (by omega);simpa using this
  rw[DD,Bool.false_or]at qE;cases qY:jZ l0 with
  | true =>
   have oz:=sw (by rw[qE,qY]);push_cast -dsimp;refine aF (On (d+1) n (by omega) (by omega) pb B w1 l0 P1) ?_ ?_
   ·rintro u w3 ⟨k,l3,e3,V3,P3,k3⟩;obtain⟨ub,rfl,Hb⟩:=V3.ptr;push_cast -dsimp;refine aR ?_;intro w4 ah;have B4:aM w4 w3.heap.size 158 [.int .i64 1,.pointer (some ⟨ub,0,none⟩),.slice none 0 0,.int .i64 0,.int .i64 0]:=ah.aL;have P4:=P3.below ah.below;have z3:=k3.size;have k4:=(k1.trans k3 (λi _ h=>h)).trans (Kept.new (X:=(·=pb)) ah) (λi _ h=>h);push_cast -dsimp;refine⟨.one k,l3,?_,?_,P4,k4⟩
    ·rw[oz,aI e3];rfl
    simp only[bE];exact⟨_,_,rfl,by omega,B4,V3.mono (Kept.new (X:=λ_=>False) ah) (λ_ h=>h.elim) (λi h=>by omega)⟩
   rintro c w3 ⟨e,pos,he,ht,hk⟩;push_cast -dsimp;refine⟨e,pos,?_,ht.mono (by omega),k1.trans hk (λi _ h=>h)⟩;rw[oz];unfold Cae.pb;rw[he]
  | false =>
   push_cast -dsimp;refine aF (jS 3 P1) (λ_ _ h=>h.elim) ?_;rintro c w4 ⟨ht,hb⟩;push_cast -dsimp;refine⟨3,_,?_,ht.mono (by omega),k1.trans (Kept.aN hb (X:=(·=pb)) (λi h1 h2=>by omega)) (λi _ h=>h)⟩;rw[A4];unfold ay;rw[fx,gZ,lW,qE,qY,if_neg (by decide),if_neg (by decide),if_neg (by decide),if_neg (by decide)];rfl
 have oz:=sw (by
  have:t.kind=3:=by omega
  rw[qE,this];rfl)
 have k1:Kept (·=pb) w w:=Kept.refl _ _;have z1:w.heap.size<=w.heap.size:=Nat.le_refl _;refine aF (On (d+1) n (by omega) (by omega) pb B w l0 h0) ?_ ?_
 ·rintro u w3 ⟨k,l3,e3,V3,P3,k3⟩;obtain⟨ub,rfl,Hb⟩:=V3.ptr;push_cast -dsimp;refine aR ?_;intro w4 ah;have B4:aM w4 w3.heap.size 158 [.int .i64 1,.pointer (some ⟨ub,0,none⟩),.slice none 0 0,.int .i64 0,.int .i64 0]:=ah.aL;have P4:=P3.below ah.below;have z3:=k3.size;have k4:=(k1.trans k3 (λi _ h=>h)).trans (Kept.new (X:=(·=pb)) ah) (λi _ h=>h);push_cast -dsimp;refine⟨.one k,l3,?_,?_,P4,k4⟩
  ·rw[oz,aI e3];rfl
  simp only[bE];exact⟨_,_,rfl,by omega,B4,V3.mono (Kept.new (X:=λ_=>False) ah) (λ_ h=>h.elim) (λi h=>by omega)⟩
 rintro c w3 ⟨e,pos,he,ht,hk⟩;push_cast -dsimp;refine⟨e,pos,?_,ht.mono (by omega),k1.trans hk (λi _ h=>h)⟩;rw[oz];unfold Cae.pb;rw[he]
end Go.Proofs.YtemjejfpadnljaaGreatDoor
