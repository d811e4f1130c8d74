/- Part. -/
import Derived.Test.YtemjejfpadnljaaGreatDoorM5
import Derived.Shelf.Strconv.AtoiAll
set_option maxRecDepth 100000
set_option linter.unusedSimpArgs false
set_option linter.unusedVariables false
set_option maxHeartbeats 8000000
namespace Go.Proofs.YtemjejfpadnljaaGreatDoor
open Go.Vc Go.Proofs Go.RowKit Cae
attribute [local irreducible] dN ae ak aY runK aw Sl Vc.Own vc aV cJ a7
def Mx (B:Nat)(s:List UInt8)(r:Value)(w:World):Prop :=
 (∃v l,r=.tuple #[v,.nilIface]/\Go.Vc.Own B 208 2 bF w v l/\dY s l)\/((∀l,¬dY s l)/\r=.tuple #[.slice none 0 0,.iface 74 (.int .i64 3)])
def Mv (sz:Nat)(w:World)(s body:List UInt8)(pre:List (List UInt8))(W:World):Prop :=
 ∃v out,aN W sz 139 [.slice none 0 0]/\aN W (sz+1) 34 [.nilIface]/\aN W (sz+2) 9 [str body]/\aN W (sz+3) 139 [v]/\Go.Vc.Own (sz+9) 208 2 bF W v out/\out.length=pre.length/\(body=[]->out=[])/\(∀l,dY s l->out=l.take pre.length)/\Below sz w W
def Rm (sz:Nat)(w:World)(s body:List UInt8)(c:Code)(pre:List (List UInt8))(W:World):Prop :=
 (c=.ret/\aN W sz 139 [.slice none 0 0]/\aN W (sz+1) 34 [.iface 74 (.int .i64 3)]/\(∀l,¬dY s l)/\Below sz w W)\/(c=.exit 0/\body=[]/\Mv sz w s body [] W)
theorem Mv.kept {sz:Nat}{w W W':World}{s body:List UInt8}{pre:List (List UInt8)}(hw:sz=w.heap.size)(h:Mv sz w s body pre W)(hk:Kept (λk=>k=sz+4\/k=sz+7\/k=sz+7+1) W W'):Mv sz w s body pre W':=by
 obtain⟨v,out,h1,h2,h3,h4,h5,h6,h7,h8,h9⟩:=h;exact⟨v,out,h1.kept hk (by omega),h2.kept hk (by omega),h3.kept hk (by omega),h4.kept hk (by omega),h5.aH hk (λg hg hh=>by have:=(h5.block g hg).1;omega),h6,h7,h8,h9.trans (hk.below (by have:=h9.size;omega) (λi h=>by omega))⟩
theorem Rm.kept {sz:Nat}{w W W':World}{s body:List UInt8}{c:Code}{pre:List (List UInt8)}(hw:sz=w.heap.size)(h:Rm sz w s body c pre W)(hk:Kept (λk=>k=sz+4\/k=sz+7\/k=sz+7+1) W W'):Rm sz w s body c pre W':=by
 rcases h with ⟨h0,h1,h2,h3,h9⟩|⟨h0,h1,h2⟩
 ·exact .inl ⟨h0,h1.kept hk (by omega),h2.kept hk (by omega),h3,h9.trans (hk.below (by have:=h9.size;omega) (λi h=>by omega))⟩
 exact .inr ⟨h0,h1,h2.kept hw hk⟩
theorem kV {w W:World}{s:List UInt8}{r1 r2:Value}{D:Nat}(hD:D=w.heap.size+7)(P1:aN W w.heap.size 139 [r1])(P2:aN W (w.heap.size+1) 34 [r2])(hDW:W.heap[D]?=some (.deferred (some [])))(hb:Below w.heap.size w W)
  (hR:Mx w.heap.size s (.tuple #[r1,r2]) (W.putObj D (.deferred none))) {t:Fr} (h2:t.getD 2 undef=.pointer (some ⟨w.heap.size,0,none⟩)) (h3:t.getD 3 undef=.pointer (some ⟨w.heap.size+1,0,none⟩)) :
  bodyPostM Fence.wide 0 Tryz.prog Tryz.f133 (λe w'=>∃v,e=.returned v/\Mx w.heap.size s v w'/\Below w.heap.size w w') .ret ⟨t.toArray,[{ target:=.collected D,args:=#[] }]⟩ W:=by
 have hk:=Aj (X:=λk=>k=D) W D (.deferred none) rfl;have Q1:=P1.kept hk (by omega);have Q2:=P2.kept hk (by omega);refine aIe (rs:=[.cell 2 139,.cell 3 34]) (by rfl) hDW ?_;have d1:(W.putObj D (.deferred none)).cell? ⟨w.heap.size,0,none⟩=some r1:=Q1.cell rfl;have d2:(W.putObj D (.deferred none)).cell? ⟨w.heap.size+1,0,none⟩=some r2:=Q2.cell rfl;have hgW:∃V,W.putObj D (.deferred none)=V:=⟨_,rfl⟩;obtain⟨V,hV⟩:=hgW;rw[hV]at d1 d2 hR hk ⊢
 push_cast -dsimp[h2,h3,d1,d2];exact⟨hR,hb.trans (hk.below hb.size (λi h=>by omega))⟩
theorem aD7 (s:List UInt8)(hs:s.length<=1000000)(w:World)(hd:Db w)(he:mr w):aw Tryz.prog 133 [str s] w λr w'=>Mx w.heap.size s r w'/\Below w.heap.size w w':=by
 refine Sf Tryz.func133 rfl (by kernel_rfl) ?_;simp -dsimp (maxSteps:=9^7) only[push_cast,yj,Tryz.ntmps133,List.length_cons,List.length_nil,Nat.reduceAdd,Nat.reduceSub,Nat.reduceBEq,List.replicate_succ,List.replicate_zero];refine nW (ro:=none) (by rfl) ?_;push_cast -dsimp;refine ah (z:=[.slice none 0 0]) (by kernel_rfl) ?_;intro w1 aU;have qw:=aU.size;have B1:=aU.aL;have b1:=aU.below;push_cast -dsimp;refine ah (z:=[.nilIface]) (by kernel_rfl) ?_;intro w2 bP;have EE:=bP.size;have B12:=B1.below bP.below (by omega);have B22:=bP.aL;have b2:=b1.trans (bP.below.mono (by omega));rw[qw]at B22;push_cast -dsimp[qw];refine nW (ro:=none) (by rfl) ?_;push_cast -dsimp;refine aA (XQ s [91] w2) ?_;rintro _ Ra ⟨rfl,rfl⟩;push_cast -dsimp;refine ah (z:=[str []]) (by kernel_rfl) ?_;intro w3 dA;have PA:=dA.size;have B13:=B12.below dA.below (by omega);have B23:=B22.below dA.below (by omega);have B33:=dA.aL;have b3:=b2.trans (dA.below.mono (by omega));have es2:Ra.heap.size=w.heap.size+2:=by omega
 rw[es2]at B33;push_cast -dsimp[es2];refine aC B33 (by simp) rfl ?_;intro w4 aj;have Mn:w4.heap.size=w3.heap.size:=aj.size;have B14:=B13.kept aj.kept (by omega);have B24:=B23.kept aj.kept (by omega);have B34:aN w4 (w.heap.size+2) 9 [str (Lib.trimPrefix s [91])]:=aj.aL;have b4:=b3.trans (aj.kept.below (B:=w.heap.size) (by omega) (λi h=>by omega));have c34:w4.cell? ⟨w.heap.size+2,0,none⟩=some (str (Lib.trimPrefix s [91])):=B34.cell rfl;have Mj:(Lib.trimPrefix s [91]).length<=s.length:=by
  unfold Lib.trimPrefix;split
  ·rw[List.length_drop];omega
  exact Nat.le_refl _
 push_cast -dsimp;refine nW (ro:=none) (by rfl) ?_;push_cast -dsimp[c34];refine aA (XS (Lib.trimPrefix s [91]) [93] (by omega) w4) ?_;rintro _ w4' ⟨rfl,rfl⟩;push_cast -dsimp;refine aC B34 (by simp) rfl ?_;intro w5 cG;have PC:w5.heap.size=w4'.heap.size:=cG.size;have B15:=B14.kept cG.kept (by omega);have B25:=B24.kept cG.kept (by omega);have Ad:∃body,Lib.trimSuffix (Lib.trimPrefix s [91]) [93]=body:=⟨_,rfl⟩;obtain⟨body,td⟩:=Ad;have hbl:body.length<=s.length:=by
  rw[<-td];unfold Lib.trimSuffix;split
  ·rw[List.length_take];omega
  exact Mj
 rw[td]at cG;rw[td];have B35:aN w5 (w.heap.size+2) 9 [str body]:=cG.aL;have b5:=b4.trans (cG.kept.below (B:=w.heap.size) (by omega) (λi h=>by omega));have c15:w5.cell? ⟨w.heap.size,0,none⟩=some (.slice none 0 0):=B15.cell rfl;have hgp:∃pf,Lib.hasPrefix s [91]=pf:=⟨_,rfl⟩;obtain⟨pf,hpf⟩:=hgp;have Eb:∃sf,Lib.hasSuffix (Lib.trimPrefix s [91]) [93]=sf:=⟨_,rfl⟩;obtain⟨sf,hsf⟩:=Eb;rw[hpf,hsf];push_cast -dsimp;refine nW (ro:=none) (by rfl) ?_;cases uR:(pf && sf) with
 | false =>
  have ep:∀l,¬dY s l:=λl h=>by
   have:=so h;rw[hpf,hsf]at this;rw[this.1,this.2.1]at uR;cases uR
  cases pf<;>cases sf<;>first|(cases uR;done)|skip
  all_goals
   push_cast -dsimp
   refine aC B15 (by simp) rfl ?_
   intro w6 bW
   have MN:w6.heap.size=w5.heap.size:=bW.size
   have B26:=B25.kept bW.kept (by omega)
   have B16:aN w6 w.heap.size 139 [.slice none 0 0]:=bW.aL
   push_cast -dsimp
   refine aC B26 (by simp) rfl ?_
   intro w7 fQ
   have B17:=B16.kept fQ.kept (by omega)
   have B27:aN w7 (w.heap.size+1) 34 [.iface 74 (.int .i64 3)]:=fQ.aL
   have b7:=(b5.trans (bW.kept.below (B:=w.heap.size) (by omega) (λi h=>by omega))).trans (fQ.kept.below (B:=w.heap.size) (by omega) (λi h=>by omega))
   have d1:w7.cell? ⟨w.heap.size,0,none⟩=some (.slice none 0 0):=B17.cell rfl
   have d2:w7.cell? ⟨w.heap.size+1,0,none⟩=some (.iface 74 (.int .i64 3)):=B27.cell rfl
   push_cast -dsimp
   refine aId (rs:=[.cell 2 139,.cell 3 34]) (by rfl) ?_
   push_cast -dsimp[d1,d2]
   exact⟨.inr ⟨ep,rfl⟩,b7⟩
 | true =>
  cases pf<;>cases sf<;>first|(cases uR;done)|skip
  push_cast -dsimp;refine nW (ro:=none) (by rfl) ?_;push_cast -dsimp;refine ah (z:=[.slice none 0 0]) (by kernel_rfl) ?_;intro w6 bW;have MN:=bW.size;have B16:=B15.below bW.below (by omega);have B26:=B25.below bW.below (by omega);have B36:=B35.below bW.below (by omega);have B46:=bW.aL;have b6:=b5.trans (bW.below.mono (by omega));have es5:w5.heap.size=w.heap.size+3:=by omega
  rw[es5]at B46;have c36:w6.cell? ⟨w.heap.size+2,0,none⟩=some (str body):=B36.cell rfl;push_cast -dsimp[es5];refine wpIn_seq (nW (ro:=none) (by rfl) ?_);push_cast -dsimp[c36];refine aA (MF body 32 w6) ?_;rintro _ w7 ⟨rfl,hS,hP,hV,MO,lV⟩;have es6:w6.heap.size=w.heap.size+4:=by omega
  rw[es6]at hS hP hV;have B17:=B16.below lV (by omega);have B27:=B26.below lV (by omega);have B37:=B36.below lV (by omega);have B47:=B46.below lV (by omega);have b7:=b6.trans (lV.mono (by omega));push_cast -dsimp[es6];have es7:w7.heap.size=w.heap.size+7:=by omega
  have QL:aN w7 (w.heap.size+4) 9 [str body]:=hS;refine wpIn_block (aIC (α:=List UInt8) (gf:=200) (lb:=[.pointer (some ⟨w.heap.size+4+1,0,none⟩),.pointer (some ⟨w.heap.size+4,0,none⟩),.pointer (some ⟨w.heap.size+4+2,0,none⟩)]) (by rfl) (λargs w=>cC Tryz.func200 (by kernel_rfl) (by kernel_rfl)) (en:=λx=>str x) (B:=λk=>k=w.heap.size+4) (Z:=λk=>k=w.heap.size+4\/k=w.heap.size+4+1\/k=w.heap.size+4+2)
   (λk hk=>by omega) (λk hk=>by omega) (aAN body 32 (by omega) _ _ _ _ (by omega) (by omega) w7 hS hP hV) (Mv w.heap.size w s body) (Rm w.heap.size w s body) (λp W W' h hk=>h.kept rfl (by rw[es7]at hk;exact hk)) (λc p W W' h hk=>h.kept rfl (by rw[es7]at hk;exact hk)) ?_ 8 (by rfl) (by rfl) ?_ ?_ ?_ ?_)
  ·exact⟨_,[],B17,B27,B37,B47,Go.Vc.Own.nil (enc:=bF) _ _ (λ_=>rfl) _,rfl,λ_=>rfl,λl _=>rfl,b7⟩
  ·intro x W;push_cast -dsimp
  ·intro pre x W hI hA hWs;obtain⟨v,out,P1,P2,P3,P4,ho,Vi,fq,Y8,JM⟩:=hI;have VY:=JM.size;have cb:W.cell? ⟨w.heap.size+2,0,none⟩=some (str body):=P3.cell rfl;have jJ:x∈splitB 32 body:=hA.subset (by simp);have hxl:=qW 32 body x jJ;have aTl:pre.length<=body.length:=by
    have h1:=hA.length_le;have h2:=uq 32 body;rw[List.length_append,List.length_singleton]at h1;omega
   have AV:∀l,dY s l->aO (-2) l=true/\body=mE l:=λl hl=>⟨hl.1,by rw[<-td];exact(so hl).2.2⟩;push_cast -dsimp[cb];refine⟨λuL=>?_,λaCJ=>?_⟩
   ·have qt:=fq uL;subst qt;exact⟨Nat.le_refl _,.inr ⟨rfl,uL,v,[],P1,P2,P3,P4,ho,rfl,λ_=>rfl,λl _=>rfl,JM⟩⟩
   refine aA (aJ1 x 45 (by omega) W) ?_;rintro _ w8 ⟨rfl,j5⟩;have hgc:∃a b two,nC 45 x=(a,b,two):=⟨_,_,_,rfl⟩;obtain⟨a,b,two,lZ⟩:=hgc;have jE:=XP 45 x;rw[lZ]at jE;rw[lZ];obtain⟨hla,hlb⟩:=jE;dsimp only at hla hlb;cases two with
   | true =>
    have TG:∀l,dY s l->∃r,l[pre.length]?=some r/\0<=r.1/\r.1<=r.2/\r.2<=1114111/\a=iJ r.1.toNat/\b=iJ r.2.toNat:=λl hl=>by
     obtain⟨hr,jf⟩:=AV l hl;obtain⟨r,x9,Vj,rZ,hr3,hr4⟩:=zY hr jf aCJ hA;rw[Vj]at lZ;by_cases aq:r.1<r.2
     ·rw[NZ (by omega) (by omega) (by omega) aq]at lZ;exact⟨r,x9,rZ,hr3,hr4,(Prod.mk.inj lZ).1.symm,(Prod.mk.inj (Prod.mk.inj lZ).2).1.symm⟩
     rw[Gm (by omega) (by omega) aq]at lZ;cases (Prod.mk.inj (Prod.mk.inj lZ).2).2
    push_cast -dsimp;refine aA (qP 32 (.inl rfl) a (by omega) w8 (he.below (JM.trans (j5.mono VY)))) ?_;rintro _ w9 ⟨⟨v1,e1,rfl,he1,Em⟩,pd⟩;push_cast -dsimp;refine aA (qP 32 (.inl rfl) b (by omega) w9 (he.below (JM.trans ((j5.tr pd).mono VY)))) ?_;rintro _ Vq ⟨⟨v2,e2,rfl,he2,wE⟩,Sv⟩;have lT:=(j5.tr pd).tr Sv;have Q1:=P1.below lT (by omega);have Q2:=P2.below lT (by omega);have Q3:=P3.below lT (by omega);have Q4:=P4.below lT (by omega);have hoq:=ho.below lT;have K1:=JM.trans (lT.mono VY);have hWq:=lT.size;have qz:Kept (λ_=>False) W Vq:=Kept.aQ lT (λi h1 h2=>by omega);have CI:∀l,dY s l->∃r,l[pre.length]?=some r/\v1=r.1/\v2=r.2/\e1=.nilIface/\e2=.nilIface:=λl hl=>by
     obtain⟨r,x9,rZ,hr3,hr4,Mg,ha2⟩:=TG l hl;have h1:=Em _ (by omega) Mg;have h2:=wE _ (by omega) ha2;exact⟨r,x9,by rw[h1.1];omega,by rw[h2.1];omega,h1.2,h2.2⟩
    by_cases YV:e1=.nilIface/\e2=.nilIface
    ·obtain⟨rfl,rfl⟩:=YV;have cv:Vq.cell? ⟨w.heap.size+3,0,none⟩=some v:=Q4.cell rfl;have eN:=hoq.slice;obtain⟨oa,oc,rfl⟩:=eN;push_cast -dsimp[cv];refine cF fe rfl rfl (by omega) ?_;intro VO kT;have aM5:=kT.size;have Kl:=hoq.new kT;have R4:=Q4.below kT.below (by omega);push_cast -dsimp;refine aP (base:=w.heap.size+9) [(v1,v2)] (enc:=bF) fe Kl (by rfl) (λj u hu=>by simpa[bF] using kT.cell hu) jC (by simp only[List.length_cons,List.length_nil];omega) (by omega) ?_;intro v12 VQ Ny aHi aQC;have kg:Kept (λj=>(Value.slice oa out.length oc).ownBlock=some j) VO VQ:=Kept.grown aHi (λ_ h=>h);have gj:=Kl.block;have R5:aN VQ (w.heap.size+3) 139 [.slice oa out.length oc]:=R4.kept kg (λh=>by have:=(gj _ h).1;omega);push_cast -dsimp;have eN:=Ny.slice;obtain⟨va,vc,rfl⟩:=eN;refine aC R5 (by simp) rfl ?_;intro yY OE;have Ai:Kept (λj=>j=w.heap.size+3\/(Value.slice oa out.length oc).ownBlock=some j) Vq yY:=((Kept.new (X:=λj=>j=w.heap.size+3\/(Value.slice oa out.length oc).ownBlock=some j) kT).trans kg (λ_ _ h=>.inr h)).trans OE.kept (λ_ _ h=>.inl h);have uM:∀{k:Nat},k=w.heap.size+3\/(Value.slice oa out.length oc).ownBlock=some k->w.heap.size+9<=k\/k=w.heap.size+3:=λh=>by
      rcases h with h|h
      ·exact .inr h
      exact .inl (gj _ h).1
     have S1:=Q1.kept Ai (λh=>by have:=uM h;omega);have S2:=Q2.kept Ai (λh=>by have:=uM h;omega);have S3:=Q3.kept Ai (λh=>by have:=uM h;omega);have S4:aN yY (w.heap.size+3) 139 [.slice va (out++[(v1,v2)]).length vc]:=OE.aL;have aHC:=Ny.aH OE.kept (λg hg h=>by have:=(Ny.block g hg).1;omega);have hz:∀k,(k=w.heap.size+4\/k=w.heap.size+4+1\/k=w.heap.size+4+2)\/k=w7.heap.size\/k=w7.heap.size+1->yY.heap[k]?=W.heap[k]?:=λk hk =>
      (Ai.block k (by omega) (λh=>by have:=uM h;omega)).trans (qz.block k (by omega) (λh=>h))
     have Hp:Mv w.heap.size w s body (pre++[x]) yY:=⟨_,out++[(v1,v2)],S1,S2,S3,S4,aHC,by rw[List.length_append,List.length_append,Vi];rfl,λh=>absurd h aCJ,λl hl=>by
       obtain⟨r,x9,rfl,rfl,_,_⟩:=CI l hl;have ht:l.take (pre++[x]).length=l.take pre.length++[r]:=by
        rw[List.length_append,List.length_singleton,List.take_add_one,x9];rfl
       rw[ht,<-Y8 l hl],K1.trans (Ai.below (B:=w.heap.size) (by omega) (λi h=>by have:=uM h;omega))⟩
     have Yk:W.heap.size<=yY.heap.size:=by have:=Ai.size;omega
     push_cast -dsimp;exact⟨Yk,hz,Hp⟩
    have tK:∀l,¬dY s l:=λl hl=>by
     obtain⟨r,_,_,_,h1,h2⟩:=CI l hl;exact YV ⟨h1,h2⟩
    have fin:∀(yY:World),aN yY w.heap.size 139 [.slice none 0 0]->aN yY (w.heap.size+1) 34 [.iface 74 (.int .i64 3)]->Kept (λk=>k=w.heap.size\/k=w.heap.size+1) Vq yY->W.heap.size<=yY.heap.size/\(∀k,(k=w.heap.size+4\/k=w.heap.size+4+1\/k=w.heap.size+4+2)\/k=w7.heap.size\/k=w7.heap.size+1->yY.heap[k]?=W.heap[k]?)/\Rm w.heap.size w s body .ret (pre++[x]) yY:=λyY h1 h2 hk =>
     ⟨by have:=hk.size;omega,λk h=>(hk.block k (by omega) (by omega)).trans (qz.block k (by omega) (λh=>h)),.inl ⟨rfl,h1,h2,tK,K1.trans (hk.below (by omega) (λi h=>by omega))⟩⟩
    rcases he1 with rfl|⟨t1,x1,rfl⟩
    ·rcases he2 with rfl|⟨t2,x2,rfl⟩
     ·exact absurd ⟨rfl,rfl⟩ YV
     push_cast -dsimp;refine aC Q1 (by simp) rfl ?_;intro VO kT;have T2:=Q2.kept kT.kept (by omega);have T1:aN VO w.heap.size 139 [.slice none 0 0]:=kT.aL;push_cast -dsimp;refine aC T2 (by simp) rfl ?_;intro VQ uW;have U1:=T1.kept uW.kept (by omega);have l9:=fin VQ U1 uW.aL ((kT.kept.weaken (λi _ h=>.inl h)).trans uW.kept (λi _ h=>.inr h));push_cast -dsimp;exact l9
    push_cast -dsimp;refine aC Q1 (by simp) rfl ?_;intro VO kT;have T2:=Q2.kept kT.kept (by omega);have T1:aN VO w.heap.size 139 [.slice none 0 0]:=kT.aL;push_cast -dsimp;refine aC T2 (by simp) rfl ?_;intro VQ uW;have U1:=T1.kept uW.kept (by omega);have l9:=fin VQ U1 uW.aL ((kT.kept.weaken (λi _ h=>.inl h)).trans uW.kept (λi _ h=>.inr h));push_cast -dsimp;exact l9
   | false =>
    have TG:∀l,dY s l->∃r,l[pre.length]?=some r/\0<=r.1/\r.1<=r.2/\r.2<=1114111/\a=iJ r.1.toNat/\a=iJ r.2.toNat:=λl hl=>by
     obtain⟨hr,jf⟩:=AV l hl;obtain⟨r,x9,Vj,rZ,hr3,hr4⟩:=zY hr jf aCJ hA;rw[Vj]at lZ;by_cases aq:r.1<r.2
     ·rw[NZ (by omega) (by omega) (by omega) aq]at lZ;cases (Prod.mk.inj (Prod.mk.inj lZ).2).2
     rw[Gm (by omega) (by omega) aq]at lZ;have e2:r.2=r.1:=by omega
     exact⟨r,x9,rZ,hr3,hr4,(Prod.mk.inj lZ).1.symm,by rw[e2];exact(Prod.mk.inj lZ).1.symm⟩
    push_cast -dsimp;refine aA (qP 32 (.inl rfl) a (by omega) w8 (he.below (JM.trans (j5.mono VY)))) ?_;rintro _ w9 ⟨⟨v1,e1,rfl,he1,Em⟩,pd⟩;push_cast -dsimp;refine aA (qP 32 (.inl rfl) a (by omega) w9 (he.below (JM.trans ((j5.tr pd).mono VY)))) ?_;rintro _ Vq ⟨⟨v2,e2,rfl,he2,wE⟩,Sv⟩;have lT:=(j5.tr pd).tr Sv;have Q1:=P1.below lT (by omega);have Q2:=P2.below lT (by omega);have Q3:=P3.below lT (by omega);have Q4:=P4.below lT (by omega);have hoq:=ho.below lT;have K1:=JM.trans (lT.mono VY);have hWq:=lT.size;have qz:Kept (λ_=>False) W Vq:=Kept.aQ lT (λi h1 h2=>by omega);have CI:∀l,dY s l->∃r,l[pre.length]?=some r/\v1=r.1/\v2=r.2/\e1=.nilIface/\e2=.nilIface:=λl hl=>by
     obtain⟨r,x9,rZ,hr3,hr4,Mg,ha2⟩:=TG l hl;have h1:=Em _ (by omega) Mg;have h2:=wE _ (by omega) ha2;exact⟨r,x9,by rw[h1.1];omega,by rw[h2.1];omega,h1.2,h2.2⟩
    by_cases YV:e1=.nilIface/\e2=.nilIface
    ·obtain⟨rfl,rfl⟩:=YV;have cv:Vq.cell? ⟨w.heap.size+3,0,none⟩=some v:=Q4.cell rfl;have eN:=hoq.slice;obtain⟨oa,oc,rfl⟩:=eN;push_cast -dsimp[cv];refine cF fe rfl rfl (by omega) ?_;intro VO kT;have aM5:=kT.size;have Kl:=hoq.new kT;have R4:=Q4.below kT.below (by omega);push_cast -dsimp;refine aP (base:=w.heap.size+9) [(v1,v2)] (enc:=bF) fe Kl (by rfl) (λj u hu=>by simpa[bF] using kT.cell hu) jC (by simp only[List.length_cons,List.length_nil];omega) (by omega) ?_;intro v12 VQ Ny aHi aQC;have kg:Kept (λj=>(Value.slice oa out.length oc).ownBlock=some j) VO VQ:=Kept.grown aHi (λ_ h=>h);have gj:=Kl.block;have R5:aN VQ (w.heap.size+3) 139 [.slice oa out.length oc]:=R4.kept kg (λh=>by have:=(gj _ h).1;omega);push_cast -dsimp;have eN:=Ny.slice;obtain⟨va,vc,rfl⟩:=eN;refine aC R5 (by simp) rfl ?_;intro yY OE;have Ai:Kept (λj=>j=w.heap.size+3\/(Value.slice oa out.length oc).ownBlock=some j) Vq yY:=((Kept.new (X:=λj=>j=w.heap.size+3\/(Value.slice oa out.length oc).ownBlock=some j) kT).trans kg (λ_ _ h=>.inr h)).trans OE.kept (λ_ _ h=>.inl h);have uM:∀{k:Nat},k=w.heap.size+3\/(Value.slice oa out.length oc).ownBlock=some k->w.heap.size+9<=k\/k=w.heap.size+3:=λh=>by
      rcases h with h|h
      ·exact .inr h
      exact .inl (gj _ h).1
     have S1:=Q1.kept Ai (λh=>by have:=uM h;omega);have S2:=Q2.kept Ai (λh=>by have:=uM h;omega);have S3:=Q3.kept Ai (λh=>by have:=uM h;omega);have S4:aN yY (w.heap.size+3) 139 [.slice va (out++[(v1,v2)]).length vc]:=OE.aL;have aHC:=Ny.aH OE.kept (λg hg h=>by have:=(Ny.block g hg).1;omega);have hz:∀k,(k=w.heap.size+4\/k=w.heap.size+4+1\/k=w.heap.size+4+2)\/k=w7.heap.size\/k=w7.heap.size+1->yY.heap[k]?=W.heap[k]?:=λk hk =>
      (Ai.block k (by omega) (λh=>by have:=uM h;omega)).trans (qz.block k (by omega) (λh=>h))
     have Hp:Mv w.heap.size w s body (pre++[x]) yY:=⟨_,out++[(v1,v2)],S1,S2,S3,S4,aHC,by rw[List.length_append,List.length_append,Vi];rfl,λh=>absurd h aCJ,λl hl=>by
       obtain⟨r,x9,rfl,rfl,_,_⟩:=CI l hl;have ht:l.take (pre++[x]).length=l.take pre.length++[r]:=by
        rw[List.length_append,List.length_singleton,List.take_add_one,x9];rfl
       rw[ht,<-Y8 l hl],K1.trans (Ai.below (B:=w.heap.size) (by omega) (λi h=>by have:=uM h;omega))⟩
     have Yk:W.heap.size<=yY.heap.size:=by have:=Ai.size;omega
     push_cast -dsimp;exact⟨Yk,hz,Hp⟩
    have tK:∀l,¬dY s l:=λl hl=>by
     obtain⟨r,_,_,_,h1,h2⟩:=CI l hl;exact YV ⟨h1,h2⟩
    have fin:∀(yY:World),aN yY w.heap.size 139 [.slice none 0 0]->aN yY (w.heap.size+1) 34 [.iface 74 (.int .i64 3)]->Kept (λk=>k=w.heap.size\/k=w.heap.size+1) Vq yY->W.heap.size<=yY.heap.size/\(∀k,(k=w.heap.size+4\/k=w.heap.size+4+1\/k=w.heap.size+4+2)\/k=w7.heap.size\/k=w7.heap.size+1->yY.heap[k]?=W.heap[k]?)/\Rm w.heap.size w s body .ret (pre++[x]) yY:=λyY h1 h2 hk =>
     ⟨by have:=hk.size;omega,λk h=>(hk.block k (by omega) (by omega)).trans (qz.block k (by omega) (λh=>h)),.inl ⟨rfl,h1,h2,tK,K1.trans (hk.below (by omega) (λi h=>by omega))⟩⟩
    rcases he1 with rfl|⟨t1,x1,rfl⟩
    ·rcases he2 with rfl|⟨t2,x2,rfl⟩
     ·exact absurd ⟨rfl,rfl⟩ YV
     push_cast -dsimp;refine aC Q1 (by simp) rfl ?_;intro VO kT;have T2:=Q2.kept kT.kept (by omega);have T1:aN VO w.heap.size 139 [.slice none 0 0]:=kT.aL;push_cast -dsimp;refine aC T2 (by simp) rfl ?_;intro VQ uW;have U1:=T1.kept uW.kept (by omega);have l9:=fin VQ U1 uW.aL ((kT.kept.weaken (λi _ h=>.inl h)).trans uW.kept (λi _ h=>.inr h));push_cast -dsimp;exact l9
    push_cast -dsimp;refine aC Q1 (by simp) rfl ?_;intro VO kT;have T2:=Q2.kept kT.kept (by omega);have T1:aN VO w.heap.size 139 [.slice none 0 0]:=kT.aL;push_cast -dsimp;refine aC T2 (by simp) rfl ?_;intro VQ uW;have U1:=T1.kept uW.kept (by omega);have l9:=fin VQ U1 uW.aL ((kT.kept.weaken (λi _ h=>.inl h)).trans uW.kept (λi _ h=>.inr h));push_cast -dsimp;exact l9
  ·intro xs W hS hI hD;obtain⟨v,out,P1,P2,P3,P4,ho,Vi,fq,Y8,JM⟩:=hI;have hxl:xs.length<=body.length+1:=by rw[hS];exact uq 32 body
   have jV:∀l,dY s l->out=l:=λl hl=>by
    have jf:body=mE l:=by rw[<-td];exact(so hl).2.2
    by_cases hb0:body=[]
    ·rw[fq hb0,xg (jf.symm.trans hb0)]
    have iC:xs=l.map tS:=by rw[hS,jf];exact ur hl.1 (by rw[<-jf];exact hb0)
    rw[Y8 l hl,iC,List.length_map,List.take_length]
   have hoL:out.length<10000000:=by omega
   push_cast -dsimp;refine nW (ro:=none) (by rfl) ?_;have c7:W.cell? ⟨w.heap.size+3,0,none⟩=some v:=P4.cell rfl;have eN:=ho.slice;obtain⟨va,vc,rfl⟩:=eN;push_cast -dsimp[c7];refine aA (um out (by omega) _ _ W ho.sl) ?_;rintro _ w8 ⟨rfl,j5⟩;have VY:=JM.size;have l4:=P4.lt;have E1:=P1.below j5 (by omega);have E2:=P2.below j5 (by omega);have E4:=P4.below j5 (by omega);have sd:=ho.below j5;have Bo:=JM.trans (j5.mono VY);have hD8:=(j5.block w7.heap.size (Array.getElem?_eq_some_iff.1 hD).1).trans hD;have c8:w8.cell? ⟨w.heap.size+3,0,none⟩=some (.slice va out.length vc):=E4.cell rfl;cases hr:aO (-2) out with
   | false =>
    have tK:∀l,¬dY s l:=λl hl=>by
     have:=jV l hl;subst this;rw[hl.1]at hr;cases hr
    push_cast -dsimp;refine aC E1 (by simp) rfl ?_;intro wa eB;have Vp:wa.heap.size=w8.heap.size:=eB.size;have Ta:aN wa w.heap.size 139 [.slice none 0 0]:=eB.aL;have Tb:=E2.kept eB.kept (by omega);have JR:=eB.kept;have Ng:=(JR.block w7.heap.size (by have:=(Array.getElem?_eq_some_iff.1 hD8).1;omega) (by omega)).trans hD8;have xZ:=Bo.trans (JR.below (B:=w.heap.size) (by have:=Bo.size;omega) (λi h=>by omega));push_cast -dsimp;refine aC Tb (by simp) rfl ?_;intro wb cH;have PD:wb.heap.size=wa.heap.size:=cH.size;have Ub:=Ta.kept cH.kept (by omega);have Ef:=cH.kept;have YA:=(Ef.block w7.heap.size (by have:=(Array.getElem?_eq_some_iff.1 Ng).1;omega) (by omega)).trans Ng;have jf:=xZ.trans (Ef.below (B:=w.heap.size) (by have:=xZ.size;omega) (λi h=>by omega));push_cast -dsimp;exact kV es7 Ub cH.aL YA jf (.inr ⟨tK,rfl⟩) (by rfl) (by rfl)
   | true =>
    push_cast -dsimp[c8];refine aA (Qz out (by omega) (Dn (a := -2) (by omega) hr) _ _ w8 sd.sl (hd.below Bo hd.lt)) ?_;rintro _ w9 ⟨rfl,pd⟩;have l48:=E4.lt;have E19:=E1.below pd (by have:=j5.size;omega);have E29:=E2.below pd (by have:=j5.size;omega);have E49:=E4.below pd (by have:=j5.size;omega);have AU:=sd.below pd;have Nr:=Bo.trans (pd.mono Bo.size);have hD9:=(pd.block w7.heap.size (Array.getElem?_eq_some_iff.1 hD8).1).trans hD8;have c9:w9.cell? ⟨w.heap.size+3,0,none⟩=some (.slice va out.length vc):=E49.cell rfl;push_cast -dsimp;refine⟨λcf=>?_,λheq=>?_⟩
    ·have tK:∀l,¬dY s l:=λl hl=>by
      have:=jV l hl;subst this;exact cf hl.2
     refine aC E19 (by simp) rfl ?_;intro wa eB;have Vp:wa.heap.size=w9.heap.size:=eB.size;have Ta:aN wa w.heap.size 139 [.slice none 0 0]:=eB.aL;have Tb:=E29.kept eB.kept (by omega);have JR:=eB.kept;have Ng:=(JR.block w7.heap.size (by have:=(Array.getElem?_eq_some_iff.1 hD9).1;omega) (by omega)).trans hD9;have xZ:=Nr.trans (JR.below (B:=w.heap.size) (by have:=Nr.size;omega) (λi h=>by omega));push_cast -dsimp;refine aC Tb (by simp) rfl ?_;intro wb cH;have PD:wb.heap.size=wa.heap.size:=cH.size;have Ub:=Ta.kept cH.kept (by omega);have Ef:=cH.kept;have YA:=(Ef.block w7.heap.size (by have:=(Array.getElem?_eq_some_iff.1 Ng).1;omega) (by omega)).trans Ng;have jf:=xZ.trans (Ef.below (B:=w.heap.size) (by have:=xZ.size;omega) (λi h=>by omega));push_cast -dsimp;exact kV es7 Ub cH.aL YA jf (.inr ⟨tK,rfl⟩) (by rfl) (by rfl)
    refine nW (ro:=none) (by rfl) ?_;push_cast -dsimp[c9];refine aC E19 (by simp) rfl ?_;intro wa eB;have Vp:wa.heap.size=w9.heap.size:=eB.size;have JR:=eB.kept;have l49:=E49.lt;have Ta:aN wa w.heap.size 139 [.slice va out.length vc]:=eB.aL;have Tb:=E29.kept eB.kept (by omega);have hoa:=AU.aH eB.kept (λg hg h=>by have:=(AU.block g hg).1;omega);have lD:=(Array.getElem?_eq_some_iff.1 hD9).1;have Ng:=(JR.block w7.heap.size (by omega) (by omega)).trans hD9;have xZ:=Nr.trans (JR.below (B:=w.heap.size) (by omega) (λi h=>by omega));push_cast -dsimp;refine aC Tb (by simp) rfl ?_;intro wb cH;have PD:wb.heap.size=wa.heap.size:=cH.size;have Ef:=cH.kept;have Ub:=Ta.kept cH.kept (by omega);have Y5:=hoa.aH cH.kept (λg hg h=>by have:=(hoa.block g hg).1;omega);have YA:=(Ef.block w7.heap.size (by omega) (by omega)).trans Ng;have jf:=xZ.trans (Ef.below (B:=w.heap.size) (by omega) (λi h=>by omega));have qt:=Y5.aH (Aj (X:=λk=>k=w7.heap.size) wb w7.heap.size (.deferred none) rfl) (λg hg h=>by have:=(Y5.block g hg).1;omega);push_cast -dsimp;refine wpIn_ret ?_;exact kV es7 Ub cH.aL YA jf (.inl ⟨_,out,rfl,qt.mono (by omega),hr,Classical.not_not.1 heq⟩) (by rfl) (by rfl)
  intro c pre W hSp hX hD;rcases hX with ⟨rfl,h1,h2,tK,hb⟩|⟨rfl,uL,hI⟩
  ·refine wpIn_ret ?_;push_cast -dsimp;exact kV es7 h1 h2 hD hb (.inr ⟨tK,rfl⟩) (by rfl) (by rfl)
  obtain⟨v,out,P1,P2,P3,P4,ho,Vi,fq,Y8,JM⟩:=hI;have jV:∀l,dY s l->out=l:=λl hl=>by
   have jf:body=mE l:=by rw[<-td];exact(so hl).2.2
   rw[fq uL,xg (jf.symm.trans uL)]
  have hoL:out.length<10000000:=by rw[fq uL];decide
  refine wpIn_exit ?_;push_cast -dsimp;refine nW (ro:=none) (by rfl) ?_;have c7:W.cell? ⟨w.heap.size+3,0,none⟩=some v:=P4.cell rfl;have eN:=ho.slice;obtain⟨va,vc,rfl⟩:=eN;push_cast -dsimp[c7];refine aA (um out (by omega) _ _ W ho.sl) ?_;rintro _ w8 ⟨rfl,j5⟩;have VY:=JM.size;have l4:=P4.lt;have E1:=P1.below j5 (by omega);have E2:=P2.below j5 (by omega);have E4:=P4.below j5 (by omega);have sd:=ho.below j5;have Bo:=JM.trans (j5.mono VY);have hD8:=(j5.block w7.heap.size (Array.getElem?_eq_some_iff.1 hD).1).trans hD;have c8:w8.cell? ⟨w.heap.size+3,0,none⟩=some (.slice va out.length vc):=E4.cell rfl;cases hr:aO (-2) out with
  | false =>
   have tK:∀l,¬dY s l:=λl hl=>by
    have:=jV l hl;subst this;rw[hl.1]at hr;cases hr
   push_cast -dsimp;refine aC E1 (by simp) rfl ?_;intro wa eB;have Vp:wa.heap.size=w8.heap.size:=eB.size;have Ta:aN wa w.heap.size 139 [.slice none 0 0]:=eB.aL;have Tb:=E2.kept eB.kept (by omega);have JR:=eB.kept;have Ng:=(JR.block w7.heap.size (by have:=(Array.getElem?_eq_some_iff.1 hD8).1;omega) (by omega)).trans hD8;have xZ:=Bo.trans (JR.below (B:=w.heap.size) (by have:=Bo.size;omega) (λi h=>by omega));push_cast -dsimp;refine aC Tb (by simp) rfl ?_;intro wb cH;have PD:wb.heap.size=wa.heap.size:=cH.size;have Ub:=Ta.kept cH.kept (by omega);have Ef:=cH.kept;have YA:=(Ef.block w7.heap.size (by have:=(Array.getElem?_eq_some_iff.1 Ng).1;omega) (by omega)).trans Ng;have jf:=xZ.trans (Ef.below (B:=w.heap.size) (by have:=xZ.size;omega) (λi h=>by omega));push_cast -dsimp;exact kV es7 Ub cH.aL YA jf (.inr ⟨tK,rfl⟩) (by rfl) (by rfl)
  | true =>
   push_cast -dsimp[c8];refine aA (Qz out (by omega) (Dn (a := -2) (by omega) hr) _ _ w8 sd.sl (hd.below Bo hd.lt)) ?_;rintro _ w9 ⟨rfl,pd⟩;have l48:=E4.lt;have E19:=E1.below pd (by have:=j5.size;omega);have E29:=E2.below pd (by have:=j5.size;omega);have E49:=E4.below pd (by have:=j5.size;omega);have AU:=sd.below pd;have Nr:=Bo.trans (pd.mono Bo.size);have hD9:=(pd.block w7.heap.size (Array.getElem?_eq_some_iff.1 hD8).1).trans hD8;have c9:w9.cell? ⟨w.heap.size+3,0,none⟩=some (.slice va out.length vc):=E49.cell rfl;push_cast -dsimp;refine⟨λcf=>?_,λheq=>?_⟩
   ·have tK:∀l,¬dY s l:=λl hl=>by
     have:=jV l hl;subst this;exact cf hl.2
    refine aC E19 (by simp) rfl ?_;intro wa eB;have Vp:wa.heap.size=w9.heap.size:=eB.size;have Ta:aN wa w.heap.size 139 [.slice none 0 0]:=eB.aL;have Tb:=E29.kept eB.kept (by omega);have JR:=eB.kept;have Ng:=(JR.block w7.heap.size (by have:=(Array.getElem?_eq_some_iff.1 hD9).1;omega) (by omega)).trans hD9;have xZ:=Nr.trans (JR.below (B:=w.heap.size) (by have:=Nr.size;omega) (λi h=>by omega));push_cast -dsimp;refine aC Tb (by simp) rfl ?_;intro wb cH;have PD:wb.heap.size=wa.heap.size:=cH.size;have Ub:=Ta.kept cH.kept (by omega);have Ef:=cH.kept;have YA:=(Ef.block w7.heap.size (by have:=(Array.getElem?_eq_some_iff.1 Ng).1;omega) (by omega)).trans Ng;have jf:=xZ.trans (Ef.below (B:=w.heap.size) (by have:=xZ.size;omega) (λi h=>by omega));push_cast -dsimp;exact kV es7 Ub cH.aL YA jf (.inr ⟨tK,rfl⟩) (by rfl) (by rfl)
   refine nW (ro:=none) (by rfl) ?_;push_cast -dsimp[c9];refine aC E19 (by simp) rfl ?_;intro wa eB;have Vp:wa.heap.size=w9.heap.size:=eB.size;have JR:=eB.kept;have l49:=E49.lt;have Ta:aN wa w.heap.size 139 [.slice va out.length vc]:=eB.aL;have Tb:=E29.kept eB.kept (by omega);have hoa:=AU.aH eB.kept (λg hg h=>by have:=(AU.block g hg).1;omega);have lD:=(Array.getElem?_eq_some_iff.1 hD9).1;have Ng:=(JR.block w7.heap.size (by omega) (by omega)).trans hD9;have xZ:=Nr.trans (JR.below (B:=w.heap.size) (by omega) (λi h=>by omega));push_cast -dsimp;refine aC Tb (by simp) rfl ?_;intro wb cH;have PD:wb.heap.size=wa.heap.size:=cH.size;have Ef:=cH.kept;have Ub:=Ta.kept cH.kept (by omega);have Y5:=hoa.aH cH.kept (λg hg h=>by have:=(hoa.block g hg).1;omega);have YA:=(Ef.block w7.heap.size (by omega) (by omega)).trans Ng;have jf:=xZ.trans (Ef.below (B:=w.heap.size) (by omega) (λi h=>by omega));have qt:=Y5.aH (Aj (X:=λk=>k=w7.heap.size) wb w7.heap.size (.deferred none) rfl) (λg hg h=>by have:=(Y5.block g hg).1;omega);push_cast -dsimp;refine wpIn_ret ?_;exact kV es7 Ub cH.aL YA jf (.inl ⟨_,out,rfl,qt.mono (by omega),hr,Classical.not_not.1 heq⟩) (by rfl) (by rfl)
end Go.Proofs.YtemjejfpadnljaaGreatDoor
namespace Go.Vc
open Go.RowKit
section
variable {P:Program} {t:Fr} {w:World} {K:VK} {Q:EP}
def Az (P:Program)(f:FuncId)(args:List Value)(w:World)(R:VK)(E:List PanicEntry->World->Prop):Prop :=
 (callFunc f args.toArray).run P w=.ok (.enter f args.toArray) w/\Calls P f args.toArray w λe w'=>match e with
  | .returned v=>R v w'
  | .panicked c=>E c w'
  | .outgrown=>False
theorem aF {f:FuncId}{args:List Value}{R:VK}{E:List PanicEntry->World->Prop}{p}(h:Az P f args w R E)(k:∀v w',R v w'->K v w')(ke:∀c w',E c w'->Q (.panic c) t w'):ae P f args t w K Q p:=by
 unfold ae;rw[h.1];exact h.2.mono λe w' he=>by cases e<;>first|exact k _ _ he|exact ke _ _ he|exact he.elim
def aAk (P:Program)(rs:List ResultVar)(R:VK)(E:List PanicEntry->World->Prop)(_:Ph (R,E)):EP
 | .normal,t,w=>qR P t w rs λvs=>R (A6 vs) w
 | .ret,t,w=>qR P t w rs λvs=>R (A6 vs) w
 | .panic c,_,w=>E c w
 | _,_,_=>False
variable {R:VK} {E:List PanicEntry->World->Prop}
theorem Li (rs)(p):aAk P rs R E p .normal t w=qR P t w rs λvs=>R (A6 vs) w:=(rfl)
theorem aAl (rs)(p):aAk P rs R E p .ret t w=qR P t w rs λvs=>R (A6 vs) w:=(rfl)
theorem Oe (rs)(c)(p):aAk P rs R E p (.panic c) t w=E c w:=(rfl)
theorem bR {f:FuncId}{fn:Func}{c:Code}{args:List Value}(hf:P.funcs[f]?=some fn)(hb:fn.body=some c)(hn:(fn.name == "runtime.NumGoroutine")=false)
  (rs:List ResultVar) (iW:fn.results=rs.toArray) (h:vc P c (aAk P rs R E .mk) (yj args fn.ntmps) w .mk):Az P f args w R E:=by
 refine⟨cC hf (by simp[hb]) hn,calls_of_wp hf hb ?_⟩;have h1:=tq c _ _ w h;unfold dN at h1;have e:(args.toArray++Array.replicate (fn.ntmps-args.toArray.size) undef)=(yj args fn.ntmps).toArray:=by simp[yj]
 rw[e];refine Code.wp_mono ?_ h1;rintro e a w' ⟨hd,hh⟩;have ha:a.tmps.toList.toArray=a.tmps:=by simp
 cases e<;>simp only[aAk]at hh<;>first|exact hh.elim|skip
 ·obtain⟨vs,hv,hk⟩:=dI fn rs iW _ _ hh;exact⟨hd,_,by rw[<-ha];exact hv,hk⟩
 ·obtain⟨vs,hv,hk⟩:=dI fn rs iW _ _ hh;exact⟨hd,_,by rw[<-ha];exact hv,hk⟩
 exact⟨hd,hh⟩
theorem Zo {ty:TypeId}{v:Value}{p}(k:Q (.panic [{ v:=.iface ty v,recovered:=false }]) t w):ak P (Instr.panic (.iface ty v)) t w K Q p:=by
 unfold ak;have:((do pure (Next.value (<-Instr.panic (.iface ty v))):Sem Next).run P w)=.halt (.panic (.iface ty v)) w:=rfl;rw[this];exact k
end
attribute [push_cast] Li aAl Oe DY vO
section
variable {P:Program} {ops:Array Oper} {m:Nat} {E:List PanicEntry->World->Prop} {w:World}
def eV (P:Program)(ops:Array Oper)(w:World)(i:Nat)(K:Act->Prop)(a:Act):Prop :=
 match ops[i]? with
 | none=>K a
 | some o=>if Region.wanted o (yielded ops a.tmps) then ∃v,(execOp a.eval o).run P w=.ok (.value v) w/\K (a.put o.dst v) else K (a.put o.dst undef)
def rI (P:Program)(ops:Array Oper)(w:World)(m:Nat)(E:List PanicEntry->World->Prop)(a:Act):Prop :=
 a.defers=[]/\∃o,ops[m]?=some o/\Region.wanted o (yielded ops a.tmps)=true/\∃f args w',(execOp a.eval o).run P w=.ok (.enter f args) w'/\Calls P f args w' λe bQ=>∃c,e=.panicked c/\E c bQ
def wpB (P:Program)(ops:Array Oper)(w:World)(m:Nat)(E:List PanicEntry->World->Prop):Nat->Array Bool->Act->Prop
 | 0,_,_=>False
 | n+1,listed,a=>Region.ready .any ops listed≠[]/\∀i∈Region.ready .any ops listed,if i=m then rI P ops w m E a else eV P ops w i (wpB P ops w m E n (listed.setIfInBounds i true)) a
theorem qQ {i:Nat}{K K':Act->Prop}{a:Act}(hk:∀a,K a->K' a)(h:eV P ops w i K a):eV P ops w i K' a:=by
 unfold eV at *
 split
 ·rename_i ho;simp only[ho]at h;exact hk _ h
 rename_i o ho;simp only[ho]at h;split
 ·rename_i hw;simp only[hw,if_true]at h;obtain⟨v,h1,h2⟩:=h;exact⟨v,h1,hk _ h2⟩
 rename_i hw;simp only[hw]at h;exact hk _ h
theorem put_defers (a:Act)(d:Option Tmp)(v:Value):(a.put d v).defers=a.defers:=by cases d<;>rfl
theorem Ie {i j:Nat}{oi oj:Oper}{K:Act->Prop}{a:Act}(hi:ops[i]?=some oi)(hj:ops[j]?=some oj)(uK:oi.apart ops oj=true)
  (hsi:∀cs b,oi.op≠.select cs b) (hsj:∀cs b,oj.op≠.select cs b) (h:eV P ops w i (eV P ops w j K) a):eV P ops w j (eV P ops w i K) a:=by
 obtain⟨h1,h2,h3⟩:=Oper.apart_spec uK;have ej:∀(b:Act) (v:Value),execOp (b.put oi.dst v).eval oj=execOp b.eval oj:=λb v=>execOp_put oj hsj b oi.dst v h1;have ei:∀(b:Act) (v:Value),execOp (b.put oj.dst v).eval oi=execOp b.eval oi:=λb v=>execOp_put oi hsi b oj.dst v h3;have wj:∀(b:Act) (v:Value),Region.wanted oj (yielded ops (b.put oi.dst v).tmps)=Region.wanted oj (yielded ops b.tmps):=λb v=>wanted_put oj b oi.dst v h1;have wi:∀(b:Act) (v:Value),Region.wanted oi (yielded ops (b.put oj.dst v).tmps)=Region.wanted oi (yielded ops b.tmps):=λb v=>wanted_put oi b oj.dst v h3;have cm:∀(b:Act) (v u:Value),(b.put oi.dst v).put oj.dst u=(b.put oj.dst u).put oi.dst v:=λb v u=>Act.put_comm b v u h2;unfold eV at h ⊢
 simp only[hi,hj,ej,ei,wj,wi]at h ⊢
 cases gu:Region.wanted oi (yielded ops a.tmps)<;>cases gF:Region.wanted oj (yielded ops a.tmps)<;>simp only[gu,gF,Bool.false_eq_true,if_true,if_false]at h ⊢
 ·rw[<-cm];exact h
 ·obtain⟨v,hv,hk⟩:=h;exact⟨v,hv,by rw[<-cm];exact hk⟩
 ·obtain⟨v,hv,hk⟩:=h;exact⟨v,hv,by rw[<-cm];exact hk⟩
 obtain⟨v,hv,u,hu,hk⟩:=h;exact⟨u,hu,v,hv,by rw[<-cm];exact hk⟩
theorem J8 {i:Nat}{oi om:Oper}{a:Act}(hi:ops[i]?=some oi)(hj:ops[m]?=some om)(uK:oi.apart ops om=true)(hsj:∀cs b,om.op≠.select cs b)(h:eV P ops w i (rI P ops w m E) a):rI P ops w m E a:=by
 obtain⟨h1,h2,h3⟩:=Oper.apart_spec uK;have key:∀v,rI P ops w m E (a.put oi.dst v)->rI P ops w m E a:=λv ⟨hd,o,ho,hw,f,args,w',hr,hc⟩=>by
  rw[hj]at ho;cases ho;refine⟨by rw[<-put_defers a oi.dst v];exact hd,om,hj,by rw[<-wanted_put om a oi.dst v h1];exact hw,f,args,w',by rw[<-execOp_put om hsj a oi.dst v h1];exact hr,hc⟩
 unfold eV at h;simp only[hi]at h;split at h
 ·obtain⟨v,_,hk⟩:=h;exact key v hk
 exact key _ h
theorem VR {i:Nat}{oi:Oper}(hi:ops[i]?=some oi)(him:i≠m)(qD:∀(j:Nat) (o:Oper) cs b,ops[j]?=some o->o.op≠.select cs b) :
  ∀(fuel:Nat) (listed:Array Bool) (a:Act),qk ops listed ->
   (∀j oj,ops[j]?=some oj->j≠i->listed.getD j true=false->((Region.before ops).getD j 0).testBit i=false->oi.apart ops oj=true) ->
   i∈Region.ready .any ops listed->eV P ops w i (wpB P ops w m E fuel (listed.setIfInBounds i true)) a->wpB P ops w m E (fuel+1) listed a:=by
 intro fuel;induction fuel with
 | zero =>
  intro listed a _ _ hr H;exfalso;unfold eV at H;simp only[hi]at H;split at H
  ·obtain⟨v,_,hk⟩:=H;exact hk
  exact H
 | succ fuel ih =>
  intro listed a hS mG hr H;refine⟨λh=>(by rw[h]at hr;cases hr),λj hj=>?_⟩;by_cases oA:j=i
  ·subst oA;rw[if_neg him];exact H
  obtain⟨vv,oj,rX,cg⟩:=mem_ready.1 hj;have Hr:listed.getD i false=false:=by
   have h0:=(mem_ready.1 hr).1;rcases Nat.lt_or_ge i listed.size with h'|h'
   ·simp[h']at h0 ⊢;exact h0
   simp[Array.getElem?_eq_none h']
  have CA:((Region.before ops).getD j 0).testBit i=false:=by
   cases hb:((Region.before ops).getD j 0).testBit i with
   | false=>rfl
   | true=>have:=hS.before j i oj rX cg hb;rw[Hr]at this;cases this
  have uK:=mG j oj rX oA vv CA;have h1:eV P ops w i (λa=>if j=m then rI P ops w m E a else eV P ops w j (wpB P ops w m E fuel ((listed.setIfInBounds i true).setIfInBounds j true)) a) a :=
   qQ (λa' hh=>hh.2 j (ready_mono hj oA)) H
  by_cases Ht:j=m
  ·subst Ht;simp only[if_true]at h1 ⊢
   exact J8 hi rX uK (λcs b=>qD j oj cs b rX) h1
  simp only[if_neg Ht]at h1 ⊢
  have h2:=Ie hi rX uK (λcs b=>qD i oi cs b hi) (λcs b=>qD j oj cs b rX) h1;refine qQ (λa' h3=>ih (listed.setIfInBounds j true) a' (hS.set hj) ?_ (ready_mono hr (Ne.symm oA)) ?_) h2
  ·intro k ok hk Ke CG ep;refine mG k ok hk Ke ?_ ep;by_cases Nu:j=k
   ·subst Nu;exact vv
   rw[getD_set_ne true Nu]at CG;exact CG
  rw[Array.setIfInBounds_comm _ _ oA];exact h3
def yO (ops:Array Oper)(bf:Array Nat)(listed:Array Bool)(i:Nat):Bool :=
 match ops[i]? with
 | none=>false
 | some oi=>(List.range ops.size).all λj=>j == i || listed.getD j true || match ops[j]? with
   | some oj=>(bf.getD j 0).testBit i || oi.apart ops oj
   | none=>true
theorem DG {i:Nat}{oi:Oper}{listed:Array Bool}(hi:ops[i]?=some oi)(h:yO ops (Region.before ops) listed i=true)(j:Nat)(oj:Oper)
  (hj:ops[j]?=some oj) (cf:j≠i) (CG:listed.getD j true=false) (ep:((Region.before ops).getD j 0).testBit i=false):oi.apart ops oj=true:=by
 simp only[yO,hi,List.all_eq_true,List.mem_range]at h;have h1:=h j (Array.getElem?_eq_some_iff.1 hj).1;simp only[hj,Bool.or_eq_true,beq_iff_eq,cf,false_or,CG,Bool.false_eq_true,ep]at h1;exact h1
def rH (P:Program)(ops:Array Oper)(bf:Array Nat):Nat->Nat->Array Bool->Bool
 | 0,k,listed=>Region.ready .any ops listed == [k]
 | n+1,k,listed=>(Region.ready .any ops listed).contains k && yO ops bf listed k && rH P ops bf n (k+1) (listed.setIfInBounds k true)
def aEZ (P:Program)(ops:Array Oper)(m:Nat):Bool:=Region.noSelect ops && decide (m<ops.size) && rH P ops (Region.before ops) m 0 (Array.replicate ops.size false)
def vP (P:Program)(ops:Array Oper)(w:World)(m:Nat)(E:List PanicEntry->World->Prop):List Nat->Act->Prop
 | [],a=>rI P ops w m E a
 | i::r,a=>eV P ops w i (vP P ops w m E r) a
theorem Rk (hs:Region.noSelect ops=true):∀(n k f:Nat) (listed:Array Bool) (a:Act),k+n=m->m<ops.size->n<f->qk ops listed ->
  rH P ops (Region.before ops) n k listed=true->vP P ops w m E (List.range' k n) a->wpB P ops w m E f listed a
 | 0,k,f,listed,a,hk,hm,hf,hS,hB,h=>by
  obtain⟨f',rfl⟩:∃f',f=f'+1:=⟨f-1,by omega⟩;have hr:Region.ready .any ops listed=[k]:=by simpa[rH] using hB
  have vB:k=m:=by omega
  refine⟨by rw[hr];simp,λi hi=>?_⟩;rw[hr]at hi;obtain rfl:=List.mem_singleton.1 hi;rw[if_pos vB];exact h
 | n+1,k,f,listed,a,hk,hm,hf,hS,hB,h=>by
  obtain⟨f',rfl⟩:∃f',f=f'+1:=⟨f-1,by omega⟩;simp only[rH,Bool.and_eq_true]at hB;obtain⟨⟨hr,mG⟩,nz⟩:=hB;have aq:k<ops.size:=by omega
  have jh:k∈Region.ready .any ops listed:=by simpa using hr
  refine VR (i:=k) (oi:=ops[k]) (by simp[aq]) (by omega) (Region.noSelect_spec hs) f' listed a hS (DG (by simp[aq]) mG) jh ?_;simp only[List.range'_succ,vP]at h;exact qQ (λa' hh=>Rk hs n (k+1) f' _ a' (by omega) hm (by omega) (hS.set jh) nz hh) h
theorem lK {Q:Exit->Act->World->Prop}(hq:∀c a w',a.defers=[]->E c w'->Q (.panic c) a w'):∀(fuel:Nat) (listed:Array Bool) (a:Act),wpB P ops w m E fuel listed a->wpAny P .any ops Q fuel listed a w
 | 0,_,_,h=>h.elim
 | fuel+1,listed,a,h=>⟨λh0=>absurd h0 h.1,λi hi=>by
   have h1:=h.2 i hi;by_cases him:i=m
   ·subst him;rw[if_pos rfl]at h1;obtain⟨hd,o,ho,hw,f,args,w',hr,hc⟩:=h1;unfold wpOp;simp only[ho,hw,if_true];refine .inl ?_;unfold Oper.wp;rw[hr];unfold Oper.upon;exact hc.mono λe bQ ⟨c,he,hE⟩=>by subst he;exact hq c a bQ hd hE
   rw[if_neg him]at h1;unfold eV at h1;unfold wpOp;split
   ·rename_i ho;simp only[ho]at h1;exact lK hq fuel _ _ h1
   rename_i o ho;simp only[ho]at h1;split
   ·rename_i hw;simp only[hw,if_true]at h1;obtain⟨v,hv,hk⟩:=h1;refine .inl ?_;unfold Oper.wp;rw[hv];exact lK hq fuel _ _ hk
   rename_i hw;simp only[hw]at h1;exact lK hq fuel _ _ h1⟩
def Jc (P:Program)(g:FuncId)(args:List Value)(w:World)(E:List PanicEntry->World->Prop)(_:Ph E):Prop:=(callFunc g args.toArray).run P w=.ok (.enter g args.toArray) w/\Calls P g args.toArray w λe bQ=>∃c,e=.panicked c/\E c bQ
def J7 (P:Program)(o:Oper)(t:Fr)(w:World)(E:List PanicEntry->World->Prop)(_:Ph (o,E)):Prop:=match o.guard,o.op with
 | none,.call { callee:=.value f,args,argTypes:=_ }=>(match ev t f with
  | .func (.func g) first cap=>Jc P g (first.toList++args.toList.map (ev t)++cap.toList) w E .mk
  | _=>False)
 | _,_=>False
def sN (P:Program)(ops:List Oper)(E:List PanicEntry->World->Prop):List Unit->(l:List Oper)->Fr->World->Ph (ops,E,l)->Prop
 | [],o::_,t,w,_=>J7 P o t w E .mk
 | _::n,o::r,t,w,_=>chain P o=false/\match o.guard with
  | none=>eG P o t w (·=w) (λv _=>sN P ops E n r (put t o.dst v) w .mk) .mk
  | some (j,want)=>iq (j0 ops j) want t (λt'=>eG P o t' w (·=w) (λv _=>sN P ops E n r (put t' o.dst v) w .mk) .mk) (λt'=>sN P ops E n r (put t' o.dst undef) w .mk) .mk
 | _,[],_,_,_=>False
theorem ou {g:FuncId}{args:List Value}{R:VK}{E':List PanicEntry->World->Prop}{p}(h:Az P g args w R E')(hR:∀v w',¬R v w')(k:∀c w',E' c w'->E c w'):Jc P g args w E p :=
 ⟨h.1,h.2.mono λe w' he=>by cases e<;>first|exact absurd he (hR _ _)|exact⟨_,rfl,k _ _ he⟩|exact he.elim⟩
theorem pS {ops:List Oper}{i:Nat}{o:Oper}{t:Fr}{K:VK}{N:Act->Prop}(hi:ops[i]?=some o)(hw:Region.wanted o (yielded ops.toArray t.toArray)=true)(hc:chain P o=false)
  (hn:∀v,K v w->N ⟨(put t o.dst v).toArray,[]⟩) (h:eG P o t w (·=w) K .mk):eV P ops.toArray w i N ⟨t.toArray,[]⟩:=by
 unfold eV;simp only[List.getElem?_toArray,hi,hw,if_true,ny];unfold eG at h;split at h
 ·rename_i ty x ho;obtain⟨v,hr,_,hk⟩:=pK ho h;exact⟨v,hr,by rw[put_eq];exact hn _ hk⟩
 ·rename_i x ho;unfold LW at h;split at h
  ·rename_i a hx;refine⟨_,?_,by rw[put_eq];exact hn _ h⟩;unfold execOp;simp only[ho,hx];rfl
  exact h.elim
 simp only[hc,Bool.false_eq_true,if_false]at h;rcases sA h with h|⟨v,hg,hk⟩
 ·exact h.elim
 exact⟨v,hg w,by rw[put_eq];exact hn _ hk⟩
theorem Rs {ops:List Oper}{m:Nat}{o:Oper}{t:Fr}(hi:ops[m]?=some o)(h:J7 P o t w E .mk):rI P ops.toArray w m E ⟨t.toArray,[]⟩:=by
 unfold J7 at h;split at h
 ·rename_i f args nf hg ho;split at h
  ·rename_i g first cap hf
   refine⟨rfl,o,by simpa using hi,by simp[Region.wanted,hg],g,_,w,?_,h.2⟩;rw[ny];unfold execOp;have e:(first.toList++args.toList.map (ev t)++cap.toList).toArray=first++args.map (ev t)++cap:=by apply Array.ext';simp
   have h1:=h.1;rw[e]at h1 ⊢
   simp only[ho,resolve,hf,Deferred.ofValue,Sem.run_bind,Sem.run_pure,Result.andThen_ok,invoke];exact h1
  exact h.elim
 exact h.elim
theorem BN {ops:List Oper}{m:Nat}:∀(n:List Unit) (k:Nat) (l:List Oper) (t:Fr),k+n.length=m->(∀j,l[j]?=ops[k+j]?)->sN P ops E n l t w .mk->vP P ops.toArray w m E (List.range' k n.length) ⟨t.toArray,[]⟩
 | [],k,[],t,hk,hl,h=>h.elim
 | [],k,o::r,t,hk,hl,h=>Rs (by have:=hl 0;simpa[<-hk] using this.symm) h
 | _::n,k,[],t,hk,hl,h=>h.elim
 | _::n,k,o::r,t,hk,hl,h=>by
  have h0:ops[k]?=some o:=by simpa using(hl 0).symm
  have ih:=λt=>BN (m:=m) n (k+1) r t (by rw[List.length_cons]at hk;omega) (λj=>by have:=hl (j+1);simpa[Nat.add_assoc,Nat.add_comm 1 j] using this);simp only[List.length_cons,List.range'_succ,vP];obtain⟨hc,h⟩:=h;split at h
  ·rename_i hg;exact pS h0 (by simp[Region.wanted,hg]) hc (λv hk=>ih _ hk) h
  rename_i j want hg;rcases lS hg h with ⟨hw,hh⟩|⟨hw,hh⟩
  ·exact pS h0 hw hc (λv hk=>ih _ hk) hh
  unfold eV;simp only[List.getElem?_toArray,h0,hw,Bool.false_eq_true,if_false];rw[put_eq];exact ih _ hh
theorem p5 {id:Nat}{l:List Oper}{t:Fr}{Q:EP}{p}(m:List Unit)(hm:P.follows .mixedOrders=true)(hB:aEZ P l.toArray m.length=true)(hq:∀c t w',E c w'->Q (.panic c) t w')
  (h:sN P l E m l t w.drew .mk):dN P (.region id l.toArray true) Q t w p:=by
 unfold dN;simp only[aEZ,Bool.and_eq_true,decide_eq_true_eq]at hB;refine wp_region_any hm ?_;refine lK (E:=E) (m:=m.length) (λc a w' hd hE=>⟨hd,hq c _ w' hE⟩) _ _ _ ?_;exact Rk hB.1.1 m.length 0 _ _ _ (by omega) hB.1.2 hB.1.2 (λj o _ hl=>by simp[Array.getElem?_replicate]at hl;split at hl<;>simp at hl) hB.2 (BN m 0 l t (by omega) (λj=>by simp) h)
theorem MZ (ops)(o:Oper)(r)(p)(t:Fr):sN P ops E [] (o::r) t w p=J7 P o t w E .mk:=(rfl)
theorem JB (ops)(u:Unit)(n)(d op ty pos af r)(p)(t:Fr):sN P ops E (u::n) (⟨d,op,ty,pos,af,none⟩::r) t w p=(chain P ⟨d,op,ty,pos,af,none⟩=false/\eG P ⟨d,op,ty,pos,af,none⟩ t w (·=w) (λv _=>sN P ops E n r (put t d v) w .mk) .mk):=(rfl)
def aKn (P:Program)(f:Value)(args:List Value)(w:World)(E:List PanicEntry->World->Prop)(_:Ph E):Prop:=match f with
 | .func (.func g) first cap=>Jc P g (first.toList++args++cap.toList) w E .mk
 | _=>False
theorem NM (d f)(args:List Operand)(nf ty pos af)(p)(t:Fr):J7 P ⟨d,.call { callee:=.value f,args:=args.toArray,argTypes:=nf },ty,pos,af,none⟩ t w E p=aKn P (ev t f) (args.map (ev t)) w E .mk:=(rfl)
theorem Sd (g:FuncId)(args:List Value)(p):aKn P (.func (.func g) #[] #[]) args w E p=Jc P g args w E .mk:=by
 show Jc P g (#[].toList++args++#[].toList) w E .mk=_
 simp
end
section
variable {P:Program}
theorem aBW (d x ty pos af g):chain P ⟨d,.move x,ty,pos,af,g⟩=false:=(rfl)
theorem Ru (d x ty pos af g):chain P ⟨d,.assign x,ty,pos,af,g⟩=false:=(rfl)
theorem aGf (d x ty pos af g):chain P ⟨d,.nilCheck x,ty,pos,af,g⟩=false:=(rfl)
theorem aBV (d t x ty pos af g):chain P ⟨d,.load t x,ty,pos,af,g⟩=false:=(rfl)
theorem Gi (d t x f ty pos af g):chain P ⟨d,.fieldAddr t x f,ty,pos,af,g⟩=false:=(rfl)
end
attribute [push_cast] NM Sd MZ JB aBW Ru aGf aBV Gi
end Go.Vc
namespace Go.Proofs.YtemjejfpadnljaaGreatDoor
open Go.Vc Go.Proofs Go.RowKit Cae
attribute [local irreducible] dN ae ak aY runK aw Sl Vc.Own vc aV cJ a7
theorem VD:(Tryz.prog.underlying 97).isSome=true:=by kernel_rfl
attribute [push_cast] VD
def jn (t:Tok):List Value:=[.int .i64 t.kind,str t.text,.int .i64 t.pos]
structure TL (l:List Tok):Prop where
 last:∃i e,l=i++[e]/\e.kind=5
 txt:∀t∈l,t.text.length<=1000000
 len:l.length<=900
 num:∀t∈l,t.kind=2->t.text≠[]/\∀c∈t.text,e9 c=true
theorem TL.cons {l:List Tok}(h:TL l):∃t r,l=t::r:=by
 obtain⟨i,e,rfl,_⟩:=h.last;cases i with
 | nil=>exact⟨e,[],rfl⟩
 | cons x i=>exact⟨x,i++[e],rfl⟩
theorem TL.tail {t:Tok}{r:List Tok}(h:TL (t::r))(h5:t.kind≠5):TL r:=by
 obtain⟨i,e,he,VT⟩:=h.last;refine⟨?_,λx hx=>h.txt x (List.mem_cons_of_mem _ hx),by have:=h.len;rw[List.length_cons]at this;omega,λx hx=>h.num x (List.mem_cons_of_mem _ hx)⟩;cases i with
 | nil=>simp at he;rw[he.1]at h5;exact absurd VT h5
 | cons x i=>simp at he;exact⟨i,e,he.2,VT⟩
structure PS (pb B:Nat)(w:World)(l:List Tok):Prop where
 st:∃v,aN w pb 104 [v]/\Sl (λb=>b=pb\/B<=b) 3 (En jn) w v l
 lt:pb<B
 le:B<=w.heap.size
 tl:TL l
 db:Db w
 er:mr w
 gl:10<=pb
theorem mr.kept {X:Nat->Prop}{w w':World}(h:mr w)(hb:Kept X w w')(hX:∀i,i<10->¬X i):mr w':=by
 obtain⟨⟨t,p,h1⟩,⟨t',p',h2⟩⟩:=h;exact⟨⟨t,p,hb.cell h1 (hX _ (by decide))⟩,⟨t',p',hb.cell h2 (hX _ (by decide))⟩⟩
theorem Db.kept {X:Nat->Prop}{w w':World}(h:Db w)(hb:Kept X w w')(hX:∀i,i<10->¬X i):Db w':=hb.cell h (hX _ (by decide))
theorem PS.kept {pb B:Nat}{w w':World}{l:List Tok}{Y:Nat->Prop}(h:PS pb B w l)(hk:Kept Y w w')(hY:∀i,Y i->B<=i):PS pb B w' l:=by
 obtain⟨v,h1,h2⟩:=h.st;have hl:=h.lt;have hg:=h.gl;exact⟨⟨v,h1.kept hk (λhh=>by have:=hY _ hh;omega),h2.kept hk (λi hi=>.inr (hY i hi))⟩,h.lt,Nat.le_trans h.le hk.size,h.tl,h.db.kept hk (λi hi hh=>by have:=hY _ hh;omega),h.er.kept hk (λi hi hh=>by have:=hY _ hh;omega),h.gl⟩
theorem PS.below {pb B:Nat}{w w':World}{l:List Tok}(h:PS pb B w l)(hk:Below w.heap.size w w'):PS pb B w' l :=
 h.kept (Kept.aQ hk (X:=λi=>w.heap.size<=i) (λi h1 h2=>h1)) (λi hi=>Nat.le_trans h.le hi)
theorem PS.hd {pb B:Nat}{w:World}{t:Tok}{r:List Tok}(h:PS pb B w (t::r)):∃b o c,aN w pb 104 [.slice (some ⟨b,o,none⟩) (r.length+1) c]/\r.length+1<=c/\b≠pb /\
  w.cell? ⟨b,o,none⟩=some (.int .i64 t.kind)/\w.cell? ⟨b,o+1,none⟩=some (str t.text)/\w.cell? ⟨b,o+2,none⟩=some (.int .i64 t.pos)/\aB w ⟨b,o,none⟩ 0 3=some [.int .i64 t.kind,str t.text,.int .i64 t.pos]:=by
 obtain⟨v,h1,h2⟩:=h.st;obtain⟨a,c,rfl,hc⟩:=h2.shape;obtain⟨b,o,rfl,hb,aM⟩:=h2.get (i:=0) (x:=t) rfl;refine⟨b,o,c,h1,hc,λe=>hb (.inl e),?_,?_,?_,ao (jn t) 0 (λj u hu=>by have:=aM j u hu;simpa using this)⟩
 ·have:=aM 0 _ rfl;simpa using this
 ·have:=aM 1 _ rfl;simpa using this
 have:=aM 2 _ rfl;simpa using this
theorem PS.pop {pb B b o c:Nat}{w w':World}{t:Tok}{r:List Tok}(h:PS pb B w (t::r))(hb:aN w pb 104 [.slice (some ⟨b,o,none⟩) (r.length+1) c])(h5:t.kind≠5)
  (hp:A8 w w' pb 104 [.slice (if (c:Int)=1 then some ⟨b,o,none⟩ else some ⟨b,o+3,none⟩) r.length (c-1)]):PS pb B w' r:=by
 have hl:=h.lt;have hg:=h.gl;have Mj:=h.tl.tail h5;obtain⟨t2,r2,rfl⟩:=Mj.cons;obtain⟨v,h1,h2⟩:=h.st;have e:v=.slice (some ⟨b,o,none⟩) ((t2::r2).length+1) c:=by
  have yk:w.heap[pb]?=_:=h1;have Dw:w.heap[pb]?=_:=hb;rw[yk]at Dw;simpa using Dw
 subst e;have hk:=hp.kept;have hc:(t2::r2).length+1<=c:=by
  obtain⟨a,c',he,hc⟩:=h2.shape;cases he;exact hc
 have EX:¬(c:Int)=1:=by rw[List.length_cons]at hc;omega
 have Q0:=hp.aL;rw[if_neg EX]at Q0;refine⟨⟨_,Q0,?_⟩,h.lt,by rw[hp.size];exact h.le,Mj,h.db.kept hk (λi hi hh=>by omega),h.er.kept hk (λi hi hh=>by omega),h.gl⟩;unfold Sl at h2 ⊢
 obtain⟨a,c',he,hc',cg⟩:=h2;cases he;refine⟨some ⟨b,o+3,none⟩,c-1,rfl,by omega,λi x hx=>?_⟩;obtain⟨b',o',cs,ha,hX,il,aM,hr⟩:=cg (i+1) x (by simpa using hx);cases ha;refine⟨b,o+3,cs,rfl,hX,il,λj u hu=>?_,hr⟩
 have:=aM j u hu;rw[show o+(i+1)*3+j=o+3+i*3+j by omega]at this
 exact hk.cell this (λhh=>hX (.inl hh))
theorem Iw {e e':TypeId}{b o n c:Nat}{kk:IntKind}{L:VP}{other:Prop}(p):gA (some (.slice e)) (some (e',3)) (.slice (some ⟨b,o,none⟩) (n+1) c) (some (.int kk 1)) none none L other p=((1<=n+1/\n+1<=c)/\L (.slice (if (c:Int)=1 then some ⟨b,o,none⟩ else some ⟨b,o+3,none⟩) n (c-1))):=by
 simp only[gA,iL,add_lit,Option.map_some];apply propext;constructor
 ·rintro⟨h1,h2⟩;refine⟨by omega,?_⟩;have e1:((n+1:Nat):Int).toNat-(1:Int).toNat=n:=by omega
  have e2:c-(1:Int).toNat=c-1:=by omega
  rw[e1,e2]at h2;exact h2
 rintro⟨h1,h2⟩;refine⟨by omega,?_⟩;have e1:((n+1:Nat):Int).toNat-(1:Int).toNat=n:=by omega
 have e2:c-(1:Int).toNat=c-1:=by omega
 rw[e1,e2];exact h2
def Thr (sz:Nat)(w:World)(c:List PanicEntry)(e pos:Nat):Prop:=∃b,sz<=b/\c=[{ v:=.iface 97 (.agg #[.iface 141 (.pointer (some ⟨b,0,none⟩))]),recovered:=false }]/\aN w b 143 [.int .i64 e,.int .i64 pos]
theorem Thr.mono {sz sz':Nat}{w:World}{c:List PanicEntry}{e pos:Nat}(h:Thr sz w c e pos)(hs:sz'<=sz):Thr sz' w c e pos:=by
 obtain⟨b,h1,h2,h3⟩:=h;exact⟨b,by omega,h2,h3⟩
def aOa {α:Type}(pb B:Nat)(w:World)(l:List Tok)(p:Pa α)(V:World->Value->α->Prop):VK:=λr w'=>∃x l',p l=.ok (x,l')/\V w' r x/\PS pb B w' l'/\Kept (·=pb) w w'
def Mt {α:Type}(pb:Nat)(w:World)(l:List Tok)(p:Pa α):List PanicEntry->World->Prop:=λc w'=>∃e pos,p l=.error (e,pos)/\Thr w.heap.size w' c e pos/\Kept (·=pb) w w'
def Pc {α:Type}(f:FuncId)(args:List Value)(pb B:Nat)(w:World)(l:List Tok)(p:Pa α)(V:World->Value->α->Prop):Prop:=Az Tryz.prog f args w (aOa pb B w l p V) (Mt pb w l p)
theorem jo (e:Nat){pb B:Nat}{w:World}{l:List Tok}(h:PS pb B w l):Az Tryz.prog 44 [.pointer (some ⟨pb,0,none⟩),.int .i64 (e:Int)] w (λ_ _=>False) (λc w'=>Thr w.heap.size w' c e (Cae.hd l).pos/\Below w.heap.size w w'):=by
 obtain⟨t,r,rfl⟩:=h.tl.cons;obtain⟨b,o,c,hB,hc,cf,c0,c1,c2,c3⟩:=h.hd;have cb:w.cell? ⟨pb,0,none⟩=some (.slice (some ⟨b,o,none⟩) (r.length+1) c):=hB.cell rfl;refine bR Tryz.func44 rfl (by kernel_rfl) [] rfl ?_;push_cast -dsimp(maxSteps:=9^7) [Tryz.ntmps44];push_cast -dsimp[cb,c2];refine⟨by omega,aS ?_⟩;intro w' vD;have gy:aN w' w.heap.size 143 [.int .i64 e,.int .i64 t.pos]:=vD.aL;have jf:=vD.below;push_cast -dsimp;refine Zo ?_;push_cast -dsimp;exact⟨⟨_,Nat.le_refl _,rfl,gy⟩,jf⟩
theorem DT (s:List UInt8){pb B:Nat}{w:World}{l:List Tok}(h:PS pb B w l):aw Tryz.prog 66 [.pointer (some ⟨pb,0,none⟩),str s] w λr w'=>r=.bool (dm s l)/\w'=w:=by
 obtain⟨t,r,rfl⟩:=h.tl.cons;obtain⟨b,o,c,hB,hc,cf,c0,c1,c2,c3⟩:=h.hd;have cb:w.cell? ⟨pb,0,none⟩=some (.slice (some ⟨b,o,none⟩) (r.length+1) c):=hB.cell rfl;have hs:dm s (t::r)=(t.kind != 5 && t.text == s):=rfl;refine aD Tryz.func66 rfl (by kernel_rfl) [4] rfl ?_;push_cast -dsimp(maxSteps:=9^7) [Tryz.ntmps66];push_cast -dsimp[cb,c0,c1];refine⟨by omega,λh5=>⟨by omega,?_⟩,λh5=>?_⟩
 ·rw[hs];have VT:t.kind≠5:=λe=>h5 (by omega);congr 1;by_cases he:t.text=s<;>simp[he,VT]
 rw[hs];have VT:t.kind=5:=by omega
 simp[VT]
theorem dq {t:Tok}{r:List Tok}(h:t.kind≠5):cZ (t::r)=.ok ((),r):=by simp[cZ,h]
theorem Uj {s:List UInt8}{t:Tok}{r:List Tok}(h:dm s (t::r)=true):t.kind≠5:=by
 have:(t.kind != 5 && t.text == s)=true:=h;simp at this;exact this.1
def aOc (s:List UInt8)(pb B:Nat)(w:World)(l:List Tok):VK:=λr w'=>(dm s l=true/\r=.bool true/\∃t r',l=t::r'/\t.kind≠5/\PS pb B w' r'/\Kept (·=pb) w w'/\w'.heap.size=w.heap.size)\/(dm s l=false/\r=.bool false/\w'=w)
theorem gZ (s:List UInt8){pb B:Nat}{w:World}{l:List Tok}(h:PS pb B w l):aw Tryz.prog 70 [.pointer (some ⟨pb,0,none⟩),str s] w (aOc s pb B w l):=by
 obtain⟨t,r,rfl⟩:=h.tl.cons;obtain⟨b,o,c,hB,hc,cf,c0,c1,c2,c3⟩:=h.hd;have cb:w.cell? ⟨pb,0,none⟩=some (.slice (some ⟨b,o,none⟩) (r.length+1) c):=hB.cell rfl;refine aD Tryz.func70 rfl (by kernel_rfl) [4] rfl ?_;push_cast -dsimp(maxSteps:=9^7) [Tryz.ntmps70];refine aA (DT s h) ?_;rintro _ _ ⟨rfl,rfl⟩;cases hs:dm s (t::r) with
 | false =>
  push_cast -dsimp;exact .inr ⟨hs,rfl,rfl⟩
 | true =>
  have h5:=Uj hs;push_cast -dsimp[cb,Iw];refine⟨by omega,?_⟩;refine aC hB (by simp) rfl ?_;intro w' vD;have uR:=h.pop hB h5 vD;have hk:=vD.kept;have hz:=vD.size;push_cast -dsimp;exact .inl ⟨hs,rfl,t,r,rfl,h5,uR,hk,hz⟩
theorem fy (s:List UInt8){pb B:Nat}{w:World}{l:List Tok}(h:PS pb B w l):Pc 67 [.pointer (some ⟨pb,0,none⟩),str s] pb B w l (dM s) (λ_ r _=>r=.tuple #[]):=by
 refine bR Tryz.func67 rfl (by kernel_rfl) [] rfl ?_;push_cast -dsimp(maxSteps:=9^7) [Tryz.ntmps67];refine aA (gZ s h) ?_;rintro _ w1 hT;rcases hT with ⟨hs,rfl,t,r,rfl,h5,uR,hk,hz⟩|⟨hs,rfl,rfl⟩
 ·push_cast -dsimp;exact⟨(),r,by unfold dM bE;rw[hs];exact dq h5,rfl,uR,hk⟩
 push_cast -dsimp;refine aF (jo 3 h) (λ_ _ h=>h.elim) ?_;rintro c w2 ⟨ht,hb⟩;push_cast -dsimp;exact⟨3,_,by unfold dM bE;rw[hs];rfl,ht,Kept.aQ hb (λi h1 h2=>by omega)⟩
theorem nD (n:Int){pb B:Nat}{w:World}{l:List Tok}(h:PS pb B w l):Az Tryz.prog 108 [.pointer (some ⟨pb,0,none⟩),.int .i64 n] w (λr w'=>n<=8/\r=.tuple #[]/\w'=w) (λc w'=>8<n/\Thr w.heap.size w' c 4 (Cae.hd l).pos/\Below w.heap.size w w'):=by
 refine bR Tryz.func108 rfl (by kernel_rfl) [] rfl ?_;push_cast -dsimp(maxSteps:=9^7) [Tryz.ntmps108];refine⟨λh8=>?_,λh8=>by omega⟩;refine aF (jo 4 h) (λ_ _ h=>h.elim) ?_;rintro c w2 ⟨ht,hb⟩;push_cast -dsimp;exact⟨h8,ht,hb⟩
def Qf:List (List UInt8×Value):=[([99,108,97,115,115],.int .i64 1),([98,114,101,97,107],.int .i64 1),([107,101,101,112],.int .i64 1),([101,108,115,101],.int .i64 1)]
theorem aH7 (s:List UInt8)(w:World):aw Tryz.prog 132 [str s] w λr w'=>r=.bool (CS s)/\Below w.heap.size w w':=by
 refine aD Tryz.func132 rfl (by kernel_rfl) [2] rfl ?_;push_cast -dsimp(maxSteps:=9^7) [Tryz.ntmps132];refine CZ (key:=λl:List UInt8=>str l) ?_;intro w1 m1 b1 z1;push_cast -dsimp;refine jd (kt:=9) (et:=3) (k:=[99,108,97,115,115]) (by kernel_rfl) (o6 (by kernel_rfl)) m1 rfl rfl ?_;intro w2 m2 k2 z2;push_cast -dsimp;refine jd (kt:=9) (et:=3) (k:=[98,114,101,97,107]) (by kernel_rfl) (o6 (by kernel_rfl)) m2 rfl (by decide) ?_;intro w3 m3 k3 z3;push_cast -dsimp;refine jd (kt:=9) (et:=3) (k:=[107,101,101,112]) (by kernel_rfl) (o6 (by kernel_rfl)) m3 rfl (by decide) ?_;intro w4 m4 k4 z4;push_cast -dsimp;refine jd (kt:=9) (et:=3) (k:=[101,108,115,101]) (by kernel_rfl) (o6 (by kernel_rfl)) m4 rfl (by decide) ?_;intro w5 m5 k5 z5;have m6:nd (λl:List UInt8=>str l) w5 w.heap.size Qf:=m5;have hb:Below w.heap.size w w5:=b1.trans ((((k2.trans k3 (λ_ _ h=>h)).trans k4 (λ_ _ h=>h)).trans k5 (λ_ _ h=>h)).below (by omega) (λi h=>by omega));push_cast -dsimp;refine IQ (kt:=9) (et:=3) (z:=.int .i64 0) (c:=false) (k:=s) (by kernel_rfl) (o6 (by kernel_rfl)) (by kernel_rfl) m6 ?_;cases hk:CS s with
 | true =>
  have ha:(eM s Qf).getD (.int .i64 0)=.int .i64 1:=by
   simp only[CS,Bool.or_eq_true,beq_iff_eq]at hk;rcases hk with ((rfl|rfl)|rfl)|rfl<;>rfl
  rw[if_neg (by decide),ha];push_cast -dsimp;exact hb
 | false =>
  have ha:(eM s Qf).getD (.int .i64 0)=.int .i64 0:=by
   simp only[CS,Bool.or_eq_false_iff,beq_eq_false_iff_ne]at hk;simp[Qf,eM,hk.1.1.1,hk.1.1.2,hk.1.2,hk.2]
  rw[if_neg (by decide),ha];push_cast -dsimp;exact⟨rfl,hb⟩
theorem IY {pb B:Nat}{w:World}{l:List Tok}(h:PS pb B w l):aw Tryz.prog 106 [.pointer (some ⟨pb,0,none⟩)] w λr w'=>r=.bool (jw l)/\Below w.heap.size w w':=by
 obtain⟨t,r,rfl⟩:=h.tl.cons;obtain⟨b,o,c,hB,hc,cf,c0,c1,c2,c3⟩:=h.hd;have cb:w.cell? ⟨pb,0,none⟩=some (.slice (some ⟨b,o,none⟩) (r.length+1) c):=hB.cell rfl;have hs:jw (t::r)=(t.kind == 1 && !CS t.text):=rfl;refine aD Tryz.func106 rfl (by kernel_rfl) [2] rfl ?_;push_cast -dsimp(maxSteps:=9^7) [Tryz.ntmps106];push_cast -dsimp[cb,c0,c1];refine⟨by omega,λh5=>⟨by omega,?_⟩,λh5=>?_⟩
 ·refine aA (aH7 t.text w) ?_;rintro _ w1 ⟨rfl,hb⟩;have VT:t.kind=1:=by omega
  push_cast -dsimp;exact⟨by rw[hs,VT];rfl,hb⟩
 have VT:t.kind≠1:=λe=>h5 (by omega);exact⟨by rw[hs];simp[VT],Below.refl _ _⟩
theorem Z4 {pb B:Nat}{w:World}{l:List Tok}(h:PS pb B w l):Pc 68 [.pointer (some ⟨pb,0,none⟩)] pb B w l nS (λ_ r n=>r=str n):=by
 obtain⟨t,r,rfl⟩:=h.tl.cons;obtain⟨b,o,c,hB,hc,cf,c0,c1,c2,c3⟩:=h.hd;have cb:w.cell? ⟨pb,0,none⟩=some (.slice (some ⟨b,o,none⟩) (r.length+1) c):=hB.cell rfl;have hn:jw (t::r)=(t.kind == 1 && !CS t.text):=rfl;refine bR Tryz.func68 rfl (by kernel_rfl) [.tmp 2] rfl ?_;push_cast -dsimp(maxSteps:=9^7) [Tryz.ntmps68];push_cast -dsimp[cb,Nat.zero_mul,Nat.add_zero,c3];refine⟨by omega,?_⟩;refine ah (z:=[.int .i64 0,str [],.int .i64 0]) (by kernel_rfl) ?_;intro w1 aU;have B1:=aU.aL;have P1:=h.below aU.below;have z1:=aU.size;have b1:=aU.below;push_cast -dsimp;refine aI (xt:=107) (n:=3) (by kernel_rfl) B1 rfl (by decide) (by simp;exact⟨rfl,rfl,rfl⟩) ?_;intro w2 bP;have B2:aN w2 w.heap.size 107 [.int .i64 t.kind,str t.text,.int .i64 t.pos]:=bP.aL;have P2:=P1.kept bP.kept (λi hi=>by have:=h.le;omega);have z2:=bP.size;have b2:=b1.trans (bP.kept.below (B:=w.heap.size) (by omega) (λi h=>by omega));push_cast -dsimp;refine aA (IY P2) ?_;rintro _ w3 ⟨rfl,b3⟩;have P3:=P2.below b3;have B3:=B2.below b3 (by omega);have b13:Below w.heap.size w w3:=b2.trans (b3.mono (by omega));have Ai:Kept (·=pb) w w3:=Kept.aQ b13 (λi h1 h2=>by omega);cases oo:jw (t::r) with
 | false =>
  push_cast -dsimp;refine aF (jo 3 P3) (λ_ _ h=>h.elim) ?_;rintro c w4 ⟨ht,hb⟩;push_cast -dsimp;have Ks:=b3.size;exact⟨3,_,by unfold nS bE;rw[oo];rfl,ht.mono (by omega),Ai.trans (Kept.aQ hb (X:=(·=pb)) (λi h1 h2=>by omega)) (λi _ h=>h)⟩
 | true =>
  have d1:w3.cell? ⟨w.heap.size,1,none⟩=some (str t.text):=B3.cell rfl;push_cast -dsimp[d1];refine⟨λaFA=>?_,λHz=>?_⟩
  ·refine aF (jo 4 P3) (λ_ _ h=>h.elim) ?_;rintro c w4 ⟨ht,hb⟩;push_cast -dsimp;have Ks:=b3.size;have hl:Fj (t::r)=true:=decide_eq_true (show 10<t.text.length by omega)
   exact⟨4,_,by unfold nS bE;rw[oo,hl];rfl,ht.mono (by omega),Ai.trans (Kept.aQ hb (X:=(·=pb)) (λi h1 h2=>by omega)) (λi _ h=>h)⟩
  have hl:Fj (t::r)=false:=decide_eq_false (show ¬10<t.text.length by omega)
  have h5:t.kind≠5:=by
   rw[hn]at oo;simp at oo;omega
  have Nd:=hB.kept (Kept.aQ b13 (X:=λi=>w.heap.size<=i) (λi h1 h2=>h1)) (by have:=h.lt;have:=h.le;omega);have cb3:w3.cell? ⟨pb,0,none⟩=some (.slice (some ⟨b,o,none⟩) (r.length+1) c):=Nd.cell rfl;push_cast -dsimp[cb3,Iw];refine⟨by omega,?_⟩;refine aC Nd (by simp) rfl ?_;intro w4 aj;have P4:=P3.pop Nd h5 aj;have B4:=B3.kept aj.kept (by have:=h.lt;have:=h.le;omega);have d4:w4.cell? ⟨w.heap.size,1,none⟩=some (str t.text):=B4.cell rfl;have k4:=Ai.trans aj.kept (λi _ h=>h);push_cast -dsimp[d4];exact⟨t.text,r,by simp[nS,bE,oo,hl,Cae.pb,dr,cZ,pr,h5,Cae.hd],rfl,P4,k4⟩
def fE (X:Nat->Prop)(w:World):Value->bB->Prop
 | v,.lit pos s=>∃b sv,v=.pointer (some ⟨b,0,none⟩)/\¬X b/\aN w b 187 [.int .i64 1,.int .i64 pos,sv,str [],.pointer none,.pointer none]/\Sl X 2 (En bF) w sv s/\Arg sv
 | v,.ref pos n=>∃b,v=.pointer (some ⟨b,0,none⟩)/\¬X b/\aN w b 187 [.int .i64 2,.int .i64 pos,.slice none 0 0,str n,.pointer none,.pointer none]
 | v,.not pos k=>∃b u,v=.pointer (some ⟨b,0,none⟩)/\¬X b/\aN w b 187 [.int .i64 6,.int .i64 pos,.slice none 0 0,str [],u,.pointer none]/\fE X w u k
 | v,.bin c pos k r=>∃b u x,v=.pointer (some ⟨b,0,none⟩)/\¬X b/\aN w b 187 [.int .i64 c,.int .i64 pos,.slice none 0 0,str [],u,x]/\fE X w u k/\fE X w x r
theorem fE.mono {X X' Y:Nat->Prop}{w w':World}(hk:Kept Y w w')(hY:∀i,Y i->X i)(hX:∀i,X' i->X i):∀{k:bB} {v:Value},fE X w v k->fE X' w' v k
 | .lit pos s,v,⟨b,sv,hv,hb,hB,hs,ha⟩=>⟨b,sv,hv,λhh=>hb (hX b hh),hB.kept hk (λhh=>hb (hY b hh)),(hs.kept hk hY).weaken hX,ha⟩
 | .ref pos n,v,⟨b,hv,hb,hB⟩=>⟨b,hv,λhh=>hb (hX b hh),hB.kept hk (λhh=>hb (hY b hh))⟩
 | .not pos k,v,⟨b,u,hv,hb,hB,h⟩=>⟨b,u,hv,λhh=>hb (hX b hh),hB.kept hk (λhh=>hb (hY b hh)),h.mono hk hY hX⟩
 | .bin c pos k r,v,⟨b,u,x,hv,hb,hB,h,h'⟩=>⟨b,u,x,hv,λhh=>hb (hX b hh),hB.kept hk (λhh=>hb (hY b hh)),h.mono hk hY hX,h'.mono hk hY hX⟩
theorem fE.below {X:Nat->Prop}{w w':World}{k:bB}{v:Value}(h:fE X w v k)(hb:Below w.heap.size w w'):fE X w' v k:=by
 induction k generalizing v with
 | lit pos s=>obtain⟨b,sv,hv,hx,hB,hs,ha⟩:=h;exact⟨b,sv,hv,hx,hB.below hb hB.lt,hs.below hb,ha⟩
 | ref pos n=>obtain⟨b,hv,hx,hB⟩:=h;exact⟨b,hv,hx,hB.below hb hB.lt⟩
 | not pos k ih=>obtain⟨b,u,hv,hx,hB,hs⟩:=h;exact⟨b,u,hv,hx,hB.below hb hB.lt,ih hs⟩
 | bin c pos k r ih ih'=>obtain⟨b,u,x,hv,hx,hB,hs,TV⟩:=h;exact⟨b,u,x,hv,hx,hB.below hb hB.lt,ih hs,ih' TV⟩
theorem Sl.top {α:Type}{X:Nat->Prop}{k:Nat}{R:List Value->α->Prop}{w:World}{v:Value}{l:List α}(hk:0<k)(h:Sl X k R w v l):Sl (λb=>X b\/w.heap.size<=b) k R w v l:=by
 unfold Sl at h ⊢
 obtain⟨a,c,rfl,hc,h⟩:=h;refine⟨a,c,rfl,hc,λi x hx=>?_⟩;obtain⟨b,o,cs,ha,hb,il,aM,hr⟩:=h i x hx;refine⟨b,o,cs,ha,λhh=>?_,il,aM,hr⟩;rcases hh with hh|hh
 ·exact hb hh
 obtain⟨u,hu⟩:∃u,cs[0]?=some u:=⟨cs[0]'(by omega),List.getElem?_eq_getElem (by omega)⟩
 have:=World.block_lt_of_cell? w _ (aM 0 u hu);simp at this;omega
theorem fE.top {X:Nat->Prop}{w:World}{k:bB}{v:Value}(h:fE X w v k):fE (λb=>X b\/w.heap.size<=b) w v k:=by
 induction k generalizing v with
 | lit pos s=>obtain⟨b,sv,hv,hx,hB,hs,ha⟩:=h;exact⟨b,sv,hv,λhh=>hh.elim hx (λhh=>by have:=hB.lt;omega),hB,Sl.top (by decide) hs,ha⟩
 | ref pos n=>obtain⟨b,hv,hx,hB⟩:=h;exact⟨b,hv,λhh=>hh.elim hx (λhh=>by have:=hB.lt;omega),hB⟩
 | not pos k ih=>obtain⟨b,u,hv,hx,hB,hs⟩:=h;exact⟨b,u,hv,λhh=>hh.elim hx (λhh=>by have:=hB.lt;omega),hB,ih hs⟩
 | bin c pos k r ih ih'=>obtain⟨b,u,x,hv,hx,hB,hs,TV⟩:=h;exact⟨b,u,x,hv,λhh=>hh.elim hx (λhh=>by have:=hB.lt;omega),hB,ih hs,ih' TV⟩
theorem fE.ptr {X:Nat->Prop}{w:World}{k:bB}{v:Value}(h:fE X w v k):∃b,v=.pointer (some ⟨b,0,none⟩)/\b<w.heap.size:=by
 cases k with
 | lit pos s=>obtain⟨b,sv,hv,hx,hB,hs⟩:=h;exact⟨b,hv,hB.lt⟩
 | ref pos n=>obtain⟨b,hv,hx,hB⟩:=h;exact⟨b,hv,hB.lt⟩
 | not pos k=>obtain⟨b,u,hv,hx,hB,hs⟩:=h;exact⟨b,hv,hB.lt⟩
 | bin c pos k r=>obtain⟨b,u,x,hv,hx,hB,hs,TV⟩:=h;exact⟨b,hv,hB.lt⟩
def zJ (w:World)(pb:Nat):Nat:=match w.cell? ⟨pb,0,none⟩ with
 | some (.slice _ n _)=>n
 | _=>0
theorem PS.len {pb B:Nat}{w:World}{l:List Tok}(h:PS pb B w l):zJ w pb=l.length:=by
 obtain⟨v,h1,h2⟩:=h.st;obtain⟨a,c,rfl,_⟩:=h2.shape;unfold zJ;rw[h1.cell (o:=0) rfl]
def Vv (d:Nat):Prop:=∀(n:Int),0<=n->n+(d:Int)=9->∀(pb B:Nat) (w:World) (l:List Tok),PS pb B w l->Pc 107 [.pointer (some ⟨pb,0,none⟩),.int .i64 n] pb B w l (mA d) (λw' r k=>fE (·<w.heap.size) w' r k)
def aEU (d:Nat):Prop:=∀(n:Int),0<=n->n+(d:Int)=9->∀(pb B:Nat) (w:World) (l:List Tok),PS pb B w l->Pc 69 [.pointer (some ⟨pb,0,none⟩),.int .i64 n] pb B w l (rh d) (λw' r k=>fE (·<w.heap.size) w' r k)
theorem Qg (d:Nat)(uP:Vv d):aEU d:=by
 intro n yE hn pb B w l0 h0;obtain⟨t,r,rfl⟩:=h0.tl.cons;obtain⟨b,o,c,hB,hc,cf,c0,c1,c2,c3⟩:=h0.hd;have cb:w.cell? ⟨pb,0,none⟩=some (.slice (some ⟨b,o,none⟩) (r.length+1) c):=hB.cell rfl;have Mh:∃l0,l0=t::r:=⟨_,rfl⟩;obtain⟨l0,Mh⟩:=Mh;rw[<-Mh]at h0 ⊢
 have YZ:Cae.hd l0=t:=by rw[Mh];rfl
 refine bR Tryz.func69 rfl (by kernel_rfl) [.tmp 4] rfl ?_;push_cast -dsimp(maxSteps:=9^7) [Tryz.ntmps69];push_cast -dsimp[cb,c2];refine⟨by omega,?_⟩;refine aF (uP n yE hn pb B w l0 h0) ?_ ?_
 ·rintro v1 w1 ⟨k0,l1,e1,V1,P1,QU⟩;have OC:rh d l0=de (mA d) t.pos 1000 k0 l1:=by
   unfold rh th;rw[aJ (p:=dr) (x:=Cae.hd l0) (l1:=l0) rfl,aJ e1,YZ]
  push_cast -dsimp;refine aK [4,6,7,18,19,20,21,22,23,24,25,26,27,28,29,30,31,32,33,34,35] (λz w'=>∃(m:Nat) (k1:bB) (l1:List Tok),de (mA d) t.pos m k1 l1=rh d l0/\l1.length<m/\fE (·<w.heap.size) w' (z 6) k1/\PS pb B w' l1/\Kept (·=pb) w w') (λz w'=>zJ w' pb) ?_ ?_
  ·have aq:l1.length<1000:=by have:=P1.tl.len;omega
   exact⟨1000,k0,l1,OC.symm,aq,V1,P1,QU⟩
  rintro z w' ⟨m,k1,l1,dK,hm,V1,pE,F0⟩;obtain⟨kb,Q7,Ef⟩:=V1.ptr;rw[Q7]at V1;obtain⟨t1,r1,n5⟩:=pE.tl.cons;push_cast -dsimp;refine aA (gZ [124] pE) ?_;rintro _ w2 hT;rcases hT with ⟨gE,rfl,t1',Vm,Jt,AM,P2,kt,hz⟩|⟨gE,rfl,r6⟩
  ·obtain⟨rfl,rfl⟩:t1=t1'/\r1=Vm:=by rw[n5]at Jt;exact List.cons.inj Jt
   rw[n5]at gE
   ·have EW:vN l1=.ok (3,r1):=by
     rw[n5];simp[vN,bE,gE,Cae.pb,cZ,pr,AM]
    push_cast -dsimp;refine aF (uP n yE hn pb B w2 r1 P2) ?_ ?_
    ·rintro u w3 ⟨k2,l2,e2,V2,P3,k3⟩;obtain⟨ub,rfl,JW⟩:=V2.ptr;push_cast -dsimp[Q7];refine aS ?_;intro w4 aj;have B4:aN w4 w3.heap.size 187 [.int .i64 (3:Nat),.int .i64 t.pos,.slice none 0 0,str [],.pointer (some ⟨kb,0,none⟩),.pointer (some ⟨ub,0,none⟩)]:=aj.aL;have P4:=P3.below aj.below;have z4:=aj.size;have ZB:Kept (·=pb) w' w4:=(kt.trans k3 (λi _ h=>h)).trans (Kept.aQ aj.below (X:=(·=pb)) (λi h1 h2=>by omega)) (λi _ h=>h);have z14:=ZB.size;have zw:=F0.size;have hKa:fE (·<w.heap.size) w4 (.pointer (some ⟨kb,0,none⟩)) k1:=V1.mono ZB (λi h=>by have:=pE.lt;have:=h0.le;omega) (λ_ h=>h);have hKb:fE (·<w.heap.size) w4 (.pointer (some ⟨ub,0,none⟩)) k2:=V2.mono (Kept.aQ aj.below (X:=λi=>False) (λi h1 h2=>by omega)) (λ_ h=>h.elim) (λi h=>by have:=kt.size;omega);have yv:de (mA d) t.pos (m-1) (.bin 3 t.pos k1 k2) l2=rh d l0:=by
      rw[<-dK];obtain⟨m',rfl⟩:∃m',m=m'+1:=⟨m-1,by omega⟩;rw[de,aJ EW,if_neg (by decide),aJ e2];rfl
     have oX:l2.length<=r1.length:=by
      obtain⟨pre,_,e,_⟩:=qH d _ _ _ e2;rw[e,List.length_append];omega
     have yq:l1.length=r1.length+1:=by rw[n5,List.length_cons]
     have lf:=P4.len;have fg:=pE.len;push_cast -dsimp;refine⟨⟨m-1,_,l2,yv,by omega,?_,P4,F0.trans ZB (λi _ h=>h)⟩,by rw[lf,fg];omega⟩;exact⟨w3.heap.size,_,_,rfl,by have:=kt.size;have:=k3.size;omega,B4,hKa,hKb⟩
    rintro c w3 ⟨e,pos,he,ht,Bs⟩;push_cast -dsimp;refine⟨e,pos,?_,ht.mono (by have:=kt.size;have:=F0.size;omega),(F0.trans kt (λi _ h=>h)).trans Bs (λi _ h=>h)⟩;rw[<-dK];obtain⟨m',rfl⟩:∃m',m=m'+1:=⟨m-1,by omega⟩;rw[de,aJ EW,if_neg (by decide)];unfold Cae.pb;rw[he]
  obtain rfl:w'=w2:=r6.symm;rw[n5]at gE;push_cast -dsimp;refine aA (gZ [38] pE) ?_;rintro _ w2 hT;rcases hT with ⟨iC,rfl,t1',Vm,Jt,AM,P2,kt,hz⟩|⟨iC,rfl,r6⟩
  ·obtain⟨rfl,rfl⟩:t1=t1'/\r1=Vm:=by rw[n5]at Jt;exact List.cons.inj Jt
   rw[n5]at iC
   ·have EW:vN l1=.ok (4,r1):=by
     rw[n5];simp[vN,bE,gE,iC,Cae.pb,cZ,pr,AM]
    push_cast -dsimp;refine aF (uP n yE hn pb B w2 r1 P2) ?_ ?_
    ·rintro u w3 ⟨k2,l2,e2,V2,P3,k3⟩;obtain⟨ub,rfl,JW⟩:=V2.ptr;push_cast -dsimp[Q7];refine aS ?_;intro w4 aj;have B4:aN w4 w3.heap.size 187 [.int .i64 (4:Nat),.int .i64 t.pos,.slice none 0 0,str [],.pointer (some ⟨kb,0,none⟩),.pointer (some ⟨ub,0,none⟩)]:=aj.aL;have P4:=P3.below aj.below;have z4:=aj.size;have ZB:Kept (·=pb) w' w4:=(kt.trans k3 (λi _ h=>h)).trans (Kept.aQ aj.below (X:=(·=pb)) (λi h1 h2=>by omega)) (λi _ h=>h);have z14:=ZB.size;have zw:=F0.size;have hKa:fE (·<w.heap.size) w4 (.pointer (some ⟨kb,0,none⟩)) k1:=V1.mono ZB (λi h=>by have:=pE.lt;have:=h0.le;omega) (λ_ h=>h);have hKb:fE (·<w.heap.size) w4 (.pointer (some ⟨ub,0,none⟩)) k2:=V2.mono (Kept.aQ aj.below (X:=λi=>False) (λi h1 h2=>by omega)) (λ_ h=>h.elim) (λi h=>by have:=kt.size;omega);have yv:de (mA d) t.pos (m-1) (.bin 4 t.pos k1 k2) l2=rh d l0:=by
      rw[<-dK];obtain⟨m',rfl⟩:∃m',m=m'+1:=⟨m-1,by omega⟩;rw[de,aJ EW,if_neg (by decide),aJ e2];rfl
     have oX:l2.length<=r1.length:=by
      obtain⟨pre,_,e,_⟩:=qH d _ _ _ e2;rw[e,List.length_append];omega
     have yq:l1.length=r1.length+1:=by rw[n5,List.length_cons]
     have lf:=P4.len;have fg:=pE.len;push_cast -dsimp;refine⟨⟨m-1,_,l2,yv,by omega,?_,P4,F0.trans ZB (λi _ h=>h)⟩,by rw[lf,fg];omega⟩;exact⟨w3.heap.size,_,_,rfl,by have:=kt.size;have:=k3.size;omega,B4,hKa,hKb⟩
    rintro c w3 ⟨e,pos,he,ht,Bs⟩;push_cast -dsimp;refine⟨e,pos,?_,ht.mono (by have:=kt.size;have:=F0.size;omega),(F0.trans kt (λi _ h=>h)).trans Bs (λi _ h=>h)⟩;rw[<-dK];obtain⟨m',rfl⟩:∃m',m=m'+1:=⟨m-1,by omega⟩;rw[de,aJ EW,if_neg (by decide)];unfold Cae.pb;rw[he]
  obtain rfl:w'=w2:=r6.symm;rw[n5]at iC;push_cast -dsimp;refine aA (gZ [45] pE) ?_;rintro _ w2 hT;rcases hT with ⟨mV,rfl,t1',Vm,Jt,AM,P2,kt,hz⟩|⟨mV,rfl,r6⟩
  ·obtain⟨rfl,rfl⟩:t1=t1'/\r1=Vm:=by rw[n5]at Jt;exact List.cons.inj Jt
   rw[n5]at mV
   ·have EW:vN l1=.ok (5,r1):=by
     rw[n5];simp[vN,bE,gE,iC,mV,Cae.pb,cZ,pr,AM]
    push_cast -dsimp;refine aF (uP n yE hn pb B w2 r1 P2) ?_ ?_
    ·rintro u w3 ⟨k2,l2,e2,V2,P3,k3⟩;obtain⟨ub,rfl,JW⟩:=V2.ptr;push_cast -dsimp[Q7];refine aS ?_;intro w4 aj;have B4:aN w4 w3.heap.size 187 [.int .i64 (5:Nat),.int .i64 t.pos,.slice none 0 0,str [],.pointer (some ⟨kb,0,none⟩),.pointer (some ⟨ub,0,none⟩)]:=aj.aL;have P4:=P3.below aj.below;have z4:=aj.size;have ZB:Kept (·=pb) w' w4:=(kt.trans k3 (λi _ h=>h)).trans (Kept.aQ aj.below (X:=(·=pb)) (λi h1 h2=>by omega)) (λi _ h=>h);have z14:=ZB.size;have zw:=F0.size;have hKa:fE (·<w.heap.size) w4 (.pointer (some ⟨kb,0,none⟩)) k1:=V1.mono ZB (λi h=>by have:=pE.lt;have:=h0.le;omega) (λ_ h=>h);have hKb:fE (·<w.heap.size) w4 (.pointer (some ⟨ub,0,none⟩)) k2:=V2.mono (Kept.aQ aj.below (X:=λi=>False) (λi h1 h2=>by omega)) (λ_ h=>h.elim) (λi h=>by have:=kt.size;omega);have yv:de (mA d) t.pos (m-1) (.bin 5 t.pos k1 k2) l2=rh d l0:=by
      rw[<-dK];obtain⟨m',rfl⟩:∃m',m=m'+1:=⟨m-1,by omega⟩;rw[de,aJ EW,if_neg (by decide),aJ e2];rfl
     have oX:l2.length<=r1.length:=by
      obtain⟨pre,_,e,_⟩:=qH d _ _ _ e2;rw[e,List.length_append];omega
     have yq:l1.length=r1.length+1:=by rw[n5,List.length_cons]
     have lf:=P4.len;have fg:=pE.len;push_cast -dsimp;refine⟨⟨m-1,_,l2,yv,by omega,?_,P4,F0.trans ZB (λi _ h=>h)⟩,by rw[lf,fg];omega⟩;exact⟨w3.heap.size,_,_,rfl,by have:=kt.size;have:=k3.size;omega,B4,hKa,hKb⟩
    rintro c w3 ⟨e,pos,he,ht,Bs⟩;push_cast -dsimp;refine⟨e,pos,?_,ht.mono (by have:=kt.size;have:=F0.size;omega),(F0.trans kt (λi _ h=>h)).trans Bs (λi _ h=>h)⟩;rw[<-dK];obtain⟨m',rfl⟩:∃m',m=m'+1:=⟨m-1,by omega⟩;rw[de,aJ EW,if_neg (by decide)];unfold Cae.pb;rw[he]
  obtain rfl:w'=w2:=r6.symm;rw[n5]at mV;push_cast -dsimp[Q7];refine⟨k1,l1,?_,V1,pE,F0⟩;rw[<-dK];obtain⟨m',rfl⟩:∃m',m=m'+1:=⟨m-1,by omega⟩;have EW:vN l1=.ok (0,l1):=by
   rw[n5];simp[vN,bE,gE,iC,mV,pr]
  rw[de,aJ EW,if_pos rfl];rfl
 rintro c w3 ⟨e,pos,he,ht,Bs⟩;push_cast -dsimp;refine⟨e,pos,?_,ht,Bs⟩;unfold rh th;rw[aJ (p:=dr) (x:=Cae.hd l0) (l1:=l0) rfl];unfold Cae.pb;rw[he]
theorem Za:Vv 0:=by
 intro n yE hn pb B w l h;refine bR Tryz.func107 rfl (by kernel_rfl) [.tmp 4] rfl ?_;push_cast -dsimp(maxSteps:=9^7) [Tryz.ntmps107];refine aF (nD n h) ?_ ?_
 ·rintro _ _ ⟨h8,rfl,rfl⟩;omega
 rintro c w' ⟨h8,ht,hb⟩;push_cast -dsimp;exact⟨4,_,rfl,ht,Kept.aQ hb (λi h1 h2=>by omega)⟩
theorem Z9 (d:Nat)(ih:Vv d):Vv (d+1):=by
 have ihk:=Qg d ih;intro n yE hn pb B w l0 h0;obtain⟨t,r,Mh⟩:=h0.tl.cons;have YZ:Cae.hd l0=t:=by rw[Mh];rfl
 have EO:=h0;rw[Mh]at EO;obtain⟨b,o,c,hB,hc,cf,c0,c1,c2,c3⟩:=EO.hd;have cb:w.cell? ⟨pb,0,none⟩=some (.slice (some ⟨b,o,none⟩) (r.length+1) c):=hB.cell rfl;have hle:=h0.le;have aq:=h0.lt;refine bR Tryz.func107 rfl (by kernel_rfl) [.tmp 4] rfl ?_;push_cast -dsimp(maxSteps:=9^7) [Tryz.ntmps107];refine aF (nD n h0) ?_ (λc w' hh=>by have:=hh.1;omega);rintro _ w0 ⟨h8,rfl,AW⟩;obtain rfl:w=w0:=AW.symm;push_cast -dsimp[cb,c2];refine⟨by omega,aS ?_⟩;intro w1 aU;have B1:aN w1 w.heap.size 187 [.int .i64 0,.int .i64 t.pos,.slice none 0 0,str [],.pointer none,.pointer none]:=aU.aL;have P1:=h0.below aU.below;have P1':=EO.below aU.below;have z1:=aU.size;have k1:Kept (·=pb) w w1:=Kept.aQ aU.below (λi h1 h2=>by omega);obtain⟨b',o',c',nz,hc',Eg,Rt,c1',c2',c3'⟩:=P1'.hd;have cb':w1.cell? ⟨pb,0,none⟩=some (.slice (some ⟨b',o',none⟩) (r.length+1) c'):=nz.cell rfl;have CH:mA (d+1) l0=bE (isKind 3) IL (bE (dm [126]) (Cae.pb dr λt=>Cae.pb cZ λ_=>Cae.pb (mA d) λk=>pr (.not t.pos k))
  (bE (dm [40]) (Cae.pb cZ λ_=>Cae.pb (th (mA d)) λk=>Cae.pb (dM [41]) λ_=>pr k)
   (Cae.pb dr λt=>Cae.pb nS λn=>pr (.ref t.pos n)))) l0:=rfl
 have hpk:∀{β:Type} (q:Tok->Pa β),Cae.pb dr q l0=q t l0:=λq=>by rw[aJ (p:=dr) (x:=Cae.hd l0) (l1:=l0) rfl,YZ]
 push_cast -dsimp[cb',Rt];refine⟨by omega,λh3=>?_,λh3=>?_⟩
 ·have Bs:isKind 3 l0=true:=by
   have:t.kind=3:=by omega
   simp[isKind,YZ,this]
  have h5:t.kind≠5:=by omega
  push_cast -dsimp[cb',c1'];refine⟨by omega,?_⟩;refine aA (aD7 t.text (EO.tl.txt t (by simp)) w1 P1.db P1.er) ?_;rintro rv w2 ⟨hR,b2⟩;have P2:=P1.below b2;have P2':=P1'.below b2;have B2:=B1.below b2 (by omega);have k2:Kept (·=pb) w w2:=k1.trans (Kept.aQ b2 (X:=(·=pb)) (λi h1 h2=>by omega)) (λi _ h=>h);have z2:=b2.size;rcases hR with ⟨v,s,rfl,ho,hpr⟩|⟨ep,rfl⟩
  ·have uS:=aEh hpr;have hs0:=ho.sl;have ha0:Arg v:=ho.di;obtain⟨va,vc,rfl,_⟩:=hs0.shape;push_cast -dsimp;refine aC B2 (by simp) rfl ?_;intro w3 dA;have B3:aN w3 w.heap.size 187 [.int .i64 1,.int .i64 t.pos,.slice none 0 0,str [],.pointer none,.pointer none]:=dA.aL;push_cast -dsimp;refine aC B3 (by simp) rfl ?_;intro w4 aj;have B4:aN w4 w.heap.size 187 [.int .i64 1,.int .i64 t.pos,.slice va s.length vc,str [],.pointer none,.pointer none]:=aj.aL;have k34:Kept (·=w.heap.size) w2 w4:=dA.kept.trans aj.kept (λi _ h=>h);have P4':=P2'.kept k34 (λi h=>by omega);have z4:=k34.size;have k4:Kept (·=pb) w w4:=k2.trans k34 (λi h1 h2=>by omega);obtain⟨b4,o4,c4,ER,TE,aQH,_,_,_,_⟩:=P4'.hd;have cb4:w4.cell? ⟨pb,0,none⟩=some (.slice (some ⟨b4,o4,none⟩) (r.length+1) c4):=ER.cell rfl;push_cast -dsimp[cb4,Iw];refine⟨by omega,?_⟩;refine aC ER (by simp) rfl ?_;intro w5 cG;have P5:=P4'.pop ER h5 cG;have B5:=B4.kept cG.kept (by omega);have k5:=k4.trans cG.kept (λi _ h=>h);have s5:Sl (·<w.heap.size) 2 (En bF) w5 (.slice va s.length vc) s:=((hs0.kept k34 (λi h=>by omega)).kept cG.kept (λi h=>by omega)).weaken (λi h=>by omega);push_cast -dsimp;refine⟨.lit t.pos s,r,?_,⟨_,_,rfl,by omega,B5,s5,ha0⟩,P5,k5⟩;rw[CH];unfold bE;rw[Bs,if_pos rfl];unfold IL;rw[hpk,uS,Mh];simp[Cae.pb,cZ,h5,pr]
  have uS:=aEg ep;push_cast -dsimp;refine aF (jo 3 P2) (λ_ _ h=>h.elim) ?_;rintro c w3 ⟨ht,hb⟩;push_cast -dsimp;refine⟨3,_,?_,ht.mono (by omega),k2.trans (Kept.aQ hb (X:=(·=pb)) (λi h1 h2=>by omega)) (λi _ h=>h)⟩;rw[CH];unfold bE;rw[Bs,if_pos rfl];unfold IL;rw[hpk,uS];rfl
 have Bs:isKind 3 l0=false:=by
  have:t.kind≠3:=λe=>h3 (by omega);simp[isKind,YZ,this]
 refine aA (gZ [126] P1) ?_;rintro _ w2 hT;rcases hT with ⟨gE,rfl,t1,r1,n5,AM,P2,kt,hz⟩|⟨gE,rfl,r6⟩
 ·obtain⟨rfl,rfl⟩:t=t1/\r=r1:=by rw[Mh]at n5;exact List.cons.inj n5
  have B2:=B1.kept kt (by omega);have lz:cZ l0=.ok ((),r):=by rw[Mh];exact dq AM
  have qC:mA (d+1) l0=Cae.pb (mA d) (λk=>pr (.not t.pos k)) r:=by
   rw[CH];unfold bE;rw[Bs,gE,if_neg (by decide),if_pos rfl,hpk,aJ lz]
  push_cast -dsimp;refine⟨⟨by omega,by omega⟩,?_⟩;refine aF (ih (n+1) (by omega) (by omega) pb B w2 r P2) ?_ ?_
  ·rintro u w3 ⟨k,l3,e3,V3,P3,k3⟩;obtain⟨ub,rfl,JW⟩:=V3.ptr;have B3:=B2.kept k3 (by omega);push_cast -dsimp;refine aC B3 (by simp) rfl ?_;intro w4 aj;have B4:aN w4 w.heap.size 187 [.int .i64 6,.int .i64 t.pos,.slice none 0 0,str [],.pointer none,.pointer none]:=aj.aL;push_cast -dsimp;refine aC B4 (by simp) rfl ?_;intro w5 cG;have B5:aN w5 w.heap.size 187 [.int .i64 6,.int .i64 t.pos,.slice none 0 0,str [],.pointer (some ⟨ub,0,none⟩),.pointer none]:=cG.aL;have k35:Kept (·=w.heap.size) w3 w5:=aj.kept.trans cG.kept (λi _ h=>h);have P5:=P3.kept k35 (λi h=>by omega);have z3:=k3.size;have k5:Kept (·=pb) w w5:=((k1.trans kt (λi _ h=>h)).trans k3 (λi _ h=>h)).trans k35 (λi h1 h2=>by omega);push_cast -dsimp;refine⟨.not t.pos k,l3,?_,⟨_,_,rfl,by omega,B5,V3.mono k35 (λi h=>by omega) (λi h=>by omega)⟩,P5,k5⟩;rw[qC,aJ e3];rfl
  rintro c w3 ⟨e,pos,he,ht,hk⟩;push_cast -dsimp;refine⟨e,pos,?_,ht.mono (by omega),(k1.trans kt (λi _ h=>h)).trans hk (λi _ h=>h)⟩;rw[qC];unfold Cae.pb;rw[he]
 obtain rfl:w1=w2:=r6.symm;push_cast -dsimp;refine aA (gZ [40] P1) ?_;rintro _ w2 hT;rcases hT with ⟨iC,rfl,t1,r1,n5,AM,P2,kt,hz⟩|⟨iC,rfl,r6⟩
 ·obtain⟨rfl,rfl⟩:t=t1/\r=r1:=by rw[Mh]at n5;exact List.cons.inj n5
  have lz:cZ l0=.ok ((),r):=by rw[Mh];exact dq AM
  have qC:mA (d+1) l0=Cae.pb (rh d) (λk=>Cae.pb (dM [41]) λ_=>pr k) r:=by
   rw[CH];unfold bE;rw[Bs,gE,iC,if_neg (by decide),if_neg (by decide),if_pos rfl,aJ lz];rfl
  push_cast -dsimp;refine⟨⟨by omega,by omega⟩,?_⟩;refine aF (ihk (n+1) (by omega) (by omega) pb B w2 r P2) ?_ ?_
  ·rintro u w3 ⟨k,l3,e3,V3,P3,k3⟩;push_cast -dsimp;refine aF (fy [41] P3) ?_ ?_
   ·rintro _ w4 ⟨_,l4,e4,rfl,P4,k4⟩;push_cast -dsimp;have z3:=k3.size;refine⟨k,l4,?_,V3.mono k4 (λi h=>by omega) (λi h=>by omega),P4,((k1.trans kt (λi _ h=>h)).trans k3 (λi _ h=>h)).trans k4 (λi _ h=>h)⟩;rw[qC,aJ e3,aJ e4];rfl
   rintro c w4 ⟨e,pos,he,ht,hk⟩;push_cast -dsimp;have z3:=k3.size;refine⟨e,pos,?_,ht.mono (by omega),((k1.trans kt (λi _ h=>h)).trans k3 (λi _ h=>h)).trans hk (λi _ h=>h)⟩;rw[qC,aJ e3];unfold Cae.pb;rw[he]
  rintro c w3 ⟨e,pos,he,ht,hk⟩;push_cast -dsimp;refine⟨e,pos,?_,ht.mono (by omega),(k1.trans kt (λi _ h=>h)).trans hk (λi _ h=>h)⟩;rw[qC];unfold Cae.pb;rw[he]
 obtain rfl:w1=w2:=r6.symm;have qC:mA (d+1) l0=Cae.pb nS (λn=>pr (.ref t.pos n)) l0:=by
  rw[CH];unfold bE;rw[Bs,gE,iC,if_neg (by decide),if_neg (by decide),if_neg (by decide),hpk]
 push_cast -dsimp;refine aF (Z4 P1) ?_ ?_
 ·rintro _ w3 ⟨nm,l3,e3,rfl,P3,k3⟩;have B3:=B1.kept k3 (by omega);push_cast -dsimp;refine aC B3 (by simp) rfl ?_;intro w4 aj;have B4:aN w4 w.heap.size 187 [.int .i64 2,.int .i64 t.pos,.slice none 0 0,str [],.pointer none,.pointer none]:=aj.aL;push_cast -dsimp;refine aC B4 (by simp) rfl ?_;intro w5 cG;have B5:aN w5 w.heap.size 187 [.int .i64 2,.int .i64 t.pos,.slice none 0 0,str nm,.pointer none,.pointer none]:=cG.aL;have k35:Kept (·=w.heap.size) w3 w5:=aj.kept.trans cG.kept (λi _ h=>h);have P5:=P3.kept k35 (λi h=>by omega);have z3:=k3.size;have k5:Kept (·=pb) w w5:=(k1.trans k3 (λi _ h=>h)).trans k35 (λi h1 h2=>by omega);push_cast -dsimp;refine⟨.ref t.pos nm,l3,?_,⟨_,rfl,by omega,B5⟩,P5,k5⟩;rw[qC,aJ e3];rfl
 rintro c w3 ⟨e,pos,he,ht,hk⟩;push_cast -dsimp;refine⟨e,pos,?_,ht.mono (by omega),k1.trans hk (λi _ h=>h)⟩;rw[qC];unfold Cae.pb;rw[he]
theorem Qw:∀d,Vv d
 | 0=>Za
 | d+1=>Z9 d (Qw d)
theorem aH8 (d:Nat):aEU d:=Qg d (Qw d)
end Go.Proofs.YtemjejfpadnljaaGreatDoor
namespace Cae
theorem aCg (l:List UInt8):∀a:Nat,a<=l.foldl (λm b=>10*m+(b.toNat-48)) a:=by
 induction l with
 | nil=>exact λa=>Nat.le_refl _
 | cons b l ih=>exact λa=>Nat.le_trans (show a<=10*a+(b.toNat-48) by omega) (ih _)
theorem Qx:∀(l:List UInt8) (a:Nat),(∀c∈l,e9 c=true)->Go.Lib.parseUint10 a l=.ok (l.foldl (λm b=>10*m+(b.toNat-48)) a)\/(Go.Lib.parseUint10 a l=.range/\12<l.foldl (λm b=>10*m+(b.toNat-48)) a)
 | [],a,_=>.inl rfl
 | c::r,a,h=>by
  have hc:=h c (by simp);simp only[e9,Bool.and_eq_true,decide_eq_true_eq]at hc;have h1:=aCg r (10*a+(c.toNat-48));have e:a*10+(c.toNat-48)=10*a+(c.toNat-48):=by omega
  rw[Go.Lib.parseUint10,if_pos hc,List.foldl_cons,e];split
  ·exact .inr ⟨rfl,by omega⟩
  split
  ·exact .inr ⟨rfl,by omega⟩
  exact Qx r _ (λx hx=>h x (by simp[hx]))
theorem WR {l:List UInt8}(cf:l≠[])(h:∀c∈l,e9 c=true):Go.Lib.atoiAll l=.ok (AG l:Int)\/(Go.Lib.atoiAll l=.range/\12<AG l):=by
 obtain⟨c,r,rfl⟩:∃c r,l=c::r:=by cases l with
  | nil=>exact absurd rfl cf
  | cons c r=>exact⟨c,r,rfl⟩
 have hc:=h c (by simp);simp only[e9,Bool.and_eq_true,decide_eq_true_eq]at hc;rw[Go.Lib.atoiAll_plain c r (by omega) (by omega)];have hm:Go.Lib.parseMag (c::r)=Go.Lib.parseUint10 0 (c::r):=by unfold Go.Lib.parseMag;rw[if_neg (by simp)]
 rw[hm];rcases Qx (c::r) 0 h with h1|⟨h1,h2⟩
 ·rw[h1];unfold Go.Lib.signless;have e:(c::r).foldl (λm b=>10*m+(b.toNat-48)) 0=AG (c::r):=rfl;rw[e];dsimp only;split
  ·exact .inr ⟨rfl,by omega⟩
  exact .inl rfl
 rw[h1];exact .inr ⟨rfl,h2⟩
end Cae
namespace Go.Proofs.YtemjejfpadnljaaGreatDoor
open Go.Vc Go.Proofs Go.RowKit Cae
attribute [local irreducible] dN ae ak aY runK aw Sl Vc.Own vc aV cJ a7
def Rq:Go.Shelf.Ren:=⟨λ| 172=>188|244=>210|245=>186|247=>185|279=>205|280=>206|281=>207|282=>208|287=>204|316=>218|171=>220|205=>219|321=>216|322=>217|243=>224|246=>221|283=>225|284=>226|285=>227|286=>228|129=>162|317=>229|318=>230|319=>231|320=>232|337=>233|338=>234|n=>n,λ| 9=>9|3=>3|75=>34|76=>92|4=>4|5=>5|167=>276|37=>88|0=>0|85=>253|2=>2|168=>279|53=>244|175=>277|46=>133|210=>288|127=>150|145=>299|143=>297|21=>21|171=>300|173=>302|212=>305|51=>168|20=>20|213=>306|232=>307|233=>308|80=>94|n=>n,λ| 15=>3|16=>4|17=>7|18=>8|19=>9|n=>n⟩
theorem aEW:Go.Proofs.LaysC.n172 Tryz.prog Rq:={
 mixed:=by kernel_rfl
 f129:=Tryz.func162.trans (congrArg some (by kernel_rfl))
 f171:=Tryz.func220.trans (congrArg some (by kernel_rfl))
 f172:=Tryz.func188.trans (congrArg some (by kernel_rfl))
 f205:=Tryz.func219.trans (congrArg some (by kernel_rfl))
 f243:=Tryz.func224.trans (congrArg some (by kernel_rfl))
 f244:=Tryz.func210.trans (congrArg some (by kernel_rfl))
 f245:=Tryz.func186.trans (congrArg some (by kernel_rfl))
 f246:=Tryz.func221.trans (congrArg some (by kernel_rfl))
 f247:=Tryz.func185.trans (congrArg some (by kernel_rfl))
 f279:=Tryz.func205.trans (congrArg some (by kernel_rfl))
 f280:=Tryz.func206.trans (congrArg some (by kernel_rfl))
 f281:=Tryz.func207.trans (congrArg some (by kernel_rfl))
 f282:=Tryz.func208.trans (congrArg some (by kernel_rfl))
 f283:=Tryz.func225.trans (congrArg some (by kernel_rfl))
 f284:=Tryz.func226.trans (congrArg some (by kernel_rfl))
 f285:=Tryz.func227.trans (congrArg some (by kernel_rfl))
 f286:=Tryz.func228.trans (congrArg some (by kernel_rfl))
 f287:=Tryz.func204.trans (congrArg some (by kernel_rfl))
 f316:=Tryz.func218.trans (congrArg some (by kernel_rfl))
 f317:=Tryz.func229.trans (congrArg some (by kernel_rfl))
 f318:=Tryz.func230.trans (congrArg some (by kernel_rfl))
 f319:=Tryz.func231.trans (congrArg some (by kernel_rfl))
 f320:=Tryz.func232.trans (congrArg some (by kernel_rfl))
 f321:=Tryz.func216.trans (congrArg some (by kernel_rfl))
 f322:=Tryz.func217.trans (congrArg some (by kernel_rfl))
 f337:=Tryz.func233.trans (congrArg some (by kernel_rfl))
 f338:=Tryz.func234.trans (congrArg some (by kernel_rfl))
 t0:=Tryz.underlying0
 a0:=Tryz.isAgg0
 z0:=Tryz.sizeOf0
 v0:=Tryz.zeroValue0
 t2:=Tryz.underlying2
 a2:=Tryz.isAgg2
 z2:=Tryz.sizeOf2
 v2:=Tryz.zeroValue2
 t3:=Tryz.underlying3
 a3:=Tryz.isAgg3
 z3:=Tryz.sizeOf3
 v3:=Tryz.zeroValue3
 t4:=Tryz.underlying4
 a4:=Tryz.isAgg4
 z4:=Tryz.sizeOf4
 v4:=Tryz.zeroValue4
 t5:=Tryz.underlying5
 a5:=Tryz.isAgg5
 z5:=Tryz.sizeOf5
 v5:=Tryz.zeroValue5
 t9:=Tryz.underlying9
 a9:=Tryz.isAgg9
 z9:=Tryz.sizeOf9
 v9:=Tryz.zeroValue9
 t20:=Tryz.underlying20
 a20:=Tryz.isAgg20
 z20:=Tryz.sizeOf20
 v20:=Tryz.zeroValue20
 t21:=Tryz.underlying21
 a21:=Tryz.isAgg21
 z21:=Tryz.sizeOf21
 v21:=Tryz.zeroValue21
 t37:=Tryz.underlying88
 a37:=Tryz.isAgg88
 z37:=Tryz.sizeOf88
 v37:=Tryz.zeroValue88
 t46:=Tryz.underlying133
 a46:=Tryz.isAgg133
 z46:=Tryz.sizeOf133
 v46:=Tryz.zeroValue133
 t51:=Tryz.underlying168
 a51:=Tryz.isAgg168
 z51:=Tryz.sizeOf168
 v51:=Tryz.zeroValue168
 t53:=Tryz.underlying244
 a53:=Tryz.isAgg244
 z53:=Tryz.sizeOf244
 v53:=Tryz.zeroValue244
 t75:=Tryz.underlying34
 a75:=Tryz.isAgg34
 z75:=Tryz.sizeOf34
 v75:=Tryz.zeroValue34
 t76:=Tryz.underlying92
 a76:=Tryz.isAgg92
 z76:=Tryz.sizeOf92
 v76:=Tryz.zeroValue92
 t85:=Tryz.underlying253
 a85:=Tryz.isAgg253
 z85:=Tryz.sizeOf253
 v85:=Tryz.zeroValue253
 t127:=Tryz.underlying150
 a127:=Tryz.isAgg150
 z127:=Tryz.sizeOf150
 v127:=Tryz.zeroValue150
 t143:=Tryz.underlying297
 a143:=Tryz.isAgg297
 z143:=Tryz.sizeOf297
 v143:=Tryz.zeroValue297
 t145:=Tryz.underlying299
 a145:=Tryz.isAgg299
 z145:=Tryz.sizeOf299
 v145:=Tryz.zeroValue299
 t167:=Tryz.underlying276
 a167:=Tryz.isAgg276
 z167:=Tryz.sizeOf276
 v167:=Tryz.zeroValue276
 t168:=Tryz.underlying279
 a168:=Tryz.isAgg279
 z168:=Tryz.sizeOf279
 v168:=Tryz.zeroValue279
 t171:=Tryz.underlying300
 a171:=Tryz.isAgg300
 z171:=Tryz.sizeOf300
 v171:=Tryz.zeroValue300
 t173:=Tryz.underlying302
 a173:=Tryz.isAgg302
 z173:=Tryz.sizeOf302
 v173:=Tryz.zeroValue302
 t175:=Tryz.underlying277
 a175:=Tryz.isAgg277
 z175:=Tryz.sizeOf277
 v175:=Tryz.zeroValue277
 t210:=Tryz.underlying288
 a210:=Tryz.isAgg288
 z210:=Tryz.sizeOf288
 v210:=Tryz.zeroValue288
 t212:=Tryz.underlying305
 a212:=Tryz.isAgg305
 z212:=Tryz.sizeOf305
 v212:=Tryz.zeroValue305
 t213:=Tryz.underlying306
 a213:=Tryz.isAgg306
 z213:=Tryz.sizeOf306
 t232:=Tryz.underlying307
 a232:=Tryz.isAgg307
 z232:=Tryz.sizeOf307
 v232:=Tryz.zeroValue307
 t233:=Tryz.underlying308
 a233:=Tryz.isAgg308
 z233:=Tryz.sizeOf308
 v233:=Tryz.zeroValue308
 g15:=by kernel_rfl
 g16:=by kernel_rfl
 g17:=by kernel_rfl
 g18:=by kernel_rfl
 g19:=by kernel_rfl
 t80:=Tryz.underlying94
 a80:=Tryz.isAgg94
 z80:=Tryz.sizeOf94
 v80:=Tryz.zeroValue94
 i0:=by kernel_rfl
 i2:=by kernel_rfl
 i3:=by kernel_rfl
 i4:=by kernel_rfl
 i5:=by kernel_rfl
 i9:=by kernel_rfl
 i20:=by kernel_rfl
 i21:=by kernel_rfl
 i37:=by kernel_rfl
 i46:=by kernel_rfl
 i51:=by kernel_rfl
 i53:=by kernel_rfl
 i75:=by kernel_rfl
 i76:=by kernel_rfl
 i80:=by kernel_rfl
 i85:=by kernel_rfl
 i127:=by kernel_rfl
 i143:=by kernel_rfl
 i145:=by kernel_rfl
 i167:=by kernel_rfl
 i168:=by kernel_rfl
 i171:=by kernel_rfl
 i173:=by kernel_rfl
 i175:=by kernel_rfl
 i210:=by kernel_rfl
 i212:=by kernel_rfl
 i232:=by kernel_rfl
 i233:=by kernel_rfl
 m15:=by kernel_rfl
 m16:=by kernel_rfl
 m17:=by kernel_rfl
 m18:=by kernel_rfl
 m19:=by kernel_rfl
 c0:=by kernel_rfl
 c2:=by kernel_rfl
 c3:=by kernel_rfl
 c4:=by kernel_rfl
 c5:=by kernel_rfl
 c9:=by kernel_rfl
 c20:=by kernel_rfl
 c21:=by kernel_rfl
 c37:=by kernel_rfl
 c46:=by kernel_rfl
 c51:=by kernel_rfl
 c53:=by kernel_rfl
 c75:=by kernel_rfl
 c76:=by kernel_rfl
 c80:=by kernel_rfl
 c85:=by kernel_rfl
 c127:=by kernel_rfl
 c143:=by kernel_rfl
 c145:=by kernel_rfl
 c167:=by kernel_rfl
 c168:=by kernel_rfl
 c171:=by kernel_rfl
 c173:=by kernel_rfl
 c175:=by kernel_rfl
 c210:=by kernel_rfl
 c212:=by kernel_rfl
 c213:=by kernel_rfl
 c232:=by kernel_rfl
 c233:=by kernel_rfl }
theorem aF6 (s:List UInt8)(hs:s.length<=1000000)(cf:s≠[])(hd:∀c∈s,e9 c=true)(w:World)(h:mr w):aw Tryz.prog 188 [str s] w λr w' =>
  (r=.tuple #[.int .i64 (AG s),.nilIface]\/(12<AG s/\∃v t p,r=.tuple #[.int .i64 v,.iface t p]))/\Below w.heap.size w w':=by
 obtain⟨⟨t1,p1,h1⟩,⟨t2,p2,h2⟩⟩:=h;refine dB Tryz.func188 (by kernel_rfl) (by kernel_rfl) ?_;rcases WR cf hd with ha|⟨ha,hb⟩
 ·refine Calls.mono (Any.strconv_Atoi_ok aEW ⟨s.toArray⟩ (by show s.length<=_;omega) _ ha w) ?_
  rintro e w' ⟨rfl,hw⟩;refine⟨_,rfl,.inl rfl,?_⟩;rcases hw with rfl|⟨t,rfl⟩
  ·exact Below.refl _ _
  exact Lib.bytesWorld_below _ _ _
 refine Calls.mono (Any.strconv_Atoi_range aEW ⟨s.toArray⟩ (by show s.length<=_;omega) ha _ w h2 (.inr ⟨_,_,rfl⟩)) ?_
 rintro e w' ⟨N,rfl,_,_,hw⟩;exact⟨_,rfl,.inr ⟨hb,_,_,_,rfl⟩,hw⟩
theorem RW {pb B:Nat}{w:World}{l:List Tok}(h:PS pb B w l):Pc 170 [.pointer (some ⟨pb,0,none⟩)] pb B w l kD (λ_ r n=>r=.int .i64 (n:Int)/\n<=12):=by
 obtain⟨t,r,rfl⟩:=h.tl.cons;obtain⟨b,o,c,hB,hc,cf,c0,c1,c2,c3⟩:=h.hd;have cb:w.cell? ⟨pb,0,none⟩=some (.slice (some ⟨b,o,none⟩) (r.length+1) c):=hB.cell rfl;have hle:=h.le;have aq:=h.lt;refine bR Tryz.func170 rfl (by kernel_rfl) [.tmp 2] rfl ?_;push_cast -dsimp(maxSteps:=9^7) [Tryz.ntmps170];push_cast -dsimp[cb,Nat.zero_mul,Nat.add_zero,c3];refine⟨by omega,?_⟩;refine ah (z:=[.int .i64 0,str [],.int .i64 0]) (by kernel_rfl) ?_;intro w1 aU;have B1:=aU.aL;have P1:=h.below aU.below;have z1:=aU.size;have b1:=aU.below;push_cast -dsimp;refine aI (xt:=107) (n:=3) (by kernel_rfl) B1 rfl (by decide) (by simp;exact⟨rfl,rfl,rfl⟩) ?_;intro w2 bP;have B2:aN w2 w.heap.size 107 [.int .i64 t.kind,str t.text,.int .i64 t.pos]:=bP.aL;have P2:=P1.kept bP.kept (λi hi=>by omega);have z2:=bP.size;have b2:=b1.trans (bP.kept.below (B:=w.heap.size) (by omega) (λi h=>by omega));have k2:Kept (·=pb) w w2:=Kept.aQ b2 (λi h1 h2=>by omega);have d0:w2.cell? ⟨w.heap.size,0,none⟩=some (.int .i64 t.kind):=B2.cell rfl;have d1:w2.cell? ⟨w.heap.size,1,none⟩=some (str t.text):=B2.cell rfl;push_cast -dsimp[d0];refine⟨λhk=>?_,λhk=>?_⟩
 ·have nh:isKind 2 (t::r)=false:=by
   have:t.kind≠2:=λe=>hk (by omega);simp[isKind,Cae.hd,this]
  refine aF (jo 3 P2) (λ_ _ h=>h.elim) ?_;rintro c w4 ⟨ht,hb⟩;push_cast -dsimp;exact⟨3,_,by unfold kD bE;rw[nh];rfl,ht.mono (by omega),k2.trans (Kept.aQ hb (X:=(·=pb)) (λi h1 h2=>by omega)) (λi _ h=>h)⟩
 have EA:t.kind=2:=by omega
 have nh:isKind 2 (t::r)=true:=by simp[isKind,Cae.hd,EA]
 have Y4:=h.tl.num t (by simp) EA;push_cast -dsimp[d1];refine aA (aF6 t.text (h.tl.txt t (by simp)) Y4.1 Y4.2 w2 P2.er) ?_;rintro rv w3 ⟨hr,b3⟩;have P3:=P2.below b3;have z3:=b3.size;have k3:Kept (·=pb) w w3:=k2.trans (Kept.aQ b3 (X:=(·=pb)) (λi h1 h2=>by omega)) (λi _ h=>h);have tK:12<AG t.text->kD (t::r)=.error (4,(Cae.hd (t::r)).pos):=λAK=>by
  unfold kD bE;rw[nh];simp[Cae.pb,dr,Cae.hd,AK,eJ]
 rcases hr with rfl|⟨AK,v,t',p,rfl⟩
 ·push_cast -dsimp;refine⟨λhh=>?_,λhh=>?_⟩
  ·refine aF (jo 4 P3) (λ_ _ h=>h.elim) ?_;rintro c w4 ⟨ht,hb⟩;push_cast -dsimp;exact⟨4,_,tK (by omega),ht.mono (by omega),k3.trans (Kept.aQ hb (X:=(·=pb)) (λi h1 h2=>by omega)) (λi _ h=>h)⟩
  have h5:t.kind≠5:=by omega
  obtain⟨b4,o4,c4,ER,TE,aQH,_,_,_,_⟩:=P3.hd;have cb4:w3.cell? ⟨pb,0,none⟩=some (.slice (some ⟨b4,o4,none⟩) (r.length+1) c4):=ER.cell rfl;push_cast -dsimp[cb4,Iw];refine⟨by omega,?_⟩;refine aC ER (by simp) rfl ?_;intro w4 aj;have P4:=P3.pop ER h5 aj;have k4:=k3.trans aj.kept (λi _ h=>h);push_cast -dsimp;have AK:¬12<AG t.text:=by omega
  exact⟨AG t.text,r,by unfold kD bE;rw[nh];simp[Cae.pb,dr,Cae.hd,AK,cZ,h5,pr],⟨rfl,by omega⟩,P4,k4⟩
 push_cast -dsimp;refine aF (jo 4 P3) (λ_ _ h=>h.elim) ?_;rintro c w4 ⟨ht,hb⟩;push_cast -dsimp;exact⟨4,_,tK (by omega),ht.mono (by omega),k3.trans (Kept.aQ hb (X:=(·=pb)) (λi h1 h2=>by omega)) (λi _ h=>h)⟩
def bx (b:Nat):Value:=.pointer (some ⟨b,0,none⟩)
def fU (b:Nat):List Value:=[bx b]
theorem nF (b:Nat):∀u∈fU b,u.oneCell'=true:=by
 intro u hu;simp[fU,bx]at hu;subst hu;rfl
mutual
def au (X:Nat->Prop)(w:World):Value->aG->Prop
 | v,.one k=>∃b u,v=.pointer (some ⟨b,0,none⟩)/\¬X b/\aN w b 158 [.int .i64 1,u,.slice none 0 0,.int .i64 0,.int .i64 0]/\fE X w u k
 | v,.any=>∃b,v=.pointer (some ⟨b,0,none⟩)/\¬X b/\aN w b 158 [.int .i64 2,.pointer none,.slice none 0 0,.int .i64 0,.int .i64 0]
 | v,.gh=>∃b,v=.pointer (some ⟨b,0,none⟩)/\¬X b/\aN w b 158 [.int .i64 3,.pointer none,.slice none 0 0,.int .i64 0,.int .i64 0]
 | v,.cat l=>∃b sv vs,v=.pointer (some ⟨b,0,none⟩)/\¬X b/\aN w b 158 [.int .i64 4,.pointer none,sv,.int .i64 0,.int .i64 0]/\Sl X 1 (En fU) w sv vs/\aR X w vs l
 | v,.alt l=>∃b sv vs,v=.pointer (some ⟨b,0,none⟩)/\¬X b/\aN w b 158 [.int .i64 5,.pointer none,sv,.int .i64 0,.int .i64 0]/\Sl X 1 (En fU) w sv vs/\aR X w vs l
 | v,.many x lo hi=>∃b sv u,v=.pointer (some ⟨b,0,none⟩)/\¬X b/\aN w b 158 [.int .i64 6,.pointer none,sv,.int .i64 lo,.int .i64 hi]/\Sl X 1 (En fU) w sv [u]/\au X w (bx u) x
def aR (X:Nat->Prop)(w:World):List Nat->List aG->Prop
 | [],[]=>True
 | v::vs,x::l=>au X w (bx v) x/\aR X w vs l
 | _,_=>False
end
mutual
theorem au.mono {X X' Y:Nat->Prop}{w w':World}(hk:Kept Y w w')(hY:∀i,Y i->X i)(hX:∀i,X' i->X i):∀{x:aG} {v:Value},au X w v x->au X' w' v x
 | .one k,v,h=>by
  simp only[au]at h ⊢
  obtain⟨b,u,hv,hb,hB,h⟩:=h;exact⟨b,u,hv,λhh=>hb (hX b hh),hB.kept hk (λhh=>hb (hY b hh)),h.mono hk hY hX⟩
 | .any,v,h=>by
  simp only[au]at h ⊢
  obtain⟨b,hv,hb,hB⟩:=h;exact⟨b,hv,λhh=>hb (hX b hh),hB.kept hk (λhh=>hb (hY b hh))⟩
 | .gh,v,h=>by
  simp only[au]at h ⊢
  obtain⟨b,hv,hb,hB⟩:=h;exact⟨b,hv,λhh=>hb (hX b hh),hB.kept hk (λhh=>hb (hY b hh))⟩
 | .cat l,v,h=>by
  simp only[au]at h ⊢
  obtain⟨b,sv,vs,hv,hb,hB,hs,h⟩:=h;exact⟨b,sv,vs,hv,λhh=>hb (hX b hh),hB.kept hk (λhh=>hb (hY b hh)),(hs.kept hk hY).weaken hX,aR.mono hk hY hX h⟩
 | .alt l,v,h=>by
  simp only[au]at h ⊢
  obtain⟨b,sv,vs,hv,hb,hB,hs,h⟩:=h;exact⟨b,sv,vs,hv,λhh=>hb (hX b hh),hB.kept hk (λhh=>hb (hY b hh)),(hs.kept hk hY).weaken hX,aR.mono hk hY hX h⟩
 | .many x lo hi,v,h=>by
  simp only[au]at h ⊢
  obtain⟨b,sv,u,hv,hb,hB,hs,h⟩:=h;exact⟨b,sv,u,hv,λhh=>hb (hX b hh),hB.kept hk (λhh=>hb (hY b hh)),(hs.kept hk hY).weaken hX,au.mono hk hY hX h⟩
theorem aR.mono {X X' Y:Nat->Prop}{w w':World}(hk:Kept Y w w')(hY:∀i,Y i->X i)(hX:∀i,X' i->X i):∀{l:List aG} {vs:List Nat},aR X w vs l->aR X' w' vs l
 | [],[],_=>by simp only[aR]
 | [],_::_,h=>by simp only[aR]at h
 | _::_,[],h=>by simp only[aR]at h
 | x::l,v::vs,h=>by
  simp only[aR]at h ⊢
  exact⟨au.mono hk hY hX h.1,aR.mono hk hY hX h.2⟩
end
mutual
theorem au.top {X:Nat->Prop}{w:World}:∀{x:aG} {v:Value},au X w v x->au (λb=>X b\/w.heap.size<=b) w v x
 | .one k,v,h=>by
  simp only[au]at h ⊢
  obtain⟨b,u,hv,hb,hB,h⟩:=h;exact⟨b,u,hv,λhh=>hh.elim hb (λhh=>by have:=hB.lt;omega),hB,h.top⟩
 | .any,v,h=>by
  simp only[au]at h ⊢
  obtain⟨b,hv,hb,hB⟩:=h;exact⟨b,hv,λhh=>hh.elim hb (λhh=>by have:=hB.lt;omega),hB⟩
 | .gh,v,h=>by
  simp only[au]at h ⊢
  obtain⟨b,hv,hb,hB⟩:=h;exact⟨b,hv,λhh=>hh.elim hb (λhh=>by have:=hB.lt;omega),hB⟩
 | .cat l,v,h=>by
  simp only[au]at h ⊢
  obtain⟨b,sv,vs,hv,hb,hB,hs,h⟩:=h;exact⟨b,sv,vs,hv,λhh=>hh.elim hb (λhh=>by have:=hB.lt;omega),hB,Sl.top (by decide) hs,aR.top h⟩
 | .alt l,v,h=>by
  simp only[au]at h ⊢
  obtain⟨b,sv,vs,hv,hb,hB,hs,h⟩:=h;exact⟨b,sv,vs,hv,λhh=>hh.elim hb (λhh=>by have:=hB.lt;omega),hB,Sl.top (by decide) hs,aR.top h⟩
 | .many x lo hi,v,h=>by
  simp only[au]at h ⊢
  obtain⟨b,sv,u,hv,hb,hB,hs,h⟩:=h;exact⟨b,sv,u,hv,λhh=>hh.elim hb (λhh=>by have:=hB.lt;omega),hB,Sl.top (by decide) hs,au.top h⟩
theorem aR.top {X:Nat->Prop}{w:World}:∀{l:List aG} {vs:List Nat},aR X w vs l->aR (λb=>X b\/w.heap.size<=b) w vs l
 | [],[],_=>by simp only[aR]
 | [],_::_,h=>by simp only[aR]at h
 | _::_,[],h=>by simp only[aR]at h
 | x::l,v::vs,h=>by
  simp only[aR]at h ⊢
  exact⟨au.top h.1,aR.top h.2⟩
end
theorem au.ptr {X:Nat->Prop}{w:World}{x:aG}{v:Value}(h:au X w v x):∃b,v=.pointer (some ⟨b,0,none⟩)/\b<w.heap.size/\¬X b:=by
 cases x<;>simp only[au]at h
 ·obtain⟨b,u,hv,hx,hB,_⟩:=h;exact⟨b,hv,hB.lt,hx⟩
 ·obtain⟨b,hv,hx,hB⟩:=h;exact⟨b,hv,hB.lt,hx⟩
 ·obtain⟨b,hv,hx,hB⟩:=h;exact⟨b,hv,hB.lt,hx⟩
 ·obtain⟨b,_,_,hv,hx,hB,_⟩:=h;exact⟨b,hv,hB.lt,hx⟩
 ·obtain⟨b,_,_,hv,hx,hB,_⟩:=h;exact⟨b,hv,hB.lt,hx⟩
 obtain⟨b,_,_,hv,hx,hB,_⟩:=h;exact⟨b,hv,hB.lt,hx⟩
theorem au.below {X:Nat->Prop}{w w':World}{x:aG}{v:Value}(h:au X w v x)(hb:Below w.heap.size w w'):au X w' v x :=
 h.mono (X:=X) (Kept.aQ hb (X:=λ_=>False) (λi h1 h2=>by omega)) (λ_ h=>h.elim) (λ_ h=>h)
theorem aR.snoc {X:Nat->Prop}{w:World}:∀{l:List aG} {vs:List Nat} {x:aG} {v:Nat},aR X w vs l->au X w (bx v) x->aR X w (vs++[v]) (l++[x])
 | [],[],_,_,_,hx=>by
  simp only[List.nil_append,aR];exact⟨hx,trivial⟩
 | [],_::_,_,_,h,_=>by simp only[aR]at h
 | _::_,[],_,_,h,_=>by simp only[aR]at h
 | x::l,v::vs,y,u,h,hx=>by
  simp only[aR,List.cons_append]at h ⊢
  exact⟨h.1,aR.snoc h.2 hx⟩
theorem aR.len {X:Nat->Prop}{w:World}:∀{l:List aG} {vs:List Nat},aR X w vs l->vs.length=l.length
 | [],[],_=>rfl
 | [],_::_,h=>by simp only[aR]at h
 | _::_,[],h=>by simp only[aR]at h
 | x::l,v::vs,h=>by
  simp only[aR]at h;simp[aR.len h.2]
def Pn (d:Nat):Prop:=∀(n:Int),0<=n->n+(d:Int)=9->∀(pb B:Nat) (w:World) (l:List Tok),PS pb B w l->Pc 169 [.pointer (some ⟨pb,0,none⟩),.int .i64 n] pb B w l (ax d) (λw' r x=>au (·<w.heap.size) w' r x)
def Vr (d:Nat):Prop:=∀(n:Int),0<=n->n+(d:Int)=9->∀(pb B:Nat) (w:World) (l:List Tok),PS pb B w l->Pc 134 [.pointer (some ⟨pb,0,none⟩),.int .i64 n] pb B w l (aZ d (ax d)) (λw' r x=>au (·<w.heap.size) w' r x)
def aJU (d:Nat):Prop:=∀(n:Int),0<=n->n+(d:Int)=9->∀(pb B:Nat) (w:World) (l:List Tok),PS pb B w l->Pc 109 [.pointer (some ⟨pb,0,none⟩),.int .i64 n] pb B w l (iw (aZ d (ax d))) (λw' r x=>au (·<w.heap.size) w' r x)
def aF1 (d:Nat):Prop:=∀(n:Int),0<=n->n+(d:Int)=9->∀(pb B:Nat) (w:World) (l:List Tok),PS pb B w l->Pc 71 [.pointer (some ⟨pb,0,none⟩),.int .i64 n] pb B w l (ry d) (λw' r x=>au (·<w.heap.size) w' r x)
theorem GY:Pn 0:=by
 intro n yE hn pb B w l h;refine bR Tryz.func169 rfl (by kernel_rfl) [.tmp 4] rfl ?_;push_cast -dsimp(maxSteps:=9^7) [Tryz.ntmps169];refine aF (nD n h) ?_ ?_
 ·rintro _ _ ⟨h8,rfl,rfl⟩;omega
 rintro c w' ⟨h8,ht,hb⟩;push_cast -dsimp;exact⟨4,_,rfl,ht,Kept.aQ hb (λi h1 h2=>by omega)⟩
theorem GX (d:Nat)(ihp:aF1 d):Pn (d+1):=by
 intro n yE hn pb B w l0 h0;obtain⟨t,r,Mh⟩:=h0.tl.cons;have YZ:Cae.hd l0=t:=by rw[Mh];rfl
 have EO:=h0;rw[Mh]at EO;obtain⟨b,o,c,hB,hc,cf,c0,c1,c2,c3⟩:=EO.hd;have cb:w.cell? ⟨pb,0,none⟩=some (.slice (some ⟨b,o,none⟩) (r.length+1) c):=hB.cell rfl;have hle:=h0.le;have aq:=h0.lt;have CH:ax (d+1) l0=bE (dm [46]) (Cae.pb cZ λ_=>pr .any)
  (bE (dm [36]) (Cae.pb cZ λ_=>pr .gh)
  (bE (dm [40]) (Cae.pb cZ λ_=>Cae.pb (ry d) λx=>Cae.pb (dM [41]) λ_=>pr x)
  (bE jb (Cae.pb (mA (d+1)) λk=>pr (.one k)) (eJ 3)))) l0:=rfl
 refine bR Tryz.func169 rfl (by kernel_rfl) [.tmp 4] rfl ?_;push_cast -dsimp(maxSteps:=9^7) [Tryz.ntmps169];refine aF (nD n h0) ?_ (λc w' hh=>by have:=hh.1;omega);rintro _ w0 ⟨h8,rfl,AW⟩;obtain rfl:w=w0:=AW.symm;push_cast -dsimp;refine aA (gZ [46] h0) ?_;rintro _ w2 hT;rcases hT with ⟨gE,rfl,t1,r1,n5,AM,P2,kt,hz⟩|⟨gE,rfl,r6⟩
 ·have lz:cZ l0=.ok ((),r1):=by rw[n5];exact dq AM
  push_cast -dsimp;refine aS ?_;intro w3 dA;have B3:aN w3 w2.heap.size 158 [.int .i64 2,.pointer none,.slice none 0 0,.int .i64 0,.int .i64 0]:=dA.aL;have P3:=P2.below dA.below;have k3:=kt.trans (Kept.new (X:=(·=pb)) dA) (λi _ h=>h);push_cast -dsimp;refine⟨.any,r1,?_,?_,P3,k3⟩
  ·rw[CH];unfold bE;rw[gE,if_pos rfl,aJ lz];rfl
  simp only[au];exact⟨_,rfl,by omega,B3⟩
 obtain rfl:w=w2:=r6.symm;push_cast -dsimp;refine aA (gZ [36] h0) ?_;rintro _ w2 hT;rcases hT with ⟨iC,rfl,t1,r1,n5,AM,P2,kt,hz⟩|⟨iC,rfl,r6⟩
 ·have lz:cZ l0=.ok ((),r1):=by rw[n5];exact dq AM
  push_cast -dsimp;refine aS ?_;intro w3 dA;have B3:aN w3 w2.heap.size 158 [.int .i64 3,.pointer none,.slice none 0 0,.int .i64 0,.int .i64 0]:=dA.aL;have P3:=P2.below dA.below;have k3:=kt.trans (Kept.new (X:=(·=pb)) dA) (λi _ h=>h);push_cast -dsimp;refine⟨.gh,r1,?_,?_,P3,k3⟩
  ·rw[CH];unfold bE;rw[gE,iC,if_neg (by decide),if_pos rfl,aJ lz];rfl
  simp only[au];exact⟨_,rfl,by omega,B3⟩
 obtain rfl:w=w2:=r6.symm;push_cast -dsimp;refine aA (gZ [40] h0) ?_;rintro _ w2 hT;rcases hT with ⟨mV,rfl,t1,r1,n5,AM,P2,kt,hz⟩|⟨mV,rfl,r6⟩
 ·have lz:cZ l0=.ok ((),r1):=by rw[n5];exact dq AM
  have qC:ax (d+1) l0=Cae.pb (ry d) (λx=>Cae.pb (dM [41]) λ_=>pr x) r1:=by
   rw[CH];unfold bE;rw[gE,iC,mV,if_neg (by decide),if_neg (by decide),if_pos rfl,aJ lz]
  push_cast -dsimp;refine⟨⟨by omega,by omega⟩,?_⟩;refine aF (ihp (n+1) (by omega) (by omega) pb B w2 r1 P2) ?_ ?_
  ·rintro u w3 ⟨x,l3,e3,V3,P3,k3⟩;push_cast -dsimp;refine aF (fy [41] P3) ?_ ?_
   ·rintro _ w4 ⟨_,l4,e4,rfl,P4,k4⟩;push_cast -dsimp;have z3:=k3.size;refine⟨x,l4,?_,V3.mono k4 (λi h=>by omega) (λi h=>by omega),P4,(kt.trans k3 (λi _ h=>h)).trans k4 (λi _ h=>h)⟩;rw[qC,aJ e3,aJ e4];rfl
   rintro c w4 ⟨e,pos,he,ht,hk⟩;push_cast -dsimp;have z3:=k3.size;refine⟨e,pos,?_,ht.mono (by omega),(kt.trans k3 (λi _ h=>h)).trans hk (λi _ h=>h)⟩;rw[qC,aJ e3];unfold Cae.pb;rw[he]
  rintro c w3 ⟨e,pos,he,ht,hk⟩;push_cast -dsimp;refine⟨e,pos,?_,ht.mono (by omega),kt.trans hk (λi _ h=>h)⟩;rw[qC];unfold Cae.pb;rw[he]
 obtain rfl:w=w2:=r6.symm;have rB:jb l0=(t.kind == 3 || jw l0):=by unfold jb isKind;rw[YZ]
 push_cast -dsimp[cb,c0];have uP:jb l0=true->ax (d+1) l0=Cae.pb (mA (d+1)) (λk=>pr (.one k)) l0:=λhu=>by
  rw[CH];unfold bE;rw[gE,iC,mV,hu,if_neg (by decide),if_neg (by decide),if_neg (by decide),if_pos rfl]
 refine⟨by omega,λh3=>?_,λh3=>?_⟩
 ·refine aA (IY h0) ?_;rintro _ w1 ⟨rfl,b1⟩;have P1:=h0.below b1;have k1:Kept (·=pb) w w1:=Kept.aQ b1 (λi h1 h2=>by omega);have z1:=b1.size;have Bs:(t.kind == 3)=false:=by
   have:t.kind≠3:=λe=>h3 (by omega);simpa using this
  rw[Bs,Bool.false_or]at rB;cases oo:jw l0 with
  | true =>
   have qC:=uP (by rw[rB,oo]);push_cast -dsimp;refine aF (Qw (d+1) n (by omega) (by omega) pb B w1 l0 P1) ?_ ?_
   ·rintro u w3 ⟨k,l3,e3,V3,P3,k3⟩;obtain⟨ub,rfl,JW⟩:=V3.ptr;push_cast -dsimp;refine aS ?_;intro w4 aj;have B4:aN w4 w3.heap.size 158 [.int .i64 1,.pointer (some ⟨ub,0,none⟩),.slice none 0 0,.int .i64 0,.int .i64 0]:=aj.aL;have P4:=P3.below aj.below;have z3:=k3.size;have k4:=(k1.trans k3 (λi _ h=>h)).trans (Kept.new (X:=(·=pb)) aj) (λi _ h=>h);push_cast -dsimp;refine⟨.one k,l3,?_,?_,P4,k4⟩
    ·rw[qC,aJ e3];rfl
    simp only[au];exact⟨_,_,rfl,by omega,B4,V3.mono (Kept.new (X:=λ_=>False) aj) (λ_ h=>h.elim) (λi h=>by omega)⟩
   rintro c w3 ⟨e,pos,he,ht,hk⟩;push_cast -dsimp;refine⟨e,pos,?_,ht.mono (by omega),k1.trans hk (λi _ h=>h)⟩;rw[qC];unfold Cae.pb;rw[he]
  | false =>
   push_cast -dsimp;refine aF (jo 3 P1) (λ_ _ h=>h.elim) ?_;rintro c w4 ⟨ht,hb⟩;push_cast -dsimp;refine⟨3,_,?_,ht.mono (by omega),k1.trans (Kept.aQ hb (X:=(·=pb)) (λi h1 h2=>by omega)) (λi _ h=>h)⟩;rw[CH];unfold bE;rw[gE,iC,mV,rB,oo,if_neg (by decide),if_neg (by decide),if_neg (by decide),if_neg (by decide)];rfl
 have qC:=uP (by
  have:t.kind=3:=by omega
  rw[rB,this];rfl)
 have k1:Kept (·=pb) w w:=Kept.refl _ _;have z1:w.heap.size<=w.heap.size:=Nat.le_refl _;refine aF (Qw (d+1) n (by omega) (by omega) pb B w l0 h0) ?_ ?_
 ·rintro u w3 ⟨k,l3,e3,V3,P3,k3⟩;obtain⟨ub,rfl,JW⟩:=V3.ptr;push_cast -dsimp;refine aS ?_;intro w4 aj;have B4:aN w4 w3.heap.size 158 [.int .i64 1,.pointer (some ⟨ub,0,none⟩),.slice none 0 0,.int .i64 0,.int .i64 0]:=aj.aL;have P4:=P3.below aj.below;have z3:=k3.size;have k4:=(k1.trans k3 (λi _ h=>h)).trans (Kept.new (X:=(·=pb)) aj) (λi _ h=>h);push_cast -dsimp;refine⟨.one k,l3,?_,?_,P4,k4⟩
  ·rw[qC,aJ e3];rfl
  simp only[au];exact⟨_,_,rfl,by omega,B4,V3.mono (Kept.new (X:=λ_=>False) aj) (λ_ h=>h.elim) (λi h=>by omega)⟩
 rintro c w3 ⟨e,pos,he,ht,hk⟩;push_cast -dsimp;refine⟨e,pos,?_,ht.mono (by omega),k1.trans hk (λi _ h=>h)⟩;rw[qC];unfold Cae.pb;rw[he]
end Go.Proofs.YtemjejfpadnljaaGreatDoor
