/- Texts of this claim, merged: Par, Fp, Vq, Boom, Rp1, Rp2, Rp3, Rp4, Rp5. -/
import Derived.Test.YtledlfbbebodgaaGreatDoorM5
import Derived.Shelf.Strconv.AtoiAll
set_option maxRecDepth 100000
set_option linter.unusedSimpArgs false
set_option linter.unusedVariables false
set_option maxHeartbeats 8000000
section
namespace Go.Proofs.YtledlfbbebodgaaGreatDoor
open Go.Vc Go.Proofs Go.RowKit Cae
attribute [local irreducible] dd ae ak a7 runK bE Sl Vc.Own vc aU cJ a8
def Ko (B:Nat)(s:List UInt8)(r:Value)(w:World):Prop :=
 (∃v l,r=.tuple #[v,.nilIface]/\Go.Vc.Own B 46 2 bL w v l/\dH s l)\/((∀l,¬dH s l)/\r=.tuple #[.slice none 0 0,.iface 83 (.int .i64 3)])
def Kn (sz:Nat)(w:World)(s body:List UInt8)(pre:List (List UInt8))(W:World):Prop :=
 ∃v out,aM W sz 41 [.slice none 0 0]/\aM W (sz+1) 31 [.nilIface]/\aM W (sz+2) 9 [str body]/\aM W (sz+3) 41 [v]/\Go.Vc.Own (sz+9) 46 2 bL W v out/\out.length=pre.length/\(body=[]->out=[])/\(∀l,dH s l->out=l.take pre.length)/\Below sz w W
def Oc (sz:Nat)(w:World)(s body:List UInt8)(c:Code)(pre:List (List UInt8))(W:World):Prop :=
 (c=.ret/\aM W sz 41 [.slice none 0 0]/\aM W (sz+1) 31 [.iface 83 (.int .i64 3)]/\(∀l,¬dH s l)/\Below sz w W)\/(c=.exit 0/\body=[]/\Kn sz w s body [] W)
theorem Kn.kept {sz:Nat}{w W W':World}{s body:List UInt8}{pre:List (List UInt8)}(hw:sz=w.heap.size)(h:Kn sz w s body pre W)(hk:Kept (λk=>k=sz+4\/k=sz+7\/k=sz+7+1) W W'):Kn sz w s body pre W':=by
 obtain⟨v,out,h1,h2,h3,h4,h5,h6,h7,h8,h9⟩:=h;exact⟨v,out,h1.kept hk (by omega),h2.kept hk (by omega),h3.kept hk (by omega),h4.kept hk (by omega),h5.aI hk (λg hg hh=>by have:=(h5.block g hg).1;omega),h6,h7,h8,h9.trans (hk.below (by have:=h9.size;omega) (λi h=>by omega))⟩
theorem Oc.kept {sz:Nat}{w W W':World}{s body:List UInt8}{c:Code}{pre:List (List UInt8)}(hw:sz=w.heap.size)(h:Oc sz w s body c pre W)(hk:Kept (λk=>k=sz+4\/k=sz+7\/k=sz+7+1) W W'):Oc sz w s body c pre W':=by
 rcases h with ⟨h0,h1,h2,h3,h9⟩|⟨h0,h1,h2⟩
 ·exact .inl ⟨h0,h1.kept hk (by omega),h2.kept hk (by omega),h3,h9.trans (hk.below (by have:=h9.size;omega) (λi h=>by omega))⟩
 exact .inr ⟨h0,h1,h2.kept hw hk⟩
theorem jr {w W:World}{s:List UInt8}{r1 r2:Value}{D:Nat}(hD:D=w.heap.size+7)(P1:aM W w.heap.size 41 [r1])(P2:aM W (w.heap.size+1) 31 [r2])(hDW:W.heap[D]?=some (.deferred (some [])))(hb:Below w.heap.size w W)
  (hR:Ko w.heap.size s (.tuple #[r1,r2]) (W.putObj D (.deferred none))) {t:Fr} (h2:t.getD 2 undef=.pointer (some ⟨w.heap.size,0,none⟩)) (h3:t.getD 3 undef=.pointer (some ⟨w.heap.size+1,0,none⟩)) :
  bodyPostM Fence.wide 0 Tryz.prog Tryz.f160 (λe w'=>∃v,e=.returned v/\Ko w.heap.size s v w'/\Below w.heap.size w w') .ret ⟨t.toArray,[{ target:=.collected D,args:=#[] }]⟩ W:=by
 have hk:=yv (X:=λk=>k=D) W D (.deferred none) rfl;have Q1:=P1.kept hk (by omega);have Q2:=P2.kept hk (by omega);refine aFy (rs:=[.cell 2 41,.cell 3 31]) (by rfl) hDW ?_;have d1:(W.putObj D (.deferred none)).cell? ⟨w.heap.size,0,none⟩=some r1:=Q1.cell rfl;have d2:(W.putObj D (.deferred none)).cell? ⟨w.heap.size+1,0,none⟩=some r2:=Q2.cell rfl;have hgW:∃V,W.putObj D (.deferred none)=V:=⟨_,rfl⟩;obtain⟨V,hV⟩:=hgW;rw[hV]at d1 d2 hR hk ⊢
 push_cast -dsimp[h2,h3,d1,d2];exact⟨hR,hb.trans (hk.below hb.size (λi h=>by omega))⟩
theorem aBD (s:List UInt8)(hs:s.length<=1000000)(w:World)(hd:Db w)(he:mA w):bE Tryz.prog 160 [str s] w λr w'=>Ko w.heap.size s r w'/\Below w.heap.size w w':=by
 refine Pp Tryz.func160 rfl (by kernel_rfl) ?_;simp -dsimp (maxSteps:=4000000) only[push_cast,oy,Tryz.ntmps160,List.length_cons,List.length_nil,Nat.reduceAdd,Nat.reduceSub,Nat.reduceBEq,List.replicate_succ,List.replicate_zero];refine me (ro:=none) (by rfl) ?_;push_cast -dsimp;refine ag (z:=[.slice none 0 0]) (by kernel_rfl) ?_;intro w1 aZ;have sM:=aZ.size;have B1:=aZ.aN;have b1:=aZ.below;push_cast -dsimp;refine ag (z:=[.nilIface]) (by kernel_rfl) ?_;intro w2 bw;have HQ:=bw.size;have B12:=B1.below bw.below (by omega);have B22:=bw.aN;have b2:=b1.trans (bw.below.mono (by omega));rw[sM]at B22;push_cast -dsimp[sM];refine me (ro:=none) (by rfl) ?_;push_cast -dsimp;refine aA (U8 s [91] w2) ?_;rintro _ O8 ⟨rfl,rfl⟩;push_cast -dsimp;refine ag (z:=[str []]) (by kernel_rfl) ?_;intro w3 dZ;have TJ:=dZ.size;have B13:=B12.below dZ.below (by omega);have B23:=B22.below dZ.below (by omega);have B33:=dZ.aN;have b3:=b2.trans (dZ.below.mono (by omega));have es2:O8.heap.size=w.heap.size+2:=by omega
 rw[es2]at B33;push_cast -dsimp[es2];refine aC B33 (by simp) rfl ?_;intro w4 az;have Yu:w4.heap.size=w3.heap.size:=az.size;have B14:=B13.kept az.kept (by omega);have B24:=B23.kept az.kept (by omega);have B34:aM w4 (w.heap.size+2) 9 [str (Lib.trimPrefix s [91])]:=az.aN;have b4:=b3.trans (az.kept.below (B:=w.heap.size) (by omega) (λi h=>by omega));have c34:w4.cell? ⟨w.heap.size+2,0,none⟩=some (str (Lib.trimPrefix s [91])):=B34.cell rfl;have Kf:(Lib.trimPrefix s [91]).length<=s.length:=by
  unfold Lib.trimPrefix;split
  ·rw[List.length_drop];omega
  exact Nat.le_refl _
 push_cast -dsimp;refine me (ro:=none) (by rfl) ?_;push_cast -dsimp[c34];refine aA (Ua (Lib.trimPrefix s [91]) [93] (by omega) w4) ?_;rintro _ w4' ⟨rfl,rfl⟩;push_cast -dsimp;refine aC B34 (by simp) rfl ?_;intro w5 cO;have SX:w5.heap.size=w4'.heap.size:=cO.size;have B15:=B14.kept cO.kept (by omega);have B25:=B24.kept cO.kept (by omega);have yl:∃body,Lib.trimSuffix (Lib.trimPrefix s [91]) [93]=body:=⟨_,rfl⟩;obtain⟨body,sB⟩:=yl;have hbl:body.length<=s.length:=by
  rw[<-sB];unfold Lib.trimSuffix;split
  ·rw[List.length_take];omega
  exact Kf
 rw[sB]at cO;rw[sB];have B35:aM w5 (w.heap.size+2) 9 [str body]:=cO.aN;have b5:=b4.trans (cO.kept.below (B:=w.heap.size) (by omega) (λi h=>by omega));have c15:w5.cell? ⟨w.heap.size,0,none⟩=some (.slice none 0 0):=B15.cell rfl;have hgp:∃pf,Lib.hasPrefix s [91]=pf:=⟨_,rfl⟩;obtain⟨pf,hpf⟩:=hgp;have Cq:∃sf,Lib.hasSuffix (Lib.trimPrefix s [91]) [93]=sf:=⟨_,rfl⟩;obtain⟨sf,hsf⟩:=Cq;rw[hpf,hsf];push_cast -dsimp;refine me (ro:=none) (by rfl) ?_;cases xU:(pf && sf) with
 | false =>
  have eZ:∀l,¬dH s l:=λl h=>by
   have:=rV h;rw[hpf,hsf]at this;rw[this.1,this.2.1]at xU;cases xU
  cases pf<;>cases sf<;>first|(cases xU;done)|skip
  all_goals
   push_cast -dsimp
   refine aC B15 (by simp) rfl ?_
   intro w6 bZ
   have Mm:w6.heap.size=w5.heap.size:=bZ.size
   have B26:=B25.kept bZ.kept (by omega)
   have B16:aM w6 w.heap.size 41 [.slice none 0 0]:=bZ.aN
   push_cast -dsimp
   refine aC B26 (by simp) rfl ?_
   intro w7 fh
   have B17:=B16.kept fh.kept (by omega)
   have B27:aM w7 (w.heap.size+1) 31 [.iface 83 (.int .i64 3)]:=fh.aN
   have b7:=(b5.trans (bZ.kept.below (B:=w.heap.size) (by omega) (λi h=>by omega))).trans (fh.kept.below (B:=w.heap.size) (by omega) (λi h=>by omega))
   have d1:w7.cell? ⟨w.heap.size,0,none⟩=some (.slice none 0 0):=B17.cell rfl
   have d2:w7.cell? ⟨w.heap.size+1,0,none⟩=some (.iface 83 (.int .i64 3)):=B27.cell rfl
   push_cast -dsimp
   refine aFx (rs:=[.cell 2 41,.cell 3 31]) (by rfl) ?_
   push_cast -dsimp[d1,d2]
   exact⟨.inr ⟨eZ,rfl⟩,b7⟩
 | true =>
  cases pf<;>cases sf<;>first|(cases xU;done)|skip
  push_cast -dsimp;refine me (ro:=none) (by rfl) ?_;push_cast -dsimp;refine ag (z:=[.slice none 0 0]) (by kernel_rfl) ?_;intro w6 bZ;have Mm:=bZ.size;have B16:=B15.below bZ.below (by omega);have B26:=B25.below bZ.below (by omega);have B36:=B35.below bZ.below (by omega);have B46:=bZ.aN;have b6:=b5.trans (bZ.below.mono (by omega));have es5:w5.heap.size=w.heap.size+3:=by omega
  rw[es5]at B46;have c36:w6.cell? ⟨w.heap.size+2,0,none⟩=some (str body):=B36.cell rfl;push_cast -dsimp[es5];refine wpIn_seq (me (ro:=none) (by rfl) ?_);push_cast -dsimp[c36];refine aA (KD body 32 w6) ?_;rintro _ w7 ⟨rfl,hS,hP,hV,Mn,nw⟩;have es6:w6.heap.size=w.heap.size+4:=by omega
  rw[es6]at hS hP hV;have B17:=B16.below nw (by omega);have B27:=B26.below nw (by omega);have B37:=B36.below nw (by omega);have B47:=B46.below nw (by omega);have b7:=b6.trans (nw.mono (by omega));push_cast -dsimp[es6];have Zf:w7.heap.size=w.heap.size+7:=by omega
  have NZ:aM w7 (w.heap.size+4) 9 [str body]:=hS;refine wpIn_block (aFY (α:=List UInt8) (gf:=210) (lb:=[.pointer (some ⟨w.heap.size+4+1,0,none⟩),.pointer (some ⟨w.heap.size+4,0,none⟩),.pointer (some ⟨w.heap.size+4+2,0,none⟩)]) (by rfl) (λargs w=>bo Tryz.func210 (by kernel_rfl) (by kernel_rfl)) (en:=λx=>str x) (B:=λk=>k=w.heap.size+4) (Z:=λk=>k=w.heap.size+4\/k=w.heap.size+4+1\/k=w.heap.size+4+2)
   (λk hk=>by omega) (λk hk=>by omega) (YN body 32 (by omega) _ _ _ _ (by omega) (by omega) w7 hS hP hV) (Kn w.heap.size w s body) (Oc w.heap.size w s body) (λp W W' h hk=>h.kept rfl (by rw[Zf]at hk;exact hk)) (λc p W W' h hk=>h.kept rfl (by rw[Zf]at hk;exact hk)) ?_ 8 (by rfl) (by rfl) ?_ ?_ ?_ ?_)
  ·exact⟨_,[],B17,B27,B37,B47,Go.Vc.Own.nil (enc:=bL) _ _ (λ_=>rfl) _,rfl,λ_=>rfl,λl _=>rfl,b7⟩
  ·intro x W;push_cast -dsimp
  ·intro pre x W hI hA hWs;obtain⟨v,out,P1,P2,P3,P4,ho,Q9,fg,Qa,D8⟩:=hI;have Su:=D8.size;have cb:W.cell? ⟨w.heap.size+2,0,none⟩=some (str body):=P3.cell rfl;have jQ:x∈splitB 32 body:=hA.subset (by simp);have hxl:=pS 32 body x jQ;have aQo:pre.length<=body.length:=by
    have h1:=hA.length_le;have h2:=tM 32 body;rw[List.length_append,List.length_singleton]at h1;omega
   have Li:∀l,dH s l->aP (-2) l=true/\body=lM l:=λl hl=>⟨hl.1,by rw[<-sB];exact(rV hl).2.2⟩;push_cast -dsimp[cb];refine⟨λsg=>?_,λaAm=>?_⟩
   ·have sD:=fg sg;subst sD;exact⟨Nat.le_refl _,.inr ⟨rfl,sg,v,[],P1,P2,P3,P4,ho,rfl,λ_=>rfl,λl _=>rfl,D8⟩⟩
   refine aA (aHp x 45 (by omega) W) ?_;rintro _ w8 ⟨rfl,jg⟩;have hgc:∃a b two,mH 45 x=(a,b,two):=⟨_,_,_,rfl⟩;obtain⟨a,b,two,kT⟩:=hgc;have j1:=U7 45 x;rw[kT]at j1;rw[kT];obtain⟨hla,hlb⟩:=j1;dsimp only at hla hlb;cases two with
   | true =>
    have N3:∀l,dH s l->∃r,l[pre.length]?=some r/\0<=r.1/\r.1<=r.2/\r.2<=1114111/\a=gk r.1.toNat/\b=gk r.2.toNat:=λl hl=>by
     obtain⟨hr,jK⟩:=Li l hl;obtain⟨r,Iu,Nf,vx,hr3,hr4⟩:=xm hr jK aAm hA;rw[Nf]at kT;by_cases aw:r.1<r.2
     ·rw[LR (by omega) (by omega) (by omega) aw]at kT;exact⟨r,Iu,vx,hr3,hr4,(Prod.mk.inj kT).1.symm,(Prod.mk.inj (Prod.mk.inj kT).2).1.symm⟩
     rw[FD (by omega) (by omega) aw]at kT;cases (Prod.mk.inj (Prod.mk.inj kT).2).2
    push_cast -dsimp;refine aA (pO 32 (.inl rfl) a (by omega) w8 (he.below (D8.trans (jg.mono Su)))) ?_;rintro _ w9 ⟨⟨v1,e1,rfl,he1,HM⟩,qI⟩;push_cast -dsimp;refine aA (pO 32 (.inl rfl) b (by omega) w9 (he.below (D8.trans ((jg.tr qI).mono Su)))) ?_;rintro _ TK ⟨⟨v2,e2,rfl,he2,xV⟩,QH⟩;have kQ:=(jg.tr qI).tr QH;have Q1:=P1.below kQ (by omega);have Q2:=P2.below kQ (by omega);have Q3:=P3.below kQ (by omega);have Q4:=P4.below kQ (by omega);have hoq:=ho.below kQ;have I7:=D8.trans (kQ.mono Su);have hWq:=kQ.size;have pk:Kept (λ_=>False) W TK:=Kept.aO kQ (λi h1 h2=>by omega);have Ad:∀l,dH s l->∃r,l[pre.length]?=some r/\v1=r.1/\v2=r.2/\e1=.nilIface/\e2=.nilIface:=λl hl=>by
     obtain⟨r,Iu,vx,hr3,hr4,Kb,ha2⟩:=N3 l hl;have h1:=HM _ (by omega) Kb;have h2:=xV _ (by omega) ha2;exact⟨r,Iu,by rw[h1.1];omega,by rw[h2.1];omega,h1.2,h2.2⟩
    by_cases Vu:e1=.nilIface/\e2=.nilIface
    ·obtain⟨rfl,rfl⟩:=Vu;have cv:TK.cell? ⟨w.heap.size+3,0,none⟩=some v:=Q4.cell rfl;have eW:=hoq.slice;obtain⟨oa,oc,rfl⟩:=eW;push_cast -dsimp[cv];refine cT ir rfl rfl (by omega) ?_;intro Sf jo;have aKf:=jo.size;have Is:=hoq.new jo;have R4:=Q4.below jo.below (by omega);push_cast -dsimp;refine aS (base:=w.heap.size+9) [(v1,v2)] (enc:=bL) ir Is (by rfl) (λj u hu=>by simpa[bL] using jo.cell hu) jX (by simp only[List.length_cons,List.length_nil];omega) (by omega) ?_;intro v12 Sg Lh aED aNN;have kg:Kept (λj=>(Value.slice oa out.length oc).ownBlock=some j) Sf Sg:=Kept.grown aED (λ_ h=>h);have gN:=Is.block;have R5:aM Sg (w.heap.size+3) 41 [.slice oa out.length oc]:=R4.kept kg (λh=>by have:=(gN _ h).1;omega);push_cast -dsimp;have eW:=Lh.slice;obtain⟨va,vc,rfl⟩:=eW;refine aC R5 (by simp) rfl ?_;intro wU Lp;have yr:Kept (λj=>j=w.heap.size+3\/(Value.slice oa out.length oc).ownBlock=some j) TK wU:=((Kept.new (X:=λj=>j=w.heap.size+3\/(Value.slice oa out.length oc).ownBlock=some j) jo).trans kg (λ_ _ h=>.inr h)).trans Lp.kept (λ_ _ h=>.inl h);have sj:∀{k:Nat},k=w.heap.size+3\/(Value.slice oa out.length oc).ownBlock=some k->w.heap.size+9<=k\/k=w.heap.size+3:=λh=>by
      rcases h with h|h
      ·exact .inr h
      exact .inl (gN _ h).1
     have S1:=Q1.kept yr (λh=>by have:=sj h;omega);have S2:=Q2.kept yr (λh=>by have:=sj h;omega);have S3:=Q3.kept yr (λh=>by have:=sj h;omega);have S4:aM wU (w.heap.size+3) 41 [.slice va (out++[(v1,v2)]).length vc]:=Lp.aN;have aEZ:=Lh.aI Lp.kept (λg hg h=>by have:=(Lh.block g hg).1;omega);have hz:∀k,(k=w.heap.size+4\/k=w.heap.size+4+1\/k=w.heap.size+4+2)\/k=w7.heap.size\/k=w7.heap.size+1->wU.heap[k]?=W.heap[k]?:=λk hk =>
      (yr.block k (by omega) (λh=>by have:=sj h;omega)).trans (pk.block k (by omega) (λh=>h))
     have Fp:Kn w.heap.size w s body (pre++[x]) wU:=⟨_,out++[(v1,v2)],S1,S2,S3,S4,aEZ,by rw[List.length_append,List.length_append,Q9];rfl,λh=>absurd h aAm,λl hl=>by
       obtain⟨r,Iu,rfl,rfl,_,_⟩:=Ad l hl;have ht:l.take (pre++[x]).length=l.take pre.length++[r]:=by
        rw[List.length_append,List.length_singleton,List.take_add_one,Iu];rfl
       rw[ht,<-Qa l hl],I7.trans (yr.below (B:=w.heap.size) (by omega) (λi h=>by have:=sj h;omega))⟩
     have WS:W.heap.size<=wU.heap.size:=by have:=yr.size;omega
     push_cast -dsimp;exact⟨WS,hz,Fp⟩
    have ri:∀l,¬dH s l:=λl hl=>by
     obtain⟨r,_,_,_,h1,h2⟩:=Ad l hl;exact Vu ⟨h1,h2⟩
    have fin:∀(wU:World),aM wU w.heap.size 41 [.slice none 0 0]->aM wU (w.heap.size+1) 31 [.iface 83 (.int .i64 3)]->Kept (λk=>k=w.heap.size\/k=w.heap.size+1) TK wU->W.heap.size<=wU.heap.size/\(∀k,(k=w.heap.size+4\/k=w.heap.size+4+1\/k=w.heap.size+4+2)\/k=w7.heap.size\/k=w7.heap.size+1->wU.heap[k]?=W.heap[k]?)/\Oc w.heap.size w s body .ret (pre++[x]) wU:=λwU h1 h2 hk =>
     ⟨by have:=hk.size;omega,λk h=>(hk.block k (by omega) (by omega)).trans (pk.block k (by omega) (λh=>h)),.inl ⟨rfl,h1,h2,ri,I7.trans (hk.below (by omega) (λi h=>by omega))⟩⟩
    rcases he1 with rfl|⟨t1,x1,rfl⟩
    ·rcases he2 with rfl|⟨t2,x2,rfl⟩
     ·exact absurd ⟨rfl,rfl⟩ Vu
     push_cast -dsimp;refine aC Q1 (by simp) rfl ?_;intro Sf jo;have T2:=Q2.kept jo.kept (by omega);have T1:aM Sf w.heap.size 41 [.slice none 0 0]:=jo.aN;push_cast -dsimp;refine aC T2 (by simp) rfl ?_;intro Sg sw;have U1:=T1.kept sw.kept (by omega);have ni:=fin Sg U1 sw.aN ((jo.kept.weaken (λi _ h=>.inl h)).trans sw.kept (λi _ h=>.inr h));push_cast -dsimp;exact ni
    push_cast -dsimp;refine aC Q1 (by simp) rfl ?_;intro Sf jo;have T2:=Q2.kept jo.kept (by omega);have T1:aM Sf w.heap.size 41 [.slice none 0 0]:=jo.aN;push_cast -dsimp;refine aC T2 (by simp) rfl ?_;intro Sg sw;have U1:=T1.kept sw.kept (by omega);have ni:=fin Sg U1 sw.aN ((jo.kept.weaken (λi _ h=>.inl h)).trans sw.kept (λi _ h=>.inr h));push_cast -dsimp;exact ni
   | false =>
    have N3:∀l,dH s l->∃r,l[pre.length]?=some r/\0<=r.1/\r.1<=r.2/\r.2<=1114111/\a=gk r.1.toNat/\a=gk r.2.toNat:=λl hl=>by
     obtain⟨hr,jK⟩:=Li l hl;obtain⟨r,Iu,Nf,vx,hr3,hr4⟩:=xm hr jK aAm hA;rw[Nf]at kT;by_cases aw:r.1<r.2
     ·rw[LR (by omega) (by omega) (by omega) aw]at kT;cases (Prod.mk.inj (Prod.mk.inj kT).2).2
     rw[FD (by omega) (by omega) aw]at kT;have e2:r.2=r.1:=by omega
     exact⟨r,Iu,vx,hr3,hr4,(Prod.mk.inj kT).1.symm,by rw[e2];exact(Prod.mk.inj kT).1.symm⟩
    push_cast -dsimp;refine aA (pO 32 (.inl rfl) a (by omega) w8 (he.below (D8.trans (jg.mono Su)))) ?_;rintro _ w9 ⟨⟨v1,e1,rfl,he1,HM⟩,qI⟩;push_cast -dsimp;refine aA (pO 32 (.inl rfl) a (by omega) w9 (he.below (D8.trans ((jg.tr qI).mono Su)))) ?_;rintro _ TK ⟨⟨v2,e2,rfl,he2,xV⟩,QH⟩;have kQ:=(jg.tr qI).tr QH;have Q1:=P1.below kQ (by omega);have Q2:=P2.below kQ (by omega);have Q3:=P3.below kQ (by omega);have Q4:=P4.below kQ (by omega);have hoq:=ho.below kQ;have I7:=D8.trans (kQ.mono Su);have hWq:=kQ.size;have pk:Kept (λ_=>False) W TK:=Kept.aO kQ (λi h1 h2=>by omega);have Ad:∀l,dH s l->∃r,l[pre.length]?=some r/\v1=r.1/\v2=r.2/\e1=.nilIface/\e2=.nilIface:=λl hl=>by
     obtain⟨r,Iu,vx,hr3,hr4,Kb,ha2⟩:=N3 l hl;have h1:=HM _ (by omega) Kb;have h2:=xV _ (by omega) ha2;exact⟨r,Iu,by rw[h1.1];omega,by rw[h2.1];omega,h1.2,h2.2⟩
    by_cases Vu:e1=.nilIface/\e2=.nilIface
    ·obtain⟨rfl,rfl⟩:=Vu;have cv:TK.cell? ⟨w.heap.size+3,0,none⟩=some v:=Q4.cell rfl;have eW:=hoq.slice;obtain⟨oa,oc,rfl⟩:=eW;push_cast -dsimp[cv];refine cT ir rfl rfl (by omega) ?_;intro Sf jo;have aKf:=jo.size;have Is:=hoq.new jo;have R4:=Q4.below jo.below (by omega);push_cast -dsimp;refine aS (base:=w.heap.size+9) [(v1,v2)] (enc:=bL) ir Is (by rfl) (λj u hu=>by simpa[bL] using jo.cell hu) jX (by simp only[List.length_cons,List.length_nil];omega) (by omega) ?_;intro v12 Sg Lh aED aNN;have kg:Kept (λj=>(Value.slice oa out.length oc).ownBlock=some j) Sf Sg:=Kept.grown aED (λ_ h=>h);have gN:=Is.block;have R5:aM Sg (w.heap.size+3) 41 [.slice oa out.length oc]:=R4.kept kg (λh=>by have:=(gN _ h).1;omega);push_cast -dsimp;have eW:=Lh.slice;obtain⟨va,vc,rfl⟩:=eW;refine aC R5 (by simp) rfl ?_;intro wU Lp;have yr:Kept (λj=>j=w.heap.size+3\/(Value.slice oa out.length oc).ownBlock=some j) TK wU:=((Kept.new (X:=λj=>j=w.heap.size+3\/(Value.slice oa out.length oc).ownBlock=some j) jo).trans kg (λ_ _ h=>.inr h)).trans Lp.kept (λ_ _ h=>.inl h);have sj:∀{k:Nat},k=w.heap.size+3\/(Value.slice oa out.length oc).ownBlock=some k->w.heap.size+9<=k\/k=w.heap.size+3:=λh=>by
      rcases h with h|h
      ·exact .inr h
      exact .inl (gN _ h).1
     have S1:=Q1.kept yr (λh=>by have:=sj h;omega);have S2:=Q2.kept yr (λh=>by have:=sj h;omega);have S3:=Q3.kept yr (λh=>by have:=sj h;omega);have S4:aM wU (w.heap.size+3) 41 [.slice va (out++[(v1,v2)]).length vc]:=Lp.aN;have aEZ:=Lh.aI Lp.kept (λg hg h=>by have:=(Lh.block g hg).1;omega);have hz:∀k,(k=w.heap.size+4\/k=w.heap.size+4+1\/k=w.heap.size+4+2)\/k=w7.heap.size\/k=w7.heap.size+1->wU.heap[k]?=W.heap[k]?:=λk hk =>
      (yr.block k (by omega) (λh=>by have:=sj h;omega)).trans (pk.block k (by omega) (λh=>h))
     have Fp:Kn w.heap.size w s body (pre++[x]) wU:=⟨_,out++[(v1,v2)],S1,S2,S3,S4,aEZ,by rw[List.length_append,List.length_append,Q9];rfl,λh=>absurd h aAm,λl hl=>by
       obtain⟨r,Iu,rfl,rfl,_,_⟩:=Ad l hl;have ht:l.take (pre++[x]).length=l.take pre.length++[r]:=by
        rw[List.length_append,List.length_singleton,List.take_add_one,Iu];rfl
       rw[ht,<-Qa l hl],I7.trans (yr.below (B:=w.heap.size) (by omega) (λi h=>by have:=sj h;omega))⟩
     have WS:W.heap.size<=wU.heap.size:=by have:=yr.size;omega
     push_cast -dsimp;exact⟨WS,hz,Fp⟩
    have ri:∀l,¬dH s l:=λl hl=>by
     obtain⟨r,_,_,_,h1,h2⟩:=Ad l hl;exact Vu ⟨h1,h2⟩
    have fin:∀(wU:World),aM wU w.heap.size 41 [.slice none 0 0]->aM wU (w.heap.size+1) 31 [.iface 83 (.int .i64 3)]->Kept (λk=>k=w.heap.size\/k=w.heap.size+1) TK wU->W.heap.size<=wU.heap.size/\(∀k,(k=w.heap.size+4\/k=w.heap.size+4+1\/k=w.heap.size+4+2)\/k=w7.heap.size\/k=w7.heap.size+1->wU.heap[k]?=W.heap[k]?)/\Oc w.heap.size w s body .ret (pre++[x]) wU:=λwU h1 h2 hk =>
     ⟨by have:=hk.size;omega,λk h=>(hk.block k (by omega) (by omega)).trans (pk.block k (by omega) (λh=>h)),.inl ⟨rfl,h1,h2,ri,I7.trans (hk.below (by omega) (λi h=>by omega))⟩⟩
    rcases he1 with rfl|⟨t1,x1,rfl⟩
    ·rcases he2 with rfl|⟨t2,x2,rfl⟩
     ·exact absurd ⟨rfl,rfl⟩ Vu
     push_cast -dsimp;refine aC Q1 (by simp) rfl ?_;intro Sf jo;have T2:=Q2.kept jo.kept (by omega);have T1:aM Sf w.heap.size 41 [.slice none 0 0]:=jo.aN;push_cast -dsimp;refine aC T2 (by simp) rfl ?_;intro Sg sw;have U1:=T1.kept sw.kept (by omega);have ni:=fin Sg U1 sw.aN ((jo.kept.weaken (λi _ h=>.inl h)).trans sw.kept (λi _ h=>.inr h));push_cast -dsimp;exact ni
    push_cast -dsimp;refine aC Q1 (by simp) rfl ?_;intro Sf jo;have T2:=Q2.kept jo.kept (by omega);have T1:aM Sf w.heap.size 41 [.slice none 0 0]:=jo.aN;push_cast -dsimp;refine aC T2 (by simp) rfl ?_;intro Sg sw;have U1:=T1.kept sw.kept (by omega);have ni:=fin Sg U1 sw.aN ((jo.kept.weaken (λi _ h=>.inl h)).trans sw.kept (λi _ h=>.inr h));push_cast -dsimp;exact ni
  ·intro xs W hS hI hD;obtain⟨v,out,P1,P2,P3,P4,ho,Q9,fg,Qa,D8⟩:=hI;have hxl:xs.length<=body.length+1:=by rw[hS];exact tM 32 body
   have iu:∀l,dH s l->out=l:=λl hl=>by
    have jK:body=lM l:=by rw[<-sB];exact(rV hl).2.2
    by_cases hb0:body=[]
    ·rw[fg hb0,vT (jK.symm.trans hb0)]
    have gd:xs=l.map rl:=by rw[hS,jK];exact tN hl.1 (by rw[<-jK];exact hb0)
    rw[Qa l hl,gd,List.length_map,List.take_length]
   have hoL:out.length<10000000:=by omega
   push_cast -dsimp;refine me (ro:=none) (by rfl) ?_;have c7:W.cell? ⟨w.heap.size+3,0,none⟩=some v:=P4.cell rfl;have eW:=ho.slice;obtain⟨va,vc,rfl⟩:=eW;push_cast -dsimp[c7];refine aA (tL out (by omega) _ _ W ho.sl) ?_;rintro _ w8 ⟨rfl,jg⟩;have Su:=D8.size;have l4:=P4.lt;have E1:=P1.below jg (by omega);have E2:=P2.below jg (by omega);have E4:=P4.below jg (by omega);have tU:=ho.below jg;have AV:=D8.trans (jg.mono Su);have Zt:=(jg.block w7.heap.size (Array.getElem?_eq_some_iff.1 hD).1).trans hD;have c8:w8.cell? ⟨w.heap.size+3,0,none⟩=some (.slice va out.length vc):=E4.cell rfl;cases hr:aP (-2) out with
   | false =>
    have ri:∀l,¬dH s l:=λl hl=>by
     have:=iu l hl;subst this;rw[hl.1]at hr;cases hr
    push_cast -dsimp;refine aC E1 (by simp) rfl ?_;intro wa dt;have YS:wa.heap.size=w8.heap.size:=dt.size;have Ta:aM wa w.heap.size 41 [.slice none 0 0]:=dt.aN;have Tb:=E2.kept dt.kept (by omega);have HH:=dt.kept;have L0:=(HH.block w7.heap.size (by have:=(Array.getElem?_eq_some_iff.1 Zt).1;omega) (by omega)).trans Zt;have tT:=AV.trans (HH.below (B:=w.heap.size) (by have:=AV.size;omega) (λi h=>by omega));push_cast -dsimp;refine aC Tb (by simp) rfl ?_;intro wb cL;have SY:wb.heap.size=wa.heap.size:=cL.size;have Ub:=Ta.kept cL.kept (by omega);have Cv:=cL.kept;have VS:=(Cv.block w7.heap.size (by have:=(Array.getElem?_eq_some_iff.1 L0).1;omega) (by omega)).trans L0;have jK:=tT.trans (Cv.below (B:=w.heap.size) (by have:=tT.size;omega) (λi h=>by omega));push_cast -dsimp;exact jr Zf Ub cL.aN VS jK (.inr ⟨ri,rfl⟩) (by rfl) (by rfl)
   | true =>
    push_cast -dsimp[c8];refine aA (OL out (by omega) (CG (a := -2) (by omega) hr) _ _ w8 tU.sl (hd.below AV hd.lt)) ?_;rintro _ w9 ⟨rfl,qI⟩;have l48:=E4.lt;have E19:=E1.below qI (by have:=jg.size;omega);have E29:=E2.below qI (by have:=jg.size;omega);have E49:=E4.below qI (by have:=jg.size;omega);have A5:=tU.below qI;have Lb:=AV.trans (qI.mono AV.size);have Zu:=(qI.block w7.heap.size (Array.getElem?_eq_some_iff.1 Zt).1).trans Zt;have c9:w9.cell? ⟨w.heap.size+3,0,none⟩=some (.slice va out.length vc):=E49.cell rfl;push_cast -dsimp;refine⟨λdD=>?_,λheq=>?_⟩
    ·have ri:∀l,¬dH s l:=λl hl=>by
      have:=iu l hl;subst this;exact dD hl.2
     refine aC E19 (by simp) rfl ?_;intro wa dt;have YS:wa.heap.size=w9.heap.size:=dt.size;have Ta:aM wa w.heap.size 41 [.slice none 0 0]:=dt.aN;have Tb:=E29.kept dt.kept (by omega);have HH:=dt.kept;have L0:=(HH.block w7.heap.size (by have:=(Array.getElem?_eq_some_iff.1 Zu).1;omega) (by omega)).trans Zu;have tT:=Lb.trans (HH.below (B:=w.heap.size) (by have:=Lb.size;omega) (λi h=>by omega));push_cast -dsimp;refine aC Tb (by simp) rfl ?_;intro wb cL;have SY:wb.heap.size=wa.heap.size:=cL.size;have Ub:=Ta.kept cL.kept (by omega);have Cv:=cL.kept;have VS:=(Cv.block w7.heap.size (by have:=(Array.getElem?_eq_some_iff.1 L0).1;omega) (by omega)).trans L0;have jK:=tT.trans (Cv.below (B:=w.heap.size) (by have:=tT.size;omega) (λi h=>by omega));push_cast -dsimp;exact jr Zf Ub cL.aN VS jK (.inr ⟨ri,rfl⟩) (by rfl) (by rfl)
    refine me (ro:=none) (by rfl) ?_;push_cast -dsimp[c9];refine aC E19 (by simp) rfl ?_;intro wa dt;have YS:wa.heap.size=w9.heap.size:=dt.size;have HH:=dt.kept;have l49:=E49.lt;have Ta:aM wa w.heap.size 41 [.slice va out.length vc]:=dt.aN;have Tb:=E29.kept dt.kept (by omega);have hoa:=A5.aI dt.kept (λg hg h=>by have:=(A5.block g hg).1;omega);have lD:=(Array.getElem?_eq_some_iff.1 Zu).1;have L0:=(HH.block w7.heap.size (by omega) (by omega)).trans Zu;have tT:=Lb.trans (HH.below (B:=w.heap.size) (by omega) (λi h=>by omega));push_cast -dsimp;refine aC Tb (by simp) rfl ?_;intro wb cL;have SY:wb.heap.size=wa.heap.size:=cL.size;have Cv:=cL.kept;have Ub:=Ta.kept cL.kept (by omega);have WG:=hoa.aI cL.kept (λg hg h=>by have:=(hoa.block g hg).1;omega);have VS:=(Cv.block w7.heap.size (by omega) (by omega)).trans L0;have jK:=tT.trans (Cv.below (B:=w.heap.size) (by omega) (λi h=>by omega));have sD:=WG.aI (yv (X:=λk=>k=w7.heap.size) wb w7.heap.size (.deferred none) rfl) (λg hg h=>by have:=(WG.block g hg).1;omega);push_cast -dsimp;refine wpIn_ret ?_;exact jr Zf Ub cL.aN VS jK (.inl ⟨_,out,rfl,sD.mono (by omega),hr,Classical.not_not.1 heq⟩) (by rfl) (by rfl)
  intro c pre W hSp hX hD;rcases hX with ⟨rfl,h1,h2,ri,hb⟩|⟨rfl,sg,hI⟩
  ·refine wpIn_ret ?_;push_cast -dsimp;exact jr Zf h1 h2 hD hb (.inr ⟨ri,rfl⟩) (by rfl) (by rfl)
  obtain⟨v,out,P1,P2,P3,P4,ho,Q9,fg,Qa,D8⟩:=hI;have iu:∀l,dH s l->out=l:=λl hl=>by
   have jK:body=lM l:=by rw[<-sB];exact(rV hl).2.2
   rw[fg sg,vT (jK.symm.trans sg)]
  have hoL:out.length<10000000:=by rw[fg sg];decide
  refine wpIn_exit ?_;push_cast -dsimp;refine me (ro:=none) (by rfl) ?_;have c7:W.cell? ⟨w.heap.size+3,0,none⟩=some v:=P4.cell rfl;have eW:=ho.slice;obtain⟨va,vc,rfl⟩:=eW;push_cast -dsimp[c7];refine aA (tL out (by omega) _ _ W ho.sl) ?_;rintro _ w8 ⟨rfl,jg⟩;have Su:=D8.size;have l4:=P4.lt;have E1:=P1.below jg (by omega);have E2:=P2.below jg (by omega);have E4:=P4.below jg (by omega);have tU:=ho.below jg;have AV:=D8.trans (jg.mono Su);have Zt:=(jg.block w7.heap.size (Array.getElem?_eq_some_iff.1 hD).1).trans hD;have c8:w8.cell? ⟨w.heap.size+3,0,none⟩=some (.slice va out.length vc):=E4.cell rfl;cases hr:aP (-2) out with
  | false =>
   have ri:∀l,¬dH s l:=λl hl=>by
    have:=iu l hl;subst this;rw[hl.1]at hr;cases hr
   push_cast -dsimp;refine aC E1 (by simp) rfl ?_;intro wa dt;have YS:wa.heap.size=w8.heap.size:=dt.size;have Ta:aM wa w.heap.size 41 [.slice none 0 0]:=dt.aN;have Tb:=E2.kept dt.kept (by omega);have HH:=dt.kept;have L0:=(HH.block w7.heap.size (by have:=(Array.getElem?_eq_some_iff.1 Zt).1;omega) (by omega)).trans Zt;have tT:=AV.trans (HH.below (B:=w.heap.size) (by have:=AV.size;omega) (λi h=>by omega));push_cast -dsimp;refine aC Tb (by simp) rfl ?_;intro wb cL;have SY:wb.heap.size=wa.heap.size:=cL.size;have Ub:=Ta.kept cL.kept (by omega);have Cv:=cL.kept;have VS:=(Cv.block w7.heap.size (by have:=(Array.getElem?_eq_some_iff.1 L0).1;omega) (by omega)).trans L0;have jK:=tT.trans (Cv.below (B:=w.heap.size) (by have:=tT.size;omega) (λi h=>by omega));push_cast -dsimp;exact jr Zf Ub cL.aN VS jK (.inr ⟨ri,rfl⟩) (by rfl) (by rfl)
  | true =>
   push_cast -dsimp[c8];refine aA (OL out (by omega) (CG (a := -2) (by omega) hr) _ _ w8 tU.sl (hd.below AV hd.lt)) ?_;rintro _ w9 ⟨rfl,qI⟩;have l48:=E4.lt;have E19:=E1.below qI (by have:=jg.size;omega);have E29:=E2.below qI (by have:=jg.size;omega);have E49:=E4.below qI (by have:=jg.size;omega);have A5:=tU.below qI;have Lb:=AV.trans (qI.mono AV.size);have Zu:=(qI.block w7.heap.size (Array.getElem?_eq_some_iff.1 Zt).1).trans Zt;have c9:w9.cell? ⟨w.heap.size+3,0,none⟩=some (.slice va out.length vc):=E49.cell rfl;push_cast -dsimp;refine⟨λdD=>?_,λheq=>?_⟩
   ·have ri:∀l,¬dH s l:=λl hl=>by
     have:=iu l hl;subst this;exact dD hl.2
    refine aC E19 (by simp) rfl ?_;intro wa dt;have YS:wa.heap.size=w9.heap.size:=dt.size;have Ta:aM wa w.heap.size 41 [.slice none 0 0]:=dt.aN;have Tb:=E29.kept dt.kept (by omega);have HH:=dt.kept;have L0:=(HH.block w7.heap.size (by have:=(Array.getElem?_eq_some_iff.1 Zu).1;omega) (by omega)).trans Zu;have tT:=Lb.trans (HH.below (B:=w.heap.size) (by have:=Lb.size;omega) (λi h=>by omega));push_cast -dsimp;refine aC Tb (by simp) rfl ?_;intro wb cL;have SY:wb.heap.size=wa.heap.size:=cL.size;have Ub:=Ta.kept cL.kept (by omega);have Cv:=cL.kept;have VS:=(Cv.block w7.heap.size (by have:=(Array.getElem?_eq_some_iff.1 L0).1;omega) (by omega)).trans L0;have jK:=tT.trans (Cv.below (B:=w.heap.size) (by have:=tT.size;omega) (λi h=>by omega));push_cast -dsimp;exact jr Zf Ub cL.aN VS jK (.inr ⟨ri,rfl⟩) (by rfl) (by rfl)
   refine me (ro:=none) (by rfl) ?_;push_cast -dsimp[c9];refine aC E19 (by simp) rfl ?_;intro wa dt;have YS:wa.heap.size=w9.heap.size:=dt.size;have HH:=dt.kept;have l49:=E49.lt;have Ta:aM wa w.heap.size 41 [.slice va out.length vc]:=dt.aN;have Tb:=E29.kept dt.kept (by omega);have hoa:=A5.aI dt.kept (λg hg h=>by have:=(A5.block g hg).1;omega);have lD:=(Array.getElem?_eq_some_iff.1 Zu).1;have L0:=(HH.block w7.heap.size (by omega) (by omega)).trans Zu;have tT:=Lb.trans (HH.below (B:=w.heap.size) (by omega) (λi h=>by omega));push_cast -dsimp;refine aC Tb (by simp) rfl ?_;intro wb cL;have SY:wb.heap.size=wa.heap.size:=cL.size;have Cv:=cL.kept;have Ub:=Ta.kept cL.kept (by omega);have WG:=hoa.aI cL.kept (λg hg h=>by have:=(hoa.block g hg).1;omega);have VS:=(Cv.block w7.heap.size (by omega) (by omega)).trans L0;have jK:=tT.trans (Cv.below (B:=w.heap.size) (by omega) (λi h=>by omega));have sD:=WG.aI (yv (X:=λk=>k=w7.heap.size) wb w7.heap.size (.deferred none) rfl) (λg hg h=>by have:=(WG.block g hg).1;omega);push_cast -dsimp;refine wpIn_ret ?_;exact jr Zf Ub cL.aN VS jK (.inl ⟨_,out,rfl,sD.mono (by omega),hr,Classical.not_not.1 heq⟩) (by rfl) (by rfl)
end Go.Proofs.YtledlfbbebodgaaGreatDoor
end
section
namespace Go.Vc
open Go.RowKit
section
variable {P:Program} {t:Fr} {w:World} {K:VK} {Q:EP}
def yB (P:Program)(f:FuncId)(args:List Value)(w:World)(R:VK)(E:List PanicEntry->World->Prop):Prop :=
 (callFunc f args.toArray).run P w=.ok (.enter f args.toArray) w/\Calls P f args.toArray w λe w'=>match e with
  | .returned v=>R v w'
  | .panicked c=>E c w'
  | .outgrown=>False
theorem aG {f:FuncId}{args:List Value}{R:VK}{E:List PanicEntry->World->Prop}{p}(h:yB P f args w R E)(k:∀v w',R v w'->K v w')(ke:∀c w',E c w'->Q (.panic c) t w'):ae P f args t w K Q p:=by
 unfold ae;rw[h.1];exact h.2.mono λe w' he=>by cases e<;>first|exact k _ _ he|exact ke _ _ he|exact he.elim
theorem bE.two {f:FuncId}{args:List Value}{R:VK}(h:bE P f args w R):yB P f args w R (λ_ _=>False) :=
 ⟨h.1,h.2.mono λe w' ⟨v,he,hr⟩=>by subst he;exact hr⟩
def Xk (P:Program)(rs:List ResultVar)(R:VK)(E:List PanicEntry->World->Prop)(_:Ph (R,E)):EP
 | .normal,t,w=>pQ P t w rs λvs=>R (yX vs) w
 | .ret,t,w=>pQ P t w rs λvs=>R (yX vs) w
 | .panic c,_,w=>E c w
 | _,_,_=>False
variable {R:VK} {E:List PanicEntry->World->Prop}
theorem Ji (rs)(p):Xk P rs R E p .normal t w=pQ P t w rs λvs=>R (yX vs) w:=(rfl)
theorem Xl (rs)(p):Xk P rs R E p .ret t w=pQ P t w rs λvs=>R (yX vs) w:=(rfl)
theorem M5 (rs)(c)(p):Xk P rs R E p (.panic c) t w=E c w:=(rfl)
theorem bM {f:FuncId}{fn:Func}{c:Code}{args:List Value}(hf:P.funcs[f]?=some fn)(hb:fn.body=some c)(hn:(fn.name == "runtime.NumGoroutine")=false)
  (rs:List ResultVar) (jO:fn.results=rs.toArray) (h:vc P c (Xk P rs R E .mk) (oy args fn.ntmps) w .mk):yB P f args w R E:=by
 refine⟨bo hf (by simp[hb]) hn,calls_of_wp hf hb ?_⟩;have h1:=sN c _ _ w h;unfold dd at h1;have e:(args.toArray++Array.replicate (fn.ntmps-args.toArray.size) undef)=(oy args fn.ntmps).toArray:=by simp[oy]
 rw[e];refine Code.wp_mono ?_ h1;rintro e a w' ⟨hd,hh⟩;have ha:a.tmps.toList.toArray=a.tmps:=by simp
 cases e<;>simp only[Xk]at hh<;>first|exact hh.elim|skip
 ·obtain⟨vs,hv,hk⟩:=cZ fn rs jO _ _ hh;exact⟨hd,_,by rw[<-ha];exact hv,hk⟩
 ·obtain⟨vs,hv,hk⟩:=cZ fn rs jO _ _ hh;exact⟨hd,_,by rw[<-ha];exact hv,hk⟩
 exact⟨hd,hh⟩
theorem XY {ty:TypeId}{v:Value}{p}(k:Q (.panic [{ v:=.iface ty v,recovered:=false }]) t w):ak P (Instr.panic (.iface ty v)) t w K Q p:=by
 unfold ak;have:((do pure (Next.value (<-Instr.panic (.iface ty v))):Sem Next).run P w)=.halt (.panic (.iface ty v)) w:=rfl;rw[this];exact k
end
attribute [push_cast] Ji Xl M5 Bh tm
end Go.Vc
end
section
end
section
namespace Go.Vc
open Go.RowKit
section
variable {P:Program} {ops:Array Oper} {m:Nat} {E:List PanicEntry->World->Prop} {w:World}
def eH (P:Program)(ops:Array Oper)(w:World)(i:Nat)(K:Act->Prop)(a:Act):Prop :=
 match ops[i]? with
 | none=>K a
 | some o=>if Region.wanted o (yielded ops a.tmps) then ∃v,(execOp a.eval o).run P w=.ok (.value v) w/\K (a.put o.dst v) else K (a.put o.dst undef)
def qB (P:Program)(ops:Array Oper)(w:World)(m:Nat)(E:List PanicEntry->World->Prop)(a:Act):Prop :=
 a.defers=[]/\∃o,ops[m]?=some o/\Region.wanted o (yielded ops a.tmps)=true/\∃f args w',(execOp a.eval o).run P w=.ok (.enter f args) w'/\Calls P f args w' λe bU=>∃c,e=.panicked c/\E c bU
def wpB (P:Program)(ops:Array Oper)(w:World)(m:Nat)(E:List PanicEntry->World->Prop):Nat->Array Bool->Act->Prop
 | 0,_,_=>False
 | n+1,listed,a=>Region.ready .any ops listed≠[]/\∀i∈Region.ready .any ops listed,if i=m then qB P ops w m E a else eH P ops w i (wpB P ops w m E n (listed.setIfInBounds i true)) a
theorem pP {i:Nat}{K K':Act->Prop}{a:Act}(hk:∀a,K a->K' a)(h:eH P ops w i K a):eH P ops w i K' a:=by
 unfold eH at *
 split
 ·rename_i ho;simp only[ho]at h;exact hk _ h
 rename_i o ho;simp only[ho]at h;split
 ·rename_i hw;simp only[hw,if_true]at h;obtain⟨v,h1,h2⟩:=h;exact⟨v,h1,hk _ h2⟩
 rename_i hw;simp only[hw]at h;exact hk _ h
theorem put_defers (a:Act)(d:Option Tmp)(v:Value):(a.put d v).defers=a.defers:=by cases d<;>rfl
theorem Gd {i j:Nat}{oi oj:Oper}{K:Act->Prop}{a:Act}(hi:ops[i]?=some oi)(hj:ops[j]?=some oj)(CN:oi.apart ops oj=true)
  (hsi:∀cs b,oi.op≠.select cs b) (hsj:∀cs b,oj.op≠.select cs b) (h:eH P ops w i (eH P ops w j K) a):eH P ops w j (eH P ops w i K) a:=by
 obtain⟨h1,h2,h3⟩:=Oper.apart_spec CN;have ej:∀(b:Act) (v:Value),execOp (b.put oi.dst v).eval oj=execOp b.eval oj:=λb v=>execOp_put oj hsj b oi.dst v h1;have ei:∀(b:Act) (v:Value),execOp (b.put oj.dst v).eval oi=execOp b.eval oi:=λb v=>execOp_put oi hsi b oj.dst v h3;have wj:∀(b:Act) (v:Value),Region.wanted oj (yielded ops (b.put oi.dst v).tmps)=Region.wanted oj (yielded ops b.tmps):=λb v=>wanted_put oj b oi.dst v h1;have wi:∀(b:Act) (v:Value),Region.wanted oi (yielded ops (b.put oj.dst v).tmps)=Region.wanted oi (yielded ops b.tmps):=λb v=>wanted_put oi b oj.dst v h3;have cm:∀(b:Act) (v u:Value),(b.put oi.dst v).put oj.dst u=(b.put oj.dst u).put oi.dst v:=λb v u=>Act.put_comm b v u h2;unfold eH at h ⊢
 simp only[hi,hj,ej,ei,wj,wi]at h ⊢
 cases gU:Region.wanted oi (yielded ops a.tmps)<;>cases gQ:Region.wanted oj (yielded ops a.tmps)<;>simp only[gU,gQ,Bool.false_eq_true,if_true,if_false]at h ⊢
 ·rw[<-cm];exact h
 ·obtain⟨v,hv,hk⟩:=h;exact⟨v,hv,by rw[<-cm];exact hk⟩
 ·obtain⟨v,hv,hk⟩:=h;exact⟨v,hv,by rw[<-cm];exact hk⟩
 obtain⟨v,hv,u,hu,hk⟩:=h;exact⟨u,hu,v,hv,by rw[<-cm];exact hk⟩
theorem H3 {i:Nat}{oi om:Oper}{a:Act}(hi:ops[i]?=some oi)(hj:ops[m]?=some om)(CN:oi.apart ops om=true)(hsj:∀cs b,om.op≠.select cs b)(h:eH P ops w i (qB P ops w m E) a):qB P ops w m E a:=by
 obtain⟨h1,h2,h3⟩:=Oper.apart_spec CN;have key:∀v,qB P ops w m E (a.put oi.dst v)->qB P ops w m E a:=λv ⟨hd,o,ho,hw,f,args,w',hr,hc⟩=>by
  rw[hj]at ho;cases ho;refine⟨by rw[<-put_defers a oi.dst v];exact hd,om,hj,by rw[<-wanted_put om a oi.dst v h1];exact hw,f,args,w',by rw[<-execOp_put om hsj a oi.dst v h1];exact hr,hc⟩
 unfold eH at h;simp only[hi]at h;split at h
 ·obtain⟨v,_,hk⟩:=h;exact key v hk
 exact key _ h
theorem Si {i:Nat}{oi:Oper}(hi:ops[i]?=some oi)(him:i≠m)(pE:∀(j:Nat) (o:Oper) cs b,ops[j]?=some o->o.op≠.select cs b) :
  ∀(fuel:Nat) (listed:Array Bool) (a:Act),p5 ops listed ->
   (∀j oj,ops[j]?=some oj->j≠i->listed.getD j true=false->((Region.before ops).getD j 0).testBit i=false->oi.apart ops oj=true) ->
   i∈Region.ready .any ops listed->eH P ops w i (wpB P ops w m E fuel (listed.setIfInBounds i true)) a->wpB P ops w m E (fuel+1) listed a:=by
 intro fuel;induction fuel with
 | zero =>
  intro listed a _ _ hr H;exfalso;unfold eH at H;simp only[hi]at H;split at H
  ·obtain⟨v,_,hk⟩:=H;exact hk
  exact H
 | succ fuel ih =>
  intro listed a hS lN hr H;refine⟨λh=>(by rw[h]at hr;cases hr),λj hj=>?_⟩;by_cases nI:j=i
  ·subst nI;rw[if_neg him];exact H
  obtain⟨uM,oj,qR,cN⟩:=mem_ready.1 hj;have Fs:listed.getD i false=false:=by
   have h0:=(mem_ready.1 hr).1;rcases Nat.lt_or_ge i listed.size with h'|h'
   ·simp[h']at h0 ⊢;exact h0
   simp[Array.getElem?_eq_none h']
  have A4:((Region.before ops).getD j 0).testBit i=false:=by
   cases hb:((Region.before ops).getD j 0).testBit i with
   | false=>rfl
   | true=>have:=hS.before j i oj qR cN hb;rw[Fs]at this;cases this
  have CN:=lN j oj qR nI uM A4;have h1:eH P ops w i (λa=>if j=m then qB P ops w m E a else eH P ops w j (wpB P ops w m E fuel ((listed.setIfInBounds i true).setIfInBounds j true)) a) a :=
   pP (λa' hh=>hh.2 j (ready_mono hj nI)) H
  by_cases Fv:j=m
  ·subst Fv;simp only[if_true]at h1 ⊢
   exact H3 hi qR CN (λcs b=>pE j oj cs b qR) h1
  simp only[if_neg Fv]at h1 ⊢
  have h2:=Gd hi qR CN (λcs b=>pE i oi cs b hi) (λcs b=>pE j oj cs b qR) h1;refine pP (λa' h3=>ih (listed.setIfInBounds j true) a' (hS.set hj) ?_ (ready_mono hr (Ne.symm nI)) ?_) h2
  ·intro k ok hk Yj Ab eZ;refine lN k ok hk Yj ?_ eZ;by_cases Lf:j=k
   ·subst Lf;exact uM
   rw[getD_set_ne true Lf]at Ab;exact Ab
  rw[Array.setIfInBounds_comm _ _ nI];exact h3
def wL (ops:Array Oper)(bf:Array Nat)(listed:Array Bool)(i:Nat):Bool :=
 match ops[i]? with
 | none=>false
 | some oi=>(List.range ops.size).all λj=>j == i || listed.getD j true || match ops[j]? with
   | some oj=>(bf.getD j 0).testBit i || oi.apart ops oj
   | none=>true
theorem BU {i:Nat}{oi:Oper}{listed:Array Bool}(hi:ops[i]?=some oi)(h:wL ops (Region.before ops) listed i=true)(j:Nat)(oj:Oper)
  (hj:ops[j]?=some oj) (dD:j≠i) (Ab:listed.getD j true=false) (eZ:((Region.before ops).getD j 0).testBit i=false):oi.apart ops oj=true:=by
 simp only[wL,hi,List.all_eq_true,List.mem_range]at h;have h1:=h j (Array.getElem?_eq_some_iff.1 hj).1;simp only[hj,Bool.or_eq_true,beq_iff_eq,dD,false_or,Ab,Bool.false_eq_true,eZ]at h1;exact h1
def pz (P:Program)(ops:Array Oper)(bf:Array Nat):Nat->Nat->Array Bool->Bool
 | 0,k,listed=>Region.ready .any ops listed == [k]
 | n+1,k,listed=>(Region.ready .any ops listed).contains k && wL ops bf listed k && pz P ops bf n (k+1) (listed.setIfInBounds k true)
def aCk (P:Program)(ops:Array Oper)(m:Nat):Bool:=Region.noSelect ops && decide (m<ops.size) && pz P ops (Region.before ops) m 0 (Array.replicate ops.size false)
def tp (P:Program)(ops:Array Oper)(w:World)(m:Nat)(E:List PanicEntry->World->Prop):List Nat->Act->Prop
 | [],a=>qB P ops w m E a
 | i::r,a=>eH P ops w i (tp P ops w m E r) a
theorem Oa (hs:Region.noSelect ops=true):∀(n k f:Nat) (listed:Array Bool) (a:Act),k+n=m->m<ops.size->n<f->p5 ops listed ->
  pz P ops (Region.before ops) n k listed=true->tp P ops w m E (List.range' k n) a->wpB P ops w m E f listed a
 | 0,k,f,listed,a,hk,hm,hf,hS,hB,h=>by
  obtain⟨f',rfl⟩:∃f',f=f'+1:=⟨f-1,by omega⟩;have hr:Region.ready .any ops listed=[k]:=by simpa[pz] using hB
  have xO:k=m:=by omega
  refine⟨by rw[hr];simp,λi hi=>?_⟩;rw[hr]at hi;obtain rfl:=List.mem_singleton.1 hi;rw[if_pos xO];exact h
 | n+1,k,f,listed,a,hk,hm,hf,hS,hB,h=>by
  obtain⟨f',rfl⟩:∃f',f=f'+1:=⟨f-1,by omega⟩;simp only[pz,Bool.and_eq_true]at hB;obtain⟨⟨hr,lN⟩,qH⟩:=hB;have aw:k<ops.size:=by omega
  have jN:k∈Region.ready .any ops listed:=by simpa using hr
  refine Si (i:=k) (oi:=ops[k]) (by simp[aw]) (by omega) (Region.noSelect_spec hs) f' listed a hS (BU (by simp[aw]) lN) jN ?_;simp only[List.range'_succ,tp]at h;exact pP (λa' hh=>Oa hs n (k+1) f' _ a' (by omega) hm (by omega) (hS.set jN) qH hh) h
theorem kH {Q:Exit->Act->World->Prop}(hq:∀c a w',a.defers=[]->E c w'->Q (.panic c) a w'):∀(fuel:Nat) (listed:Array Bool) (a:Act),wpB P ops w m E fuel listed a->wpAny P .any ops Q fuel listed a w
 | 0,_,_,h=>h.elim
 | fuel+1,listed,a,h=>⟨λh0=>absurd h0 h.1,λi hi=>by
   have h1:=h.2 i hi;by_cases him:i=m
   ·subst him;rw[if_pos rfl]at h1;obtain⟨hd,o,ho,hw,f,args,w',hr,hc⟩:=h1;unfold wpOp;simp only[ho,hw,if_true];refine .inl ?_;unfold Oper.wp;rw[hr];unfold Oper.upon;exact hc.mono λe bU ⟨c,he,hE⟩=>by subst he;exact hq c a bU hd hE
   rw[if_neg him]at h1;unfold eH at h1;unfold wpOp;split
   ·rename_i ho;simp only[ho]at h1;exact kH hq fuel _ _ h1
   rename_i o ho;simp only[ho]at h1;split
   ·rename_i hw;simp only[hw,if_true]at h1;obtain⟨v,hv,hk⟩:=h1;refine .inl ?_;unfold Oper.wp;rw[hv];exact kH hq fuel _ _ hk
   rename_i hw;simp only[hw]at h1;exact kH hq fuel _ _ h1⟩
def H7 (P:Program)(g:FuncId)(args:List Value)(w:World)(E:List PanicEntry->World->Prop)(_:Ph E):Prop:=(callFunc g args.toArray).run P w=.ok (.enter g args.toArray) w/\Calls P g args.toArray w λe bU=>∃c,e=.panicked c/\E c bU
def H2 (P:Program)(o:Oper)(t:Fr)(w:World)(E:List PanicEntry->World->Prop)(_:Ph (o,E)):Prop:=match o.guard,o.op with
 | none,.call { callee:=.value f,args,argTypes:=_ }=>(match ev t f with
  | .func (.func g) first cap=>H7 P g (first.toList++args.toList.map (ev t)++cap.toList) w E .mk
  | _=>False)
 | _,_=>False
def rC (P:Program)(ops:List Oper)(E:List PanicEntry->World->Prop):List Unit->(l:List Oper)->Fr->World->Ph (ops,E,l)->Prop
 | [],o::_,t,w,_=>H2 P o t w E .mk
 | _::n,o::r,t,w,_=>chain P o=false/\match o.guard with
  | none=>dp P o t w (·=w) (λv _=>rC P ops E n r (put t o.dst v) w .mk) .mk
  | some (j,want)=>iP (iz ops j) want t (λt'=>dp P o t' w (·=w) (λv _=>rC P ops E n r (put t' o.dst v) w .mk) .mk) (λt'=>rC P ops E n r (put t' o.dst undef) w .mk) .mk
 | _,[],_,_,_=>False
theorem oA {g:FuncId}{args:List Value}{R:VK}{E':List PanicEntry->World->Prop}{p}(h:yB P g args w R E')(hR:∀v w',¬R v w')(k:∀c w',E' c w'->E c w'):H7 P g args w E p :=
 ⟨h.1,h.2.mono λe w' he=>by cases e<;>first|exact absurd he (hR _ _)|exact⟨_,rfl,k _ _ he⟩|exact he.elim⟩
theorem oU {ops:List Oper}{i:Nat}{o:Oper}{t:Fr}{K:VK}{N:Act->Prop}(hi:ops[i]?=some o)(hw:Region.wanted o (yielded ops.toArray t.toArray)=true)(hc:chain P o=false)
  (hn:∀v,K v w->N ⟨(put t o.dst v).toArray,[]⟩) (h:dp P o t w (·=w) K .mk):eH P ops.toArray w i N ⟨t.toArray,[]⟩:=by
 unfold eH;simp only[List.getElem?_toArray,hi,hw,if_true,nE];unfold dp at h;split at h
 ·rename_i ty x ho;obtain⟨v,hr,_,hk⟩:=oN ho h;exact⟨v,hr,by rw[put_eq];exact hn _ hk⟩
 ·rename_i x ho;unfold J0 at h;split at h
  ·rename_i a hx;refine⟨_,?_,by rw[put_eq];exact hn _ h⟩;unfold execOp;simp only[ho,hx];rfl
  exact h.elim
 simp only[hc,Bool.false_eq_true,if_false]at h;rcases qj h with h|⟨v,hg,hk⟩
 ·exact h.elim
 exact⟨v,hg w,by rw[put_eq];exact hn _ hk⟩
theorem Oi {ops:List Oper}{m:Nat}{o:Oper}{t:Fr}(hi:ops[m]?=some o)(h:H2 P o t w E .mk):qB P ops.toArray w m E ⟨t.toArray,[]⟩:=by
 unfold H2 at h;split at h
 ·rename_i f args mE hg ho;split at h
  ·rename_i g first cap hf
   refine⟨rfl,o,by simpa using hi,by simp[Region.wanted,hg],g,_,w,?_,h.2⟩;rw[nE];unfold execOp;have e:(first.toList++args.toList.map (ev t)++cap.toList).toArray=first++args.map (ev t)++cap:=by apply Array.ext';simp
   have h1:=h.1;rw[e]at h1 ⊢
   simp only[ho,resolve,hf,Deferred.ofValue,Sem.run_bind,Sem.run_pure,Result.andThen_ok,invoke];exact h1
  exact h.elim
 exact h.elim
theorem zZ {ops:List Oper}{m:Nat}:∀(n:List Unit) (k:Nat) (l:List Oper) (t:Fr),k+n.length=m->(∀j,l[j]?=ops[k+j]?)->rC P ops E n l t w .mk->tp P ops.toArray w m E (List.range' k n.length) ⟨t.toArray,[]⟩
 | [],k,[],t,hk,hl,h=>h.elim
 | [],k,o::r,t,hk,hl,h=>Oi (by have:=hl 0;simpa[<-hk] using this.symm) h
 | _::n,k,[],t,hk,hl,h=>h.elim
 | _::n,k,o::r,t,hk,hl,h=>by
  have h0:ops[k]?=some o:=by simpa using(hl 0).symm
  have ih:=λt=>zZ (m:=m) n (k+1) r t (by rw[List.length_cons]at hk;omega) (λj=>by have:=hl (j+1);simpa[Nat.add_assoc,Nat.add_comm 1 j] using this);simp only[List.length_cons,List.range'_succ,tp];obtain⟨hc,h⟩:=h;split at h
  ·rename_i hg;exact oU h0 (by simp[Region.wanted,hg]) hc (λv hk=>ih _ hk) h
  rename_i j want hg;rcases kN hg h with ⟨hw,hh⟩|⟨hw,hh⟩
  ·exact oU h0 hw hc (λv hk=>ih _ hk) hh
  unfold eH;simp only[List.getElem?_toArray,h0,hw,Bool.false_eq_true,if_false];rw[put_eq];exact ih _ hh
theorem oZ {id:Nat}{l:List Oper}{t:Fr}{Q:EP}{p}(m:List Unit)(hm:P.follows .mixedOrders=true)(hB:aCk P l.toArray m.length=true)(hq:∀c t w',E c w'->Q (.panic c) t w')
  (h:rC P l E m l t w.drew .mk):dd P (.region id l.toArray true) Q t w p:=by
 unfold dd;simp only[aCk,Bool.and_eq_true,decide_eq_true_eq]at hB;refine wp_region_any hm ?_;refine kH (E:=E) (m:=m.length) (λc a w' hd hE=>⟨hd,hq c _ w' hE⟩) _ _ _ ?_;exact Oa hB.1.1 m.length 0 _ _ _ (by omega) hB.1.2 hB.1.2 (λj o _ hl=>by simp[Array.getElem?_replicate]at hl;split at hl<;>simp at hl) hB.2 (zZ m 0 l t (by omega) (λj=>by simp) h)
theorem KW (ops)(o:Oper)(r)(p)(t:Fr):rC P ops E [] (o::r) t w p=H2 P o t w E .mk:=(rfl)
theorem Gr (ops)(u:Unit)(n)(d op ty pos af r)(p)(t:Fr):rC P ops E (u::n) (⟨d,op,ty,pos,af,none⟩::r) t w p=(chain P ⟨d,op,ty,pos,af,none⟩=false/\dp P ⟨d,op,ty,pos,af,none⟩ t w (·=w) (λv _=>rC P ops E n r (put t d v) w .mk) .mk):=(rfl)
def aHL (P:Program)(f:Value)(args:List Value)(w:World)(E:List PanicEntry->World->Prop)(_:Ph E):Prop:=match f with
 | .func (.func g) first cap=>H7 P g (first.toList++args++cap.toList) w E .mk
 | _=>False
theorem LB (d f)(args:List Operand)(mE ty pos af)(p)(t:Fr):H2 P ⟨d,.call { callee:=.value f,args:=args.toArray,argTypes:=mE },ty,pos,af,none⟩ t w E p=aHL P (ev t f) (args.map (ev t)) w E .mk:=(rfl)
theorem Pn (g:FuncId)(args:List Value)(p):aHL P (.func (.func g) #[] #[]) args w E p=H7 P g args w E .mk:=by
 show H7 P g (#[].toList++args++#[].toList) w E .mk=_
 simp
end
section
variable {P:Program}
theorem ZZ (d x ty pos af g):chain P ⟨d,.move x,ty,pos,af,g⟩=false:=(rfl)
theorem Oj (d x ty pos af g):chain P ⟨d,.assign x,ty,pos,af,g⟩=false:=(rfl)
theorem aDy (d x ty pos af g):chain P ⟨d,.nilCheck x,ty,pos,af,g⟩=false:=(rfl)
theorem ZY (d t x ty pos af g):chain P ⟨d,.load t x,ty,pos,af,g⟩=false:=(rfl)
theorem Ex (d t x f ty pos af g):chain P ⟨d,.fieldAddr t x f,ty,pos,af,g⟩=false:=(rfl)
end
attribute [push_cast] LB Pn KW Gr ZZ Oj aDy ZY Ex
end Go.Vc
end
section
namespace Go.Proofs.YtledlfbbebodgaaGreatDoor
open Go.Vc Go.Proofs Go.RowKit Cae
attribute [local irreducible] dd ae ak a7 runK bE Sl Vc.Own vc aU cJ a8
theorem S5:(Tryz.prog.underlying 126).isSome=true:=by kernel_rfl
attribute [push_cast] S5
def jY (t:Tok):List Value:=[.int .i64 t.kind,str t.text,.int .i64 t.pos]
structure TL (l:List Tok):Prop where
 last:∃i e,l=i++[e]/\e.kind=5
 txt:∀t∈l,t.text.length<=1000000
 len:l.length<=900
 num:∀t∈l,t.kind=2->t.text≠[]/\∀c∈t.text,eM c=true
theorem TL.cons {l:List Tok}(h:TL l):∃t r,l=t::r:=by
 obtain⟨i,e,rfl,_⟩:=h.last;cases i with
 | nil=>exact⟨e,[],rfl⟩
 | cons x i=>exact⟨x,i++[e],rfl⟩
theorem TL.tail {t:Tok}{r:List Tok}(h:TL (t::r))(h5:t.kind≠5):TL r:=by
 obtain⟨i,e,he,Sk⟩:=h.last;refine⟨?_,λx hx=>h.txt x (List.mem_cons_of_mem _ hx),by have:=h.len;rw[List.length_cons]at this;omega,λx hx=>h.num x (List.mem_cons_of_mem _ hx)⟩;cases i with
 | nil=>simp at he;rw[he.1]at h5;exact absurd Sk h5
 | cons x i=>simp at he;exact⟨i,e,he.2,Sk⟩
structure PS (pb B:Nat)(w:World)(l:List Tok):Prop where
 st:∃v,aM w pb 133 [v]/\Sl (λb=>b=pb\/B<=b) 3 (En jY) w v l
 lt:pb<B
 le:B<=w.heap.size
 tl:TL l
 db:Db w
 er:mA w
 gl:11<=pb
theorem mA.kept {X:Nat->Prop}{w w':World}(h:mA w)(hb:Kept X w w')(hX:∀i,i<11->¬X i):mA w':=by
 obtain⟨⟨t,p,h1⟩,⟨t',p',h2⟩⟩:=h;exact⟨⟨t,p,hb.cell h1 (hX _ (by decide))⟩,⟨t',p',hb.cell h2 (hX _ (by decide))⟩⟩
theorem Db.kept {X:Nat->Prop}{w w':World}(h:Db w)(hb:Kept X w w')(hX:∀i,i<11->¬X i):Db w':=hb.cell h (hX _ (by decide))
theorem PS.kept {pb B:Nat}{w w':World}{l:List Tok}{Y:Nat->Prop}(h:PS pb B w l)(hk:Kept Y w w')(hY:∀i,Y i->B<=i):PS pb B w' l:=by
 obtain⟨v,h1,h2⟩:=h.st;have hl:=h.lt;have hg:=h.gl;exact⟨⟨v,h1.kept hk (λhh=>by have:=hY _ hh;omega),h2.kept hk (λi hi=>.inr (hY i hi))⟩,h.lt,Nat.le_trans h.le hk.size,h.tl,h.db.kept hk (λi hi hh=>by have:=hY _ hh;omega),h.er.kept hk (λi hi hh=>by have:=hY _ hh;omega),h.gl⟩
theorem PS.below {pb B:Nat}{w w':World}{l:List Tok}(h:PS pb B w l)(hk:Below w.heap.size w w'):PS pb B w' l :=
 h.kept (Kept.aO hk (X:=λi=>w.heap.size<=i) (λi h1 h2=>h1)) (λi hi=>Nat.le_trans h.le hi)
theorem PS.hd {pb B:Nat}{w:World}{t:Tok}{r:List Tok}(h:PS pb B w (t::r)):∃b o c,aM w pb 133 [.slice (some ⟨b,o,none⟩) (r.length+1) c]/\r.length+1<=c/\b≠pb /\
  w.cell? ⟨b,o,none⟩=some (.int .i64 t.kind)/\w.cell? ⟨b,o+1,none⟩=some (str t.text)/\w.cell? ⟨b,o+2,none⟩=some (.int .i64 t.pos)/\aB w ⟨b,o,none⟩ 0 3=some [.int .i64 t.kind,str t.text,.int .i64 t.pos]:=by
 obtain⟨v,h1,h2⟩:=h.st;obtain⟨a,c,rfl,hc⟩:=h2.shape;obtain⟨b,o,rfl,hb,aK⟩:=h2.get (i:=0) (x:=t) rfl;refine⟨b,o,c,h1,hc,λe=>hb (.inl e),?_,?_,?_,ax (jY t) 0 (λj u hu=>by have:=aK j u hu;simpa using this)⟩
 ·have:=aK 0 _ rfl;simpa using this
 ·have:=aK 1 _ rfl;simpa using this
 have:=aK 2 _ rfl;simpa using this
theorem PS.pop {pb B b o c:Nat}{w w':World}{t:Tok}{r:List Tok}(h:PS pb B w (t::r))(hb:aM w pb 133 [.slice (some ⟨b,o,none⟩) (r.length+1) c])(h5:t.kind≠5)
  (hp:Yy w w' pb 133 [.slice (if (c:Int)=1 then some ⟨b,o,none⟩ else some ⟨b,o+3,none⟩) r.length (c-1)]):PS pb B w' r:=by
 have hl:=h.lt;have hg:=h.gl;have Kf:=h.tl.tail h5;obtain⟨t2,r2,rfl⟩:=Kf.cons;obtain⟨v,h1,h2⟩:=h.st;have e:v=.slice (some ⟨b,o,none⟩) ((t2::r2).length+1) c:=by
  have yi:w.heap[pb]?=_:=h1;have CO:w.heap[pb]?=_:=hb;rw[yi]at CO;simpa using CO
 subst e;have hk:=hp.kept;have hc:(t2::r2).length+1<=c:=by
  obtain⟨a,c',he,hc⟩:=h2.shape;cases he;exact hc
 have QP:¬(c:Int)=1:=by rw[List.length_cons]at hc;omega
 have Nd:=hp.aN;rw[if_neg QP]at Nd;refine⟨⟨_,Nd,?_⟩,h.lt,by rw[hp.size];exact h.le,Kf,h.db.kept hk (λi hi hh=>by omega),h.er.kept hk (λi hi hh=>by omega),h.gl⟩;unfold Sl at h2 ⊢
 obtain⟨a,c',he,hc',cN⟩:=h2;cases he;refine⟨some ⟨b,o+3,none⟩,c-1,rfl,by omega,λi x hx=>?_⟩;obtain⟨b',o',cs,ha,hX,iW,aK,hr⟩:=cN (i+1) x (by simpa using hx);cases ha;refine⟨b,o+3,cs,rfl,hX,iW,λj u hu=>?_,hr⟩
 have:=aK j u hu;rw[show o+(i+1)*3+j=o+3+i*3+j by omega]at this
 exact hk.cell this (λhh=>hX (.inl hh))
theorem Gm {e e':TypeId}{b o n c:Nat}{kk:IntKind}{L:VP}{other:Prop}(p):ff (some (.slice e)) (some (e',3)) (.slice (some ⟨b,o,none⟩) (n+1) c) (some (.int kk 1)) none none L other p=((1<=n+1/\n+1<=c)/\L (.slice (if (c:Int)=1 then some ⟨b,o,none⟩ else some ⟨b,o+3,none⟩) n (c-1))):=by
 simp only[ff,gn,add_lit,Option.map_some];apply propext;constructor
 ·rintro⟨h1,h2⟩;refine⟨by omega,?_⟩;have e1:((n+1:Nat):Int).toNat-(1:Int).toNat=n:=by omega
  have e2:c-(1:Int).toNat=c-1:=by omega
  rw[e1,e2]at h2;exact h2
 rintro⟨h1,h2⟩;refine⟨by omega,?_⟩;have e1:((n+1:Nat):Int).toNat-(1:Int).toNat=n:=by omega
 have e2:c-(1:Int).toNat=c-1:=by omega
 rw[e1,e2];exact h2
def Thr (sz:Nat)(w:World)(c:List PanicEntry)(e pos:Nat):Prop:=∃b,sz<=b/\c=[{ v:=.iface 126 (.agg #[.iface 92 (.pointer (some ⟨b,0,none⟩))]),recovered:=false }]/\aM w b 94 [.int .i64 e,.int .i64 pos]
theorem Thr.mono {sz sz':Nat}{w:World}{c:List PanicEntry}{e pos:Nat}(h:Thr sz w c e pos)(hs:sz'<=sz):Thr sz' w c e pos:=by
 obtain⟨b,h1,h2,h3⟩:=h;exact⟨b,by omega,h2,h3⟩
def aLm {α:Type}(pb B:Nat)(w:World)(l:List Tok)(p:Pa α)(V:World->Value->α->Prop):VK:=λr w'=>∃x l',p l=.ok (x,l')/\V w' r x/\PS pb B w' l'/\Kept (·=pb) w w'
def Kl {α:Type}(pb:Nat)(w:World)(l:List Tok)(p:Pa α):List PanicEntry->World->Prop:=λc w'=>∃e pos,p l=.error (e,pos)/\Thr w.heap.size w' c e pos/\Kept (·=pb) w w'
def Pc {α:Type}(f:FuncId)(args:List Value)(pb B:Nat)(w:World)(l:List Tok)(p:Pa α)(V:World->Value->α->Prop):Prop:=yB Tryz.prog f args w (aLm pb B w l p V) (Kl pb w l p)
theorem jZ (e:Nat){pb B:Nat}{w:World}{l:List Tok}(h:PS pb B w l):yB Tryz.prog 58 [.pointer (some ⟨pb,0,none⟩),.int .i64 (e:Int)] w (λ_ _=>False) (λc w'=>Thr w.heap.size w' c e (Cae.hd l).pos/\Below w.heap.size w w'):=by
 obtain⟨t,r,rfl⟩:=h.tl.cons;obtain⟨b,o,c,hB,hc,dD,c0,c1,c2,c3⟩:=h.hd;have cb:w.cell? ⟨pb,0,none⟩=some (.slice (some ⟨b,o,none⟩) (r.length+1) c):=hB.cell rfl;refine bM Tryz.func58 rfl (by kernel_rfl) [] rfl ?_;push_cast -dsimp(maxSteps:=4000000) [Tryz.ntmps58];push_cast -dsimp[cb,c2];refine⟨by omega,aR ?_⟩;intro w' tW;have iL:aM w' w.heap.size 94 [.int .i64 e,.int .i64 t.pos]:=tW.aN;have jK:=tW.below;push_cast -dsimp;refine XY ?_;push_cast -dsimp;exact⟨⟨_,Nat.le_refl _,rfl,iL⟩,jK⟩
theorem B9 (s:List UInt8){pb B:Nat}{w:World}{l:List Tok}(h:PS pb B w l):bE Tryz.prog 94 [.pointer (some ⟨pb,0,none⟩),str s] w λr w'=>r=.bool (dT s l)/\w'=w:=by
 obtain⟨t,r,rfl⟩:=h.tl.cons;obtain⟨b,o,c,hB,hc,dD,c0,c1,c2,c3⟩:=h.hd;have cb:w.cell? ⟨pb,0,none⟩=some (.slice (some ⟨b,o,none⟩) (r.length+1) c):=hB.cell rfl;have hs:dT s (t::r)=(t.kind != 5 && t.text == s):=rfl;refine aE Tryz.func94 rfl (by kernel_rfl) [4] rfl ?_;push_cast -dsimp(maxSteps:=4000000) [Tryz.ntmps94];push_cast -dsimp[cb,c0,c1];refine⟨by omega,λh5=>⟨by omega,?_⟩,λh5=>?_⟩
 ·rw[hs];have Sk:t.kind≠5:=λe=>h5 (by omega);congr 1;by_cases he:t.text=s<;>simp[he,Sk]
 rw[hs];have Sk:t.kind=5:=by omega
 simp[Sk]
theorem dV {t:Tok}{r:List Tok}(h:t.kind≠5):cM (t::r)=.ok ((),r):=by simp[cM,h]
theorem SD {s:List UInt8}{t:Tok}{r:List Tok}(h:dT s (t::r)=true):t.kind≠5:=by
 have:(t.kind != 5 && t.text == s)=true:=h;simp at this;exact this.1
def aLo (s:List UInt8)(pb B:Nat)(w:World)(l:List Tok):VK:=λr w'=>(dT s l=true/\r=.bool true/\∃t r',l=t::r'/\t.kind≠5/\PS pb B w' r'/\Kept (·=pb) w w'/\w'.heap.size=w.heap.size)\/(dT s l=false/\r=.bool false/\w'=w)
theorem gG (s:List UInt8){pb B:Nat}{w:World}{l:List Tok}(h:PS pb B w l):bE Tryz.prog 98 [.pointer (some ⟨pb,0,none⟩),str s] w (aLo s pb B w l):=by
 obtain⟨t,r,rfl⟩:=h.tl.cons;obtain⟨b,o,c,hB,hc,dD,c0,c1,c2,c3⟩:=h.hd;have cb:w.cell? ⟨pb,0,none⟩=some (.slice (some ⟨b,o,none⟩) (r.length+1) c):=hB.cell rfl;refine aE Tryz.func98 rfl (by kernel_rfl) [4] rfl ?_;push_cast -dsimp(maxSteps:=4000000) [Tryz.ntmps98];refine aA (B9 s h) ?_;rintro _ _ ⟨rfl,rfl⟩;cases hs:dT s (t::r) with
 | false =>
  push_cast -dsimp;exact .inr ⟨hs,rfl,rfl⟩
 | true =>
  have h5:=SD hs;push_cast -dsimp[cb,Gm];refine⟨by omega,?_⟩;refine aC hB (by simp) rfl ?_;intro w' tW;have xU:=h.pop hB h5 tW;have hk:=tW.kept;have hz:=tW.size;push_cast -dsimp;exact .inl ⟨hs,rfl,t,r,rfl,h5,xU,hk,hz⟩
theorem fb (s:List UInt8){pb B:Nat}{w:World}{l:List Tok}(h:PS pb B w l):Pc 95 [.pointer (some ⟨pb,0,none⟩),str s] pb B w l (dB s) (λ_ r _=>r=.tuple #[]):=by
 refine bM Tryz.func95 rfl (by kernel_rfl) [] rfl ?_;push_cast -dsimp(maxSteps:=4000000) [Tryz.ntmps95];refine aA (gG s h) ?_;rintro _ w1 hT;rcases hT with ⟨hs,rfl,t,r,rfl,h5,xU,hk,hz⟩|⟨hs,rfl,rfl⟩
 ·push_cast -dsimp;exact⟨(),r,by unfold dB ay;rw[hs];exact dV h5,rfl,xU,hk⟩
 push_cast -dsimp;refine aG (jZ 3 h) (λ_ _ h=>h.elim) ?_;rintro c w2 ⟨ht,hb⟩;push_cast -dsimp;exact⟨3,_,by unfold dB ay;rw[hs];rfl,ht,Kept.aO hb (λi h1 h2=>by omega)⟩
theorem mI (n:Int){pb B:Nat}{w:World}{l:List Tok}(h:PS pb B w l):yB Tryz.prog 133 [.pointer (some ⟨pb,0,none⟩),.int .i64 n] w (λr w'=>n<=8/\r=.tuple #[]/\w'=w) (λc w'=>8<n/\Thr w.heap.size w' c 4 (Cae.hd l).pos/\Below w.heap.size w w'):=by
 refine bM Tryz.func133 rfl (by kernel_rfl) [] rfl ?_;push_cast -dsimp(maxSteps:=4000000) [Tryz.ntmps133];refine⟨λh8=>?_,λh8=>by omega⟩;refine aG (jZ 4 h) (λ_ _ h=>h.elim) ?_;rintro c w2 ⟨ht,hb⟩;push_cast -dsimp;exact⟨h8,ht,hb⟩
def Nq:List (List UInt8×Value):=[([99,108,97,115,115],.int .i64 1),([98,114,101,97,107],.int .i64 1),([107,101,101,112],.int .i64 1),([101,108,115,101],.int .i64 1)]
theorem aFr (s:List UInt8)(w:World):bE Tryz.prog 159 [str s] w λr w'=>r=.bool (Ao s)/\Below w.heap.size w w':=by
 refine aE Tryz.func159 rfl (by kernel_rfl) [2] rfl ?_;push_cast -dsimp(maxSteps:=4000000) [Tryz.ntmps159];refine Aw (key:=λl:List UInt8=>str l) ?_;intro w1 m1 b1 z1;push_cast -dsimp;refine jJ (kt:=9) (et:=3) (k:=[99,108,97,115,115]) (by kernel_rfl) (np (by kernel_rfl)) m1 rfl rfl ?_;intro w2 m2 k2 z2;push_cast -dsimp;refine jJ (kt:=9) (et:=3) (k:=[98,114,101,97,107]) (by kernel_rfl) (np (by kernel_rfl)) m2 rfl (by decide) ?_;intro w3 m3 k3 z3;push_cast -dsimp;refine jJ (kt:=9) (et:=3) (k:=[107,101,101,112]) (by kernel_rfl) (np (by kernel_rfl)) m3 rfl (by decide) ?_;intro w4 m4 k4 z4;push_cast -dsimp;refine jJ (kt:=9) (et:=3) (k:=[101,108,115,101]) (by kernel_rfl) (np (by kernel_rfl)) m4 rfl (by decide) ?_;intro w5 m5 k5 z5;have m6:ml (λl:List UInt8=>str l) w5 w.heap.size Nq:=m5;have hb:Below w.heap.size w w5:=b1.trans ((((k2.trans k3 (λ_ _ h=>h)).trans k4 (λ_ _ h=>h)).trans k5 (λ_ _ h=>h)).below (by omega) (λi h=>by omega));push_cast -dsimp;refine GS (kt:=9) (et:=3) (z:=.int .i64 0) (c:=false) (k:=s) (by kernel_rfl) (np (by kernel_rfl)) (by kernel_rfl) m6 ?_;cases hk:Ao s with
 | true =>
  have ha:(eA s Nq).getD (.int .i64 0)=.int .i64 1:=by
   simp only[Ao,Bool.or_eq_true,beq_iff_eq]at hk;rcases hk with ((rfl|rfl)|rfl)|rfl<;>rfl
  rw[if_neg (by decide),ha];push_cast -dsimp;exact hb
 | false =>
  have ha:(eA s Nq).getD (.int .i64 0)=.int .i64 0:=by
   simp only[Ao,Bool.or_eq_false_iff,beq_eq_false_iff_ne]at hk;simp[Nq,eA,hk.1.1.1,hk.1.1.2,hk.1.2,hk.2]
  rw[if_neg (by decide),ha];push_cast -dsimp;exact⟨rfl,hb⟩
theorem G0 {pb B:Nat}{w:World}{l:List Tok}(h:PS pb B w l):bE Tryz.prog 131 [.pointer (some ⟨pb,0,none⟩)] w λr w'=>r=.bool (j5 l)/\Below w.heap.size w w':=by
 obtain⟨t,r,rfl⟩:=h.tl.cons;obtain⟨b,o,c,hB,hc,dD,c0,c1,c2,c3⟩:=h.hd;have cb:w.cell? ⟨pb,0,none⟩=some (.slice (some ⟨b,o,none⟩) (r.length+1) c):=hB.cell rfl;have hs:j5 (t::r)=(t.kind == 1 && !Ao t.text):=rfl;refine aE Tryz.func131 rfl (by kernel_rfl) [2] rfl ?_;push_cast -dsimp(maxSteps:=4000000) [Tryz.ntmps131];push_cast -dsimp[cb,c0,c1];refine⟨by omega,λh5=>⟨by omega,?_⟩,λh5=>?_⟩
 ·refine aA (aFr t.text w) ?_;rintro _ w1 ⟨rfl,hb⟩;have Sk:t.kind=1:=by omega
  push_cast -dsimp;exact⟨by rw[hs,Sk];rfl,hb⟩
 have Sk:t.kind≠1:=λe=>h5 (by omega);exact⟨by rw[hs];simp[Sk],Below.refl _ _⟩
theorem XD {pb B:Nat}{w:World}{l:List Tok}(h:PS pb B w l):Pc 96 [.pointer (some ⟨pb,0,none⟩)] pb B w l mX (λ_ r n=>r=str n):=by
 obtain⟨t,r,rfl⟩:=h.tl.cons;obtain⟨b,o,c,hB,hc,dD,c0,c1,c2,c3⟩:=h.hd;have cb:w.cell? ⟨pb,0,none⟩=some (.slice (some ⟨b,o,none⟩) (r.length+1) c):=hB.cell rfl;have hn:j5 (t::r)=(t.kind == 1 && !Ao t.text):=rfl;refine bM Tryz.func96 rfl (by kernel_rfl) [.tmp 2] rfl ?_;push_cast -dsimp(maxSteps:=4000000) [Tryz.ntmps96];push_cast -dsimp[cb,Nat.zero_mul,Nat.add_zero,c3];refine⟨by omega,?_⟩;refine ag (z:=[.int .i64 0,str [],.int .i64 0]) (by kernel_rfl) ?_;intro w1 aZ;have B1:=aZ.aN;have P1:=h.below aZ.below;have z1:=aZ.size;have b1:=aZ.below;push_cast -dsimp;refine aJ (xt:=136) (n:=3) (by kernel_rfl) B1 rfl (by decide) (by simp;exact⟨rfl,rfl,rfl⟩) ?_;intro w2 bw;have B2:aM w2 w.heap.size 136 [.int .i64 t.kind,str t.text,.int .i64 t.pos]:=bw.aN;have P2:=P1.kept bw.kept (λi hi=>by have:=h.le;omega);have z2:=bw.size;have b2:=b1.trans (bw.kept.below (B:=w.heap.size) (by omega) (λi h=>by omega));push_cast -dsimp;refine aA (G0 P2) ?_;rintro _ w3 ⟨rfl,b3⟩;have P3:=P2.below b3;have B3:=B2.below b3 (by omega);have b13:Below w.heap.size w w3:=b2.trans (b3.mono (by omega));have yr:Kept (·=pb) w w3:=Kept.aO b13 (λi h1 h2=>by omega);cases o8:j5 (t::r) with
 | false =>
  push_cast -dsimp;refine aG (jZ 3 P3) (λ_ _ h=>h.elim) ?_;rintro c w4 ⟨ht,hb⟩;push_cast -dsimp;have Nh:=b3.size;exact⟨3,_,by unfold mX ay;rw[o8];rfl,ht.mono (by omega),yr.trans (Kept.aO hb (X:=(·=pb)) (λi h1 h2=>by omega)) (λi _ h=>h)⟩
 | true =>
  have d1:w3.cell? ⟨w.heap.size,1,none⟩=some (str t.text):=B3.cell rfl;push_cast -dsimp[d1];refine⟨λaJi=>?_,λLj=>?_⟩
  ·refine aG (jZ 4 P3) (λ_ _ h=>h.elim) ?_;rintro c w4 ⟨ht,hb⟩;push_cast -dsimp;have Nh:=b3.size;have hl:Dt (t::r)=true:=decide_eq_true (show 10<t.text.length by omega)
   exact⟨4,_,by unfold mX ay;rw[o8,hl];rfl,ht.mono (by omega),yr.trans (Kept.aO hb (X:=(·=pb)) (λi h1 h2=>by omega)) (λi _ h=>h)⟩
  have hl:Dt (t::r)=false:=decide_eq_false (show ¬10<t.text.length by omega)
  have h5:t.kind≠5:=by
   rw[hn]at o8;simp at o8;omega
  have Ps:=hB.kept (Kept.aO b13 (X:=λi=>w.heap.size<=i) (λi h1 h2=>h1)) (by have:=h.lt;have:=h.le;omega);have cb3:w3.cell? ⟨pb,0,none⟩=some (.slice (some ⟨b,o,none⟩) (r.length+1) c):=Ps.cell rfl;push_cast -dsimp[cb3,Gm];refine⟨by omega,?_⟩;refine aC Ps (by simp) rfl ?_;intro w4 az;have P4:=P3.pop Ps h5 az;have B4:=B3.kept az.kept (by have:=h.lt;have:=h.le;omega);have d4:w4.cell? ⟨w.heap.size,1,none⟩=some (str t.text):=B4.cell rfl;have k4:=yr.trans az.kept (λi _ h=>h);push_cast -dsimp[d4];exact⟨t.text,r,by simp[mX,ay,o8,hl,Cae.pb,dW,cM,pr,h5,Cae.hd],rfl,P4,k4⟩
def eY (X:Nat->Prop)(w:World):Value->ao->Prop
 | v,.lit pos s=>∃b sv,v=.pointer (some ⟨b,0,none⟩)/\¬X b/\aM w b 48 [.int .i64 1,.int .i64 pos,sv,str [],.pointer none,.pointer none]/\Sl X 2 (En bL) w sv s/\Arg sv
 | v,.ref pos n=>∃b,v=.pointer (some ⟨b,0,none⟩)/\¬X b/\aM w b 48 [.int .i64 2,.int .i64 pos,.slice none 0 0,str n,.pointer none,.pointer none]
 | v,.not pos k=>∃b u,v=.pointer (some ⟨b,0,none⟩)/\¬X b/\aM w b 48 [.int .i64 6,.int .i64 pos,.slice none 0 0,str [],u,.pointer none]/\eY X w u k
 | v,.bin c pos k r=>∃b u x,v=.pointer (some ⟨b,0,none⟩)/\¬X b/\aM w b 48 [.int .i64 c,.int .i64 pos,.slice none 0 0,str [],u,x]/\eY X w u k/\eY X w x r
theorem eY.mono {X X' Y:Nat->Prop}{w w':World}(hk:Kept Y w w')(hY:∀i,Y i->X i)(hX:∀i,X' i->X i):∀{k:ao} {v:Value},eY X w v k->eY X' w' v k
 | .lit pos s,v,⟨b,sv,hv,hb,hB,hs,ha⟩=>⟨b,sv,hv,λhh=>hb (hX b hh),hB.kept hk (λhh=>hb (hY b hh)),(hs.kept hk hY).weaken hX,ha⟩
 | .ref pos n,v,⟨b,hv,hb,hB⟩=>⟨b,hv,λhh=>hb (hX b hh),hB.kept hk (λhh=>hb (hY b hh))⟩
 | .not pos k,v,⟨b,u,hv,hb,hB,h⟩=>⟨b,u,hv,λhh=>hb (hX b hh),hB.kept hk (λhh=>hb (hY b hh)),h.mono hk hY hX⟩
 | .bin c pos k r,v,⟨b,u,x,hv,hb,hB,h,h'⟩=>⟨b,u,x,hv,λhh=>hb (hX b hh),hB.kept hk (λhh=>hb (hY b hh)),h.mono hk hY hX,h'.mono hk hY hX⟩
theorem eY.below {X:Nat->Prop}{w w':World}{k:ao}{v:Value}(h:eY X w v k)(hb:Below w.heap.size w w'):eY X w' v k:=by
 induction k generalizing v with
 | lit pos s=>obtain⟨b,sv,hv,hx,hB,hs,ha⟩:=h;exact⟨b,sv,hv,hx,hB.below hb hB.lt,hs.below hb,ha⟩
 | ref pos n=>obtain⟨b,hv,hx,hB⟩:=h;exact⟨b,hv,hx,hB.below hb hB.lt⟩
 | not pos k ih=>obtain⟨b,u,hv,hx,hB,hs⟩:=h;exact⟨b,u,hv,hx,hB.below hb hB.lt,ih hs⟩
 | bin c pos k r ih ih'=>obtain⟨b,u,x,hv,hx,hB,hs,Qf⟩:=h;exact⟨b,u,x,hv,hx,hB.below hb hB.lt,ih hs,ih' Qf⟩
theorem Sl.top {α:Type}{X:Nat->Prop}{k:Nat}{R:List Value->α->Prop}{w:World}{v:Value}{l:List α}(hk:0<k)(h:Sl X k R w v l):Sl (λb=>X b\/w.heap.size<=b) k R w v l:=by
 unfold Sl at h ⊢
 obtain⟨a,c,rfl,hc,h⟩:=h;refine⟨a,c,rfl,hc,λi x hx=>?_⟩;obtain⟨b,o,cs,ha,hb,iW,aK,hr⟩:=h i x hx;refine⟨b,o,cs,ha,λhh=>?_,iW,aK,hr⟩;rcases hh with hh|hh
 ·exact hb hh
 obtain⟨u,hu⟩:∃u,cs[0]?=some u:=⟨cs[0]'(by omega),List.getElem?_eq_getElem (by omega)⟩
 have:=World.block_lt_of_cell? w _ (aK 0 u hu);simp at this;omega
theorem eY.top {X:Nat->Prop}{w:World}{k:ao}{v:Value}(h:eY X w v k):eY (λb=>X b\/w.heap.size<=b) w v k:=by
 induction k generalizing v with
 | lit pos s=>obtain⟨b,sv,hv,hx,hB,hs,ha⟩:=h;exact⟨b,sv,hv,λhh=>hh.elim hx (λhh=>by have:=hB.lt;omega),hB,Sl.top (by decide) hs,ha⟩
 | ref pos n=>obtain⟨b,hv,hx,hB⟩:=h;exact⟨b,hv,λhh=>hh.elim hx (λhh=>by have:=hB.lt;omega),hB⟩
 | not pos k ih=>obtain⟨b,u,hv,hx,hB,hs⟩:=h;exact⟨b,u,hv,λhh=>hh.elim hx (λhh=>by have:=hB.lt;omega),hB,ih hs⟩
 | bin c pos k r ih ih'=>obtain⟨b,u,x,hv,hx,hB,hs,Qf⟩:=h;exact⟨b,u,x,hv,λhh=>hh.elim hx (λhh=>by have:=hB.lt;omega),hB,ih hs,ih' Qf⟩
theorem eY.ptr {X:Nat->Prop}{w:World}{k:ao}{v:Value}(h:eY X w v k):∃b,v=.pointer (some ⟨b,0,none⟩)/\b<w.heap.size:=by
 cases k with
 | lit pos s=>obtain⟨b,sv,hv,hx,hB,hs⟩:=h;exact⟨b,hv,hB.lt⟩
 | ref pos n=>obtain⟨b,hv,hx,hB⟩:=h;exact⟨b,hv,hB.lt⟩
 | not pos k=>obtain⟨b,u,hv,hx,hB,hs⟩:=h;exact⟨b,hv,hB.lt⟩
 | bin c pos k r=>obtain⟨b,u,x,hv,hx,hB,hs,Qf⟩:=h;exact⟨b,hv,hB.lt⟩
def xc (w:World)(pb:Nat):Nat:=match w.cell? ⟨pb,0,none⟩ with
 | some (.slice _ n _)=>n
 | _=>0
theorem PS.len {pb B:Nat}{w:World}{l:List Tok}(h:PS pb B w l):xc w pb=l.length:=by
 obtain⟨v,h1,h2⟩:=h.st;obtain⟨a,c,rfl,_⟩:=h2.shape;unfold xc;rw[h1.cell (o:=0) rfl]
def TQ (d:Nat):Prop:=∀(n:Int),0<=n->n+(d:Int)=9->∀(pb B:Nat) (w:World) (l:List Tok),PS pb B w l->Pc 132 [.pointer (some ⟨pb,0,none⟩),.int .i64 n] pb B w l (lH d) (λw' r k=>eY (·<w.heap.size) w' r k)
def aCh (d:Nat):Prop:=∀(n:Int),0<=n->n+(d:Int)=9->∀(pb B:Nat) (w:World) (l:List Tok),PS pb B w l->Pc 97 [.pointer (some ⟨pb,0,none⟩),.int .i64 n] pb B w l (qY d) (λw' r k=>eY (·<w.heap.size) w' r k)
theorem Nr (d:Nat)(so:TQ d):aCh d:=by
 intro n vt hn pb B w l0 h0;obtain⟨t,r,rfl⟩:=h0.tl.cons;obtain⟨b,o,c,hB,hc,dD,c0,c1,c2,c3⟩:=h0.hd;have cb:w.cell? ⟨pb,0,none⟩=some (.slice (some ⟨b,o,none⟩) (r.length+1) c):=hB.cell rfl;have Kd:∃l0,l0=t::r:=⟨_,rfl⟩;obtain⟨l0,Kd⟩:=Kd;rw[<-Kd]at h0 ⊢
 have Vz:Cae.hd l0=t:=by rw[Kd];rfl
 refine bM Tryz.func97 rfl (by kernel_rfl) [.tmp 4] rfl ?_;push_cast -dsimp(maxSteps:=4000000) [Tryz.ntmps97];push_cast -dsimp[cb,c2];refine⟨by omega,?_⟩;refine aG (so n vt hn pb B w l0 h0) ?_ ?_
 ·rintro v1 w1 ⟨k0,l1,e1,V1,P1,N9⟩;have Lm:qY d l0=dM (lH d) t.pos 1000 k0 l1:=by
   unfold qY sG;rw[aH (p:=dW) (x:=Cae.hd l0) (l1:=l0) rfl,aH e1,Vz]
  push_cast -dsimp;refine aL [4,6,7,18,19,20,21,22,23,24,25,26,27,28,29,30,31,32,33,34,35] (λz w'=>∃(m:Nat) (k1:ao) (l1:List Tok),dM (lH d) t.pos m k1 l1=qY d l0/\l1.length<m/\eY (·<w.heap.size) w' (z 6) k1/\PS pb B w' l1/\Kept (·=pb) w w') (λz w'=>xc w' pb) ?_ ?_
  ·have aw:l1.length<1000:=by have:=P1.tl.len;omega
   exact⟨1000,k0,l1,Lm.symm,aw,V1,P1,N9⟩
  rintro z w' ⟨m,k1,l1,dG,hm,V1,nG,Df⟩;obtain⟨kb,Ni,Cv⟩:=V1.ptr;rw[Ni]at V1;obtain⟨t1,r1,mj⟩:=nG.tl.cons;push_cast -dsimp;refine aA (gG [124] nG) ?_;rintro _ w2 hT;rcases hT with ⟨gA,rfl,t1',TI,Hl,yH,P2,kt,hz⟩|⟨gA,rfl,qU⟩
  ·obtain⟨rfl,rfl⟩:t1=t1'/\r1=TI:=by rw[mj]at Hl;exact List.cons.inj Hl
   rw[mj]at gA
   ·have Co:tj l1=.ok (3,r1):=by
     rw[mj];simp[tj,ay,gA,Cae.pb,cM,pr,yH]
    push_cast -dsimp;refine aG (so n vt hn pb B w2 r1 P2) ?_ ?_
    ·rintro u w3 ⟨k2,l2,e2,V2,P3,k3⟩;obtain⟨ub,rfl,HL⟩:=V2.ptr;push_cast -dsimp[Ni];refine aR ?_;intro w4 az;have B4:aM w4 w3.heap.size 48 [.int .i64 (3:Nat),.int .i64 t.pos,.slice none 0 0,str [],.pointer (some ⟨kb,0,none⟩),.pointer (some ⟨ub,0,none⟩)]:=az.aN;have P4:=P3.below az.below;have z4:=az.size;have Wb:Kept (·=pb) w' w4:=(kt.trans k3 (λi _ h=>h)).trans (Kept.aO az.below (X:=(·=pb)) (λi h1 h2=>by omega)) (λi _ h=>h);have z14:=Wb.size;have zw:=Df.size;have hKa:eY (·<w.heap.size) w4 (.pointer (some ⟨kb,0,none⟩)) k1:=V1.mono Wb (λi h=>by have:=nG.lt;have:=h0.le;omega) (λ_ h=>h);have hKb:eY (·<w.heap.size) w4 (.pointer (some ⟨ub,0,none⟩)) k2:=V2.mono (Kept.aO az.below (X:=λi=>False) (λi h1 h2=>by omega)) (λ_ h=>h.elim) (λi h=>by have:=kt.size;omega);have xQ:dM (lH d) t.pos (m-1) (.bin 3 t.pos k1 k2) l2=qY d l0:=by
      rw[<-dG];obtain⟨m',rfl⟩:∃m',m=m'+1:=⟨m-1,by omega⟩;rw[dM,aH Co,if_neg (by decide),aH e2];rfl
     have mn:l2.length<=r1.length:=by
      obtain⟨pre,_,e,_⟩:=pI d _ _ _ e2;rw[e,List.length_append];omega
     have vn:l1.length=r1.length+1:=by rw[mj,List.length_cons]
     have kU:=P4.len;have fM:=nG.len;push_cast -dsimp;refine⟨⟨m-1,_,l2,xQ,by omega,?_,P4,Df.trans Wb (λi _ h=>h)⟩,by rw[kU,fM];omega⟩;exact⟨w3.heap.size,_,_,rfl,by have:=kt.size;have:=k3.size;omega,B4,hKa,hKb⟩
    rintro c w3 ⟨e,pos,he,ht,AX⟩;push_cast -dsimp;refine⟨e,pos,?_,ht.mono (by have:=kt.size;have:=Df.size;omega),(Df.trans kt (λi _ h=>h)).trans AX (λi _ h=>h)⟩;rw[<-dG];obtain⟨m',rfl⟩:∃m',m=m'+1:=⟨m-1,by omega⟩;rw[dM,aH Co,if_neg (by decide)];unfold Cae.pb;rw[he]
  obtain rfl:w'=w2:=qU.symm;rw[mj]at gA;push_cast -dsimp;refine aA (gG [38] nG) ?_;rintro _ w2 hT;rcases hT with ⟨gd,rfl,t1',TI,Hl,yH,P2,kt,hz⟩|⟨gd,rfl,qU⟩
  ·obtain⟨rfl,rfl⟩:t1=t1'/\r1=TI:=by rw[mj]at Hl;exact List.cons.inj Hl
   rw[mj]at gd
   ·have Co:tj l1=.ok (4,r1):=by
     rw[mj];simp[tj,ay,gA,gd,Cae.pb,cM,pr,yH]
    push_cast -dsimp;refine aG (so n vt hn pb B w2 r1 P2) ?_ ?_
    ·rintro u w3 ⟨k2,l2,e2,V2,P3,k3⟩;obtain⟨ub,rfl,HL⟩:=V2.ptr;push_cast -dsimp[Ni];refine aR ?_;intro w4 az;have B4:aM w4 w3.heap.size 48 [.int .i64 (4:Nat),.int .i64 t.pos,.slice none 0 0,str [],.pointer (some ⟨kb,0,none⟩),.pointer (some ⟨ub,0,none⟩)]:=az.aN;have P4:=P3.below az.below;have z4:=az.size;have Wb:Kept (·=pb) w' w4:=(kt.trans k3 (λi _ h=>h)).trans (Kept.aO az.below (X:=(·=pb)) (λi h1 h2=>by omega)) (λi _ h=>h);have z14:=Wb.size;have zw:=Df.size;have hKa:eY (·<w.heap.size) w4 (.pointer (some ⟨kb,0,none⟩)) k1:=V1.mono Wb (λi h=>by have:=nG.lt;have:=h0.le;omega) (λ_ h=>h);have hKb:eY (·<w.heap.size) w4 (.pointer (some ⟨ub,0,none⟩)) k2:=V2.mono (Kept.aO az.below (X:=λi=>False) (λi h1 h2=>by omega)) (λ_ h=>h.elim) (λi h=>by have:=kt.size;omega);have xQ:dM (lH d) t.pos (m-1) (.bin 4 t.pos k1 k2) l2=qY d l0:=by
      rw[<-dG];obtain⟨m',rfl⟩:∃m',m=m'+1:=⟨m-1,by omega⟩;rw[dM,aH Co,if_neg (by decide),aH e2];rfl
     have mn:l2.length<=r1.length:=by
      obtain⟨pre,_,e,_⟩:=pI d _ _ _ e2;rw[e,List.length_append];omega
     have vn:l1.length=r1.length+1:=by rw[mj,List.length_cons]
     have kU:=P4.len;have fM:=nG.len;push_cast -dsimp;refine⟨⟨m-1,_,l2,xQ,by omega,?_,P4,Df.trans Wb (λi _ h=>h)⟩,by rw[kU,fM];omega⟩;exact⟨w3.heap.size,_,_,rfl,by have:=kt.size;have:=k3.size;omega,B4,hKa,hKb⟩
    rintro c w3 ⟨e,pos,he,ht,AX⟩;push_cast -dsimp;refine⟨e,pos,?_,ht.mono (by have:=kt.size;have:=Df.size;omega),(Df.trans kt (λi _ h=>h)).trans AX (λi _ h=>h)⟩;rw[<-dG];obtain⟨m',rfl⟩:∃m',m=m'+1:=⟨m-1,by omega⟩;rw[dM,aH Co,if_neg (by decide)];unfold Cae.pb;rw[he]
  obtain rfl:w'=w2:=qU.symm;rw[mj]at gd;push_cast -dsimp;refine aA (gG [45] nG) ?_;rintro _ w2 hT;rcases hT with ⟨lW,rfl,t1',TI,Hl,yH,P2,kt,hz⟩|⟨lW,rfl,qU⟩
  ·obtain⟨rfl,rfl⟩:t1=t1'/\r1=TI:=by rw[mj]at Hl;exact List.cons.inj Hl
   rw[mj]at lW
   ·have Co:tj l1=.ok (5,r1):=by
     rw[mj];simp[tj,ay,gA,gd,lW,Cae.pb,cM,pr,yH]
    push_cast -dsimp;refine aG (so n vt hn pb B w2 r1 P2) ?_ ?_
    ·rintro u w3 ⟨k2,l2,e2,V2,P3,k3⟩;obtain⟨ub,rfl,HL⟩:=V2.ptr;push_cast -dsimp[Ni];refine aR ?_;intro w4 az;have B4:aM w4 w3.heap.size 48 [.int .i64 (5:Nat),.int .i64 t.pos,.slice none 0 0,str [],.pointer (some ⟨kb,0,none⟩),.pointer (some ⟨ub,0,none⟩)]:=az.aN;have P4:=P3.below az.below;have z4:=az.size;have Wb:Kept (·=pb) w' w4:=(kt.trans k3 (λi _ h=>h)).trans (Kept.aO az.below (X:=(·=pb)) (λi h1 h2=>by omega)) (λi _ h=>h);have z14:=Wb.size;have zw:=Df.size;have hKa:eY (·<w.heap.size) w4 (.pointer (some ⟨kb,0,none⟩)) k1:=V1.mono Wb (λi h=>by have:=nG.lt;have:=h0.le;omega) (λ_ h=>h);have hKb:eY (·<w.heap.size) w4 (.pointer (some ⟨ub,0,none⟩)) k2:=V2.mono (Kept.aO az.below (X:=λi=>False) (λi h1 h2=>by omega)) (λ_ h=>h.elim) (λi h=>by have:=kt.size;omega);have xQ:dM (lH d) t.pos (m-1) (.bin 5 t.pos k1 k2) l2=qY d l0:=by
      rw[<-dG];obtain⟨m',rfl⟩:∃m',m=m'+1:=⟨m-1,by omega⟩;rw[dM,aH Co,if_neg (by decide),aH e2];rfl
     have mn:l2.length<=r1.length:=by
      obtain⟨pre,_,e,_⟩:=pI d _ _ _ e2;rw[e,List.length_append];omega
     have vn:l1.length=r1.length+1:=by rw[mj,List.length_cons]
     have kU:=P4.len;have fM:=nG.len;push_cast -dsimp;refine⟨⟨m-1,_,l2,xQ,by omega,?_,P4,Df.trans Wb (λi _ h=>h)⟩,by rw[kU,fM];omega⟩;exact⟨w3.heap.size,_,_,rfl,by have:=kt.size;have:=k3.size;omega,B4,hKa,hKb⟩
    rintro c w3 ⟨e,pos,he,ht,AX⟩;push_cast -dsimp;refine⟨e,pos,?_,ht.mono (by have:=kt.size;have:=Df.size;omega),(Df.trans kt (λi _ h=>h)).trans AX (λi _ h=>h)⟩;rw[<-dG];obtain⟨m',rfl⟩:∃m',m=m'+1:=⟨m-1,by omega⟩;rw[dM,aH Co,if_neg (by decide)];unfold Cae.pb;rw[he]
  obtain rfl:w'=w2:=qU.symm;rw[mj]at lW;push_cast -dsimp[Ni];refine⟨k1,l1,?_,V1,nG,Df⟩;rw[<-dG];obtain⟨m',rfl⟩:∃m',m=m'+1:=⟨m-1,by omega⟩;have Co:tj l1=.ok (0,l1):=by
   rw[mj];simp[tj,ay,gA,gd,lW,pr]
  rw[dM,aH Co,if_pos rfl];rfl
 rintro c w3 ⟨e,pos,he,ht,AX⟩;push_cast -dsimp;refine⟨e,pos,?_,ht,AX⟩;unfold qY sG;rw[aH (p:=dW) (x:=Cae.hd l0) (l1:=l0) rfl];unfold Cae.pb;rw[he]
theorem XK:TQ 0:=by
 intro n vt hn pb B w l h;refine bM Tryz.func132 rfl (by kernel_rfl) [.tmp 4] rfl ?_;push_cast -dsimp(maxSteps:=4000000) [Tryz.ntmps132];refine aG (mI n h) ?_ ?_
 ·rintro _ _ ⟨h8,rfl,rfl⟩;omega
 rintro c w' ⟨h8,ht,hb⟩;push_cast -dsimp;exact⟨4,_,rfl,ht,Kept.aO hb (λi h1 h2=>by omega)⟩
theorem XJ (d:Nat)(ih:TQ d):TQ (d+1):=by
 have ihk:=Nr d ih;intro n vt hn pb B w l0 h0;obtain⟨t,r,Kd⟩:=h0.tl.cons;have Vz:Cae.hd l0=t:=by rw[Kd];rfl
 have HB:=h0;rw[Kd]at HB;obtain⟨b,o,c,hB,hc,dD,c0,c1,c2,c3⟩:=HB.hd;have cb:w.cell? ⟨pb,0,none⟩=some (.slice (some ⟨b,o,none⟩) (r.length+1) c):=hB.cell rfl;have hle:=h0.le;have aw:=h0.lt;refine bM Tryz.func132 rfl (by kernel_rfl) [.tmp 4] rfl ?_;push_cast -dsimp(maxSteps:=4000000) [Tryz.ntmps132];refine aG (mI n h0) ?_ (λc w' hh=>by have:=hh.1;omega);rintro _ w0 ⟨h8,rfl,yQ⟩;obtain rfl:w=w0:=yQ.symm;push_cast -dsimp[cb,c2];refine⟨by omega,aR ?_⟩;intro w1 aZ;have B1:aM w1 w.heap.size 48 [.int .i64 0,.int .i64 t.pos,.slice none 0 0,str [],.pointer none,.pointer none]:=aZ.aN;have P1:=h0.below aZ.below;have P1':=HB.below aZ.below;have z1:=aZ.size;have k1:Kept (·=pb) w w1:=Kept.aO aZ.below (λi h1 h2=>by omega);obtain⟨b',o',c',qH,hc',Cy,Ya,c1',c2',c3'⟩:=P1'.hd;have cb':w1.cell? ⟨pb,0,none⟩=some (.slice (some ⟨b',o',none⟩) (r.length+1) c'):=qH.cell rfl;have Ac:lH (d+1) l0=ay (isKind 3) GP (ay (dT [126]) (Cae.pb dW λt=>Cae.pb cM λ_=>Cae.pb (lH d) λk=>pr (.not t.pos k))
  (ay (dT [40]) (Cae.pb cM λ_=>Cae.pb (sG (lH d)) λk=>Cae.pb (dB [41]) λ_=>pr k)
   (Cae.pb dW λt=>Cae.pb mX λn=>pr (.ref t.pos n)))) l0:=rfl
 have hpk:∀{β:Type} (q:Tok->Pa β),Cae.pb dW q l0=q t l0:=λq=>by rw[aH (p:=dW) (x:=Cae.hd l0) (l1:=l0) rfl,Vz]
 push_cast -dsimp[cb',Ya];refine⟨by omega,λh3=>?_,λh3=>?_⟩
 ·have AX:isKind 3 l0=true:=by
   have:t.kind=3:=by omega
   simp[isKind,Vz,this]
  have h5:t.kind≠5:=by omega
  push_cast -dsimp[cb',c1'];refine⟨by omega,?_⟩;refine aA (aBD t.text (HB.tl.txt t (by simp)) w1 P1.db P1.er) ?_;rintro rv w2 ⟨hR,b2⟩;have P2:=P1.below b2;have P2':=P1'.below b2;have B2:=B1.below b2 (by omega);have k2:Kept (·=pb) w w2:=k1.trans (Kept.aO b2 (X:=(·=pb)) (λi h1 h2=>by omega)) (λi _ h=>h);have z2:=b2.size;rcases hR with ⟨v,s,rfl,ho,hpr⟩|⟨eZ,rfl⟩
  ·have sq:=aBN hpr;have hs0:=ho.sl;have ha0:Arg v:=ho.dR;obtain⟨va,vc,rfl,_⟩:=hs0.shape;push_cast -dsimp;refine aC B2 (by simp) rfl ?_;intro w3 dZ;have B3:aM w3 w.heap.size 48 [.int .i64 1,.int .i64 t.pos,.slice none 0 0,str [],.pointer none,.pointer none]:=dZ.aN;push_cast -dsimp;refine aC B3 (by simp) rfl ?_;intro w4 az;have B4:aM w4 w.heap.size 48 [.int .i64 1,.int .i64 t.pos,.slice va s.length vc,str [],.pointer none,.pointer none]:=az.aN;have k34:Kept (·=w.heap.size) w2 w4:=dZ.kept.trans az.kept (λi _ h=>h);have P4':=P2'.kept k34 (λi h=>by omega);have z4:=k34.size;have k4:Kept (·=pb) w w4:=k2.trans k34 (λi h1 h2=>by omega);obtain⟨b4,o4,c4,Fe,Yf,aNS,_,_,_,_⟩:=P4'.hd;have cb4:w4.cell? ⟨pb,0,none⟩=some (.slice (some ⟨b4,o4,none⟩) (r.length+1) c4):=Fe.cell rfl;push_cast -dsimp[cb4,Gm];refine⟨by omega,?_⟩;refine aC Fe (by simp) rfl ?_;intro w5 cO;have P5:=P4'.pop Fe h5 cO;have B5:=B4.kept cO.kept (by omega);have k5:=k4.trans cO.kept (λi _ h=>h);have s5:Sl (·<w.heap.size) 2 (En bL) w5 (.slice va s.length vc) s:=((hs0.kept k34 (λi h=>by omega)).kept cO.kept (λi h=>by omega)).weaken (λi h=>by omega);push_cast -dsimp;refine⟨.lit t.pos s,r,?_,⟨_,_,rfl,by omega,B5,s5,ha0⟩,P5,k5⟩;rw[Ac];unfold ay;rw[AX,if_pos rfl];unfold GP;rw[hpk,sq,Kd];simp[Cae.pb,cM,h5,pr]
  have sq:=aBM eZ;push_cast -dsimp;refine aG (jZ 3 P2) (λ_ _ h=>h.elim) ?_;rintro c w3 ⟨ht,hb⟩;push_cast -dsimp;refine⟨3,_,?_,ht.mono (by omega),k2.trans (Kept.aO hb (X:=(·=pb)) (λi h1 h2=>by omega)) (λi _ h=>h)⟩;rw[Ac];unfold ay;rw[AX,if_pos rfl];unfold GP;rw[hpk,sq];rfl
 have AX:isKind 3 l0=false:=by
  have:t.kind≠3:=λe=>h3 (by omega);simp[isKind,Vz,this]
 refine aA (gG [126] P1) ?_;rintro _ w2 hT;rcases hT with ⟨gA,rfl,t1,r1,mj,yH,P2,kt,hz⟩|⟨gA,rfl,qU⟩
 ·obtain⟨rfl,rfl⟩:t=t1/\r=r1:=by rw[Kd]at mj;exact List.cons.inj mj
  have B2:=B1.kept kt (by omega);have lF:cM l0=.ok ((),r):=by rw[Kd];exact dV yH
  have pD:lH (d+1) l0=Cae.pb (lH d) (λk=>pr (.not t.pos k)) r:=by
   rw[Ac];unfold ay;rw[AX,gA,if_neg (by decide),if_pos rfl,hpk,aH lF]
  push_cast -dsimp;refine⟨⟨by omega,by omega⟩,?_⟩;refine aG (ih (n+1) (by omega) (by omega) pb B w2 r P2) ?_ ?_
  ·rintro u w3 ⟨k,l3,e3,V3,P3,k3⟩;obtain⟨ub,rfl,HL⟩:=V3.ptr;have B3:=B2.kept k3 (by omega);push_cast -dsimp;refine aC B3 (by simp) rfl ?_;intro w4 az;have B4:aM w4 w.heap.size 48 [.int .i64 6,.int .i64 t.pos,.slice none 0 0,str [],.pointer none,.pointer none]:=az.aN;push_cast -dsimp;refine aC B4 (by simp) rfl ?_;intro w5 cO;have B5:aM w5 w.heap.size 48 [.int .i64 6,.int .i64 t.pos,.slice none 0 0,str [],.pointer (some ⟨ub,0,none⟩),.pointer none]:=cO.aN;have k35:Kept (·=w.heap.size) w3 w5:=az.kept.trans cO.kept (λi _ h=>h);have P5:=P3.kept k35 (λi h=>by omega);have z3:=k3.size;have k5:Kept (·=pb) w w5:=((k1.trans kt (λi _ h=>h)).trans k3 (λi _ h=>h)).trans k35 (λi h1 h2=>by omega);push_cast -dsimp;refine⟨.not t.pos k,l3,?_,⟨_,_,rfl,by omega,B5,V3.mono k35 (λi h=>by omega) (λi h=>by omega)⟩,P5,k5⟩;rw[pD,aH e3];rfl
  rintro c w3 ⟨e,pos,he,ht,hk⟩;push_cast -dsimp;refine⟨e,pos,?_,ht.mono (by omega),(k1.trans kt (λi _ h=>h)).trans hk (λi _ h=>h)⟩;rw[pD];unfold Cae.pb;rw[he]
 obtain rfl:w1=w2:=qU.symm;push_cast -dsimp;refine aA (gG [40] P1) ?_;rintro _ w2 hT;rcases hT with ⟨gd,rfl,t1,r1,mj,yH,P2,kt,hz⟩|⟨gd,rfl,qU⟩
 ·obtain⟨rfl,rfl⟩:t=t1/\r=r1:=by rw[Kd]at mj;exact List.cons.inj mj
  have lF:cM l0=.ok ((),r):=by rw[Kd];exact dV yH
  have pD:lH (d+1) l0=Cae.pb (qY d) (λk=>Cae.pb (dB [41]) λ_=>pr k) r:=by
   rw[Ac];unfold ay;rw[AX,gA,gd,if_neg (by decide),if_neg (by decide),if_pos rfl,aH lF];rfl
  push_cast -dsimp;refine⟨⟨by omega,by omega⟩,?_⟩;refine aG (ihk (n+1) (by omega) (by omega) pb B w2 r P2) ?_ ?_
  ·rintro u w3 ⟨k,l3,e3,V3,P3,k3⟩;push_cast -dsimp;refine aG (fb [41] P3) ?_ ?_
   ·rintro _ w4 ⟨_,l4,e4,rfl,P4,k4⟩;push_cast -dsimp;have z3:=k3.size;refine⟨k,l4,?_,V3.mono k4 (λi h=>by omega) (λi h=>by omega),P4,((k1.trans kt (λi _ h=>h)).trans k3 (λi _ h=>h)).trans k4 (λi _ h=>h)⟩;rw[pD,aH e3,aH e4];rfl
   rintro c w4 ⟨e,pos,he,ht,hk⟩;push_cast -dsimp;have z3:=k3.size;refine⟨e,pos,?_,ht.mono (by omega),((k1.trans kt (λi _ h=>h)).trans k3 (λi _ h=>h)).trans hk (λi _ h=>h)⟩;rw[pD,aH e3];unfold Cae.pb;rw[he]
  rintro c w3 ⟨e,pos,he,ht,hk⟩;push_cast -dsimp;refine⟨e,pos,?_,ht.mono (by omega),(k1.trans kt (λi _ h=>h)).trans hk (λi _ h=>h)⟩;rw[pD];unfold Cae.pb;rw[he]
 obtain rfl:w1=w2:=qU.symm;have pD:lH (d+1) l0=Cae.pb mX (λn=>pr (.ref t.pos n)) l0:=by
  rw[Ac];unfold ay;rw[AX,gA,gd,if_neg (by decide),if_neg (by decide),if_neg (by decide),hpk]
 push_cast -dsimp;refine aG (XD P1) ?_ ?_
 ·rintro _ w3 ⟨nm,l3,e3,rfl,P3,k3⟩;have B3:=B1.kept k3 (by omega);push_cast -dsimp;refine aC B3 (by simp) rfl ?_;intro w4 az;have B4:aM w4 w.heap.size 48 [.int .i64 2,.int .i64 t.pos,.slice none 0 0,str [],.pointer none,.pointer none]:=az.aN;push_cast -dsimp;refine aC B4 (by simp) rfl ?_;intro w5 cO;have B5:aM w5 w.heap.size 48 [.int .i64 2,.int .i64 t.pos,.slice none 0 0,str nm,.pointer none,.pointer none]:=cO.aN;have k35:Kept (·=w.heap.size) w3 w5:=az.kept.trans cO.kept (λi _ h=>h);have P5:=P3.kept k35 (λi h=>by omega);have z3:=k3.size;have k5:Kept (·=pb) w w5:=(k1.trans k3 (λi _ h=>h)).trans k35 (λi h1 h2=>by omega);push_cast -dsimp;refine⟨.ref t.pos nm,l3,?_,⟨_,rfl,by omega,B5⟩,P5,k5⟩;rw[pD,aH e3];rfl
 rintro c w3 ⟨e,pos,he,ht,hk⟩;push_cast -dsimp;refine⟨e,pos,?_,ht.mono (by omega),k1.trans hk (λi _ h=>h)⟩;rw[pD];unfold Cae.pb;rw[he]
theorem OH:∀d,TQ d
 | 0=>XK
 | d+1=>XJ d (OH d)
theorem aFs (d:Nat):aCh d:=Nr d (OH d)
end Go.Proofs.YtledlfbbebodgaaGreatDoor
end
section
namespace Cae
theorem Zj (l:List UInt8):∀a:Nat,a<=l.foldl (λm b=>10*m+(b.toNat-48)) a:=by
 induction l with
 | nil=>exact λa=>Nat.le_refl _
 | cons b l ih=>exact λa=>Nat.le_trans (show a<=10*a+(b.toNat-48) by omega) (ih _)
theorem OI:∀(l:List UInt8) (a:Nat),(∀c∈l,eM c=true)->Go.Lib.parseUint10 a l=.ok (l.foldl (λm b=>10*m+(b.toNat-48)) a)\/(Go.Lib.parseUint10 a l=.range/\12<l.foldl (λm b=>10*m+(b.toNat-48)) a)
 | [],a,_=>.inl rfl
 | c::r,a,h=>by
  have hc:=h c (by simp);simp only[eM,Bool.and_eq_true,decide_eq_true_eq]at hc;have h1:=Zj r (10*a+(c.toNat-48));have e:a*10+(c.toNat-48)=10*a+(c.toNat-48):=by omega
  rw[Go.Lib.parseUint10,if_pos hc,List.foldl_cons,e];split
  ·exact .inr ⟨rfl,by omega⟩
  split
  ·exact .inr ⟨rfl,by omega⟩
  exact OI r _ (λx hx=>h x (by simp[hx]))
theorem Tg {l:List UInt8}(dD:l≠[])(h:∀c∈l,eM c=true):Go.Lib.atoiAll l=.ok (yD l:Int)\/(Go.Lib.atoiAll l=.range/\12<yD l):=by
 obtain⟨c,r,rfl⟩:∃c r,l=c::r:=by cases l with
  | nil=>exact absurd rfl dD
  | cons c r=>exact⟨c,r,rfl⟩
 have hc:=h c (by simp);simp only[eM,Bool.and_eq_true,decide_eq_true_eq]at hc;rw[Go.Lib.atoiAll_plain c r (by omega) (by omega)];have hm:Go.Lib.parseMag (c::r)=Go.Lib.parseUint10 0 (c::r):=by unfold Go.Lib.parseMag;rw[if_neg (by simp)]
 rw[hm];rcases OI (c::r) 0 h with h1|⟨h1,h2⟩
 ·rw[h1];unfold Go.Lib.signless;have e:(c::r).foldl (λm b=>10*m+(b.toNat-48)) 0=yD (c::r):=rfl;rw[e];dsimp only;split
  ·exact .inr ⟨rfl,by omega⟩
  exact .inl rfl
 rw[h1];exact .inr ⟨rfl,h2⟩
end Cae
namespace Go.Proofs.YtledlfbbebodgaaGreatDoor
open Go.Vc Go.Proofs Go.RowKit Cae
attribute [local irreducible] dd ae ak a7 runK bE Sl Vc.Own vc aU cJ a8
def Og:Go.Shelf.Ren:=⟨λ| 172=>202|244=>219|245=>201|247=>200|279=>215|280=>216|281=>217|282=>218|287=>214|316=>226|171=>228|205=>227|321=>224|322=>225|243=>230|246=>162|283=>186|284=>187|285=>188|286=>189|129=>157|317=>203|318=>204|319=>205|320=>206|337=>220|338=>221|n=>n,λ| 9=>9|3=>3|75=>31|76=>232|4=>4|5=>5|167=>288|37=>229|0=>0|85=>268|2=>2|168=>291|53=>246|175=>289|46=>103|210=>297|127=>248|145=>309|143=>307|21=>21|171=>270|173=>272|212=>283|51=>244|20=>20|213=>284|232=>299|233=>300|80=>174|n=>n,λ| 15=>5|16=>6|17=>4|18=>7|19=>8|n=>n⟩
theorem aCj:Go.Proofs.LaysC.n172 Tryz.prog Og:={
 mixed:=by kernel_rfl
 f129:=Tryz.func157.trans (congrArg some (by kernel_rfl))
 f171:=Tryz.func228.trans (congrArg some (by kernel_rfl))
 f172:=Tryz.func202.trans (congrArg some (by kernel_rfl))
 f205:=Tryz.func227.trans (congrArg some (by kernel_rfl))
 f243:=Tryz.func230.trans (congrArg some (by kernel_rfl))
 f244:=Tryz.func219.trans (congrArg some (by kernel_rfl))
 f245:=Tryz.func201.trans (congrArg some (by kernel_rfl))
 f246:=Tryz.func162.trans (congrArg some (by kernel_rfl))
 f247:=Tryz.func200.trans (congrArg some (by kernel_rfl))
 f279:=Tryz.func215.trans (congrArg some (by kernel_rfl))
 f280:=Tryz.func216.trans (congrArg some (by kernel_rfl))
 f281:=Tryz.func217.trans (congrArg some (by kernel_rfl))
 f282:=Tryz.func218.trans (congrArg some (by kernel_rfl))
 f283:=Tryz.func186.trans (congrArg some (by kernel_rfl))
 f284:=Tryz.func187.trans (congrArg some (by kernel_rfl))
 f285:=Tryz.func188.trans (congrArg some (by kernel_rfl))
 f286:=Tryz.func189.trans (congrArg some (by kernel_rfl))
 f287:=Tryz.func214.trans (congrArg some (by kernel_rfl))
 f316:=Tryz.func226.trans (congrArg some (by kernel_rfl))
 f317:=Tryz.func203.trans (congrArg some (by kernel_rfl))
 f318:=Tryz.func204.trans (congrArg some (by kernel_rfl))
 f319:=Tryz.func205.trans (congrArg some (by kernel_rfl))
 f320:=Tryz.func206.trans (congrArg some (by kernel_rfl))
 f321:=Tryz.func224.trans (congrArg some (by kernel_rfl))
 f322:=Tryz.func225.trans (congrArg some (by kernel_rfl))
 f337:=Tryz.func220.trans (congrArg some (by kernel_rfl))
 f338:=Tryz.func221.trans (congrArg some (by kernel_rfl))
 t0:=Tryz.underlying0
 a0:=Tryz.isAgg0
 z0:=Tryz.sizeOf0
 v0:=Tryz.zeroValue0
 t2:=Tryz.underlying2
 a2:=Tryz.isAgg2
 z2:=Tryz.sizeOf2
 v2:=Tryz.zeroValue2
 t3:=Tryz.underlying3
 a3:=Tryz.isAgg3
 z3:=Tryz.sizeOf3
 v3:=Tryz.zeroValue3
 t4:=Tryz.underlying4
 a4:=Tryz.isAgg4
 z4:=Tryz.sizeOf4
 v4:=Tryz.zeroValue4
 t5:=Tryz.underlying5
 a5:=Tryz.isAgg5
 z5:=Tryz.sizeOf5
 v5:=Tryz.zeroValue5
 t9:=Tryz.underlying9
 a9:=Tryz.isAgg9
 z9:=Tryz.sizeOf9
 v9:=Tryz.zeroValue9
 t20:=Tryz.underlying20
 a20:=Tryz.isAgg20
 z20:=Tryz.sizeOf20
 v20:=Tryz.zeroValue20
 t21:=Tryz.underlying21
 a21:=Tryz.isAgg21
 z21:=Tryz.sizeOf21
 v21:=Tryz.zeroValue21
 t37:=Tryz.underlying229
 a37:=Tryz.isAgg229
 z37:=Tryz.sizeOf229
 v37:=Tryz.zeroValue229
 t46:=Tryz.underlying103
 a46:=Tryz.isAgg103
 z46:=Tryz.sizeOf103
 v46:=Tryz.zeroValue103
 t51:=Tryz.underlying244
 a51:=Tryz.isAgg244
 z51:=Tryz.sizeOf244
 v51:=Tryz.zeroValue244
 t53:=Tryz.underlying246
 a53:=Tryz.isAgg246
 z53:=Tryz.sizeOf246
 v53:=Tryz.zeroValue246
 t75:=Tryz.underlying31
 a75:=Tryz.isAgg31
 z75:=Tryz.sizeOf31
 v75:=Tryz.zeroValue31
 t76:=Tryz.underlying232
 a76:=Tryz.isAgg232
 z76:=Tryz.sizeOf232
 v76:=Tryz.zeroValue232
 t85:=Tryz.underlying268
 a85:=Tryz.isAgg268
 z85:=Tryz.sizeOf268
 v85:=Tryz.zeroValue268
 t127:=Tryz.underlying248
 a127:=Tryz.isAgg248
 z127:=Tryz.sizeOf248
 v127:=Tryz.zeroValue248
 t143:=Tryz.underlying307
 a143:=Tryz.isAgg307
 z143:=Tryz.sizeOf307
 v143:=Tryz.zeroValue307
 t145:=Tryz.underlying309
 a145:=Tryz.isAgg309
 z145:=Tryz.sizeOf309
 v145:=Tryz.zeroValue309
 t167:=Tryz.underlying288
 a167:=Tryz.isAgg288
 z167:=Tryz.sizeOf288
 v167:=Tryz.zeroValue288
 t168:=Tryz.underlying291
 a168:=Tryz.isAgg291
 z168:=Tryz.sizeOf291
 v168:=Tryz.zeroValue291
 t171:=Tryz.underlying270
 a171:=Tryz.isAgg270
 z171:=Tryz.sizeOf270
 v171:=Tryz.zeroValue270
 t173:=Tryz.underlying272
 a173:=Tryz.isAgg272
 z173:=Tryz.sizeOf272
 v173:=Tryz.zeroValue272
 t175:=Tryz.underlying289
 a175:=Tryz.isAgg289
 z175:=Tryz.sizeOf289
 v175:=Tryz.zeroValue289
 t210:=Tryz.underlying297
 a210:=Tryz.isAgg297
 z210:=Tryz.sizeOf297
 v210:=Tryz.zeroValue297
 t212:=Tryz.underlying283
 a212:=Tryz.isAgg283
 z212:=Tryz.sizeOf283
 v212:=Tryz.zeroValue283
 t213:=Tryz.underlying284
 a213:=Tryz.isAgg284
 z213:=Tryz.sizeOf284
 t232:=Tryz.underlying299
 a232:=Tryz.isAgg299
 z232:=Tryz.sizeOf299
 v232:=Tryz.zeroValue299
 t233:=Tryz.underlying300
 a233:=Tryz.isAgg300
 z233:=Tryz.sizeOf300
 v233:=Tryz.zeroValue300
 g15:=by kernel_rfl
 g16:=by kernel_rfl
 g17:=by kernel_rfl
 g18:=by kernel_rfl
 g19:=by kernel_rfl
 t80:=Tryz.underlying174
 a80:=Tryz.isAgg174
 z80:=Tryz.sizeOf174
 v80:=Tryz.zeroValue174
 i0:=by kernel_rfl
 i2:=by kernel_rfl
 i3:=by kernel_rfl
 i4:=by kernel_rfl
 i5:=by kernel_rfl
 i9:=by kernel_rfl
 i20:=by kernel_rfl
 i21:=by kernel_rfl
 i37:=by kernel_rfl
 i46:=by kernel_rfl
 i51:=by kernel_rfl
 i53:=by kernel_rfl
 i75:=by kernel_rfl
 i76:=by kernel_rfl
 i80:=by kernel_rfl
 i85:=by kernel_rfl
 i127:=by kernel_rfl
 i143:=by kernel_rfl
 i145:=by kernel_rfl
 i167:=by kernel_rfl
 i168:=by kernel_rfl
 i171:=by kernel_rfl
 i173:=by kernel_rfl
 i175:=by kernel_rfl
 i210:=by kernel_rfl
 i212:=by kernel_rfl
 i232:=by kernel_rfl
 i233:=by kernel_rfl
 m15:=by kernel_rfl
 m16:=by kernel_rfl
 m17:=by kernel_rfl
 m18:=by kernel_rfl
 m19:=by kernel_rfl
 c0:=by kernel_rfl
 c2:=by kernel_rfl
 c3:=by kernel_rfl
 c4:=by kernel_rfl
 c5:=by kernel_rfl
 c9:=by kernel_rfl
 c20:=by kernel_rfl
 c21:=by kernel_rfl
 c37:=by kernel_rfl
 c46:=by kernel_rfl
 c51:=by kernel_rfl
 c53:=by kernel_rfl
 c75:=by kernel_rfl
 c76:=by kernel_rfl
 c80:=by kernel_rfl
 c85:=by kernel_rfl
 c127:=by kernel_rfl
 c143:=by kernel_rfl
 c145:=by kernel_rfl
 c167:=by kernel_rfl
 c168:=by kernel_rfl
 c171:=by kernel_rfl
 c173:=by kernel_rfl
 c175:=by kernel_rfl
 c210:=by kernel_rfl
 c212:=by kernel_rfl
 c213:=by kernel_rfl
 c232:=by kernel_rfl
 c233:=by kernel_rfl }
theorem aDp (s:List UInt8)(hs:s.length<=1000000)(dD:s≠[])(hd:∀c∈s,eM c=true)(w:World)(h:mA w):bE Tryz.prog 202 [str s] w λr w' =>
  (r=.tuple #[.int .i64 (yD s),.nilIface]\/(12<yD s/\∃v t p,r=.tuple #[.int .i64 v,.iface t p]))/\Below w.heap.size w w':=by
 obtain⟨⟨t1,p1,h1⟩,⟨t2,p2,h2⟩⟩:=h;refine cR Tryz.func202 (by kernel_rfl) (by kernel_rfl) ?_;rcases Tg dD hd with ha|⟨ha,hb⟩
 ·refine Calls.mono (Any.strconv_Atoi_ok aCj ⟨s.toArray⟩ (by show s.length<=_;omega) _ ha w) ?_
  rintro e w' ⟨rfl,hw⟩;refine⟨_,rfl,.inl rfl,?_⟩;rcases hw with rfl|⟨t,rfl⟩
  ·exact Below.refl _ _
  exact Lib.bytesWorld_below _ _ _
 refine Calls.mono (Any.strconv_Atoi_range aCj ⟨s.toArray⟩ (by show s.length<=_;omega) ha _ w h2 (.inr ⟨_,_,rfl⟩)) ?_
 rintro e w' ⟨N,rfl,_,_,hw⟩;exact⟨_,rfl,.inr ⟨hb,_,_,_,rfl⟩,hw⟩
theorem O4 {pb B:Nat}{w:World}{l:List Tok}(h:PS pb B w l):Pc 185 [.pointer (some ⟨pb,0,none⟩)] pb B w l j8 (λ_ r n=>r=.int .i64 (n:Int)/\n<=12):=by
 obtain⟨t,r,rfl⟩:=h.tl.cons;obtain⟨b,o,c,hB,hc,dD,c0,c1,c2,c3⟩:=h.hd;have cb:w.cell? ⟨pb,0,none⟩=some (.slice (some ⟨b,o,none⟩) (r.length+1) c):=hB.cell rfl;have hle:=h.le;have aw:=h.lt;refine bM Tryz.func185 rfl (by kernel_rfl) [.tmp 2] rfl ?_;push_cast -dsimp(maxSteps:=4000000) [Tryz.ntmps185];push_cast -dsimp[cb,Nat.zero_mul,Nat.add_zero,c3];refine⟨by omega,?_⟩;refine ag (z:=[.int .i64 0,str [],.int .i64 0]) (by kernel_rfl) ?_;intro w1 aZ;have B1:=aZ.aN;have P1:=h.below aZ.below;have z1:=aZ.size;have b1:=aZ.below;push_cast -dsimp;refine aJ (xt:=136) (n:=3) (by kernel_rfl) B1 rfl (by decide) (by simp;exact⟨rfl,rfl,rfl⟩) ?_;intro w2 bw;have B2:aM w2 w.heap.size 136 [.int .i64 t.kind,str t.text,.int .i64 t.pos]:=bw.aN;have P2:=P1.kept bw.kept (λi hi=>by omega);have z2:=bw.size;have b2:=b1.trans (bw.kept.below (B:=w.heap.size) (by omega) (λi h=>by omega));have k2:Kept (·=pb) w w2:=Kept.aO b2 (λi h1 h2=>by omega);have d0:w2.cell? ⟨w.heap.size,0,none⟩=some (.int .i64 t.kind):=B2.cell rfl;have d1:w2.cell? ⟨w.heap.size,1,none⟩=some (str t.text):=B2.cell rfl;push_cast -dsimp[d0];refine⟨λhk=>?_,λhk=>?_⟩
 ·have nj:isKind 2 (t::r)=false:=by
   have:t.kind≠2:=λe=>hk (by omega);simp[isKind,Cae.hd,this]
  refine aG (jZ 3 P2) (λ_ _ h=>h.elim) ?_;rintro c w4 ⟨ht,hb⟩;push_cast -dsimp;exact⟨3,_,by unfold j8 ay;rw[nj];rfl,ht.mono (by omega),k2.trans (Kept.aO hb (X:=(·=pb)) (λi h1 h2=>by omega)) (λi _ h=>h)⟩
 have De:t.kind=2:=by omega
 have nj:isKind 2 (t::r)=true:=by simp[isKind,Cae.hd,De]
 have WE:=h.tl.num t (by simp) De;push_cast -dsimp[d1];refine aA (aDp t.text (h.tl.txt t (by simp)) WE.1 WE.2 w2 P2.er) ?_;rintro rv w3 ⟨hr,b3⟩;have P3:=P2.below b3;have z3:=b3.size;have k3:Kept (·=pb) w w3:=k2.trans (Kept.aO b3 (X:=(·=pb)) (λi h1 h2=>by omega)) (λi _ h=>h);have ri:12<yD t.text->j8 (t::r)=.error (4,(Cae.hd (t::r)).pos):=λHC=>by
  unfold j8 ay;rw[nj];simp[Cae.pb,dW,Cae.hd,HC,dr]
 rcases hr with rfl|⟨HC,v,t',p,rfl⟩
 ·push_cast -dsimp;refine⟨λhh=>?_,λhh=>?_⟩
  ·refine aG (jZ 4 P3) (λ_ _ h=>h.elim) ?_;rintro c w4 ⟨ht,hb⟩;push_cast -dsimp;exact⟨4,_,ri (by omega),ht.mono (by omega),k3.trans (Kept.aO hb (X:=(·=pb)) (λi h1 h2=>by omega)) (λi _ h=>h)⟩
  have h5:t.kind≠5:=by omega
  obtain⟨b4,o4,c4,Fe,Yf,aNS,_,_,_,_⟩:=P3.hd;have cb4:w3.cell? ⟨pb,0,none⟩=some (.slice (some ⟨b4,o4,none⟩) (r.length+1) c4):=Fe.cell rfl;push_cast -dsimp[cb4,Gm];refine⟨by omega,?_⟩;refine aC Fe (by simp) rfl ?_;intro w4 az;have P4:=P3.pop Fe h5 az;have k4:=k3.trans az.kept (λi _ h=>h);push_cast -dsimp;have HC:¬12<yD t.text:=by omega
  exact⟨yD t.text,r,by unfold j8 ay;rw[nj];simp[Cae.pb,dW,Cae.hd,HC,cM,h5,pr],⟨rfl,by omega⟩,P4,k4⟩
 push_cast -dsimp;refine aG (jZ 4 P3) (λ_ _ h=>h.elim) ?_;rintro c w4 ⟨ht,hb⟩;push_cast -dsimp;exact⟨4,_,ri (by omega),ht.mono (by omega),k3.trans (Kept.aO hb (X:=(·=pb)) (λi h1 h2=>by omega)) (λi _ h=>h)⟩
end Go.Proofs.YtledlfbbebodgaaGreatDoor
end
section
namespace Go.Proofs.YtledlfbbebodgaaGreatDoor
open Go.Vc Go.Proofs Go.RowKit Cae
attribute [local irreducible] dd ae ak a7 runK bE Sl Vc.Own vc aU cJ a8
def bd (b:Nat):Value:=.pointer (some ⟨b,0,none⟩)
def fB (b:Nat):List Value:=[bd b]
theorem mK (b:Nat):∀u∈fB b,u.oneCell'=true:=by
 intro u hu;simp[fB,bd]at hu;subst hu;rfl
mutual
def ai (X:Nat->Prop)(w:World):Value->aF->Prop
 | v,.one k=>∃b u,v=.pointer (some ⟨b,0,none⟩)/\¬X b/\aM w b 39 [.int .i64 1,u,.slice none 0 0,.int .i64 0,.int .i64 0]/\eY X w u k
 | v,.any=>∃b,v=.pointer (some ⟨b,0,none⟩)/\¬X b/\aM w b 39 [.int .i64 2,.pointer none,.slice none 0 0,.int .i64 0,.int .i64 0]
 | v,.fY=>∃b,v=.pointer (some ⟨b,0,none⟩)/\¬X b/\aM w b 39 [.int .i64 3,.pointer none,.slice none 0 0,.int .i64 0,.int .i64 0]
 | v,.cat l=>∃b sv vs,v=.pointer (some ⟨b,0,none⟩)/\¬X b/\aM w b 39 [.int .i64 4,.pointer none,sv,.int .i64 0,.int .i64 0]/\Sl X 1 (En fB) w sv vs/\aQ X w vs l
 | v,.alt l=>∃b sv vs,v=.pointer (some ⟨b,0,none⟩)/\¬X b/\aM w b 39 [.int .i64 5,.pointer none,sv,.int .i64 0,.int .i64 0]/\Sl X 1 (En fB) w sv vs/\aQ X w vs l
 | v,.many x lo hi=>∃b sv u,v=.pointer (some ⟨b,0,none⟩)/\¬X b/\aM w b 39 [.int .i64 6,.pointer none,sv,.int .i64 lo,.int .i64 hi]/\Sl X 1 (En fB) w sv [u]/\ai X w (bd u) x
def aQ (X:Nat->Prop)(w:World):List Nat->List aF->Prop
 | [],[]=>True
 | v::vs,x::l=>ai X w (bd v) x/\aQ X w vs l
 | _,_=>False
end
mutual
theorem ai.mono {X X' Y:Nat->Prop}{w w':World}(hk:Kept Y w w')(hY:∀i,Y i->X i)(hX:∀i,X' i->X i):∀{x:aF} {v:Value},ai X w v x->ai X' w' v x
 | .one k,v,h=>by
  simp only[ai]at h ⊢
  obtain⟨b,u,hv,hb,hB,h⟩:=h;exact⟨b,u,hv,λhh=>hb (hX b hh),hB.kept hk (λhh=>hb (hY b hh)),h.mono hk hY hX⟩
 | .any,v,h=>by
  simp only[ai]at h ⊢
  obtain⟨b,hv,hb,hB⟩:=h;exact⟨b,hv,λhh=>hb (hX b hh),hB.kept hk (λhh=>hb (hY b hh))⟩
 | .fY,v,h=>by
  simp only[ai]at h ⊢
  obtain⟨b,hv,hb,hB⟩:=h;exact⟨b,hv,λhh=>hb (hX b hh),hB.kept hk (λhh=>hb (hY b hh))⟩
 | .cat l,v,h=>by
  simp only[ai]at h ⊢
  obtain⟨b,sv,vs,hv,hb,hB,hs,h⟩:=h;exact⟨b,sv,vs,hv,λhh=>hb (hX b hh),hB.kept hk (λhh=>hb (hY b hh)),(hs.kept hk hY).weaken hX,aQ.mono hk hY hX h⟩
 | .alt l,v,h=>by
  simp only[ai]at h ⊢
  obtain⟨b,sv,vs,hv,hb,hB,hs,h⟩:=h;exact⟨b,sv,vs,hv,λhh=>hb (hX b hh),hB.kept hk (λhh=>hb (hY b hh)),(hs.kept hk hY).weaken hX,aQ.mono hk hY hX h⟩
 | .many x lo hi,v,h=>by
  simp only[ai]at h ⊢
  obtain⟨b,sv,u,hv,hb,hB,hs,h⟩:=h;exact⟨b,sv,u,hv,λhh=>hb (hX b hh),hB.kept hk (λhh=>hb (hY b hh)),(hs.kept hk hY).weaken hX,ai.mono hk hY hX h⟩
theorem aQ.mono {X X' Y:Nat->Prop}{w w':World}(hk:Kept Y w w')(hY:∀i,Y i->X i)(hX:∀i,X' i->X i):∀{l:List aF} {vs:List Nat},aQ X w vs l->aQ X' w' vs l
 | [],[],_=>by simp only[aQ]
 | [],_::_,h=>by simp only[aQ]at h
 | _::_,[],h=>by simp only[aQ]at h
 | x::l,v::vs,h=>by
  simp only[aQ]at h ⊢
  exact⟨ai.mono hk hY hX h.1,aQ.mono hk hY hX h.2⟩
end
mutual
theorem ai.top {X:Nat->Prop}{w:World}:∀{x:aF} {v:Value},ai X w v x->ai (λb=>X b\/w.heap.size<=b) w v x
 | .one k,v,h=>by
  simp only[ai]at h ⊢
  obtain⟨b,u,hv,hb,hB,h⟩:=h;exact⟨b,u,hv,λhh=>hh.elim hb (λhh=>by have:=hB.lt;omega),hB,h.top⟩
 | .any,v,h=>by
  simp only[ai]at h ⊢
  obtain⟨b,hv,hb,hB⟩:=h;exact⟨b,hv,λhh=>hh.elim hb (λhh=>by have:=hB.lt;omega),hB⟩
 | .fY,v,h=>by
  simp only[ai]at h ⊢
  obtain⟨b,hv,hb,hB⟩:=h;exact⟨b,hv,λhh=>hh.elim hb (λhh=>by have:=hB.lt;omega),hB⟩
 | .cat l,v,h=>by
  simp only[ai]at h ⊢
  obtain⟨b,sv,vs,hv,hb,hB,hs,h⟩:=h;exact⟨b,sv,vs,hv,λhh=>hh.elim hb (λhh=>by have:=hB.lt;omega),hB,Sl.top (by decide) hs,aQ.top h⟩
 | .alt l,v,h=>by
  simp only[ai]at h ⊢
  obtain⟨b,sv,vs,hv,hb,hB,hs,h⟩:=h;exact⟨b,sv,vs,hv,λhh=>hh.elim hb (λhh=>by have:=hB.lt;omega),hB,Sl.top (by decide) hs,aQ.top h⟩
 | .many x lo hi,v,h=>by
  simp only[ai]at h ⊢
  obtain⟨b,sv,u,hv,hb,hB,hs,h⟩:=h;exact⟨b,sv,u,hv,λhh=>hh.elim hb (λhh=>by have:=hB.lt;omega),hB,Sl.top (by decide) hs,ai.top h⟩
theorem aQ.top {X:Nat->Prop}{w:World}:∀{l:List aF} {vs:List Nat},aQ X w vs l->aQ (λb=>X b\/w.heap.size<=b) w vs l
 | [],[],_=>by simp only[aQ]
 | [],_::_,h=>by simp only[aQ]at h
 | _::_,[],h=>by simp only[aQ]at h
 | x::l,v::vs,h=>by
  simp only[aQ]at h ⊢
  exact⟨ai.top h.1,aQ.top h.2⟩
end
theorem ai.ptr {X:Nat->Prop}{w:World}{x:aF}{v:Value}(h:ai X w v x):∃b,v=.pointer (some ⟨b,0,none⟩)/\b<w.heap.size/\¬X b:=by
 cases x<;>simp only[ai]at h
 ·obtain⟨b,u,hv,hx,hB,_⟩:=h;exact⟨b,hv,hB.lt,hx⟩
 ·obtain⟨b,hv,hx,hB⟩:=h;exact⟨b,hv,hB.lt,hx⟩
 ·obtain⟨b,hv,hx,hB⟩:=h;exact⟨b,hv,hB.lt,hx⟩
 ·obtain⟨b,_,_,hv,hx,hB,_⟩:=h;exact⟨b,hv,hB.lt,hx⟩
 ·obtain⟨b,_,_,hv,hx,hB,_⟩:=h;exact⟨b,hv,hB.lt,hx⟩
 obtain⟨b,_,_,hv,hx,hB,_⟩:=h;exact⟨b,hv,hB.lt,hx⟩
theorem ai.below {X:Nat->Prop}{w w':World}{x:aF}{v:Value}(h:ai X w v x)(hb:Below w.heap.size w w'):ai X w' v x :=
 h.mono (X:=X) (Kept.aO hb (X:=λ_=>False) (λi h1 h2=>by omega)) (λ_ h=>h.elim) (λ_ h=>h)
theorem aQ.snoc {X:Nat->Prop}{w:World}:∀{l:List aF} {vs:List Nat} {x:aF} {v:Nat},aQ X w vs l->ai X w (bd v) x->aQ X w (vs++[v]) (l++[x])
 | [],[],_,_,_,hx=>by
  simp only[List.nil_append,aQ];exact⟨hx,trivial⟩
 | [],_::_,_,_,h,_=>by simp only[aQ]at h
 | _::_,[],_,_,h,_=>by simp only[aQ]at h
 | x::l,v::vs,y,u,h,hx=>by
  simp only[aQ,List.cons_append]at h ⊢
  exact⟨h.1,aQ.snoc h.2 hx⟩
theorem aQ.len {X:Nat->Prop}{w:World}:∀{l:List aF} {vs:List Nat},aQ X w vs l->vs.length=l.length
 | [],[],_=>rfl
 | [],_::_,h=>by simp only[aQ]at h
 | _::_,[],h=>by simp only[aQ]at h
 | x::l,v::vs,h=>by
  simp only[aQ]at h;simp[aQ.len h.2]
def NI (d:Nat):Prop:=∀(n:Int),0<=n->n+(d:Int)=9->∀(pb B:Nat) (w:World) (l:List Tok),PS pb B w l->Pc 184 [.pointer (some ⟨pb,0,none⟩),.int .i64 n] pb B w l (aq d) (λw' r x=>ai (·<w.heap.size) w' r x)
def TM (d:Nat):Prop:=∀(n:Int),0<=n->n+(d:Int)=9->∀(pb B:Nat) (w:World) (l:List Tok),PS pb B w l->Pc 161 [.pointer (some ⟨pb,0,none⟩),.int .i64 n] pb B w l (aV d (aq d)) (λw' r x=>ai (·<w.heap.size) w' r x)
def aHj (d:Nat):Prop:=∀(n:Int),0<=n->n+(d:Int)=9->∀(pb B:Nat) (w:World) (l:List Tok),PS pb B w l->Pc 134 [.pointer (some ⟨pb,0,none⟩),.int .i64 n] pb B w l (iR (aV d (aq d))) (λw' r x=>ai (·<w.heap.size) w' r x)
def aDk (d:Nat):Prop:=∀(n:Int),0<=n->n+(d:Int)=9->∀(pb B:Nat) (w:World) (l:List Tok),PS pb B w l->Pc 99 [.pointer (some ⟨pb,0,none⟩),.int .i64 n] pb B w l (qh d) (λw' r x=>ai (·<w.heap.size) w' r x)
theorem Ea:NI 0:=by
 intro n vt hn pb B w l h;refine bM Tryz.func184 rfl (by kernel_rfl) [.tmp 4] rfl ?_;push_cast -dsimp(maxSteps:=4000000) [Tryz.ntmps184];refine aG (mI n h) ?_ ?_
 ·rintro _ _ ⟨h8,rfl,rfl⟩;omega
 rintro c w' ⟨h8,ht,hb⟩;push_cast -dsimp;exact⟨4,_,rfl,ht,Kept.aO hb (λi h1 h2=>by omega)⟩
theorem E0 (d:Nat)(ihp:aDk d):NI (d+1):=by
 intro n vt hn pb B w l0 h0;obtain⟨t,r,Kd⟩:=h0.tl.cons;have Vz:Cae.hd l0=t:=by rw[Kd];rfl
 have HB:=h0;rw[Kd]at HB;obtain⟨b,o,c,hB,hc,dD,c0,c1,c2,c3⟩:=HB.hd;have cb:w.cell? ⟨pb,0,none⟩=some (.slice (some ⟨b,o,none⟩) (r.length+1) c):=hB.cell rfl;have hle:=h0.le;have aw:=h0.lt;have Ac:aq (d+1) l0=ay (dT [46]) (Cae.pb cM λ_=>pr .any)
  (ay (dT [36]) (Cae.pb cM λ_=>pr .fY)
  (ay (dT [40]) (Cae.pb cM λ_=>Cae.pb (qh d) λx=>Cae.pb (dB [41]) λ_=>pr x)
  (ay jH (Cae.pb (lH (d+1)) λk=>pr (.one k)) (dr 3)))) l0:=rfl
 refine bM Tryz.func184 rfl (by kernel_rfl) [.tmp 4] rfl ?_;push_cast -dsimp(maxSteps:=4000000) [Tryz.ntmps184];refine aG (mI n h0) ?_ (λc w' hh=>by have:=hh.1;omega);rintro _ w0 ⟨h8,rfl,yQ⟩;obtain rfl:w=w0:=yQ.symm;push_cast -dsimp;refine aA (gG [46] h0) ?_;rintro _ w2 hT;rcases hT with ⟨gA,rfl,t1,r1,mj,yH,P2,kt,hz⟩|⟨gA,rfl,qU⟩
 ·have lF:cM l0=.ok ((),r1):=by rw[mj];exact dV yH
  push_cast -dsimp;refine aR ?_;intro w3 dZ;have B3:aM w3 w2.heap.size 39 [.int .i64 2,.pointer none,.slice none 0 0,.int .i64 0,.int .i64 0]:=dZ.aN;have P3:=P2.below dZ.below;have k3:=kt.trans (Kept.new (X:=(·=pb)) dZ) (λi _ h=>h);push_cast -dsimp;refine⟨.any,r1,?_,?_,P3,k3⟩
  ·rw[Ac];unfold ay;rw[gA,if_pos rfl,aH lF];rfl
  simp only[ai];exact⟨_,rfl,by omega,B3⟩
 obtain rfl:w=w2:=qU.symm;push_cast -dsimp;refine aA (gG [36] h0) ?_;rintro _ w2 hT;rcases hT with ⟨gd,rfl,t1,r1,mj,yH,P2,kt,hz⟩|⟨gd,rfl,qU⟩
 ·have lF:cM l0=.ok ((),r1):=by rw[mj];exact dV yH
  push_cast -dsimp;refine aR ?_;intro w3 dZ;have B3:aM w3 w2.heap.size 39 [.int .i64 3,.pointer none,.slice none 0 0,.int .i64 0,.int .i64 0]:=dZ.aN;have P3:=P2.below dZ.below;have k3:=kt.trans (Kept.new (X:=(·=pb)) dZ) (λi _ h=>h);push_cast -dsimp;refine⟨.fY,r1,?_,?_,P3,k3⟩
  ·rw[Ac];unfold ay;rw[gA,gd,if_neg (by decide),if_pos rfl,aH lF];rfl
  simp only[ai];exact⟨_,rfl,by omega,B3⟩
 obtain rfl:w=w2:=qU.symm;push_cast -dsimp;refine aA (gG [40] h0) ?_;rintro _ w2 hT;rcases hT with ⟨lW,rfl,t1,r1,mj,yH,P2,kt,hz⟩|⟨lW,rfl,qU⟩
 ·have lF:cM l0=.ok ((),r1):=by rw[mj];exact dV yH
  have pD:aq (d+1) l0=Cae.pb (qh d) (λx=>Cae.pb (dB [41]) λ_=>pr x) r1:=by
   rw[Ac];unfold ay;rw[gA,gd,lW,if_neg (by decide),if_neg (by decide),if_pos rfl,aH lF]
  push_cast -dsimp;refine⟨⟨by omega,by omega⟩,?_⟩;refine aG (ihp (n+1) (by omega) (by omega) pb B w2 r1 P2) ?_ ?_
  ·rintro u w3 ⟨x,l3,e3,V3,P3,k3⟩;push_cast -dsimp;refine aG (fb [41] P3) ?_ ?_
   ·rintro _ w4 ⟨_,l4,e4,rfl,P4,k4⟩;push_cast -dsimp;have z3:=k3.size;refine⟨x,l4,?_,V3.mono k4 (λi h=>by omega) (λi h=>by omega),P4,(kt.trans k3 (λi _ h=>h)).trans k4 (λi _ h=>h)⟩;rw[pD,aH e3,aH e4];rfl
   rintro c w4 ⟨e,pos,he,ht,hk⟩;push_cast -dsimp;have z3:=k3.size;refine⟨e,pos,?_,ht.mono (by omega),(kt.trans k3 (λi _ h=>h)).trans hk (λi _ h=>h)⟩;rw[pD,aH e3];unfold Cae.pb;rw[he]
  rintro c w3 ⟨e,pos,he,ht,hk⟩;push_cast -dsimp;refine⟨e,pos,?_,ht.mono (by omega),kt.trans hk (λi _ h=>h)⟩;rw[pD];unfold Cae.pb;rw[he]
 obtain rfl:w=w2:=qU.symm;have rO:jH l0=(t.kind == 3 || j5 l0):=by unfold jH isKind;rw[Vz]
 push_cast -dsimp[cb,c0];have so:jH l0=true->aq (d+1) l0=Cae.pb (lH (d+1)) (λk=>pr (.one k)) l0:=λhu=>by
  rw[Ac];unfold ay;rw[gA,gd,lW,hu,if_neg (by decide),if_neg (by decide),if_neg (by decide),if_pos rfl]
 refine⟨by omega,λh3=>?_,λh3=>?_⟩
 ·refine aA (G0 h0) ?_;rintro _ w1 ⟨rfl,b1⟩;have P1:=h0.below b1;have k1:Kept (·=pb) w w1:=Kept.aO b1 (λi h1 h2=>by omega);have z1:=b1.size;have AX:(t.kind == 3)=false:=by
   have:t.kind≠3:=λe=>h3 (by omega);simpa using this
  rw[AX,Bool.false_or]at rO;cases o8:j5 l0 with
  | true =>
   have pD:=so (by rw[rO,o8]);push_cast -dsimp;refine aG (OH (d+1) n (by omega) (by omega) pb B w1 l0 P1) ?_ ?_
   ·rintro u w3 ⟨k,l3,e3,V3,P3,k3⟩;obtain⟨ub,rfl,HL⟩:=V3.ptr;push_cast -dsimp;refine aR ?_;intro w4 az;have B4:aM w4 w3.heap.size 39 [.int .i64 1,.pointer (some ⟨ub,0,none⟩),.slice none 0 0,.int .i64 0,.int .i64 0]:=az.aN;have P4:=P3.below az.below;have z3:=k3.size;have k4:=(k1.trans k3 (λi _ h=>h)).trans (Kept.new (X:=(·=pb)) az) (λi _ h=>h);push_cast -dsimp;refine⟨.one k,l3,?_,?_,P4,k4⟩
    ·rw[pD,aH e3];rfl
    simp only[ai];exact⟨_,_,rfl,by omega,B4,V3.mono (Kept.new (X:=λ_=>False) az) (λ_ h=>h.elim) (λi h=>by omega)⟩
   rintro c w3 ⟨e,pos,he,ht,hk⟩;push_cast -dsimp;refine⟨e,pos,?_,ht.mono (by omega),k1.trans hk (λi _ h=>h)⟩;rw[pD];unfold Cae.pb;rw[he]
  | false =>
   push_cast -dsimp;refine aG (jZ 3 P1) (λ_ _ h=>h.elim) ?_;rintro c w4 ⟨ht,hb⟩;push_cast -dsimp;refine⟨3,_,?_,ht.mono (by omega),k1.trans (Kept.aO hb (X:=(·=pb)) (λi h1 h2=>by omega)) (λi _ h=>h)⟩;rw[Ac];unfold ay;rw[gA,gd,lW,rO,o8,if_neg (by decide),if_neg (by decide),if_neg (by decide),if_neg (by decide)];rfl
 have pD:=so (by
  have:t.kind=3:=by omega
  rw[rO,this];rfl)
 have k1:Kept (·=pb) w w:=Kept.refl _ _;have z1:w.heap.size<=w.heap.size:=Nat.le_refl _;refine aG (OH (d+1) n (by omega) (by omega) pb B w l0 h0) ?_ ?_
 ·rintro u w3 ⟨k,l3,e3,V3,P3,k3⟩;obtain⟨ub,rfl,HL⟩:=V3.ptr;push_cast -dsimp;refine aR ?_;intro w4 az;have B4:aM w4 w3.heap.size 39 [.int .i64 1,.pointer (some ⟨ub,0,none⟩),.slice none 0 0,.int .i64 0,.int .i64 0]:=az.aN;have P4:=P3.below az.below;have z3:=k3.size;have k4:=(k1.trans k3 (λi _ h=>h)).trans (Kept.new (X:=(·=pb)) az) (λi _ h=>h);push_cast -dsimp;refine⟨.one k,l3,?_,?_,P4,k4⟩
  ·rw[pD,aH e3];rfl
  simp only[ai];exact⟨_,_,rfl,by omega,B4,V3.mono (Kept.new (X:=λ_=>False) az) (λ_ h=>h.elim) (λi h=>by omega)⟩
 rintro c w3 ⟨e,pos,he,ht,hk⟩;push_cast -dsimp;refine⟨e,pos,?_,ht.mono (by omega),k1.trans hk (λi _ h=>h)⟩;rw[pD];unfold Cae.pb;rw[he]
end Go.Proofs.YtledlfbbebodgaaGreatDoor
end
