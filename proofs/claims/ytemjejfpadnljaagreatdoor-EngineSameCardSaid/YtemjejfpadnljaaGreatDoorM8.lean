/- Part. -/
import Derived.Test.YtemjejfpadnljaaGreatDoorM7
import Derived.Recover
set_option maxRecDepth 100000
set_option linter.unusedSimpArgs false
set_option linter.unusedVariables false
set_option maxHeartbeats 8000000
namespace Go.Proofs.YtemjejfpadnljaaGreatDoor
open Go.Vc Go.Proofs Go.RowKit Cae
attribute [local irreducible] dN ae ak aY runK aw Sl Vc.Own vc aV cJ a7
mutual
theorem aRM:∀d,Pn d
 | 0=>GY
 | d+1=>GX d (tm d)
theorem tm:∀d,aF1 d
 | 0=>Zq 0 (aAw 0 (J3 0 GY))
 | d+1=>Zq (d+1) (aAw (d+1) (J3 (d+1) (GX d (tm d))))
end
def Bf (a:List UInt8×Nat×Nat):List Value:=[str a.1,.int .i64 a.2.1,bx a.2.2]
def jD (a:Nat×Bool×Nat×Nat):List Value:=[.int .i64 a.1,.bool a.2.1,bx a.2.2.1,bx a.2.2.2]
theorem X8 (a:List UInt8×Nat×Nat):∀u∈Bf a,u.oneCell'=true:=by
 intro u hu;simp[Bf,bx]at hu;rcases hu with rfl|rfl|rfl<;>rfl
theorem sV (a:Nat×Bool×Nat×Nat):∀u∈jD a,u.oneCell'=true:=by
 intro u hu;simp[jD,bx]at hu;rcases hu with rfl|rfl|rfl|rfl<;>rfl
def vE (X:Nat->Prop)(w:World)(a:List UInt8×Nat×Nat)(c:fT):Prop:=a.1=c.name/\a.2.1=c.pos/\fE X w (bx a.2.2) c.kind
def mO (X:Nat->Prop)(w:World)(a:Nat×Bool×Nat×Nat)(r:cQ):Prop:=a.1=r.pos/\a.2.1=r.brk/\au X w (bx a.2.2.1) r.before/\au X w (bx a.2.2.2) r.after
theorem _root_.Cae.dT.imp {α β:Type}{R S:α->β->Prop}{l:List α}{m:List β}(h:dT R l m)(k:∀a b,R a b->S a b):dT S l m:=by
 induction h with
 | nil=>exact .nil
 | cons h1 _ ih=>exact .cons (k _ _ h1) ih
theorem vE.mono {X X' Y:Nat->Prop}{w w':World}(hk:Kept Y w w')(hY:∀i,Y i->X i)(hX:∀i,X' i->X i){a:List UInt8×Nat×Nat}{c:fT}(h:vE X w a c):vE X' w' a c:=⟨h.1,h.2.1,h.2.2.mono hk hY hX⟩
theorem vE.top {X:Nat->Prop}{w:World}{a:List UInt8×Nat×Nat}{c:fT}(h:vE X w a c):vE (λb=>X b\/w.heap.size<=b) w a c:=⟨h.1,h.2.1,h.2.2.top⟩
theorem mO.mono {X X' Y:Nat->Prop}{w w':World}(hk:Kept Y w w')(hY:∀i,Y i->X i)(hX:∀i,X' i->X i){a:Nat×Bool×Nat×Nat}{c:cQ}(h:mO X w a c):mO X' w' a c:=⟨h.1,h.2.1,h.2.2.1.mono hk hY hX,h.2.2.2.mono hk hY hX⟩
theorem mO.top {X:Nat->Prop}{w:World}{a:Nat×Bool×Nat×Nat}{c:cQ}(h:mO X w a c):mO (λb=>X b\/w.heap.size<=b) w a c:=⟨h.1,h.2.1,h.2.2.1.top,h.2.2.2.top⟩
def kI (X:Nat->Prop)(w:World)(v:Value)(f:dX):Prop:=∃cv rv cs rs,v=.agg #[cv,rv,.bool f.els]/\Sl X 3 (En Bf) w cv cs/\Sl X 4 (En jD) w rv rs/\dT (vE X w) cs f.cT/\dT (mO X w) rs f.rules
theorem cL {α β:Type}{p:Pa α}{q:α->Pa β}{l:List Tok}{e:Nat×Nat}(h:p l=.error e):Cae.pb p q l=.error e:=by
 unfold Cae.pb;rw[h]
theorem Jf {m:Nat}{acc:List fT}{l1 l0:List Tok}(dK:ba m acc l1=ba 1000 [] l0)(hm:l1.length<m)(bm:dm [99,108,97,115,115] l1=true)(lq:acc.length≠20) :
  ba 1000 [] l0=Cae.pb oO (λc=>ba (m-1) (acc++[c])) l1:=by
 obtain⟨m',rfl⟩:∃m',m=m'+1:=⟨m-1,by omega⟩;rw[<-dK,ba];unfold bE;rw[bm,if_pos rfl,if_neg lq];rfl
theorem vS {m:Nat}{acc:List fT}{l1 l0:List Tok}{e:Nat×Nat}(dK:ba m acc l1=ba 1000 [] l0)(hm:l1.length<m)(bm:dm [99,108,97,115,115] l1=true)(lq:acc.length≠20)(h:oO l1=.error e):j4 l0=.error e:=by
 unfold j4;exact cL (by rw[Jf dK hm bm lq];exact cL h)
theorem XC {m:Nat}{acc:List fT}{l1 l0:List Tok}(dK:ba m acc l1=ba 1000 [] l0)(hm:l1.length<m)(bm:dm [99,108,97,115,115] l1=true)(lq:acc.length=20):j4 l0=.error (4,(Cae.hd l1).pos):=by
 obtain⟨m',rfl⟩:∃m',m=m'+1:=⟨m-1,by omega⟩;unfold j4;refine cL ?_;rw[<-dK,ba];unfold bE;rw[bm,if_pos rfl,if_pos lq];rfl
theorem aB2 {m:Nat}{acc:List fT}{l1 l0:List Tok}(dK:ba m acc l1=ba 1000 [] l0)(hm:l1.length<m)(bm:dm [99,108,97,115,115] l1=false):ba 1000 [] l0=.ok (acc,l1):=by
 obtain⟨m',rfl⟩:∃m',m=m'+1:=⟨m-1,by omega⟩;rw[<-dK,ba];unfold bE;rw[bm];rfl
theorem sD {m:Nat}{acc:List cQ}{l1 l0:List Tok}(dK:b8 m acc l1=b8 1000 [] l0)(hm:l1.length<m)(bm:ie l1=true)(lq:acc.length≠20) :
  b8 1000 [] l0=Cae.pb mM (λc=>b8 (m-1) (acc++[c])) l1:=by
 obtain⟨m',rfl⟩:∃m',m=m'+1:=⟨m-1,by omega⟩;rw[<-dK,b8];unfold bE;rw[bm,if_pos rfl,if_neg lq];rfl
theorem fM {m:Nat}{acc:List cQ}{cs:List fT}{l1 l0 l:List Tok}{e:Nat×Nat}(il:ba 1000 [] l=.ok (cs,l0))(dK:b8 m acc l1=b8 1000 [] l0)(hm:l1.length<m)(bm:ie l1=true)(lq:acc.length≠20)(h:mM l1=.error e):j4 l=.error e:=by
 unfold j4;rw[aJ il];exact cL (by rw[sD dK hm bm lq];exact cL h)
theorem Lp {m:Nat}{acc:List cQ}{cs:List fT}{l1 l0 l:List Tok}(il:ba 1000 [] l=.ok (cs,l0))(dK:b8 m acc l1=b8 1000 [] l0)(hm:l1.length<m)(bm:ie l1=true)(lq:acc.length=20):j4 l=.error (4,(Cae.hd l1).pos):=by
 obtain⟨m',rfl⟩:∃m',m=m'+1:=⟨m-1,by omega⟩;unfold j4;rw[aJ il];refine cL ?_;rw[<-dK,b8];unfold bE;rw[bm,if_pos rfl,if_pos lq];rfl
theorem aEf {m:Nat}{acc:List cQ}{l1 l0:List Tok}(dK:b8 m acc l1=b8 1000 [] l0)(hm:l1.length<m)(bm:ie l1=false):b8 1000 [] l0=.ok (acc,l1):=by
 obtain⟨m',rfl⟩:∃m',m=m'+1:=⟨m-1,by omega⟩;rw[<-dK,b8];unfold bE;rw[bm];rfl
theorem aAH:Sh oO:=Sh.pbr IJ λ_=>Sh.pb (gq.sh (iX _)) λ_=>Le.pb (gq.sh IM).le λ_=>Le.pb (gq.sh (iX _)).le λ_=>Le.pb (Lo.le (CX (qH 9))) λ_=>Le.pb (gq.sh (iX _)).le λ_=>Le.pr
theorem Ar:Sh mM:=gq.sh aDx
theorem aGu {pb B:Nat}{w:World}{l0:List Tok}(h0:PS pb B w l0):Pc 43 [.pointer (some ⟨pb,0,none⟩)] pb B w l0 j4 (λw' r f=>kI (·<w.heap.size) w' r f):=by
 have hle:=h0.le;have aq:=h0.lt;refine bR Tryz.func43 rfl (by kernel_rfl) [.cell 2 26] rfl ?_;push_cast -dsimp(maxSteps:=9^7) [Tryz.ntmps43];refine ah (z:=[.slice none 0 0,.slice none 0 0,.bool false]) (by kernel_rfl) ?_;intro w1 aU;have R1:=aU.aL;have P1:=h0.below aU.below;have z1:=aU.size;push_cast -dsimp;refine ah (z:=[.slice none 0 0,.slice none 0 0,.bool false]) (by kernel_rfl) ?_;intro w2 bP;have F2:=bP.aL;have R2:=R1.below bP.below (by omega);have P2:=P1.below bP.below;have z2:=bP.size;rw[z1]at F2;push_cast -dsimp[z1];refine aI (xt:=26) (n:=3) (by kernel_rfl) F2 rfl (by decide) (by simp;exact⟨rfl,rfl⟩) ?_;intro w3 dA;have F3:aN w3 (w.heap.size+1) 26 [.slice none 0 0,.slice none 0 0,.bool true]:=dA.aL;have R3:=R2.kept dA.kept (by omega);have P3:=P2.kept dA.kept (λi h=>by omega);have z3:=dA.size;have k3:Kept (·=pb) w w3:=((Kept.new (X:=(·=pb)) aU).trans (Kept.new (X:=(·=pb)) bP) (λi _ h=>h)).trans dA.kept (λi h1 h2=>by omega);push_cast -dsimp;refine aK [4,7,8,9,10,11,12,13,14,15,16,17,18,19,20,21,22,23,24,25,26,27,28,29,30,31,32,33,34,35,36,37,38,39,40] (λz w'=>∃(m:Nat) (acc:List fT) (l1:List Tok) (cv:Value) (cs:List (List UInt8×Nat×Nat)),ba m acc l1=ba 1000 [] l0/\l1.length<m/\acc.length<=20 /\
   aN w' w.heap.size 26 [.slice none 0 0,.slice none 0 0,.bool false]/\aN w' (w.heap.size+1) 26 [cv,.slice none 0 0,.bool true]/\Go.Vc.Own (w.heap.size+2) 137 3 Bf w' cv cs /\
   dT (vE (λb=>b<w.heap.size+2\/cv.ownBlock=some b) w') cs acc/\PS pb B w' l1/\Kept (·=pb) w w') (λz w'=>zJ w' pb) ?_ ?_
 ·have aq:l0.length<1000:=by have:=h0.tl.len;omega
  exact⟨1000,[],l0,_,[],rfl,aq,by simp,R3,F3,Vc.Own.nil (enc:=Bf) _ _ (λ_=>rfl) _,.nil,P3,k3⟩
 rintro z w' ⟨m,acc,l1,cv,cs,dK,hm,KX,hR,hF,hO,hV,hP,hk⟩;have jE:=hV.len;have hzw:=hk.size;have YE:=hP.len;have tL:=hF.lt;obtain⟨ca,cc,V6⟩:=hO.slice;push_cast -dsimp;refine aA (DT [99,108,97,115,115] hP) ?_;rintro _ wx ⟨rfl,hwx⟩;obtain rfl:w'=wx:=hwx.symm;cases bm:dm [99,108,97,115,115] l1 with
 | true =>
  have d0:w'.cell? ⟨w.heap.size+1,0,none⟩=some (.slice ca cs.length cc):=by rw[<-V6];exact hF.cell rfl
  push_cast -dsimp[d0];refine⟨λlq=>?_,λlq=>?_⟩
  ·refine aF (jo 4 hP) (λ_ _ h=>h.elim) ?_;rintro ce we ⟨ht,hb⟩;push_cast -dsimp;exact⟨4,_,XC dK hm bm (by omega),ht.mono (by omega),hk.trans (Kept.aQ hb (X:=(·=pb)) (λi h1 h2=>by omega)) (λi _ h=>h)⟩
  have lq:acc.length≠20:=by omega
  obtain⟨t1,r1,n5⟩:=hP.tl.cons;have YZ:Cae.hd l1=t1:=by rw[n5];rfl
  have hP':=hP;rw[n5]at hP';obtain⟨b,o,c,hBp,hc,cf,c0,c1,c2,c3⟩:=hP'.hd;have cb:w'.cell? ⟨pb,0,none⟩=some (.slice (some ⟨b,o,none⟩) (r1.length+1) c):=hBp.cell rfl;have jF:oO l1=Cae.pb (dM [99,108,97,115,115]) (λ_=>Cae.pb nS λn=>Cae.pb (dM [61]) λ_=>Cae.pb (rh 9) λk=>Cae.pb (dM [59]) λ_=>pr ⟨n,t1.pos,k⟩) l1:=by
   unfold oO;rw[aJ (p:=dr) (x:=Cae.hd l1) (l1:=l1) rfl,YZ]
  push_cast -dsimp[cb,c2];refine⟨by omega,?_⟩;refine ah (z:=[str [],.int .i64 0,.pointer none]) (by kernel_rfl) ?_;intro w4 aj;have C4:=aj.aL;have P4:=hP.below aj.below;have z4:=aj.size;have k4:=hk.trans (Kept.new (X:=(·=pb)) aj) (λi _ h=>h);push_cast -dsimp;refine aI (xt:=137) (n:=3) (by kernel_rfl) C4 rfl (by decide) (by simp;exact⟨rfl,rfl,rfl⟩) ?_;intro w5 cG;have C5:aN w5 w'.heap.size 137 [str [],.int .i64 t1.pos,.pointer none]:=cG.aL;have P5:=P4.kept cG.kept (λi h=>by omega);have k5:=k4.trans cG.kept (λi h1 h2=>by omega);have z5:=cG.size;push_cast -dsimp;refine aF (fy [99,108,97,115,115] P5) ?_ ?_;rotate_left;·
   rintro ce we ⟨e,pos,he,ht,eD⟩
   push_cast -dsimp
   refine⟨e,pos,vS dK hm bm lq ?_,ht.mono (by have:=k5.size;omega),k5.trans eD (λi _ h=>h)⟩
   rw[jF]
   exact cL he
  rintro _ w6 ⟨_,l2,e2,rfl,P6,ti⟩;have C6:=C5.kept ti (by omega);have k6:=k5.trans ti (λi _ h=>h);have z6:=ti.size;push_cast -dsimp;refine aF (Z4 P6) ?_ ?_;rotate_left;·
   rintro ce we ⟨e,pos,he,ht,eD⟩
   push_cast -dsimp
   refine⟨e,pos,vS dK hm bm lq ?_,ht.mono (by have:=k6.size;omega),k6.trans eD (λi _ h=>h)⟩
   rw[jF]
   rw[aJ e2];exact cL he
  rintro _ w7 ⟨nm,l3,e3,rfl,P7,kt7⟩;have C7:=C6.kept kt7 (by omega);have k7:=k6.trans kt7 (λi _ h=>h);have z7:=kt7.size;push_cast -dsimp;refine aC C7 (by simp) rfl ?_;intro w8 n9;have C8:aN w8 w'.heap.size 137 [str nm,.int .i64 t1.pos,.pointer none]:=n9.aL;have P8:=P7.kept n9.kept (λi h=>by omega);have k8:=k7.trans n9.kept (λi h1 h2=>by omega);have z8:=n9.size;push_cast -dsimp;refine aF (fy [61] P8) ?_ ?_;rotate_left;·
   rintro ce we ⟨e,pos,he,ht,eD⟩
   push_cast -dsimp
   refine⟨e,pos,vS dK hm bm lq ?_,ht.mono (by have:=k8.size;omega),k8.trans eD (λi _ h=>h)⟩
   rw[jF]
   rw[aJ e2,aJ e3];exact cL he
  rintro _ w9 ⟨_,l4,e4,rfl,P9,kt9⟩;have C9:=C8.kept kt9 (by omega);have k9:=k8.trans kt9 (λi _ h=>h);have z9:=kt9.size;push_cast -dsimp;refine aF (aH8 9 0 (by omega) (by omega) pb B w9 l4 P9) ?_ ?_;rotate_left;·
   rintro ce we ⟨e,pos,he,ht,eD⟩
   push_cast -dsimp
   refine⟨e,pos,vS dK hm bm lq ?_,ht.mono (by have:=k9.size;omega),k9.trans eD (λi _ h=>h)⟩
   rw[jF]
   rw[aJ e2,aJ e3,aJ e4];exact cL he
  rintro u wa ⟨kd,l5,e5,Va,Pa,wO⟩;obtain⟨ub,rfl,JW⟩:=Va.ptr;have Ca:=C9.kept wO (by omega);have ka:=k9.trans wO (λi _ h=>h);have za:=wO.size;push_cast -dsimp;refine aC Ca (by simp) rfl ?_;intro wb cH;have Cb:aN wb w'.heap.size 137 [str nm,.int .i64 t1.pos,bx ub]:=cH.aL;have Pb:=Pa.kept cH.kept (λi h=>by omega);have kb:=ka.trans cH.kept (λi h1 h2=>by omega);have zb:=cH.size;push_cast -dsimp;refine aF (fy [59] Pb) ?_ ?_;rotate_left;·
   rintro ce we ⟨e,pos,he,ht,eD⟩
   push_cast -dsimp
   refine⟨e,pos,vS dK hm bm lq ?_,ht.mono (by have:=kb.size;omega),kb.trans eD (λi _ h=>h)⟩
   rw[jF]
   rw[aJ e2,aJ e3,aJ e4,aJ e5];exact cL he
  rintro _ wc ⟨_,l6,e6,rfl,Pc',wQ⟩;have Cc:=Cb.kept wQ (by omega);have kc:=kb.trans wQ (λi _ h=>h);have zc:=wQ.size;have bI:oO l1=.ok (⟨nm,t1.pos,kd⟩,l6):=by rw[jF,aJ e2,aJ e3,aJ e4,aJ e5,aJ e6];rfl
  have hl6:=aAH _ _ _ bI;have kw:Kept (λi=>i=pb) w' wc:=by
   refine((((((((Kept.new (X:=(·=pb)) aj).trans cG.kept (λi h1 h2=>by omega)).trans ti (λi _ h=>h)).trans kt7 (λi _ h=>h)).trans n9.kept (λi h1 h2=>by omega)).trans kt9 (λi _ h=>h)).trans wO (λi _ h=>h)).trans cH.kept (λi h1 h2=>by omega)).trans wQ (λi _ h=>h)
  have Dt:=hR.kept kw (by omega);have hFc:=hF.kept kw (by omega);have AN:=hO.aH kw (λg hg h=>by have:=(hO.block g hg).1;omega);have fq:∀g,cv.ownBlock=some g->w.heap.size+2<=g/\g<w'.heap.size:=λg hg=>hO.block g hg;have hVc:dT (vE (λb=>(b<w.heap.size+2\/cv.ownBlock=some b)\/w'.heap.size<=b) wc) cs acc:=hV.imp λa c h=>h.top.mono kw (λi h=>by omega) (λi h=>h);have hVk:fE (λb=>b<w9.heap.size\/wa.heap.size<=b) wc (bx ub) kd:=(Va.top.mono cH.kept (X':=λb=>b<w9.heap.size\/wa.heap.size<=b) (λi h=>by omega) (λi h=>h)).mono wQ (λi h=>by omega) (λi h=>h);have dc:wc.cell? ⟨w.heap.size+1,0,none⟩=some (.slice ca cs.length cc):=by rw[<-V6];exact hFc.cell rfl
  have dl:aB wc ⟨w'.heap.size,0,none⟩ 0 3=some [str nm,.int .i64 t1.pos,bx ub]:=Cc.aB;push_cast -dsimp[dc,dl];refine cF XY rfl rfl (by omega) ?_;intro wd jI;have hRd:=Dt.below jI.below Dt.lt;have hFd:=hFc.below jI.below hFc.lt;have hOd:=AN.new jI;rw[V6]at hOd;have Pd:=Pc'.below jI.below;have zd:=jI.size;push_cast -dsimp;refine aP (base:=w.heap.size+2) [(nm,t1.pos,ub)] (enc:=Bf) XY hOd (by rfl) (λj y hy=>by simpa[Bf,bx] using jI.cell hy) X8 (by rw[jE];simp only[List.length_cons,List.length_nil];omega) (by omega) ?_;intro cv2 we Sm eo lx;rw[<-V6]at eo lx;have kg:Kept (λj=>cv.ownBlock=some j) wd we:=Kept.grown eo (λ_ h=>h);have QK:=hRd.kept kg (λh=>by have:=fq _ h;omega);have hFe:=hFd.kept kg (λh=>by have:=fq _ h;omega);have Pe:=Pd.kept kg (λi h=>by have:=fq _ h;omega);have ze:=kg.size;obtain⟨a5,c5,rfl⟩:=Sm.slice;push_cast -dsimp;refine aC hFe (by simp) rfl ?_;intro wf iu;have KT:aN wf (w.heap.size+1) 26 [.slice a5 (cs++[(nm,t1.pos,ub)]).length c5,.slice none 0 0,.bool true]:=iu.aL;have hRf:=QK.kept iu.kept (by omega);have hOf:=Sm.aH iu.kept (λg hg h=>by have:=(Sm.block g hg).1;omega);have Pf:=Pe.kept iu.kept (λi h=>by omega);have kY:Kept (λi=>i=w.heap.size+1\/cv.ownBlock=some i) wc wf:=((Kept.new (X:=λi=>i=w.heap.size+1\/cv.ownBlock=some i) jI).trans kg (λi _ h=>.inr h)).trans iu.kept (λi _ h=>.inl h);have kf:=kc.trans kY (X:=(·=pb)) (λi h1 h2=>by
   rcases h2 with h2|h2
   ·omega
   have:=fq _ h2;omega)
  have zkw:=kw.size;have hVf:dT (vE (λb=>b<w.heap.size+2\/(Value.slice a5 (cs++[(nm,t1.pos,ub)]).length c5).ownBlock=some b) wf) (cs++[(nm,t1.pos,ub)]) (acc++[⟨nm,t1.pos,kd⟩]):=by
   refine(hVc.imp λa c h=>h.mono kY (λi h=>?_) (λi h=>?_)).snoc ⟨rfl,rfl,hVk.mono kY (λi h=>?_) (λi h=>?_)⟩
   ·rcases h with h|h
    ·exact .inl (.inl (by omega))
    exact .inl (.inr h)
   ·rcases h with h|h
    ·exact .inl (.inl h)
    rcases lx i h with h|h
    ·exact .inl (.inr h)
    exact .inr (by omega)
   ·rcases h with h|h
    ·exact .inl (by omega)
    have:=fq _ h;exact .inl (by omega)
   rcases h with h|h
   ·exact .inl (by omega)
   rcases lx i h with h|h
   ·have:=fq _ h;exact .inl (by omega)
   exact .inr (by omega)
  have j7:ba (m-1) (acc++[⟨nm,t1.pos,kd⟩]) l6=ba 1000 [] l0:=by rw[Jf dK hm bm lq,aJ bI]
  have hPf:=Pf.len;push_cast -dsimp;exact⟨⟨m-1,acc++[⟨nm,t1.pos,kd⟩],l6,_,_,j7,by omega,by rw[List.length_append,List.length_singleton];omega,hRf,KT,hOf,hVf,Pf,kf⟩,by rw[hPf,YE];exact hl6⟩
 | false =>
  have jF:=aB2 dK hm bm;have aHe:=V6;have JL:∃V0,V0=w':=⟨_,rfl⟩;obtain⟨V0,JL⟩:=JL;have Kf:∃lc,lc=l1:=⟨_,rfl⟩;obtain⟨lc,Kf⟩:=Kf;rw[V6]at hF;rw[<-JL]at hR hF hO hV hP hk hzw YE ⊢
  rw[<-Kf]at jF hP YE;clear dK hm bm;have hF0:=hF;have hP0:=hP;have hk0:=hk;push_cast -dsimp;refine aK [5,41,42,43,44,45,46,47,48,49,50,51,52,53,54,55,56,57,58,59,60,61,62,63,64,65,66,67,68,69,70,71,72,73,74,75,76,77,78,79,80,81,82,83,84] (λz w'=>∃(m:Nat) (acc:List cQ) (l1:List Tok) (rv:Value) (rs:List (Nat×Bool×Nat×Nat)),b8 m acc l1=b8 1000 [] lc/\l1.length<m/\acc.length<=20 /\
    aN w' (w.heap.size+1) 26 [.slice ca cs.length cc,rv,.bool true]/\Go.Vc.Own V0.heap.size 84 4 jD w' rv rs /\
    dT (mO (λb=>b<V0.heap.size\/rv.ownBlock=some b) w') rs acc/\PS pb B w' l1/\Kept (·=pb) w w'/\Kept (λi=>i=pb\/i=w.heap.size+1) V0 w') (λz w'=>zJ w' pb) ?_ ?_
  ·have aq:lc.length<1000:=by have:=hP0.tl.len;omega
   exact⟨1000,[],lc,_,[],rfl,aq,by simp,hF0,Vc.Own.nil (enc:=jD) _ _ (λ_=>rfl) _,.nil,hP0,hk0,Kept.refl _ _⟩
  clear hF hP hk YE;have hVc:=hV;have AN:=hO;have aVX:=jE;have aUi:=acc;rintro z w' ⟨m,lp,l1,rv,rs,dK,hm,aSY,hF,hO,hV,hP,hk,Bt⟩;have jE:=hV.len;have hzw:=hk.size;have YE:=hP.len;have aLN:=hF.lt;have hf0:=hF0.lt;have aWg:=Bt.size;obtain⟨ra,rc,F9⟩:=hO.slice;obtain⟨t1,r1,n5⟩:=hP.tl.cons;have YZ:Cae.hd l1=t1:=by rw[n5];rfl
  have hP':=hP;rw[n5]at hP';obtain⟨b,o,c,hBp,hc,cf,c0,c1,c2,c3⟩:=hP'.hd;have ni:mM l1=Cae.pb iA (λb=>Cae.pb (ry 9) λx=>Cae.pb (dM [58]) λ_=>Cae.pb (ry 9) λy=>Cae.pb (dM [59]) λ_=>pr ⟨t1.pos,b,x,y⟩) l1:=by
   unfold mM;rw[aJ (p:=dr) (x:=Cae.hd l1) (l1:=l1) rfl,YZ]
  have iW:ie l1=(dm [98,114,101,97,107] l1 || dm [107,101,101,112] l1):=rfl;push_cast -dsimp;refine aA (DT [98,114,101,97,107] hP) ?_;rintro _ wx ⟨rfl,hwx⟩;obtain rfl:w'=wx:=hwx.symm;cases gE:dm [98,114,101,97,107] l1 with
  | true =>
   have bm:ie l1=true:=by rw[iW,gE];rfl
   have d1:w'.cell? ⟨w.heap.size+1,1,none⟩=some (.slice ra rs.length rc):=by rw[<-F9];exact hF.cell rfl
   push_cast -dsimp[d1];refine⟨λlq=>?_,λlq=>?_⟩
   ·refine aF (jo 4 hP) (λ_ _ h=>h.elim) ?_;rintro ce we ⟨ht,hb⟩;push_cast -dsimp;exact⟨4,_,Lp jF dK hm bm (by omega),ht.mono (by omega),hk.trans (Kept.aQ hb (X:=(·=pb)) (λi h1 h2=>by omega)) (λi _ h=>h)⟩
   have lq:lp.length≠20:=by omega
   have cb:w'.cell? ⟨pb,0,none⟩=some (.slice (some ⟨b,o,none⟩) (r1.length+1) c):=hBp.cell rfl;push_cast -dsimp[cb,c2];refine⟨by omega,?_⟩;refine ah (z:=[.int .i64 0,.bool false,.pointer none,.pointer none]) (by kernel_rfl) ?_;intro w4 aj;have C4:=aj.aL;have P4:=hP.below aj.below;have z4:=aj.size;have k4:=hk.trans (Kept.new (X:=(·=pb)) aj) (λi _ h=>h);push_cast -dsimp;refine aI (xt:=84) (n:=4) (by kernel_rfl) C4 rfl (by decide) (by simp;exact⟨rfl,rfl,rfl⟩) ?_;intro w5 cG;have C5:aN w5 w'.heap.size 84 [.int .i64 t1.pos,.bool false,.pointer none,.pointer none]:=cG.aL;have P5:=P4.kept cG.kept (λi h=>by omega);have k5:=k4.trans cG.kept (λi h1 h2=>by omega);have z5:=cG.size;have kw5:Kept (λi=>i=pb) w' w5:=(Kept.new (X:=(·=pb)) aj).trans cG.kept (λi h1 h2=>by omega);push_cast -dsimp;refine aA (gZ [98,114,101,97,107] P5) ?_;rintro _ wt hT;rcases hT with ⟨wD,rfl,t6,l3,el6,h56,Pt,ti,Q7⟩|⟨wD,rfl,r6⟩
   ·have lz:cZ l1=.ok ((),l3):=by rw[el6];exact dq h56
    have qe:iA l1=.ok (true,l3):=by
     unfold iA bE;rw[wD,if_pos rfl,aJ lz];rfl
    have Ct:=C5.kept ti (by omega);push_cast -dsimp;refine aC Ct (by simp) rfl ?_;intro w6 bW;have C6:aN w6 w'.heap.size 84 [.int .i64 t1.pos,.bool true,.pointer none,.pointer none]:=bW.aL;have P6:=Pt.kept bW.kept (λi h=>by omega);have k6:=(k5.trans ti (λi _ h=>h)).trans bW.kept (λi h1 h2=>by omega);have kw6:=(kw5.trans ti (λi _ h=>h)).trans bW.kept (λi h1 h2=>by omega);have z6:w5.heap.size<=w6.heap.size:=by have:=bW.kept.size;have:=ti.size;omega
    have d7:w6.cell? ⟨w'.heap.size,1,none⟩=some (.bool true):=C6.cell rfl;push_cast -dsimp[d7];refine aF (tm 9 0 (by omega) (by omega) pb B w6 l3 P6) ?_ ?_;rotate_left;·
     rintro ce we ⟨e,pos,he,ht,eD⟩
     push_cast -dsimp
     refine⟨e,pos,fM jF dK hm bm lq ?_,ht.mono (by have:=k6.size;omega),k6.trans eD (λi _ h=>h)⟩
     rw[ni]
     rw[aJ qe];exact cL he
    rintro u wa ⟨x1,l5,e5,Va,Pa,wO⟩;obtain⟨ub,rfl,JW,_⟩:=Va.ptr;have Ca:=C6.kept wO (by omega);have ka:=k6.trans wO (λi _ h=>h);have za:=wO.size;push_cast -dsimp;refine aC Ca (by simp) rfl ?_;intro wb cH;have Cb:aN wb w'.heap.size 84 [.int .i64 t1.pos,.bool true,bx ub,.pointer none]:=cH.aL;have Pb:=Pa.kept cH.kept (λi h=>by omega);have kb:=ka.trans cH.kept (λi h1 h2=>by omega);have zb:=cH.size;push_cast -dsimp;refine aF (fy [58] Pb) ?_ ?_;rotate_left;·
     rintro ce we ⟨e,pos,he,ht,eD⟩
     push_cast -dsimp
     refine⟨e,pos,fM jF dK hm bm lq ?_,ht.mono (by have:=kb.size;omega),kb.trans eD (λi _ h=>h)⟩
     rw[ni]
     rw[aJ qe,aJ e5];exact cL he
    rintro _ wc ⟨_,l6,e6,rfl,Pc',wQ⟩;have Cc:=Cb.kept wQ (by omega);have kc:=kb.trans wQ (λi _ h=>h);have zc:=wQ.size;push_cast -dsimp;refine aF (tm 9 0 (by omega) (by omega) pb B wc l6 Pc') ?_ ?_;rotate_left;·
     rintro ce we ⟨e,pos,he,ht,eD⟩
     push_cast -dsimp
     refine⟨e,pos,fM jF dK hm bm lq ?_,ht.mono (by have:=kc.size;omega),kc.trans eD (λi _ h=>h)⟩
     rw[ni]
     rw[aJ qe,aJ e5,aJ e6];exact cL he
    rintro u wd ⟨x2,l7,e7,Vd,Pd,CT⟩;obtain⟨vb,rfl,OD,_⟩:=Vd.ptr;have Cd:=Cc.kept CT (by omega);have kd:=kc.trans CT (λi _ h=>h);have zd:=CT.size;push_cast -dsimp;refine aC Cd (by simp) rfl ?_;intro we mI;have Ce:aN we w'.heap.size 84 [.int .i64 t1.pos,.bool true,bx ub,bx vb]:=mI.aL;have Pe:=Pd.kept mI.kept (λi h=>by omega);have ke:=kd.trans mI.kept (λi h1 h2=>by omega);have ze:=mI.size;push_cast -dsimp;refine aF (fy [59] Pe) ?_ ?_;rotate_left;·
     rintro ce we ⟨e,pos,he,ht,eD⟩
     push_cast -dsimp
     refine⟨e,pos,fM jF dK hm bm lq ?_,ht.mono (by have:=ke.size;omega),ke.trans eD (λi _ h=>h)⟩
     rw[ni]
     rw[aJ qe,aJ e5,aJ e6,aJ e7];exact cL he
    rintro _ wf ⟨_,l8,e8,rfl,Pf,yN⟩;have Cf:=Ce.kept yN (by omega);have kf:=ke.trans yN (λi _ h=>h);have zf:=yN.size;have bI:mM l1=.ok (⟨t1.pos,true,x1,x2⟩,l8):=by rw[ni,aJ qe,aJ e5,aJ e6,aJ e7,aJ e8];rfl
    have hl8:=Ar _ _ _ bI;have kw:Kept (λi=>i=pb) w' wf:=((((((kw6.trans wO (λi _ h=>h)).trans cH.kept (λi h1 h2=>by omega)).trans wQ (λi _ h=>h)).trans CT (λi _ h=>h)).trans mI.kept (λi h1 h2=>by omega)).trans yN (λi _ h=>h));have KT:=hF.kept kw (by omega);have hOf:=hO.aH kw (λg hg h=>by have:=(hO.block g hg).1;omega);have fq:∀g,rv.ownBlock=some g->V0.heap.size<=g/\g<w'.heap.size:=λg hg=>hO.block g hg;have hVf:dT (mO (λb=>(b<V0.heap.size\/rv.ownBlock=some b)\/w'.heap.size<=b) wf) rs lp:=hV.imp λa c h=>h.top.mono kw (λi h=>by omega) (λi h=>h);have Nk:au (λb=>b<w6.heap.size\/wa.heap.size<=b) wf (bx ub) x1:=(((Va.top.mono cH.kept (X':=λb=>b<w6.heap.size\/wa.heap.size<=b) (λi h=>by omega) (λi h=>h)).mono wQ (X':=λb=>b<w6.heap.size\/wa.heap.size<=b) (λi h=>by omega) (λi h=>h)).mono CT (X':=λb=>b<w6.heap.size\/wa.heap.size<=b) (λi h=>by omega) (λi h=>h)).mono mI.kept (X':=λb=>b<w6.heap.size\/wa.heap.size<=b) (λi h=>by omega) (λi h=>h) |>.mono yN (λi h=>by omega) (λi h=>h);have Nl:au (λb=>b<wc.heap.size\/wd.heap.size<=b) wf (bx vb) x2:=(Vd.top.mono mI.kept (X':=λb=>b<wc.heap.size\/wd.heap.size<=b) (λi h=>by omega) (λi h=>h)).mono yN (λi h=>by omega) (λi h=>h);have df:wf.cell? ⟨w.heap.size+1,1,none⟩=some (.slice ra rs.length rc):=by rw[<-F9];exact KT.cell rfl
    have dl:aB wf ⟨w'.heap.size,0,none⟩ 0 4=some [.int .i64 t1.pos,.bool true,bx ub,bx vb]:=Cf.aB;push_cast -dsimp[df,dl];refine cF rJ rfl rfl (by omega) ?_;intro wg mJ;have hFg:=KT.below mJ.below KT.lt;have YD:=hOf.new mJ;rw[F9]at YD;have Pg:=Pf.below mJ.below;have zg:=mJ.size;push_cast -dsimp;refine aP (base:=V0.heap.size) [(t1.pos,true,ub,vb)] (enc:=jD) rJ YD (by rfl) (λj y hy=>by simpa[jD,bx] using mJ.cell hy) sV (by rw[jE];simp only[List.length_cons,List.length_nil];omega) (by omega) ?_;intro rv2 wh Nh TK lx;rw[<-F9]at TK lx;have kg:Kept (λj=>rv.ownBlock=some j) wg wh:=Kept.grown TK (λ_ h=>h);have hFh:=hFg.kept kg (λh=>by have:=fq _ h;omega);have Ph:=Pg.kept kg (λi h=>by have:=fq _ h;omega);have zh:=kg.size;obtain⟨a5,c5,rfl⟩:=Nh.slice;push_cast -dsimp;refine aC hFh (by simp) rfl ?_;intro wi gu;have hFi:aN wi (w.heap.size+1) 26 [.slice ca cs.length cc,.slice a5 (rs++[(t1.pos,true,ub,vb)]).length c5,.bool true]:=gu.aL;have hOi:=Nh.aH gu.kept (λg hg h=>by have:=(Nh.block g hg).1;omega);have Pi:=Ph.kept gu.kept (λi h=>by omega);have kY:Kept (λi=>i=w.heap.size+1\/rv.ownBlock=some i) wf wi:=((Kept.new (X:=λi=>i=w.heap.size+1\/rv.ownBlock=some i) mJ).trans kg (λi _ h=>.inr h)).trans gu.kept (λi _ h=>.inl h);have ki:=kf.trans kY (X:=(·=pb)) (λi h1 h2=>by
     rcases h2 with h2|h2
     ·omega
     have:=fq _ h2;omega)
    have kv0:Kept (λi=>i=pb\/i=w.heap.size+1\/rv.ownBlock=some i) w' wi:=(kw.weaken (Y:=λi=>i=pb\/i=w.heap.size+1\/rv.ownBlock=some i) (λi _ h=>.inl h)).trans kY (λi _ h=>.inr h);have kv:=Bt.trans kv0 (λi h1 h2=>by
     rcases h2 with h2|h2|h2
     ·exact .inl h2
     ·exact .inr h2
     have:=fq _ h2;omega)
    have zkw:=kw.size;have hVi:dT (mO (λb=>b<V0.heap.size\/(Value.slice a5 (rs++[(t1.pos,true,ub,vb)]).length c5).ownBlock=some b) wi) (rs++[(t1.pos,true,ub,vb)]) (lp++[⟨t1.pos,true,x1,x2⟩]):=by
     refine(hVf.imp λa c h=>h.mono kY (λi h=>?_) (λi h=>?_)).snoc ⟨rfl,rfl,Nk.mono kY (λi h=>?_) (λi h=>?_),Nl.mono kY (λi h=>?_) (λi h=>?_)⟩
     ·rcases h with h|h
      ·exact .inl (.inl (by omega))
      exact .inl (.inr h)
     ·rcases h with h|h
      ·exact .inl (.inl h)
      rcases lx i h with h|h
      ·exact .inl (.inr h)
      exact .inr (by omega)
     ·rcases h with h|h
      ·exact .inl (by omega)
      have:=fq _ h;exact .inl (by omega)
     ·rcases h with h|h
      ·exact .inl (by omega)
      rcases lx i h with h|h
      ·have:=fq _ h;exact .inl (by omega)
      exact .inr (by omega)
     ·rcases h with h|h
      ·exact .inl (by omega)
      have:=fq _ h;exact .inl (by omega)
     rcases h with h|h
     ·exact .inl (by omega)
     rcases lx i h with h|h
     ·have:=fq _ h;exact .inl (by omega)
     exact .inr (by omega)
    have j7:b8 (m-1) (lp++[⟨t1.pos,true,x1,x2⟩]) l8=b8 1000 [] lc:=by rw[sD dK hm bm lq,aJ bI]
    have hPi:=Pi.len;push_cast -dsimp;exact⟨⟨m-1,lp++[⟨t1.pos,true,x1,x2⟩],l8,_,_,j7,by omega,by rw[List.length_append,List.length_singleton];omega,hFi,hOi,hVi,Pi,ki,kv⟩,by rw[hPi,YE];exact hl8⟩
   obtain rfl:w5=wt:=r6.symm;push_cast -dsimp;refine aC C5 (by simp) rfl ?_;intro wu Mm;have Cu:aN wu w'.heap.size 84 [.int .i64 t1.pos,.bool false,.pointer none,.pointer none]:=Mm.aL;have Pu:=P5.kept Mm.kept (λi h=>by omega);have ku:=k5.trans Mm.kept (λi h1 h2=>by omega);have zu:=Mm.size;have du:wu.cell? ⟨w'.heap.size,1,none⟩=some (.bool false):=Cu.cell rfl;push_cast -dsimp[du];have Kq:iA l1=Cae.pb (dM [107,101,101,112]) (λ_=>pr false) l1:=by
    unfold iA bE;rw[wD];rfl
   refine aF (fy [107,101,101,112] Pu) ?_ ?_;rotate_left;·
    rintro ce we ⟨e,pos,he,ht,eD⟩
    push_cast -dsimp
    refine⟨e,pos,fM jF dK hm bm lq ?_,ht.mono (by have:=ku.size;omega),ku.trans eD (λi _ h=>h)⟩
    rw[ni]
    refine cL ?_;rw[Kq];exact cL he
   rintro _ w6 ⟨_,l3,e3,rfl,P6,ti⟩;have qe:iA l1=.ok (false,l3):=by rw[Kq,aJ e3];rfl
   have C6:=Cu.kept ti (by omega);have k6:=ku.trans ti (λi _ h=>h);have kw6:=(kw5.trans Mm.kept (λi h1 h2=>by omega)).trans ti (λi _ h=>h);have z6:w5.heap.size<=w6.heap.size:=by have:=ti.size;omega
   push_cast -dsimp;refine aF (tm 9 0 (by omega) (by omega) pb B w6 l3 P6) ?_ ?_;rotate_left;·
    rintro ce we ⟨e,pos,he,ht,eD⟩
    push_cast -dsimp
    refine⟨e,pos,fM jF dK hm bm lq ?_,ht.mono (by have:=k6.size;omega),k6.trans eD (λi _ h=>h)⟩
    rw[ni]
    rw[aJ qe];exact cL he
   rintro u wa ⟨x1,l5,e5,Va,Pa,wO⟩;obtain⟨ub,rfl,JW,_⟩:=Va.ptr;have Ca:=C6.kept wO (by omega);have ka:=k6.trans wO (λi _ h=>h);have za:=wO.size;push_cast -dsimp;refine aC Ca (by simp) rfl ?_;intro wb cH;have Cb:aN wb w'.heap.size 84 [.int .i64 t1.pos,.bool false,bx ub,.pointer none]:=cH.aL;have Pb:=Pa.kept cH.kept (λi h=>by omega);have kb:=ka.trans cH.kept (λi h1 h2=>by omega);have zb:=cH.size;push_cast -dsimp;refine aF (fy [58] Pb) ?_ ?_;rotate_left;·
    rintro ce we ⟨e,pos,he,ht,eD⟩
    push_cast -dsimp
    refine⟨e,pos,fM jF dK hm bm lq ?_,ht.mono (by have:=kb.size;omega),kb.trans eD (λi _ h=>h)⟩
    rw[ni]
    rw[aJ qe,aJ e5];exact cL he
   rintro _ wc ⟨_,l6,e6,rfl,Pc',wQ⟩;have Cc:=Cb.kept wQ (by omega);have kc:=kb.trans wQ (λi _ h=>h);have zc:=wQ.size;push_cast -dsimp;refine aF (tm 9 0 (by omega) (by omega) pb B wc l6 Pc') ?_ ?_;rotate_left;·
    rintro ce we ⟨e,pos,he,ht,eD⟩
    push_cast -dsimp
    refine⟨e,pos,fM jF dK hm bm lq ?_,ht.mono (by have:=kc.size;omega),kc.trans eD (λi _ h=>h)⟩
    rw[ni]
    rw[aJ qe,aJ e5,aJ e6];exact cL he
   rintro u wd ⟨x2,l7,e7,Vd,Pd,CT⟩;obtain⟨vb,rfl,OD,_⟩:=Vd.ptr;have Cd:=Cc.kept CT (by omega);have kd:=kc.trans CT (λi _ h=>h);have zd:=CT.size;push_cast -dsimp;refine aC Cd (by simp) rfl ?_;intro we mI;have Ce:aN we w'.heap.size 84 [.int .i64 t1.pos,.bool false,bx ub,bx vb]:=mI.aL;have Pe:=Pd.kept mI.kept (λi h=>by omega);have ke:=kd.trans mI.kept (λi h1 h2=>by omega);have ze:=mI.size;push_cast -dsimp;refine aF (fy [59] Pe) ?_ ?_;rotate_left;·
    rintro ce we ⟨e,pos,he,ht,eD⟩
    push_cast -dsimp
    refine⟨e,pos,fM jF dK hm bm lq ?_,ht.mono (by have:=ke.size;omega),ke.trans eD (λi _ h=>h)⟩
    rw[ni]
    rw[aJ qe,aJ e5,aJ e6,aJ e7];exact cL he
   rintro _ wf ⟨_,l8,e8,rfl,Pf,yN⟩;have Cf:=Ce.kept yN (by omega);have kf:=ke.trans yN (λi _ h=>h);have zf:=yN.size;have bI:mM l1=.ok (⟨t1.pos,false,x1,x2⟩,l8):=by rw[ni,aJ qe,aJ e5,aJ e6,aJ e7,aJ e8];rfl
   have hl8:=Ar _ _ _ bI;have kw:Kept (λi=>i=pb) w' wf:=((((((kw6.trans wO (λi _ h=>h)).trans cH.kept (λi h1 h2=>by omega)).trans wQ (λi _ h=>h)).trans CT (λi _ h=>h)).trans mI.kept (λi h1 h2=>by omega)).trans yN (λi _ h=>h));have KT:=hF.kept kw (by omega);have hOf:=hO.aH kw (λg hg h=>by have:=(hO.block g hg).1;omega);have fq:∀g,rv.ownBlock=some g->V0.heap.size<=g/\g<w'.heap.size:=λg hg=>hO.block g hg;have hVf:dT (mO (λb=>(b<V0.heap.size\/rv.ownBlock=some b)\/w'.heap.size<=b) wf) rs lp:=hV.imp λa c h=>h.top.mono kw (λi h=>by omega) (λi h=>h);have Nk:au (λb=>b<w6.heap.size\/wa.heap.size<=b) wf (bx ub) x1:=(((Va.top.mono cH.kept (X':=λb=>b<w6.heap.size\/wa.heap.size<=b) (λi h=>by omega) (λi h=>h)).mono wQ (X':=λb=>b<w6.heap.size\/wa.heap.size<=b) (λi h=>by omega) (λi h=>h)).mono CT (X':=λb=>b<w6.heap.size\/wa.heap.size<=b) (λi h=>by omega) (λi h=>h)).mono mI.kept (X':=λb=>b<w6.heap.size\/wa.heap.size<=b) (λi h=>by omega) (λi h=>h) |>.mono yN (λi h=>by omega) (λi h=>h);have Nl:au (λb=>b<wc.heap.size\/wd.heap.size<=b) wf (bx vb) x2:=(Vd.top.mono mI.kept (X':=λb=>b<wc.heap.size\/wd.heap.size<=b) (λi h=>by omega) (λi h=>h)).mono yN (λi h=>by omega) (λi h=>h);have df:wf.cell? ⟨w.heap.size+1,1,none⟩=some (.slice ra rs.length rc):=by rw[<-F9];exact KT.cell rfl
   have dl:aB wf ⟨w'.heap.size,0,none⟩ 0 4=some [.int .i64 t1.pos,.bool false,bx ub,bx vb]:=Cf.aB;push_cast -dsimp[df,dl];refine cF rJ rfl rfl (by omega) ?_;intro wg mJ;have hFg:=KT.below mJ.below KT.lt;have YD:=hOf.new mJ;rw[F9]at YD;have Pg:=Pf.below mJ.below;have zg:=mJ.size;push_cast -dsimp;refine aP (base:=V0.heap.size) [(t1.pos,false,ub,vb)] (enc:=jD) rJ YD (by rfl) (λj y hy=>by simpa[jD,bx] using mJ.cell hy) sV (by rw[jE];simp only[List.length_cons,List.length_nil];omega) (by omega) ?_;intro rv2 wh Nh TK lx;rw[<-F9]at TK lx;have kg:Kept (λj=>rv.ownBlock=some j) wg wh:=Kept.grown TK (λ_ h=>h);have hFh:=hFg.kept kg (λh=>by have:=fq _ h;omega);have Ph:=Pg.kept kg (λi h=>by have:=fq _ h;omega);have zh:=kg.size;obtain⟨a5,c5,rfl⟩:=Nh.slice;push_cast -dsimp;refine aC hFh (by simp) rfl ?_;intro wi gu;have hFi:aN wi (w.heap.size+1) 26 [.slice ca cs.length cc,.slice a5 (rs++[(t1.pos,false,ub,vb)]).length c5,.bool true]:=gu.aL;have hOi:=Nh.aH gu.kept (λg hg h=>by have:=(Nh.block g hg).1;omega);have Pi:=Ph.kept gu.kept (λi h=>by omega);have kY:Kept (λi=>i=w.heap.size+1\/rv.ownBlock=some i) wf wi:=((Kept.new (X:=λi=>i=w.heap.size+1\/rv.ownBlock=some i) mJ).trans kg (λi _ h=>.inr h)).trans gu.kept (λi _ h=>.inl h);have ki:=kf.trans kY (X:=(·=pb)) (λi h1 h2=>by
    rcases h2 with h2|h2
    ·omega
    have:=fq _ h2;omega)
   have kv0:Kept (λi=>i=pb\/i=w.heap.size+1\/rv.ownBlock=some i) w' wi:=(kw.weaken (Y:=λi=>i=pb\/i=w.heap.size+1\/rv.ownBlock=some i) (λi _ h=>.inl h)).trans kY (λi _ h=>.inr h);have kv:=Bt.trans kv0 (λi h1 h2=>by
    rcases h2 with h2|h2|h2
    ·exact .inl h2
    ·exact .inr h2
    have:=fq _ h2;omega)
   have zkw:=kw.size;have hVi:dT (mO (λb=>b<V0.heap.size\/(Value.slice a5 (rs++[(t1.pos,false,ub,vb)]).length c5).ownBlock=some b) wi) (rs++[(t1.pos,false,ub,vb)]) (lp++[⟨t1.pos,false,x1,x2⟩]):=by
    refine(hVf.imp λa c h=>h.mono kY (λi h=>?_) (λi h=>?_)).snoc ⟨rfl,rfl,Nk.mono kY (λi h=>?_) (λi h=>?_),Nl.mono kY (λi h=>?_) (λi h=>?_)⟩
    ·rcases h with h|h
     ·exact .inl (.inl (by omega))
     exact .inl (.inr h)
    ·rcases h with h|h
     ·exact .inl (.inl h)
     rcases lx i h with h|h
     ·exact .inl (.inr h)
     exact .inr (by omega)
    ·rcases h with h|h
     ·exact .inl (by omega)
     have:=fq _ h;exact .inl (by omega)
    ·rcases h with h|h
     ·exact .inl (by omega)
     rcases lx i h with h|h
     ·have:=fq _ h;exact .inl (by omega)
     exact .inr (by omega)
    ·rcases h with h|h
     ·exact .inl (by omega)
     have:=fq _ h;exact .inl (by omega)
    rcases h with h|h
    ·exact .inl (by omega)
    rcases lx i h with h|h
    ·have:=fq _ h;exact .inl (by omega)
    exact .inr (by omega)
   have j7:b8 (m-1) (lp++[⟨t1.pos,false,x1,x2⟩]) l8=b8 1000 [] lc:=by rw[sD dK hm bm lq,aJ bI]
   have hPi:=Pi.len;push_cast -dsimp;exact⟨⟨m-1,lp++[⟨t1.pos,false,x1,x2⟩],l8,_,_,j7,by omega,by rw[List.length_append,List.length_singleton];omega,hFi,hOi,hVi,Pi,ki,kv⟩,by rw[hPi,YE];exact hl8⟩
  | false =>
   rw[gE,Bool.false_or]at iW;push_cast -dsimp;refine aA (DT [107,101,101,112] hP) ?_;rintro _ wx ⟨rfl,hwx⟩;obtain rfl:w'=wx:=hwx.symm;cases iC:dm [107,101,101,112] l1 with
   | true =>
    have bm:ie l1=true:=by rw[iW,iC]
    have d1:w'.cell? ⟨w.heap.size+1,1,none⟩=some (.slice ra rs.length rc):=by rw[<-F9];exact hF.cell rfl
    push_cast -dsimp[d1];refine⟨λlq=>?_,λlq=>?_⟩
    ·refine aF (jo 4 hP) (λ_ _ h=>h.elim) ?_;rintro ce we ⟨ht,hb⟩;push_cast -dsimp;exact⟨4,_,Lp jF dK hm bm (by omega),ht.mono (by omega),hk.trans (Kept.aQ hb (X:=(·=pb)) (λi h1 h2=>by omega)) (λi _ h=>h)⟩
    have lq:lp.length≠20:=by omega
    have cb:w'.cell? ⟨pb,0,none⟩=some (.slice (some ⟨b,o,none⟩) (r1.length+1) c):=hBp.cell rfl;push_cast -dsimp[cb,c2];refine⟨by omega,?_⟩;refine ah (z:=[.int .i64 0,.bool false,.pointer none,.pointer none]) (by kernel_rfl) ?_;intro w4 aj;have C4:=aj.aL;have P4:=hP.below aj.below;have z4:=aj.size;have k4:=hk.trans (Kept.new (X:=(·=pb)) aj) (λi _ h=>h);push_cast -dsimp;refine aI (xt:=84) (n:=4) (by kernel_rfl) C4 rfl (by decide) (by simp;exact⟨rfl,rfl,rfl⟩) ?_;intro w5 cG;have C5:aN w5 w'.heap.size 84 [.int .i64 t1.pos,.bool false,.pointer none,.pointer none]:=cG.aL;have P5:=P4.kept cG.kept (λi h=>by omega);have k5:=k4.trans cG.kept (λi h1 h2=>by omega);have z5:=cG.size;have kw5:Kept (λi=>i=pb) w' w5:=(Kept.new (X:=(·=pb)) aj).trans cG.kept (λi h1 h2=>by omega);push_cast -dsimp;refine aA (gZ [98,114,101,97,107] P5) ?_;rintro _ wt hT;rcases hT with ⟨wD,rfl,t6,l3,el6,h56,Pt,ti,Q7⟩|⟨wD,rfl,r6⟩
    ·have lz:cZ l1=.ok ((),l3):=by rw[el6];exact dq h56
     have qe:iA l1=.ok (true,l3):=by
      unfold iA bE;rw[wD,if_pos rfl,aJ lz];rfl
     have Ct:=C5.kept ti (by omega);push_cast -dsimp;refine aC Ct (by simp) rfl ?_;intro w6 bW;have C6:aN w6 w'.heap.size 84 [.int .i64 t1.pos,.bool true,.pointer none,.pointer none]:=bW.aL;have P6:=Pt.kept bW.kept (λi h=>by omega);have k6:=(k5.trans ti (λi _ h=>h)).trans bW.kept (λi h1 h2=>by omega);have kw6:=(kw5.trans ti (λi _ h=>h)).trans bW.kept (λi h1 h2=>by omega);have z6:w5.heap.size<=w6.heap.size:=by have:=bW.kept.size;have:=ti.size;omega
     have d7:w6.cell? ⟨w'.heap.size,1,none⟩=some (.bool true):=C6.cell rfl;push_cast -dsimp[d7];refine aF (tm 9 0 (by omega) (by omega) pb B w6 l3 P6) ?_ ?_;rotate_left;·
      rintro ce we ⟨e,pos,he,ht,eD⟩
      push_cast -dsimp
      refine⟨e,pos,fM jF dK hm bm lq ?_,ht.mono (by have:=k6.size;omega),k6.trans eD (λi _ h=>h)⟩
      rw[ni]
      rw[aJ qe];exact cL he
     rintro u wa ⟨x1,l5,e5,Va,Pa,wO⟩;obtain⟨ub,rfl,JW,_⟩:=Va.ptr;have Ca:=C6.kept wO (by omega);have ka:=k6.trans wO (λi _ h=>h);have za:=wO.size;push_cast -dsimp;refine aC Ca (by simp) rfl ?_;intro wb cH;have Cb:aN wb w'.heap.size 84 [.int .i64 t1.pos,.bool true,bx ub,.pointer none]:=cH.aL;have Pb:=Pa.kept cH.kept (λi h=>by omega);have kb:=ka.trans cH.kept (λi h1 h2=>by omega);have zb:=cH.size;push_cast -dsimp;refine aF (fy [58] Pb) ?_ ?_;rotate_left;·
      rintro ce we ⟨e,pos,he,ht,eD⟩
      push_cast -dsimp
      refine⟨e,pos,fM jF dK hm bm lq ?_,ht.mono (by have:=kb.size;omega),kb.trans eD (λi _ h=>h)⟩
      rw[ni]
      rw[aJ qe,aJ e5];exact cL he
     rintro _ wc ⟨_,l6,e6,rfl,Pc',wQ⟩;have Cc:=Cb.kept wQ (by omega);have kc:=kb.trans wQ (λi _ h=>h);have zc:=wQ.size;push_cast -dsimp;refine aF (tm 9 0 (by omega) (by omega) pb B wc l6 Pc') ?_ ?_;rotate_left;·
      rintro ce we ⟨e,pos,he,ht,eD⟩
      push_cast -dsimp
      refine⟨e,pos,fM jF dK hm bm lq ?_,ht.mono (by have:=kc.size;omega),kc.trans eD (λi _ h=>h)⟩
      rw[ni]
      rw[aJ qe,aJ e5,aJ e6];exact cL he
     rintro u wd ⟨x2,l7,e7,Vd,Pd,CT⟩;obtain⟨vb,rfl,OD,_⟩:=Vd.ptr;have Cd:=Cc.kept CT (by omega);have kd:=kc.trans CT (λi _ h=>h);have zd:=CT.size;push_cast -dsimp;refine aC Cd (by simp) rfl ?_;intro we mI;have Ce:aN we w'.heap.size 84 [.int .i64 t1.pos,.bool true,bx ub,bx vb]:=mI.aL;have Pe:=Pd.kept mI.kept (λi h=>by omega);have ke:=kd.trans mI.kept (λi h1 h2=>by omega);have ze:=mI.size;push_cast -dsimp;refine aF (fy [59] Pe) ?_ ?_;rotate_left;·
      rintro ce we ⟨e,pos,he,ht,eD⟩
      push_cast -dsimp
      refine⟨e,pos,fM jF dK hm bm lq ?_,ht.mono (by have:=ke.size;omega),ke.trans eD (λi _ h=>h)⟩
      rw[ni]
      rw[aJ qe,aJ e5,aJ e6,aJ e7];exact cL he
     rintro _ wf ⟨_,l8,e8,rfl,Pf,yN⟩;have Cf:=Ce.kept yN (by omega);have kf:=ke.trans yN (λi _ h=>h);have zf:=yN.size;have bI:mM l1=.ok (⟨t1.pos,true,x1,x2⟩,l8):=by rw[ni,aJ qe,aJ e5,aJ e6,aJ e7,aJ e8];rfl
     have hl8:=Ar _ _ _ bI;have kw:Kept (λi=>i=pb) w' wf:=((((((kw6.trans wO (λi _ h=>h)).trans cH.kept (λi h1 h2=>by omega)).trans wQ (λi _ h=>h)).trans CT (λi _ h=>h)).trans mI.kept (λi h1 h2=>by omega)).trans yN (λi _ h=>h));have KT:=hF.kept kw (by omega);have hOf:=hO.aH kw (λg hg h=>by have:=(hO.block g hg).1;omega);have fq:∀g,rv.ownBlock=some g->V0.heap.size<=g/\g<w'.heap.size:=λg hg=>hO.block g hg;have hVf:dT (mO (λb=>(b<V0.heap.size\/rv.ownBlock=some b)\/w'.heap.size<=b) wf) rs lp:=hV.imp λa c h=>h.top.mono kw (λi h=>by omega) (λi h=>h);have Nk:au (λb=>b<w6.heap.size\/wa.heap.size<=b) wf (bx ub) x1:=(((Va.top.mono cH.kept (X':=λb=>b<w6.heap.size\/wa.heap.size<=b) (λi h=>by omega) (λi h=>h)).mono wQ (X':=λb=>b<w6.heap.size\/wa.heap.size<=b) (λi h=>by omega) (λi h=>h)).mono CT (X':=λb=>b<w6.heap.size\/wa.heap.size<=b) (λi h=>by omega) (λi h=>h)).mono mI.kept (X':=λb=>b<w6.heap.size\/wa.heap.size<=b) (λi h=>by omega) (λi h=>h) |>.mono yN (λi h=>by omega) (λi h=>h);have Nl:au (λb=>b<wc.heap.size\/wd.heap.size<=b) wf (bx vb) x2:=(Vd.top.mono mI.kept (X':=λb=>b<wc.heap.size\/wd.heap.size<=b) (λi h=>by omega) (λi h=>h)).mono yN (λi h=>by omega) (λi h=>h);have df:wf.cell? ⟨w.heap.size+1,1,none⟩=some (.slice ra rs.length rc):=by rw[<-F9];exact KT.cell rfl
     have dl:aB wf ⟨w'.heap.size,0,none⟩ 0 4=some [.int .i64 t1.pos,.bool true,bx ub,bx vb]:=Cf.aB;push_cast -dsimp[df,dl];refine cF rJ rfl rfl (by omega) ?_;intro wg mJ;have hFg:=KT.below mJ.below KT.lt;have YD:=hOf.new mJ;rw[F9]at YD;have Pg:=Pf.below mJ.below;have zg:=mJ.size;push_cast -dsimp;refine aP (base:=V0.heap.size) [(t1.pos,true,ub,vb)] (enc:=jD) rJ YD (by rfl) (λj y hy=>by simpa[jD,bx] using mJ.cell hy) sV (by rw[jE];simp only[List.length_cons,List.length_nil];omega) (by omega) ?_;intro rv2 wh Nh TK lx;rw[<-F9]at TK lx;have kg:Kept (λj=>rv.ownBlock=some j) wg wh:=Kept.grown TK (λ_ h=>h);have hFh:=hFg.kept kg (λh=>by have:=fq _ h;omega);have Ph:=Pg.kept kg (λi h=>by have:=fq _ h;omega);have zh:=kg.size;obtain⟨a5,c5,rfl⟩:=Nh.slice;push_cast -dsimp;refine aC hFh (by simp) rfl ?_;intro wi gu;have hFi:aN wi (w.heap.size+1) 26 [.slice ca cs.length cc,.slice a5 (rs++[(t1.pos,true,ub,vb)]).length c5,.bool true]:=gu.aL;have hOi:=Nh.aH gu.kept (λg hg h=>by have:=(Nh.block g hg).1;omega);have Pi:=Ph.kept gu.kept (λi h=>by omega);have kY:Kept (λi=>i=w.heap.size+1\/rv.ownBlock=some i) wf wi:=((Kept.new (X:=λi=>i=w.heap.size+1\/rv.ownBlock=some i) mJ).trans kg (λi _ h=>.inr h)).trans gu.kept (λi _ h=>.inl h);have ki:=kf.trans kY (X:=(·=pb)) (λi h1 h2=>by
      rcases h2 with h2|h2
      ·omega
      have:=fq _ h2;omega)
     have kv0:Kept (λi=>i=pb\/i=w.heap.size+1\/rv.ownBlock=some i) w' wi:=(kw.weaken (Y:=λi=>i=pb\/i=w.heap.size+1\/rv.ownBlock=some i) (λi _ h=>.inl h)).trans kY (λi _ h=>.inr h);have kv:=Bt.trans kv0 (λi h1 h2=>by
      rcases h2 with h2|h2|h2
      ·exact .inl h2
      ·exact .inr h2
      have:=fq _ h2;omega)
     have zkw:=kw.size;have hVi:dT (mO (λb=>b<V0.heap.size\/(Value.slice a5 (rs++[(t1.pos,true,ub,vb)]).length c5).ownBlock=some b) wi) (rs++[(t1.pos,true,ub,vb)]) (lp++[⟨t1.pos,true,x1,x2⟩]):=by
      refine(hVf.imp λa c h=>h.mono kY (λi h=>?_) (λi h=>?_)).snoc ⟨rfl,rfl,Nk.mono kY (λi h=>?_) (λi h=>?_),Nl.mono kY (λi h=>?_) (λi h=>?_)⟩
      ·rcases h with h|h
       ·exact .inl (.inl (by omega))
       exact .inl (.inr h)
      ·rcases h with h|h
       ·exact .inl (.inl h)
       rcases lx i h with h|h
       ·exact .inl (.inr h)
       exact .inr (by omega)
      ·rcases h with h|h
       ·exact .inl (by omega)
       have:=fq _ h;exact .inl (by omega)
      ·rcases h with h|h
       ·exact .inl (by omega)
       rcases lx i h with h|h
       ·have:=fq _ h;exact .inl (by omega)
       exact .inr (by omega)
      ·rcases h with h|h
       ·exact .inl (by omega)
       have:=fq _ h;exact .inl (by omega)
      rcases h with h|h
      ·exact .inl (by omega)
      rcases lx i h with h|h
      ·have:=fq _ h;exact .inl (by omega)
      exact .inr (by omega)
     have j7:b8 (m-1) (lp++[⟨t1.pos,true,x1,x2⟩]) l8=b8 1000 [] lc:=by rw[sD dK hm bm lq,aJ bI]
     have hPi:=Pi.len;push_cast -dsimp;exact⟨⟨m-1,lp++[⟨t1.pos,true,x1,x2⟩],l8,_,_,j7,by omega,by rw[List.length_append,List.length_singleton];omega,hFi,hOi,hVi,Pi,ki,kv⟩,by rw[hPi,YE];exact hl8⟩
    obtain rfl:w5=wt:=r6.symm;push_cast -dsimp;refine aC C5 (by simp) rfl ?_;intro wu Mm;have Cu:aN wu w'.heap.size 84 [.int .i64 t1.pos,.bool false,.pointer none,.pointer none]:=Mm.aL;have Pu:=P5.kept Mm.kept (λi h=>by omega);have ku:=k5.trans Mm.kept (λi h1 h2=>by omega);have zu:=Mm.size;have du:wu.cell? ⟨w'.heap.size,1,none⟩=some (.bool false):=Cu.cell rfl;push_cast -dsimp[du];have Kq:iA l1=Cae.pb (dM [107,101,101,112]) (λ_=>pr false) l1:=by
     unfold iA bE;rw[wD];rfl
    refine aF (fy [107,101,101,112] Pu) ?_ ?_;rotate_left;·
     rintro ce we ⟨e,pos,he,ht,eD⟩
     push_cast -dsimp
     refine⟨e,pos,fM jF dK hm bm lq ?_,ht.mono (by have:=ku.size;omega),ku.trans eD (λi _ h=>h)⟩
     rw[ni]
     refine cL ?_;rw[Kq];exact cL he
    rintro _ w6 ⟨_,l3,e3,rfl,P6,ti⟩;have qe:iA l1=.ok (false,l3):=by rw[Kq,aJ e3];rfl
    have C6:=Cu.kept ti (by omega);have k6:=ku.trans ti (λi _ h=>h);have kw6:=(kw5.trans Mm.kept (λi h1 h2=>by omega)).trans ti (λi _ h=>h);have z6:w5.heap.size<=w6.heap.size:=by have:=ti.size;omega
    push_cast -dsimp;refine aF (tm 9 0 (by omega) (by omega) pb B w6 l3 P6) ?_ ?_;rotate_left;·
     rintro ce we ⟨e,pos,he,ht,eD⟩
     push_cast -dsimp
     refine⟨e,pos,fM jF dK hm bm lq ?_,ht.mono (by have:=k6.size;omega),k6.trans eD (λi _ h=>h)⟩
     rw[ni]
     rw[aJ qe];exact cL he
    rintro u wa ⟨x1,l5,e5,Va,Pa,wO⟩;obtain⟨ub,rfl,JW,_⟩:=Va.ptr;have Ca:=C6.kept wO (by omega);have ka:=k6.trans wO (λi _ h=>h);have za:=wO.size;push_cast -dsimp;refine aC Ca (by simp) rfl ?_;intro wb cH;have Cb:aN wb w'.heap.size 84 [.int .i64 t1.pos,.bool false,bx ub,.pointer none]:=cH.aL;have Pb:=Pa.kept cH.kept (λi h=>by omega);have kb:=ka.trans cH.kept (λi h1 h2=>by omega);have zb:=cH.size;push_cast -dsimp;refine aF (fy [58] Pb) ?_ ?_;rotate_left;·
     rintro ce we ⟨e,pos,he,ht,eD⟩
     push_cast -dsimp
     refine⟨e,pos,fM jF dK hm bm lq ?_,ht.mono (by have:=kb.size;omega),kb.trans eD (λi _ h=>h)⟩
     rw[ni]
     rw[aJ qe,aJ e5];exact cL he
    rintro _ wc ⟨_,l6,e6,rfl,Pc',wQ⟩;have Cc:=Cb.kept wQ (by omega);have kc:=kb.trans wQ (λi _ h=>h);have zc:=wQ.size;push_cast -dsimp;refine aF (tm 9 0 (by omega) (by omega) pb B wc l6 Pc') ?_ ?_;rotate_left;·
     rintro ce we ⟨e,pos,he,ht,eD⟩
     push_cast -dsimp
     refine⟨e,pos,fM jF dK hm bm lq ?_,ht.mono (by have:=kc.size;omega),kc.trans eD (λi _ h=>h)⟩
     rw[ni]
     rw[aJ qe,aJ e5,aJ e6];exact cL he
    rintro u wd ⟨x2,l7,e7,Vd,Pd,CT⟩;obtain⟨vb,rfl,OD,_⟩:=Vd.ptr;have Cd:=Cc.kept CT (by omega);have kd:=kc.trans CT (λi _ h=>h);have zd:=CT.size;push_cast -dsimp;refine aC Cd (by simp) rfl ?_;intro we mI;have Ce:aN we w'.heap.size 84 [.int .i64 t1.pos,.bool false,bx ub,bx vb]:=mI.aL;have Pe:=Pd.kept mI.kept (λi h=>by omega);have ke:=kd.trans mI.kept (λi h1 h2=>by omega);have ze:=mI.size;push_cast -dsimp;refine aF (fy [59] Pe) ?_ ?_;rotate_left;·
     rintro ce we ⟨e,pos,he,ht,eD⟩
     push_cast -dsimp
     refine⟨e,pos,fM jF dK hm bm lq ?_,ht.mono (by have:=ke.size;omega),ke.trans eD (λi _ h=>h)⟩
     rw[ni]
     rw[aJ qe,aJ e5,aJ e6,aJ e7];exact cL he
    rintro _ wf ⟨_,l8,e8,rfl,Pf,yN⟩;have Cf:=Ce.kept yN (by omega);have kf:=ke.trans yN (λi _ h=>h);have zf:=yN.size;have bI:mM l1=.ok (⟨t1.pos,false,x1,x2⟩,l8):=by rw[ni,aJ qe,aJ e5,aJ e6,aJ e7,aJ e8];rfl
    have hl8:=Ar _ _ _ bI;have kw:Kept (λi=>i=pb) w' wf:=((((((kw6.trans wO (λi _ h=>h)).trans cH.kept (λi h1 h2=>by omega)).trans wQ (λi _ h=>h)).trans CT (λi _ h=>h)).trans mI.kept (λi h1 h2=>by omega)).trans yN (λi _ h=>h));have KT:=hF.kept kw (by omega);have hOf:=hO.aH kw (λg hg h=>by have:=(hO.block g hg).1;omega);have fq:∀g,rv.ownBlock=some g->V0.heap.size<=g/\g<w'.heap.size:=λg hg=>hO.block g hg;have hVf:dT (mO (λb=>(b<V0.heap.size\/rv.ownBlock=some b)\/w'.heap.size<=b) wf) rs lp:=hV.imp λa c h=>h.top.mono kw (λi h=>by omega) (λi h=>h);have Nk:au (λb=>b<w6.heap.size\/wa.heap.size<=b) wf (bx ub) x1:=(((Va.top.mono cH.kept (X':=λb=>b<w6.heap.size\/wa.heap.size<=b) (λi h=>by omega) (λi h=>h)).mono wQ (X':=λb=>b<w6.heap.size\/wa.heap.size<=b) (λi h=>by omega) (λi h=>h)).mono CT (X':=λb=>b<w6.heap.size\/wa.heap.size<=b) (λi h=>by omega) (λi h=>h)).mono mI.kept (X':=λb=>b<w6.heap.size\/wa.heap.size<=b) (λi h=>by omega) (λi h=>h) |>.mono yN (λi h=>by omega) (λi h=>h);have Nl:au (λb=>b<wc.heap.size\/wd.heap.size<=b) wf (bx vb) x2:=(Vd.top.mono mI.kept (X':=λb=>b<wc.heap.size\/wd.heap.size<=b) (λi h=>by omega) (λi h=>h)).mono yN (λi h=>by omega) (λi h=>h);have df:wf.cell? ⟨w.heap.size+1,1,none⟩=some (.slice ra rs.length rc):=by rw[<-F9];exact KT.cell rfl
    have dl:aB wf ⟨w'.heap.size,0,none⟩ 0 4=some [.int .i64 t1.pos,.bool false,bx ub,bx vb]:=Cf.aB;push_cast -dsimp[df,dl];refine cF rJ rfl rfl (by omega) ?_;intro wg mJ;have hFg:=KT.below mJ.below KT.lt;have YD:=hOf.new mJ;rw[F9]at YD;have Pg:=Pf.below mJ.below;have zg:=mJ.size;push_cast -dsimp;refine aP (base:=V0.heap.size) [(t1.pos,false,ub,vb)] (enc:=jD) rJ YD (by rfl) (λj y hy=>by simpa[jD,bx] using mJ.cell hy) sV (by rw[jE];simp only[List.length_cons,List.length_nil];omega) (by omega) ?_;intro rv2 wh Nh TK lx;rw[<-F9]at TK lx;have kg:Kept (λj=>rv.ownBlock=some j) wg wh:=Kept.grown TK (λ_ h=>h);have hFh:=hFg.kept kg (λh=>by have:=fq _ h;omega);have Ph:=Pg.kept kg (λi h=>by have:=fq _ h;omega);have zh:=kg.size;obtain⟨a5,c5,rfl⟩:=Nh.slice;push_cast -dsimp;refine aC hFh (by simp) rfl ?_;intro wi gu;have hFi:aN wi (w.heap.size+1) 26 [.slice ca cs.length cc,.slice a5 (rs++[(t1.pos,false,ub,vb)]).length c5,.bool true]:=gu.aL;have hOi:=Nh.aH gu.kept (λg hg h=>by have:=(Nh.block g hg).1;omega);have Pi:=Ph.kept gu.kept (λi h=>by omega);have kY:Kept (λi=>i=w.heap.size+1\/rv.ownBlock=some i) wf wi:=((Kept.new (X:=λi=>i=w.heap.size+1\/rv.ownBlock=some i) mJ).trans kg (λi _ h=>.inr h)).trans gu.kept (λi _ h=>.inl h);have ki:=kf.trans kY (X:=(·=pb)) (λi h1 h2=>by
     rcases h2 with h2|h2
     ·omega
     have:=fq _ h2;omega)
    have kv0:Kept (λi=>i=pb\/i=w.heap.size+1\/rv.ownBlock=some i) w' wi:=(kw.weaken (Y:=λi=>i=pb\/i=w.heap.size+1\/rv.ownBlock=some i) (λi _ h=>.inl h)).trans kY (λi _ h=>.inr h);have kv:=Bt.trans kv0 (λi h1 h2=>by
     rcases h2 with h2|h2|h2
     ·exact .inl h2
     ·exact .inr h2
     have:=fq _ h2;omega)
    have zkw:=kw.size;have hVi:dT (mO (λb=>b<V0.heap.size\/(Value.slice a5 (rs++[(t1.pos,false,ub,vb)]).length c5).ownBlock=some b) wi) (rs++[(t1.pos,false,ub,vb)]) (lp++[⟨t1.pos,false,x1,x2⟩]):=by
     refine(hVf.imp λa c h=>h.mono kY (λi h=>?_) (λi h=>?_)).snoc ⟨rfl,rfl,Nk.mono kY (λi h=>?_) (λi h=>?_),Nl.mono kY (λi h=>?_) (λi h=>?_)⟩
     ·rcases h with h|h
      ·exact .inl (.inl (by omega))
      exact .inl (.inr h)
     ·rcases h with h|h
      ·exact .inl (.inl h)
      rcases lx i h with h|h
      ·exact .inl (.inr h)
      exact .inr (by omega)
     ·rcases h with h|h
      ·exact .inl (by omega)
      have:=fq _ h;exact .inl (by omega)
     ·rcases h with h|h
      ·exact .inl (by omega)
      rcases lx i h with h|h
      ·have:=fq _ h;exact .inl (by omega)
      exact .inr (by omega)
     ·rcases h with h|h
      ·exact .inl (by omega)
      have:=fq _ h;exact .inl (by omega)
     rcases h with h|h
     ·exact .inl (by omega)
     rcases lx i h with h|h
     ·have:=fq _ h;exact .inl (by omega)
     exact .inr (by omega)
    have j7:b8 (m-1) (lp++[⟨t1.pos,false,x1,x2⟩]) l8=b8 1000 [] lc:=by rw[sD dK hm bm lq,aJ bI]
    have hPi:=Pi.len;push_cast -dsimp;exact⟨⟨m-1,lp++[⟨t1.pos,false,x1,x2⟩],l8,_,_,j7,by omega,by rw[List.length_append,List.length_singleton];omega,hFi,hOi,hVi,Pi,ki,kv⟩,by rw[hPi,YE];exact hl8⟩
   | false =>
    have bm:ie l1=false:=by rw[iW,iC]
    have Hw:=aEf dK hm bm;have TI:j4 l0=Cae.pb oy (λb=>pr ⟨acc,lp,b⟩) l1:=by
     unfold j4;rw[aJ jF,aJ Hw]
    push_cast -dsimp;refine aA (gZ [101,108,115,101] hP) ?_;rintro _ w3' hT;rcases hT with ⟨Ek,rfl,t3,l3,el3,h53,P3',kt3,Ks⟩|⟨Ek,rfl,r6⟩
    ·have lz:cZ l1=.ok ((),l3):=by rw[el3];exact dq h53
     have YW:oy l1=Cae.pb iA (λb=>Cae.pb (dM [59]) λ_=>pr b) l3:=by
      unfold oy bE;rw[Ek,if_pos rfl,aJ lz]
     have F3':=hF.kept kt3 (by omega);have k3':=hk.trans kt3 (λi _ h=>h);have y3':Kept (λi=>i=pb\/i=w.heap.size+1) w' w3':=kt3.weaken (λi _ h=>.inl h);push_cast -dsimp;refine aA (gZ [98,114,101,97,107] P3') ?_;rintro _ w4' hT;rcases hT with ⟨wD,rfl,t4,l4,SM,h54,P4',kt4,OG⟩|⟨wD,rfl,r6⟩
     ·have aMc:cZ l3=.ok ((),l4):=by rw[SM];exact dq h54
      have qe:iA l3=.ok (true,l4):=by
       unfold iA bE;rw[wD,if_pos rfl,aJ aMc];rfl
      have F4':=F3'.kept kt4 (by omega);push_cast -dsimp;refine aC F4' (by simp) rfl ?_;intro w5 cG;have F5:aN w5 (w.heap.size+1) 26 [.slice ca cs.length cc,rv,.bool true]:=cG.aL;have P5:=P4'.kept cG.kept (λi h=>by omega);have k5:=(k3'.trans kt4 (λi _ h=>h)).trans cG.kept (λi h1 h2=>by omega);have y5:=(y3'.trans kt4 (λi _ h=>.inl h)).trans cG.kept (λi _ h=>.inr h);have d5:w5.cell? ⟨w.heap.size+1,2,none⟩=some (.bool true):=F5.cell rfl;push_cast -dsimp[d5];refine aF (fy [59] P5) ?_ ?_;rotate_left;·
       rintro ce we ⟨e,pos,he,ht,eD⟩
       push_cast -dsimp
       refine⟨e,pos,?_,ht.mono (by have:=k5.size;omega),k5.trans eD (λi _ h=>h)⟩
       rw[TI]
       refine cL ?_
       rw[YW]
       rw[aJ qe];exact cL he
      rintro _ w6 ⟨_,l5,e5,rfl,Px,ti⟩;have hFx:=F5.kept ti (by omega);have kx:=k5.trans ti (λi _ h=>h);have ky:=y5.trans ti (λi _ h=>.inl h);have K5:j4 l0=.ok (⟨acc,lp,true⟩,l5):=by rw[TI,aJ (show oy l1=.ok (true,l5) by rw[YW,aJ qe,aJ e5];rfl)];rfl
      push_cast -dsimp;have kvx:=Bt.trans ky (λi _ h=>h);have vh:=hR.kept kvx (by omega);have d3:aB w6 ⟨w.heap.size+1,0,none⟩ 0 3=some [.slice ca cs.length cc,rv,.bool true]:=hFx.aB;rw[F9]at d3;push_cast -dsimp[d3];refine aI (xt:=26) (n:=3) (by kernel_rfl) vh rfl (by decide) (by simp;exact⟨rfl,rfl,rfl⟩) ?_;intro wz CJ;have hRz:aN wz w.heap.size 26 [.slice ca cs.length cc,.slice ra rs.length rc,.bool true]:=CJ.aL;have dz:aB wz ⟨w.heap.size,0,none⟩ 0 3=some [.slice ca cs.length cc,.slice ra rs.length rc,.bool true]:=hRz.aB;have Pz:=Px.kept CJ.kept (λi h=>by omega);have kz:=kx.trans CJ.kept (X:=(·=pb)) (λi h1 h2=>by omega);have kvz:Kept (λi=>i<w.heap.size+2) V0 wz:=(kvx.weaken (Y:=λi=>i<w.heap.size+2) (λi _ h=>by omega)).trans CJ.kept (λi _ h=>by omega);have kyz:Kept (λi=>i<w.heap.size+2) w' wz:=(ky.weaken (Y:=λi=>i<w.heap.size+2) (λi _ h=>by omega)).trans CJ.kept (λi _ h=>by omega);have s1:Sl (·<w.heap.size) 3 (En Bf) wz (.slice ca cs.length cc) cs:=by
       have hh:=(AN.aH kvz (λg hg h=>by have:=(AN.block g hg).1;omega)).sl;rw[aHe]at hh;exact hh.weaken (λi h=>by omega)
      have s2:Sl (·<w.heap.size) 4 (En jD) wz (.slice ra rs.length rc) rs:=by
       have hh:=(hO.aH kyz (λg hg h=>by have:=(hO.block g hg).1;omega)).sl;rw[F9]at hh;exact hh.weaken (λi h=>by omega)
      have a1:dT (vE (·<w.heap.size) wz) cs acc:=hVc.imp λa c h=>h.mono kvz (λi h=>.inl h) (λi h=>.inl (by omega));have a2:dT (mO (·<w.heap.size) wz) rs lp:=hV.imp λa c h=>h.mono kyz (λi h=>.inl (by omega)) (λi h=>.inl (by omega));push_cast -dsimp[dz];exact⟨_,_,K5,⟨_,_,cs,rs,rfl,s1,s2,a1,a2⟩,Pz,kz⟩
     obtain rfl:w3'=w4':=r6.symm;push_cast -dsimp;refine aC F3' (by simp) rfl ?_;intro wu Mm;have Fu:aN wu (w.heap.size+1) 26 [.slice ca cs.length cc,rv,.bool false]:=Mm.aL;have Pu:=P3'.kept Mm.kept (λi h=>by omega);have ku:=k3'.trans Mm.kept (λi h1 h2=>by omega);have yu:=y3'.trans Mm.kept (λi _ h=>.inr h);have du:wu.cell? ⟨w.heap.size+1,2,none⟩=some (.bool false):=Fu.cell rfl;have Kq:iA l3=Cae.pb (dM [107,101,101,112]) (λ_=>pr false) l3:=by
      unfold iA bE;rw[wD];rfl
     push_cast -dsimp[du];refine aF (fy [107,101,101,112] Pu) ?_ ?_;rotate_left;·
      rintro ce we ⟨e,pos,he,ht,eD⟩
      push_cast -dsimp
      refine⟨e,pos,?_,ht.mono (by have:=ku.size;omega),ku.trans eD (λi _ h=>h)⟩
      rw[TI]
      refine cL ?_
      rw[YW]
      refine cL ?_;rw[Kq];exact cL he
     rintro _ w5 ⟨_,l4,e4,rfl,P5,kt5⟩;have qe:iA l3=.ok (false,l4):=by rw[Kq,aJ e4];rfl
     have F5:=Fu.kept kt5 (by omega);have k5:=ku.trans kt5 (λi _ h=>h);have y5:=yu.trans kt5 (λi _ h=>.inl h);push_cast -dsimp;refine aF (fy [59] P5) ?_ ?_;rotate_left;·
      rintro ce we ⟨e,pos,he,ht,eD⟩
      push_cast -dsimp
      refine⟨e,pos,?_,ht.mono (by have:=k5.size;omega),k5.trans eD (λi _ h=>h)⟩
      rw[TI]
      refine cL ?_
      rw[YW]
      rw[aJ qe];exact cL he
     rintro _ w6 ⟨_,l5,e5,rfl,Px,ti⟩;have hFx:=F5.kept ti (by omega);have kx:=k5.trans ti (λi _ h=>h);have ky:=y5.trans ti (λi _ h=>.inl h);have K5:j4 l0=.ok (⟨acc,lp,false⟩,l5):=by rw[TI,aJ (show oy l1=.ok (false,l5) by rw[YW,aJ qe,aJ e5];rfl)];rfl
     push_cast -dsimp;have kvx:=Bt.trans ky (λi _ h=>h);have vh:=hR.kept kvx (by omega);have d3:aB w6 ⟨w.heap.size+1,0,none⟩ 0 3=some [.slice ca cs.length cc,rv,.bool false]:=hFx.aB;rw[F9]at d3;push_cast -dsimp[d3];refine aI (xt:=26) (n:=3) (by kernel_rfl) vh rfl (by decide) (by simp;exact⟨rfl,rfl,rfl⟩) ?_;intro wz CJ;have hRz:aN wz w.heap.size 26 [.slice ca cs.length cc,.slice ra rs.length rc,.bool false]:=CJ.aL;have dz:aB wz ⟨w.heap.size,0,none⟩ 0 3=some [.slice ca cs.length cc,.slice ra rs.length rc,.bool false]:=hRz.aB;have Pz:=Px.kept CJ.kept (λi h=>by omega);have kz:=kx.trans CJ.kept (X:=(·=pb)) (λi h1 h2=>by omega);have kvz:Kept (λi=>i<w.heap.size+2) V0 wz:=(kvx.weaken (Y:=λi=>i<w.heap.size+2) (λi _ h=>by omega)).trans CJ.kept (λi _ h=>by omega);have kyz:Kept (λi=>i<w.heap.size+2) w' wz:=(ky.weaken (Y:=λi=>i<w.heap.size+2) (λi _ h=>by omega)).trans CJ.kept (λi _ h=>by omega);have s1:Sl (·<w.heap.size) 3 (En Bf) wz (.slice ca cs.length cc) cs:=by
      have hh:=(AN.aH kvz (λg hg h=>by have:=(AN.block g hg).1;omega)).sl;rw[aHe]at hh;exact hh.weaken (λi h=>by omega)
     have s2:Sl (·<w.heap.size) 4 (En jD) wz (.slice ra rs.length rc) rs:=by
      have hh:=(hO.aH kyz (λg hg h=>by have:=(hO.block g hg).1;omega)).sl;rw[F9]at hh;exact hh.weaken (λi h=>by omega)
     have a1:dT (vE (·<w.heap.size) wz) cs acc:=hVc.imp λa c h=>h.mono kvz (λi h=>.inl h) (λi h=>.inl (by omega));have a2:dT (mO (·<w.heap.size) wz) rs lp:=hV.imp λa c h=>h.mono kyz (λi h=>.inl (by omega)) (λi h=>.inl (by omega));push_cast -dsimp[dz];exact⟨_,_,K5,⟨_,_,cs,rs,rfl,s1,s2,a1,a2⟩,Pz,kz⟩
    obtain rfl:w'=w3':=r6.symm;have hFx:=hF;have Px:=hP;have kx:=hk;have ky:Kept (λi=>i=pb\/i=w.heap.size+1) w' w':=Kept.refl _ _;have K5:j4 l0=.ok (⟨acc,lp,true⟩,l1):=by
     rw[TI,aJ (show oy l1=.ok (true,l1) by unfold oy bE;rw[Ek];rfl)]
     rfl
    push_cast -dsimp;have kvx:=Bt.trans ky (λi _ h=>h);have vh:=hR.kept kvx (by omega);have d3:aB w' ⟨w.heap.size+1,0,none⟩ 0 3=some [.slice ca cs.length cc,rv,.bool true]:=hFx.aB;rw[F9]at d3;push_cast -dsimp[d3];refine aI (xt:=26) (n:=3) (by kernel_rfl) vh rfl (by decide) (by simp;exact⟨rfl,rfl,rfl⟩) ?_;intro wz CJ;have hRz:aN wz w.heap.size 26 [.slice ca cs.length cc,.slice ra rs.length rc,.bool true]:=CJ.aL;have dz:aB wz ⟨w.heap.size,0,none⟩ 0 3=some [.slice ca cs.length cc,.slice ra rs.length rc,.bool true]:=hRz.aB;have Pz:=Px.kept CJ.kept (λi h=>by omega);have kz:=kx.trans CJ.kept (X:=(·=pb)) (λi h1 h2=>by omega);have kvz:Kept (λi=>i<w.heap.size+2) V0 wz:=(kvx.weaken (Y:=λi=>i<w.heap.size+2) (λi _ h=>by omega)).trans CJ.kept (λi _ h=>by omega);have kyz:Kept (λi=>i<w.heap.size+2) w' wz:=(ky.weaken (Y:=λi=>i<w.heap.size+2) (λi _ h=>by omega)).trans CJ.kept (λi _ h=>by omega);have s1:Sl (·<w.heap.size) 3 (En Bf) wz (.slice ca cs.length cc) cs:=by
     have hh:=(AN.aH kvz (λg hg h=>by have:=(AN.block g hg).1;omega)).sl;rw[aHe]at hh;exact hh.weaken (λi h=>by omega)
    have s2:Sl (·<w.heap.size) 4 (En jD) wz (.slice ra rs.length rc) rs:=by
     have hh:=(hO.aH kyz (λg hg h=>by have:=(hO.block g hg).1;omega)).sl;rw[F9]at hh;exact hh.weaken (λi h=>by omega)
    have a1:dT (vE (·<w.heap.size) wz) cs acc:=hVc.imp λa c h=>h.mono kvz (λi h=>.inl h) (λi h=>.inl (by omega));have a2:dT (mO (·<w.heap.size) wz) rs lp:=hV.imp λa c h=>h.mono kyz (λi h=>.inl (by omega)) (λi h=>.inl (by omega));push_cast -dsimp[dz];exact⟨_,_,K5,⟨_,_,cs,rs,rfl,s1,s2,a1,a2⟩,Pz,kz⟩
end Go.Proofs.YtemjejfpadnljaaGreatDoor
namespace Cae
theorem GL (f:UInt8->Bool)(c:UInt8)(r:List UInt8):kr f (c::r)=if f c then kr f r+1 else 0:=by
 unfold kr;rw[List.takeWhile_cons];split<;>rfl
theorem Im:∀(f:UInt8->Bool) (s:List UInt8) (n:Nat),n<=s.length->(∀i,i<n->f (s.getD i 0)=true)->(n=s.length\/f (s.getD n 0)=false)->kr f s=n
 | f,[],n,h,_,_=>by
  have:n=0:=by simpa using h
  subst this;rfl
 | f,c::r,0,_,_,h=>by
  rw[GL];rcases h with h|h
  ·simp at h
  have:f c=false:=h;rw[this];rfl
 | f,c::r,n+1,h,ha,hb=>by
  rw[GL,if_pos (show f c=true from ha 0 (by omega)),Im f r n (by simpa using h) (λi hi=>ha (i+1) (by omega)) (hb.imp (λe=>by simpa using e) (λe=>e))]
theorem aHZ {s:List UInt8}{c:UInt8}:Go.Lib.indexByte s c+1=if s.contains c then ((kr (· != c) s+1:Nat):Int) else 0:=by
 rw[wF];split<;>simp[kr]
theorem aIR {i:Nat}{s:List UInt8}{l:List Tok}(h:Tk i s l):∀t∈l,t.kind=2->t.text≠[]/\∀c∈t.text,e9 c=true:=by
 induction h with
 | nil i=>simp
 | blank _ _ ih=>exact ih
 | note _ _ _ ih=>exact ih
 | @tok i c r l h1 h2 h3 hl ih =>
  intro t ht hk;rcases List.mem_cons.1 ht with rfl|ht
  ·rw[qN]at hk h3;simp only[qN];by_cases a1:jv c=true
   ·rw[if_pos a1]at hk;cases hk
   rw[if_neg a1]at hk h3 ⊢
   by_cases a2:e9 c=true
   ·rw[if_pos a2]at h3 ⊢
    have e:(c::r).take (kr e9 (c::r))=(c::r).takeWhile e9:=Au e9 (c::r)
    show (c::r).take (kr e9 (c::r))≠[]/\_
    rw[e];refine⟨λhh=>?_,λx hx=>?_⟩
    ·rw[List.takeWhile_cons,if_pos a2]at hh;cases hh
    exact List.all_eq_true.1 (List.all_takeWhile (p:=e9) (l:=c::r)) x hx
   rw[if_neg a2]at hk;split at hk
   ·cases hk
   split at hk<;>cases hk
  exact ih t ht hk
end Cae
namespace Go.Proofs.YtemjejfpadnljaaGreatDoor
open Go.Vc Go.Proofs Go.RowKit Cae
attribute [local irreducible] dN ae ak aY runK aw Sl Vc.Own vc aV cJ a7
theorem LB (c:UInt8)(w:World):aw Tryz.prog 103 [.int .u8 c.toNat] w λr w'=>r=.bool (jv c)/\w'=w:=by
 have h:jv c=(decide (97<=c.toNat) && decide (c.toNat<=122)):=rfl;refine aD Tryz.func103 rfl (by kernel_rfl) [2] rfl ?_;push_cast -dsimp(maxSteps:=9^7) [Tryz.ntmps103];refine⟨λh1=>?_,λh1=>?_⟩
 ·rw[h,decide_eq_true (show 97<=c.toNat by omega),Bool.true_and]
  congr 1;exact decide_eq_decide.2 (by omega)
 rw[h,decide_eq_false (show ¬97<=c.toNat by omega)];rfl
theorem Gp (c:UInt8)(w:World):aw Tryz.prog 105 [.int .u8 c.toNat] w λr w'=>r=.bool (e9 c)/\w'=w:=by
 have h:e9 c=(decide (48<=c.toNat) && decide (c.toNat<=57)):=rfl;refine aD Tryz.func105 rfl (by kernel_rfl) [2] rfl ?_;push_cast -dsimp(maxSteps:=9^7) [Tryz.ntmps105];refine⟨λh1=>?_,λh1=>?_⟩
 ·rw[h,decide_eq_true (show 48<=c.toNat by omega),Bool.true_and]
  congr 1;exact decide_eq_decide.2 (by omega)
 rw[h,decide_eq_false (show ¬48<=c.toNat by omega)];rfl
theorem ZK (c:UInt8)(w:World):aw Tryz.prog 104 [.int .u8 c.toNat] w λr w'=>r=.bool (jv c || e9 c)/\w'=w:=by
 refine aD Tryz.func104 rfl (by kernel_rfl) [2] rfl ?_;push_cast -dsimp(maxSteps:=9^7) [Tryz.ntmps104];refine aA (LB c w) ?_;rintro _ _ ⟨rfl,rfl⟩;cases jv c with
 | true =>
  push_cast -dsimp;rfl
 | false =>
  push_cast -dsimp;refine aA (Gp c _) ?_;rintro _ _ ⟨rfl,rfl⟩;push_cast -dsimp
theorem Z7 (c:UInt8)(w:World):aw Tryz.prog 64 [.int .u8 c.toNat] w λr w'=>r=.bool (c != 10)/\w'=w:=by
 refine aD Tryz.func64 rfl (by kernel_rfl) [2] rfl ?_;push_cast -dsimp(maxSteps:=9^7) [Tryz.ntmps64];congr 1;rw[bne,G2];have:(((c.toNat:Nat):Int)=10)↔c=10:=by
  constructor
  ·intro h;exact UInt8.toNat_inj.1 (by show c.toNat=10;omega)
  rintro rfl;rfl
 by_cases h:c=10
 ·rw[decide_eq_true h,decide_eq_false (show ¬((c.toNat:Nat):Int)≠10 from λhh=>hh (this.2 h))];rfl
 rw[decide_eq_false h,decide_eq_true (show ((c.toNat:Nat):Int)≠10 from λhh=>h (this.1 hh))];rfl
def CM:Go.Shelf.Ren:=⟨λ| 217=>119|266=>144|n=>n,λ| 9=>9|5=>5|3=>3|n=>n,λ| n=>n⟩
theorem OJ:Go.Proofs.Lays.n217 Tryz.prog CM:={
 mixed:=by kernel_rfl
 f217:=Tryz.func119.trans (congrArg some (by kernel_rfl))
 f266:=Tryz.func144.trans (congrArg some (by kernel_rfl))
 t3:=Tryz.underlying3
 a3:=Tryz.isAgg3
 z3:=Tryz.sizeOf3
 v3:=Tryz.zeroValue3
 t5:=Tryz.underlying5
 a5:=Tryz.isAgg5
 z5:=Tryz.sizeOf5
 v5:=Tryz.zeroValue5
 t9:=Tryz.underlying9
 a9:=Tryz.isAgg9
 z9:=Tryz.sizeOf9
 v9:=Tryz.zeroValue9 }
theorem IG (s:List UInt8)(c:UInt8)(w:World):aw Tryz.prog 119 [str s,.int .u8 c.toNat] w λr w'=>r=.int .i64 (Lib.indexByte s c)/\w'=w:=by
 refine dB Tryz.func119 (by kernel_rfl) (by kernel_rfl) ?_;refine Calls.mono (Any.stringslite_IndexByte OJ ⟨s.toArray⟩ c.toNat w) ?_;rintro e w' ⟨rfl,rfl⟩;exact⟨_,rfl,by simp,rfl⟩
theorem zB (s:List UInt8)(c:UInt8)(w:World):aw Tryz.prog 82 [str s,.int .u8 c.toNat] w λr w'=>r=.int .i64 (Lib.indexByte s c)/\w'=w:=by
 refine aD Tryz.func82 rfl (by kernel_rfl) [4] rfl ?_;push_cast -dsimp(maxSteps:=9^7) [Tryz.ntmps82];refine aA (IG s c w) ?_;rintro _ _ ⟨rfl,rfl⟩;push_cast -dsimp
theorem aAy (f:FuncId)(g:UInt8->Bool)(hf:∀(c:UInt8) (w:World),aw Tryz.prog f [.int .u8 c.toNat] w λr w'=>r=.bool (g c)/\w'=w)(s:List UInt8)(hs:s.length<=1000000000)(w:World) :
  aw Tryz.prog 63 [str s,.func (.func f) #[] #[]] w λr w'=>r=.int .i64 (kr g s:Nat)/\w'=w:=by
 refine aD Tryz.func63 rfl (by kernel_rfl) [4] rfl ?_;push_cast -dsimp(maxSteps:=9^7) [Tryz.ntmps63];refine aK [5,6,7,8,9,10,11,12,13,14,15,16,17,18] (λz w'=>∃n:Nat,z 5=.int .i64 n/\n<=s.length/\(∀i,i<n->g (s.getD i 0)=true)/\w'=w) (λz w'=>s.length-(intOf (z 5)).toNat) ?_ ?_
 ·exact⟨0,rfl,Nat.zero_le _,λi hi=>by omega,rfl⟩
 rintro z w' ⟨n,hz,hn,cg,rfl⟩;have hint:(intOf (z 5)).toNat=n:=by rw[hz];simp[intOf]
 push_cast -dsimp[hz];refine⟨λaq=>⟨⟨by omega,by omega⟩,?_⟩,λeo=>?_⟩
 ·refine aA (hf (s.getD n 0) w') ?_;rintro _ _ ⟨rfl,rfl⟩;cases hg:g (s.getD n 0) with
  | true =>
   push_cast -dsimp[hz];refine⟨⟨by omega,by omega⟩,⟨n+1,rfl,by omega,λi hi=>?_⟩,?_⟩
   ·by_cases h:i<n
    ·exact cg i h
    rw[show i=n by omega];exact hg
   simp only[intOf];omega
  | false =>
   push_cast -dsimp[hz];rw[Im g s n hn cg (.inr hg)]
 rw[Im g s n hn cg (.inl (by omega))]
theorem aIr (c:UInt8)(r:List UInt8)(hs:(c::r).length<=1000000000)(w:World):aw Tryz.prog 65 [str (c::r)] w λv w'=>v=.tuple #[.int .i64 ((iM (c::r)).1:Nat),.int .i64 ((iM (c::r)).2:Nat)]/\w'=w:=by
 have hn:=qN c r;refine aD Tryz.func65 rfl (by kernel_rfl) [2,3] rfl ?_;push_cast -dsimp(maxSteps:=9^7) [Tryz.ntmps65];have e0:((c::r).getD 0 0)=c:=rfl;refine⟨by omega,?_⟩;refine aA (LB c w) ?_;rintro _ _ ⟨rfl,rfl⟩;cases h1:jv c with
 | true =>
  rw[h1,if_pos rfl]at hn;push_cast -dsimp;refine aA (aAy _ (λc=>jv c || e9 c) ZK (c::r) hs _) ?_;rintro _ _ ⟨rfl,rfl⟩;push_cast -dsimp;rw[hn];rfl
 | false =>
  rw[h1,if_neg (by decide)]at hn;push_cast -dsimp;refine aA (Gp c _) ?_;rintro _ _ ⟨rfl,rfl⟩;cases h2:e9 c with
  | true =>
   rw[h2,if_pos rfl]at hn;push_cast -dsimp;refine aA (aAy _ e9 Gp (c::r) hs _) ?_;rintro _ _ ⟨rfl,rfl⟩;push_cast -dsimp;rw[hn];rfl
  | false =>
   rw[h2,if_neg (by decide)]at hn;have h91:(((c.toNat:Nat):Int)=91)↔c=91:=by
    constructor
    ·intro h;exact UInt8.toNat_inj.1 (by show c.toNat=91;omega)
    rintro rfl;rfl
   push_cast -dsimp;refine⟨λh3=>?_,λh3=>?_⟩
   ·rw[if_pos (h91.1 h3)]at hn;refine aA (zB (c::r) 93 _) ?_;rintro _ _ ⟨rfl,rfl⟩;have hr:=xM (· != 93) (c::r);have hib:Lib.indexByte (c::r) 93+1=(((iM (c::r)).2:Nat):Int):=by
     rw[aHZ,hn];split<;>rfl
    push_cast -dsimp;refine⟨?_,?_⟩
    ·rw[hib];have:=xA c r;omega
    rw[hib,hn];rfl
   rw[if_neg (λh=>h3 (h91.2 h))]at hn;refine aA (zB LI c _) ?_;rintro _ _ ⟨rfl,rfl⟩;have hib:(0<=Lib.indexByte LI c)↔LI.contains c=true:=by
    rw[wF];split
    ·rename_i h;exact⟨λ_=>h,λ_=>by omega⟩
    rename_i h;exact⟨λhh=>by omega,λhh=>absurd hh h⟩
   push_cast -dsimp;refine⟨λh=>?_,λh=>?_⟩
   ·rw[if_pos (hib.1 h)]at hn;rw[hn];rfl
   rw[if_neg (λhh=>h (hib.2 hh))]at hn;rw[hn];rfl
theorem Bg (t:Tok):∀u∈jn t,u.oneCell'=true:=by
 intro u hu;simp[jn]at hu;rcases hu with rfl|rfl|rfl<;>rfl
def aOb (w:World)(s:List UInt8)(r:Value)(w':World):Prop :=
 (∃l v,VA s=.ok l/\r=.tuple #[v,.nilIface]/\Go.Vc.Own w.heap.size 107 3 jn w' v l) \/
 (∃e pos b,VA s=.error (e,pos)/\r=.tuple #[.slice none 0 0,.iface 141 (.pointer (some ⟨b,0,none⟩))]/\w.heap.size<=b/\aN w' b 143 [.int .i64 e,.int .i64 pos])
theorem aA0 (s:List UInt8)(hs:s.length<=1000000)(w:World):aw Tryz.prog 42 [str s] w λr w'=>aOb w s r w'/\Below w.heap.size w w':=by
 refine aD Tryz.func42 rfl (by kernel_rfl) [2,3] rfl ?_;push_cast -dsimp(maxSteps:=9^7) [Tryz.ntmps42];refine aK [2,3,4,5,6,7,8,9,10,11,12,13,14,15,16,17,18,19,20,21,22,23,24,25,26,27,28,29,30,31,32,33,34,35,36,37,38,39,40,41,42,43,44,45,46,47,48,49,50,51,52,53,54,55,56,57,58,59,60,61,62,63,64] (λz w'=>∃(m i:Nat) (acc:List Tok) (v:Value),z 5=.int .i64 i/\z 4=v/\i<=s.length/\(s.drop i).length<m/\acc.length<=500/\mc m i (s.drop i) acc=VA s/\Go.Vc.Own w.heap.size 107 3 jn w' v acc/\Below w.heap.size w w') (λz w'=>s.length-(intOf (z 5)).toNat) ?_ ?_
 ·exact⟨s.length+1,0,[],_,rfl,rfl,Nat.zero_le _,by simp,by simp,rfl,Vc.Own.nil (enc:=jn) _ _ (λ_=>rfl) _,Below.refl _ _⟩
 rintro z w' ⟨m,i,acc,v,JY,OG,hi,hm,KX,dK,hO,hb⟩;obtain⟨m',rfl⟩:∃m',m=m'+1:=⟨m-1,by omega⟩;have hzb:=hb.size;obtain⟨va,vc,rfl⟩:=hO.slice;have hdl:(s.drop i).length=s.length-i:=List.length_drop;push_cast -dsimp[JY];refine⟨λaq=>?_,λeo=>?_⟩
 ·obtain⟨c,r,JP⟩:∃c r,s.drop i=c::r:=by
   cases hd:s.drop i with
   | nil=>rw[hd]at hdl;simp at hdl;omega
   | cons c r=>exact⟨c,r,rfl⟩
  have AR:s.getD i 0=c:=by
   have:(s.drop i).getD 0 0=c:=by rw[JP];rfl
   rw[<-this];simp[List.getD_eq_getElem?_getD]
  rw[JP]at dK hm hdl;have Hw:r.length+1=s.length-i:=by simpa using hdl
  have dW:=dK;rw[mc]at dW;have aLv:(((c.toNat:Nat):Int)=32)↔c=32:=⟨λh=>UInt8.toNat_inj.1 (by show c.toNat=32;omega),λh=>by subst h;rfl⟩
  have aLu:(((c.toNat:Nat):Int)=10)↔c=10:=⟨λh=>UInt8.toNat_inj.1 (by show c.toNat=10;omega),λh=>by subst h;rfl⟩
  have aG8:(((c.toNat:Nat):Int)=35)↔c=35:=⟨λh=>UInt8.toNat_inj.1 (by show c.toNat=35;omega),λh=>by subst h;rfl⟩
  have hdr:∀k,s.drop (i+k)=(c::r).drop k:=λk=>by rw[<-JP,List.drop_drop]
  by_cases h32:((c.toNat:Nat):Int)=32
  ·rw[if_pos (.inl (aLv.1 h32))]at dW;push_cast -dsimp[JY,AR,h32];refine⟨⟨by omega,by omega⟩,⟨by omega,by omega⟩,⟨m',i+1,acc,_,rfl,OG,by omega,by rw[hdr 1];simp;omega,KX,by rw[hdr 1];exact dW,hO,hb⟩,by simp only[intOf];omega⟩
  by_cases uH:((c.toNat:Nat):Int)=10
  ·rw[if_pos (.inr (aLu.1 uH))]at dW;push_cast -dsimp[JY,AR,h32,uH];refine⟨⟨by omega,by omega⟩,⟨by omega,by omega⟩,⟨m',i+1,acc,_,rfl,OG,by omega,by rw[hdr 1];simp;omega,KX,by rw[hdr 1];exact dW,hO,hb⟩,by simp only[intOf];omega⟩
  rw[if_neg (λh=>h.elim (λh=>h32 (aLv.2 h)) (λh=>uH (aLu.2 h)))]at dW;by_cases h35:((c.toNat:Nat):Int)=35
  ·rw[if_pos (aG8.1 h35)]at dW;have hr:=aAy _ (· != 10) Z7 (c::r) (by rw[List.length_cons];omega) w';rw[<-JP]at hr;have hle:=xM (· != 10) (c::r);have qB:0<kr (· != 10) (c::r):=aAx (by rw[aG8.1 h35];decide);rw[List.length_cons]at hle;push_cast -dsimp[JY,AR,h32,uH,h35];refine⟨⟨by omega,by omega⟩,⟨by omega,by omega⟩,?_⟩;refine aA hr ?_;rintro _ wq ⟨rfl,OF⟩;obtain rfl:w'=wq:=OF.symm;rw[JP];push_cast -dsimp[JY];refine⟨⟨by omega,by omega⟩,⟨m',i+kr (· != 10) (c::r),acc,_,by first|(push_cast;done)|(push_cast;rfl),OG,by omega,by rw[hdr];simp;omega,KX,by rw[hdr];exact dW,hO,hb⟩,by simp only[intOf];omega⟩
  rw[if_neg (λh=>h35 (aG8.2 h))]at dW;have hr:=aIr c r (by rw[List.length_cons];omega) w';rw[<-JP]at hr;have hle:=xA c r;rw[List.length_cons]at hle;push_cast -dsimp[JY,AR,h32,uH,h35];refine⟨⟨by omega,by omega⟩,⟨by omega,by omega⟩,?_⟩;refine aA hr ?_;rintro _ wq ⟨rfl,OF⟩;obtain rfl:w'=wq:=OF.symm;rw[JP];have hkn:∃k n,iM (c::r)=(k,n):=⟨_,_,rfl⟩;obtain⟨k,n,hkn⟩:=hkn;rw[hkn]at hle dW ⊢
  dsimp only at hle dW ⊢
  push_cast -dsimp[JY];refine⟨λh0=>?_,λh0=>?_⟩;·
   refine aS ?_
   intro w4 aj
   have B4:aN w4 w'.heap.size 143 [.int .i64 (3:Nat),.int .i64 i]:=aj.aL
   have b4:=hb.trans (aj.below.mono hzb)
   push_cast -dsimp
   exact⟨.inr ⟨3,i,_,by rw[<-dW,if_pos (show n=0 by omega)],rfl,hzb,B4⟩,b4⟩
  rw[if_neg (by omega)]at dW;push_cast -dsimp[OG];refine⟨λaOu=>?_,λaOu=>?_⟩;·
   refine aS ?_
   intro w4 aj
   have B4:aN w4 w'.heap.size 143 [.int .i64 (4:Nat),.int .i64 i]:=aj.aL
   have b4:=hb.trans (aj.below.mono hzb)
   push_cast -dsimp
   exact⟨.inr ⟨4,i,_,by rw[<-dW,if_pos (show acc.length=500 by omega)],rfl,hzb,B4⟩,b4⟩
  rw[if_neg (by omega)]at dW;refine⟨⟨by omega,by omega⟩,⟨by omega,by omega,by omega⟩,?_⟩;have aRc:(s.take (i+n)).drop i=(c::r).take n:=by rw[List.drop_take,JP];congr 1;omega
  have wC:fX [(0,Value.agg #[.int .i64 k,str ((s.take ((i:Int)+n).toNat).drop i),.int .i64 i])]=[(⟨k,(c::r).take n,i⟩:Tok)].flatMap jn:=by
   rw[show ((i:Int)+n).toNat=i+n by omega,aRc]
   rfl
  refine cF Gu rfl rfl (by omega) ?_;rw[wC];intro w4 aj;have xw:=hO.new aj;have z4':=aj.size;have b4:=hb.trans (aj.below.mono hzb);push_cast -dsimp;refine aP (base:=w.heap.size) [⟨k,(c::r).take n,i⟩] (enc:=jn) Gu xw (by rfl) (λj y hy=>by rw[Nat.zero_add];exact aj.cell hy) Bg (by simp only[List.length_cons,List.length_nil];omega) (by omega) ?_;intro v5 w5 kF tM yr;have b5:=b4.trans ((Kept.grown tM (X:=λj=>(Value.slice va acc.length vc).ownBlock=some j) (λ_ h=>h)).below (B:=w.heap.size) (by omega) (λi h=>(xw.block i h).1));push_cast -dsimp[JY];refine⟨⟨by omega,by omega⟩,⟨m',i+n,acc++[⟨k,(c::r).take n,i⟩],v5,by first|(push_cast;done)|(push_cast;rfl),rfl,by omega,by rw[hdr];simp;omega,by rw[List.length_append,List.length_singleton];omega,by rw[hdr];exact dW,kF,b5⟩,by simp only[intOf];omega⟩
 have wC:fX [(0,Value.agg #[.int .i64 5,str [],.int .i64 s.length])]=[(⟨5,[],s.length⟩:Tok)].flatMap jn:=rfl;refine cF Gu rfl rfl (by omega) ?_;rw[wC];intro w4 aj;have xw:=hO.new aj;have z4':=aj.size;have b4:=hb.trans (aj.below.mono hzb);have Hp:s.drop i=[]:=List.drop_eq_nil_iff.2 (by omega);have bI:VA s=.ok (acc++[⟨5,[],s.length⟩]):=by
  rw[<-dK,Hp,mc,show i=s.length by omega]
 push_cast -dsimp[OG];refine aP (base:=w.heap.size) [⟨5,[],s.length⟩] (enc:=jn) Gu xw (by rfl) (λj y hy=>by rw[Nat.zero_add];exact aj.cell hy) Bg (by simp only[List.length_cons,List.length_nil];omega) (by omega) ?_;intro v5 w5 kF tM yr;have b5:=b4.trans ((Kept.grown tM (X:=λj=>(Value.slice va acc.length vc).ownBlock=some j) (λ_ h=>h)).below (B:=w.heap.size) (by omega) (λi h=>(xw.block i h).1));push_cast -dsimp;exact⟨.inl ⟨_,v5,bI,rfl,kF⟩,b5⟩
end Go.Proofs.YtemjejfpadnljaaGreatDoor
namespace Go.Vc
open Go.RowKit
section
variable {P:Program} {ds:List Deferred}
theorem Ez {t:Fr}{dst:Option Tmp}{C:World->Prop}{K:VK}{N:Act->World->Prop}(hn:∀v w',K v w'->N ⟨(put t dst v).toArray,ds⟩ w'){r:Result Next}(h:tR P t (λv w'=>C w'/\K v w') LX r):tQ P ⟨t.toArray,ds⟩ dst C N r:=by
 cases r with
 | halt x w'=>cases x<;>simp only[tR,LX]at h
 | ok n w' =>
  cases n<;>simp only[tR]at h<;>simp only[tQ]
  case value v=>exact⟨h.1,by rw[iZ];exact hn _ _ h.2⟩
  case skip=>exact⟨h.1,by rw[iZ];exact hn _ _ h.2⟩
  case enter f args =>
   refine h.mono λe bQ he=>?_;cases e with
   | returned v=>exact⟨v,rfl,he.1,by rw[iZ];exact hn _ _ he.2⟩
   | panicked c=>exact he.elim
   | outgrown=>exact he.elim
theorem rj {ops:List Oper}{i:Nat}{o:Oper}{C:World->Prop}{t:Fr}{w:World}{K:VK}{N:Act->World->Prop}(hi:ops[i]?=some o)(hw:Region.wanted o (yielded ops.toArray t.toArray)=true)
  (hn:∀v w',K v w'->N ⟨(put t o.dst v).toArray,ds⟩ w') (h:eG P o t w C K .mk):bH P ops.toArray C i N ⟨t.toArray,ds⟩ w:=by
 unfold bH;simp only[List.getElem?_toArray,hi,hw,if_true,ny];unfold eG at h;split at h
 ·rename_i ty x ho;have hc:chain P o=false:=by simp[chain,ho]
  simp only[hc,Bool.false_eq_true,if_false];obtain⟨v,hr,cg,hk⟩:=pK ho h;refine⟨v,λw' vD=>?_,by rw[iZ];exact hn _ _ hk⟩;obtain⟨u,hu,hv⟩:=pK ho (cg w' vD);rw[hu,hv]
 ·rename_i x ho;have hc:chain P o=false:=by simp[chain,ho]
  simp only[hc,Bool.false_eq_true,if_false];unfold LW at h;split at h
  ·rename_i a hx;refine⟨_,λw' _=>?_,by rw[iZ];exact hn _ _ h⟩;unfold execOp;simp only[ho,hx];rfl
  exact h.elim
 split at h
 ·rename_i hc;simp only[hc,if_true];exact Ez hn (I5 h)
 rename_i hc;simp only[hc];rcases sA h with h|⟨v,hg,hk⟩
 ·exact h.elim
 exact⟨v,λw' _=>hg w',by rw[iZ];exact hn _ _ hk⟩
theorem LP {ops:List Oper}{i:Nat}{o:Oper}{C:World->Prop}{t:Fr}{w:World}{N:Act->World->Prop}(hi:ops[i]?=some o)(hw:Region.wanted o (yielded ops.toArray t.toArray)=false)
  (h:N ⟨(put t o.dst undef).toArray,ds⟩ w):bH P ops.toArray C i N ⟨t.toArray,ds⟩ w:=by
 unfold bH;simp only[List.getElem?_toArray,hi,hw,Bool.false_eq_true,if_false];rw[iZ];exact h
theorem qj {ops:List Oper}{C:World->Prop}{R:Fr->World->Prop}{N:Act->World->Prop}(hn:∀t w,R t w->N ⟨t.toArray,ds⟩ w):∀(l:List Oper) (k:Nat) (t:Fr) (w:World),(∀j,l[j]?=ops[k+j]?) ->
  nY P ops C R l t w .mk->Dh P ops.toArray C N (List.range' k l.length) ⟨t.toArray,ds⟩ w
 | [],_,_,_,_,h=>hn _ _ h
 | o::r,k,t,w,hl,h=>by
  have h0:ops[k]?=some o:=by simpa using(hl 0).symm
  have ih:=λt w=>qj (C:=C) hn r (k+1) t w (λj=>by have:=hl (j+1);simpa[Nat.add_assoc,Nat.add_comm 1 j] using this);simp only[List.length_cons,List.range'_succ,Dh];simp only[nY]at h;split at h
  ·rename_i hg;exact rj h0 (by simp[Region.wanted,hg]) (λv w' hk=>ih _ _ hk) h
  rename_i j want hg;rcases lS hg h with ⟨hw,hh⟩|⟨hw,hh⟩
  ·exact rj h0 hw (λv w' hk=>ih _ _ hk) hh
  exact LP h0 hw (ih _ _ hh)
theorem aA8 {id:Nat}{l:List Oper}{t:Fr}{w:World}{Q:Exit->Act->World->Prop}(C:World->Prop)(hm:P.follows .mixedOrders=true)(hB:aDF P l.toArray=true)(hC:C w.drew)
  (h:nY P l C (λt w=>Q .normal ⟨t.toArray,ds⟩ w) l t w.drew .mk):(Code.region id l.toArray true).wp P Q ⟨t.toArray,ds⟩ w:=by
 simp only[aDF,Bool.and_eq_true]at hB;refine wp_region_any hm (fm (C:=C) (R:=λa w=>Q .normal a w) (λ_ _ h=>h) _ _ _ _ hC ?_);refine y8 hB.1 _ 0 _ _ _ (by simp) hC (λj o _ hl=>by simp[Array.getElem?_replicate]at hl;split at hl<;>simp at hl) hB.2 ?_
 have:=qj (P:=P) (ds:=ds) (ops:=l) (C:=C) (R:=λt w=>Q .normal ⟨t.toArray,ds⟩ w) (N:=λa w=>Q .normal a w) (λt w hk=>hk) l 0 t w.drew (λj=>by simp) h;simpa using this
theorem Zt {c:Code}(hp:jy c=true){Q:Exit->Act->World->Prop}{t:Fr}{w:World}(h:vc P c (λe t w=>Q e ⟨t.toArray,ds⟩ w) t w .mk):c.wp P Q ⟨t.toArray,ds⟩ w :=
 wpIn_wide.1 (Qy (n:=0) (ro:=none) hp h)
theorem aAC {a b:Code}(hp:jy a=true){Q:Exit->Act->World->Prop}{t:Fr}{w:World}(h:vc P a (uj (λt w=>b.wp P Q ⟨t.toArray,ds⟩ w) (λe t w=>Q e ⟨t.toArray,ds⟩ w) .mk) t w .mk):(Code.seq a b).wp P Q ⟨t.toArray,ds⟩ w:=by
 have e:(λ(t:Fr) (w:World)=>b.wpIn (Bi none) 0 P Q ⟨t.toArray,ds⟩ w)=λt w=>b.wp P Q ⟨t.toArray,ds⟩ w:=by
  funext t w;exact propext wpIn_wide
 have h':(λN:Fr->World->Prop=>vc P a (uj N (λe t w=>Q e ⟨t.toArray,ds⟩ w) .mk) t w .mk) (λt w=>b.wpIn (Bi none) 0 P Q ⟨t.toArray,ds⟩ w):=by
  rw[e];exact h
 exact wpIn_wide.1 (nW (n:=0) (ro:=none) hp h')
theorem aGg {c:Operand}{x y:Code}{Q:Exit->Act->World->Prop}{t:Fr}{w:World}(hc:ev t c=.bool false)(h:y.wp P Q ⟨t.toArray,ds⟩ w):(Code.cond c x y).wp P Q ⟨t.toArray,ds⟩ w :=
 wpIn_wide.1 (XJ (n:=0) (F:=Fence.wide) hc (wpIn_wide.2 h))
theorem aGh {c:Operand}{x y:Code}{Q:Exit->Act->World->Prop}{t:Fr}{w:World}(hc:ev t c=.bool true)(h:x.wp P Q ⟨t.toArray,ds⟩ w):(Code.cond c x y).wp P Q ⟨t.toArray,ds⟩ w :=
 wpIn_wide.1 (aE0 (n:=0) (F:=Fence.wide) hc (wpIn_wide.2 h))
theorem tE {c:Code}{Q:Exit->Act->List Frame->World->Prop}{t:Fr}{cs:List Frame}{w:World}(h:vc P c (λe t w=>Q e ⟨t.toArray,[]⟩ cs w) t w .mk):c.wpS P Q ⟨t.toArray,[]⟩ cs w:=by
 refine wpS_of_wp ?_;have h1:=tq c _ _ w h;unfold dN at h1;refine Code.wp_mono ?_ h1;rintro e a w' ⟨hd,hh⟩;rw[NB hd];exact hh
theorem ya {ty xT:TypeId}{v:Value}{fs:Array Field}{t:Fr}{w:World}{K:VK}{Q:EP}{p}(hu:P.underlying ty=some (.struct fs))(k:K (.tuple #[v,.bool true]) w):ak P (Instr.typeAssert (.iface ty v) xT ty true) t w K Q p :=
 fN (by simp[Instr.typeAssert,run_underlying hu]) k
theorem Qu {fn:Func}(h:fn.results=#[])(t:Fr)(w:World):(results fn t.toArray).run P w=.ok (.tuple #[]) w:=by
 obtain⟨vs,h1,h2⟩:=dI (P:=P) (w:=w) fn [] h t (λvs=>vs=[]) rfl;rw[h1,h2];rfl
theorem Jr {id:Nat}{g:FuncId}{d:Tmp}{cap:List Operand}{ty1 ty2:TypeId}{p1 p2:String}{a1 a2:Array Edge}{Q:Exit->Act->World->Prop}{t:Fr}{w:World}
  (hd:d<t.length) (h:Q .normal ⟨(t.set d (.func (.func g) #[] (cap.map (ev t)).toArray)).toArray,{ target:=.fn (.func g) (cap.map (ev t)).toArray,args:=#[] }::ds⟩ w) :
  (Code.region id #[⟨some d,.makeFunc (.func g) #[] cap.toArray,ty1,p1,a1,none⟩,⟨none,.defer { callee:=.value (.tmp d),args:=#[],argTypes:=#[] },ty2,p2,a2,none⟩] false).wp P Q ⟨t.toArray,ds⟩ w:=by
 refine wp_region_list ?_;unfold wpList;rw[if_pos (by rfl)];refine .inl ?_;unfold Oper.wp;have h1:∀(ρ:Operand->Value) (cap:Array Operand) (o:Oper),o.op=.makeFunc (.func g) #[] cap->(execOp ρ o).run P w=.ok (.value (.func (.func g) #[] (cap.map ρ))) w:=λρ cap o ho=>by
  unfold execOp;simp only[ho];simp[go_sem,Instr.makeFunc]
 rw[h1 _ cap.toArray _ rfl];unfold Oper.upon;dsimp only;rw[iZ];unfold wpList;rw[if_pos (by rfl)];refine .inl ?_;unfold Oper.wp;rw[ny,ny];have hg:(put t (some d) (.func (.func g) #[] (cap.toArray.map (ev t)))).getD d undef=.func (.func g) #[] (cap.toArray.map (ev t)):=by
  simp[put,hd]
 have h2:∀(o:Oper),o.op=.defer { callee:=.value (.tmp d),args:=#[],argTypes:=#[] }->(execOp (ev (put t (some d) (.func (.func g) #[] (cap.toArray.map (ev t))))) o).run P w=.ok (.defer { target:=.fn (.func g) (cap.toArray.map (ev t)),args:=#[] }) w:=λo ho=>by
  unfold execOp;simp only[ho];simp only[resolve,ev,hg,Deferred.ofValue];simp[go_sem]
 rw[h2 _ rfl];unfold Oper.upon;dsimp only;unfold wpList;have e:∀(a:Act) ,a.put none undef=a:=λa=>rfl;rw[e];simpa[put] using h
end
end Go.Vc
namespace Go.Proofs.YtemjejfpadnljaaGreatDoor
open Go.Vc Go.Proofs Go.RowKit Cae
attribute [local irreducible] dN ae ak aY runK aw Sl Vc.Own vc aV cJ a7
theorem aBR (rb eb:Nat)(ev:Value)(f0:List Value)(e0:Value)(hf:f0.length=3)(w:World)(hr:aN w rb 26 f0)(he:aN w eb 34 [e0])(cf:rb≠eb)(hev:lG ev=true) :
  CallsD Tryz.prog 41 #[.pointer (some ⟨rb,0,none⟩),.pointer (some ⟨eb,0,none⟩)] (.panicking [{ v:=.iface 97 (.agg #[ev]),recovered:=false }]) w λe u' w' =>
   e=.returned (.tuple #[])/\u'=.panicking [{ v:=.iface 97 (.agg #[ev]),recovered:=true }]/\aN w' rb 26 [.slice none 0 0,.slice none 0 0,.bool false]/\aN w' eb 34 [ev]/\Kept (λi=>i=rb\/i=eb) w w':=by
 refine callsD_of_wpS Tryz.func41 rfl λc₀ cs hu=>?_;apply wpS_seq;apply wpS_region;simp[wpOpsS,go_sem,recoverD,hu,Tryz.ntmps41,Exit.thenS];refine tE (t:=[.pointer (some ⟨rb,0,none⟩),.pointer (some ⟨eb,0,none⟩),.iface 97 (.agg #[ev]),undef,undef,.iface 97 (.agg #[ev]),undef,undef,undef,undef,undef,undef,undef,undef,undef,undef,undef,undef,undef]) ?_;push_cast -dsimp;refine ya Tryz.underlying97 ?_;push_cast -dsimp;refine ah (z:=[.nilIface]) (by kernel_rfl) ?_;intro w1 aU;have C1:=aU.aL;have R1:=hr.below aU.below hr.lt;have E1:=he.below aU.below he.lt;have z1:=aU.size;push_cast -dsimp;refine aI (xt:=97) (n:=1) (by kernel_rfl) C1 rfl (by decide) (by simp;cases ev<;>first|rfl|(simp[lG]at hev)) ?_
 intro w2 bP;have C2:aN w2 w.heap.size 97 [ev]:=bP.aL;have Hw:=hr.lt;have tf:=he.lt;have R2:=R1.kept bP.kept (by omega);have E2:=E1.kept bP.kept (by omega);push_cast -dsimp;refine bu (λw'=>aN w' w.heap.size 97 [ev]) mixed (by kernel_rfl) C2.drew ?_;have d2:w2.drew.cell? ⟨w.heap.size,0,none⟩=some ev:=C2.drew.cell rfl;push_cast -dsimp[d2];refine⟨λbQ h=>by rw[aN.cell h (o:=0) rfl];exact rfl,?_⟩;refine aI (xt:=26) (n:=3) (by kernel_rfl) R2.drew rfl (by rw[hf];exact Nat.le_refl _) (by simp;exact⟨rfl,rfl⟩) ?_;intro w3 dA;have R3:aN w3 rb 26 [.slice none 0 0,.slice none 0 0,.bool false]:=by
  have:=dA.aL;rw[List.take_zero,List.nil_append,Nat.zero_add,List.drop_of_length_le (by rw[hf];exact Nat.le_refl _),List.append_nil]at this;exact this
 have C3:aN w3 w.heap.size 97 [ev]:=C2.drew.kept dA.kept (by omega);have E3:=E2.drew.kept dA.kept (by omega);refine⟨C3,?_⟩;push_cast -dsimp;refine aC E3 (by simp) hev ?_;intro w4 aj;have E4:aN w4 eb 34 [ev]:=aj.aL;have R4:=R3.kept aj.kept (by omega);have C4:aN w4 w.heap.size 97 [ev]:=C3.kept aj.kept (by omega);have k4:Kept (λi=>i=rb\/i=eb) w w4:=(((Kept.new (X:=λi=>i=rb\/i=eb) aU).trans bP.kept (λi h1 h2=>by omega)).drew.trans dA.kept (λi _ h=>.inl h)).trans aj.kept (λi _ h=>.inr h);refine⟨C4,?_⟩;push_cast -dsimp;exact⟨rfl,_,rfl,.tuple #[],Qu (by rfl) _ _,rfl,rfl,R4,E4,k4⟩
theorem aH0 (rb eb:Nat)(w:World) :
  CallsD Tryz.prog 41 #[.pointer (some ⟨rb,0,none⟩),.pointer (some ⟨eb,0,none⟩)] .returning w λe u' w'=>e=.returned (.tuple #[])/\u'=.returning/\w'=w:=by
 refine callsD_of_wpS Tryz.func41 rfl λc₀ cs hu=>?_;apply wpS_seq;apply wpS_region;simp[wpOpsS,go_sem,recoverD,hu,Tryz.ntmps41,Exit.thenS];refine tE (t:=[.pointer (some ⟨rb,0,none⟩),.pointer (some ⟨eb,0,none⟩),.nilIface,undef,undef,.nilIface,undef,undef,undef,undef,undef,undef,undef,undef,undef,undef,undef,undef,undef]) ?_;push_cast -dsimp;refine⟨rfl,.returning,?_,.tuple #[],Qu (by rfl) _ _,rfl,rfl,rfl⟩;rw[<-hu]
def Vw (w:World)(s:List UInt8)(r:Value)(w':World):Prop :=
 (∃f v,dy s=.ok f/\r=.tuple #[v,.nilIface]/\kI (·<w.heap.size) w' v f) \/
 (∃e pos b,dy s=.error (e,pos)/\r=.tuple #[.agg #[.slice none 0 0,.slice none 0 0,.bool false],.iface 141 (.pointer (some ⟨b,0,none⟩))]/\w.heap.size<=b/\aN w' b 143 [.int .i64 e,.int .i64 pos])
def aBw (w:World)(s:List UInt8)(e:Ending)(w':World):Prop:=∃v,e=.returned v/\Vw w s v w'/\Below w.heap.size w w'
theorem aAW {s:List UInt8}{l:List Tok}(hs:s.length<=1000000)(h:VA s=.ok l):TL l:=by
 obtain⟨m,hm,e,hn⟩:=lA _ _ _ _ _ (by simp) h;rw[List.nil_append]at e;subst e;refine⟨⟨m,_,rfl,rfl⟩,λt ht=>?_,by rw[List.length_append,List.length_singleton];simp at hn;omega,λt ht hk=>?_⟩
 ·rcases List.mem_append.1 ht with ht|ht
  ·have:=(hm.inside t ht).length_le;omega
  rw[List.mem_singleton.1 ht];simp
 rcases List.mem_append.1 ht with ht|ht
 ·exact aIR hm t ht hk
 rw[List.mem_singleton.1 ht]at hk;cases hk
theorem Ky {w W:World}{s:List UInt8}{fv:List Value}{t:Fr}(h2:t.getD 2 undef=.pointer (some ⟨w.heap.size,0,none⟩))(h3:t.getD 3 undef=.pointer (some ⟨w.heap.size+1,0,none⟩)){x:Value}
  (B1:aN W w.heap.size 26 fv) (B2:aN W (w.heap.size+1) 34 [x]) (hl:fv.length=3) (hR:Vw w s (.tuple #[.agg fv.toArray,x]) W) (hb:Below w.heap.size w W) :
  bodyPostD Tryz.prog Tryz.f24 (aBw w s) .ret ⟨t.toArray,[{ target:=.fn (.func 41) #[.pointer (some ⟨w.heap.size,0,none⟩),.pointer (some ⟨w.heap.size+1,0,none⟩)],args:=#[] }]⟩ W:=by
 show Leaves _ _ _ _ _ _ _
 refine leaves_cons (f:=41) (args:=#[.pointer (some ⟨w.heap.size,0,none⟩),.pointer (some ⟨w.heap.size+1,0,none⟩)]) (by simp) ?_ ?_
 ·simp only[invoke,Array.empty_append];exact cC Tryz.func41 (by kernel_rfl) (by kernel_rfl)
 refine(aH0 w.heap.size (w.heap.size+1) W).mono ?_;rintro e u' w' ⟨rfl,rfl,rfl⟩;obtain⟨vs,hv,hk⟩:=dI (P:=Tryz.prog) (w:=w') Tryz.f24 [.cell 2 26,.cell 3 34] (by rfl) t (λvs=>vs=[.agg fv.toArray,x]) (by
  have d1:aB w' ⟨w.heap.size,0,none⟩ 0 3=some fv:=by rw[<-hl];exact B1.aB
  have d2:w'.cell? ⟨w.heap.size+1,0,none⟩=some x:=B2.cell rfl;push_cast -dsimp[h2,h3,d1,d2])
 refine⟨_,hv,_,rfl,?_,hb⟩;rw[hk];exact hR
theorem zI {w W:World}{s:List UInt8}{e pos:Nat}{fv:List Value}{ce:List PanicEntry}{t:Fr}(h2:t.getD 2 undef=.pointer (some ⟨w.heap.size,0,none⟩))(h3:t.getD 3 undef=.pointer (some ⟨w.heap.size+1,0,none⟩)){x:Value}
  (B1:aN W w.heap.size 26 fv) (B2:aN W (w.heap.size+1) 34 [x]) (hl:fv.length=3) (hT:Thr (w.heap.size+2) W ce e pos) (hp:dy s=.error (e,pos)) (hb:Below w.heap.size w W) :
  bodyPostD Tryz.prog Tryz.f24 (aBw w s) (.panic ce) ⟨t.toArray,[{ target:=.fn (.func 41) #[.pointer (some ⟨w.heap.size,0,none⟩),.pointer (some ⟨w.heap.size+1,0,none⟩)],args:=#[] }]⟩ W:=by
 obtain⟨b,VY,rfl,hB⟩:=hT
 show Leaves _ _ _ _ _ _ _
 refine leaves_cons (f:=41) (args:=#[.pointer (some ⟨w.heap.size,0,none⟩),.pointer (some ⟨w.heap.size+1,0,none⟩)]) (by simp) ?_ ?_
 ·simp only[invoke,Array.empty_append];exact cC Tryz.func41 (by kernel_rfl) (by kernel_rfl)
 refine(aBR w.heap.size (w.heap.size+1) _ fv x hl W B1 B2 (by omega) rfl).mono ?_;rintro e' u' w' ⟨rfl,rfl,R1,R2,hk⟩;have nz:=hB.kept hk (by omega);have Dw:=hb.trans (hk.below (B:=w.heap.size) hb.size (λi h=>by omega));obtain⟨vs,hv,hk⟩:=dI (P:=Tryz.prog) (w:=w') Tryz.f24 [.cell 2 26,.cell 3 34] (by rfl) t (λvs=>vs=[.agg #[.slice none 0 0,.slice none 0 0,.bool false],.iface 141 (.pointer (some ⟨b,0,none⟩))]) (by
  have d1:aB w' ⟨w.heap.size,0,none⟩ 0 3=some [.slice none 0 0,.slice none 0 0,.bool false]:=R1.aB;have d2:w'.cell? ⟨w.heap.size+1,0,none⟩=some (.iface 141 (.pointer (some ⟨b,0,none⟩))):=R2.cell rfl;push_cast -dsimp[h2,h3,d1,d2])
 show Leaves _ _ _ _ [] (settle _) _
 refine⟨_,hv,_,rfl,?_,Dw⟩;rw[hk];exact .inr ⟨e,pos,b,hp,rfl,by omega,nz⟩
theorem Sl.off {X:Nat->Prop}{w:World}{v:Value}{l:List Tok}{rb:Nat}{e:TypeId}{cs:List Value}(h:Sl X 3 (En jn) w v l)(hB:aN w rb e cs)(il:∀(o:Nat) (u:Value),cs[o]?=some u->∀n,u≠.int .i64 n):Sl (λb=>X b\/b=rb) 3 (En jn) w v l:=by
 unfold Sl at h ⊢
 obtain⟨a,c,rfl,hc,h⟩:=h;refine⟨a,c,rfl,hc,λi x hx=>?_⟩;obtain⟨b,o,ks,ha,hb,hk,aM,hr⟩:=h i x hx;refine⟨b,o,ks,ha,λhh=>?_,hk,aM,hr⟩;rcases hh with hh|rfl
 ·exact hb hh
 have jh:ks=jn x:=hr;have h0:=aM 0 (.int .i64 x.kind) (by rw[jh];rfl);have h1:cs[o+i*3+0]?=some (.int .i64 x.kind):=by
  have nz:w.heap[b]?=_:=hB;simp only[World.cell?,nz]at h0;simpa using h0
 exact il _ _ h1 _ rfl
theorem PS.off {pb B rb:Nat}{w w':World}{l:List Tok}{e:TypeId}{cs:List Value}(h:PS pb B w l)(hB:aN w rb e cs)(il:∀(o:Nat) (u:Value),cs[o]?=some u->∀n,u≠.int .i64 n)(cf:rb≠pb)(hg:10<=rb)(hk:Kept (·=rb) w w'):PS pb B w' l:=by
 obtain⟨v,h1,h2⟩:=h.st;exact⟨⟨v,h1.kept hk (λhh=>cf hh.symm),((Sl.off h2 hB il).kept hk (λi hi=>.inr hi)).weaken (λi hi=>.inl hi)⟩,h.lt,Nat.le_trans h.le hk.size,h.tl,h.db.kept hk (λi hi hh=>by omega),h.er.kept hk (λi hi hh=>by omega),h.gl⟩
theorem zZ (s:List UInt8)(hs:s.length<=1000000)(w:World)(hd:Db w)(he:mr w)(hg:10<=w.heap.size):aw Tryz.prog 24 [str s] w λr w'=>Vw w s r w'/\Below w.heap.size w w':=by
 unfold aw;refine⟨cC Tryz.func24 (by kernel_rfl) (by kernel_rfl),?_⟩;refine calls_of_wp_defers Tryz.func24 rfl ?_;have e:(([str s]:List Value).toArray++Array.replicate (Tryz.f24.ntmps-([str s]:List Value).toArray.size) undef)=(yj [str s] Tryz.f24.ntmps).toArray:=by simp[yj]
 rw[e];simp -dsimp (maxSteps:=9^7) only[push_cast,yj,Tryz.ntmps24,List.length_cons,List.length_nil,Nat.reduceAdd,Nat.reduceSub,Nat.reduceBEq,List.replicate_succ,List.replicate_zero];have hR:∃R:Ending->World->Prop,R=aBw w s:=⟨_,rfl⟩
 show Code.wp _ _ (bodyPostD Tryz.prog Tryz.f24 (aBw w s)) _ _
 refine aAC (by rfl) ?_;push_cast -dsimp;refine ah (z:=[.slice none 0 0,.slice none 0 0,.bool false]) (by kernel_rfl) ?_;intro w1 aU;have R1:=aU.aL;have z1:=aU.size;have b1:=aU.below;push_cast -dsimp;refine ah (z:=[.nilIface]) (by kernel_rfl) ?_;intro w2 bP;have E2:=bP.aL;have R2:=R1.below bP.below (by omega);have z2:=bP.size;have b2:=b1.trans (bP.below.mono (by omega));rw[z1]at E2;push_cast -dsimp[z1];refine wp_seq (Jr (cap:=[.tmp 2,.tmp 3]) (by simp) ?_);simp -dsimp only[push_cast];refine aAC (by rfl) ?_;push_cast -dsimp;refine aA (aA0 s hs w2) ?_;rintro r w3 ⟨hT,b3⟩;have R3:=R2.below b3 (by omega);have E3:=E2.below b3 (by omega);have z3:=b3.size;have gB:=b2.trans (b3.mono (by omega));rcases hT with ⟨l,v,TY,rfl,hO⟩|⟨en,pos,b,TY,rfl,VY,hB⟩
 ·obtain⟨va,vc,rfl⟩:=hO.slice;push_cast -dsimp;refine aC E3 (by simp) rfl ?_;intro w4 aj;have E4:aN w4 (w.heap.size+1) 34 [.nilIface]:=aj.aL;have R4:=R3.kept aj.kept (by omega);have z4:=aj.size;have xw:=hO.aH aj.kept (λg hg h=>by have:=(hO.block g hg).1;omega);have kK:=gB.trans (aj.kept.below (B:=w.heap.size) (by omega) (λi h=>by omega));have d4:w4.cell? ⟨w.heap.size+1,0,none⟩=some .nilIface:=E4.cell rfl;push_cast -dsimp;refine wp_seq (aAC (by rfl) ?_);push_cast -dsimp[d4];refine aGg (by rfl) (wp_skip ?_)
  show Code.wp _ _ _ _ _
  refine Zt (by rfl) ?_;push_cast -dsimp;refine aS ?_;intro w5 cG;have z5:=cG.size;have Q0:∃pb,pb=w4.heap.size:=⟨_,rfl⟩;obtain⟨pb,Q0⟩:=Q0;have PB:=cG.aL;have E5:=E4.below cG.below E4.lt;have R5:=R4.below cG.below R4.lt;have jq:=kK.trans (cG.below.mono kK.size);rw[<-Q0]at PB;have Mj:=aAW hs TY;have P5:PS pb (pb+1) w5 l:=⟨⟨_,PB,((Sl.top (by decide) xw.sl).below cG.below).weaken (λi h=>by omega)⟩,by omega,by omega,Mj,hd.below jq hd.lt,he.below jq,by omega⟩;push_cast -dsimp[<-Q0];refine aF (aGu P5) ?_ ?_
  ·rintro _ w6 ⟨f,l',ef,⟨cv,rv,cs,rs,rfl,S1,S2,A1,A2⟩,P6,k6⟩;have E6:=E5.kept k6 (by omega);have R6:=R5.kept k6 (by omega);have z6:=k6.size;have lk:=jq.trans (k6.below (B:=w.heap.size) jq.size (λi h=>by omega));push_cast -dsimp[<-Q0];refine aI (xt:=26) (n:=3) (by kernel_rfl) R6 rfl (by decide) ?_ ?_
   ·obtain⟨_,_,rfl,_⟩:=S1.shape;obtain⟨_,_,rfl,_⟩:=S2.shape;simp;exact⟨rfl,rfl,rfl⟩
   intro w7 fQ;have R7:aN w7 w.heap.size 26 [cv,rv,.bool f.els]:=fQ.aL;have E7:=E6.kept fQ.kept (by omega);have k7:Kept (λi=>i=w.heap.size) w6 w7:=fQ.kept;have P7:PS pb (pb+1) w7 l':=P6.off R6 (λo u hu n hn=>by
    subst hn;match o with
    | 0=>simp at hu
    | 1=>simp at hu
    | 2=>simp at hu
    | o+3=>simp at hu) (by omega) (by omega) k7
   have z7:=fQ.size;have lV:=lk.trans (fQ.kept.below (B:=w.heap.size) lk.size (λi h=>by omega));obtain⟨t1,r1,n5⟩:=P7.tl.cons;have P7':=P7;rw[n5]at P7';obtain⟨b1,o1,c1,hBp,hc,cf,c0,c1',c2,c3⟩:=P7'.hd;have cb:w7.cell? ⟨pb,0,none⟩=some (.slice (some ⟨b1,o1,none⟩) (r1.length+1) c1):=hBp.cell rfl;have Y0:isKind 5 l'=decide (t1.kind=5):=by
    rw[n5]
    show (t1.kind == 5)=_
    by_cases h:t1.kind=5<;>simp[h]
   push_cast -dsimp[<-Q0,cb,c0];refine⟨by omega,λh5=>?_,λh5=>?_⟩
   ·have Dz:isKind 5 l'=false:=by rw[Y0];exact decide_eq_false (λh=>h5 (by omega))
    refine aF (jo 3 P7) (λ_ _ h=>h.elim) ?_;rintro ce w8 ⟨ht,hb⟩;have hpe:dy s=.error (3,(Cae.hd l').pos):=by
     unfold dy;rw[TY];dsimp only;rw[ef];dsimp only;rw[Dz];rfl
    push_cast -dsimp[<-Q0];refine zI (t:=_) (by rfl) (by rfl) (R7.below hb R7.lt) (E7.below hb E7.lt) rfl (ht.mono (by omega)) hpe (lV.trans (hb.mono lV.size))
   have Dz:isKind 5 l'=true:=by rw[Y0];exact decide_eq_true (by omega)
   have aQS:dy s=.ok f:=by
    unfold dy;rw[TY];dsimp only;rw[ef];dsimp only;rw[Dz];rfl
   have d7:aB w7 ⟨w.heap.size,0,none⟩ 0 3=some [cv,rv,.bool f.els]:=R7.aB;push_cast -dsimp[<-Q0,d7];refine aI (xt:=26) (n:=3) (by kernel_rfl) R7 rfl (Nat.le_refl _) ?_ ?_
   ·obtain⟨_,_,rfl,_⟩:=S1.shape;obtain⟨_,_,rfl,_⟩:=S2.shape;simp;exact⟨rfl,rfl,rfl⟩
   intro w8 n9;have R8:aN w8 w.heap.size 26 [cv,rv,.bool f.els]:=n9.aL;have E8:=E7.kept n9.kept (by omega);have z8:=n9.size;push_cast -dsimp[<-Q0];refine aC E8 (by simp) rfl ?_;intro w9 El;have E9:aN w9 (w.heap.size+1) 34 [.nilIface]:=El.aL;have R9:=R8.kept El.kept (by omega);have k69:Kept (λi=>i<w5.heap.size) w6 w9:=((k7.weaken (Y:=λi=>i<w5.heap.size) (λi _ h=>by omega)).trans n9.kept (λi _ h=>by omega)).trans El.kept (λi _ h=>by omega);have pd:=lV.trans (((n9.kept.weaken (Y:=λi=>w.heap.size<=i) (λi _ h=>by omega)).trans El.kept (λi _ h=>by omega)).below (B:=w.heap.size) lV.size (λi h=>h));push_cast -dsimp[<-Q0];refine Ky (t:=_) (by rfl) (by rfl) R9 E9 rfl (.inl ⟨f,_,aQS,rfl,cv,rv,cs,rs,rfl,(S1.kept k69 (λi h=>h)).weaken (λi h=>by omega),(S2.kept k69 (λi h=>h)).weaken (λi h=>by omega),A1.imp λa c h=>h.mono k69 (λi h=>h) (λi h=>by omega),A2.imp λa c h=>h.mono k69 (λi h=>h) (λi h=>by omega)⟩) pd
  rintro ce w6 ⟨en,pos,QO,ht,hk⟩;have E6:=E5.kept hk (by omega);have R6:=R5.kept hk (by omega);have lk:=jq.trans (hk.below (B:=w.heap.size) jq.size (λi h=>by omega));have hpe:dy s=.error (en,pos):=by
   unfold dy;rw[TY];dsimp only;rw[QO]
  push_cast -dsimp[<-Q0];exact zI (t:=_) (by rfl) (by rfl) R6 E6 rfl (ht.mono (by omega)) hpe lk
 push_cast -dsimp;refine aC E3 (by simp) rfl ?_;intro w4 aj;have E4:aN w4 (w.heap.size+1) 34 [.iface 141 (.pointer (some ⟨b,0,none⟩))]:=aj.aL;have R4:=R3.kept aj.kept (by omega);have z4:=aj.size;have ER:=hB.kept aj.kept (by omega);have kK:=gB.trans (aj.kept.below (B:=w.heap.size) (by omega) (λi h=>by omega));have d4:w4.cell? ⟨w.heap.size+1,0,none⟩=some (.iface 141 (.pointer (some ⟨b,0,none⟩))):=E4.cell rfl;push_cast -dsimp;refine wp_seq (aAC (by rfl) ?_);push_cast -dsimp[d4];refine aGh (by rfl) (wp_seq ?_);refine aA8 (λw'=>w'.cell? ⟨w.heap.size+1,0,none⟩=some (.iface 141 (.pointer (some ⟨b,0,none⟩)))) mixed (by kernel_rfl) d4 ?_;have d4d:w4.drew.cell? ⟨w.heap.size+1,0,none⟩=some (.iface 141 (.pointer (some ⟨b,0,none⟩))):=d4;push_cast -dsimp[d4d];refine⟨λbQ h=>by rw[h];exact rfl,?_⟩;refine aI (xt:=26) (n:=3) (by kernel_rfl) R4.drew rfl (by decide) (by simp;exact⟨rfl,rfl⟩) ?_;intro w5 cG;have R5:aN w5 w.heap.size 26 [.slice none 0 0,.slice none 0 0,.bool false]:=cG.aL;have E5:=E4.drew.kept cG.kept (by omega);have Hd:=ER.drew.kept cG.kept (by omega);refine⟨E5.cell rfl,?_⟩;push_cast -dsimp;refine aC E5 (by simp) rfl ?_;intro w6 bW;have E6:aN w6 (w.heap.size+1) 34 [.iface 141 (.pointer (some ⟨b,0,none⟩))]:=bW.aL;have R6:=R5.kept bW.kept (by omega);have sY:=Hd.kept bW.kept (by omega);have lk:=kK.trans (((Kept.refl (λi=>w.heap.size<=i) w4).drew.trans cG.kept (λi _ h=>by omega)).trans bW.kept (λi _ h=>by omega) |>.below (B:=w.heap.size) kK.size (λi h=>h))
 have hpe:dy s=.error (en,pos):=by
  unfold dy;rw[TY]
 refine⟨E6.cell rfl,?_⟩;push_cast -dsimp;refine wp_ret ?_;exact Ky (t:=_) (by rfl) (by rfl) R6 E6 rfl (.inr ⟨en,pos,b,hpe,rfl,by omega,sY⟩) lk
end Go.Proofs.YtemjejfpadnljaaGreatDoor
namespace Cae
def TB (l:List Tok):Prop:=∀t∈l,t.text.length<=1000000
def Iv {α:Type}(I:α->Prop)(p:Pa α):Prop:=∀l x l',TB l->p l=.ok (x,l')->I x/\TB l'
section
variable {α β:Type} {I:α->Prop} {J:β->Prop} {p:Pa α} {q:α->Pa β}
theorem Iv.pr {x:α}(h:I x):Iv I (pr x):=λl y l' hl e=>by cases e;exact⟨h,hl⟩
theorem Iv.fail {e:Nat}:Iv I (eJ e):=λl y l' _ h=>by cases h
theorem Iv.pb (h:Iv I p)(k:∀x,I x->Iv J (q x)):Iv J (pb p q):=λl y l' hl e=>by
 obtain⟨x,l1,e1,e2⟩:=eI e;obtain⟨h1,h2⟩:=h l x l1 hl e1;exact k x h1 l1 y l' h2 e2
theorem Iv.bE {cc:List Tok->Bool}{p1 p2:Pa α}(h1:Iv I p1)(h2:Iv I p2):Iv I (bE cc p1 p2):=λl x l' hl e=>by
 unfold Cae.bE at e;split at e
 ·exact h1 l x l' hl e
 exact h2 l x l' hl e
theorem Iv.ite {c:Prop}[Decidable c]{p1 p2:Pa α}(h1:c->Iv I p1)(h2:¬c->Iv I p2):Iv I (if c then p1 else p2):=by
 by_cases h:c
 ·rw[if_pos h];exact h1 h
 rw[if_neg h];exact h2 h
end
def Tv {α:Type}(_:α):Prop:=True
theorem Iv.dr:Iv (λt=>t.text.length<=1000000) dr:=λl x l' hl e=>by
 cases e;refine⟨?_,hl⟩;cases l with
 | nil=>simp[hd]
 | cons t r=>exact hl t (List.mem_cons_self ..)
theorem Iv.pop:Iv Tv cZ:=λl x l' hl e=>by
 obtain⟨t,rfl,_⟩:=uf e;exact⟨trivial,λy hy=>hl y (List.mem_cons_of_mem _ hy)⟩
theorem gG (s:List UInt8):Iv Tv (dM s):=Iv.bE Iv.pop Iv.fail
theorem Qc:Iv Tv nS:=Iv.bE (Iv.bE Iv.fail (Iv.pb Iv.dr λt _=>Iv.pb Iv.pop λ_ _=>Iv.pr trivial)) Iv.fail
theorem aH5:Iv (λc=>c=0\/c=3\/c=4\/c=5) vN :=
 Iv.bE (Iv.pb Iv.pop λ_ _=>Iv.pr (by simp)) (Iv.bE (Iv.pb Iv.pop λ_ _=>Iv.pr (by simp)) (Iv.bE (Iv.pb Iv.pop λ_ _=>Iv.pr (by simp)) (Iv.pr (by simp))))
theorem zE {one:Pa bB}(h:Iv gU one)(pos:Nat):∀(n:Nat) (k:bB),gU k->Iv gU (de one pos n k)
 | 0,k,_=>Iv.fail
 | n+1,k,hk=>Iv.pb aH5 λc hc=>Iv.ite (λ_=>Iv.pr hk) λhc0=>Iv.pb h λr hr=>zE h pos n _ ⟨hk,hr,by rcases hc with hc|hc;exact absurd hc hc0;exact hc⟩
theorem Kw {one:Pa bB}(h:Iv gU one):Iv gU (th one):=Iv.pb Iv.dr λt _=>Iv.pb h λk hk=>zE h _ _ _ hk
theorem aH6:Iv gU IL:=Iv.pb Iv.dr λt ht=>by
 cases hs:Is t.text with
 | none=>exact Iv.fail
 | some s =>
  refine Iv.pb Iv.pop λ_ _=>Iv.pr ?_;have h1:=It hs;refine⟨h1.1,?_⟩;have h2:gx s=t.text:=h1.2;have h3:=(rf (s.map tS) [32] (by decide)).2;have h4:(gx s).length=(Go.Lib.join (s.map tS) [32]).length+2:=by simp[gx]
  rw[h2]at h4;rw[List.length_map]at h3;omega
theorem CP:∀d,Iv gU (mA d)
 | 0=>Iv.fail
 | d+1=>Iv.bE aH6 (Iv.bE (Iv.pb Iv.dr λt _=>Iv.pb Iv.pop λ_ _=>Iv.pb (CP d) λk hk=>Iv.pr hk)
   (Iv.bE (Iv.pb Iv.pop λ_ _=>Iv.pb (Kw (CP d)) λk hk=>Iv.pb (gG _) λ_ _=>Iv.pr hk)
    (Iv.pb Iv.dr λt _=>Iv.pb Qc λn _=>Iv.pr trivial)))
theorem Kx:Iv (λn=>n<=12) kD:=Iv.bE (Iv.pb Iv.dr λt _=>Iv.ite (λ_=>Iv.fail) λh=>Iv.pb Iv.pop λ_ _=>Iv.pr (by omega)) Iv.fail
def My (q:Int×Int):Prop:=0<=q.1/\q.1<100/\q.2<100/\(q.2<0\/q.1<=q.2)
theorem Te:Iv My dR:=Iv.pb Kx λlo Ag=>Iv.bE (Iv.pb Iv.pop λ_ _=>Iv.bE
  (Iv.pb Kx λhi Ve=>Iv.ite (λ_=>Iv.fail) λhh=>Iv.pb (gG _) λ_ _=>Iv.pr ⟨by show 0<=(lo:Int);omega,by show (lo:Int)<100;omega,by show (hi:Int)<100;omega,.inr (by show (lo:Int)<=hi;omega)⟩)
  (Iv.pb (gG _) λ_ _=>Iv.pr ⟨by show 0<=(lo:Int);omega,by show (lo:Int)<100;omega,by show (-1:Int)<100;omega,.inl (by show (-1:Int)<0;omega)⟩))
 (Iv.pb (gG _) λ_ _=>Iv.pr ⟨by show 0<=(lo:Int);omega,by show (lo:Int)<100;omega,by show (lo:Int)<100;omega,.inr (Int.le_refl _)⟩)
theorem Ff:Iv (λo=>∀q,o=some q->My q) eY:=by
 have h:∀r:Int×Int,My r->Iv (λo=>∀q,o=some q->My q) (pb cZ λ_=>pr (some r)):=λr hr=>Iv.pb Iv.pop λ_ _=>Iv.pr (by intro q e;cases e;exact hr);refine Iv.bE (h _ (by unfold My;decide)) (Iv.bE (h _ (by unfold My;decide)) (Iv.bE (h _ (by unfold My;decide)) (Iv.bE ?_ (Iv.pr (by intro q e;cases e)))));exact Iv.pb Iv.pop λ_ _=>Iv.pb Te λr hr=>Iv.pr (by intro q e;cases e;exact hr)
theorem wM (d:Nat):∀(n c:Nat) (x:aG),bD x->Iv bD (bl d n c x)
 | 0,_,_,_=>Iv.fail
 | n+1,c,x,hx=>Iv.pb Ff λr hr=>by
   cases r with
   | none=>exact Iv.pr hx
   | some q =>
    have hq:=hr q rfl;refine Iv.ite (λ_=>Iv.fail) λ_=>wM d n (c+1) _ ?_;simp only[bD];exact⟨hx,hq.1,hq.2.1,hq.2.2⟩
theorem Td {d:Nat}{unit:Pa aG}(h:Iv bD unit):Iv bD (aZ d unit):=Iv.pb h λx hx=>wM d _ _ _ hx
theorem oE:∀{l:List aG} {x:aG},dE l->bD x->dE (l++[x])
 | [],x,_,h=>by simp only[List.nil_append,dE];exact⟨h,trivial⟩
 | y::l,x,hl,h=>by
  simp only[dE,List.cons_append]at hl ⊢
  exact⟨hl.1,oE hl.2 h⟩
theorem DE:dE []:=by simp only[dE]
theorem CQ {again:Pa aG}(h:Iv bD again):∀(n:Nat) (a:List aG),dE a->Iv dE (bN again n a)
 | 0,_,_=>Iv.fail
 | n+1,a,ha=>Iv.bE (Iv.pb h λx hx=>CQ h n _ (oE ha hx)) (Iv.pr ha)
theorem aAv {l:List aG}(h:dE l):bD (rowOf l):=by
 match l with
 | []=>simp only[rowOf,bD];exact h
 | [x]=>simp only[dE]at h;exact h.1
 | x::y::l=>simp only[rowOf,bD];exact h
theorem WD {l:List aG}(h:dE l):bD (jj l):=by
 match l with
 | []=>simp only[jj,bD];exact h
 | [x]=>simp only[dE]at h;exact h.1
 | x::y::l=>simp only[jj,bD];exact h
theorem aDq {again:Pa aG}(h:Iv bD again):Iv bD (iw again):=Iv.pb (CQ h _ _ DE) λps uR=>Iv.pr (aAv uR)
theorem CO {row:Pa aG}(h:Iv bD row):∀(n:Nat) (a:List aG),dE a->Iv dE (fB row n a)
 | 0,_,_=>Iv.fail
 | n+1,a,ha=>Iv.bE (Iv.pb Iv.pop λ_ _=>Iv.pb h λx hx=>CO h n _ (oE ha hx)) (Iv.pr ha)
theorem aDo {row:Pa aG}(h:Iv bD row):Iv bD (ND row):=Iv.pb h λx hx=>Iv.pb (CO h _ _ (oE DE hx)) λps uR=>Iv.pr (WD uR)
theorem Qd {d:Nat}{unit:Pa aG}(h:Iv bD unit):Iv bD (DD d unit):=Iv.ite (λ_=>Iv.fail) λ_=>aDo (aDq (Td h))
theorem Qe:∀d,Iv bD (ax d)
 | 0=>Iv.fail
 | d+1=>Iv.bE (Iv.pb Iv.pop λ_ _=>Iv.pr (by simp only[bD])) (Iv.bE (Iv.pb Iv.pop λ_ _=>Iv.pr (by simp only[bD]))
   (Iv.bE (Iv.pb Iv.pop λ_ _=>Iv.pb (Qd (Qe d)) λx hx=>Iv.pb (gG _) λ_ _=>Iv.pr hx)
    (Iv.bE (Iv.pb (CP (d+1)) λk hk=>Iv.pr (by simp only[bD];exact hk)) Iv.fail)))
theorem Yz (d:Nat):Iv bD (ry d):=Qd (Qe d)
theorem Ah:Iv Tv iA:=Iv.bE (Iv.pb Iv.pop λ_ _=>Iv.pr trivial) (Iv.pb (gG _) λ_ _=>Iv.pr trivial)
theorem aDr:Iv (λr=>bD r.before/\bD r.after) mM:=Iv.pb Iv.dr λt _=>Iv.pb Ah λb _=>Iv.pb (Yz 9) λx hx=>Iv.pb (gG _) λ_ _=>Iv.pb (Yz 9) λy hy=>Iv.pb (gG _) λ_ _=>Iv.pr ⟨hx,hy⟩
theorem Yy:Iv (λc=>gU c.kind) oO:=Iv.pb Iv.dr λt _=>Iv.pb (gG _) λ_ _=>Iv.pb Qc λn _=>Iv.pb (gG _) λ_ _=>Iv.pb (Kw (CP 9)) λk hk=>Iv.pb (gG _) λ_ _=>Iv.pr hk
theorem zG:∀(n:Nat) (acc:List cQ),acc.length<=20/\(∀r∈acc,bD r.before/\bD r.after)->Iv (λl=>l.length<=20/\∀r∈l,bD r.before/\bD r.after) (b8 n acc)
 | 0,_,_=>Iv.fail
 | n+1,acc,ha=>Iv.bE (Iv.ite (λ_=>Iv.fail) λh=>Iv.pb aDr λr hr=>zG n _ ⟨by have:=ha.1;rw[List.length_append,List.length_singleton];omega,λx hx=>by
   rcases List.mem_append.1 hx with hx|hx
   ·exact ha.2 x hx
   rw[List.mem_singleton.1 hx];exact hr⟩) (Iv.pr ha)
theorem qF:∀(n:Nat) (acc:List fT),acc.length<=20/\(∀c∈acc,gU c.kind)->Iv (λl=>l.length<=20/\∀c∈l,gU c.kind) (ba n acc)
 | 0,_,_=>Iv.fail
 | n+1,acc,ha=>Iv.bE (Iv.ite (λ_=>Iv.fail) λh=>Iv.pb Yy λr hr=>qF n _ ⟨by have:=ha.1;rw[List.length_append,List.length_singleton];omega,λx hx=>by
   rcases List.mem_append.1 hx with hx|hx
   ·exact ha.2 x hx
   rw[List.mem_singleton.1 hx];exact hr⟩) (Iv.pr ha)
theorem aDp:Iv (λf=>Ay f/\f.cT.length<=20/\f.rules.length<=20) j4:=Iv.pb (qF _ _ ⟨by simp,by simp⟩) λcs il=>Iv.pb (zG _ _ ⟨by simp,by simp⟩) λrs iW =>
 Iv.pb (I:=Tv) (λl x l' hl e=>⟨trivial,(show Iv Tv oy from Iv.bE (Iv.pb Iv.pop λ_ _=>Iv.pb Ah λ_ _=>Iv.pb (gG _) λ_ _=>Iv.pr trivial) (Iv.pr trivial)) l x l' hl e |>.2⟩) λb _=>Iv.pr ⟨⟨il.2,iW.2⟩,il.1,iW.1⟩
end Cae
namespace Go.Proofs.YtemjejfpadnljaaGreatDoor
open Go.Vc Go.Proofs Go.RowKit Cae
attribute [local irreducible] dN ae ak aY runK aw Sl Vc.Own vc aV cJ a7
theorem Cy {s:List UInt8}{f:dX}(hs:s.length<=1000000)(h:dy s=.ok f):Ay f/\f.cT.length<=20/\f.rules.length<=20:=by
 unfold dy at h;split at h
 ·cases h
 rename_i l hl;have Mj:=aAW hs hl;split at h
 ·cases h
 rename_i f' l' hf;split at h
 ·cases h;exact(aDp _ _ _ Mj.txt hf).1
 cases h
end Go.Proofs.YtemjejfpadnljaaGreatDoor
namespace Cae
abbrev bK:=List (List UInt8×List Rg)
def tc (n:List UInt8):bK->Option (List Rg)
 | []=>none
 | x::l=>if x.1=n then some x.2 else tc n l
def cK (nm:bK):bB->Except Nat (List Rg)
 | .lit _ s=>.ok s
 | .ref pos n=>match tc n nm with
  | some s=>.ok s
  | none=>.error pos
 | .not _ k=>match cK nm k with
  | .ok s=>.ok (iQ s)
  | .error e=>.error e
 | .bin c _ k r=>match cK nm k with
  | .error e=>.error e
  | .ok s=>match cK nm r with
   | .error e=>.error e
   | .ok t=>.ok (if c=3 then D1 s t else if c=4 then DZ s t else Aq s t)
def gv:bK->List fT->Except (Nat×Nat) bK
 | nm,[]=>.ok nm
 | nm,c::l=>if (tc c.name nm).isSome then .error (5,c.pos) else match cK nm c.kind with
  | .error e=>.error (6,e)
  | .ok s=>gv (nm++[(c.name,s)]) l
mutual
def iY (nm:bK):aG->Option Nat
 | .one k=>match cK nm k with
  | .error e=>some e
  | .ok _=>none
 | .any=>none
 | .gh=>none
 | .cat l=>jN nm l
 | .alt l=>jN nm l
 | .many x _ _=>iY nm x
def jN (nm:bK):List aG->Option Nat
 | []=>none
 | x::l=>match iY nm x with
  | some e=>some e
  | none=>jN nm l
end
def GK (nm:bK)(r:cQ):Option Nat:=match iY nm r.before with
 | some e=>some e
 | none=>iY nm r.after
def gY (nm:bK):List cQ->Option Nat
 | []=>none
 | r::l=>match GK nm r with
  | some e=>some e
  | none=>gY nm l
def iG (nm:bK):Prop:=∀x∈nm,aO (-2) x.2=true
theorem KO {nm:bK}(h:iG nm){n:List UInt8}{s:List Rg}(hf:tc n nm=some s):aO (-2) s=true:=by
 induction nm with
 | nil=>cases hf
 | cons x l ih =>
  rw[tc]at hf;split at hf
  ·cases hf;exact h x (List.mem_cons_self ..)
  exact ih (λy hy=>h y (List.mem_cons_of_mem _ hy)) hf
theorem eQ {nm:bK}(h:iG nm):∀{k:bB} {s:List Rg},gU k->cK nm k=.ok s->aO (-2) s=true
 | .lit _ s0,s,hk,e=>by cases e;exact hk.1
 | .ref pos n,s,hk,e=>by
  rw[cK]at e;split at e
  ·rename_i t ht;cases e;exact KO h ht
  cases e
 | .not _ k,s,hk,e=>by
  rw[cK]at e;split at e
  ·rename_i t ht;cases e;exact qV (eQ (k:=k) h hk ht)
  cases e
 | .bin c _ k r,s,hk,e=>by
  rw[cK]at e;split at e
  ·cases e
  split at e
  ·cases e
  cases e;split
  ·exact sG _ _
  split
  ·exact xQ _ _
  exact FE _ _
mutual
def Pl (Q:bB->Prop):aG->Prop
 | .one k=>Q k
 | .any=>True
 | .gh=>True
 | .cat l=>BA Q l
 | .alt l=>BA Q l
 | .many x _ _=>Pl Q x
def BA (Q:bB->Prop):List aG->Prop
 | []=>True
 | x::l=>Pl Q x/\BA Q l
end
mutual
def aEX (S:bB->List Rg):aG->aG
 | .one k=>.one (.lit 0 (S k))
 | .any=>.any
 | .gh=>.gh
 | .cat l=>.cat (WS S l)
 | .alt l=>.alt (WS S l)
 | .many x lo hi=>.many (aEX S x) lo hi
def WS (S:bB->List Rg):List aG->List aG
 | []=>[]
 | x::l=>aEX S x::WS S l
end
end Cae
