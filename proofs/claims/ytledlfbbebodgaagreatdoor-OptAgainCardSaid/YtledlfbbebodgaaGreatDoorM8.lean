/- Texts of this claim, merged: Rp9, Rpa, Vd, Rpb, Rpc, Prl4, Pmean4. -/
import Derived.Test.YtledlfbbebodgaaGreatDoorM7
import Derived.Recover
set_option maxRecDepth 100000
set_option linter.unusedSimpArgs false
set_option linter.unusedVariables false
set_option maxHeartbeats 8000000
section
namespace Go.Proofs.YtledlfbbebodgaaGreatDoor
open Go.Vc Go.Proofs Go.RowKit Cae
attribute [local irreducible] dd ae ak a7 runK bE Sl Vc.Own vc aU cJ a8
mutual
theorem aOV:∀d,NI d
 | 0=>Ea
 | d+1=>E0 d (sK d)
theorem sK:∀d,aDk d
 | 0=>X0 0 (Xz 0 (HW 0 Ea))
 | d+1=>X0 (d+1) (Xz (d+1) (HW (d+1) (E0 d (sK d))))
end
def AI (a:List UInt8×Nat×Nat):List Value:=[str a.1,.int .i64 a.2.1,bd a.2.2]
def iU (a:Nat×Bool×Nat×Nat):List Value:=[.int .i64 a.1,.bool a.2.1,bd a.2.2.1,bd a.2.2.2]
theorem Uu (a:List UInt8×Nat×Nat):∀u∈AI a,u.oneCell'=true:=by
 intro u hu;simp[AI,bd]at hu;rcases hu with rfl|rfl|rfl<;>rfl
theorem rK (a:Nat×Bool×Nat×Nat):∀u∈iU a,u.oneCell'=true:=by
 intro u hu;simp[iU,bd]at hu;rcases hu with rfl|rfl|rfl|rfl<;>rfl
def tX (X:Nat->Prop)(w:World)(a:List UInt8×Nat×Nat)(c:fA):Prop:=a.1=c.name/\a.2.1=c.pos/\eY X w (bd a.2.2) c.kind
def lQ (X:Nat->Prop)(w:World)(a:Nat×Bool×Nat×Nat)(r:cD):Prop:=a.1=r.pos/\a.2.1=r.brk/\ai X w (bd a.2.2.1) r.before/\ai X w (bd a.2.2.2) r.after
theorem _root_.Cae.cU.imp {α β:Type}{R S:α->β->Prop}{l:List α}{m:List β}(h:cU R l m)(k:∀a b,R a b->S a b):cU S l m:=by
 induction h with
 | nil=>exact .nil
 | cons h1 _ ih=>exact .cons (k _ _ h1) ih
theorem tX.mono {X X' Y:Nat->Prop}{w w':World}(hk:Kept Y w w')(hY:∀i,Y i->X i)(hX:∀i,X' i->X i){a:List UInt8×Nat×Nat}{c:fA}(h:tX X w a c):tX X' w' a c:=⟨h.1,h.2.1,h.2.2.mono hk hY hX⟩
theorem tX.top {X:Nat->Prop}{w:World}{a:List UInt8×Nat×Nat}{c:fA}(h:tX X w a c):tX (λb=>X b\/w.heap.size<=b) w a c:=⟨h.1,h.2.1,h.2.2.top⟩
theorem lQ.mono {X X' Y:Nat->Prop}{w w':World}(hk:Kept Y w w')(hY:∀i,Y i->X i)(hX:∀i,X' i->X i){a:Nat×Bool×Nat×Nat}{c:cD}(h:lQ X w a c):lQ X' w' a c:=⟨h.1,h.2.1,h.2.2.1.mono hk hY hX,h.2.2.2.mono hk hY hX⟩
theorem lQ.top {X:Nat->Prop}{w:World}{a:Nat×Bool×Nat×Nat}{c:cD}(h:lQ X w a c):lQ (λb=>X b\/w.heap.size<=b) w a c:=⟨h.1,h.2.1,h.2.2.1.top,h.2.2.2.top⟩
def jf (X:Nat->Prop)(w:World)(v:Value)(f:dw):Prop:=∃cv rv cs rs,v=.agg #[cv,rv,.bool f.els]/\Sl X 3 (En AI) w cv cs/\Sl X 4 (En iU) w rv rs/\cU (tX X w) cs f.cQ/\cU (lQ X w) rs f.rules
theorem cE {α β:Type}{p:Pa α}{q:α->Pa β}{l:List Tok}{e:Nat×Nat}(h:p l=.error e):Cae.pb p q l=.error e:=by
 unfold Cae.pb;rw[h]
theorem Ha {m:Nat}{acc:List fA}{l1 l0:List Tok}(dG:bS m acc l1=bS 1000 [] l0)(hm:l1.length<m)(ba:dT [99,108,97,115,115] l1=true)(kr:acc.length≠20) :
  bS 1000 [] l0=Cae.pb nZ (λc=>bS (m-1) (acc++[c])) l1:=by
 obtain⟨m',rfl⟩:∃m',m=m'+1:=⟨m-1,by omega⟩;rw[<-dG,bS];unfold ay;rw[ba,if_pos rfl,if_neg kr];rfl
theorem ts {m:Nat}{acc:List fA}{l1 l0:List Tok}{e:Nat×Nat}(dG:bS m acc l1=bS 1000 [] l0)(hm:l1.length<m)(ba:dT [99,108,97,115,115] l1=true)(kr:acc.length≠20)(h:nZ l1=.error e):jB l0=.error e:=by
 unfold jB;exact cE (by rw[Ha dG hm ba kr];exact cE h)
theorem UT {m:Nat}{acc:List fA}{l1 l0:List Tok}(dG:bS m acc l1=bS 1000 [] l0)(hm:l1.length<m)(ba:dT [99,108,97,115,115] l1=true)(kr:acc.length=20):jB l0=.error (4,(Cae.hd l1).pos):=by
 obtain⟨m',rfl⟩:∃m',m=m'+1:=⟨m-1,by omega⟩;unfold jB;refine cE ?_;rw[<-dG,bS];unfold ay;rw[ba,if_pos rfl,if_pos kr];rfl
theorem Z5 {m:Nat}{acc:List fA}{l1 l0:List Tok}(dG:bS m acc l1=bS 1000 [] l0)(hm:l1.length<m)(ba:dT [99,108,97,115,115] l1=false):bS 1000 [] l0=.ok (acc,l1):=by
 obtain⟨m',rfl⟩:∃m',m=m'+1:=⟨m-1,by omega⟩;rw[<-dG,bS];unfold ay;rw[ba];rfl
theorem qp {m:Nat}{acc:List cD}{l1 l0:List Tok}(dG:bR m acc l1=bR 1000 [] l0)(hm:l1.length<m)(ba:iH l1=true)(kr:acc.length≠20) :
  bR 1000 [] l0=Cae.pb lO (λc=>bR (m-1) (acc++[c])) l1:=by
 obtain⟨m',rfl⟩:∃m',m=m'+1:=⟨m-1,by omega⟩;rw[<-dG,bR];unfold ay;rw[ba,if_pos rfl,if_neg kr];rfl
theorem ep {m:Nat}{acc:List cD}{cs:List fA}{l1 l0 l:List Tok}{e:Nat×Nat}(iW:bS 1000 [] l=.ok (cs,l0))(dG:bR m acc l1=bR 1000 [] l0)(hm:l1.length<m)(ba:iH l1=true)(kr:acc.length≠20)(h:lO l1=.error e):jB l=.error e:=by
 unfold jB;rw[aH iW];exact cE (by rw[qp dG hm ba kr];exact cE h)
theorem Jm {m:Nat}{acc:List cD}{cs:List fA}{l1 l0 l:List Tok}(iW:bS 1000 [] l=.ok (cs,l0))(dG:bR m acc l1=bR 1000 [] l0)(hm:l1.length<m)(ba:iH l1=true)(kr:acc.length=20):jB l=.error (4,(Cae.hd l1).pos):=by
 obtain⟨m',rfl⟩:∃m',m=m'+1:=⟨m-1,by omega⟩;unfold jB;rw[aH iW];refine cE ?_;rw[<-dG,bR];unfold ay;rw[ba,if_pos rfl,if_pos kr];rfl
theorem aBL {m:Nat}{acc:List cD}{l1 l0:List Tok}(dG:bR m acc l1=bR 1000 [] l0)(hm:l1.length<m)(ba:iH l1=false):bR 1000 [] l0=.ok (acc,l1):=by
 obtain⟨m',rfl⟩:∃m',m=m'+1:=⟨m-1,by omega⟩;rw[<-dG,bR];unfold ay;rw[ba];rfl
theorem YJ:Sh nZ:=Sh.pbr GL λ_=>Sh.pb (gS.sh (iE _)) λ_=>Le.pb (gS.sh GQ).le λ_=>Le.pb (gS.sh (iE _)).le λ_=>Le.pb (Lo.le (Au (pI 9))) λ_=>Le.pb (gS.sh (iE _)).le λ_=>Le.pr
theorem zG:Sh lO:=gS.sh aA4
theorem aDN {pb B:Nat}{w:World}{l0:List Tok}(h0:PS pb B w l0):Pc 57 [.pointer (some ⟨pb,0,none⟩)] pb B w l0 jB (λw' r f=>jf (·<w.heap.size) w' r f):=by
 have hle:=h0.le;have aw:=h0.lt;refine bM Tryz.func57 rfl (by kernel_rfl) [.cell 2 26] rfl ?_;push_cast -dsimp(maxSteps:=4000000) [Tryz.ntmps57];refine ag (z:=[.slice none 0 0,.slice none 0 0,.bool false]) (by kernel_rfl) ?_;intro w1 aZ;have R1:=aZ.aN;have P1:=h0.below aZ.below;have z1:=aZ.size;push_cast -dsimp;refine ag (z:=[.slice none 0 0,.slice none 0 0,.bool false]) (by kernel_rfl) ?_;intro w2 bw;have F2:=bw.aN;have R2:=R1.below bw.below (by omega);have P2:=P1.below bw.below;have z2:=bw.size;rw[z1]at F2;push_cast -dsimp[z1];refine aJ (xt:=26) (n:=3) (by kernel_rfl) F2 rfl (by decide) (by simp;exact⟨rfl,rfl⟩) ?_;intro w3 dZ;have F3:aM w3 (w.heap.size+1) 26 [.slice none 0 0,.slice none 0 0,.bool true]:=dZ.aN;have R3:=R2.kept dZ.kept (by omega);have P3:=P2.kept dZ.kept (λi h=>by omega);have z3:=dZ.size;have k3:Kept (·=pb) w w3:=((Kept.new (X:=(·=pb)) aZ).trans (Kept.new (X:=(·=pb)) bw) (λi _ h=>h)).trans dZ.kept (λi h1 h2=>by omega);push_cast -dsimp;refine aL [4,7,8,9,10,11,12,13,14,15,16,17,18,19,20,21,22,23,24,25,26,27,28,29,30,31,32,33,34,35,36,37,38,39,40] (λz w'=>∃(m:Nat) (acc:List fA) (l1:List Tok) (cv:Value) (cs:List (List UInt8×Nat×Nat)),bS m acc l1=bS 1000 [] l0/\l1.length<m/\acc.length<=20 /\
   aM w' w.heap.size 26 [.slice none 0 0,.slice none 0 0,.bool false]/\aM w' (w.heap.size+1) 26 [cv,.slice none 0 0,.bool true]/\Go.Vc.Own (w.heap.size+2) 90 3 AI w' cv cs /\
   cU (tX (λb=>b<w.heap.size+2\/cv.ownBlock=some b) w') cs acc/\PS pb B w' l1/\Kept (·=pb) w w') (λz w'=>xc w' pb) ?_ ?_
 ·have aw:l0.length<1000:=by have:=h0.tl.len;omega
  exact⟨1000,[],l0,_,[],rfl,aw,by simp,R3,F3,Vc.Own.nil (enc:=AI) _ _ (λ_=>rfl) _,.nil,P3,k3⟩
 rintro z w' ⟨m,acc,l1,cv,cs,dG,hm,I1,hR,hF,hO,hV,hP,hk⟩;have j1:=hV.len;have hzw:=hk.size;have VW:=hP.len;have si:=hF.lt;obtain⟨ca,cc,Sx⟩:=hO.slice;push_cast -dsimp;refine aA (B9 [99,108,97,115,115] hP) ?_;rintro _ wx ⟨rfl,hwx⟩;obtain rfl:w'=wx:=hwx.symm;cases ba:dT [99,108,97,115,115] l1 with
 | true =>
  have d0:w'.cell? ⟨w.heap.size+1,0,none⟩=some (.slice ca cs.length cc):=by rw[<-Sx];exact hF.cell rfl
  push_cast -dsimp[d0];refine⟨λkr=>?_,λkr=>?_⟩
  ·refine aG (jZ 4 hP) (λ_ _ h=>h.elim) ?_;rintro ce we ⟨ht,hb⟩;push_cast -dsimp;exact⟨4,_,UT dG hm ba (by omega),ht.mono (by omega),hk.trans (Kept.aO hb (X:=(·=pb)) (λi h1 h2=>by omega)) (λi _ h=>h)⟩
  have kr:acc.length≠20:=by omega
  obtain⟨t1,r1,mj⟩:=hP.tl.cons;have Vz:Cae.hd l1=t1:=by rw[mj];rfl
  have hP':=hP;rw[mj]at hP';obtain⟨b,o,c,hBp,hc,dD,c0,c1,c2,c3⟩:=hP'.hd;have cb:w'.cell? ⟨pb,0,none⟩=some (.slice (some ⟨b,o,none⟩) (r1.length+1) c):=hBp.cell rfl;have iV:nZ l1=Cae.pb (dB [99,108,97,115,115]) (λ_=>Cae.pb mX λn=>Cae.pb (dB [61]) λ_=>Cae.pb (qY 9) λk=>Cae.pb (dB [59]) λ_=>pr ⟨n,t1.pos,k⟩) l1:=by
   unfold nZ;rw[aH (p:=dW) (x:=Cae.hd l1) (l1:=l1) rfl,Vz]
  push_cast -dsimp[cb,c2];refine⟨by omega,?_⟩;refine ag (z:=[str [],.int .i64 0,.pointer none]) (by kernel_rfl) ?_;intro w4 az;have C4:=az.aN;have P4:=hP.below az.below;have z4:=az.size;have k4:=hk.trans (Kept.new (X:=(·=pb)) az) (λi _ h=>h);push_cast -dsimp;refine aJ (xt:=90) (n:=3) (by kernel_rfl) C4 rfl (by decide) (by simp;exact⟨rfl,rfl,rfl⟩) ?_;intro w5 cO;have C5:aM w5 w'.heap.size 90 [str [],.int .i64 t1.pos,.pointer none]:=cO.aN;have P5:=P4.kept cO.kept (λi h=>by omega);have k5:=k4.trans cO.kept (λi h1 h2=>by omega);have z5:=cO.size;push_cast -dsimp;refine aG (fb [99,108,97,115,115] P5) ?_ ?_;rotate_left;·
   rintro ce we ⟨e,pos,he,ht,eN⟩
   push_cast -dsimp
   refine⟨e,pos,ts dG hm ba kr ?_,ht.mono (by have:=k5.size;omega),k5.trans eN (λi _ h=>h)⟩
   rw[iV]
   exact cE he
  rintro _ w6 ⟨_,l2,e2,rfl,P6,sH⟩;have C6:=C5.kept sH (by omega);have k6:=k5.trans sH (λi _ h=>h);have z6:=sH.size;push_cast -dsimp;refine aG (XD P6) ?_ ?_;rotate_left;·
   rintro ce we ⟨e,pos,he,ht,eN⟩
   push_cast -dsimp
   refine⟨e,pos,ts dG hm ba kr ?_,ht.mono (by have:=k6.size;omega),k6.trans eN (λi _ h=>h)⟩
   rw[iV]
   rw[aH e2];exact cE he
  rintro _ w7 ⟨nm,l3,e3,rfl,P7,kt7⟩;have C7:=C6.kept kt7 (by omega);have k7:=k6.trans kt7 (λi _ h=>h);have z7:=kt7.size;push_cast -dsimp;refine aC C7 (by simp) rfl ?_;intro w8 sE;have C8:aM w8 w'.heap.size 90 [str nm,.int .i64 t1.pos,.pointer none]:=sE.aN;have P8:=P7.kept sE.kept (λi h=>by omega);have k8:=k7.trans sE.kept (λi h1 h2=>by omega);have z8:=sE.size;push_cast -dsimp;refine aG (fb [61] P8) ?_ ?_;rotate_left;·
   rintro ce we ⟨e,pos,he,ht,eN⟩
   push_cast -dsimp
   refine⟨e,pos,ts dG hm ba kr ?_,ht.mono (by have:=k8.size;omega),k8.trans eN (λi _ h=>h)⟩
   rw[iV]
   rw[aH e2,aH e3];exact cE he
  rintro _ w9 ⟨_,l4,e4,rfl,P9,kt9⟩;have C9:=C8.kept kt9 (by omega);have k9:=k8.trans kt9 (λi _ h=>h);have z9:=kt9.size;push_cast -dsimp;refine aG (aFs 9 0 (by omega) (by omega) pb B w9 l4 P9) ?_ ?_;rotate_left;·
   rintro ce we ⟨e,pos,he,ht,eN⟩
   push_cast -dsimp
   refine⟨e,pos,ts dG hm ba kr ?_,ht.mono (by have:=k9.size;omega),k9.trans eN (λi _ h=>h)⟩
   rw[iV]
   rw[aH e2,aH e3,aH e4];exact cE he
  rintro u wa ⟨kd,l5,e5,Va,Pa,u7⟩;obtain⟨ub,rfl,HL⟩:=Va.ptr;have Ca:=C9.kept u7 (by omega);have ka:=k9.trans u7 (λi _ h=>h);have za:=u7.size;push_cast -dsimp;refine aC Ca (by simp) rfl ?_;intro wb cL;have Cb:aM wb w'.heap.size 90 [str nm,.int .i64 t1.pos,bd ub]:=cL.aN;have Pb:=Pa.kept cL.kept (λi h=>by omega);have kb:=ka.trans cL.kept (λi h1 h2=>by omega);have zb:=cL.size;push_cast -dsimp;refine aG (fb [59] Pb) ?_ ?_;rotate_left;·
   rintro ce we ⟨e,pos,he,ht,eN⟩
   push_cast -dsimp
   refine⟨e,pos,ts dG hm ba kr ?_,ht.mono (by have:=kb.size;omega),kb.trans eN (λi _ h=>h)⟩
   rw[iV]
   rw[aH e2,aH e3,aH e4,aH e5];exact cE he
  rintro _ wc ⟨_,l6,e6,rfl,Yw,u9⟩;have Cc:=Cb.kept u9 (by omega);have kc:=kb.trans u9 (λi _ h=>h);have zc:=u9.size;have bJ:nZ l1=.ok (⟨nm,t1.pos,kd⟩,l6):=by rw[iV,aH e2,aH e3,aH e4,aH e5,aH e6];rfl
  have hl6:=YJ _ _ _ bJ;have kw:Kept (λi=>i=pb) w' wc:=by
   refine((((((((Kept.new (X:=(·=pb)) az).trans cO.kept (λi h1 h2=>by omega)).trans sH (λi _ h=>h)).trans kt7 (λi _ h=>h)).trans sE.kept (λi h1 h2=>by omega)).trans kt9 (λi _ h=>h)).trans u7 (λi _ h=>h)).trans cL.kept (λi h1 h2=>by omega)).trans u9 (λi _ h=>h)
  have CL:=hR.kept kw (by omega);have hFc:=hF.kept kw (by omega);have yJ:=hO.aI kw (λg hg h=>by have:=(hO.block g hg).1;omega);have fg:∀g,cv.ownBlock=some g->w.heap.size+2<=g/\g<w'.heap.size:=λg hg=>hO.block g hg;have hVc:cU (tX (λb=>(b<w.heap.size+2\/cv.ownBlock=some b)\/w'.heap.size<=b) wc) cs acc:=hV.imp λa c h=>h.top.mono kw (λi h=>by omega) (λi h=>h);have hVk:eY (λb=>b<w9.heap.size\/wa.heap.size<=b) wc (bd ub) kd:=(Va.top.mono cL.kept (X':=λb=>b<w9.heap.size\/wa.heap.size<=b) (λi h=>by omega) (λi h=>h)).mono u9 (λi h=>by omega) (λi h=>h);have dc:wc.cell? ⟨w.heap.size+1,0,none⟩=some (.slice ca cs.length cc):=by rw[<-Sx];exact hFc.cell rfl
  have dl:aB wc ⟨w'.heap.size,0,none⟩ 0 3=some [str nm,.int .i64 t1.pos,bd ub]:=Cc.aB;push_cast -dsimp[dc,dl];refine cT Uh rfl rfl (by omega) ?_;intro wd lG;have hRd:=CL.below lG.below CL.lt;have hFd:=hFc.below lG.below hFc.lt;have hOd:=yJ.new lG;rw[Sx]at hOd;have Pd:=Yw.below lG.below;have zd:=lG.size;push_cast -dsimp;refine aS (base:=w.heap.size+2) [(nm,t1.pos,ub)] (enc:=AI) Uh hOd (by rfl) (λj y hy=>by simpa[AI,bd] using lG.cell hy) Uu (by rw[j1];simp only[List.length_cons,List.length_nil];omega) (by omega) ?_;intro cv2 we QB fT lE;rw[<-Sx]at fT lE;have kg:Kept (λj=>cv.ownBlock=some j) wd we:=Kept.grown fT (λ_ h=>h);have NY:=hRd.kept kg (λh=>by have:=fg _ h;omega);have hFe:=hFd.kept kg (λh=>by have:=fg _ h;omega);have Pe:=Pd.kept kg (λi h=>by have:=fg _ h;omega);have ze:=kg.size;obtain⟨a5,c5,rfl⟩:=QB.slice;push_cast -dsimp;refine aC hFe (by simp) rfl ?_;intro wf jP;have IZ:aM wf (w.heap.size+1) 26 [.slice a5 (cs++[(nm,t1.pos,ub)]).length c5,.slice none 0 0,.bool true]:=jP.aN;have hRf:=NY.kept jP.kept (by omega);have Zz:=QB.aI jP.kept (λg hg h=>by have:=(QB.block g hg).1;omega);have Pf:=Pe.kept jP.kept (λi h=>by omega);have kY:Kept (λi=>i=w.heap.size+1\/cv.ownBlock=some i) wc wf:=((Kept.new (X:=λi=>i=w.heap.size+1\/cv.ownBlock=some i) lG).trans kg (λi _ h=>.inr h)).trans jP.kept (λi _ h=>.inl h);have kf:=kc.trans kY (X:=(·=pb)) (λi h1 h2=>by
   rcases h2 with h2|h2
   ·omega
   have:=fg _ h2;omega)
  have zkw:=kw.size;have hVf:cU (tX (λb=>b<w.heap.size+2\/(Value.slice a5 (cs++[(nm,t1.pos,ub)]).length c5).ownBlock=some b) wf) (cs++[(nm,t1.pos,ub)]) (acc++[⟨nm,t1.pos,kd⟩]):=by
   refine(hVc.imp λa c h=>h.mono kY (λi h=>?_) (λi h=>?_)).snoc ⟨rfl,rfl,hVk.mono kY (λi h=>?_) (λi h=>?_)⟩
   ·rcases h with h|h
    ·exact .inl (.inl (by omega))
    exact .inl (.inr h)
   ·rcases h with h|h
    ·exact .inl (.inl h)
    rcases lE i h with h|h
    ·exact .inl (.inr h)
    exact .inr (by omega)
   ·rcases h with h|h
    ·exact .inl (by omega)
    have:=fg _ h;exact .inl (by omega)
   rcases h with h|h
   ·exact .inl (by omega)
   rcases lE i h with h|h
   ·have:=fg _ h;exact .inl (by omega)
   exact .inr (by omega)
  have jD:bS (m-1) (acc++[⟨nm,t1.pos,kd⟩]) l6=bS 1000 [] l0:=by rw[Ha dG hm ba kr,aH bJ]
  have hPf:=Pf.len;push_cast -dsimp;exact⟨⟨m-1,acc++[⟨nm,t1.pos,kd⟩],l6,_,_,jD,by omega,by rw[List.length_append,List.length_singleton];omega,hRf,IZ,Zz,hVf,Pf,kf⟩,by rw[hPf,VW];exact hl6⟩
 | false =>
  have iV:=Z5 dG hm ba;have aEB:=Sx;have N0:∃V0,V0=w':=⟨_,rfl⟩;obtain⟨V0,N0⟩:=N0;have Ke:∃lc,lc=l1:=⟨_,rfl⟩;obtain⟨lc,Ke⟩:=Ke;rw[Sx]at hF;rw[<-N0]at hR hF hO hV hP hk hzw VW ⊢
  rw[<-Ke]at iV hP VW;clear dG hm ba;have hF0:=hF;have hP0:=hP;have hk0:=hk;push_cast -dsimp;refine aL [5,41,42,43,44,45,46,47,48,49,50,51,52,53,54,55,56,57,58,59,60,61,62,63,64,65,66,67,68,69,70,71,72,73,74,75,76,77,78,79,80,81,82,83,84] (λz w'=>∃(m:Nat) (acc:List cD) (l1:List Tok) (rv:Value) (rs:List (Nat×Bool×Nat×Nat)),bR m acc l1=bR 1000 [] lc/\l1.length<m/\acc.length<=20 /\
    aM w' (w.heap.size+1) 26 [.slice ca cs.length cc,rv,.bool true]/\Go.Vc.Own V0.heap.size 50 4 iU w' rv rs /\
    cU (lQ (λb=>b<V0.heap.size\/rv.ownBlock=some b) w') rs acc/\PS pb B w' l1/\Kept (·=pb) w w'/\Kept (λi=>i=pb\/i=w.heap.size+1) V0 w') (λz w'=>xc w' pb) ?_ ?_
  ·have aw:lc.length<1000:=by have:=hP0.tl.len;omega
   exact⟨1000,[],lc,_,[],rfl,aw,by simp,hF0,Vc.Own.nil (enc:=iU) _ _ (λ_=>rfl) _,.nil,hP0,hk0,Kept.refl _ _⟩
  clear hF hP hk VW;have hVc:=hV;have yJ:=hO;have aSN:=j1;have aRh:=acc;rintro z w' ⟨m,kp,l1,rv,rs,dG,hm,aP5,hF,hO,hV,hP,hk,AY⟩;have j1:=hV.len;have hzw:=hk.size;have VW:=hP.len;have aSW:=hF.lt;have hf0:=hF0.lt;have aTa:=AY.size;obtain⟨ra,rc,Dj⟩:=hO.slice;obtain⟨t1,r1,mj⟩:=hP.tl.cons;have Vz:Cae.hd l1=t1:=by rw[mj];rfl
  have hP':=hP;rw[mj]at hP';obtain⟨b,o,c,hBp,hc,dD,c0,c1,c2,c3⟩:=hP'.hd;have mo:lO l1=Cae.pb gZ (λb=>Cae.pb (qh 9) λx=>Cae.pb (dB [58]) λ_=>Cae.pb (qh 9) λy=>Cae.pb (dB [59]) λ_=>pr ⟨t1.pos,b,x,y⟩) l1:=by
   unfold lO;rw[aH (p:=dW) (x:=Cae.hd l1) (l1:=l1) rfl,Vz]
  have jO:iH l1=(dT [98,114,101,97,107] l1 || dT [107,101,101,112] l1):=rfl;push_cast -dsimp;refine aA (B9 [98,114,101,97,107] hP) ?_;rintro _ wx ⟨rfl,hwx⟩;obtain rfl:w'=wx:=hwx.symm;cases gA:dT [98,114,101,97,107] l1 with
  | true =>
   have ba:iH l1=true:=by rw[jO,gA];rfl
   have d1:w'.cell? ⟨w.heap.size+1,1,none⟩=some (.slice ra rs.length rc):=by rw[<-Dj];exact hF.cell rfl
   push_cast -dsimp[d1];refine⟨λkr=>?_,λkr=>?_⟩
   ·refine aG (jZ 4 hP) (λ_ _ h=>h.elim) ?_;rintro ce we ⟨ht,hb⟩;push_cast -dsimp;exact⟨4,_,Jm iV dG hm ba (by omega),ht.mono (by omega),hk.trans (Kept.aO hb (X:=(·=pb)) (λi h1 h2=>by omega)) (λi _ h=>h)⟩
   have kr:kp.length≠20:=by omega
   have cb:w'.cell? ⟨pb,0,none⟩=some (.slice (some ⟨b,o,none⟩) (r1.length+1) c):=hBp.cell rfl;push_cast -dsimp[cb,c2];refine⟨by omega,?_⟩;refine ag (z:=[.int .i64 0,.bool false,.pointer none,.pointer none]) (by kernel_rfl) ?_;intro w4 az;have C4:=az.aN;have P4:=hP.below az.below;have z4:=az.size;have k4:=hk.trans (Kept.new (X:=(·=pb)) az) (λi _ h=>h);push_cast -dsimp;refine aJ (xt:=50) (n:=4) (by kernel_rfl) C4 rfl (by decide) (by simp;exact⟨rfl,rfl,rfl⟩) ?_;intro w5 cO;have C5:aM w5 w'.heap.size 50 [.int .i64 t1.pos,.bool false,.pointer none,.pointer none]:=cO.aN;have P5:=P4.kept cO.kept (λi h=>by omega);have k5:=k4.trans cO.kept (λi h1 h2=>by omega);have z5:=cO.size;have kw5:Kept (λi=>i=pb) w' w5:=(Kept.new (X:=(·=pb)) az).trans cO.kept (λi h1 h2=>by omega);push_cast -dsimp;refine aA (gG [98,114,101,97,107] P5) ?_;rintro _ wt hT;rcases hT with ⟨uS,rfl,t6,l3,el6,h56,Pt,sH,Ni⟩|⟨uS,rfl,qU⟩
   ·have lF:cM l1=.ok ((),l3):=by rw[el6];exact dV h56
    have pY:gZ l1=.ok (true,l3):=by
     unfold gZ ay;rw[uS,if_pos rfl,aH lF];rfl
    have Ct:=C5.kept sH (by omega);push_cast -dsimp;refine aC Ct (by simp) rfl ?_;intro w6 bZ;have C6:aM w6 w'.heap.size 50 [.int .i64 t1.pos,.bool true,.pointer none,.pointer none]:=bZ.aN;have P6:=Pt.kept bZ.kept (λi h=>by omega);have k6:=(k5.trans sH (λi _ h=>h)).trans bZ.kept (λi h1 h2=>by omega);have kw6:=(kw5.trans sH (λi _ h=>h)).trans bZ.kept (λi h1 h2=>by omega);have z6:w5.heap.size<=w6.heap.size:=by have:=bZ.kept.size;have:=sH.size;omega
    have d7:w6.cell? ⟨w'.heap.size,1,none⟩=some (.bool true):=C6.cell rfl;push_cast -dsimp[d7];refine aG (sK 9 0 (by omega) (by omega) pb B w6 l3 P6) ?_ ?_;rotate_left;·
     rintro ce we ⟨e,pos,he,ht,eN⟩
     push_cast -dsimp
     refine⟨e,pos,ep iV dG hm ba kr ?_,ht.mono (by have:=k6.size;omega),k6.trans eN (λi _ h=>h)⟩
     rw[mo]
     rw[aH pY];exact cE he
    rintro u wa ⟨x1,l5,e5,Va,Pa,u7⟩;obtain⟨ub,rfl,HL,_⟩:=Va.ptr;have Ca:=C6.kept u7 (by omega);have ka:=k6.trans u7 (λi _ h=>h);have za:=u7.size;push_cast -dsimp;refine aC Ca (by simp) rfl ?_;intro wb cL;have Cb:aM wb w'.heap.size 50 [.int .i64 t1.pos,.bool true,bd ub,.pointer none]:=cL.aN;have Pb:=Pa.kept cL.kept (λi h=>by omega);have kb:=ka.trans cL.kept (λi h1 h2=>by omega);have zb:=cL.size;push_cast -dsimp;refine aG (fb [58] Pb) ?_ ?_;rotate_left;·
     rintro ce we ⟨e,pos,he,ht,eN⟩
     push_cast -dsimp
     refine⟨e,pos,ep iV dG hm ba kr ?_,ht.mono (by have:=kb.size;omega),kb.trans eN (λi _ h=>h)⟩
     rw[mo]
     rw[aH pY,aH e5];exact cE he
    rintro _ wc ⟨_,l6,e6,rfl,Yw,u9⟩;have Cc:=Cb.kept u9 (by omega);have kc:=kb.trans u9 (λi _ h=>h);have zc:=u9.size;push_cast -dsimp;refine aG (sK 9 0 (by omega) (by omega) pb B wc l6 Yw) ?_ ?_;rotate_left;·
     rintro ce we ⟨e,pos,he,ht,eN⟩
     push_cast -dsimp
     refine⟨e,pos,ep iV dG hm ba kr ?_,ht.mono (by have:=kc.size;omega),kc.trans eN (λi _ h=>h)⟩
     rw[mo]
     rw[aH pY,aH e5,aH e6];exact cE he
    rintro u wd ⟨x2,l7,e7,Vd,Pd,Ap⟩;obtain⟨vb,rfl,TG,_⟩:=Vd.ptr;have Cd:=Cc.kept Ap (by omega);have kd:=kc.trans Ap (λi _ h=>h);have zd:=Ap.size;push_cast -dsimp;refine aC Cd (by simp) rfl ?_;intro we nK;have Ce:aM we w'.heap.size 50 [.int .i64 t1.pos,.bool true,bd ub,bd vb]:=nK.aN;have Pe:=Pd.kept nK.kept (λi h=>by omega);have ke:=kd.trans nK.kept (λi h1 h2=>by omega);have ze:=nK.size;push_cast -dsimp;refine aG (fb [59] Pe) ?_ ?_;rotate_left;·
     rintro ce we ⟨e,pos,he,ht,eN⟩
     push_cast -dsimp
     refine⟨e,pos,ep iV dG hm ba kr ?_,ht.mono (by have:=ke.size;omega),ke.trans eN (λi _ h=>h)⟩
     rw[mo]
     rw[aH pY,aH e5,aH e6,aH e7];exact cE he
    rintro _ wf ⟨_,l8,e8,rfl,Pf,wI⟩;have Cf:=Ce.kept wI (by omega);have kf:=ke.trans wI (λi _ h=>h);have zf:=wI.size;have bJ:lO l1=.ok (⟨t1.pos,true,x1,x2⟩,l8):=by rw[mo,aH pY,aH e5,aH e6,aH e7,aH e8];rfl
    have hl8:=zG _ _ _ bJ;have kw:Kept (λi=>i=pb) w' wf:=((((((kw6.trans u7 (λi _ h=>h)).trans cL.kept (λi h1 h2=>by omega)).trans u9 (λi _ h=>h)).trans Ap (λi _ h=>h)).trans nK.kept (λi h1 h2=>by omega)).trans wI (λi _ h=>h));have IZ:=hF.kept kw (by omega);have Zz:=hO.aI kw (λg hg h=>by have:=(hO.block g hg).1;omega);have fg:∀g,rv.ownBlock=some g->V0.heap.size<=g/\g<w'.heap.size:=λg hg=>hO.block g hg;have hVf:cU (lQ (λb=>(b<V0.heap.size\/rv.ownBlock=some b)\/w'.heap.size<=b) wf) rs kp:=hV.imp λa c h=>h.top.mono kw (λi h=>by omega) (λi h=>h);have L6:ai (λb=>b<w6.heap.size\/wa.heap.size<=b) wf (bd ub) x1:=(((Va.top.mono cL.kept (X':=λb=>b<w6.heap.size\/wa.heap.size<=b) (λi h=>by omega) (λi h=>h)).mono u9 (X':=λb=>b<w6.heap.size\/wa.heap.size<=b) (λi h=>by omega) (λi h=>h)).mono Ap (X':=λb=>b<w6.heap.size\/wa.heap.size<=b) (λi h=>by omega) (λi h=>h)).mono nK.kept (X':=λb=>b<w6.heap.size\/wa.heap.size<=b) (λi h=>by omega) (λi h=>h) |>.mono wI (λi h=>by omega) (λi h=>h);have L7:ai (λb=>b<wc.heap.size\/wd.heap.size<=b) wf (bd vb) x2:=(Vd.top.mono nK.kept (X':=λb=>b<wc.heap.size\/wd.heap.size<=b) (λi h=>by omega) (λi h=>h)).mono wI (λi h=>by omega) (λi h=>h);have df:wf.cell? ⟨w.heap.size+1,1,none⟩=some (.slice ra rs.length rc):=by rw[<-Dj];exact IZ.cell rfl
    have dl:aB wf ⟨w'.heap.size,0,none⟩ 0 4=some [.int .i64 t1.pos,.bool true,bd ub,bd vb]:=Cf.aB;push_cast -dsimp[df,dl];refine cT qC rfl rfl (by omega) ?_;intro wg nk;have hFg:=IZ.below nk.below IZ.lt;have VV:=Zz.new nk;rw[Dj]at VV;have Pg:=Pf.below nk.below;have zg:=nk.size;push_cast -dsimp;refine aS (base:=V0.heap.size) [(t1.pos,true,ub,vb)] (enc:=iU) qC VV (by rfl) (λj y hy=>by simpa[iU,bd] using nk.cell hy) rK (by rw[j1];simp only[List.length_cons,List.length_nil];omega) (by omega) ?_;intro rv2 wh L1 QV lE;rw[<-Dj]at QV lE;have kg:Kept (λj=>rv.ownBlock=some j) wg wh:=Kept.grown QV (λ_ h=>h);have Zv:=hFg.kept kg (λh=>by have:=fg _ h;omega);have Ph:=Pg.kept kg (λi h=>by have:=fg _ h;omega);have zh:=kg.size;obtain⟨a5,c5,rfl⟩:=L1.slice;push_cast -dsimp;refine aC Zv (by simp) rfl ?_;intro wi gU;have Yb:aM wi (w.heap.size+1) 26 [.slice ca cs.length cc,.slice a5 (rs++[(t1.pos,true,ub,vb)]).length c5,.bool true]:=gU.aN;have hOi:=L1.aI gU.kept (λg hg h=>by have:=(L1.block g hg).1;omega);have Pi:=Ph.kept gU.kept (λi h=>by omega);have kY:Kept (λi=>i=w.heap.size+1\/rv.ownBlock=some i) wf wi:=((Kept.new (X:=λi=>i=w.heap.size+1\/rv.ownBlock=some i) nk).trans kg (λi _ h=>.inr h)).trans gU.kept (λi _ h=>.inl h);have ki:=kf.trans kY (X:=(·=pb)) (λi h1 h2=>by
     rcases h2 with h2|h2
     ·omega
     have:=fg _ h2;omega)
    have kv0:Kept (λi=>i=pb\/i=w.heap.size+1\/rv.ownBlock=some i) w' wi:=(kw.weaken (Y:=λi=>i=pb\/i=w.heap.size+1\/rv.ownBlock=some i) (λi _ h=>.inl h)).trans kY (λi _ h=>.inr h);have kv:=AY.trans kv0 (λi h1 h2=>by
     rcases h2 with h2|h2|h2
     ·exact .inl h2
     ·exact .inr h2
     have:=fg _ h2;omega)
    have zkw:=kw.size;have hVi:cU (lQ (λb=>b<V0.heap.size\/(Value.slice a5 (rs++[(t1.pos,true,ub,vb)]).length c5).ownBlock=some b) wi) (rs++[(t1.pos,true,ub,vb)]) (kp++[⟨t1.pos,true,x1,x2⟩]):=by
     refine(hVf.imp λa c h=>h.mono kY (λi h=>?_) (λi h=>?_)).snoc ⟨rfl,rfl,L6.mono kY (λi h=>?_) (λi h=>?_),L7.mono kY (λi h=>?_) (λi h=>?_)⟩
     ·rcases h with h|h
      ·exact .inl (.inl (by omega))
      exact .inl (.inr h)
     ·rcases h with h|h
      ·exact .inl (.inl h)
      rcases lE i h with h|h
      ·exact .inl (.inr h)
      exact .inr (by omega)
     ·rcases h with h|h
      ·exact .inl (by omega)
      have:=fg _ h;exact .inl (by omega)
     ·rcases h with h|h
      ·exact .inl (by omega)
      rcases lE i h with h|h
      ·have:=fg _ h;exact .inl (by omega)
      exact .inr (by omega)
     ·rcases h with h|h
      ·exact .inl (by omega)
      have:=fg _ h;exact .inl (by omega)
     rcases h with h|h
     ·exact .inl (by omega)
     rcases lE i h with h|h
     ·have:=fg _ h;exact .inl (by omega)
     exact .inr (by omega)
    have jD:bR (m-1) (kp++[⟨t1.pos,true,x1,x2⟩]) l8=bR 1000 [] lc:=by rw[qp dG hm ba kr,aH bJ]
    have hPi:=Pi.len;push_cast -dsimp;exact⟨⟨m-1,kp++[⟨t1.pos,true,x1,x2⟩],l8,_,_,jD,by omega,by rw[List.length_append,List.length_singleton];omega,Yb,hOi,hVi,Pi,ki,kv⟩,by rw[hPi,VW];exact hl8⟩
   obtain rfl:w5=wt:=qU.symm;push_cast -dsimp;refine aC C5 (by simp) rfl ?_;intro wu Kg;have Cu:aM wu w'.heap.size 50 [.int .i64 t1.pos,.bool false,.pointer none,.pointer none]:=Kg.aN;have Pu:=P5.kept Kg.kept (λi h=>by omega);have ku:=k5.trans Kg.kept (λi h1 h2=>by omega);have zu:=Kg.size;have du:wu.cell? ⟨w'.heap.size,1,none⟩=some (.bool false):=Cu.cell rfl;push_cast -dsimp[du];have Iy:gZ l1=Cae.pb (dB [107,101,101,112]) (λ_=>pr false) l1:=by
    unfold gZ ay;rw[uS];rfl
   refine aG (fb [107,101,101,112] Pu) ?_ ?_;rotate_left;·
    rintro ce we ⟨e,pos,he,ht,eN⟩
    push_cast -dsimp
    refine⟨e,pos,ep iV dG hm ba kr ?_,ht.mono (by have:=ku.size;omega),ku.trans eN (λi _ h=>h)⟩
    rw[mo]
    refine cE ?_;rw[Iy];exact cE he
   rintro _ w6 ⟨_,l3,e3,rfl,P6,sH⟩;have pY:gZ l1=.ok (false,l3):=by rw[Iy,aH e3];rfl
   have C6:=Cu.kept sH (by omega);have k6:=ku.trans sH (λi _ h=>h);have kw6:=(kw5.trans Kg.kept (λi h1 h2=>by omega)).trans sH (λi _ h=>h);have z6:w5.heap.size<=w6.heap.size:=by have:=sH.size;omega
   push_cast -dsimp;refine aG (sK 9 0 (by omega) (by omega) pb B w6 l3 P6) ?_ ?_;rotate_left;·
    rintro ce we ⟨e,pos,he,ht,eN⟩
    push_cast -dsimp
    refine⟨e,pos,ep iV dG hm ba kr ?_,ht.mono (by have:=k6.size;omega),k6.trans eN (λi _ h=>h)⟩
    rw[mo]
    rw[aH pY];exact cE he
   rintro u wa ⟨x1,l5,e5,Va,Pa,u7⟩;obtain⟨ub,rfl,HL,_⟩:=Va.ptr;have Ca:=C6.kept u7 (by omega);have ka:=k6.trans u7 (λi _ h=>h);have za:=u7.size;push_cast -dsimp;refine aC Ca (by simp) rfl ?_;intro wb cL;have Cb:aM wb w'.heap.size 50 [.int .i64 t1.pos,.bool false,bd ub,.pointer none]:=cL.aN;have Pb:=Pa.kept cL.kept (λi h=>by omega);have kb:=ka.trans cL.kept (λi h1 h2=>by omega);have zb:=cL.size;push_cast -dsimp;refine aG (fb [58] Pb) ?_ ?_;rotate_left;·
    rintro ce we ⟨e,pos,he,ht,eN⟩
    push_cast -dsimp
    refine⟨e,pos,ep iV dG hm ba kr ?_,ht.mono (by have:=kb.size;omega),kb.trans eN (λi _ h=>h)⟩
    rw[mo]
    rw[aH pY,aH e5];exact cE he
   rintro _ wc ⟨_,l6,e6,rfl,Yw,u9⟩;have Cc:=Cb.kept u9 (by omega);have kc:=kb.trans u9 (λi _ h=>h);have zc:=u9.size;push_cast -dsimp;refine aG (sK 9 0 (by omega) (by omega) pb B wc l6 Yw) ?_ ?_;rotate_left;·
    rintro ce we ⟨e,pos,he,ht,eN⟩
    push_cast -dsimp
    refine⟨e,pos,ep iV dG hm ba kr ?_,ht.mono (by have:=kc.size;omega),kc.trans eN (λi _ h=>h)⟩
    rw[mo]
    rw[aH pY,aH e5,aH e6];exact cE he
   rintro u wd ⟨x2,l7,e7,Vd,Pd,Ap⟩;obtain⟨vb,rfl,TG,_⟩:=Vd.ptr;have Cd:=Cc.kept Ap (by omega);have kd:=kc.trans Ap (λi _ h=>h);have zd:=Ap.size;push_cast -dsimp;refine aC Cd (by simp) rfl ?_;intro we nK;have Ce:aM we w'.heap.size 50 [.int .i64 t1.pos,.bool false,bd ub,bd vb]:=nK.aN;have Pe:=Pd.kept nK.kept (λi h=>by omega);have ke:=kd.trans nK.kept (λi h1 h2=>by omega);have ze:=nK.size;push_cast -dsimp;refine aG (fb [59] Pe) ?_ ?_;rotate_left;·
    rintro ce we ⟨e,pos,he,ht,eN⟩
    push_cast -dsimp
    refine⟨e,pos,ep iV dG hm ba kr ?_,ht.mono (by have:=ke.size;omega),ke.trans eN (λi _ h=>h)⟩
    rw[mo]
    rw[aH pY,aH e5,aH e6,aH e7];exact cE he
   rintro _ wf ⟨_,l8,e8,rfl,Pf,wI⟩;have Cf:=Ce.kept wI (by omega);have kf:=ke.trans wI (λi _ h=>h);have zf:=wI.size;have bJ:lO l1=.ok (⟨t1.pos,false,x1,x2⟩,l8):=by rw[mo,aH pY,aH e5,aH e6,aH e7,aH e8];rfl
   have hl8:=zG _ _ _ bJ;have kw:Kept (λi=>i=pb) w' wf:=((((((kw6.trans u7 (λi _ h=>h)).trans cL.kept (λi h1 h2=>by omega)).trans u9 (λi _ h=>h)).trans Ap (λi _ h=>h)).trans nK.kept (λi h1 h2=>by omega)).trans wI (λi _ h=>h));have IZ:=hF.kept kw (by omega);have Zz:=hO.aI kw (λg hg h=>by have:=(hO.block g hg).1;omega);have fg:∀g,rv.ownBlock=some g->V0.heap.size<=g/\g<w'.heap.size:=λg hg=>hO.block g hg;have hVf:cU (lQ (λb=>(b<V0.heap.size\/rv.ownBlock=some b)\/w'.heap.size<=b) wf) rs kp:=hV.imp λa c h=>h.top.mono kw (λi h=>by omega) (λi h=>h);have L6:ai (λb=>b<w6.heap.size\/wa.heap.size<=b) wf (bd ub) x1:=(((Va.top.mono cL.kept (X':=λb=>b<w6.heap.size\/wa.heap.size<=b) (λi h=>by omega) (λi h=>h)).mono u9 (X':=λb=>b<w6.heap.size\/wa.heap.size<=b) (λi h=>by omega) (λi h=>h)).mono Ap (X':=λb=>b<w6.heap.size\/wa.heap.size<=b) (λi h=>by omega) (λi h=>h)).mono nK.kept (X':=λb=>b<w6.heap.size\/wa.heap.size<=b) (λi h=>by omega) (λi h=>h) |>.mono wI (λi h=>by omega) (λi h=>h);have L7:ai (λb=>b<wc.heap.size\/wd.heap.size<=b) wf (bd vb) x2:=(Vd.top.mono nK.kept (X':=λb=>b<wc.heap.size\/wd.heap.size<=b) (λi h=>by omega) (λi h=>h)).mono wI (λi h=>by omega) (λi h=>h);have df:wf.cell? ⟨w.heap.size+1,1,none⟩=some (.slice ra rs.length rc):=by rw[<-Dj];exact IZ.cell rfl
   have dl:aB wf ⟨w'.heap.size,0,none⟩ 0 4=some [.int .i64 t1.pos,.bool false,bd ub,bd vb]:=Cf.aB;push_cast -dsimp[df,dl];refine cT qC rfl rfl (by omega) ?_;intro wg nk;have hFg:=IZ.below nk.below IZ.lt;have VV:=Zz.new nk;rw[Dj]at VV;have Pg:=Pf.below nk.below;have zg:=nk.size;push_cast -dsimp;refine aS (base:=V0.heap.size) [(t1.pos,false,ub,vb)] (enc:=iU) qC VV (by rfl) (λj y hy=>by simpa[iU,bd] using nk.cell hy) rK (by rw[j1];simp only[List.length_cons,List.length_nil];omega) (by omega) ?_;intro rv2 wh L1 QV lE;rw[<-Dj]at QV lE;have kg:Kept (λj=>rv.ownBlock=some j) wg wh:=Kept.grown QV (λ_ h=>h);have Zv:=hFg.kept kg (λh=>by have:=fg _ h;omega);have Ph:=Pg.kept kg (λi h=>by have:=fg _ h;omega);have zh:=kg.size;obtain⟨a5,c5,rfl⟩:=L1.slice;push_cast -dsimp;refine aC Zv (by simp) rfl ?_;intro wi gU;have Yb:aM wi (w.heap.size+1) 26 [.slice ca cs.length cc,.slice a5 (rs++[(t1.pos,false,ub,vb)]).length c5,.bool true]:=gU.aN;have hOi:=L1.aI gU.kept (λg hg h=>by have:=(L1.block g hg).1;omega);have Pi:=Ph.kept gU.kept (λi h=>by omega);have kY:Kept (λi=>i=w.heap.size+1\/rv.ownBlock=some i) wf wi:=((Kept.new (X:=λi=>i=w.heap.size+1\/rv.ownBlock=some i) nk).trans kg (λi _ h=>.inr h)).trans gU.kept (λi _ h=>.inl h);have ki:=kf.trans kY (X:=(·=pb)) (λi h1 h2=>by
    rcases h2 with h2|h2
    ·omega
    have:=fg _ h2;omega)
   have kv0:Kept (λi=>i=pb\/i=w.heap.size+1\/rv.ownBlock=some i) w' wi:=(kw.weaken (Y:=λi=>i=pb\/i=w.heap.size+1\/rv.ownBlock=some i) (λi _ h=>.inl h)).trans kY (λi _ h=>.inr h);have kv:=AY.trans kv0 (λi h1 h2=>by
    rcases h2 with h2|h2|h2
    ·exact .inl h2
    ·exact .inr h2
    have:=fg _ h2;omega)
   have zkw:=kw.size;have hVi:cU (lQ (λb=>b<V0.heap.size\/(Value.slice a5 (rs++[(t1.pos,false,ub,vb)]).length c5).ownBlock=some b) wi) (rs++[(t1.pos,false,ub,vb)]) (kp++[⟨t1.pos,false,x1,x2⟩]):=by
    refine(hVf.imp λa c h=>h.mono kY (λi h=>?_) (λi h=>?_)).snoc ⟨rfl,rfl,L6.mono kY (λi h=>?_) (λi h=>?_),L7.mono kY (λi h=>?_) (λi h=>?_)⟩
    ·rcases h with h|h
     ·exact .inl (.inl (by omega))
     exact .inl (.inr h)
    ·rcases h with h|h
     ·exact .inl (.inl h)
     rcases lE i h with h|h
     ·exact .inl (.inr h)
     exact .inr (by omega)
    ·rcases h with h|h
     ·exact .inl (by omega)
     have:=fg _ h;exact .inl (by omega)
    ·rcases h with h|h
     ·exact .inl (by omega)
     rcases lE i h with h|h
     ·have:=fg _ h;exact .inl (by omega)
     exact .inr (by omega)
    ·rcases h with h|h
     ·exact .inl (by omega)
     have:=fg _ h;exact .inl (by omega)
    rcases h with h|h
    ·exact .inl (by omega)
    rcases lE i h with h|h
    ·have:=fg _ h;exact .inl (by omega)
    exact .inr (by omega)
   have jD:bR (m-1) (kp++[⟨t1.pos,false,x1,x2⟩]) l8=bR 1000 [] lc:=by rw[qp dG hm ba kr,aH bJ]
   have hPi:=Pi.len;push_cast -dsimp;exact⟨⟨m-1,kp++[⟨t1.pos,false,x1,x2⟩],l8,_,_,jD,by omega,by rw[List.length_append,List.length_singleton];omega,Yb,hOi,hVi,Pi,ki,kv⟩,by rw[hPi,VW];exact hl8⟩
  | false =>
   rw[gA,Bool.false_or]at jO;push_cast -dsimp;refine aA (B9 [107,101,101,112] hP) ?_;rintro _ wx ⟨rfl,hwx⟩;obtain rfl:w'=wx:=hwx.symm;cases gd:dT [107,101,101,112] l1 with
   | true =>
    have ba:iH l1=true:=by rw[jO,gd]
    have d1:w'.cell? ⟨w.heap.size+1,1,none⟩=some (.slice ra rs.length rc):=by rw[<-Dj];exact hF.cell rfl
    push_cast -dsimp[d1];refine⟨λkr=>?_,λkr=>?_⟩
    ·refine aG (jZ 4 hP) (λ_ _ h=>h.elim) ?_;rintro ce we ⟨ht,hb⟩;push_cast -dsimp;exact⟨4,_,Jm iV dG hm ba (by omega),ht.mono (by omega),hk.trans (Kept.aO hb (X:=(·=pb)) (λi h1 h2=>by omega)) (λi _ h=>h)⟩
    have kr:kp.length≠20:=by omega
    have cb:w'.cell? ⟨pb,0,none⟩=some (.slice (some ⟨b,o,none⟩) (r1.length+1) c):=hBp.cell rfl;push_cast -dsimp[cb,c2];refine⟨by omega,?_⟩;refine ag (z:=[.int .i64 0,.bool false,.pointer none,.pointer none]) (by kernel_rfl) ?_;intro w4 az;have C4:=az.aN;have P4:=hP.below az.below;have z4:=az.size;have k4:=hk.trans (Kept.new (X:=(·=pb)) az) (λi _ h=>h);push_cast -dsimp;refine aJ (xt:=50) (n:=4) (by kernel_rfl) C4 rfl (by decide) (by simp;exact⟨rfl,rfl,rfl⟩) ?_;intro w5 cO;have C5:aM w5 w'.heap.size 50 [.int .i64 t1.pos,.bool false,.pointer none,.pointer none]:=cO.aN;have P5:=P4.kept cO.kept (λi h=>by omega);have k5:=k4.trans cO.kept (λi h1 h2=>by omega);have z5:=cO.size;have kw5:Kept (λi=>i=pb) w' w5:=(Kept.new (X:=(·=pb)) az).trans cO.kept (λi h1 h2=>by omega);push_cast -dsimp;refine aA (gG [98,114,101,97,107] P5) ?_;rintro _ wt hT;rcases hT with ⟨uS,rfl,t6,l3,el6,h56,Pt,sH,Ni⟩|⟨uS,rfl,qU⟩
    ·have lF:cM l1=.ok ((),l3):=by rw[el6];exact dV h56
     have pY:gZ l1=.ok (true,l3):=by
      unfold gZ ay;rw[uS,if_pos rfl,aH lF];rfl
     have Ct:=C5.kept sH (by omega);push_cast -dsimp;refine aC Ct (by simp) rfl ?_;intro w6 bZ;have C6:aM w6 w'.heap.size 50 [.int .i64 t1.pos,.bool true,.pointer none,.pointer none]:=bZ.aN;have P6:=Pt.kept bZ.kept (λi h=>by omega);have k6:=(k5.trans sH (λi _ h=>h)).trans bZ.kept (λi h1 h2=>by omega);have kw6:=(kw5.trans sH (λi _ h=>h)).trans bZ.kept (λi h1 h2=>by omega);have z6:w5.heap.size<=w6.heap.size:=by have:=bZ.kept.size;have:=sH.size;omega
     have d7:w6.cell? ⟨w'.heap.size,1,none⟩=some (.bool true):=C6.cell rfl;push_cast -dsimp[d7];refine aG (sK 9 0 (by omega) (by omega) pb B w6 l3 P6) ?_ ?_;rotate_left;·
      rintro ce we ⟨e,pos,he,ht,eN⟩
      push_cast -dsimp
      refine⟨e,pos,ep iV dG hm ba kr ?_,ht.mono (by have:=k6.size;omega),k6.trans eN (λi _ h=>h)⟩
      rw[mo]
      rw[aH pY];exact cE he
     rintro u wa ⟨x1,l5,e5,Va,Pa,u7⟩;obtain⟨ub,rfl,HL,_⟩:=Va.ptr;have Ca:=C6.kept u7 (by omega);have ka:=k6.trans u7 (λi _ h=>h);have za:=u7.size;push_cast -dsimp;refine aC Ca (by simp) rfl ?_;intro wb cL;have Cb:aM wb w'.heap.size 50 [.int .i64 t1.pos,.bool true,bd ub,.pointer none]:=cL.aN;have Pb:=Pa.kept cL.kept (λi h=>by omega);have kb:=ka.trans cL.kept (λi h1 h2=>by omega);have zb:=cL.size;push_cast -dsimp;refine aG (fb [58] Pb) ?_ ?_;rotate_left;·
      rintro ce we ⟨e,pos,he,ht,eN⟩
      push_cast -dsimp
      refine⟨e,pos,ep iV dG hm ba kr ?_,ht.mono (by have:=kb.size;omega),kb.trans eN (λi _ h=>h)⟩
      rw[mo]
      rw[aH pY,aH e5];exact cE he
     rintro _ wc ⟨_,l6,e6,rfl,Yw,u9⟩;have Cc:=Cb.kept u9 (by omega);have kc:=kb.trans u9 (λi _ h=>h);have zc:=u9.size;push_cast -dsimp;refine aG (sK 9 0 (by omega) (by omega) pb B wc l6 Yw) ?_ ?_;rotate_left;·
      rintro ce we ⟨e,pos,he,ht,eN⟩
      push_cast -dsimp
      refine⟨e,pos,ep iV dG hm ba kr ?_,ht.mono (by have:=kc.size;omega),kc.trans eN (λi _ h=>h)⟩
      rw[mo]
      rw[aH pY,aH e5,aH e6];exact cE he
     rintro u wd ⟨x2,l7,e7,Vd,Pd,Ap⟩;obtain⟨vb,rfl,TG,_⟩:=Vd.ptr;have Cd:=Cc.kept Ap (by omega);have kd:=kc.trans Ap (λi _ h=>h);have zd:=Ap.size;push_cast -dsimp;refine aC Cd (by simp) rfl ?_;intro we nK;have Ce:aM we w'.heap.size 50 [.int .i64 t1.pos,.bool true,bd ub,bd vb]:=nK.aN;have Pe:=Pd.kept nK.kept (λi h=>by omega);have ke:=kd.trans nK.kept (λi h1 h2=>by omega);have ze:=nK.size;push_cast -dsimp;refine aG (fb [59] Pe) ?_ ?_;rotate_left;·
      rintro ce we ⟨e,pos,he,ht,eN⟩
      push_cast -dsimp
      refine⟨e,pos,ep iV dG hm ba kr ?_,ht.mono (by have:=ke.size;omega),ke.trans eN (λi _ h=>h)⟩
      rw[mo]
      rw[aH pY,aH e5,aH e6,aH e7];exact cE he
     rintro _ wf ⟨_,l8,e8,rfl,Pf,wI⟩;have Cf:=Ce.kept wI (by omega);have kf:=ke.trans wI (λi _ h=>h);have zf:=wI.size;have bJ:lO l1=.ok (⟨t1.pos,true,x1,x2⟩,l8):=by rw[mo,aH pY,aH e5,aH e6,aH e7,aH e8];rfl
     have hl8:=zG _ _ _ bJ;have kw:Kept (λi=>i=pb) w' wf:=((((((kw6.trans u7 (λi _ h=>h)).trans cL.kept (λi h1 h2=>by omega)).trans u9 (λi _ h=>h)).trans Ap (λi _ h=>h)).trans nK.kept (λi h1 h2=>by omega)).trans wI (λi _ h=>h));have IZ:=hF.kept kw (by omega);have Zz:=hO.aI kw (λg hg h=>by have:=(hO.block g hg).1;omega);have fg:∀g,rv.ownBlock=some g->V0.heap.size<=g/\g<w'.heap.size:=λg hg=>hO.block g hg;have hVf:cU (lQ (λb=>(b<V0.heap.size\/rv.ownBlock=some b)\/w'.heap.size<=b) wf) rs kp:=hV.imp λa c h=>h.top.mono kw (λi h=>by omega) (λi h=>h);have L6:ai (λb=>b<w6.heap.size\/wa.heap.size<=b) wf (bd ub) x1:=(((Va.top.mono cL.kept (X':=λb=>b<w6.heap.size\/wa.heap.size<=b) (λi h=>by omega) (λi h=>h)).mono u9 (X':=λb=>b<w6.heap.size\/wa.heap.size<=b) (λi h=>by omega) (λi h=>h)).mono Ap (X':=λb=>b<w6.heap.size\/wa.heap.size<=b) (λi h=>by omega) (λi h=>h)).mono nK.kept (X':=λb=>b<w6.heap.size\/wa.heap.size<=b) (λi h=>by omega) (λi h=>h) |>.mono wI (λi h=>by omega) (λi h=>h);have L7:ai (λb=>b<wc.heap.size\/wd.heap.size<=b) wf (bd vb) x2:=(Vd.top.mono nK.kept (X':=λb=>b<wc.heap.size\/wd.heap.size<=b) (λi h=>by omega) (λi h=>h)).mono wI (λi h=>by omega) (λi h=>h);have df:wf.cell? ⟨w.heap.size+1,1,none⟩=some (.slice ra rs.length rc):=by rw[<-Dj];exact IZ.cell rfl
     have dl:aB wf ⟨w'.heap.size,0,none⟩ 0 4=some [.int .i64 t1.pos,.bool true,bd ub,bd vb]:=Cf.aB;push_cast -dsimp[df,dl];refine cT qC rfl rfl (by omega) ?_;intro wg nk;have hFg:=IZ.below nk.below IZ.lt;have VV:=Zz.new nk;rw[Dj]at VV;have Pg:=Pf.below nk.below;have zg:=nk.size;push_cast -dsimp;refine aS (base:=V0.heap.size) [(t1.pos,true,ub,vb)] (enc:=iU) qC VV (by rfl) (λj y hy=>by simpa[iU,bd] using nk.cell hy) rK (by rw[j1];simp only[List.length_cons,List.length_nil];omega) (by omega) ?_;intro rv2 wh L1 QV lE;rw[<-Dj]at QV lE;have kg:Kept (λj=>rv.ownBlock=some j) wg wh:=Kept.grown QV (λ_ h=>h);have Zv:=hFg.kept kg (λh=>by have:=fg _ h;omega);have Ph:=Pg.kept kg (λi h=>by have:=fg _ h;omega);have zh:=kg.size;obtain⟨a5,c5,rfl⟩:=L1.slice;push_cast -dsimp;refine aC Zv (by simp) rfl ?_;intro wi gU;have Yb:aM wi (w.heap.size+1) 26 [.slice ca cs.length cc,.slice a5 (rs++[(t1.pos,true,ub,vb)]).length c5,.bool true]:=gU.aN;have hOi:=L1.aI gU.kept (λg hg h=>by have:=(L1.block g hg).1;omega);have Pi:=Ph.kept gU.kept (λi h=>by omega);have kY:Kept (λi=>i=w.heap.size+1\/rv.ownBlock=some i) wf wi:=((Kept.new (X:=λi=>i=w.heap.size+1\/rv.ownBlock=some i) nk).trans kg (λi _ h=>.inr h)).trans gU.kept (λi _ h=>.inl h);have ki:=kf.trans kY (X:=(·=pb)) (λi h1 h2=>by
      rcases h2 with h2|h2
      ·omega
      have:=fg _ h2;omega)
     have kv0:Kept (λi=>i=pb\/i=w.heap.size+1\/rv.ownBlock=some i) w' wi:=(kw.weaken (Y:=λi=>i=pb\/i=w.heap.size+1\/rv.ownBlock=some i) (λi _ h=>.inl h)).trans kY (λi _ h=>.inr h);have kv:=AY.trans kv0 (λi h1 h2=>by
      rcases h2 with h2|h2|h2
      ·exact .inl h2
      ·exact .inr h2
      have:=fg _ h2;omega)
     have zkw:=kw.size;have hVi:cU (lQ (λb=>b<V0.heap.size\/(Value.slice a5 (rs++[(t1.pos,true,ub,vb)]).length c5).ownBlock=some b) wi) (rs++[(t1.pos,true,ub,vb)]) (kp++[⟨t1.pos,true,x1,x2⟩]):=by
      refine(hVf.imp λa c h=>h.mono kY (λi h=>?_) (λi h=>?_)).snoc ⟨rfl,rfl,L6.mono kY (λi h=>?_) (λi h=>?_),L7.mono kY (λi h=>?_) (λi h=>?_)⟩
      ·rcases h with h|h
       ·exact .inl (.inl (by omega))
       exact .inl (.inr h)
      ·rcases h with h|h
       ·exact .inl (.inl h)
       rcases lE i h with h|h
       ·exact .inl (.inr h)
       exact .inr (by omega)
      ·rcases h with h|h
       ·exact .inl (by omega)
       have:=fg _ h;exact .inl (by omega)
      ·rcases h with h|h
       ·exact .inl (by omega)
       rcases lE i h with h|h
       ·have:=fg _ h;exact .inl (by omega)
       exact .inr (by omega)
      ·rcases h with h|h
       ·exact .inl (by omega)
       have:=fg _ h;exact .inl (by omega)
      rcases h with h|h
      ·exact .inl (by omega)
      rcases lE i h with h|h
      ·have:=fg _ h;exact .inl (by omega)
      exact .inr (by omega)
     have jD:bR (m-1) (kp++[⟨t1.pos,true,x1,x2⟩]) l8=bR 1000 [] lc:=by rw[qp dG hm ba kr,aH bJ]
     have hPi:=Pi.len;push_cast -dsimp;exact⟨⟨m-1,kp++[⟨t1.pos,true,x1,x2⟩],l8,_,_,jD,by omega,by rw[List.length_append,List.length_singleton];omega,Yb,hOi,hVi,Pi,ki,kv⟩,by rw[hPi,VW];exact hl8⟩
    obtain rfl:w5=wt:=qU.symm;push_cast -dsimp;refine aC C5 (by simp) rfl ?_;intro wu Kg;have Cu:aM wu w'.heap.size 50 [.int .i64 t1.pos,.bool false,.pointer none,.pointer none]:=Kg.aN;have Pu:=P5.kept Kg.kept (λi h=>by omega);have ku:=k5.trans Kg.kept (λi h1 h2=>by omega);have zu:=Kg.size;have du:wu.cell? ⟨w'.heap.size,1,none⟩=some (.bool false):=Cu.cell rfl;push_cast -dsimp[du];have Iy:gZ l1=Cae.pb (dB [107,101,101,112]) (λ_=>pr false) l1:=by
     unfold gZ ay;rw[uS];rfl
    refine aG (fb [107,101,101,112] Pu) ?_ ?_;rotate_left;·
     rintro ce we ⟨e,pos,he,ht,eN⟩
     push_cast -dsimp
     refine⟨e,pos,ep iV dG hm ba kr ?_,ht.mono (by have:=ku.size;omega),ku.trans eN (λi _ h=>h)⟩
     rw[mo]
     refine cE ?_;rw[Iy];exact cE he
    rintro _ w6 ⟨_,l3,e3,rfl,P6,sH⟩;have pY:gZ l1=.ok (false,l3):=by rw[Iy,aH e3];rfl
    have C6:=Cu.kept sH (by omega);have k6:=ku.trans sH (λi _ h=>h);have kw6:=(kw5.trans Kg.kept (λi h1 h2=>by omega)).trans sH (λi _ h=>h);have z6:w5.heap.size<=w6.heap.size:=by have:=sH.size;omega
    push_cast -dsimp;refine aG (sK 9 0 (by omega) (by omega) pb B w6 l3 P6) ?_ ?_;rotate_left;·
     rintro ce we ⟨e,pos,he,ht,eN⟩
     push_cast -dsimp
     refine⟨e,pos,ep iV dG hm ba kr ?_,ht.mono (by have:=k6.size;omega),k6.trans eN (λi _ h=>h)⟩
     rw[mo]
     rw[aH pY];exact cE he
    rintro u wa ⟨x1,l5,e5,Va,Pa,u7⟩;obtain⟨ub,rfl,HL,_⟩:=Va.ptr;have Ca:=C6.kept u7 (by omega);have ka:=k6.trans u7 (λi _ h=>h);have za:=u7.size;push_cast -dsimp;refine aC Ca (by simp) rfl ?_;intro wb cL;have Cb:aM wb w'.heap.size 50 [.int .i64 t1.pos,.bool false,bd ub,.pointer none]:=cL.aN;have Pb:=Pa.kept cL.kept (λi h=>by omega);have kb:=ka.trans cL.kept (λi h1 h2=>by omega);have zb:=cL.size;push_cast -dsimp;refine aG (fb [58] Pb) ?_ ?_;rotate_left;·
     rintro ce we ⟨e,pos,he,ht,eN⟩
     push_cast -dsimp
     refine⟨e,pos,ep iV dG hm ba kr ?_,ht.mono (by have:=kb.size;omega),kb.trans eN (λi _ h=>h)⟩
     rw[mo]
     rw[aH pY,aH e5];exact cE he
    rintro _ wc ⟨_,l6,e6,rfl,Yw,u9⟩;have Cc:=Cb.kept u9 (by omega);have kc:=kb.trans u9 (λi _ h=>h);have zc:=u9.size;push_cast -dsimp;refine aG (sK 9 0 (by omega) (by omega) pb B wc l6 Yw) ?_ ?_;rotate_left;·
     rintro ce we ⟨e,pos,he,ht,eN⟩
     push_cast -dsimp
     refine⟨e,pos,ep iV dG hm ba kr ?_,ht.mono (by have:=kc.size;omega),kc.trans eN (λi _ h=>h)⟩
     rw[mo]
     rw[aH pY,aH e5,aH e6];exact cE he
    rintro u wd ⟨x2,l7,e7,Vd,Pd,Ap⟩;obtain⟨vb,rfl,TG,_⟩:=Vd.ptr;have Cd:=Cc.kept Ap (by omega);have kd:=kc.trans Ap (λi _ h=>h);have zd:=Ap.size;push_cast -dsimp;refine aC Cd (by simp) rfl ?_;intro we nK;have Ce:aM we w'.heap.size 50 [.int .i64 t1.pos,.bool false,bd ub,bd vb]:=nK.aN;have Pe:=Pd.kept nK.kept (λi h=>by omega);have ke:=kd.trans nK.kept (λi h1 h2=>by omega);have ze:=nK.size;push_cast -dsimp;refine aG (fb [59] Pe) ?_ ?_;rotate_left;·
     rintro ce we ⟨e,pos,he,ht,eN⟩
     push_cast -dsimp
     refine⟨e,pos,ep iV dG hm ba kr ?_,ht.mono (by have:=ke.size;omega),ke.trans eN (λi _ h=>h)⟩
     rw[mo]
     rw[aH pY,aH e5,aH e6,aH e7];exact cE he
    rintro _ wf ⟨_,l8,e8,rfl,Pf,wI⟩;have Cf:=Ce.kept wI (by omega);have kf:=ke.trans wI (λi _ h=>h);have zf:=wI.size;have bJ:lO l1=.ok (⟨t1.pos,false,x1,x2⟩,l8):=by rw[mo,aH pY,aH e5,aH e6,aH e7,aH e8];rfl
    have hl8:=zG _ _ _ bJ;have kw:Kept (λi=>i=pb) w' wf:=((((((kw6.trans u7 (λi _ h=>h)).trans cL.kept (λi h1 h2=>by omega)).trans u9 (λi _ h=>h)).trans Ap (λi _ h=>h)).trans nK.kept (λi h1 h2=>by omega)).trans wI (λi _ h=>h));have IZ:=hF.kept kw (by omega);have Zz:=hO.aI kw (λg hg h=>by have:=(hO.block g hg).1;omega);have fg:∀g,rv.ownBlock=some g->V0.heap.size<=g/\g<w'.heap.size:=λg hg=>hO.block g hg;have hVf:cU (lQ (λb=>(b<V0.heap.size\/rv.ownBlock=some b)\/w'.heap.size<=b) wf) rs kp:=hV.imp λa c h=>h.top.mono kw (λi h=>by omega) (λi h=>h);have L6:ai (λb=>b<w6.heap.size\/wa.heap.size<=b) wf (bd ub) x1:=(((Va.top.mono cL.kept (X':=λb=>b<w6.heap.size\/wa.heap.size<=b) (λi h=>by omega) (λi h=>h)).mono u9 (X':=λb=>b<w6.heap.size\/wa.heap.size<=b) (λi h=>by omega) (λi h=>h)).mono Ap (X':=λb=>b<w6.heap.size\/wa.heap.size<=b) (λi h=>by omega) (λi h=>h)).mono nK.kept (X':=λb=>b<w6.heap.size\/wa.heap.size<=b) (λi h=>by omega) (λi h=>h) |>.mono wI (λi h=>by omega) (λi h=>h);have L7:ai (λb=>b<wc.heap.size\/wd.heap.size<=b) wf (bd vb) x2:=(Vd.top.mono nK.kept (X':=λb=>b<wc.heap.size\/wd.heap.size<=b) (λi h=>by omega) (λi h=>h)).mono wI (λi h=>by omega) (λi h=>h);have df:wf.cell? ⟨w.heap.size+1,1,none⟩=some (.slice ra rs.length rc):=by rw[<-Dj];exact IZ.cell rfl
    have dl:aB wf ⟨w'.heap.size,0,none⟩ 0 4=some [.int .i64 t1.pos,.bool false,bd ub,bd vb]:=Cf.aB;push_cast -dsimp[df,dl];refine cT qC rfl rfl (by omega) ?_;intro wg nk;have hFg:=IZ.below nk.below IZ.lt;have VV:=Zz.new nk;rw[Dj]at VV;have Pg:=Pf.below nk.below;have zg:=nk.size;push_cast -dsimp;refine aS (base:=V0.heap.size) [(t1.pos,false,ub,vb)] (enc:=iU) qC VV (by rfl) (λj y hy=>by simpa[iU,bd] using nk.cell hy) rK (by rw[j1];simp only[List.length_cons,List.length_nil];omega) (by omega) ?_;intro rv2 wh L1 QV lE;rw[<-Dj]at QV lE;have kg:Kept (λj=>rv.ownBlock=some j) wg wh:=Kept.grown QV (λ_ h=>h);have Zv:=hFg.kept kg (λh=>by have:=fg _ h;omega);have Ph:=Pg.kept kg (λi h=>by have:=fg _ h;omega);have zh:=kg.size;obtain⟨a5,c5,rfl⟩:=L1.slice;push_cast -dsimp;refine aC Zv (by simp) rfl ?_;intro wi gU;have Yb:aM wi (w.heap.size+1) 26 [.slice ca cs.length cc,.slice a5 (rs++[(t1.pos,false,ub,vb)]).length c5,.bool true]:=gU.aN;have hOi:=L1.aI gU.kept (λg hg h=>by have:=(L1.block g hg).1;omega);have Pi:=Ph.kept gU.kept (λi h=>by omega);have kY:Kept (λi=>i=w.heap.size+1\/rv.ownBlock=some i) wf wi:=((Kept.new (X:=λi=>i=w.heap.size+1\/rv.ownBlock=some i) nk).trans kg (λi _ h=>.inr h)).trans gU.kept (λi _ h=>.inl h);have ki:=kf.trans kY (X:=(·=pb)) (λi h1 h2=>by
     rcases h2 with h2|h2
     ·omega
     have:=fg _ h2;omega)
    have kv0:Kept (λi=>i=pb\/i=w.heap.size+1\/rv.ownBlock=some i) w' wi:=(kw.weaken (Y:=λi=>i=pb\/i=w.heap.size+1\/rv.ownBlock=some i) (λi _ h=>.inl h)).trans kY (λi _ h=>.inr h);have kv:=AY.trans kv0 (λi h1 h2=>by
     rcases h2 with h2|h2|h2
     ·exact .inl h2
     ·exact .inr h2
     have:=fg _ h2;omega)
    have zkw:=kw.size;have hVi:cU (lQ (λb=>b<V0.heap.size\/(Value.slice a5 (rs++[(t1.pos,false,ub,vb)]).length c5).ownBlock=some b) wi) (rs++[(t1.pos,false,ub,vb)]) (kp++[⟨t1.pos,false,x1,x2⟩]):=by
     refine(hVf.imp λa c h=>h.mono kY (λi h=>?_) (λi h=>?_)).snoc ⟨rfl,rfl,L6.mono kY (λi h=>?_) (λi h=>?_),L7.mono kY (λi h=>?_) (λi h=>?_)⟩
     ·rcases h with h|h
      ·exact .inl (.inl (by omega))
      exact .inl (.inr h)
     ·rcases h with h|h
      ·exact .inl (.inl h)
      rcases lE i h with h|h
      ·exact .inl (.inr h)
      exact .inr (by omega)
     ·rcases h with h|h
      ·exact .inl (by omega)
      have:=fg _ h;exact .inl (by omega)
     ·rcases h with h|h
      ·exact .inl (by omega)
      rcases lE i h with h|h
      ·have:=fg _ h;exact .inl (by omega)
      exact .inr (by omega)
     ·rcases h with h|h
      ·exact .inl (by omega)
      have:=fg _ h;exact .inl (by omega)
     rcases h with h|h
     ·exact .inl (by omega)
     rcases lE i h with h|h
     ·have:=fg _ h;exact .inl (by omega)
     exact .inr (by omega)
    have jD:bR (m-1) (kp++[⟨t1.pos,false,x1,x2⟩]) l8=bR 1000 [] lc:=by rw[qp dG hm ba kr,aH bJ]
    have hPi:=Pi.len;push_cast -dsimp;exact⟨⟨m-1,kp++[⟨t1.pos,false,x1,x2⟩],l8,_,_,jD,by omega,by rw[List.length_append,List.length_singleton];omega,Yb,hOi,hVi,Pi,ki,kv⟩,by rw[hPi,VW];exact hl8⟩
   | false =>
    have ba:iH l1=false:=by rw[jO,gd]
    have Qd:=aBL dG hm ba;have QS:jB l0=Cae.pb oD (λb=>pr ⟨acc,kp,b⟩) l1:=by
     unfold jB;rw[aH iV,aH Qd]
    push_cast -dsimp;refine aA (gG [101,108,115,101] hP) ?_;rintro _ w3' hT;rcases hT with ⟨DA,rfl,t3,l3,el3,h53,P3',kt3,Nh⟩|⟨DA,rfl,qU⟩
    ·have lF:cM l1=.ok ((),l3):=by rw[el3];exact dV h53
     have Vv:oD l1=Cae.pb gZ (λb=>Cae.pb (dB [59]) λ_=>pr b) l3:=by
      unfold oD ay;rw[DA,if_pos rfl,aH lF]
     have F3':=hF.kept kt3 (by omega);have k3':=hk.trans kt3 (λi _ h=>h);have y3':Kept (λi=>i=pb\/i=w.heap.size+1) w' w3':=kt3.weaken (λi _ h=>.inl h);push_cast -dsimp;refine aA (gG [98,114,101,97,107] P3') ?_;rintro _ w4' hT;rcases hT with ⟨uS,rfl,t4,l4,PI,h54,P4',kt4,Lt⟩|⟨uS,rfl,qU⟩
     ·have aJy:cM l3=.ok ((),l4):=by rw[PI];exact dV h54
      have pY:gZ l3=.ok (true,l4):=by
       unfold gZ ay;rw[uS,if_pos rfl,aH aJy];rfl
      have F4':=F3'.kept kt4 (by omega);push_cast -dsimp;refine aC F4' (by simp) rfl ?_;intro w5 cO;have F5:aM w5 (w.heap.size+1) 26 [.slice ca cs.length cc,rv,.bool true]:=cO.aN;have P5:=P4'.kept cO.kept (λi h=>by omega);have k5:=(k3'.trans kt4 (λi _ h=>h)).trans cO.kept (λi h1 h2=>by omega);have y5:=(y3'.trans kt4 (λi _ h=>.inl h)).trans cO.kept (λi _ h=>.inr h);have d5:w5.cell? ⟨w.heap.size+1,2,none⟩=some (.bool true):=F5.cell rfl;push_cast -dsimp[d5];refine aG (fb [59] P5) ?_ ?_;rotate_left;·
       rintro ce we ⟨e,pos,he,ht,eN⟩
       push_cast -dsimp
       refine⟨e,pos,?_,ht.mono (by have:=k5.size;omega),k5.trans eN (λi _ h=>h)⟩
       rw[QS]
       refine cE ?_
       rw[Vv]
       rw[aH pY];exact cE he
      rintro _ w6 ⟨_,l5,e5,rfl,Px,sH⟩;have hFx:=F5.kept sH (by omega);have kx:=k5.trans sH (λi _ h=>h);have ky:=y5.trans sH (λi _ h=>.inl h);have Ie:jB l0=.ok (⟨acc,kp,true⟩,l5):=by rw[QS,aH (show oD l1=.ok (true,l5) by rw[Vv,aH pY,aH e5];rfl)];rfl
      push_cast -dsimp;have kvx:=AY.trans ky (λi _ h=>h);have yj:=hR.kept kvx (by omega);have d3:aB w6 ⟨w.heap.size+1,0,none⟩ 0 3=some [.slice ca cs.length cc,rv,.bool true]:=hFx.aB;rw[Dj]at d3;push_cast -dsimp[d3];refine aJ (xt:=26) (n:=3) (by kernel_rfl) yj rfl (by decide) (by simp;exact⟨rfl,rfl,rfl⟩) ?_;intro wz Ae;have hRz:aM wz w.heap.size 26 [.slice ca cs.length cc,.slice ra rs.length rc,.bool true]:=Ae.aN;have dz:aB wz ⟨w.heap.size,0,none⟩ 0 3=some [.slice ca cs.length cc,.slice ra rs.length rc,.bool true]:=hRz.aB;have Pz:=Px.kept Ae.kept (λi h=>by omega);have kz:=kx.trans Ae.kept (X:=(·=pb)) (λi h1 h2=>by omega);have kvz:Kept (λi=>i<w.heap.size+2) V0 wz:=(kvx.weaken (Y:=λi=>i<w.heap.size+2) (λi _ h=>by omega)).trans Ae.kept (λi _ h=>by omega);have kyz:Kept (λi=>i<w.heap.size+2) w' wz:=(ky.weaken (Y:=λi=>i<w.heap.size+2) (λi _ h=>by omega)).trans Ae.kept (λi _ h=>by omega);have s1:Sl (·<w.heap.size) 3 (En AI) wz (.slice ca cs.length cc) cs:=by
       have hh:=(yJ.aI kvz (λg hg h=>by have:=(yJ.block g hg).1;omega)).sl;rw[aEB]at hh;exact hh.weaken (λi h=>by omega)
      have s2:Sl (·<w.heap.size) 4 (En iU) wz (.slice ra rs.length rc) rs:=by
       have hh:=(hO.aI kyz (λg hg h=>by have:=(hO.block g hg).1;omega)).sl;rw[Dj]at hh;exact hh.weaken (λi h=>by omega)
      have a1:cU (tX (·<w.heap.size) wz) cs acc:=hVc.imp λa c h=>h.mono kvz (λi h=>.inl h) (λi h=>.inl (by omega));have a2:cU (lQ (·<w.heap.size) wz) rs kp:=hV.imp λa c h=>h.mono kyz (λi h=>.inl (by omega)) (λi h=>.inl (by omega));push_cast -dsimp[dz];exact⟨_,_,Ie,⟨_,_,cs,rs,rfl,s1,s2,a1,a2⟩,Pz,kz⟩
     obtain rfl:w3'=w4':=qU.symm;push_cast -dsimp;refine aC F3' (by simp) rfl ?_;intro wu Kg;have Fu:aM wu (w.heap.size+1) 26 [.slice ca cs.length cc,rv,.bool false]:=Kg.aN;have Pu:=P3'.kept Kg.kept (λi h=>by omega);have ku:=k3'.trans Kg.kept (λi h1 h2=>by omega);have yu:=y3'.trans Kg.kept (λi _ h=>.inr h);have du:wu.cell? ⟨w.heap.size+1,2,none⟩=some (.bool false):=Fu.cell rfl;have Iy:gZ l3=Cae.pb (dB [107,101,101,112]) (λ_=>pr false) l3:=by
      unfold gZ ay;rw[uS];rfl
     push_cast -dsimp[du];refine aG (fb [107,101,101,112] Pu) ?_ ?_;rotate_left;·
      rintro ce we ⟨e,pos,he,ht,eN⟩
      push_cast -dsimp
      refine⟨e,pos,?_,ht.mono (by have:=ku.size;omega),ku.trans eN (λi _ h=>h)⟩
      rw[QS]
      refine cE ?_
      rw[Vv]
      refine cE ?_;rw[Iy];exact cE he
     rintro _ w5 ⟨_,l4,e4,rfl,P5,kt5⟩;have pY:gZ l3=.ok (false,l4):=by rw[Iy,aH e4];rfl
     have F5:=Fu.kept kt5 (by omega);have k5:=ku.trans kt5 (λi _ h=>h);have y5:=yu.trans kt5 (λi _ h=>.inl h);push_cast -dsimp;refine aG (fb [59] P5) ?_ ?_;rotate_left;·
      rintro ce we ⟨e,pos,he,ht,eN⟩
      push_cast -dsimp
      refine⟨e,pos,?_,ht.mono (by have:=k5.size;omega),k5.trans eN (λi _ h=>h)⟩
      rw[QS]
      refine cE ?_
      rw[Vv]
      rw[aH pY];exact cE he
     rintro _ w6 ⟨_,l5,e5,rfl,Px,sH⟩;have hFx:=F5.kept sH (by omega);have kx:=k5.trans sH (λi _ h=>h);have ky:=y5.trans sH (λi _ h=>.inl h);have Ie:jB l0=.ok (⟨acc,kp,false⟩,l5):=by rw[QS,aH (show oD l1=.ok (false,l5) by rw[Vv,aH pY,aH e5];rfl)];rfl
     push_cast -dsimp;have kvx:=AY.trans ky (λi _ h=>h);have yj:=hR.kept kvx (by omega);have d3:aB w6 ⟨w.heap.size+1,0,none⟩ 0 3=some [.slice ca cs.length cc,rv,.bool false]:=hFx.aB;rw[Dj]at d3;push_cast -dsimp[d3];refine aJ (xt:=26) (n:=3) (by kernel_rfl) yj rfl (by decide) (by simp;exact⟨rfl,rfl,rfl⟩) ?_;intro wz Ae;have hRz:aM wz w.heap.size 26 [.slice ca cs.length cc,.slice ra rs.length rc,.bool false]:=Ae.aN;have dz:aB wz ⟨w.heap.size,0,none⟩ 0 3=some [.slice ca cs.length cc,.slice ra rs.length rc,.bool false]:=hRz.aB;have Pz:=Px.kept Ae.kept (λi h=>by omega);have kz:=kx.trans Ae.kept (X:=(·=pb)) (λi h1 h2=>by omega);have kvz:Kept (λi=>i<w.heap.size+2) V0 wz:=(kvx.weaken (Y:=λi=>i<w.heap.size+2) (λi _ h=>by omega)).trans Ae.kept (λi _ h=>by omega);have kyz:Kept (λi=>i<w.heap.size+2) w' wz:=(ky.weaken (Y:=λi=>i<w.heap.size+2) (λi _ h=>by omega)).trans Ae.kept (λi _ h=>by omega);have s1:Sl (·<w.heap.size) 3 (En AI) wz (.slice ca cs.length cc) cs:=by
      have hh:=(yJ.aI kvz (λg hg h=>by have:=(yJ.block g hg).1;omega)).sl;rw[aEB]at hh;exact hh.weaken (λi h=>by omega)
     have s2:Sl (·<w.heap.size) 4 (En iU) wz (.slice ra rs.length rc) rs:=by
      have hh:=(hO.aI kyz (λg hg h=>by have:=(hO.block g hg).1;omega)).sl;rw[Dj]at hh;exact hh.weaken (λi h=>by omega)
     have a1:cU (tX (·<w.heap.size) wz) cs acc:=hVc.imp λa c h=>h.mono kvz (λi h=>.inl h) (λi h=>.inl (by omega));have a2:cU (lQ (·<w.heap.size) wz) rs kp:=hV.imp λa c h=>h.mono kyz (λi h=>.inl (by omega)) (λi h=>.inl (by omega));push_cast -dsimp[dz];exact⟨_,_,Ie,⟨_,_,cs,rs,rfl,s1,s2,a1,a2⟩,Pz,kz⟩
    obtain rfl:w'=w3':=qU.symm;have hFx:=hF;have Px:=hP;have kx:=hk;have ky:Kept (λi=>i=pb\/i=w.heap.size+1) w' w':=Kept.refl _ _;have Ie:jB l0=.ok (⟨acc,kp,true⟩,l1):=by
     rw[QS,aH (show oD l1=.ok (true,l1) by unfold oD ay;rw[DA];rfl)]
     rfl
    push_cast -dsimp;have kvx:=AY.trans ky (λi _ h=>h);have yj:=hR.kept kvx (by omega);have d3:aB w' ⟨w.heap.size+1,0,none⟩ 0 3=some [.slice ca cs.length cc,rv,.bool true]:=hFx.aB;rw[Dj]at d3;push_cast -dsimp[d3];refine aJ (xt:=26) (n:=3) (by kernel_rfl) yj rfl (by decide) (by simp;exact⟨rfl,rfl,rfl⟩) ?_;intro wz Ae;have hRz:aM wz w.heap.size 26 [.slice ca cs.length cc,.slice ra rs.length rc,.bool true]:=Ae.aN;have dz:aB wz ⟨w.heap.size,0,none⟩ 0 3=some [.slice ca cs.length cc,.slice ra rs.length rc,.bool true]:=hRz.aB;have Pz:=Px.kept Ae.kept (λi h=>by omega);have kz:=kx.trans Ae.kept (X:=(·=pb)) (λi h1 h2=>by omega);have kvz:Kept (λi=>i<w.heap.size+2) V0 wz:=(kvx.weaken (Y:=λi=>i<w.heap.size+2) (λi _ h=>by omega)).trans Ae.kept (λi _ h=>by omega);have kyz:Kept (λi=>i<w.heap.size+2) w' wz:=(ky.weaken (Y:=λi=>i<w.heap.size+2) (λi _ h=>by omega)).trans Ae.kept (λi _ h=>by omega);have s1:Sl (·<w.heap.size) 3 (En AI) wz (.slice ca cs.length cc) cs:=by
     have hh:=(yJ.aI kvz (λg hg h=>by have:=(yJ.block g hg).1;omega)).sl;rw[aEB]at hh;exact hh.weaken (λi h=>by omega)
    have s2:Sl (·<w.heap.size) 4 (En iU) wz (.slice ra rs.length rc) rs:=by
     have hh:=(hO.aI kyz (λg hg h=>by have:=(hO.block g hg).1;omega)).sl;rw[Dj]at hh;exact hh.weaken (λi h=>by omega)
    have a1:cU (tX (·<w.heap.size) wz) cs acc:=hVc.imp λa c h=>h.mono kvz (λi h=>.inl h) (λi h=>.inl (by omega));have a2:cU (lQ (·<w.heap.size) wz) rs kp:=hV.imp λa c h=>h.mono kyz (λi h=>.inl (by omega)) (λi h=>.inl (by omega));push_cast -dsimp[dz];exact⟨_,_,Ie,⟨_,_,cs,rs,rfl,s1,s2,a1,a2⟩,Pz,kz⟩
end Go.Proofs.YtledlfbbebodgaaGreatDoor
end
section
namespace Cae
theorem EN (f:UInt8->Bool)(c:UInt8)(r:List UInt8):je f (c::r)=if f c then je f r+1 else 0:=by
 unfold je;rw[List.takeWhile_cons];split<;>rfl
theorem Gi:∀(f:UInt8->Bool) (s:List UInt8) (n:Nat),n<=s.length->(∀i,i<n->f (s.getD i 0)=true)->(n=s.length\/f (s.getD n 0)=false)->je f s=n
 | f,[],n,h,_,_=>by
  have:n=0:=by simpa using h
  subst this;rfl
 | f,c::r,0,_,_,h=>by
  rw[EN];rcases h with h|h
  ·simp at h
  have:f c=false:=h;rw[this];rfl
 | f,c::r,n+1,h,ha,hb=>by
  rw[EN,if_pos (show f c=true from ha 0 (by omega)),Gi f r n (by simpa using h) (λi hi=>ha (i+1) (by omega)) (hb.imp (λe=>by simpa using e) (λe=>e))]
theorem aFi {s:List UInt8}{c:UInt8}:Go.Lib.indexByte s c+1=if s.contains c then ((je (· != c) s+1:Nat):Int) else 0:=by
 rw[uT];split<;>simp[je]
theorem aGd {i:Nat}{s:List UInt8}{l:List Tok}(h:Tk i s l):∀t∈l,t.kind=2->t.text≠[]/\∀c∈t.text,eM c=true:=by
 induction h with
 | nil i=>simp
 | blank _ _ ih=>exact ih
 | note _ _ _ ih=>exact ih
 | @tok i c r l h1 h2 h3 hl ih =>
  intro t ht hk;rcases List.mem_cons.1 ht with rfl|ht
  ·rw[pN]at hk h3;simp only[pN];by_cases a1:j4 c=true
   ·rw[if_pos a1]at hk;cases hk
   rw[if_neg a1]at hk h3 ⊢
   by_cases a2:eM c=true
   ·rw[if_pos a2]at h3 ⊢
    have e:(c::r).take (je eM (c::r))=(c::r).takeWhile eM:=zI eM (c::r)
    show (c::r).take (je eM (c::r))≠[]/\_
    rw[e];refine⟨λhh=>?_,λx hx=>?_⟩
    ·rw[List.takeWhile_cons,if_pos a2]at hh;cases hh
    exact List.all_eq_true.1 (List.all_takeWhile (p:=eM) (l:=c::r)) x hx
   rw[if_neg a2]at hk;split at hk
   ·cases hk
   split at hk<;>cases hk
  exact ih t ht hk
end Cae
namespace Go.Proofs.YtledlfbbebodgaaGreatDoor
open Go.Vc Go.Proofs Go.RowKit Cae
attribute [local irreducible] dd ae ak a7 runK bE Sl Vc.Own vc aU cJ a8
theorem JI (c:UInt8)(w:World):bE Tryz.prog 128 [.int .u8 c.toNat] w λr w'=>r=.bool (j4 c)/\w'=w:=by
 have h:j4 c=(decide (97<=c.toNat) && decide (c.toNat<=122)):=rfl;refine aE Tryz.func128 rfl (by kernel_rfl) [2] rfl ?_;push_cast -dsimp(maxSteps:=4000000) [Tryz.ntmps128];refine⟨λh1=>?_,λh1=>?_⟩
 ·rw[h,decide_eq_true (show 97<=c.toNat by omega),Bool.true_and]
  congr 1;exact decide_eq_decide.2 (by omega)
 rw[h,decide_eq_false (show ¬97<=c.toNat by omega)];rfl
theorem FF (c:UInt8)(w:World):bE Tryz.prog 130 [.int .u8 c.toNat] w λr w'=>r=.bool (eM c)/\w'=w:=by
 have h:eM c=(decide (48<=c.toNat) && decide (c.toNat<=57)):=rfl;refine aE Tryz.func130 rfl (by kernel_rfl) [2] rfl ?_;push_cast -dsimp(maxSteps:=4000000) [Tryz.ntmps130];refine⟨λh1=>?_,λh1=>?_⟩
 ·rw[h,decide_eq_true (show 48<=c.toNat by omega),Bool.true_and]
  congr 1;exact decide_eq_decide.2 (by omega)
 rw[h,decide_eq_false (show ¬48<=c.toNat by omega)];rfl
theorem Wk (c:UInt8)(w:World):bE Tryz.prog 129 [.int .u8 c.toNat] w λr w'=>r=.bool (j4 c || eM c)/\w'=w:=by
 refine aE Tryz.func129 rfl (by kernel_rfl) [2] rfl ?_;push_cast -dsimp(maxSteps:=4000000) [Tryz.ntmps129];refine aA (JI c w) ?_;rintro _ _ ⟨rfl,rfl⟩;cases j4 c with
 | true =>
  push_cast -dsimp;rfl
 | false =>
  push_cast -dsimp;refine aA (FF c _) ?_;rintro _ _ ⟨rfl,rfl⟩;push_cast -dsimp
theorem XG (c:UInt8)(w:World):bE Tryz.prog 92 [.int .u8 c.toNat] w λr w'=>r=.bool (c != 10)/\w'=w:=by
 refine aE Tryz.func92 rfl (by kernel_rfl) [2] rfl ?_;push_cast -dsimp(maxSteps:=4000000) [Tryz.ntmps92];congr 1;rw[bne,Ee];have:(((c.toNat:Nat):Int)=10)↔c=10:=by
  constructor
  ·intro h;exact UInt8.toNat_inj.1 (by show c.toNat=10;omega)
  rintro rfl;rfl
 by_cases h:c=10
 ·rw[decide_eq_true h,decide_eq_false (show ¬((c.toNat:Nat):Int)≠10 from λhh=>hh (this.2 h))];rfl
 rw[decide_eq_false h,decide_eq_true (show ((c.toNat:Nat):Int)≠10 from λhh=>h (this.1 hh))];rfl
def Ai:Go.Shelf.Ren:=⟨λ| 217=>158|266=>178|n=>n,λ| 9=>9|5=>5|3=>3|n=>n,λ| n=>n⟩
theorem Lv:Go.Proofs.Lays.n217 Tryz.prog Ai:={
 mixed:=by kernel_rfl
 f217:=Tryz.func158.trans (congrArg some (by kernel_rfl))
 f266:=Tryz.func178.trans (congrArg some (by kernel_rfl))
 t3:=Tryz.underlying3
 a3:=Tryz.isAgg3
 z3:=Tryz.sizeOf3
 v3:=Tryz.zeroValue3
 t5:=Tryz.underlying5
 a5:=Tryz.isAgg5
 z5:=Tryz.sizeOf5
 v5:=Tryz.zeroValue5
 t9:=Tryz.underlying9
 a9:=Tryz.isAgg9
 z9:=Tryz.sizeOf9
 v9:=Tryz.zeroValue9 }
theorem GI (s:List UInt8)(c:UInt8)(w:World):bE Tryz.prog 158 [str s,.int .u8 c.toNat] w λr w'=>r=.int .i64 (Lib.indexByte s c)/\w'=w:=by
 refine cR Tryz.func158 (by kernel_rfl) (by kernel_rfl) ?_;refine Calls.mono (Any.stringslite_IndexByte Lv ⟨s.toArray⟩ c.toNat w) ?_;rintro e w' ⟨rfl,rfl⟩;exact⟨_,rfl,by simp,rfl⟩
theorem xY (s:List UInt8)(c:UInt8)(w:World):bE Tryz.prog 122 [str s,.int .u8 c.toNat] w λr w'=>r=.int .i64 (Lib.indexByte s c)/\w'=w:=by
 refine aE Tryz.func122 rfl (by kernel_rfl) [4] rfl ?_;push_cast -dsimp(maxSteps:=4000000) [Tryz.ntmps122];refine aA (GI s c w) ?_;rintro _ _ ⟨rfl,rfl⟩;push_cast -dsimp
theorem YB (f:FuncId)(g:UInt8->Bool)(hf:∀(c:UInt8) (w:World),bE Tryz.prog f [.int .u8 c.toNat] w λr w'=>r=.bool (g c)/\w'=w)(s:List UInt8)(hs:s.length<=1000000000)(w:World) :
  bE Tryz.prog 91 [str s,.func (.func f) #[] #[]] w λr w'=>r=.int .i64 (je g s:Nat)/\w'=w:=by
 refine aE Tryz.func91 rfl (by kernel_rfl) [4] rfl ?_;push_cast -dsimp(maxSteps:=4000000) [Tryz.ntmps91];refine aL [5,6,7,8,9,10,11,12,13,14,15,16,17,18] (λz w'=>∃n:Nat,z 5=.int .i64 n/\n<=s.length/\(∀i,i<n->g (s.getD i 0)=true)/\w'=w) (λz w'=>s.length-(intOf (z 5)).toNat) ?_ ?_
 ·exact⟨0,rfl,Nat.zero_le _,λi hi=>by omega,rfl⟩
 rintro z w' ⟨n,hz,hn,cN,rfl⟩;have hint:(intOf (z 5)).toNat=n:=by rw[hz];simp[intOf]
 push_cast -dsimp[hz];refine⟨λaw=>⟨⟨by omega,by omega⟩,?_⟩,λfT=>?_⟩
 ·refine aA (hf (s.getD n 0) w') ?_;rintro _ _ ⟨rfl,rfl⟩;cases hg:g (s.getD n 0) with
  | true =>
   push_cast -dsimp[hz];refine⟨⟨by omega,by omega⟩,⟨n+1,rfl,by omega,λi hi=>?_⟩,?_⟩
   ·by_cases h:i<n
    ·exact cN i h
    rw[show i=n by omega];exact hg
   simp only[intOf];omega
  | false =>
   push_cast -dsimp[hz];rw[Gi g s n hn cN (.inr hg)]
 rw[Gi g s n hn cN (.inl (by omega))]
theorem aFL (c:UInt8)(r:List UInt8)(hs:(c::r).length<=1000000000)(w:World):bE Tryz.prog 93 [str (c::r)] w λv w'=>v=.tuple #[.int .i64 ((gY (c::r)).1:Nat),.int .i64 ((gY (c::r)).2:Nat)]/\w'=w:=by
 have hn:=pN c r;refine aE Tryz.func93 rfl (by kernel_rfl) [2,3] rfl ?_;push_cast -dsimp(maxSteps:=4000000) [Tryz.ntmps93];have e0:((c::r).getD 0 0)=c:=rfl;refine⟨by omega,?_⟩;refine aA (JI c w) ?_;rintro _ _ ⟨rfl,rfl⟩;cases h1:j4 c with
 | true =>
  rw[h1,if_pos rfl]at hn;push_cast -dsimp;refine aA (YB _ (λc=>j4 c || eM c) Wk (c::r) hs _) ?_;rintro _ _ ⟨rfl,rfl⟩;push_cast -dsimp;rw[hn];rfl
 | false =>
  rw[h1,if_neg (by decide)]at hn;push_cast -dsimp;refine aA (FF c _) ?_;rintro _ _ ⟨rfl,rfl⟩;cases h2:eM c with
  | true =>
   rw[h2,if_pos rfl]at hn;push_cast -dsimp;refine aA (YB _ eM FF (c::r) hs _) ?_;rintro _ _ ⟨rfl,rfl⟩;push_cast -dsimp;rw[hn];rfl
  | false =>
   rw[h2,if_neg (by decide)]at hn;have h91:(((c.toNat:Nat):Int)=91)↔c=91:=by
    constructor
    ·intro h;exact UInt8.toNat_inj.1 (by show c.toNat=91;omega)
    rintro rfl;rfl
   push_cast -dsimp;refine⟨λh3=>?_,λh3=>?_⟩
   ·rw[if_pos (h91.1 h3)]at hn;refine aA (xY (c::r) 93 _) ?_;rintro _ _ ⟨rfl,rfl⟩;have hr:=vA (· != 93) (c::r);have hib:Lib.indexByte (c::r) 93+1=(((gY (c::r)).2:Nat):Int):=by
     rw[aFi,hn];split<;>rfl
    push_cast -dsimp;refine⟨?_,?_⟩
    ·rw[hib];have:=um c r;omega
    rw[hib,hn];rfl
   rw[if_neg (λh=>h3 (h91.2 h))]at hn;refine aA (xY JO c _) ?_;rintro _ _ ⟨rfl,rfl⟩;have hib:(0<=Lib.indexByte JO c)↔JO.contains c=true:=by
    rw[uT];split
    ·rename_i h;exact⟨λ_=>h,λ_=>by omega⟩
    rename_i h;exact⟨λhh=>by omega,λhh=>absurd hh h⟩
   push_cast -dsimp;refine⟨λh=>?_,λh=>?_⟩
   ·rw[if_pos (hib.1 h)]at hn;rw[hn];rfl
   rw[if_neg (λhh=>h (hib.2 hh))]at hn;rw[hn];rfl
theorem AJ (t:Tok):∀u∈jY t,u.oneCell'=true:=by
 intro u hu;simp[jY]at hu;rcases hu with rfl|rfl|rfl<;>rfl
def aLn (w:World)(s:List UInt8)(r:Value)(w':World):Prop :=
 (∃l v,S0 s=.ok l/\r=.tuple #[v,.nilIface]/\Go.Vc.Own w.heap.size 136 3 jY w' v l) \/
 (∃e pos b,S0 s=.error (e,pos)/\r=.tuple #[.slice none 0 0,.iface 92 (.pointer (some ⟨b,0,none⟩))]/\w.heap.size<=b/\aM w' b 94 [.int .i64 e,.int .i64 pos])
theorem YZ (s:List UInt8)(hs:s.length<=1000000)(w:World):bE Tryz.prog 56 [str s] w λr w'=>aLn w s r w'/\Below w.heap.size w w':=by
 refine aE Tryz.func56 rfl (by kernel_rfl) [2,3] rfl ?_;push_cast -dsimp(maxSteps:=4000000) [Tryz.ntmps56];refine aL [2,3,4,5,6,7,8,9,10,11,12,13,14,15,16,17,18,19,20,21,22,23,24,25,26,27,28,29,30,31,32,33,34,35,36,37,38,39,40,41,42,43,44,45,46,47,48,49,50,51,52,53,54,55,56,57,58,59,60,61,62,63,64] (λz w'=>∃(m i:Nat) (acc:List Tok) (v:Value),z 5=.int .i64 i/\z 4=v/\i<=s.length/\(s.drop i).length<m/\acc.length<=500/\lg m i (s.drop i) acc=S0 s/\Go.Vc.Own w.heap.size 136 3 jY w' v acc/\Below w.heap.size w w') (λz w'=>s.length-(intOf (z 5)).toNat) ?_ ?_
 ·exact⟨s.length+1,0,[],_,rfl,rfl,Nat.zero_le _,by simp,by simp,rfl,Vc.Own.nil (enc:=jY) _ _ (λ_=>rfl) _,Below.refl _ _⟩
 rintro z w' ⟨m,i,acc,v,HP,Lt,hi,hm,I1,dG,hO,hb⟩;obtain⟨m',rfl⟩:∃m',m=m'+1:=⟨m-1,by omega⟩;have hzb:=hb.size;obtain⟨va,vc,rfl⟩:=hO.slice;have hdl:(s.drop i).length=s.length-i:=List.length_drop;push_cast -dsimp[HP];refine⟨λaw=>?_,λfT=>?_⟩
 ·obtain⟨c,r,QQ⟩:∃c r,s.drop i=c::r:=by
   cases hd:s.drop i with
   | nil=>rw[hd]at hdl;simp at hdl;omega
   | cons c r=>exact⟨c,r,rfl⟩
  have QU:s.getD i 0=c:=by
   have:(s.drop i).getD 0 0=c:=by rw[QQ];rfl
   rw[<-this];simp[List.getD_eq_getElem?_getD]
  rw[QQ]at dG hm hdl;have Qd:r.length+1=s.length-i:=by simpa using hdl
  have dE:=dG;rw[lg]at dE;have aIS:(((c.toNat:Nat):Int)=32)↔c=32:=⟨λh=>UInt8.toNat_inj.1 (by show c.toNat=32;omega),λh=>by subst h;rfl⟩
  have aIR:(((c.toNat:Nat):Int)=10)↔c=10:=⟨λh=>UInt8.toNat_inj.1 (by show c.toNat=10;omega),λh=>by subst h;rfl⟩
  have aEv:(((c.toNat:Nat):Int)=35)↔c=35:=⟨λh=>UInt8.toNat_inj.1 (by show c.toNat=35;omega),λh=>by subst h;rfl⟩
  have hdr:∀k,s.drop (i+k)=(c::r).drop k:=λk=>by rw[<-QQ,List.drop_drop]
  by_cases h32:((c.toNat:Nat):Int)=32
  ·rw[if_pos (.inl (aIS.1 h32))]at dE;push_cast -dsimp[HP,QU,h32];refine⟨⟨by omega,by omega⟩,⟨by omega,by omega⟩,⟨m',i+1,acc,_,rfl,Lt,by omega,by rw[hdr 1];simp;omega,I1,by rw[hdr 1];exact dE,hO,hb⟩,by simp only[intOf];omega⟩
  by_cases vK:((c.toNat:Nat):Int)=10
  ·rw[if_pos (.inr (aIR.1 vK))]at dE;push_cast -dsimp[HP,QU,h32,vK];refine⟨⟨by omega,by omega⟩,⟨by omega,by omega⟩,⟨m',i+1,acc,_,rfl,Lt,by omega,by rw[hdr 1];simp;omega,I1,by rw[hdr 1];exact dE,hO,hb⟩,by simp only[intOf];omega⟩
  rw[if_neg (λh=>h.elim (λh=>h32 (aIS.2 h)) (λh=>vK (aIR.2 h)))]at dE;by_cases h35:((c.toNat:Nat):Int)=35
  ·rw[if_pos (aEv.1 h35)]at dE;have hr:=YB _ (· != 10) XG (c::r) (by rw[List.length_cons];omega) w';rw[<-QQ]at hr;have hle:=vA (· != 10) (c::r);have pC:0<je (· != 10) (c::r):=YA (by rw[aEv.1 h35];decide);rw[List.length_cons]at hle;push_cast -dsimp[HP,QU,h32,vK,h35];refine⟨⟨by omega,by omega⟩,⟨by omega,by omega⟩,?_⟩;refine aA hr ?_;rintro _ wq ⟨rfl,Lq⟩;obtain rfl:w'=wq:=Lq.symm;rw[QQ];push_cast -dsimp[HP];refine⟨⟨by omega,by omega⟩,⟨m',i+je (· != 10) (c::r),acc,_,by first|(push_cast;done)|(push_cast;rfl),Lt,by omega,by rw[hdr];simp;omega,I1,by rw[hdr];exact dE,hO,hb⟩,by simp only[intOf];omega⟩
  rw[if_neg (λh=>h35 (aEv.2 h))]at dE;have hr:=aFL c r (by rw[List.length_cons];omega) w';rw[<-QQ]at hr;have hle:=um c r;rw[List.length_cons]at hle;push_cast -dsimp[HP,QU,h32,vK,h35];refine⟨⟨by omega,by omega⟩,⟨by omega,by omega⟩,?_⟩;refine aA hr ?_;rintro _ wq ⟨rfl,Lq⟩;obtain rfl:w'=wq:=Lq.symm;rw[QQ];have hkn:∃k n,gY (c::r)=(k,n):=⟨_,_,rfl⟩;obtain⟨k,n,hkn⟩:=hkn;rw[hkn]at hle dE ⊢
  dsimp only at hle dE ⊢
  push_cast -dsimp[HP];refine⟨λh0=>?_,λh0=>?_⟩;·
   refine aR ?_
   intro w4 az
   have B4:aM w4 w'.heap.size 94 [.int .i64 (3:Nat),.int .i64 i]:=az.aN
   have b4:=hb.trans (az.below.mono hzb)
   push_cast -dsimp
   exact⟨.inr ⟨3,i,_,by rw[<-dE,if_pos (show n=0 by omega)],rfl,hzb,B4⟩,b4⟩
  rw[if_neg (by omega)]at dE;push_cast -dsimp[Lt];refine⟨λaLJ=>?_,λaLJ=>?_⟩;·
   refine aR ?_
   intro w4 az
   have B4:aM w4 w'.heap.size 94 [.int .i64 (4:Nat),.int .i64 i]:=az.aN
   have b4:=hb.trans (az.below.mono hzb)
   push_cast -dsimp
   exact⟨.inr ⟨4,i,_,by rw[<-dE,if_pos (show acc.length=500 by omega)],rfl,hzb,B4⟩,b4⟩
  rw[if_neg (by omega)]at dE;refine⟨⟨by omega,by omega⟩,⟨by omega,by omega,by omega⟩,?_⟩;have aOj:(s.take (i+n)).drop i=(c::r).take n:=by rw[List.drop_take,QQ];congr 1;omega
  have uR:fD [(0,Value.agg #[.int .i64 k,str ((s.take ((i:Int)+n).toNat).drop i),.int .i64 i])]=[(⟨k,(c::r).take n,i⟩:Tok)].flatMap jY:=by
   rw[show ((i:Int)+n).toNat=i+n by omega,aOj]
   rfl
  refine cT yf rfl rfl (by omega) ?_;rw[uR];intro w4 az;have vZ:=hO.new az;have z4':=az.size;have b4:=hb.trans (az.below.mono hzb);push_cast -dsimp;refine aS (base:=w.heap.size) [⟨k,(c::r).take n,i⟩] (enc:=jY) yf vZ (by rfl) (λj y hy=>by rw[Nat.zero_add];exact az.cell hy) AJ (by simp only[List.length_cons,List.length_nil];omega) (by omega) ?_;intro v5 w5 ja yO xP;have b5:=b4.trans ((Kept.grown yO (X:=λj=>(Value.slice va acc.length vc).ownBlock=some j) (λ_ h=>h)).below (B:=w.heap.size) (by omega) (λi h=>(vZ.block i h).1));push_cast -dsimp[HP];refine⟨⟨by omega,by omega⟩,⟨m',i+n,acc++[⟨k,(c::r).take n,i⟩],v5,by first|(push_cast;done)|(push_cast;rfl),rfl,by omega,by rw[hdr];simp;omega,by rw[List.length_append,List.length_singleton];omega,by rw[hdr];exact dE,ja,b5⟩,by simp only[intOf];omega⟩
 have uR:fD [(0,Value.agg #[.int .i64 5,str [],.int .i64 s.length])]=[(⟨5,[],s.length⟩:Tok)].flatMap jY:=rfl;refine cT yf rfl rfl (by omega) ?_;rw[uR];intro w4 az;have vZ:=hO.new az;have z4':=az.size;have b4:=hb.trans (az.below.mono hzb);have Fp:s.drop i=[]:=List.drop_eq_nil_iff.2 (by omega);have bJ:S0 s=.ok (acc++[⟨5,[],s.length⟩]):=by
  rw[<-dG,Fp,lg,show i=s.length by omega]
 push_cast -dsimp[Lt];refine aS (base:=w.heap.size) [⟨5,[],s.length⟩] (enc:=jY) yf vZ (by rfl) (λj y hy=>by rw[Nat.zero_add];exact az.cell hy) AJ (by simp only[List.length_cons,List.length_nil];omega) (by omega) ?_;intro v5 w5 ja yO xP;have b5:=b4.trans ((Kept.grown yO (X:=λj=>(Value.slice va acc.length vc).ownBlock=some j) (λ_ h=>h)).below (B:=w.heap.size) (by omega) (λi h=>(vZ.block i h).1));push_cast -dsimp;exact⟨.inl ⟨_,v5,bJ,rfl,ja⟩,b5⟩
end Go.Proofs.YtledlfbbebodgaaGreatDoor
end
section
namespace Go.Vc
open Go.RowKit
section
variable {P:Program} {ds:List Deferred}
theorem DL {t:Fr}{dst:Option Tmp}{C:World->Prop}{K:VK}{N:Act->World->Prop}(hn:∀v w',K v w'->N ⟨(put t dst v).toArray,ds⟩ w'){r:Result Next}(h:ql P t (λv w'=>C w'/\K v w') J1 r):rk P ⟨t.toArray,ds⟩ dst C N r:=by
 cases r with
 | halt x w'=>cases x<;>simp only[ql,J1]at h
 | ok n w' =>
  cases n<;>simp only[ql]at h<;>simp only[rk]
  case value v=>exact⟨h.1,by rw[iG];exact hn _ _ h.2⟩
  case skip=>exact⟨h.1,by rw[iG];exact hn _ _ h.2⟩
  case enter f args =>
   refine h.mono λe bU he=>?_;cases e with
   | returned v=>exact⟨v,rfl,he.1,by rw[iG];exact hn _ _ he.2⟩
   | panicked c=>exact he.elim
   | outgrown=>exact he.elim
theorem q8 {ops:List Oper}{i:Nat}{o:Oper}{C:World->Prop}{t:Fr}{w:World}{K:VK}{N:Act->World->Prop}(hi:ops[i]?=some o)(hw:Region.wanted o (yielded ops.toArray t.toArray)=true)
  (hn:∀v w',K v w'->N ⟨(put t o.dst v).toArray,ds⟩ w') (h:dp P o t w C K .mk):bF P ops.toArray C i N ⟨t.toArray,ds⟩ w:=by
 unfold bF;simp only[List.getElem?_toArray,hi,hw,if_true,nE];unfold dp at h;split at h
 ·rename_i ty x ho;have hc:chain P o=false:=by simp[chain,ho]
  simp only[hc,Bool.false_eq_true,if_false];obtain⟨v,hr,cN,hk⟩:=oN ho h;refine⟨v,λw' tW=>?_,by rw[iG];exact hn _ _ hk⟩;obtain⟨u,hu,hv⟩:=oN ho (cN w' tW);rw[hu,hv]
 ·rename_i x ho;have hc:chain P o=false:=by simp[chain,ho]
  simp only[hc,Bool.false_eq_true,if_false];unfold J0 at h;split at h
  ·rename_i a hx;refine⟨_,λw' _=>?_,by rw[iG];exact hn _ _ h⟩;unfold execOp;simp only[ho,hx];rfl
  exact h.elim
 split at h
 ·rename_i hc;simp only[hc,if_true];exact DL hn (G6 h)
 rename_i hc;simp only[hc];rcases qj h with h|⟨v,hg,hk⟩
 ·exact h.elim
 exact⟨v,λw' _=>hg w',by rw[iG];exact hn _ _ hk⟩
theorem JV {ops:List Oper}{i:Nat}{o:Oper}{C:World->Prop}{t:Fr}{w:World}{N:Act->World->Prop}(hi:ops[i]?=some o)(hw:Region.wanted o (yielded ops.toArray t.toArray)=false)
  (h:N ⟨(put t o.dst undef).toArray,ds⟩ w):bF P ops.toArray C i N ⟨t.toArray,ds⟩ w:=by
 unfold bF;simp only[List.getElem?_toArray,hi,hw,Bool.false_eq_true,if_false];rw[iG];exact h
theorem p4 {ops:List Oper}{C:World->Prop}{R:Fr->World->Prop}{N:Act->World->Prop}(hn:∀t w,R t w->N ⟨t.toArray,ds⟩ w):∀(l:List Oper) (k:Nat) (t:Fr) (w:World),(∀j,l[j]?=ops[k+j]?) ->
  mg P ops C R l t w .mk->CA P ops.toArray C N (List.range' k l.length) ⟨t.toArray,ds⟩ w
 | [],_,_,_,_,h=>hn _ _ h
 | o::r,k,t,w,hl,h=>by
  have h0:ops[k]?=some o:=by simpa using(hl 0).symm
  have ih:=λt w=>p4 (C:=C) hn r (k+1) t w (λj=>by have:=hl (j+1);simpa[Nat.add_assoc,Nat.add_comm 1 j] using this);simp only[List.length_cons,List.range'_succ,CA];simp only[mg]at h;split at h
  ·rename_i hg;exact q8 h0 (by simp[Region.wanted,hg]) (λv w' hk=>ih _ _ hk) h
  rename_i j want hg;rcases kN hg h with ⟨hw,hh⟩|⟨hw,hh⟩
  ·exact q8 h0 hw (λv w' hk=>ih _ _ hk) hh
  exact JV h0 hw (ih _ _ hh)
theorem Y7 {id:Nat}{l:List Oper}{t:Fr}{w:World}{Q:Exit->Act->World->Prop}(C:World->Prop)(hm:P.follows .mixedOrders=true)(hB:aBc P l.toArray=true)(hC:C w.drew)
  (h:mg P l C (λt w=>Q .normal ⟨t.toArray,ds⟩ w) l t w.drew .mk):(Code.region id l.toArray true).wp P Q ⟨t.toArray,ds⟩ w:=by
 simp only[aBc,Bool.and_eq_true]at hB;refine wp_region_any hm (fR (C:=C) (R:=λa w=>Q .normal a w) (λ_ _ h=>h) _ _ _ _ hC ?_);refine wY hB.1 _ 0 _ _ _ (by simp) hC (λj o _ hl=>by simp[Array.getElem?_replicate]at hl;split at hl<;>simp at hl) hB.2 ?_
 have:=p4 (P:=P) (ds:=ds) (ops:=l) (C:=C) (R:=λt w=>Q .normal ⟨t.toArray,ds⟩ w) (N:=λa w=>Q .normal a w) (λt w hk=>hk) l 0 t w.drew (λj=>by simp) h;simpa using this
theorem X4 {c:Code}(hp:j6 c=true){Q:Exit->Act->World->Prop}{t:Fr}{w:World}(h:vc P c (λe t w=>Q e ⟨t.toArray,ds⟩ w) t w .mk):c.wp P Q ⟨t.toArray,ds⟩ w :=
 wpIn_wide.1 (OK (n:=0) (ro:=none) hp h)
theorem YF {a b:Code}(hp:j6 a=true){Q:Exit->Act->World->Prop}{t:Fr}{w:World}(h:vc P a (tJ (λt w=>b.wp P Q ⟨t.toArray,ds⟩ w) (λe t w=>Q e ⟨t.toArray,ds⟩ w) .mk) t w .mk):(Code.seq a b).wp P Q ⟨t.toArray,ds⟩ w:=by
 have e:(λ(t:Fr) (w:World)=>b.wpIn (AN none) 0 P Q ⟨t.toArray,ds⟩ w)=λt w=>b.wp P Q ⟨t.toArray,ds⟩ w:=by
  funext t w;exact propext wpIn_wide
 have h':(λN:Fr->World->Prop=>vc P a (tJ N (λe t w=>Q e ⟨t.toArray,ds⟩ w) .mk) t w .mk) (λt w=>b.wpIn (AN none) 0 P Q ⟨t.toArray,ds⟩ w):=by
  rw[e];exact h
 exact wpIn_wide.1 (me (n:=0) (ro:=none) hp h')
theorem aDz {c:Operand}{x y:Code}{Q:Exit->Act->World->Prop}{t:Fr}{w:World}(hc:ev t c=.bool false)(h:y.wp P Q ⟨t.toArray,ds⟩ w):(Code.cond c x y).wp P Q ⟨t.toArray,ds⟩ w :=
 wpIn_wide.1 (U0 (n:=0) (F:=Fence.wide) hc (wpIn_wide.2 h))
theorem aDA {c:Operand}{x y:Code}{Q:Exit->Act->World->Prop}{t:Fr}{w:World}(hc:ev t c=.bool true)(h:x.wp P Q ⟨t.toArray,ds⟩ w):(Code.cond c x y).wp P Q ⟨t.toArray,ds⟩ w :=
 wpIn_wide.1 (aCl (n:=0) (F:=Fence.wide) hc (wpIn_wide.2 h))
theorem re {c:Code}{Q:Exit->Act->List Frame->World->Prop}{t:Fr}{cs:List Frame}{w:World}(h:vc P c (λe t w=>Q e ⟨t.toArray,[]⟩ cs w) t w .mk):c.wpS P Q ⟨t.toArray,[]⟩ cs w:=by
 refine wpS_of_wp ?_;have h1:=sN c _ _ w h;unfold dd at h1;refine Code.wp_mono ?_ h1;rintro e a w' ⟨hd,hh⟩;rw[Kr hd];exact hh
theorem xB {ty xT:TypeId}{v:Value}{fs:Array Field}{t:Fr}{w:World}{K:VK}{Q:EP}{p}(hu:P.underlying ty=some (.struct fs))(k:K (.tuple #[v,.bool true]) w):ak P (Instr.typeAssert (.iface ty v) xT ty true) t w K Q p :=
 eu (by simp[Instr.typeAssert,run_underlying hu]) k
theorem OF {fn:Func}(h:fn.results=#[])(t:Fr)(w:World):(results fn t.toArray).run P w=.ok (.tuple #[]) w:=by
 obtain⟨vs,h1,h2⟩:=cZ (P:=P) (w:=w) fn [] h t (λvs=>vs=[]) rfl;rw[h1,h2];rfl
theorem Hk {id:Nat}{g:FuncId}{d:Tmp}{cap:List Operand}{ty1 ty2:TypeId}{p1 p2:String}{a1 a2:Array Edge}{Q:Exit->Act->World->Prop}{t:Fr}{w:World}
  (hd:d<t.length) (h:Q .normal ⟨(t.set d (.func (.func g) #[] (cap.map (ev t)).toArray)).toArray,{ target:=.fn (.func g) (cap.map (ev t)).toArray,args:=#[] }::ds⟩ w) :
  (Code.region id #[⟨some d,.makeFunc (.func g) #[] cap.toArray,ty1,p1,a1,none⟩,⟨none,.defer { callee:=.value (.tmp d),args:=#[],argTypes:=#[] },ty2,p2,a2,none⟩] false).wp P Q ⟨t.toArray,ds⟩ w:=by
 refine wp_region_list ?_;unfold wpList;rw[if_pos (by rfl)];refine .inl ?_;unfold Oper.wp;have h1:∀(ρ:Operand->Value) (cap:Array Operand) (o:Oper),o.op=.makeFunc (.func g) #[] cap->(execOp ρ o).run P w=.ok (.value (.func (.func g) #[] (cap.map ρ))) w:=λρ cap o ho=>by
  unfold execOp;simp only[ho];simp[go_sem,Instr.makeFunc]
 rw[h1 _ cap.toArray _ rfl];unfold Oper.upon;dsimp only;rw[iG];unfold wpList;rw[if_pos (by rfl)];refine .inl ?_;unfold Oper.wp;rw[nE,nE];have hg:(put t (some d) (.func (.func g) #[] (cap.toArray.map (ev t)))).getD d undef=.func (.func g) #[] (cap.toArray.map (ev t)):=by
  simp[put,hd]
 have h2:∀(o:Oper),o.op=.defer { callee:=.value (.tmp d),args:=#[],argTypes:=#[] }->(execOp (ev (put t (some d) (.func (.func g) #[] (cap.toArray.map (ev t))))) o).run P w=.ok (.defer { target:=.fn (.func g) (cap.toArray.map (ev t)),args:=#[] }) w:=λo ho=>by
  unfold execOp;simp only[ho];simp only[resolve,ev,hg,Deferred.ofValue];simp[go_sem]
 rw[h2 _ rfl];unfold Oper.upon;dsimp only;unfold wpList;have e:∀(a:Act) ,a.put none undef=a:=λa=>rfl;rw[e];simpa[put] using h
end
end Go.Vc
end
section
namespace Go.Proofs.YtledlfbbebodgaaGreatDoor
open Go.Vc Go.Proofs Go.RowKit Cae
attribute [local irreducible] dd ae ak a7 runK bE Sl Vc.Own vc aU cJ a8
theorem ZT (rb eb:Nat)(ev:Value)(f0:List Value)(e0:Value)(hf:f0.length=3)(w:World)(hr:aM w rb 26 f0)(he:aM w eb 31 [e0])(dD:rb≠eb)(hev:kC ev=true) :
  CallsD Tryz.prog 55 #[.pointer (some ⟨rb,0,none⟩),.pointer (some ⟨eb,0,none⟩)] (.panicking [{ v:=.iface 126 (.agg #[ev]),recovered:=false }]) w λe u' w' =>
   e=.returned (.tuple #[])/\u'=.panicking [{ v:=.iface 126 (.agg #[ev]),recovered:=true }]/\aM w' rb 26 [.slice none 0 0,.slice none 0 0,.bool false]/\aM w' eb 31 [ev]/\Kept (λi=>i=rb\/i=eb) w w':=by
 refine callsD_of_wpS Tryz.func55 rfl λc₀ cs hu=>?_;apply wpS_seq;apply wpS_region;simp[wpOpsS,go_sem,recoverD,hu,Tryz.ntmps55,Exit.thenS];refine re (t:=[.pointer (some ⟨rb,0,none⟩),.pointer (some ⟨eb,0,none⟩),.iface 126 (.agg #[ev]),undef,undef,.iface 126 (.agg #[ev]),undef,undef,undef,undef,undef,undef,undef,undef,undef,undef,undef,undef,undef]) ?_;push_cast -dsimp;refine xB Tryz.underlying126 ?_;push_cast -dsimp;refine ag (z:=[.nilIface]) (by kernel_rfl) ?_;intro w1 aZ;have C1:=aZ.aN;have R1:=hr.below aZ.below hr.lt;have E1:=he.below aZ.below he.lt;have z1:=aZ.size;push_cast -dsimp;refine aJ (xt:=126) (n:=1) (by kernel_rfl) C1 rfl (by decide) (by simp;cases ev<;>first|rfl|(simp[kC]at hev)) ?_
 intro w2 bw;have C2:aM w2 w.heap.size 126 [ev]:=bw.aN;have Qd:=hr.lt;have yN:=he.lt;have R2:=R1.kept bw.kept (by omega);have E2:=E1.kept bw.kept (by omega);push_cast -dsimp;refine bx (λw'=>aM w' w.heap.size 126 [ev]) mixed (by kernel_rfl) C2.drew ?_;have d2:w2.drew.cell? ⟨w.heap.size,0,none⟩=some ev:=C2.drew.cell rfl;push_cast -dsimp[d2];refine⟨λbU h=>by rw[aM.cell h (o:=0) rfl];exact rfl,?_⟩;refine aJ (xt:=26) (n:=3) (by kernel_rfl) R2.drew rfl (by rw[hf];exact Nat.le_refl _) (by simp;exact⟨rfl,rfl⟩) ?_;intro w3 dZ;have R3:aM w3 rb 26 [.slice none 0 0,.slice none 0 0,.bool false]:=by
  have:=dZ.aN;rw[List.take_zero,List.nil_append,Nat.zero_add,List.drop_of_length_le (by rw[hf];exact Nat.le_refl _),List.append_nil]at this;exact this
 have C3:aM w3 w.heap.size 126 [ev]:=C2.drew.kept dZ.kept (by omega);have E3:=E2.drew.kept dZ.kept (by omega);refine⟨C3,?_⟩;push_cast -dsimp;refine aC E3 (by simp) hev ?_;intro w4 az;have E4:aM w4 eb 31 [ev]:=az.aN;have R4:=R3.kept az.kept (by omega);have C4:aM w4 w.heap.size 126 [ev]:=C3.kept az.kept (by omega);have k4:Kept (λi=>i=rb\/i=eb) w w4:=(((Kept.new (X:=λi=>i=rb\/i=eb) aZ).trans bw.kept (λi h1 h2=>by omega)).drew.trans dZ.kept (λi _ h=>.inl h)).trans az.kept (λi _ h=>.inr h);refine⟨C4,?_⟩;push_cast -dsimp;exact⟨rfl,_,rfl,.tuple #[],OF (by rfl) _ _,rfl,rfl,R4,E4,k4⟩
theorem aFj (rb eb:Nat)(w:World) :
  CallsD Tryz.prog 55 #[.pointer (some ⟨rb,0,none⟩),.pointer (some ⟨eb,0,none⟩)] .returning w λe u' w'=>e=.returned (.tuple #[])/\u'=.returning/\w'=w:=by
 refine callsD_of_wpS Tryz.func55 rfl λc₀ cs hu=>?_;apply wpS_seq;apply wpS_region;simp[wpOpsS,go_sem,recoverD,hu,Tryz.ntmps55,Exit.thenS];refine re (t:=[.pointer (some ⟨rb,0,none⟩),.pointer (some ⟨eb,0,none⟩),.nilIface,undef,undef,.nilIface,undef,undef,undef,undef,undef,undef,undef,undef,undef,undef,undef,undef,undef]) ?_;push_cast -dsimp;refine⟨rfl,.returning,?_,.tuple #[],OF (by rfl) _ _,rfl,rfl,rfl⟩;rw[<-hu]
def TR (w:World)(s:List UInt8)(r:Value)(w':World):Prop :=
 (∃f v,eO s=.ok f/\r=.tuple #[v,.nilIface]/\jf (·<w.heap.size) w' v f) \/
 (∃e pos b,eO s=.error (e,pos)/\r=.tuple #[.agg #[.slice none 0 0,.slice none 0 0,.bool false],.iface 92 (.pointer (some ⟨b,0,none⟩))]/\w.heap.size<=b/\aM w' b 94 [.int .i64 e,.int .i64 pos])
def Yv (w:World)(s:List UInt8)(e:Ending)(w':World):Prop:=∃v,e=.returned v/\TR w s v w'/\Below w.heap.size w w'
theorem YV {s:List UInt8}{l:List Tok}(hs:s.length<=1000000)(h:S0 s=.ok l):TL l:=by
 obtain⟨m,hm,e,hn⟩:=jv _ _ _ _ _ (by simp) h;rw[List.nil_append]at e;subst e;refine⟨⟨m,_,rfl,rfl⟩,λt ht=>?_,by rw[List.length_append,List.length_singleton];simp at hn;omega,λt ht hk=>?_⟩
 ·rcases List.mem_append.1 ht with ht|ht
  ·have:=(hm.inside t ht).length_le;omega
  rw[List.mem_singleton.1 ht];simp
 rcases List.mem_append.1 ht with ht|ht
 ·exact aGd hm t ht hk
 rw[List.mem_singleton.1 ht]at hk;cases hk
theorem JF {w W:World}{s:List UInt8}{fv:List Value}{t:Fr}(h2:t.getD 2 undef=.pointer (some ⟨w.heap.size,0,none⟩))(h3:t.getD 3 undef=.pointer (some ⟨w.heap.size+1,0,none⟩)){x:Value}
  (B1:aM W w.heap.size 26 fv) (B2:aM W (w.heap.size+1) 31 [x]) (hl:fv.length=3) (hR:TR w s (.tuple #[.agg fv.toArray,x]) W) (hb:Below w.heap.size w W) :
  bodyPostD Tryz.prog Tryz.f29 (Yv w s) .ret ⟨t.toArray,[{ target:=.fn (.func 55) #[.pointer (some ⟨w.heap.size,0,none⟩),.pointer (some ⟨w.heap.size+1,0,none⟩)],args:=#[] }]⟩ W:=by
 show Leaves _ _ _ _ _ _ _
 refine leaves_cons (f:=55) (args:=#[.pointer (some ⟨w.heap.size,0,none⟩),.pointer (some ⟨w.heap.size+1,0,none⟩)]) (by simp) ?_ ?_
 ·simp only[invoke,Array.empty_append];exact bo Tryz.func55 (by kernel_rfl) (by kernel_rfl)
 refine(aFj w.heap.size (w.heap.size+1) W).mono ?_;rintro e u' w' ⟨rfl,rfl,rfl⟩;obtain⟨vs,hv,hk⟩:=cZ (P:=Tryz.prog) (w:=w') Tryz.f29 [.cell 2 26,.cell 3 31] (by rfl) t (λvs=>vs=[.agg fv.toArray,x]) (by
  have d1:aB w' ⟨w.heap.size,0,none⟩ 0 3=some fv:=by rw[<-hl];exact B1.aB
  have d2:w'.cell? ⟨w.heap.size+1,0,none⟩=some x:=B2.cell rfl;push_cast -dsimp[h2,h3,d1,d2])
 refine⟨_,hv,_,rfl,?_,hb⟩;rw[hk];exact hR
theorem xa {w W:World}{s:List UInt8}{e pos:Nat}{fv:List Value}{ce:List PanicEntry}{t:Fr}(h2:t.getD 2 undef=.pointer (some ⟨w.heap.size,0,none⟩))(h3:t.getD 3 undef=.pointer (some ⟨w.heap.size+1,0,none⟩)){x:Value}
  (B1:aM W w.heap.size 26 fv) (B2:aM W (w.heap.size+1) 31 [x]) (hl:fv.length=3) (hT:Thr (w.heap.size+2) W ce e pos) (hp:eO s=.error (e,pos)) (hb:Below w.heap.size w W) :
  bodyPostD Tryz.prog Tryz.f29 (Yv w s) (.panic ce) ⟨t.toArray,[{ target:=.fn (.func 55) #[.pointer (some ⟨w.heap.size,0,none⟩),.pointer (some ⟨w.heap.size+1,0,none⟩)],args:=#[] }]⟩ W:=by
 obtain⟨b,Su,rfl,hB⟩:=hT
 show Leaves _ _ _ _ _ _ _
 refine leaves_cons (f:=55) (args:=#[.pointer (some ⟨w.heap.size,0,none⟩),.pointer (some ⟨w.heap.size+1,0,none⟩)]) (by simp) ?_ ?_
 ·simp only[invoke,Array.empty_append];exact bo Tryz.func55 (by kernel_rfl) (by kernel_rfl)
 refine(ZT w.heap.size (w.heap.size+1) _ fv x hl W B1 B2 (by omega) rfl).mono ?_;rintro e' u' w' ⟨rfl,rfl,R1,R2,hk⟩;have qH:=hB.kept hk (by omega);have CO:=hb.trans (hk.below (B:=w.heap.size) hb.size (λi h=>by omega));obtain⟨vs,hv,hk⟩:=cZ (P:=Tryz.prog) (w:=w') Tryz.f29 [.cell 2 26,.cell 3 31] (by rfl) t (λvs=>vs=[.agg #[.slice none 0 0,.slice none 0 0,.bool false],.iface 92 (.pointer (some ⟨b,0,none⟩))]) (by
  have d1:aB w' ⟨w.heap.size,0,none⟩ 0 3=some [.slice none 0 0,.slice none 0 0,.bool false]:=R1.aB;have d2:w'.cell? ⟨w.heap.size+1,0,none⟩=some (.iface 92 (.pointer (some ⟨b,0,none⟩))):=R2.cell rfl;push_cast -dsimp[h2,h3,d1,d2])
 show Leaves _ _ _ _ [] (settle _) _
 refine⟨_,hv,_,rfl,?_,CO⟩;rw[hk];exact .inr ⟨e,pos,b,hp,rfl,by omega,qH⟩
theorem Sl.off {X:Nat->Prop}{w:World}{v:Value}{l:List Tok}{rb:Nat}{e:TypeId}{cs:List Value}(h:Sl X 3 (En jY) w v l)(hB:aM w rb e cs)(iW:∀(o:Nat) (u:Value),cs[o]?=some u->∀n,u≠.int .i64 n):Sl (λb=>X b\/b=rb) 3 (En jY) w v l:=by
 unfold Sl at h ⊢
 obtain⟨a,c,rfl,hc,h⟩:=h;refine⟨a,c,rfl,hc,λi x hx=>?_⟩;obtain⟨b,o,ks,ha,hb,hk,aK,hr⟩:=h i x hx;refine⟨b,o,ks,ha,λhh=>?_,hk,aK,hr⟩;rcases hh with hh|rfl
 ·exact hb hh
 have jN:ks=jY x:=hr;have h0:=aK 0 (.int .i64 x.kind) (by rw[jN];rfl);have h1:cs[o+i*3+0]?=some (.int .i64 x.kind):=by
  have qH:w.heap[b]?=_:=hB;simp only[World.cell?,qH]at h0;simpa using h0
 exact iW _ _ h1 _ rfl
theorem PS.off {pb B rb:Nat}{w w':World}{l:List Tok}{e:TypeId}{cs:List Value}(h:PS pb B w l)(hB:aM w rb e cs)(iW:∀(o:Nat) (u:Value),cs[o]?=some u->∀n,u≠.int .i64 n)(dD:rb≠pb)(hg:11<=rb)(hk:Kept (·=rb) w w'):PS pb B w' l:=by
 obtain⟨v,h1,h2⟩:=h.st;exact⟨⟨v,h1.kept hk (λhh=>dD hh.symm),((Sl.off h2 hB iW).kept hk (λi hi=>.inr hi)).weaken (λi hi=>.inl hi)⟩,h.lt,Nat.le_trans h.le hk.size,h.tl,h.db.kept hk (λi hi hh=>by omega),h.er.kept hk (λi hi hh=>by omega),h.gl⟩
theorem Jn (s:List UInt8)(hs:s.length<=1000000)(w:World)(hd:Db w)(he:mA w)(hg:11<=w.heap.size):bE Tryz.prog 29 [str s] w λr w'=>TR w s r w'/\Below w.heap.size w w':=by
 unfold bE;refine⟨bo Tryz.func29 (by kernel_rfl) (by kernel_rfl),?_⟩;refine calls_of_wp_defers Tryz.func29 rfl ?_;have e:(([str s]:List Value).toArray++Array.replicate (Tryz.f29.ntmps-([str s]:List Value).toArray.size) undef)=(oy [str s] Tryz.f29.ntmps).toArray:=by simp[oy]
 rw[e];simp -dsimp (maxSteps:=4000000) only[push_cast,oy,Tryz.ntmps29,List.length_cons,List.length_nil,Nat.reduceAdd,Nat.reduceSub,Nat.reduceBEq,List.replicate_succ,List.replicate_zero];have hR:∃R:Ending->World->Prop,R=Yv w s:=⟨_,rfl⟩
 show Code.wp _ _ (bodyPostD Tryz.prog Tryz.f29 (Yv w s)) _ _
 refine YF (by rfl) ?_;push_cast -dsimp;refine ag (z:=[.slice none 0 0,.slice none 0 0,.bool false]) (by kernel_rfl) ?_;intro w1 aZ;have R1:=aZ.aN;have z1:=aZ.size;have b1:=aZ.below;push_cast -dsimp;refine ag (z:=[.nilIface]) (by kernel_rfl) ?_;intro w2 bw;have E2:=bw.aN;have R2:=R1.below bw.below (by omega);have z2:=bw.size;have b2:=b1.trans (bw.below.mono (by omega));rw[z1]at E2;push_cast -dsimp[z1];refine wp_seq (Hk (cap:=[.tmp 2,.tmp 3]) (by simp) ?_);simp -dsimp only[push_cast];refine YF (by rfl) ?_;push_cast -dsimp;refine aA (YZ s hs w2) ?_;rintro r w3 ⟨hT,b3⟩;have R3:=R2.below b3 (by omega);have E3:=E2.below b3 (by omega);have z3:=b3.size;have fL:=b2.trans (b3.mono (by omega));rcases hT with ⟨l,v,Qh,rfl,hO⟩|⟨en,pos,b,Qh,rfl,Su,hB⟩
 ·obtain⟨va,vc,rfl⟩:=hO.slice;push_cast -dsimp;refine aC E3 (by simp) rfl ?_;intro w4 az;have E4:aM w4 (w.heap.size+1) 31 [.nilIface]:=az.aN;have R4:=R3.kept az.kept (by omega);have z4:=az.size;have vZ:=hO.aI az.kept (λg hg h=>by have:=(hO.block g hg).1;omega);have kj:=fL.trans (az.kept.below (B:=w.heap.size) (by omega) (λi h=>by omega));have d4:w4.cell? ⟨w.heap.size+1,0,none⟩=some .nilIface:=E4.cell rfl;push_cast -dsimp;refine wp_seq (YF (by rfl) ?_);push_cast -dsimp[d4];refine aDz (by rfl) (wp_skip ?_)
  show Code.wp _ _ _ _ _
  refine X4 (by rfl) ?_;push_cast -dsimp;refine aR ?_;intro w5 cO;have z5:=cO.size;have Nd:∃pb,pb=w4.heap.size:=⟨_,rfl⟩;obtain⟨pb,Nd⟩:=Nd;have PB:=cO.aN;have E5:=E4.below cO.below E4.lt;have R5:=R4.below cO.below R4.lt;have ng:=kj.trans (cO.below.mono kj.size);rw[<-Nd]at PB;have Kf:=YV hs Qh;have P5:PS pb (pb+1) w5 l:=⟨⟨_,PB,((Sl.top (by decide) vZ.sl).below cO.below).weaken (λi h=>by omega)⟩,by omega,by omega,Kf,hd.below ng hd.lt,he.below ng,by omega⟩;push_cast -dsimp[<-Nd];refine aG (aDN P5) ?_ ?_
  ·rintro _ w6 ⟨f,l',ef,⟨cv,rv,cs,rs,rfl,S1,S2,A1,A2⟩,P6,k6⟩;have E6:=E5.kept k6 (by omega);have R6:=R5.kept k6 (by omega);have z6:=k6.size;have lp:=ng.trans (k6.below (B:=w.heap.size) ng.size (λi h=>by omega));push_cast -dsimp[<-Nd];refine aJ (xt:=26) (n:=3) (by kernel_rfl) R6 rfl (by decide) ?_ ?_
   ·obtain⟨_,_,rfl,_⟩:=S1.shape;obtain⟨_,_,rfl,_⟩:=S2.shape;simp;exact⟨rfl,rfl,rfl⟩
   intro w7 fh;have R7:aM w7 w.heap.size 26 [cv,rv,.bool f.els]:=fh.aN;have E7:=E6.kept fh.kept (by omega);have k7:Kept (λi=>i=w.heap.size) w6 w7:=fh.kept;have P7:PS pb (pb+1) w7 l':=P6.off R6 (λo u hu n hn=>by
    subst hn;match o with
    | 0=>simp at hu
    | 1=>simp at hu
    | 2=>simp at hu
    | o+3=>simp at hu) (by omega) (by omega) k7
   have z7:=fh.size;have nw:=lp.trans (fh.kept.below (B:=w.heap.size) lp.size (λi h=>by omega));obtain⟨t1,r1,mj⟩:=P7.tl.cons;have P7':=P7;rw[mj]at P7';obtain⟨b1,o1,c1,hBp,hc,dD,c0,c1',c2,c3⟩:=P7'.hd;have cb:w7.cell? ⟨pb,0,none⟩=some (.slice (some ⟨b1,o1,none⟩) (r1.length+1) c1):=hBp.cell rfl;have WA:isKind 5 l'=decide (t1.kind=5):=by
    rw[mj]
    show (t1.kind == 5)=_
    by_cases h:t1.kind=5<;>simp[h]
   push_cast -dsimp[<-Nd,cb,c0];refine⟨by omega,λh5=>?_,λh5=>?_⟩
   ·have CS:isKind 5 l'=false:=by rw[WA];exact decide_eq_false (λh=>h5 (by omega))
    refine aG (jZ 3 P7) (λ_ _ h=>h.elim) ?_;rintro ce w8 ⟨ht,hb⟩;have hpe:eO s=.error (3,(Cae.hd l').pos):=by
     unfold eO;rw[Qh];dsimp only;rw[ef];dsimp only;rw[CS];rfl
    push_cast -dsimp[<-Nd];refine xa (t:=_) (by rfl) (by rfl) (R7.below hb R7.lt) (E7.below hb E7.lt) rfl (ht.mono (by omega)) hpe (nw.trans (hb.mono nw.size))
   have CS:isKind 5 l'=true:=by rw[WA];exact decide_eq_true (by omega)
   have aN1:eO s=.ok f:=by
    unfold eO;rw[Qh];dsimp only;rw[ef];dsimp only;rw[CS];rfl
   have d7:aB w7 ⟨w.heap.size,0,none⟩ 0 3=some [cv,rv,.bool f.els]:=R7.aB;push_cast -dsimp[<-Nd,d7];refine aJ (xt:=26) (n:=3) (by kernel_rfl) R7 rfl (Nat.le_refl _) ?_ ?_
   ·obtain⟨_,_,rfl,_⟩:=S1.shape;obtain⟨_,_,rfl,_⟩:=S2.shape;simp;exact⟨rfl,rfl,rfl⟩
   intro w8 sE;have R8:aM w8 w.heap.size 26 [cv,rv,.bool f.els]:=sE.aN;have E8:=E7.kept sE.kept (by omega);have z8:=sE.size;push_cast -dsimp[<-Nd];refine aC E8 (by simp) rfl ?_;intro w9 Ng;have E9:aM w9 (w.heap.size+1) 31 [.nilIface]:=Ng.aN;have R9:=R8.kept Ng.kept (by omega);have k69:Kept (λi=>i<w5.heap.size) w6 w9:=((k7.weaken (Y:=λi=>i<w5.heap.size) (λi _ h=>by omega)).trans sE.kept (λi _ h=>by omega)).trans Ng.kept (λi _ h=>by omega);have qI:=nw.trans (((sE.kept.weaken (Y:=λi=>w.heap.size<=i) (λi _ h=>by omega)).trans Ng.kept (λi _ h=>by omega)).below (B:=w.heap.size) nw.size (λi h=>h));push_cast -dsimp[<-Nd];refine JF (t:=_) (by rfl) (by rfl) R9 E9 rfl (.inl ⟨f,_,aN1,rfl,cv,rv,cs,rs,rfl,(S1.kept k69 (λi h=>h)).weaken (λi h=>by omega),(S2.kept k69 (λi h=>h)).weaken (λi h=>by omega),A1.imp λa c h=>h.mono k69 (λi h=>h) (λi h=>by omega),A2.imp λa c h=>h.mono k69 (λi h=>h) (λi h=>by omega)⟩) qI
  rintro ce w6 ⟨en,pos,Vt,ht,hk⟩;have E6:=E5.kept hk (by omega);have R6:=R5.kept hk (by omega);have lp:=ng.trans (hk.below (B:=w.heap.size) ng.size (λi h=>by omega));have hpe:eO s=.error (en,pos):=by
   unfold eO;rw[Qh];dsimp only;rw[Vt]
  push_cast -dsimp[<-Nd];exact xa (t:=_) (by rfl) (by rfl) R6 E6 rfl (ht.mono (by omega)) hpe lp
 push_cast -dsimp;refine aC E3 (by simp) rfl ?_;intro w4 az;have E4:aM w4 (w.heap.size+1) 31 [.iface 92 (.pointer (some ⟨b,0,none⟩))]:=az.aN;have R4:=R3.kept az.kept (by omega);have z4:=az.size;have Fe:=hB.kept az.kept (by omega);have kj:=fL.trans (az.kept.below (B:=w.heap.size) (by omega) (λi h=>by omega));have d4:w4.cell? ⟨w.heap.size+1,0,none⟩=some (.iface 92 (.pointer (some ⟨b,0,none⟩))):=E4.cell rfl;push_cast -dsimp;refine wp_seq (YF (by rfl) ?_);push_cast -dsimp[d4];refine aDA (by rfl) (wp_seq ?_);refine Y7 (λw'=>w'.cell? ⟨w.heap.size+1,0,none⟩=some (.iface 92 (.pointer (some ⟨b,0,none⟩)))) mixed (by kernel_rfl) d4 ?_;have d4d:w4.drew.cell? ⟨w.heap.size+1,0,none⟩=some (.iface 92 (.pointer (some ⟨b,0,none⟩))):=d4;push_cast -dsimp[d4d];refine⟨λbU h=>by rw[h];exact rfl,?_⟩;refine aJ (xt:=26) (n:=3) (by kernel_rfl) R4.drew rfl (by decide) (by simp;exact⟨rfl,rfl⟩) ?_;intro w5 cO;have R5:aM w5 w.heap.size 26 [.slice none 0 0,.slice none 0 0,.bool false]:=cO.aN;have E5:=E4.drew.kept cO.kept (by omega);have Zo:=Fe.drew.kept cO.kept (by omega);refine⟨E5.cell rfl,?_⟩;push_cast -dsimp;refine aC E5 (by simp) rfl ?_;intro w6 bZ;have E6:aM w6 (w.heap.size+1) 31 [.iface 92 (.pointer (some ⟨b,0,none⟩))]:=bZ.aN;have R6:=R5.kept bZ.kept (by omega);have yI:=Zo.kept bZ.kept (by omega);have lp:=kj.trans (((Kept.refl (λi=>w.heap.size<=i) w4).drew.trans cO.kept (λi _ h=>by omega)).trans bZ.kept (λi _ h=>by omega) |>.below (B:=w.heap.size) kj.size (λi h=>h))
 have hpe:eO s=.error (en,pos):=by
  unfold eO;rw[Qh]
 refine⟨E6.cell rfl,?_⟩;push_cast -dsimp;refine wp_ret ?_;exact JF (t:=_) (by rfl) (by rfl) R6 E6 rfl (.inr ⟨en,pos,b,hpe,rfl,by omega,yI⟩) lp
end Go.Proofs.YtledlfbbebodgaaGreatDoor
end
section
namespace Cae
def TB (l:List Tok):Prop:=∀t∈l,t.text.length<=1000000
def Iv {α:Type}(I:α->Prop)(p:Pa α):Prop:=∀l x l',TB l->p l=.ok (x,l')->I x/\TB l'
section
variable {α β:Type} {I:α->Prop} {J:β->Prop} {p:Pa α} {q:α->Pa β}
theorem Iv.pr {x:α}(h:I x):Iv I (pr x):=λl y l' hl e=>by cases e;exact⟨h,hl⟩
theorem Iv.fail {e:Nat}:Iv I (dr e):=λl y l' _ h=>by cases h
theorem Iv.pb (h:Iv I p)(k:∀x,I x->Iv J (q x)):Iv J (pb p q):=λl y l' hl e=>by
 obtain⟨x,l1,e1,e2⟩:=dq e;obtain⟨h1,h2⟩:=h l x l1 hl e1;exact k x h1 l1 y l' h2 e2
theorem Iv.ay {cc:List Tok->Bool}{p1 p2:Pa α}(h1:Iv I p1)(h2:Iv I p2):Iv I (ay cc p1 p2):=λl x l' hl e=>by
 unfold Cae.ay at e;split at e
 ·exact h1 l x l' hl e
 exact h2 l x l' hl e
theorem Iv.ite {c:Prop}[Decidable c]{p1 p2:Pa α}(h1:c->Iv I p1)(h2:¬c->Iv I p2):Iv I (if c then p1 else p2):=by
 by_cases h:c
 ·rw[if_pos h];exact h1 h
 rw[if_neg h];exact h2 h
end
def Tv {α:Type}(_:α):Prop:=True
theorem Iv.dW:Iv (λt=>t.text.length<=1000000) dW:=λl x l' hl e=>by
 cases e;refine⟨?_,hl⟩;cases l with
 | nil=>simp[hd]
 | cons t r=>exact hl t (List.mem_cons_self ..)
theorem Iv.pop:Iv Tv cM:=λl x l' hl e=>by
 obtain⟨t,rfl,_⟩:=tH e;exact⟨trivial,λy hy=>hl y (List.mem_cons_of_mem _ hy)⟩
theorem fj (s:List UInt8):Iv Tv (dB s):=Iv.ay Iv.pop Iv.fail
theorem Nn:Iv Tv mX:=Iv.ay (Iv.ay Iv.fail (Iv.pb Iv.dW λt _=>Iv.pb Iv.pop λ_ _=>Iv.pr trivial)) Iv.fail
theorem aFo:Iv (λc=>c=0\/c=3\/c=4\/c=5) tj :=
 Iv.ay (Iv.pb Iv.pop λ_ _=>Iv.pr (by simp)) (Iv.ay (Iv.pb Iv.pop λ_ _=>Iv.pr (by simp)) (Iv.ay (Iv.pb Iv.pop λ_ _=>Iv.pr (by simp)) (Iv.pr (by simp))))
theorem x7 {one:Pa ao}(h:Iv gB one)(pos:Nat):∀(n:Nat) (k:ao),gB k->Iv gB (dM one pos n k)
 | 0,k,_=>Iv.fail
 | n+1,k,hk=>Iv.pb aFo λc hc=>Iv.ite (λ_=>Iv.pr hk) λhc0=>Iv.pb h λr hr=>x7 h pos n _ ⟨hk,hr,by rcases hc with hc|hc;exact absurd hc hc0;exact hc⟩
theorem JD {one:Pa ao}(h:Iv gB one):Iv gB (sG one):=Iv.pb Iv.dW λt _=>Iv.pb h λk hk=>x7 h _ _ _ hk
theorem aFp:Iv gB GP:=Iv.pb Iv.dW λt ht=>by
 cases hs:Gk t.text with
 | none=>exact Iv.fail
 | some s =>
  refine Iv.pb Iv.pop λ_ _=>Iv.pr ?_;have h1:=Gl hs;refine⟨h1.1,?_⟩;have h2:gW s=t.text:=h1.2;have h3:=(qX (s.map rl) [32] (by decide)).2;have h4:(gW s).length=(Go.Lib.join (s.map rl) [32]).length+2:=by simp[gW]
  rw[h2]at h4;rw[List.length_map]at h3;omega
theorem Am:∀d,Iv gB (lH d)
 | 0=>Iv.fail
 | d+1=>Iv.ay aFp (Iv.ay (Iv.pb Iv.dW λt _=>Iv.pb Iv.pop λ_ _=>Iv.pb (Am d) λk hk=>Iv.pr hk)
   (Iv.ay (Iv.pb Iv.pop λ_ _=>Iv.pb (JD (Am d)) λk hk=>Iv.pb (fj _) λ_ _=>Iv.pr hk)
    (Iv.pb Iv.dW λt _=>Iv.pb Nn λn _=>Iv.pr trivial)))
theorem JE:Iv (λn=>n<=12) j8:=Iv.ay (Iv.pb Iv.dW λt _=>Iv.ite (λ_=>Iv.fail) λh=>Iv.pb Iv.pop λ_ _=>Iv.pr (by omega)) Iv.fail
def Kp (q:Int×Int):Prop:=0<=q.1/\q.1<100/\q.2<100/\(q.2<0\/q.1<=q.2)
theorem Qr:Iv Kp dC:=Iv.pb JE λlo yn=>Iv.ay (Iv.pb Iv.pop λ_ _=>Iv.ay
  (Iv.pb JE λhi Sz=>Iv.ite (λ_=>Iv.fail) λhh=>Iv.pb (fj _) λ_ _=>Iv.pr ⟨by show 0<=(lo:Int);omega,by show (lo:Int)<100;omega,by show (hi:Int)<100;omega,.inr (by show (lo:Int)<=hi;omega)⟩)
  (Iv.pb (fj _) λ_ _=>Iv.pr ⟨by show 0<=(lo:Int);omega,by show (lo:Int)<100;omega,by show (-1:Int)<100;omega,.inl (by show (-1:Int)<0;omega)⟩))
 (Iv.pb (fj _) λ_ _=>Iv.pr ⟨by show 0<=(lo:Int);omega,by show (lo:Int)<100;omega,by show (lo:Int)<100;omega,.inr (Int.le_refl _)⟩)
theorem Dm:Iv (λo=>∀q,o=some q->Kp q) eK:=by
 have h:∀r:Int×Int,Kp r->Iv (λo=>∀q,o=some q->Kp q) (pb cM λ_=>pr (some r)):=λr hr=>Iv.pb Iv.pop λ_ _=>Iv.pr (by intro q e;cases e;exact hr);refine Iv.ay (h _ (by unfold Kp;decide)) (Iv.ay (h _ (by unfold Kp;decide)) (Iv.ay (h _ (by unfold Kp;decide)) (Iv.ay ?_ (Iv.pr (by intro q e;cases e)))));exact Iv.pb Iv.pop λ_ _=>Iv.pb Qr λr hr=>Iv.pr (by intro q e;cases e;exact hr)
theorem u5 (d:Nat):∀(n c:Nat) (x:aF),aj x->Iv aj (bW d n c x)
 | 0,_,_,_=>Iv.fail
 | n+1,c,x,hx=>Iv.pb Dm λr hr=>by
   cases r with
   | none=>exact Iv.pr hx
   | some q =>
    have hq:=hr q rfl;refine Iv.ite (λ_=>Iv.fail) λ_=>u5 d n (c+1) _ ?_;simp only[aj];exact⟨hx,hq.1,hq.2.1,hq.2.2⟩
theorem Qq {d:Nat}{unit:Pa aF}(h:Iv aj unit):Iv aj (aV d unit):=Iv.pb h λx hx=>u5 d _ _ _ hx
theorem nO:∀{l:List aF} {x:aF},bz l->aj x->bz (l++[x])
 | [],x,_,h=>by simp only[List.nil_append,bz];exact⟨h,trivial⟩
 | y::l,x,hl,h=>by
  simp only[bz,List.cons_append]at hl ⊢
  exact⟨hl.1,nO hl.2 h⟩
theorem BS:bz []:=by simp only[bz]
theorem An {again:Pa aF}(h:Iv aj again):∀(n:Nat) (a:List aF),bz a->Iv bz (bI again n a)
 | 0,_,_=>Iv.fail
 | n+1,a,ha=>Iv.ay (Iv.pb h λx hx=>An h n _ (nO ha hx)) (Iv.pr ha)
theorem Xy {l:List aF}(h:bz l):aj (rowOf l):=by
 match l with
 | []=>simp only[rowOf,aj];exact h
 | [x]=>simp only[bz]at h;exact h.1
 | x::y::l=>simp only[rowOf,aj];exact h
theorem T0 {l:List aF}(h:bz l):aj (jT l):=by
 match l with
 | []=>simp only[jT,aj];exact h
 | [x]=>simp only[bz]at h;exact h.1
 | x::y::l=>simp only[jT,aj];exact h
theorem aAX {again:Pa aF}(h:Iv aj again):Iv aj (iR again):=Iv.pb (An h _ _ BS) λps xU=>Iv.pr (Xy xU)
theorem Al {row:Pa aF}(h:Iv aj row):∀(n:Nat) (a:List aF),bz a->Iv bz (eV row n a)
 | 0,_,_=>Iv.fail
 | n+1,a,ha=>Iv.ay (Iv.pb Iv.pop λ_ _=>Iv.pb h λx hx=>Al h n _ (nO ha hx)) (Iv.pr ha)
theorem aAV {row:Pa aF}(h:Iv aj row):Iv aj (Kt row):=Iv.pb h λx hx=>Iv.pb (Al h _ _ (nO BS hx)) λps xU=>Iv.pr (T0 xU)
theorem No {d:Nat}{unit:Pa aF}(h:Iv aj unit):Iv aj (BQ d unit):=Iv.ite (λ_=>Iv.fail) λ_=>aAV (aAX (Qq h))
theorem Np:∀d,Iv aj (aq d)
 | 0=>Iv.fail
 | d+1=>Iv.ay (Iv.pb Iv.pop λ_ _=>Iv.pr (by simp only[aj])) (Iv.ay (Iv.pb Iv.pop λ_ _=>Iv.pr (by simp only[aj]))
   (Iv.ay (Iv.pb Iv.pop λ_ _=>Iv.pb (No (Np d)) λx hx=>Iv.pb (fj _) λ_ _=>Iv.pr hx)
    (Iv.ay (Iv.pb (Am (d+1)) λk hk=>Iv.pr (by simp only[aj];exact hk)) Iv.fail)))
theorem Wa (d:Nat):Iv aj (qh d):=No (Np d)
theorem yq:Iv Tv gZ:=Iv.ay (Iv.pb Iv.pop λ_ _=>Iv.pr trivial) (Iv.pb (fj _) λ_ _=>Iv.pr trivial)
theorem aAY:Iv (λr=>aj r.before/\aj r.after) lO:=Iv.pb Iv.dW λt _=>Iv.pb yq λb _=>Iv.pb (Wa 9) λx hx=>Iv.pb (fj _) λ_ _=>Iv.pb (Wa 9) λy hy=>Iv.pb (fj _) λ_ _=>Iv.pr ⟨hx,hy⟩
theorem W9:Iv (λc=>gB c.kind) nZ:=Iv.pb Iv.dW λt _=>Iv.pb (fj _) λ_ _=>Iv.pb Nn λn _=>Iv.pb (fj _) λ_ _=>Iv.pb (JD (Am 9)) λk hk=>Iv.pb (fj _) λ_ _=>Iv.pr hk
theorem x8:∀(n:Nat) (acc:List cD),acc.length<=20/\(∀r∈acc,aj r.before/\aj r.after)->Iv (λl=>l.length<=20/\∀r∈l,aj r.before/\aj r.after) (bR n acc)
 | 0,_,_=>Iv.fail
 | n+1,acc,ha=>Iv.ay (Iv.ite (λ_=>Iv.fail) λh=>Iv.pb aAY λr hr=>x8 n _ ⟨by have:=ha.1;rw[List.length_append,List.length_singleton];omega,λx hx=>by
   rcases List.mem_append.1 hx with hx|hx
   ·exact ha.2 x hx
   rw[List.mem_singleton.1 hx];exact hr⟩) (Iv.pr ha)
theorem pG:∀(n:Nat) (acc:List fA),acc.length<=20/\(∀c∈acc,gB c.kind)->Iv (λl=>l.length<=20/\∀c∈l,gB c.kind) (bS n acc)
 | 0,_,_=>Iv.fail
 | n+1,acc,ha=>Iv.ay (Iv.ite (λ_=>Iv.fail) λh=>Iv.pb W9 λr hr=>pG n _ ⟨by have:=ha.1;rw[List.length_append,List.length_singleton];omega,λx hx=>by
   rcases List.mem_append.1 hx with hx|hx
   ·exact ha.2 x hx
   rw[List.mem_singleton.1 hx];exact hr⟩) (Iv.pr ha)
theorem aAW:Iv (λf=>zK f/\f.cQ.length<=20/\f.rules.length<=20) jB:=Iv.pb (pG _ _ ⟨by simp,by simp⟩) λcs iW=>Iv.pb (x8 _ _ ⟨by simp,by simp⟩) λrs jO =>
 Iv.pb (I:=Tv) (λl x l' hl e=>⟨trivial,(show Iv Tv oD from Iv.ay (Iv.pb Iv.pop λ_ _=>Iv.pb yq λ_ _=>Iv.pb (fj _) λ_ _=>Iv.pr trivial) (Iv.pr trivial)) l x l' hl e |>.2⟩) λb _=>Iv.pr ⟨⟨iW.2,jO.2⟩,iW.1,jO.1⟩
end Cae
namespace Go.Proofs.YtledlfbbebodgaaGreatDoor
open Go.Vc Go.Proofs Go.RowKit Cae
attribute [local irreducible] dd ae ak a7 runK bE Sl Vc.Own vc aU cJ a8
theorem J8 {s:List UInt8}{f:dw}(hs:s.length<=1000000)(h:eO s=.ok f):zK f/\f.cQ.length<=20/\f.rules.length<=20:=by
 unfold eO at h;split at h
 ·cases h
 rename_i l hl;have Kf:=YV hs hl;split at h
 ·cases h
 rename_i f' l' hf;split at h
 ·cases h;exact(aAW _ _ _ Kf.txt hf).1
 cases h
end Go.Proofs.YtledlfbbebodgaaGreatDoor
end
section
namespace Cae
abbrev bG:=List (List UInt8×List Rg)
def sA (n:List UInt8):bG->Option (List Rg)
 | []=>none
 | x::l=>if x.1=n then some x.2 else sA n l
def cH (nm:bG):ao->Except Nat (List Rg)
 | .lit _ s=>.ok s
 | .ref pos n=>match sA n nm with
  | some s=>.ok s
  | none=>.error pos
 | .not _ k=>match cH nm k with
  | .ok s=>.ok (gw s)
  | .error e=>.error e
 | .bin c _ k r=>match cH nm k with
  | .error e=>.error e
  | .ok s=>match cH nm r with
   | .error e=>.error e
   | .ok t=>.ok (if c=3 then Bk s t else if c=4 then Bi s t else zE s t)
def iQ:bG->List fA->Except (Nat×Nat) bG
 | nm,[]=>.ok nm
 | nm,c::l=>if (sA c.name nm).isSome then .error (5,c.pos) else match cH nm c.kind with
  | .error e=>.error (6,e)
  | .ok s=>iQ (nm++[(c.name,s)]) l
mutual
def fi (nm:bG):aF->Option Nat
 | .one k=>match cH nm k with
  | .error e=>some e
  | .ok _=>none
 | .any=>none
 | .fY=>none
 | .cat l=>gu nm l
 | .alt l=>gu nm l
 | .many x _ _=>fi nm x
def gu (nm:bG):List aF->Option Nat
 | []=>none
 | x::l=>match fi nm x with
  | some e=>some e
  | none=>gu nm l
end
def EM (nm:bG)(r:cD):Option Nat:=match fi nm r.before with
 | some e=>some e
 | none=>fi nm r.after
def gF (nm:bG):List cD->Option Nat
 | []=>none
 | r::l=>match EM nm r with
  | some e=>some e
  | none=>gF nm l
def gh (nm:bG):Prop:=∀x∈nm,aP (-2) x.2=true
theorem IW {nm:bG}(h:gh nm){n:List UInt8}{s:List Rg}(hf:sA n nm=some s):aP (-2) s=true:=by
 induction nm with
 | nil=>cases hf
 | cons x l ih =>
  rw[sA]at hf;split at hf
  ·cases hf;exact h x (List.mem_cons_self ..)
  exact ih (λy hy=>h y (List.mem_cons_of_mem _ hy)) hf
theorem eC {nm:bG}(h:gh nm):∀{k:ao} {s:List Rg},gB k->cH nm k=.ok s->aP (-2) s=true
 | .lit _ s0,s,hk,e=>by cases e;exact hk.1
 | .ref pos n,s,hk,e=>by
  rw[cH]at e;split at e
  ·rename_i t ht;cases e;exact IW h ht
  cases e
 | .not _ k,s,hk,e=>by
  rw[cH]at e;split at e
  ·rename_i t ht;cases e;exact pR (eC (k:=k) h hk ht)
  cases e
 | .bin c _ k r,s,hk,e=>by
  rw[cH]at e;split at e
  ·cases e
  split at e
  ·cases e
  cases e;split
  ·exact qw _ _
  split
  ·exact vE _ _
  exact DP _ _
mutual
def oe (Q:ao->Prop):aF->Prop
 | .one k=>Q k
 | .any=>True
 | .fY=>True
 | .cat l=>jR Q l
 | .alt l=>jR Q l
 | .many x _ _=>oe Q x
def jR (Q:ao->Prop):List aF->Prop
 | []=>True
 | x::l=>oe Q x/\jR Q l
end
mutual
def ti (S:ao->List Rg):aF->aF
 | .one k=>.one (.lit 0 (S k))
 | .any=>.any
 | .fY=>.fY
 | .cat l=>.cat (pX S l)
 | .alt l=>.alt (pX S l)
 | .many x lo hi=>.many (ti S x) lo hi
def pX (S:ao->List Rg):List aF->List aF
 | []=>[]
 | x::l=>ti S x::pX S l
end
section
variable {has I2:ao->Int->Prop} {pts:List Int} {back:Bool} {S:ao->List Rg}
mutual
theorem qk:∀(back:Bool) (x:aF),oe (λk=>∀p,I2 (.lit 0 (S k)) p↔has k p) x->∀{i j:Nat},dF I2 pts back (ti S x) i j↔dF has pts back x i j
 | back,.one k,h,i,j=>by
  simp only[oe]at h;simp only[ti,dF];exact exists_congr λp=>and_congr Iff.rfl (h p)
 | back,.any,h,i,j=>by simp only[ti,dF]
 | back,.fY,h,i,j=>by simp only[ti,dF]
 | back,.cat l,h,i,j=>by
  simp only[oe]at h;simp only[ti,dF];cases back
  ·exact EI l h
  exact EH l h
 | back,.alt l,h,i,j=>by
  simp only[oe]at h;simp only[ti,dF];exact EG back l h
 | back,.many x lo hi,h,i,j=>by
  simp only[oe]at h;simp only[ti,dF];refine exists_congr λn=>and_congr Iff.rfl (and_congr Iff.rfl ⟨tB λa b hr=>(qk back x h).1 hr,tB λa b hr=>(qk back x h).2 hr⟩)
theorem EI:∀(l:List aF),jR (λk=>∀p,I2 (.lit 0 (S k)) p↔has k p) l->∀{i j:Nat},iS I2 pts false (pX S l) i j↔iS has pts false l i j
 | [],h,i,j=>by simp only[pX,iS]
 | x::l,h,i,j=>by
  simp only[jR]at h;simp only[pX,iS];exact exists_congr λm=>and_congr (qk false x h.1) (EI l h.2)
theorem EH:∀(l:List aF),jR (λk=>∀p,I2 (.lit 0 (S k)) p↔has k p) l->∀{i j:Nat},iq I2 pts true (pX S l) i j↔iq has pts true l i j
 | [],h,i,j=>by simp only[pX,iq]
 | x::l,h,i,j=>by
  simp only[jR]at h;simp only[pX,iq];exact exists_congr λm=>and_congr (EH l h.2) (qk true x h.1)
theorem EG:∀(back:Bool) (l:List aF),jR (λk=>∀p,I2 (.lit 0 (S k)) p↔has k p) l->∀{i j:Nat},nW I2 pts back (pX S l) i j↔nW has pts back l i j
 | back,[],h,i,j=>by simp only[pX,nW]
 | back,x::l,h,i,j=>by
  simp only[jR]at h;simp only[pX,nW];exact or_congr (qk back x h.1) (EG back l h.2)
end
end
end Cae
end
