/- Texts of this claim, merged: Rp9, Rpa, Vd, Rpb, Rpc, Prl4, Pmean4. -/
import Derived.Test.YtodeeahdhnjpkaaGreatDoorM8
import Derived.Recover
set_option maxRecDepth 100000
set_option linter.unusedSimpArgs false
set_option linter.unusedVariables false
set_option maxHeartbeats 8000000
section
namespace Go.Proofs.YtodeeahdhnjpkaaGreatDoor
open Go.Vc Go.Proofs Go.RowKit Cae
attribute [local irreducible] cw ag aq a8 runK bD Sl Vc.Own vc aW cN ai
mutual
theorem aLW:∀d,Kf d
 | 0=>B0
 | d+1=>BZ d (rT d)
theorem rT:∀d,aAB d
 | 0=>US 0 (Uq 0 (ER 0 B0))
 | d+1=>US (d+1) (Uq (d+1) (ER (d+1) (BZ d (rT d))))
end
def uA (a:List UInt8×Nat×Nat):List Value:=[str a.1,.int .i64 a.2.1,bF a.2.2]
def gv (a:Nat×Bool×Nat×Nat):List Value:=[.int .i64 a.1,.bool a.2.1,bF a.2.2.1,bF a.2.2.2]
theorem Rt (a:List UInt8×Nat×Nat):∀u∈uA a,u.oneCell'=true:=by
 intro u hu;simp[uA,bF]at hu;rcases hu with rfl|rfl|rfl<;>rfl
theorem qU (a:Nat×Bool×Nat×Nat):∀u∈gv a,u.oneCell'=true:=by
 intro u hu;simp[gv,bF]at hu;rcases hu with rfl|rfl|rfl|rfl<;>rfl
def qj (X:Nat->Prop)(w:World)(a:List UInt8×Nat×Nat)(c:eD):Prop:=a.1=c.name/\a.2.1=c.pos/\eC X w (bF a.2.2) c.kind
def kG (X:Nat->Prop)(w:World)(a:Nat×Bool×Nat×Nat)(r:cW):Prop:=a.1=r.pos/\a.2.1=r.brk/\aV X w (bF a.2.2.1) r.before/\aV X w (bF a.2.2.2) r.after
theorem _root_.Cae.dd.imp {α β:Type}{R S:α->β->Prop}{l:List α}{m:List β}(h:dd R l m)(k:∀a b,R a b->S a b):dd S l m:=by
 induction h with
 | nil=>exact .nil
 | cons h1 _ ih=>exact .cons (k _ _ h1) ih
theorem qj.mono {X X' Y:Nat->Prop}{w w':World}(hk:Kept Y w w')(hY:∀i,Y i->X i)(hX:∀i,X' i->X i){a:List UInt8×Nat×Nat}{c:eD}(h:qj X w a c):qj X' w' a c:=⟨h.1,h.2.1,h.2.2.mono hk hY hX⟩
theorem qj.top {X:Nat->Prop}{w:World}{a:List UInt8×Nat×Nat}{c:eD}(h:qj X w a c):qj (λb=>X b\/w.heap.size<=b) w a c:=⟨h.1,h.2.1,h.2.2.top⟩
theorem kG.mono {X X' Y:Nat->Prop}{w w':World}(hk:Kept Y w w')(hY:∀i,Y i->X i)(hX:∀i,X' i->X i){a:Nat×Bool×Nat×Nat}{c:cW}(h:kG X w a c):kG X' w' a c:=⟨h.1,h.2.1,h.2.2.1.mono hk hY hX,h.2.2.2.mono hk hY hX⟩
theorem kG.top {X:Nat->Prop}{w:World}{a:Nat×Bool×Nat×Nat}{c:cW}(h:kG X w a c):kG (λb=>X b\/w.heap.size<=b) w a c:=⟨h.1,h.2.1,h.2.2.1.top,h.2.2.2.top⟩
def gn (X:Nat->Prop)(w:World)(v:Value)(f:dQ):Prop:=∃cv rv cs rs,v=.agg #[cv,rv,.bool f.els]/\Sl X 3 (En uA) w cv cs/\Sl X 4 (En gv) w rv rs/\dd (qj X w) cs f.bJ/\dd (kG X w) rs f.rules
theorem cT {α β:Type}{p:Pa α}{q:α->Pa β}{l:List Cae.Tok}{e:Nat×Nat}(h:p l=.error e):Cae.pb p q l=.error e:=by
 unfold Cae.pb;rw[h]
theorem Ei {m:Nat}{acc:List eD}{l1 l0:List Cae.Tok}(dB:az m acc l1=az 1000 [] l0)(hm:l1.length<m)(cO:bI [99,108,97,115,115] l1=true)(jQ:acc.length≠20) :
  az 1000 [] l0=Cae.pb iX (λc=>az (m-1) (acc++[c])) l1:=by
 obtain⟨m',rfl⟩:∃m',m=m'+1:=⟨m-1,by omega⟩;rw[<-dB,az];unfold bE;rw[cO,if_pos rfl,if_neg jQ];rfl
theorem s9 {m:Nat}{acc:List eD}{l1 l0:List Cae.Tok}{e:Nat×Nat}(dB:az m acc l1=az 1000 [] l0)(hm:l1.length<m)(cO:bI [99,108,97,115,115] l1=true)(jQ:acc.length≠20)(h:iX l1=.error e):j3 l0=.error e:=by
 unfold j3;exact cT (by rw[Ei dB hm cO jQ];exact cT h)
theorem RD {m:Nat}{acc:List eD}{l1 l0:List Cae.Tok}(dB:az m acc l1=az 1000 [] l0)(hm:l1.length<m)(cO:bI [99,108,97,115,115] l1=true)(jQ:acc.length=20):j3 l0=.error (4,(Cae.hd l1).pos):=by
 obtain⟨m',rfl⟩:∃m',m=m'+1:=⟨m-1,by omega⟩;unfold j3;refine cT ?_;rw[<-dB,az];unfold bE;rw[cO,if_pos rfl,if_pos jQ];rfl
theorem Wk {m:Nat}{acc:List eD}{l1 l0:List Cae.Tok}(dB:az m acc l1=az 1000 [] l0)(hm:l1.length<m)(cO:bI [99,108,97,115,115] l1=false):az 1000 [] l0=.ok (acc,l1):=by
 obtain⟨m',rfl⟩:∃m',m=m'+1:=⟨m-1,by omega⟩;rw[<-dB,az];unfold bE;rw[cO];rfl
theorem qF {m:Nat}{acc:List cW}{l1 l0:List Cae.Tok}(dB:bA m acc l1=bA 1000 [] l0)(hm:l1.length<m)(cO:dC l1=true)(jQ:acc.length≠20) :
  bA 1000 [] l0=Cae.pb iq (λc=>bA (m-1) (acc++[c])) l1:=by
 obtain⟨m',rfl⟩:∃m',m=m'+1:=⟨m-1,by omega⟩;rw[<-dB,bA];unfold bE;rw[cO,if_pos rfl,if_neg jQ];rfl
theorem fM {m:Nat}{acc:List cW}{cs:List eD}{l1 l0 l:List Cae.Tok}{e:Nat×Nat}(je:az 1000 [] l=.ok (cs,l0))(dB:bA m acc l1=bA 1000 [] l0)(hm:l1.length<m)(cO:dC l1=true)(jQ:acc.length≠20)(h:iq l1=.error e):j3 l=.error e:=by
 unfold j3;rw[aG je];exact cT (by rw[qF dB hm cO jQ];exact cT h)
theorem HF {m:Nat}{acc:List cW}{cs:List eD}{l1 l0 l:List Cae.Tok}(je:az 1000 [] l=.ok (cs,l0))(dB:bA m acc l1=bA 1000 [] l0)(hm:l1.length<m)(cO:dC l1=true)(jQ:acc.length=20):j3 l=.error (4,(Cae.hd l1).pos):=by
 obtain⟨m',rfl⟩:∃m',m=m'+1:=⟨m-1,by omega⟩;unfold j3;rw[aG je];refine cT ?_;rw[<-dB,bA];unfold bE;rw[cO,if_pos rfl,if_pos jQ];rfl
theorem Yb {m:Nat}{acc:List cW}{l1 l0:List Cae.Tok}(dB:bA m acc l1=bA 1000 [] l0)(hm:l1.length<m)(cO:dC l1=false):bA 1000 [] l0=.ok (acc,l1):=by
 obtain⟨m',rfl⟩:∃m',m=m'+1:=⟨m-1,by omega⟩;rw[<-dB,bA];unfold bE;rw[cO];rfl
theorem yk:Sh iX:=Sh.pbr DK λ_=>Sh.pb (gZ.sh (iQ _)) λ_=>Le.pb (gZ.sh DL).le λ_=>Le.pb (gZ.sh (iQ _)).le λ_=>Le.pb (Lo.le (yE (nE 9))) λ_=>Le.pb (gZ.sh (iQ _)).le λ_=>Le.pr
theorem qa:Sh iq:=gZ.sh Xs
theorem aA7 {pb B:Nat}{w:World}{l0:List Cae.Tok}(h0:PS pb B w l0):Pc 32 [.pointer (some ⟨pb,0,none⟩)] pb B w l0 j3 (λw' r f=>gn (·<w.heap.size) w' r f):=by
 have hle:=h0.le;have bZ:=h0.lt;refine dm Tryz.func32 rfl (by kernel_rfl) [.cell 2 25] rfl ?_;push_cast -dsimp(maxSteps:=4000000) [Tryz.ntmps32];refine aR (z:=[.slice none 0 0,.slice none 0 0,.bool false]) (by kernel_rfl) ?_;intro w1 au;have R1:=au.aN;have P1:=h0.below au.below;have z1:=au.size;push_cast -dsimp;refine aR (z:=[.slice none 0 0,.slice none 0 0,.bool false]) (by kernel_rfl) ?_;intro w2 bT;have F2:=bT.aN;have R2:=R1.below bT.below (by omega);have P2:=P1.below bT.below;have z2:=bT.size;rw[z1]at F2;push_cast -dsimp[z1];refine aF (xt:=25) (n:=3) (by kernel_rfl) F2 rfl (by decide) (by simp;exact⟨rfl,rfl⟩) ?_;intro w3 bO;have F3:aO w3 (w.heap.size+1) 25 [.slice none 0 0,.slice none 0 0,.bool true]:=bO.aN;have R3:=R2.kept bO.kept (by omega);have P3:=P2.kept bO.kept (λi h=>by omega);have z3:=bO.size;have k3:Kept (·=pb) w w3:=((Kept.new (X:=(·=pb)) au).trans (Kept.new (X:=(·=pb)) bT) (λi _ h=>h)).trans bO.kept (λi h1 h2=>by omega);push_cast -dsimp;refine aM [4,7,8,9,10,11,12,13,14,15,16,17,18,19,20,21,22,23,24,25,26,27,28,29,30,31,32,33,34,35,36,37,38,39,40] (λz w'=>∃(m:Nat) (acc:List eD) (l1:List Cae.Tok) (cv:Value) (cs:List (List UInt8×Nat×Nat)),az m acc l1=az 1000 [] l0/\l1.length<m/\acc.length<=20 /\
   aO w' w.heap.size 25 [.slice none 0 0,.slice none 0 0,.bool false]/\aO w' (w.heap.size+1) 25 [cv,.slice none 0 0,.bool true]/\Go.Vc.Own (w.heap.size+2) 74 3 uA w' cv cs /\
   dd (qj (λb=>b<w.heap.size+2\/cv.ownBlock=some b) w') cs acc/\PS pb B w' l1/\Kept (·=pb) w w') (λz w'=>rP w' pb) ?_ ?_
 ·have bZ:l0.length<1000:=by have:=h0.tl.len;omega
  exact⟨1000,[],l0,_,[],rfl,bZ,by simp,R3,F3,Vc.Own.nil (enc:=uA) _ _ (λ_=>rfl) _,.nil,P3,k3⟩
 rintro z w' ⟨m,acc,l1,cv,cs,dB,hm,r8,hR,hF,hO,hV,hP,hk⟩;have lC:=hV.len;have hzw:=hk.size;have XO:=hP.len;have sQ:=hF.lt;obtain⟨ca,cc,JE⟩:=hO.slice;push_cast -dsimp;refine aA (yg [99,108,97,115,115] hP) ?_;rintro _ wx ⟨rfl,hwx⟩;obtain rfl:w'=wx:=hwx.symm;cases cO:bI [99,108,97,115,115] l1 with
 | true =>
  have d0:w'.cell? ⟨w.heap.size+1,0,none⟩=some (.slice ca cs.length cc):=by rw[<-JE];exact hF.cell rfl
  push_cast -dsimp[d0];refine⟨λjQ=>?_,λjQ=>?_⟩
  ·refine aK (j2 4 hP) (λ_ _ h=>h.elim) ?_;rintro ce we ⟨ht,hb⟩;push_cast -dsimp;exact⟨4,_,RD dB hm cO (by omega),ht.mono (by omega),hk.trans (Kept.aJ hb (X:=(·=pb)) (λi h1 h2=>by omega)) (λi _ h=>h)⟩
  have jQ:acc.length≠20:=by omega
  obtain⟨t1,r1,gy⟩:=hP.tl.cons;have wF:Cae.hd l1=t1:=by rw[gy];rfl
  have Hn:=hP;rw[gy]at Hn;obtain⟨b,o,c,Cv,hc,dA,c0,c1,c2,c3⟩:=Hn.hd;have cb:w'.cell? ⟨pb,0,none⟩=some (.slice (some ⟨b,o,none⟩) (r1.length+1) c):=Cv.cell rfl;have jE:iX l1=Cae.pb (a7 [99,108,97,115,115]) (λ_=>Cae.pb fP λn=>Cae.pb (a7 [61]) λ_=>Cae.pb (iV 9) λk=>Cae.pb (a7 [59]) λ_=>pr ⟨n,t1.pos,k⟩) l1:=by
   unfold iX;rw[aG (p:=eA) (x:=Cae.hd l1) (l1:=l1) rfl,wF]
  push_cast -dsimp[cb,c2];refine⟨by omega,?_⟩;refine aR (z:=[str [],.int .i64 0,.pointer none]) (by kernel_rfl) ?_;intro w4 aj;have C4:=aj.aN;have P4:=hP.below aj.below;have z4:=aj.size;have k4:=hk.trans (Kept.new (X:=(·=pb)) aj) (λi _ h=>h);push_cast -dsimp;refine aF (xt:=74) (n:=3) (by kernel_rfl) C4 rfl (by decide) (by simp;exact⟨rfl,rfl,rfl⟩) ?_;intro w5 bW;have C5:aO w5 w'.heap.size 74 [str [],.int .i64 t1.pos,.pointer none]:=bW.aN;have P5:=P4.kept bW.kept (λi h=>by omega);have k5:=k4.trans bW.kept (λi h1 h2=>by omega);have z5:=bW.size;push_cast -dsimp;refine aK (fj [99,108,97,115,115] P5) ?_ ?_;rotate_left;·
   rintro ce we ⟨e,pos,he,ht,fL⟩
   push_cast -dsimp
   refine⟨e,pos,s9 dB hm cO jQ ?_,ht.mono (by have:=k5.size;omega),k5.trans fL (λi _ h=>h)⟩
   rw[jE]
   exact cT he
  rintro _ w6 ⟨_,l2,e2,rfl,P6,rO⟩;have C6:=C5.kept rO (by omega);have k6:=k5.trans rO (λi _ h=>h);have z6:=rO.size;push_cast -dsimp;refine aK (Ty P6) ?_ ?_;rotate_left;·
   rintro ce we ⟨e,pos,he,ht,fL⟩
   push_cast -dsimp
   refine⟨e,pos,s9 dB hm cO jQ ?_,ht.mono (by have:=k6.size;omega),k6.trans fL (λi _ h=>h)⟩
   rw[jE]
   rw[aG e2];exact cT he
  rintro _ w7 ⟨nm,l3,e3,rfl,P7,kt7⟩;have C7:=C6.kept kt7 (by omega);have k7:=k6.trans kt7 (λi _ h=>h);have z7:=kt7.size;push_cast -dsimp;refine aC C7 (by simp) rfl ?_;intro w8 n9;have C8:aO w8 w'.heap.size 74 [str nm,.int .i64 t1.pos,.pointer none]:=n9.aN;have P8:=P7.kept n9.kept (λi h=>by omega);have k8:=k7.trans n9.kept (λi h1 h2=>by omega);have z8:=n9.size;push_cast -dsimp;refine aK (fj [61] P8) ?_ ?_;rotate_left;·
   rintro ce we ⟨e,pos,he,ht,fL⟩
   push_cast -dsimp
   refine⟨e,pos,s9 dB hm cO jQ ?_,ht.mono (by have:=k8.size;omega),k8.trans fL (λi _ h=>h)⟩
   rw[jE]
   rw[aG e2,aG e3];exact cT he
  rintro _ w9 ⟨_,l4,e4,rfl,P9,kt9⟩;have C9:=C8.kept kt9 (by omega);have k9:=k8.trans kt9 (λi _ h=>h);have z9:=kt9.size;push_cast -dsimp;refine aK (aCq 9 0 (by omega) (by omega) pb B w9 l4 P9) ?_ ?_;rotate_left;·
   rintro ce we ⟨e,pos,he,ht,fL⟩
   push_cast -dsimp
   refine⟨e,pos,s9 dB hm cO jQ ?_,ht.mono (by have:=k9.size;omega),k9.trans fL (λi _ h=>h)⟩
   rw[jE]
   rw[aG e2,aG e3,aG e4];exact cT he
  rintro u wa ⟨kd,l5,e5,Va,Pa,tI⟩;obtain⟨ub,rfl,zM⟩:=Va.ptr;have Ca:=C9.kept tI (by omega);have ka:=k9.trans tI (λi _ h=>h);have za:=tI.size;push_cast -dsimp;refine aC Ca (by simp) rfl ?_;intro wb cX;have Cb:aO wb w'.heap.size 74 [str nm,.int .i64 t1.pos,bF ub]:=cX.aN;have Pb:=Pa.kept cX.kept (λi h=>by omega);have kb:=ka.trans cX.kept (λi h1 h2=>by omega);have zb:=cX.size;push_cast -dsimp;refine aK (fj [59] Pb) ?_ ?_;rotate_left;·
   rintro ce we ⟨e,pos,he,ht,fL⟩
   push_cast -dsimp
   refine⟨e,pos,s9 dB hm cO jQ ?_,ht.mono (by have:=kb.size;omega),kb.trans fL (λi _ h=>h)⟩
   rw[jE]
   rw[aG e2,aG e3,aG e4,aG e5];exact cT he
  rintro _ wc ⟨_,l6,e6,rfl,WJ,tJ⟩;have Cc:=Cb.kept tJ (by omega);have kc:=kb.trans tJ (λi _ h=>h);have zc:=tJ.size;have cD:iX l1=.ok (⟨nm,t1.pos,kd⟩,l6):=by rw[jE,aG e2,aG e3,aG e4,aG e5,aG e6];rfl
  have hl6:=yk _ _ _ cD;have kw:Kept (λi=>i=pb) w' wc:=by
   refine((((((((Kept.new (X:=(·=pb)) aj).trans bW.kept (λi h1 h2=>by omega)).trans rO (λi _ h=>h)).trans kt7 (λi _ h=>h)).trans n9.kept (λi h1 h2=>by omega)).trans kt9 (λi _ h=>h)).trans tI (λi _ h=>h)).trans cX.kept (λi h1 h2=>by omega)).trans tJ (λi _ h=>h)
  have hRc:=hR.kept kw (by omega);have hFc:=hF.kept kw (by omega);have Mw:=hO.ak kw (λg hg h=>by have:=(hO.block g hg).1;omega);have gw:∀g,cv.ownBlock=some g->w.heap.size+2<=g/\g<w'.heap.size:=λg hg=>hO.block g hg;have hVc:dd (qj (λb=>(b<w.heap.size+2\/cv.ownBlock=some b)\/w'.heap.size<=b) wc) cs acc:=hV.imp λa c h=>h.top.mono kw (λi h=>by omega) (λi h=>h);have hVk:eC (λb=>b<w9.heap.size\/wa.heap.size<=b) wc (bF ub) kd:=(Va.top.mono cX.kept (X':=λb=>b<w9.heap.size\/wa.heap.size<=b) (λi h=>by omega) (λi h=>h)).mono tJ (λi h=>by omega) (λi h=>h);have dc:wc.cell? ⟨w.heap.size+1,0,none⟩=some (.slice ca cs.length cc):=by rw[<-JE];exact hFc.cell rfl
  have dl:aB wc ⟨w'.heap.size,0,none⟩ 0 3=some [str nm,.int .i64 t1.pos,bF ub]:=Cc.aB;push_cast -dsimp[dc,dl];refine cY CI rfl rfl (by omega) ?_;intro wd ur;have hRd:=hRc.below ur.below hRc.lt;have hFd:=hFc.below ur.below hFc.lt;have hOd:=Mw.new ur;rw[JE]at hOd;have Pd:=WJ.below ur.below;have zd:=ur.size;push_cast -dsimp;refine ae (base:=w.heap.size+2) [(nm,t1.pos,ub)] (enc:=uA) CI hOd (by rfl) (λj y hy=>by simpa[uA,bF] using ur.cell hy) Rt (by rw[lC];simp only[List.length_cons,List.length_nil];omega) (by omega) ?_;intro cv2 we hOe gh ie;rw[<-JE]at gh ie;have kg:Kept (λj=>cv.ownBlock=some j) wd we:=Kept.grown gh (λ_ h=>h);have Kr:=hRd.kept kg (λh=>by have:=gw _ h;omega);have hFe:=hFd.kept kg (λh=>by have:=gw _ h;omega);have Pe:=Pd.kept kg (λi h=>by have:=gw _ h;omega);have ze:=kg.size;obtain⟨a5,c5,rfl⟩:=hOe.slice;push_cast -dsimp;refine aC hFe (by simp) rfl ?_;intro wf DG;have Fc:aO wf (w.heap.size+1) 25 [.slice a5 (cs++[(nm,t1.pos,ub)]).length c5,.slice none 0 0,.bool true]:=DG.aN;have hRf:=Kr.kept DG.kept (by omega);have XN:=hOe.ak DG.kept (λg hg h=>by have:=(hOe.block g hg).1;omega);have Pf:=Pe.kept DG.kept (λi h=>by omega);have kY:Kept (λi=>i=w.heap.size+1\/cv.ownBlock=some i) wc wf:=((Kept.new (X:=λi=>i=w.heap.size+1\/cv.ownBlock=some i) ur).trans kg (λi _ h=>.inr h)).trans DG.kept (λi _ h=>.inl h);have kf:=kc.trans kY (X:=(·=pb)) (λi h1 h2=>by
   rcases h2 with h2|h2
   ·omega
   have:=gw _ h2;omega)
  have zkw:=kw.size;have XQ:dd (qj (λb=>b<w.heap.size+2\/(Value.slice a5 (cs++[(nm,t1.pos,ub)]).length c5).ownBlock=some b) wf) (cs++[(nm,t1.pos,ub)]) (acc++[⟨nm,t1.pos,kd⟩]):=by
   refine(hVc.imp λa c h=>h.mono kY (λi h=>?_) (λi h=>?_)).snoc ⟨rfl,rfl,hVk.mono kY (λi h=>?_) (λi h=>?_)⟩
   ·rcases h with h|h
    ·exact .inl (.inl (by omega))
    exact .inl (.inr h)
   ·rcases h with h|h
    ·exact .inl (.inl h)
    rcases ie i h with h|h
    ·exact .inl (.inr h)
    exact .inr (by omega)
   ·rcases h with h|h
    ·exact .inl (by omega)
    have:=gw _ h;exact .inl (by omega)
   rcases h with h|h
   ·exact .inl (by omega)
   rcases ie i h with h|h
   ·have:=gw _ h;exact .inl (by omega)
   exact .inr (by omega)
  have qt:az (m-1) (acc++[⟨nm,t1.pos,kd⟩]) l6=az 1000 [] l0:=by rw[Ei dB hm cO jQ,aG cD]
  have hPf:=Pf.len;push_cast -dsimp;exact⟨⟨m-1,acc++[⟨nm,t1.pos,kd⟩],l6,_,_,qt,by omega,by rw[List.length_append,List.length_singleton];omega,hRf,Fc,XN,XQ,Pf,kf⟩,by rw[hPf,XO];exact hl6⟩
 | false =>
  have jE:=Wk dB hm cO;have aBE:=JE;have XP:∃V0,V0=w':=⟨_,rfl⟩;obtain⟨V0,XP⟩:=XP;have Ar:∃lc,lc=l1:=⟨_,rfl⟩;obtain⟨lc,Ar⟩:=Ar;rw[JE]at hF;rw[<-XP]at hR hF hO hV hP hk hzw XO ⊢
  rw[<-Ar]at jE hP XO;clear dB hm cO;have hF0:=hF;have hP0:=hP;have JI:=hk;push_cast -dsimp;refine aM [5,41,42,43,44,45,46,47,48,49,50,51,52,53,54,55,56,57,58,59,60,61,62,63,64,65,66,67,68,69,70,71,72,73,74,75,76,77,78,79,80,81,82,83,84] (λz w'=>∃(m:Nat) (acc:List cW) (l1:List Cae.Tok) (rv:Value) (rs:List (Nat×Bool×Nat×Nat)),bA m acc l1=bA 1000 [] lc/\l1.length<m/\acc.length<=20 /\
    aO w' (w.heap.size+1) 25 [.slice ca cs.length cc,rv,.bool true]/\Go.Vc.Own V0.heap.size 60 4 gv w' rv rs /\
    dd (kG (λb=>b<V0.heap.size\/rv.ownBlock=some b) w') rs acc/\PS pb B w' l1/\Kept (·=pb) w w'/\Kept (λi=>i=pb\/i=w.heap.size+1) V0 w') (λz w'=>rP w' pb) ?_ ?_
  ·have bZ:lc.length<1000:=by have:=hP0.tl.len;omega
   exact⟨1000,[],lc,_,[],rfl,bZ,by simp,hF0,Vc.Own.nil (enc:=gv) _ _ (λ_=>rfl) _,.nil,hP0,JI,Kept.refl _ _⟩
  clear hF hP hk XO;have hVc:=hV;have Mw:=hO;have aPP:=lC;have aOo:=acc;rintro z w' ⟨m,ee,l1,rv,rs,dB,hm,aNf,hF,hO,hV,hP,hk,EH⟩;have lC:=hV.len;have hzw:=hk.size;have XO:=hP.len;have aPY:=hF.lt;have hf0:=hF0.lt;have aQi:=EH.size;obtain⟨ra,rc,tj⟩:=hO.slice;obtain⟨t1,r1,gy⟩:=hP.tl.cons;have wF:Cae.hd l1=t1:=by rw[gy];rfl
  have Hn:=hP;rw[gy]at Hn;obtain⟨b,o,c,Cv,hc,dA,c0,c1,c2,c3⟩:=Hn.hd;have lM:iq l1=Cae.pb ep (λb=>Cae.pb (j8 9) λx=>Cae.pb (a7 [58]) λ_=>Cae.pb (j8 9) λy=>Cae.pb (a7 [59]) λ_=>pr ⟨t1.pos,b,x,y⟩) l1:=by
   unfold iq;rw[aG (p:=eA) (x:=Cae.hd l1) (l1:=l1) rfl,wF]
  have fO:dC l1=(bI [98,114,101,97,107] l1 || bI [107,101,101,112] l1):=rfl;push_cast -dsimp;refine aA (yg [98,114,101,97,107] hP) ?_;rintro _ wx ⟨rfl,hwx⟩;obtain rfl:w'=wx:=hwx.symm;cases eY:bI [98,114,101,97,107] l1 with
  | true =>
   have cO:dC l1=true:=by rw[fO,eY];rfl
   have d1:w'.cell? ⟨w.heap.size+1,1,none⟩=some (.slice ra rs.length rc):=by rw[<-tj];exact hF.cell rfl
   push_cast -dsimp[d1];refine⟨λjQ=>?_,λjQ=>?_⟩
   ·refine aK (j2 4 hP) (λ_ _ h=>h.elim) ?_;rintro ce we ⟨ht,hb⟩;push_cast -dsimp;exact⟨4,_,HF jE dB hm cO (by omega),ht.mono (by omega),hk.trans (Kept.aJ hb (X:=(·=pb)) (λi h1 h2=>by omega)) (λi _ h=>h)⟩
   have jQ:ee.length≠20:=by omega
   have cb:w'.cell? ⟨pb,0,none⟩=some (.slice (some ⟨b,o,none⟩) (r1.length+1) c):=Cv.cell rfl;push_cast -dsimp[cb,c2];refine⟨by omega,?_⟩;refine aR (z:=[.int .i64 0,.bool false,.pointer none,.pointer none]) (by kernel_rfl) ?_;intro w4 aj;have C4:=aj.aN;have P4:=hP.below aj.below;have z4:=aj.size;have k4:=hk.trans (Kept.new (X:=(·=pb)) aj) (λi _ h=>h);push_cast -dsimp;refine aF (xt:=60) (n:=4) (by kernel_rfl) C4 rfl (by decide) (by simp;exact⟨rfl,rfl,rfl⟩) ?_;intro w5 bW;have C5:aO w5 w'.heap.size 60 [.int .i64 t1.pos,.bool false,.pointer none,.pointer none]:=bW.aN;have P5:=P4.kept bW.kept (λi h=>by omega);have k5:=k4.trans bW.kept (λi h1 h2=>by omega);have z5:=bW.size;have kw5:Kept (λi=>i=pb) w' w5:=(Kept.new (X:=(·=pb)) aj).trans bW.kept (λi h1 h2=>by omega);push_cast -dsimp;refine aA (gQ [98,114,101,97,107] P5) ?_;rintro _ wt hT;rcases hT with ⟨Hv,rfl,t6,l3,el6,h56,Pt,rO,ig⟩|⟨Hv,rfl,pg⟩
   ·have ew:bV l1=.ok ((),l3):=by rw[el6];exact bB h56
    have ox:ep l1=.ok (true,l3):=by
     unfold ep bE;rw[Hv,if_pos rfl,aG ew];rfl
    have Ct:=C5.kept rO (by omega);push_cast -dsimp;refine aC Ct (by simp) rfl ?_;intro w6 cB;have C6:aO w6 w'.heap.size 60 [.int .i64 t1.pos,.bool true,.pointer none,.pointer none]:=cB.aN;have P6:=Pt.kept cB.kept (λi h=>by omega);have k6:=(k5.trans rO (λi _ h=>h)).trans cB.kept (λi h1 h2=>by omega);have WD:=(kw5.trans rO (λi _ h=>h)).trans cB.kept (λi h1 h2=>by omega);have z6:w5.heap.size<=w6.heap.size:=by have:=cB.kept.size;have:=rO.size;omega
    have d7:w6.cell? ⟨w'.heap.size,1,none⟩=some (.bool true):=C6.cell rfl;push_cast -dsimp[d7];refine aK (rT 9 0 (by omega) (by omega) pb B w6 l3 P6) ?_ ?_;rotate_left;·
     rintro ce we ⟨e,pos,he,ht,fL⟩
     push_cast -dsimp
     refine⟨e,pos,fM jE dB hm cO jQ ?_,ht.mono (by have:=k6.size;omega),k6.trans fL (λi _ h=>h)⟩
     rw[lM]
     rw[aG ox];exact cT he
    rintro u wa ⟨x1,l5,e5,Va,Pa,tI⟩;obtain⟨ub,rfl,zM,_⟩:=Va.ptr;have Ca:=C6.kept tI (by omega);have ka:=k6.trans tI (λi _ h=>h);have za:=tI.size;push_cast -dsimp;refine aC Ca (by simp) rfl ?_;intro wb cX;have Cb:aO wb w'.heap.size 60 [.int .i64 t1.pos,.bool true,bF ub,.pointer none]:=cX.aN;have Pb:=Pa.kept cX.kept (λi h=>by omega);have kb:=ka.trans cX.kept (λi h1 h2=>by omega);have zb:=cX.size;push_cast -dsimp;refine aK (fj [58] Pb) ?_ ?_;rotate_left;·
     rintro ce we ⟨e,pos,he,ht,fL⟩
     push_cast -dsimp
     refine⟨e,pos,fM jE dB hm cO jQ ?_,ht.mono (by have:=kb.size;omega),kb.trans fL (λi _ h=>h)⟩
     rw[lM]
     rw[aG ox,aG e5];exact cT he
    rintro _ wc ⟨_,l6,e6,rfl,WJ,tJ⟩;have Cc:=Cb.kept tJ (by omega);have kc:=kb.trans tJ (λi _ h=>h);have zc:=tJ.size;push_cast -dsimp;refine aK (rT 9 0 (by omega) (by omega) pb B wc l6 WJ) ?_ ?_;rotate_left;·
     rintro ce we ⟨e,pos,he,ht,fL⟩
     push_cast -dsimp
     refine⟨e,pos,fM jE dB hm cO jQ ?_,ht.mono (by have:=kc.size;omega),kc.trans fL (λi _ h=>h)⟩
     rw[lM]
     rw[aG ox,aG e5,aG e6];exact cT he
    rintro u wd ⟨x2,l7,e7,Vd,Pd,yA⟩;obtain⟨vb,rfl,tp,_⟩:=Vd.ptr;have Cd:=Cc.kept yA (by omega);have kd:=kc.trans yA (λi _ h=>h);have zd:=yA.size;push_cast -dsimp;refine aC Cd (by simp) rfl ?_;intro we lN;have Ce:aO we w'.heap.size 60 [.int .i64 t1.pos,.bool true,bF ub,bF vb]:=lN.aN;have Pe:=Pd.kept lN.kept (λi h=>by omega);have ke:=kd.trans lN.kept (λi h1 h2=>by omega);have ze:=lN.size;push_cast -dsimp;refine aK (fj [59] Pe) ?_ ?_;rotate_left;·
     rintro ce we ⟨e,pos,he,ht,fL⟩
     push_cast -dsimp
     refine⟨e,pos,fM jE dB hm cO jQ ?_,ht.mono (by have:=ke.size;omega),ke.trans fL (λi _ h=>h)⟩
     rw[lM]
     rw[aG ox,aG e5,aG e6,aG e7];exact cT he
    rintro _ wf ⟨_,l8,e8,rfl,Pf,uU⟩;have Cf:=Ce.kept uU (by omega);have kf:=ke.trans uU (λi _ h=>h);have zf:=uU.size;have cD:iq l1=.ok (⟨t1.pos,true,x1,x2⟩,l8):=by rw[lM,aG ox,aG e5,aG e6,aG e7,aG e8];rfl
    have hl8:=qa _ _ _ cD;have kw:Kept (λi=>i=pb) w' wf:=((((((WD.trans tI (λi _ h=>h)).trans cX.kept (λi h1 h2=>by omega)).trans tJ (λi _ h=>h)).trans yA (λi _ h=>h)).trans lN.kept (λi h1 h2=>by omega)).trans uU (λi _ h=>h));have Fc:=hF.kept kw (by omega);have XN:=hO.ak kw (λg hg h=>by have:=(hO.block g hg).1;omega);have gw:∀g,rv.ownBlock=some g->V0.heap.size<=g/\g<w'.heap.size:=λg hg=>hO.block g hg;have XQ:dd (kG (λb=>(b<V0.heap.size\/rv.ownBlock=some b)\/w'.heap.size<=b) wf) rs ee:=hV.imp λa c h=>h.top.mono kw (λi h=>by omega) (λi h=>h);have Iw:aV (λb=>b<w6.heap.size\/wa.heap.size<=b) wf (bF ub) x1:=(((Va.top.mono cX.kept (X':=λb=>b<w6.heap.size\/wa.heap.size<=b) (λi h=>by omega) (λi h=>h)).mono tJ (X':=λb=>b<w6.heap.size\/wa.heap.size<=b) (λi h=>by omega) (λi h=>h)).mono yA (X':=λb=>b<w6.heap.size\/wa.heap.size<=b) (λi h=>by omega) (λi h=>h)).mono lN.kept (X':=λb=>b<w6.heap.size\/wa.heap.size<=b) (λi h=>by omega) (λi h=>h) |>.mono uU (λi h=>by omega) (λi h=>h);have Iy:aV (λb=>b<wc.heap.size\/wd.heap.size<=b) wf (bF vb) x2:=(Vd.top.mono lN.kept (X':=λb=>b<wc.heap.size\/wd.heap.size<=b) (λi h=>by omega) (λi h=>h)).mono uU (λi h=>by omega) (λi h=>h);have df:wf.cell? ⟨w.heap.size+1,1,none⟩=some (.slice ra rs.length rc):=by rw[<-tj];exact Fc.cell rfl
    have dl:aB wf ⟨w'.heap.size,0,none⟩ 0 4=some [.int .i64 t1.pos,.bool true,bF ub,bF vb]:=Cf.aB;push_cast -dsimp[df,dl];refine cY mw rfl rfl (by omega) ?_;intro wg pd;have hFg:=Fc.below pd.below Fc.lt;have SQ:=XN.new pd;rw[tj]at SQ;have Pg:=Pf.below pd.below;have zg:=pd.size;push_cast -dsimp;refine ae (base:=V0.heap.size) [(t1.pos,true,ub,vb)] (enc:=gv) mw SQ (by rfl) (λj y hy=>by simpa[gv,bF] using pd.cell hy) qU (by rw[lC];simp only[List.length_cons,List.length_nil];omega) (by omega) ?_;intro rv2 wh Is NJ ie;rw[<-tj]at NJ ie;have kg:Kept (λj=>rv.ownBlock=some j) wg wh:=Kept.grown NJ (λ_ h=>h);have Vr:=hFg.kept kg (λh=>by have:=gw _ h;omega);have Ph:=Pg.kept kg (λi h=>by have:=gw _ h;omega);have zh:=kg.size;obtain⟨a5,c5,rfl⟩:=Is.slice;push_cast -dsimp;refine aC Vr (by simp) rfl ?_;intro wi mV;have hFi:aO wi (w.heap.size+1) 25 [.slice ca cs.length cc,.slice a5 (rs++[(t1.pos,true,ub,vb)]).length c5,.bool true]:=mV.aN;have hOi:=Is.ak mV.kept (λg hg h=>by have:=(Is.block g hg).1;omega);have Pi:=Ph.kept mV.kept (λi h=>by omega);have kY:Kept (λi=>i=w.heap.size+1\/rv.ownBlock=some i) wf wi:=((Kept.new (X:=λi=>i=w.heap.size+1\/rv.ownBlock=some i) pd).trans kg (λi _ h=>.inr h)).trans mV.kept (λi _ h=>.inl h);have ki:=kf.trans kY (X:=(·=pb)) (λi h1 h2=>by
     rcases h2 with h2|h2
     ·omega
     have:=gw _ h2;omega)
    have kv0:Kept (λi=>i=pb\/i=w.heap.size+1\/rv.ownBlock=some i) w' wi:=(kw.weaken (Y:=λi=>i=pb\/i=w.heap.size+1\/rv.ownBlock=some i) (λi _ h=>.inl h)).trans kY (λi _ h=>.inr h);have kv:=EH.trans kv0 (λi h1 h2=>by
     rcases h2 with h2|h2|h2
     ·exact .inl h2
     ·exact .inr h2
     have:=gw _ h2;omega)
    have zkw:=kw.size;have hVi:dd (kG (λb=>b<V0.heap.size\/(Value.slice a5 (rs++[(t1.pos,true,ub,vb)]).length c5).ownBlock=some b) wi) (rs++[(t1.pos,true,ub,vb)]) (ee++[⟨t1.pos,true,x1,x2⟩]):=by
     refine(XQ.imp λa c h=>h.mono kY (λi h=>?_) (λi h=>?_)).snoc ⟨rfl,rfl,Iw.mono kY (λi h=>?_) (λi h=>?_),Iy.mono kY (λi h=>?_) (λi h=>?_)⟩
     ·rcases h with h|h
      ·exact .inl (.inl (by omega))
      exact .inl (.inr h)
     ·rcases h with h|h
      ·exact .inl (.inl h)
      rcases ie i h with h|h
      ·exact .inl (.inr h)
      exact .inr (by omega)
     ·rcases h with h|h
      ·exact .inl (by omega)
      have:=gw _ h;exact .inl (by omega)
     ·rcases h with h|h
      ·exact .inl (by omega)
      rcases ie i h with h|h
      ·have:=gw _ h;exact .inl (by omega)
      exact .inr (by omega)
     ·rcases h with h|h
      ·exact .inl (by omega)
      have:=gw _ h;exact .inl (by omega)
     rcases h with h|h
     ·exact .inl (by omega)
     rcases ie i h with h|h
     ·have:=gw _ h;exact .inl (by omega)
     exact .inr (by omega)
    have qt:bA (m-1) (ee++[⟨t1.pos,true,x1,x2⟩]) l8=bA 1000 [] lc:=by rw[qF dB hm cO jQ,aG cD]
    have hPi:=Pi.len;push_cast -dsimp;exact⟨⟨m-1,ee++[⟨t1.pos,true,x1,x2⟩],l8,_,_,qt,by omega,by rw[List.length_append,List.length_singleton];omega,hFi,hOi,hVi,Pi,ki,kv⟩,by rw[hPi,XO];exact hl8⟩
   obtain rfl:w5=wt:=pg.symm;push_cast -dsimp;refine aC C5 (by simp) rfl ?_;intro wu Hw;have Cu:aO wu w'.heap.size 60 [.int .i64 t1.pos,.bool false,.pointer none,.pointer none]:=Hw.aN;have Pu:=P5.kept Hw.kept (λi h=>by omega);have ku:=k5.trans Hw.kept (λi h1 h2=>by omega);have zu:=Hw.size;have du:wu.cell? ⟨w'.heap.size,1,none⟩=some (.bool false):=Cu.cell rfl;push_cast -dsimp[du];have AN:ep l1=Cae.pb (a7 [107,101,101,112]) (λ_=>pr false) l1:=by
    unfold ep bE;rw[Hv];rfl
   refine aK (fj [107,101,101,112] Pu) ?_ ?_;rotate_left;·
    rintro ce we ⟨e,pos,he,ht,fL⟩
    push_cast -dsimp
    refine⟨e,pos,fM jE dB hm cO jQ ?_,ht.mono (by have:=ku.size;omega),ku.trans fL (λi _ h=>h)⟩
    rw[lM]
    refine cT ?_;rw[AN];exact cT he
   rintro _ w6 ⟨_,l3,e3,rfl,P6,rO⟩;have ox:ep l1=.ok (false,l3):=by rw[AN,aG e3];rfl
   have C6:=Cu.kept rO (by omega);have k6:=ku.trans rO (λi _ h=>h);have WD:=(kw5.trans Hw.kept (λi h1 h2=>by omega)).trans rO (λi _ h=>h);have z6:w5.heap.size<=w6.heap.size:=by have:=rO.size;omega
   push_cast -dsimp;refine aK (rT 9 0 (by omega) (by omega) pb B w6 l3 P6) ?_ ?_;rotate_left;·
    rintro ce we ⟨e,pos,he,ht,fL⟩
    push_cast -dsimp
    refine⟨e,pos,fM jE dB hm cO jQ ?_,ht.mono (by have:=k6.size;omega),k6.trans fL (λi _ h=>h)⟩
    rw[lM]
    rw[aG ox];exact cT he
   rintro u wa ⟨x1,l5,e5,Va,Pa,tI⟩;obtain⟨ub,rfl,zM,_⟩:=Va.ptr;have Ca:=C6.kept tI (by omega);have ka:=k6.trans tI (λi _ h=>h);have za:=tI.size;push_cast -dsimp;refine aC Ca (by simp) rfl ?_;intro wb cX;have Cb:aO wb w'.heap.size 60 [.int .i64 t1.pos,.bool false,bF ub,.pointer none]:=cX.aN;have Pb:=Pa.kept cX.kept (λi h=>by omega);have kb:=ka.trans cX.kept (λi h1 h2=>by omega);have zb:=cX.size;push_cast -dsimp;refine aK (fj [58] Pb) ?_ ?_;rotate_left;·
    rintro ce we ⟨e,pos,he,ht,fL⟩
    push_cast -dsimp
    refine⟨e,pos,fM jE dB hm cO jQ ?_,ht.mono (by have:=kb.size;omega),kb.trans fL (λi _ h=>h)⟩
    rw[lM]
    rw[aG ox,aG e5];exact cT he
   rintro _ wc ⟨_,l6,e6,rfl,WJ,tJ⟩;have Cc:=Cb.kept tJ (by omega);have kc:=kb.trans tJ (λi _ h=>h);have zc:=tJ.size;push_cast -dsimp;refine aK (rT 9 0 (by omega) (by omega) pb B wc l6 WJ) ?_ ?_;rotate_left;·
    rintro ce we ⟨e,pos,he,ht,fL⟩
    push_cast -dsimp
    refine⟨e,pos,fM jE dB hm cO jQ ?_,ht.mono (by have:=kc.size;omega),kc.trans fL (λi _ h=>h)⟩
    rw[lM]
    rw[aG ox,aG e5,aG e6];exact cT he
   rintro u wd ⟨x2,l7,e7,Vd,Pd,yA⟩;obtain⟨vb,rfl,tp,_⟩:=Vd.ptr;have Cd:=Cc.kept yA (by omega);have kd:=kc.trans yA (λi _ h=>h);have zd:=yA.size;push_cast -dsimp;refine aC Cd (by simp) rfl ?_;intro we lN;have Ce:aO we w'.heap.size 60 [.int .i64 t1.pos,.bool false,bF ub,bF vb]:=lN.aN;have Pe:=Pd.kept lN.kept (λi h=>by omega);have ke:=kd.trans lN.kept (λi h1 h2=>by omega);have ze:=lN.size;push_cast -dsimp;refine aK (fj [59] Pe) ?_ ?_;rotate_left;·
    rintro ce we ⟨e,pos,he,ht,fL⟩
    push_cast -dsimp
    refine⟨e,pos,fM jE dB hm cO jQ ?_,ht.mono (by have:=ke.size;omega),ke.trans fL (λi _ h=>h)⟩
    rw[lM]
    rw[aG ox,aG e5,aG e6,aG e7];exact cT he
   rintro _ wf ⟨_,l8,e8,rfl,Pf,uU⟩;have Cf:=Ce.kept uU (by omega);have kf:=ke.trans uU (λi _ h=>h);have zf:=uU.size;have cD:iq l1=.ok (⟨t1.pos,false,x1,x2⟩,l8):=by rw[lM,aG ox,aG e5,aG e6,aG e7,aG e8];rfl
   have hl8:=qa _ _ _ cD;have kw:Kept (λi=>i=pb) w' wf:=((((((WD.trans tI (λi _ h=>h)).trans cX.kept (λi h1 h2=>by omega)).trans tJ (λi _ h=>h)).trans yA (λi _ h=>h)).trans lN.kept (λi h1 h2=>by omega)).trans uU (λi _ h=>h));have Fc:=hF.kept kw (by omega);have XN:=hO.ak kw (λg hg h=>by have:=(hO.block g hg).1;omega);have gw:∀g,rv.ownBlock=some g->V0.heap.size<=g/\g<w'.heap.size:=λg hg=>hO.block g hg;have XQ:dd (kG (λb=>(b<V0.heap.size\/rv.ownBlock=some b)\/w'.heap.size<=b) wf) rs ee:=hV.imp λa c h=>h.top.mono kw (λi h=>by omega) (λi h=>h);have Iw:aV (λb=>b<w6.heap.size\/wa.heap.size<=b) wf (bF ub) x1:=(((Va.top.mono cX.kept (X':=λb=>b<w6.heap.size\/wa.heap.size<=b) (λi h=>by omega) (λi h=>h)).mono tJ (X':=λb=>b<w6.heap.size\/wa.heap.size<=b) (λi h=>by omega) (λi h=>h)).mono yA (X':=λb=>b<w6.heap.size\/wa.heap.size<=b) (λi h=>by omega) (λi h=>h)).mono lN.kept (X':=λb=>b<w6.heap.size\/wa.heap.size<=b) (λi h=>by omega) (λi h=>h) |>.mono uU (λi h=>by omega) (λi h=>h);have Iy:aV (λb=>b<wc.heap.size\/wd.heap.size<=b) wf (bF vb) x2:=(Vd.top.mono lN.kept (X':=λb=>b<wc.heap.size\/wd.heap.size<=b) (λi h=>by omega) (λi h=>h)).mono uU (λi h=>by omega) (λi h=>h);have df:wf.cell? ⟨w.heap.size+1,1,none⟩=some (.slice ra rs.length rc):=by rw[<-tj];exact Fc.cell rfl
   have dl:aB wf ⟨w'.heap.size,0,none⟩ 0 4=some [.int .i64 t1.pos,.bool false,bF ub,bF vb]:=Cf.aB;push_cast -dsimp[df,dl];refine cY mw rfl rfl (by omega) ?_;intro wg pd;have hFg:=Fc.below pd.below Fc.lt;have SQ:=XN.new pd;rw[tj]at SQ;have Pg:=Pf.below pd.below;have zg:=pd.size;push_cast -dsimp;refine ae (base:=V0.heap.size) [(t1.pos,false,ub,vb)] (enc:=gv) mw SQ (by rfl) (λj y hy=>by simpa[gv,bF] using pd.cell hy) qU (by rw[lC];simp only[List.length_cons,List.length_nil];omega) (by omega) ?_;intro rv2 wh Is NJ ie;rw[<-tj]at NJ ie;have kg:Kept (λj=>rv.ownBlock=some j) wg wh:=Kept.grown NJ (λ_ h=>h);have Vr:=hFg.kept kg (λh=>by have:=gw _ h;omega);have Ph:=Pg.kept kg (λi h=>by have:=gw _ h;omega);have zh:=kg.size;obtain⟨a5,c5,rfl⟩:=Is.slice;push_cast -dsimp;refine aC Vr (by simp) rfl ?_;intro wi mV;have hFi:aO wi (w.heap.size+1) 25 [.slice ca cs.length cc,.slice a5 (rs++[(t1.pos,false,ub,vb)]).length c5,.bool true]:=mV.aN;have hOi:=Is.ak mV.kept (λg hg h=>by have:=(Is.block g hg).1;omega);have Pi:=Ph.kept mV.kept (λi h=>by omega);have kY:Kept (λi=>i=w.heap.size+1\/rv.ownBlock=some i) wf wi:=((Kept.new (X:=λi=>i=w.heap.size+1\/rv.ownBlock=some i) pd).trans kg (λi _ h=>.inr h)).trans mV.kept (λi _ h=>.inl h);have ki:=kf.trans kY (X:=(·=pb)) (λi h1 h2=>by
    rcases h2 with h2|h2
    ·omega
    have:=gw _ h2;omega)
   have kv0:Kept (λi=>i=pb\/i=w.heap.size+1\/rv.ownBlock=some i) w' wi:=(kw.weaken (Y:=λi=>i=pb\/i=w.heap.size+1\/rv.ownBlock=some i) (λi _ h=>.inl h)).trans kY (λi _ h=>.inr h);have kv:=EH.trans kv0 (λi h1 h2=>by
    rcases h2 with h2|h2|h2
    ·exact .inl h2
    ·exact .inr h2
    have:=gw _ h2;omega)
   have zkw:=kw.size;have hVi:dd (kG (λb=>b<V0.heap.size\/(Value.slice a5 (rs++[(t1.pos,false,ub,vb)]).length c5).ownBlock=some b) wi) (rs++[(t1.pos,false,ub,vb)]) (ee++[⟨t1.pos,false,x1,x2⟩]):=by
    refine(XQ.imp λa c h=>h.mono kY (λi h=>?_) (λi h=>?_)).snoc ⟨rfl,rfl,Iw.mono kY (λi h=>?_) (λi h=>?_),Iy.mono kY (λi h=>?_) (λi h=>?_)⟩
    ·rcases h with h|h
     ·exact .inl (.inl (by omega))
     exact .inl (.inr h)
    ·rcases h with h|h
     ·exact .inl (.inl h)
     rcases ie i h with h|h
     ·exact .inl (.inr h)
     exact .inr (by omega)
    ·rcases h with h|h
     ·exact .inl (by omega)
     have:=gw _ h;exact .inl (by omega)
    ·rcases h with h|h
     ·exact .inl (by omega)
     rcases ie i h with h|h
     ·have:=gw _ h;exact .inl (by omega)
     exact .inr (by omega)
    ·rcases h with h|h
     ·exact .inl (by omega)
     have:=gw _ h;exact .inl (by omega)
    rcases h with h|h
    ·exact .inl (by omega)
    rcases ie i h with h|h
    ·have:=gw _ h;exact .inl (by omega)
    exact .inr (by omega)
   have qt:bA (m-1) (ee++[⟨t1.pos,false,x1,x2⟩]) l8=bA 1000 [] lc:=by rw[qF dB hm cO jQ,aG cD]
   have hPi:=Pi.len;push_cast -dsimp;exact⟨⟨m-1,ee++[⟨t1.pos,false,x1,x2⟩],l8,_,_,qt,by omega,by rw[List.length_append,List.length_singleton];omega,hFi,hOi,hVi,Pi,ki,kv⟩,by rw[hPi,XO];exact hl8⟩
  | false =>
   rw[eY,Bool.false_or]at fO;push_cast -dsimp;refine aA (yg [107,101,101,112] hP) ?_;rintro _ wx ⟨rfl,hwx⟩;obtain rfl:w'=wx:=hwx.symm;cases iP:bI [107,101,101,112] l1 with
   | true =>
    have cO:dC l1=true:=by rw[fO,iP]
    have d1:w'.cell? ⟨w.heap.size+1,1,none⟩=some (.slice ra rs.length rc):=by rw[<-tj];exact hF.cell rfl
    push_cast -dsimp[d1];refine⟨λjQ=>?_,λjQ=>?_⟩
    ·refine aK (j2 4 hP) (λ_ _ h=>h.elim) ?_;rintro ce we ⟨ht,hb⟩;push_cast -dsimp;exact⟨4,_,HF jE dB hm cO (by omega),ht.mono (by omega),hk.trans (Kept.aJ hb (X:=(·=pb)) (λi h1 h2=>by omega)) (λi _ h=>h)⟩
    have jQ:ee.length≠20:=by omega
    have cb:w'.cell? ⟨pb,0,none⟩=some (.slice (some ⟨b,o,none⟩) (r1.length+1) c):=Cv.cell rfl;push_cast -dsimp[cb,c2];refine⟨by omega,?_⟩;refine aR (z:=[.int .i64 0,.bool false,.pointer none,.pointer none]) (by kernel_rfl) ?_;intro w4 aj;have C4:=aj.aN;have P4:=hP.below aj.below;have z4:=aj.size;have k4:=hk.trans (Kept.new (X:=(·=pb)) aj) (λi _ h=>h);push_cast -dsimp;refine aF (xt:=60) (n:=4) (by kernel_rfl) C4 rfl (by decide) (by simp;exact⟨rfl,rfl,rfl⟩) ?_;intro w5 bW;have C5:aO w5 w'.heap.size 60 [.int .i64 t1.pos,.bool false,.pointer none,.pointer none]:=bW.aN;have P5:=P4.kept bW.kept (λi h=>by omega);have k5:=k4.trans bW.kept (λi h1 h2=>by omega);have z5:=bW.size;have kw5:Kept (λi=>i=pb) w' w5:=(Kept.new (X:=(·=pb)) aj).trans bW.kept (λi h1 h2=>by omega);push_cast -dsimp;refine aA (gQ [98,114,101,97,107] P5) ?_;rintro _ wt hT;rcases hT with ⟨Hv,rfl,t6,l3,el6,h56,Pt,rO,ig⟩|⟨Hv,rfl,pg⟩
    ·have ew:bV l1=.ok ((),l3):=by rw[el6];exact bB h56
     have ox:ep l1=.ok (true,l3):=by
      unfold ep bE;rw[Hv,if_pos rfl,aG ew];rfl
     have Ct:=C5.kept rO (by omega);push_cast -dsimp;refine aC Ct (by simp) rfl ?_;intro w6 cB;have C6:aO w6 w'.heap.size 60 [.int .i64 t1.pos,.bool true,.pointer none,.pointer none]:=cB.aN;have P6:=Pt.kept cB.kept (λi h=>by omega);have k6:=(k5.trans rO (λi _ h=>h)).trans cB.kept (λi h1 h2=>by omega);have WD:=(kw5.trans rO (λi _ h=>h)).trans cB.kept (λi h1 h2=>by omega);have z6:w5.heap.size<=w6.heap.size:=by have:=cB.kept.size;have:=rO.size;omega
     have d7:w6.cell? ⟨w'.heap.size,1,none⟩=some (.bool true):=C6.cell rfl;push_cast -dsimp[d7];refine aK (rT 9 0 (by omega) (by omega) pb B w6 l3 P6) ?_ ?_;rotate_left;·
      rintro ce we ⟨e,pos,he,ht,fL⟩
      push_cast -dsimp
      refine⟨e,pos,fM jE dB hm cO jQ ?_,ht.mono (by have:=k6.size;omega),k6.trans fL (λi _ h=>h)⟩
      rw[lM]
      rw[aG ox];exact cT he
     rintro u wa ⟨x1,l5,e5,Va,Pa,tI⟩;obtain⟨ub,rfl,zM,_⟩:=Va.ptr;have Ca:=C6.kept tI (by omega);have ka:=k6.trans tI (λi _ h=>h);have za:=tI.size;push_cast -dsimp;refine aC Ca (by simp) rfl ?_;intro wb cX;have Cb:aO wb w'.heap.size 60 [.int .i64 t1.pos,.bool true,bF ub,.pointer none]:=cX.aN;have Pb:=Pa.kept cX.kept (λi h=>by omega);have kb:=ka.trans cX.kept (λi h1 h2=>by omega);have zb:=cX.size;push_cast -dsimp;refine aK (fj [58] Pb) ?_ ?_;rotate_left;·
      rintro ce we ⟨e,pos,he,ht,fL⟩
      push_cast -dsimp
      refine⟨e,pos,fM jE dB hm cO jQ ?_,ht.mono (by have:=kb.size;omega),kb.trans fL (λi _ h=>h)⟩
      rw[lM]
      rw[aG ox,aG e5];exact cT he
     rintro _ wc ⟨_,l6,e6,rfl,WJ,tJ⟩;have Cc:=Cb.kept tJ (by omega);have kc:=kb.trans tJ (λi _ h=>h);have zc:=tJ.size;push_cast -dsimp;refine aK (rT 9 0 (by omega) (by omega) pb B wc l6 WJ) ?_ ?_;rotate_left;·
      rintro ce we ⟨e,pos,he,ht,fL⟩
      push_cast -dsimp
      refine⟨e,pos,fM jE dB hm cO jQ ?_,ht.mono (by have:=kc.size;omega),kc.trans fL (λi _ h=>h)⟩
      rw[lM]
      rw[aG ox,aG e5,aG e6];exact cT he
     rintro u wd ⟨x2,l7,e7,Vd,Pd,yA⟩;obtain⟨vb,rfl,tp,_⟩:=Vd.ptr;have Cd:=Cc.kept yA (by omega);have kd:=kc.trans yA (λi _ h=>h);have zd:=yA.size;push_cast -dsimp;refine aC Cd (by simp) rfl ?_;intro we lN;have Ce:aO we w'.heap.size 60 [.int .i64 t1.pos,.bool true,bF ub,bF vb]:=lN.aN;have Pe:=Pd.kept lN.kept (λi h=>by omega);have ke:=kd.trans lN.kept (λi h1 h2=>by omega);have ze:=lN.size;push_cast -dsimp;refine aK (fj [59] Pe) ?_ ?_;rotate_left;·
      rintro ce we ⟨e,pos,he,ht,fL⟩
      push_cast -dsimp
      refine⟨e,pos,fM jE dB hm cO jQ ?_,ht.mono (by have:=ke.size;omega),ke.trans fL (λi _ h=>h)⟩
      rw[lM]
      rw[aG ox,aG e5,aG e6,aG e7];exact cT he
     rintro _ wf ⟨_,l8,e8,rfl,Pf,uU⟩;have Cf:=Ce.kept uU (by omega);have kf:=ke.trans uU (λi _ h=>h);have zf:=uU.size;have cD:iq l1=.ok (⟨t1.pos,true,x1,x2⟩,l8):=by rw[lM,aG ox,aG e5,aG e6,aG e7,aG e8];rfl
     have hl8:=qa _ _ _ cD;have kw:Kept (λi=>i=pb) w' wf:=((((((WD.trans tI (λi _ h=>h)).trans cX.kept (λi h1 h2=>by omega)).trans tJ (λi _ h=>h)).trans yA (λi _ h=>h)).trans lN.kept (λi h1 h2=>by omega)).trans uU (λi _ h=>h));have Fc:=hF.kept kw (by omega);have XN:=hO.ak kw (λg hg h=>by have:=(hO.block g hg).1;omega);have gw:∀g,rv.ownBlock=some g->V0.heap.size<=g/\g<w'.heap.size:=λg hg=>hO.block g hg;have XQ:dd (kG (λb=>(b<V0.heap.size\/rv.ownBlock=some b)\/w'.heap.size<=b) wf) rs ee:=hV.imp λa c h=>h.top.mono kw (λi h=>by omega) (λi h=>h);have Iw:aV (λb=>b<w6.heap.size\/wa.heap.size<=b) wf (bF ub) x1:=(((Va.top.mono cX.kept (X':=λb=>b<w6.heap.size\/wa.heap.size<=b) (λi h=>by omega) (λi h=>h)).mono tJ (X':=λb=>b<w6.heap.size\/wa.heap.size<=b) (λi h=>by omega) (λi h=>h)).mono yA (X':=λb=>b<w6.heap.size\/wa.heap.size<=b) (λi h=>by omega) (λi h=>h)).mono lN.kept (X':=λb=>b<w6.heap.size\/wa.heap.size<=b) (λi h=>by omega) (λi h=>h) |>.mono uU (λi h=>by omega) (λi h=>h);have Iy:aV (λb=>b<wc.heap.size\/wd.heap.size<=b) wf (bF vb) x2:=(Vd.top.mono lN.kept (X':=λb=>b<wc.heap.size\/wd.heap.size<=b) (λi h=>by omega) (λi h=>h)).mono uU (λi h=>by omega) (λi h=>h);have df:wf.cell? ⟨w.heap.size+1,1,none⟩=some (.slice ra rs.length rc):=by rw[<-tj];exact Fc.cell rfl
     have dl:aB wf ⟨w'.heap.size,0,none⟩ 0 4=some [.int .i64 t1.pos,.bool true,bF ub,bF vb]:=Cf.aB;push_cast -dsimp[df,dl];refine cY mw rfl rfl (by omega) ?_;intro wg pd;have hFg:=Fc.below pd.below Fc.lt;have SQ:=XN.new pd;rw[tj]at SQ;have Pg:=Pf.below pd.below;have zg:=pd.size;push_cast -dsimp;refine ae (base:=V0.heap.size) [(t1.pos,true,ub,vb)] (enc:=gv) mw SQ (by rfl) (λj y hy=>by simpa[gv,bF] using pd.cell hy) qU (by rw[lC];simp only[List.length_cons,List.length_nil];omega) (by omega) ?_;intro rv2 wh Is NJ ie;rw[<-tj]at NJ ie;have kg:Kept (λj=>rv.ownBlock=some j) wg wh:=Kept.grown NJ (λ_ h=>h);have Vr:=hFg.kept kg (λh=>by have:=gw _ h;omega);have Ph:=Pg.kept kg (λi h=>by have:=gw _ h;omega);have zh:=kg.size;obtain⟨a5,c5,rfl⟩:=Is.slice;push_cast -dsimp;refine aC Vr (by simp) rfl ?_;intro wi mV;have hFi:aO wi (w.heap.size+1) 25 [.slice ca cs.length cc,.slice a5 (rs++[(t1.pos,true,ub,vb)]).length c5,.bool true]:=mV.aN;have hOi:=Is.ak mV.kept (λg hg h=>by have:=(Is.block g hg).1;omega);have Pi:=Ph.kept mV.kept (λi h=>by omega);have kY:Kept (λi=>i=w.heap.size+1\/rv.ownBlock=some i) wf wi:=((Kept.new (X:=λi=>i=w.heap.size+1\/rv.ownBlock=some i) pd).trans kg (λi _ h=>.inr h)).trans mV.kept (λi _ h=>.inl h);have ki:=kf.trans kY (X:=(·=pb)) (λi h1 h2=>by
      rcases h2 with h2|h2
      ·omega
      have:=gw _ h2;omega)
     have kv0:Kept (λi=>i=pb\/i=w.heap.size+1\/rv.ownBlock=some i) w' wi:=(kw.weaken (Y:=λi=>i=pb\/i=w.heap.size+1\/rv.ownBlock=some i) (λi _ h=>.inl h)).trans kY (λi _ h=>.inr h);have kv:=EH.trans kv0 (λi h1 h2=>by
      rcases h2 with h2|h2|h2
      ·exact .inl h2
      ·exact .inr h2
      have:=gw _ h2;omega)
     have zkw:=kw.size;have hVi:dd (kG (λb=>b<V0.heap.size\/(Value.slice a5 (rs++[(t1.pos,true,ub,vb)]).length c5).ownBlock=some b) wi) (rs++[(t1.pos,true,ub,vb)]) (ee++[⟨t1.pos,true,x1,x2⟩]):=by
      refine(XQ.imp λa c h=>h.mono kY (λi h=>?_) (λi h=>?_)).snoc ⟨rfl,rfl,Iw.mono kY (λi h=>?_) (λi h=>?_),Iy.mono kY (λi h=>?_) (λi h=>?_)⟩
      ·rcases h with h|h
       ·exact .inl (.inl (by omega))
       exact .inl (.inr h)
      ·rcases h with h|h
       ·exact .inl (.inl h)
       rcases ie i h with h|h
       ·exact .inl (.inr h)
       exact .inr (by omega)
      ·rcases h with h|h
       ·exact .inl (by omega)
       have:=gw _ h;exact .inl (by omega)
      ·rcases h with h|h
       ·exact .inl (by omega)
       rcases ie i h with h|h
       ·have:=gw _ h;exact .inl (by omega)
       exact .inr (by omega)
      ·rcases h with h|h
       ·exact .inl (by omega)
       have:=gw _ h;exact .inl (by omega)
      rcases h with h|h
      ·exact .inl (by omega)
      rcases ie i h with h|h
      ·have:=gw _ h;exact .inl (by omega)
      exact .inr (by omega)
     have qt:bA (m-1) (ee++[⟨t1.pos,true,x1,x2⟩]) l8=bA 1000 [] lc:=by rw[qF dB hm cO jQ,aG cD]
     have hPi:=Pi.len;push_cast -dsimp;exact⟨⟨m-1,ee++[⟨t1.pos,true,x1,x2⟩],l8,_,_,qt,by omega,by rw[List.length_append,List.length_singleton];omega,hFi,hOi,hVi,Pi,ki,kv⟩,by rw[hPi,XO];exact hl8⟩
    obtain rfl:w5=wt:=pg.symm;push_cast -dsimp;refine aC C5 (by simp) rfl ?_;intro wu Hw;have Cu:aO wu w'.heap.size 60 [.int .i64 t1.pos,.bool false,.pointer none,.pointer none]:=Hw.aN;have Pu:=P5.kept Hw.kept (λi h=>by omega);have ku:=k5.trans Hw.kept (λi h1 h2=>by omega);have zu:=Hw.size;have du:wu.cell? ⟨w'.heap.size,1,none⟩=some (.bool false):=Cu.cell rfl;push_cast -dsimp[du];have AN:ep l1=Cae.pb (a7 [107,101,101,112]) (λ_=>pr false) l1:=by
     unfold ep bE;rw[Hv];rfl
    refine aK (fj [107,101,101,112] Pu) ?_ ?_;rotate_left;·
     rintro ce we ⟨e,pos,he,ht,fL⟩
     push_cast -dsimp
     refine⟨e,pos,fM jE dB hm cO jQ ?_,ht.mono (by have:=ku.size;omega),ku.trans fL (λi _ h=>h)⟩
     rw[lM]
     refine cT ?_;rw[AN];exact cT he
    rintro _ w6 ⟨_,l3,e3,rfl,P6,rO⟩;have ox:ep l1=.ok (false,l3):=by rw[AN,aG e3];rfl
    have C6:=Cu.kept rO (by omega);have k6:=ku.trans rO (λi _ h=>h);have WD:=(kw5.trans Hw.kept (λi h1 h2=>by omega)).trans rO (λi _ h=>h);have z6:w5.heap.size<=w6.heap.size:=by have:=rO.size;omega
    push_cast -dsimp;refine aK (rT 9 0 (by omega) (by omega) pb B w6 l3 P6) ?_ ?_;rotate_left;·
     rintro ce we ⟨e,pos,he,ht,fL⟩
     push_cast -dsimp
     refine⟨e,pos,fM jE dB hm cO jQ ?_,ht.mono (by have:=k6.size;omega),k6.trans fL (λi _ h=>h)⟩
     rw[lM]
     rw[aG ox];exact cT he
    rintro u wa ⟨x1,l5,e5,Va,Pa,tI⟩;obtain⟨ub,rfl,zM,_⟩:=Va.ptr;have Ca:=C6.kept tI (by omega);have ka:=k6.trans tI (λi _ h=>h);have za:=tI.size;push_cast -dsimp;refine aC Ca (by simp) rfl ?_;intro wb cX;have Cb:aO wb w'.heap.size 60 [.int .i64 t1.pos,.bool false,bF ub,.pointer none]:=cX.aN;have Pb:=Pa.kept cX.kept (λi h=>by omega);have kb:=ka.trans cX.kept (λi h1 h2=>by omega);have zb:=cX.size;push_cast -dsimp;refine aK (fj [58] Pb) ?_ ?_;rotate_left;·
     rintro ce we ⟨e,pos,he,ht,fL⟩
     push_cast -dsimp
     refine⟨e,pos,fM jE dB hm cO jQ ?_,ht.mono (by have:=kb.size;omega),kb.trans fL (λi _ h=>h)⟩
     rw[lM]
     rw[aG ox,aG e5];exact cT he
    rintro _ wc ⟨_,l6,e6,rfl,WJ,tJ⟩;have Cc:=Cb.kept tJ (by omega);have kc:=kb.trans tJ (λi _ h=>h);have zc:=tJ.size;push_cast -dsimp;refine aK (rT 9 0 (by omega) (by omega) pb B wc l6 WJ) ?_ ?_;rotate_left;·
     rintro ce we ⟨e,pos,he,ht,fL⟩
     push_cast -dsimp
     refine⟨e,pos,fM jE dB hm cO jQ ?_,ht.mono (by have:=kc.size;omega),kc.trans fL (λi _ h=>h)⟩
     rw[lM]
     rw[aG ox,aG e5,aG e6];exact cT he
    rintro u wd ⟨x2,l7,e7,Vd,Pd,yA⟩;obtain⟨vb,rfl,tp,_⟩:=Vd.ptr;have Cd:=Cc.kept yA (by omega);have kd:=kc.trans yA (λi _ h=>h);have zd:=yA.size;push_cast -dsimp;refine aC Cd (by simp) rfl ?_;intro we lN;have Ce:aO we w'.heap.size 60 [.int .i64 t1.pos,.bool false,bF ub,bF vb]:=lN.aN;have Pe:=Pd.kept lN.kept (λi h=>by omega);have ke:=kd.trans lN.kept (λi h1 h2=>by omega);have ze:=lN.size;push_cast -dsimp;refine aK (fj [59] Pe) ?_ ?_;rotate_left;·
     rintro ce we ⟨e,pos,he,ht,fL⟩
     push_cast -dsimp
     refine⟨e,pos,fM jE dB hm cO jQ ?_,ht.mono (by have:=ke.size;omega),ke.trans fL (λi _ h=>h)⟩
     rw[lM]
     rw[aG ox,aG e5,aG e6,aG e7];exact cT he
    rintro _ wf ⟨_,l8,e8,rfl,Pf,uU⟩;have Cf:=Ce.kept uU (by omega);have kf:=ke.trans uU (λi _ h=>h);have zf:=uU.size;have cD:iq l1=.ok (⟨t1.pos,false,x1,x2⟩,l8):=by rw[lM,aG ox,aG e5,aG e6,aG e7,aG e8];rfl
    have hl8:=qa _ _ _ cD;have kw:Kept (λi=>i=pb) w' wf:=((((((WD.trans tI (λi _ h=>h)).trans cX.kept (λi h1 h2=>by omega)).trans tJ (λi _ h=>h)).trans yA (λi _ h=>h)).trans lN.kept (λi h1 h2=>by omega)).trans uU (λi _ h=>h));have Fc:=hF.kept kw (by omega);have XN:=hO.ak kw (λg hg h=>by have:=(hO.block g hg).1;omega);have gw:∀g,rv.ownBlock=some g->V0.heap.size<=g/\g<w'.heap.size:=λg hg=>hO.block g hg;have XQ:dd (kG (λb=>(b<V0.heap.size\/rv.ownBlock=some b)\/w'.heap.size<=b) wf) rs ee:=hV.imp λa c h=>h.top.mono kw (λi h=>by omega) (λi h=>h);have Iw:aV (λb=>b<w6.heap.size\/wa.heap.size<=b) wf (bF ub) x1:=(((Va.top.mono cX.kept (X':=λb=>b<w6.heap.size\/wa.heap.size<=b) (λi h=>by omega) (λi h=>h)).mono tJ (X':=λb=>b<w6.heap.size\/wa.heap.size<=b) (λi h=>by omega) (λi h=>h)).mono yA (X':=λb=>b<w6.heap.size\/wa.heap.size<=b) (λi h=>by omega) (λi h=>h)).mono lN.kept (X':=λb=>b<w6.heap.size\/wa.heap.size<=b) (λi h=>by omega) (λi h=>h) |>.mono uU (λi h=>by omega) (λi h=>h);have Iy:aV (λb=>b<wc.heap.size\/wd.heap.size<=b) wf (bF vb) x2:=(Vd.top.mono lN.kept (X':=λb=>b<wc.heap.size\/wd.heap.size<=b) (λi h=>by omega) (λi h=>h)).mono uU (λi h=>by omega) (λi h=>h);have df:wf.cell? ⟨w.heap.size+1,1,none⟩=some (.slice ra rs.length rc):=by rw[<-tj];exact Fc.cell rfl
    have dl:aB wf ⟨w'.heap.size,0,none⟩ 0 4=some [.int .i64 t1.pos,.bool false,bF ub,bF vb]:=Cf.aB;push_cast -dsimp[df,dl];refine cY mw rfl rfl (by omega) ?_;intro wg pd;have hFg:=Fc.below pd.below Fc.lt;have SQ:=XN.new pd;rw[tj]at SQ;have Pg:=Pf.below pd.below;have zg:=pd.size;push_cast -dsimp;refine ae (base:=V0.heap.size) [(t1.pos,false,ub,vb)] (enc:=gv) mw SQ (by rfl) (λj y hy=>by simpa[gv,bF] using pd.cell hy) qU (by rw[lC];simp only[List.length_cons,List.length_nil];omega) (by omega) ?_;intro rv2 wh Is NJ ie;rw[<-tj]at NJ ie;have kg:Kept (λj=>rv.ownBlock=some j) wg wh:=Kept.grown NJ (λ_ h=>h);have Vr:=hFg.kept kg (λh=>by have:=gw _ h;omega);have Ph:=Pg.kept kg (λi h=>by have:=gw _ h;omega);have zh:=kg.size;obtain⟨a5,c5,rfl⟩:=Is.slice;push_cast -dsimp;refine aC Vr (by simp) rfl ?_;intro wi mV;have hFi:aO wi (w.heap.size+1) 25 [.slice ca cs.length cc,.slice a5 (rs++[(t1.pos,false,ub,vb)]).length c5,.bool true]:=mV.aN;have hOi:=Is.ak mV.kept (λg hg h=>by have:=(Is.block g hg).1;omega);have Pi:=Ph.kept mV.kept (λi h=>by omega);have kY:Kept (λi=>i=w.heap.size+1\/rv.ownBlock=some i) wf wi:=((Kept.new (X:=λi=>i=w.heap.size+1\/rv.ownBlock=some i) pd).trans kg (λi _ h=>.inr h)).trans mV.kept (λi _ h=>.inl h);have ki:=kf.trans kY (X:=(·=pb)) (λi h1 h2=>by
     rcases h2 with h2|h2
     ·omega
     have:=gw _ h2;omega)
    have kv0:Kept (λi=>i=pb\/i=w.heap.size+1\/rv.ownBlock=some i) w' wi:=(kw.weaken (Y:=λi=>i=pb\/i=w.heap.size+1\/rv.ownBlock=some i) (λi _ h=>.inl h)).trans kY (λi _ h=>.inr h);have kv:=EH.trans kv0 (λi h1 h2=>by
     rcases h2 with h2|h2|h2
     ·exact .inl h2
     ·exact .inr h2
     have:=gw _ h2;omega)
    have zkw:=kw.size;have hVi:dd (kG (λb=>b<V0.heap.size\/(Value.slice a5 (rs++[(t1.pos,false,ub,vb)]).length c5).ownBlock=some b) wi) (rs++[(t1.pos,false,ub,vb)]) (ee++[⟨t1.pos,false,x1,x2⟩]):=by
     refine(XQ.imp λa c h=>h.mono kY (λi h=>?_) (λi h=>?_)).snoc ⟨rfl,rfl,Iw.mono kY (λi h=>?_) (λi h=>?_),Iy.mono kY (λi h=>?_) (λi h=>?_)⟩
     ·rcases h with h|h
      ·exact .inl (.inl (by omega))
      exact .inl (.inr h)
     ·rcases h with h|h
      ·exact .inl (.inl h)
      rcases ie i h with h|h
      ·exact .inl (.inr h)
      exact .inr (by omega)
     ·rcases h with h|h
      ·exact .inl (by omega)
      have:=gw _ h;exact .inl (by omega)
     ·rcases h with h|h
      ·exact .inl (by omega)
      rcases ie i h with h|h
      ·have:=gw _ h;exact .inl (by omega)
      exact .inr (by omega)
     ·rcases h with h|h
      ·exact .inl (by omega)
      have:=gw _ h;exact .inl (by omega)
     rcases h with h|h
     ·exact .inl (by omega)
     rcases ie i h with h|h
     ·have:=gw _ h;exact .inl (by omega)
     exact .inr (by omega)
    have qt:bA (m-1) (ee++[⟨t1.pos,false,x1,x2⟩]) l8=bA 1000 [] lc:=by rw[qF dB hm cO jQ,aG cD]
    have hPi:=Pi.len;push_cast -dsimp;exact⟨⟨m-1,ee++[⟨t1.pos,false,x1,x2⟩],l8,_,_,qt,by omega,by rw[List.length_append,List.length_singleton];omega,hFi,hOi,hVi,Pi,ki,kv⟩,by rw[hPi,XO];exact hl8⟩
   | false =>
    have cO:dC l1=false:=by rw[fO,iP]
    have NR:=Yb dB hm cO;have NI:j3 l0=Cae.pb ia (λb=>pr ⟨acc,ee,b⟩) l1:=by
     unfold j3;rw[aG jE,aG NR]
    push_cast -dsimp;refine aA (gQ [101,108,115,101] hP) ?_;rintro _ w3' hT;rcases hT with ⟨GN,rfl,t3,l3,el3,h53,Vm,kt3,JU⟩|⟨GN,rfl,pg⟩
    ·have ew:bV l1=.ok ((),l3):=by rw[el3];exact bB h53
     have AG:ia l1=Cae.pb ep (λb=>Cae.pb (a7 [59]) λ_=>pr b) l3:=by
      unfold ia bE;rw[GN,if_pos rfl,aG ew]
     have F3':=hF.kept kt3 (by omega);have N9:=hk.trans kt3 (λi _ h=>h);have y3':Kept (λi=>i=pb\/i=w.heap.size+1) w' w3':=kt3.weaken (λi _ h=>.inl h);push_cast -dsimp;refine aA (gQ [98,114,101,97,107] Vm) ?_;rintro _ w4' hT;rcases hT with ⟨Hv,rfl,t4,l4,tz,h54,K8,kt4,xq⟩|⟨Hv,rfl,pg⟩
     ·have TD:bV l3=.ok ((),l4):=by rw[tz];exact bB h54
      have ox:ep l3=.ok (true,l4):=by
       unfold ep bE;rw[Hv,if_pos rfl,aG TD];rfl
      have F4':=F3'.kept kt4 (by omega);push_cast -dsimp;refine aC F4' (by simp) rfl ?_;intro w5 bW;have F5:aO w5 (w.heap.size+1) 25 [.slice ca cs.length cc,rv,.bool true]:=bW.aN;have P5:=K8.kept bW.kept (λi h=>by omega);have k5:=(N9.trans kt4 (λi _ h=>h)).trans bW.kept (λi h1 h2=>by omega);have y5:=(y3'.trans kt4 (λi _ h=>.inl h)).trans bW.kept (λi _ h=>.inr h);have d5:w5.cell? ⟨w.heap.size+1,2,none⟩=some (.bool true):=F5.cell rfl;push_cast -dsimp[d5];refine aK (fj [59] P5) ?_ ?_;rotate_left;·
       rintro ce we ⟨e,pos,he,ht,fL⟩
       push_cast -dsimp
       refine⟨e,pos,?_,ht.mono (by have:=k5.size;omega),k5.trans fL (λi _ h=>h)⟩
       rw[NI]
       refine cT ?_
       rw[AG]
       rw[aG ox];exact cT he
      rintro _ w6 ⟨_,l5,e5,rfl,Px,rO⟩;have hFx:=F5.kept rO (by omega);have kx:=k5.trans rO (λi _ h=>h);have ky:=y5.trans rO (λi _ h=>.inl h);have GB:j3 l0=.ok (⟨acc,ee,true⟩,l5):=by rw[NI,aG (show ia l1=.ok (true,l5) by rw[AG,aG ox,aG e5];rfl)];rfl
      push_cast -dsimp;have kvx:=EH.trans ky (λi _ h=>h);have hRx:=hR.kept kvx (by omega);have d3:aB w6 ⟨w.heap.size+1,0,none⟩ 0 3=some [.slice ca cs.length cc,rv,.bool true]:=hFx.aB;rw[tj]at d3;push_cast -dsimp[d3];refine aF (xt:=25) (n:=3) (by kernel_rfl) hRx rfl (by decide) (by simp;exact⟨rfl,rfl,rfl⟩) ?_;intro wz EL;have hRz:aO wz w.heap.size 25 [.slice ca cs.length cc,.slice ra rs.length rc,.bool true]:=EL.aN;have dz:aB wz ⟨w.heap.size,0,none⟩ 0 3=some [.slice ca cs.length cc,.slice ra rs.length rc,.bool true]:=hRz.aB;have Pz:=Px.kept EL.kept (λi h=>by omega);have kz:=kx.trans EL.kept (X:=(·=pb)) (λi h1 h2=>by omega);have kvz:Kept (λi=>i<w.heap.size+2) V0 wz:=(kvx.weaken (Y:=λi=>i<w.heap.size+2) (λi _ h=>by omega)).trans EL.kept (λi _ h=>by omega);have kyz:Kept (λi=>i<w.heap.size+2) w' wz:=(ky.weaken (Y:=λi=>i<w.heap.size+2) (λi _ h=>by omega)).trans EL.kept (λi _ h=>by omega);have s1:Sl (·<w.heap.size) 3 (En uA) wz (.slice ca cs.length cc) cs:=by
       have hh:=(Mw.ak kvz (λg hg h=>by have:=(Mw.block g hg).1;omega)).sl;rw[aBE]at hh;exact hh.weaken (λi h=>by omega)
      have s2:Sl (·<w.heap.size) 4 (En gv) wz (.slice ra rs.length rc) rs:=by
       have hh:=(hO.ak kyz (λg hg h=>by have:=(hO.block g hg).1;omega)).sl;rw[tj]at hh;exact hh.weaken (λi h=>by omega)
      have a1:dd (qj (·<w.heap.size) wz) cs acc:=hVc.imp λa c h=>h.mono kvz (λi h=>.inl h) (λi h=>.inl (by omega));have a2:dd (kG (·<w.heap.size) wz) rs ee:=hV.imp λa c h=>h.mono kyz (λi h=>.inl (by omega)) (λi h=>.inl (by omega));push_cast -dsimp[dz];exact⟨_,_,GB,⟨_,_,cs,rs,rfl,s1,s2,a1,a2⟩,Pz,kz⟩
     obtain rfl:w3'=w4':=pg.symm;push_cast -dsimp;refine aC F3' (by simp) rfl ?_;intro wu Hw;have Fu:aO wu (w.heap.size+1) 25 [.slice ca cs.length cc,rv,.bool false]:=Hw.aN;have Pu:=Vm.kept Hw.kept (λi h=>by omega);have ku:=N9.trans Hw.kept (λi h1 h2=>by omega);have yu:=y3'.trans Hw.kept (λi _ h=>.inr h);have du:wu.cell? ⟨w.heap.size+1,2,none⟩=some (.bool false):=Fu.cell rfl;have AN:ep l3=Cae.pb (a7 [107,101,101,112]) (λ_=>pr false) l3:=by
      unfold ep bE;rw[Hv];rfl
     push_cast -dsimp[du];refine aK (fj [107,101,101,112] Pu) ?_ ?_;rotate_left;·
      rintro ce we ⟨e,pos,he,ht,fL⟩
      push_cast -dsimp
      refine⟨e,pos,?_,ht.mono (by have:=ku.size;omega),ku.trans fL (λi _ h=>h)⟩
      rw[NI]
      refine cT ?_
      rw[AG]
      refine cT ?_;rw[AN];exact cT he
     rintro _ w5 ⟨_,l4,e4,rfl,P5,kt5⟩;have ox:ep l3=.ok (false,l4):=by rw[AN,aG e4];rfl
     have F5:=Fu.kept kt5 (by omega);have k5:=ku.trans kt5 (λi _ h=>h);have y5:=yu.trans kt5 (λi _ h=>.inl h);push_cast -dsimp;refine aK (fj [59] P5) ?_ ?_;rotate_left;·
      rintro ce we ⟨e,pos,he,ht,fL⟩
      push_cast -dsimp
      refine⟨e,pos,?_,ht.mono (by have:=k5.size;omega),k5.trans fL (λi _ h=>h)⟩
      rw[NI]
      refine cT ?_
      rw[AG]
      rw[aG ox];exact cT he
     rintro _ w6 ⟨_,l5,e5,rfl,Px,rO⟩;have hFx:=F5.kept rO (by omega);have kx:=k5.trans rO (λi _ h=>h);have ky:=y5.trans rO (λi _ h=>.inl h);have GB:j3 l0=.ok (⟨acc,ee,false⟩,l5):=by rw[NI,aG (show ia l1=.ok (false,l5) by rw[AG,aG ox,aG e5];rfl)];rfl
     push_cast -dsimp;have kvx:=EH.trans ky (λi _ h=>h);have hRx:=hR.kept kvx (by omega);have d3:aB w6 ⟨w.heap.size+1,0,none⟩ 0 3=some [.slice ca cs.length cc,rv,.bool false]:=hFx.aB;rw[tj]at d3;push_cast -dsimp[d3];refine aF (xt:=25) (n:=3) (by kernel_rfl) hRx rfl (by decide) (by simp;exact⟨rfl,rfl,rfl⟩) ?_;intro wz EL;have hRz:aO wz w.heap.size 25 [.slice ca cs.length cc,.slice ra rs.length rc,.bool false]:=EL.aN;have dz:aB wz ⟨w.heap.size,0,none⟩ 0 3=some [.slice ca cs.length cc,.slice ra rs.length rc,.bool false]:=hRz.aB;have Pz:=Px.kept EL.kept (λi h=>by omega);have kz:=kx.trans EL.kept (X:=(·=pb)) (λi h1 h2=>by omega);have kvz:Kept (λi=>i<w.heap.size+2) V0 wz:=(kvx.weaken (Y:=λi=>i<w.heap.size+2) (λi _ h=>by omega)).trans EL.kept (λi _ h=>by omega);have kyz:Kept (λi=>i<w.heap.size+2) w' wz:=(ky.weaken (Y:=λi=>i<w.heap.size+2) (λi _ h=>by omega)).trans EL.kept (λi _ h=>by omega);have s1:Sl (·<w.heap.size) 3 (En uA) wz (.slice ca cs.length cc) cs:=by
      have hh:=(Mw.ak kvz (λg hg h=>by have:=(Mw.block g hg).1;omega)).sl;rw[aBE]at hh;exact hh.weaken (λi h=>by omega)
     have s2:Sl (·<w.heap.size) 4 (En gv) wz (.slice ra rs.length rc) rs:=by
      have hh:=(hO.ak kyz (λg hg h=>by have:=(hO.block g hg).1;omega)).sl;rw[tj]at hh;exact hh.weaken (λi h=>by omega)
     have a1:dd (qj (·<w.heap.size) wz) cs acc:=hVc.imp λa c h=>h.mono kvz (λi h=>.inl h) (λi h=>.inl (by omega));have a2:dd (kG (·<w.heap.size) wz) rs ee:=hV.imp λa c h=>h.mono kyz (λi h=>.inl (by omega)) (λi h=>.inl (by omega));push_cast -dsimp[dz];exact⟨_,_,GB,⟨_,_,cs,rs,rfl,s1,s2,a1,a2⟩,Pz,kz⟩
    obtain rfl:w'=w3':=pg.symm;have hFx:=hF;have Px:=hP;have kx:=hk;have ky:Kept (λi=>i=pb\/i=w.heap.size+1) w' w':=Kept.refl _ _;have GB:j3 l0=.ok (⟨acc,ee,true⟩,l1):=by
     rw[NI,aG (show ia l1=.ok (true,l1) by unfold ia bE;rw[GN];rfl)]
     rfl
    push_cast -dsimp;have kvx:=EH.trans ky (λi _ h=>h);have hRx:=hR.kept kvx (by omega);have d3:aB w' ⟨w.heap.size+1,0,none⟩ 0 3=some [.slice ca cs.length cc,rv,.bool true]:=hFx.aB;rw[tj]at d3;push_cast -dsimp[d3];refine aF (xt:=25) (n:=3) (by kernel_rfl) hRx rfl (by decide) (by simp;exact⟨rfl,rfl,rfl⟩) ?_;intro wz EL;have hRz:aO wz w.heap.size 25 [.slice ca cs.length cc,.slice ra rs.length rc,.bool true]:=EL.aN;have dz:aB wz ⟨w.heap.size,0,none⟩ 0 3=some [.slice ca cs.length cc,.slice ra rs.length rc,.bool true]:=hRz.aB;have Pz:=Px.kept EL.kept (λi h=>by omega);have kz:=kx.trans EL.kept (X:=(·=pb)) (λi h1 h2=>by omega);have kvz:Kept (λi=>i<w.heap.size+2) V0 wz:=(kvx.weaken (Y:=λi=>i<w.heap.size+2) (λi _ h=>by omega)).trans EL.kept (λi _ h=>by omega);have kyz:Kept (λi=>i<w.heap.size+2) w' wz:=(ky.weaken (Y:=λi=>i<w.heap.size+2) (λi _ h=>by omega)).trans EL.kept (λi _ h=>by omega);have s1:Sl (·<w.heap.size) 3 (En uA) wz (.slice ca cs.length cc) cs:=by
     have hh:=(Mw.ak kvz (λg hg h=>by have:=(Mw.block g hg).1;omega)).sl;rw[aBE]at hh;exact hh.weaken (λi h=>by omega)
    have s2:Sl (·<w.heap.size) 4 (En gv) wz (.slice ra rs.length rc) rs:=by
     have hh:=(hO.ak kyz (λg hg h=>by have:=(hO.block g hg).1;omega)).sl;rw[tj]at hh;exact hh.weaken (λi h=>by omega)
    have a1:dd (qj (·<w.heap.size) wz) cs acc:=hVc.imp λa c h=>h.mono kvz (λi h=>.inl h) (λi h=>.inl (by omega));have a2:dd (kG (·<w.heap.size) wz) rs ee:=hV.imp λa c h=>h.mono kyz (λi h=>.inl (by omega)) (λi h=>.inl (by omega));push_cast -dsimp[dz];exact⟨_,_,GB,⟨_,_,cs,rs,rfl,s1,s2,a1,a2⟩,Pz,kz⟩
end Go.Proofs.YtodeeahdhnjpkaaGreatDoor
end
section
namespace Cae
theorem BN (f:UInt8->Bool)(c:UInt8)(r:List UInt8):gk f (c::r)=if f c then gk f r+1 else 0:=by
 unfold gk;rw[List.takeWhile_cons];split<;>rfl
theorem wQ:∀(f:UInt8->Bool) (s:List UInt8) (n:Nat),n<=s.length->(∀i,i<n->f (s.getD i 0)=true)->(n=s.length\/f (s.getD n 0)=false)->gk f s=n
 | f,[],n,h,_,_=>by
  have:n=0:=by simpa using h
  subst this;rfl
 | f,c::r,0,_,_,h=>by
  rw[BN];rcases h with h|h
  ·simp at h
  have:f c=false:=h;rw[this];rfl
 | f,c::r,n+1,h,ha,hb=>by
  rw[BN,if_pos (show f c=true from ha 0 (by omega)),wQ f r n (by simpa using h) (λi hi=>ha (i+1) (by omega)) (hb.imp (λe=>by simpa using e) (λe=>e))]
theorem TP {s:List UInt8}{c:UInt8}:Go.Lib.indexByte s c+1=if s.contains c then ((gk (· != c) s+1:Nat):Int) else 0:=by
 rw[mf];split<;>simp[gk]
theorem aDq {i:Nat}{s:List UInt8}{l:List Cae.Tok}(h:Tk i s l):∀t∈l,t.kind=2->t.text≠[]/\∀c∈t.text,bu c=true:=by
 induction h with
 | nil i=>simp
 | blank _ _ ih=>exact ih
 | note _ _ _ ih=>exact ih
 | @tok i c r l h1 h2 h3 hl ih =>
  intro t ht hk;rcases List.mem_cons.1 ht with rfl|ht
  ·rw[jq]at hk h3;simp only[jq];by_cases a1:dV c=true
   ·rw[if_pos a1]at hk;cases hk
   rw[if_neg a1]at hk h3 ⊢
   by_cases a2:bu c=true
   ·rw[if_pos a2]at h3 ⊢
    have e:(c::r).take (gk bu (c::r))=(c::r).takeWhile bu:=wR bu (c::r)
    show (c::r).take (gk bu (c::r))≠[]/\_
    rw[e];refine⟨λhh=>?_,λx hx=>?_⟩
    ·rw[List.takeWhile_cons,if_pos a2]at hh;cases hh
    exact List.all_eq_true.1 (List.all_takeWhile (p:=bu) (l:=c::r)) x hx
   rw[if_neg a2]at hk;split at hk
   ·cases hk
   split at hk<;>cases hk
  exact ih t ht hk
end Cae
namespace Go.Proofs.YtodeeahdhnjpkaaGreatDoor
open Go.Vc Go.Proofs Go.RowKit Cae
attribute [local irreducible] cw ag aq a8 runK bD Sl Vc.Own vc aW cN ai
theorem G3 (c:UInt8)(w:World):bD Tryz.prog 86 [.int .u8 c.toNat] w λr w'=>r=.bool (dV c)/\w'=w:=by
 have h:dV c=(decide (97<=c.toNat) && decide (c.toNat<=122)):=rfl;refine aE Tryz.func86 rfl (by kernel_rfl) [2] rfl ?_;push_cast -dsimp(maxSteps:=4000000) [Tryz.ntmps86];refine⟨λh1=>?_,λh1=>?_⟩
 ·rw[h,decide_eq_true (show 97<=c.toNat by omega),Bool.true_and]
  congr 1;exact decide_eq_decide.2 (by omega)
 rw[h,decide_eq_false (show ¬97<=c.toNat by omega)];rfl
theorem CG (c:UInt8)(w:World):bD Tryz.prog 88 [.int .u8 c.toNat] w λr w'=>r=.bool (bu c)/\w'=w:=by
 have h:bu c=(decide (48<=c.toNat) && decide (c.toNat<=57)):=rfl;refine aE Tryz.func88 rfl (by kernel_rfl) [2] rfl ?_;push_cast -dsimp(maxSteps:=4000000) [Tryz.ntmps88];refine⟨λh1=>?_,λh1=>?_⟩
 ·rw[h,decide_eq_true (show 48<=c.toNat by omega),Bool.true_and]
  congr 1;exact decide_eq_decide.2 (by omega)
 rw[h,decide_eq_false (show ¬48<=c.toNat by omega)];rfl
theorem Td (c:UInt8)(w:World):bD Tryz.prog 87 [.int .u8 c.toNat] w λr w'=>r=.bool (dV c || bu c)/\w'=w:=by
 refine aE Tryz.func87 rfl (by kernel_rfl) [2] rfl ?_;push_cast -dsimp(maxSteps:=4000000) [Tryz.ntmps87];refine aA (G3 c w) ?_;rintro _ _ ⟨rfl,rfl⟩;cases dV c with
 | true =>
  push_cast -dsimp;rfl
 | false =>
  push_cast -dsimp;refine aA (CG c _) ?_;rintro _ _ ⟨rfl,rfl⟩;push_cast -dsimp
theorem Tz (c:UInt8)(w:World):bD Tryz.prog 54 [.int .u8 c.toNat] w λr w'=>r=.bool (c != 10)/\w'=w:=by
 refine aE Tryz.func54 rfl (by kernel_rfl) [2] rfl ?_;push_cast -dsimp(maxSteps:=4000000) [Tryz.ntmps54];congr 1;rw[bne,Kh];have:(((c.toNat:Nat):Int)=10)↔c=10:=by
  constructor
  ·intro h;exact UInt8.toNat_inj.1 (by show c.toNat=10;omega)
  rintro rfl;rfl
 by_cases h:c=10
 ·rw[decide_eq_true h,decide_eq_false (show ¬((c.toNat:Nat):Int)≠10 from λhh=>hh (this.2 h))];rfl
 rw[decide_eq_false h,decide_eq_true (show ((c.toNat:Nat):Int)≠10 from λhh=>h (this.1 hh))];rfl
def xu:Go.Shelf.Ren:=⟨λ| 217=>107|266=>144|n=>n,λ| 9=>9|5=>5|3=>3|n=>n,λ| n=>n⟩
theorem JW:Go.Proofs.Lays.n217 Tryz.prog xu:={
 mixed:=by kernel_rfl
 f217:=Tryz.func107.trans (congrArg some (by kernel_rfl))
 f266:=Tryz.func144.trans (congrArg some (by kernel_rfl))
 t3:=Tryz.underlying3
 a3:=Tryz.isAgg3
 z3:=Tryz.sizeOf3
 v3:=Tryz.zeroValue3
 t5:=Tryz.underlying5
 a5:=Tryz.isAgg5
 z5:=Tryz.sizeOf5
 v5:=Tryz.zeroValue5
 t9:=Tryz.underlying9
 a9:=Tryz.isAgg9
 z9:=Tryz.sizeOf9
 v9:=Tryz.zeroValue9 }
theorem DH (s:List UInt8)(c:UInt8)(w:World):bD Tryz.prog 107 [str s,.int .u8 c.toNat] w λr w'=>r=.int .i64 (Lib.indexByte s c)/\w'=w:=by
 refine bx Tryz.func107 (by kernel_rfl) (by kernel_rfl) ?_;refine Calls.mono (Any.stringslite_IndexByte JW ⟨s.toArray⟩ c.toNat w) ?_;rintro e w' ⟨rfl,rfl⟩;exact⟨_,rfl,by simp,rfl⟩
theorem uu (s:List UInt8)(c:UInt8)(w:World):bD Tryz.prog 89 [str s,.int .u8 c.toNat] w λr w'=>r=.int .i64 (Lib.indexByte s c)/\w'=w:=by
 refine aE Tryz.func89 rfl (by kernel_rfl) [4] rfl ?_;push_cast -dsimp(maxSteps:=4000000) [Tryz.ntmps89];refine aA (DH s c w) ?_;rintro _ _ ⟨rfl,rfl⟩;push_cast -dsimp
theorem Uu (f:FuncId)(g:UInt8->Bool)(hf:∀(c:UInt8) (w:World),bD Tryz.prog f [.int .u8 c.toNat] w λr w'=>r=.bool (g c)/\w'=w)(s:List UInt8)(hs:s.length<=1000000000)(w:World) :
  bD Tryz.prog 53 [str s,.func (.func f) #[] #[]] w λr w'=>r=.int .i64 (gk g s:Nat)/\w'=w:=by
 refine aE Tryz.func53 rfl (by kernel_rfl) [4] rfl ?_;push_cast -dsimp(maxSteps:=4000000) [Tryz.ntmps53];refine aM [5,6,7,8,9,10,11,12,13,14,15,16,17,18] (λz w'=>∃n:Nat,z 5=.int .i64 n/\n<=s.length/\(∀i,i<n->g (s.getD i 0)=true)/\w'=w) (λz w'=>s.length-(intOf (z 5)).toNat) ?_ ?_
 ·exact⟨0,rfl,Nat.zero_le _,λi hi=>by omega,rfl⟩
 rintro z w' ⟨n,hz,hn,cg,rfl⟩;have hint:(intOf (z 5)).toNat=n:=by rw[hz];simp[intOf]
 push_cast -dsimp[hz];refine⟨λbZ=>⟨⟨by omega,by omega⟩,?_⟩,λgh=>?_⟩
 ·refine aA (hf (s.getD n 0) w') ?_;rintro _ _ ⟨rfl,rfl⟩;cases hg:g (s.getD n 0) with
  | true =>
   push_cast -dsimp[hz];refine⟨⟨by omega,by omega⟩,⟨n+1,rfl,by omega,λi hi=>?_⟩,?_⟩
   ·by_cases h:i<n
    ·exact cg i h
    rw[show i=n by omega];exact hg
   simp only[intOf];omega
  | false =>
   push_cast -dsimp[hz];rw[wQ g s n hn cg (.inr hg)]
 rw[wQ g s n hn cg (.inl (by omega))]
theorem aCP (c:UInt8)(r:List UInt8)(hs:(c::r).length<=1000000000)(w:World):bD Tryz.prog 55 [str (c::r)] w λv w'=>v=.tuple #[.int .i64 ((gG (c::r)).1:Nat),.int .i64 ((gG (c::r)).2:Nat)]/\w'=w:=by
 have hn:=jq c r;refine aE Tryz.func55 rfl (by kernel_rfl) [2,3] rfl ?_;push_cast -dsimp(maxSteps:=4000000) [Tryz.ntmps55];have e0:((c::r).getD 0 0)=c:=rfl;refine⟨by omega,?_⟩;refine aA (G3 c w) ?_;rintro _ _ ⟨rfl,rfl⟩;cases h1:dV c with
 | true =>
  rw[h1,if_pos rfl]at hn;push_cast -dsimp;refine aA (Uu _ (λc=>dV c || bu c) Td (c::r) hs _) ?_;rintro _ _ ⟨rfl,rfl⟩;push_cast -dsimp;rw[hn];rfl
 | false =>
  rw[h1,if_neg (by decide)]at hn;push_cast -dsimp;refine aA (CG c _) ?_;rintro _ _ ⟨rfl,rfl⟩;cases h2:bu c with
  | true =>
   rw[h2,if_pos rfl]at hn;push_cast -dsimp;refine aA (Uu _ bu CG (c::r) hs _) ?_;rintro _ _ ⟨rfl,rfl⟩;push_cast -dsimp;rw[hn];rfl
  | false =>
   rw[h2,if_neg (by decide)]at hn;have h91:(((c.toNat:Nat):Int)=91)↔c=91:=by
    constructor
    ·intro h;exact UInt8.toNat_inj.1 (by show c.toNat=91;omega)
    rintro rfl;rfl
   push_cast -dsimp;refine⟨λh3=>?_,λh3=>?_⟩
   ·rw[if_pos (h91.1 h3)]at hn;refine aA (uu (c::r) 93 _) ?_;rintro _ _ ⟨rfl,rfl⟩;have hr:=oV (· != 93) (c::r);have Zq:Lib.indexByte (c::r) 93+1=(((gG (c::r)).2:Nat):Int):=by
     rw[TP,hn];split<;>rfl
    push_cast -dsimp;refine⟨?_,?_⟩
    ·rw[Zq];have:=qA c r;omega
    rw[Zq,hn];rfl
   rw[if_neg (λh=>h3 (h91.2 h))]at hn;refine aA (uu mg c _) ?_;rintro _ _ ⟨rfl,rfl⟩;have Zq:(0<=Lib.indexByte mg c)↔mg.contains c=true:=by
    rw[mf];split
    ·rename_i h;exact⟨λ_=>h,λ_=>by omega⟩
    rename_i h;exact⟨λhh=>by omega,λhh=>absurd hh h⟩
   push_cast -dsimp;refine⟨λh=>?_,λh=>?_⟩
   ·rw[if_pos (Zq.1 h)]at hn;rw[hn];rfl
   rw[if_neg (λhh=>h (Zq.2 hh))]at hn;rw[hn];rfl
theorem oD (t:Cae.Tok):∀u∈fF t,u.oneCell'=true:=by
 intro u hu;simp[fF]at hu;rcases hu with rfl|rfl|rfl<;>rfl
def aIR (w:World)(s:List UInt8)(r:Value)(w':World):Prop :=
 (∃l v,yp s=.ok l/\r=.tuple #[v,.nilIface]/\Go.Vc.Own w.heap.size 91 3 fF w' v l) \/
 (∃e pos b,yp s=.error (e,pos)/\r=.tuple #[.slice none 0 0,.iface 96 (.pointer (some ⟨b,0,none⟩))]/\w.heap.size<=b/\aO w' b 97 [.int .i64 e,.int .i64 pos])
theorem VO (s:List UInt8)(hs:s.length<=1000000)(w:World):bD Tryz.prog 31 [str s] w λr w'=>aIR w s r w'/\Below w.heap.size w w':=by
 refine aE Tryz.func31 rfl (by kernel_rfl) [2,3] rfl ?_;push_cast -dsimp(maxSteps:=4000000) [Tryz.ntmps31];refine aM [2,3,4,5,6,7,8,9,10,11,12,13,14,15,16,17,18,19,20,21,22,23,24,25,26,27,28,29,30,31,32,33,34,35,36,37,38,39,40,41,42,43,44,45,46,47,48,49,50,51,52,53,54,55,56,57,58,59,60,61,62,63,64] (λz w'=>∃(m i:Nat) (acc:List Cae.Tok) (v:Value),z 5=.int .i64 i/\z 4=v/\i<=s.length/\(s.drop i).length<m/\acc.length<=500/\jA m i (s.drop i) acc=yp s/\Go.Vc.Own w.heap.size 91 3 fF w' v acc/\Below w.heap.size w w') (λz w'=>s.length-(intOf (z 5)).toNat) ?_ ?_
 ·exact⟨s.length+1,0,[],_,rfl,rfl,Nat.zero_le _,by simp,by simp,rfl,Vc.Own.nil (enc:=fF) _ _ (λ_=>rfl) _,Below.refl _ _⟩
 rintro z w' ⟨m,i,acc,v,rr,xq,hi,hm,r8,dB,hO,hb⟩;obtain⟨m',rfl⟩:∃m',m=m'+1:=⟨m-1,by omega⟩;have TO:=hb.size;obtain⟨va,vc,rfl⟩:=hO.slice;have Vv:(s.drop i).length=s.length-i:=List.length_drop;push_cast -dsimp[rr];refine⟨λbZ=>?_,λgh=>?_⟩
 ·obtain⟨c,r,EE⟩:∃c r,s.drop i=c::r:=by
   cases hd:s.drop i with
   | nil=>rw[hd]at Vv;simp at Vv;omega
   | cons c r=>exact⟨c,r,rfl⟩
  have qo:s.getD i 0=c:=by
   have:(s.drop i).getD 0 0=c:=by rw[EE];rfl
   rw[<-this];simp[List.getD_eq_getElem?_getD]
  rw[EE]at dB hm Vv;have NR:r.length+1=s.length-i:=by simpa using Vv
  have bN:=dB;rw[jA]at bN;have S9:(((c.toNat:Nat):Int)=32)↔c=32:=⟨λh=>UInt8.toNat_inj.1 (by show c.toNat=32;omega),λh=>by subst h;rfl⟩
  have S7:(((c.toNat:Nat):Int)=10)↔c=10:=⟨λh=>UInt8.toNat_inj.1 (by show c.toNat=10;omega),λh=>by subst h;rfl⟩
  have JB:(((c.toNat:Nat):Int)=35)↔c=35:=⟨λh=>UInt8.toNat_inj.1 (by show c.toNat=35;omega),λh=>by subst h;rfl⟩
  have Fv:∀k,s.drop (i+k)=(c::r).drop k:=λk=>by rw[<-EE,List.drop_drop]
  by_cases Fa:((c.toNat:Nat):Int)=32
  ·rw[if_pos (.inl (S9.1 Fa))]at bN;push_cast -dsimp[rr,qo,Fa];refine⟨⟨by omega,by omega⟩,⟨by omega,by omega⟩,⟨m',i+1,acc,_,rfl,xq,by omega,by rw[Fv 1];simp;omega,r8,by rw[Fv 1];exact bN,hO,hb⟩,by simp only[intOf];omega⟩
  by_cases nH:((c.toNat:Nat):Int)=10
  ·rw[if_pos (.inr (S7.1 nH))]at bN;push_cast -dsimp[rr,qo,Fa,nH];refine⟨⟨by omega,by omega⟩,⟨by omega,by omega⟩,⟨m',i+1,acc,_,rfl,xq,by omega,by rw[Fv 1];simp;omega,r8,by rw[Fv 1];exact bN,hO,hb⟩,by simp only[intOf];omega⟩
  rw[if_neg (λh=>h.elim (λh=>Fa (S9.2 h)) (λh=>nH (S7.2 h)))]at bN;by_cases SK:((c.toNat:Nat):Int)=35
  ·rw[if_pos (JB.1 SK)]at bN;have hr:=Uu _ (· != 10) Tz (c::r) (by rw[List.length_cons];omega) w';rw[<-EE]at hr;have hle:=oV (· != 10) (c::r);have pG:0<gk (· != 10) (c::r):=HH (by rw[JB.1 SK];decide);rw[List.length_cons]at hle;push_cast -dsimp[rr,qo,Fa,nH,SK];refine⟨⟨by omega,by omega⟩,⟨by omega,by omega⟩,?_⟩;refine aA hr ?_;rintro _ wq ⟨rfl,oy⟩;obtain rfl:w'=wq:=oy.symm;rw[EE];push_cast -dsimp[rr];refine⟨⟨by omega,by omega⟩,⟨m',i+gk (· != 10) (c::r),acc,_,by first|(push_cast;done)|(push_cast;rfl),xq,by omega,by rw[Fv];simp;omega,r8,by rw[Fv];exact bN,hO,hb⟩,by simp only[intOf];omega⟩
  rw[if_neg (λh=>SK (JB.2 h))]at bN;have hr:=aCP c r (by rw[List.length_cons];omega) w';rw[<-EE]at hr;have hle:=qA c r;rw[List.length_cons]at hle;push_cast -dsimp[rr,qo,Fa,nH,SK];refine⟨⟨by omega,by omega⟩,⟨by omega,by omega⟩,?_⟩;refine aA hr ?_;rintro _ wq ⟨rfl,oy⟩;obtain rfl:w'=wq:=oy.symm;rw[EE];have hkn:∃k n,gG (c::r)=(k,n):=⟨_,_,rfl⟩;obtain⟨k,n,hkn⟩:=hkn;rw[hkn]at hle bN ⊢
  dsimp only at hle bN ⊢
  push_cast -dsimp[rr];refine⟨λh0=>?_,λh0=>?_⟩;·
   refine ah ?_
   intro w4 aj
   have B4:aO w4 w'.heap.size 97 [.int .i64 (3:Nat),.int .i64 i]:=aj.aN
   have b4:=hb.trans (aj.below.mono TO)
   push_cast -dsimp
   exact⟨.inr ⟨3,i,_,by rw[<-bN,if_pos (show n=0 by omega)],rfl,TO,B4⟩,b4⟩
  rw[if_neg (by omega)]at bN;push_cast -dsimp[xq];refine⟨λaBc=>?_,λaBc=>?_⟩;·
   refine ah ?_
   intro w4 aj
   have B4:aO w4 w'.heap.size 97 [.int .i64 (4:Nat),.int .i64 i]:=aj.aN
   have b4:=hb.trans (aj.below.mono TO)
   push_cast -dsimp
   exact⟨.inr ⟨4,i,_,by rw[<-bN,if_pos (show acc.length=500 by omega)],rfl,TO,B4⟩,b4⟩
  rw[if_neg (by omega)]at bN;refine⟨⟨by omega,by omega⟩,⟨by omega,by omega,by omega⟩,?_⟩;have aCc:(s.take (i+n)).drop i=(c::r).take n:=by rw[List.drop_take,EE];congr 1;omega
  have nC:cJ [(0,Value.agg #[.int .i64 k,str ((s.take ((i:Int)+n).toNat).drop i),.int .i64 i])]=[(⟨k,(c::r).take n,i⟩:Cae.Tok)].flatMap fF:=by
   rw[show ((i:Int)+n).toNat=i+n by omega,aCc]
   rfl
  refine cY CK rfl rfl (by omega) ?_;rw[nC];intro w4 aj;have uk:=hO.new aj;have z4':=aj.size;have b4:=hb.trans (aj.below.mono TO);push_cast -dsimp;refine ae (base:=w.heap.size) [⟨k,(c::r).take n,i⟩] (enc:=fF) CK uk (by rfl) (λj y hy=>by rw[Nat.zero_add];exact aj.cell hy) oD (by simp only[List.length_cons,List.length_nil];omega) (by omega) ?_;intro v5 w5 gR rh mT;have b5:=b4.trans ((Kept.grown rh (X:=λj=>(Value.slice va acc.length vc).ownBlock=some j) (λ_ h=>h)).below (B:=w.heap.size) (by omega) (λi h=>(uk.block i h).1));push_cast -dsimp[rr];refine⟨⟨by omega,by omega⟩,⟨m',i+n,acc++[⟨k,(c::r).take n,i⟩],v5,by first|(push_cast;done)|(push_cast;rfl),rfl,by omega,by rw[Fv];simp;omega,by rw[List.length_append,List.length_singleton];omega,by rw[Fv];exact bN,gR,b5⟩,by simp only[intOf];omega⟩
 have nC:cJ [(0,Value.agg #[.int .i64 5,str [],.int .i64 s.length])]=[(⟨5,[],s.length⟩:Cae.Tok)].flatMap fF:=rfl;refine cY CK rfl rfl (by omega) ?_;rw[nC];intro w4 aj;have uk:=hO.new aj;have z4':=aj.size;have b4:=hb.trans (aj.below.mono TO);have nW:s.drop i=[]:=List.drop_eq_nil_iff.2 (by omega);have cD:yp s=.ok (acc++[⟨5,[],s.length⟩]):=by
  rw[<-dB,nW,jA,show i=s.length by omega]
 push_cast -dsimp[xq];refine ae (base:=w.heap.size) [⟨5,[],s.length⟩] (enc:=fF) CK uk (by rfl) (λj y hy=>by rw[Nat.zero_add];exact aj.cell hy) oD (by simp only[List.length_cons,List.length_nil];omega) (by omega) ?_;intro v5 w5 gR rh mT;have b5:=b4.trans ((Kept.grown rh (X:=λj=>(Value.slice va acc.length vc).ownBlock=some j) (λ_ h=>h)).below (B:=w.heap.size) (by omega) (λi h=>(uk.block i h).1));push_cast -dsimp;exact⟨.inl ⟨_,v5,cD,rfl,gR⟩,b5⟩
end Go.Proofs.YtodeeahdhnjpkaaGreatDoor
end
section
namespace Go.Vc
open Go.RowKit
section
variable {P:Program} {ds:List Deferred}
theorem AZ {t:Fr}{dst:Option Tmp}{C:World->Prop}{K:VK}{N:Act->World->Prop}(hn:∀v w',K v w'->N ⟨(put t dst v).toArray,ds⟩ w'){r:Result Next}(h:qD P t (λv w'=>C w'/\K v w') Gj r):qy P ⟨t.toArray,ds⟩ dst C N r:=by
 cases r with
 | halt x w'=>cases x<;>simp only[qD,Gj]at h
 | ok n w' =>
  cases n<;>simp only[qD]at h<;>simp only[qy]
  case value v=>exact⟨h.1,by rw[iR];exact hn _ _ h.2⟩
  case skip=>exact⟨h.1,by rw[iR];exact hn _ _ h.2⟩
  case enter f args =>
   refine h.mono λe ar he=>?_;cases e with
   | returned v=>exact⟨v,rfl,he.1,by rw[iR];exact hn _ _ he.2⟩
   | panicked c=>exact he.elim
   | outgrown=>exact he.elim
theorem pw {ops:List Oper}{i:Nat}{o:Oper}{C:World->Prop}{t:Fr}{w:World}{K:VK}{N:Act->World->Prop}(hi:ops[i]?=some o)(hw:Region.wanted o (yielded ops.toArray t.toArray)=true)
  (hn:∀v w',K v w'->N ⟨(put t o.dst v).toArray,ds⟩ w') (h:dT P o t w C K .mk):da P ops.toArray C i N ⟨t.toArray,ds⟩ w:=by
 unfold da;simp only[List.getElem?_toArray,hi,hw,if_true,ln];unfold dT at h;split at h
 ·rename_i ty x ho;have hc:chain P o=false:=by simp[chain,ho]
  simp only[hc,Bool.false_eq_true,if_false];obtain⟨v,hr,cg,hk⟩:=nd ho h;refine⟨v,λw' wI=>?_,by rw[iR];exact hn _ _ hk⟩;obtain⟨u,hu,hv⟩:=nd ho (cg w' wI);rw[hu,hv]
 ·rename_i x ho;have hc:chain P o=false:=by simp[chain,ho]
  simp only[hc,Bool.false_eq_true,if_false];unfold Gi at h;split at h
  ·rename_i a hx;refine⟨_,λw' _=>?_,by rw[iR];exact hn _ _ h⟩;unfold execOp;simp only[ho,hx];rfl
  exact h.elim
 split at h
 ·rename_i hc;simp only[hc,if_true];exact AZ hn (DY h)
 rename_i hc;simp only[hc];rcases qC h with h|⟨v,hg,hk⟩
 ·exact h.elim
 exact⟨v,λw' _=>hg w',by rw[iR];exact hn _ _ hk⟩
theorem Gf {ops:List Oper}{i:Nat}{o:Oper}{C:World->Prop}{t:Fr}{w:World}{N:Act->World->Prop}(hi:ops[i]?=some o)(hw:Region.wanted o (yielded ops.toArray t.toArray)=false)
  (h:N ⟨(put t o.dst undef).toArray,ds⟩ w):da P ops.toArray C i N ⟨t.toArray,ds⟩ w:=by
 unfold da;simp only[List.getElem?_toArray,hi,hw,Bool.false_eq_true,if_false];rw[iR];exact h
theorem pB {ops:List Oper}{C:World->Prop}{R:Fr->World->Prop}{N:Act->World->Prop}(hn:∀t w,R t w->N ⟨t.toArray,ds⟩ w):∀(l:List Oper) (k:Nat) (t:Fr) (w:World),(∀j,l[j]?=ops[k+j]?) ->
  mM P ops C R l t w .mk->yx P ops.toArray C N (List.range' k l.length) ⟨t.toArray,ds⟩ w
 | [],_,_,_,_,h=>hn _ _ h
 | o::r,k,t,w,hl,h=>by
  have h0:ops[k]?=some o:=by simpa using(hl 0).symm
  have ih:=λt w=>pB (C:=C) hn r (k+1) t w (λj=>by have:=hl (j+1);simpa[Nat.add_assoc,Nat.add_comm 1 j] using this);simp only[List.length_cons,List.range'_succ,yx];simp only[mM]at h;split at h
  ·rename_i hg;exact pw h0 (by simp[Region.wanted,hg]) (λv w' hk=>ih _ _ hk) h
  rename_i j want hg;rcases kJ hg h with ⟨hw,hh⟩|⟨hw,hh⟩
  ·exact pw h0 hw (λv w' hk=>ih _ _ hk) hh
  exact Gf h0 hw (ih _ _ hh)
theorem Vk {id:Nat}{l:List Oper}{t:Fr}{w:World}{Q:Exit->Act->World->Prop}(C:World->Prop)(hm:P.follows .mixedOrders=true)(hB:YF P l.toArray=true)(hC:C w.drew)
  (h:mM P l C (λt w=>Q .normal ⟨t.toArray,ds⟩ w) l t w.drew .mk):(Code.region id l.toArray true).wp P Q ⟨t.toArray,ds⟩ w:=by
 simp only[YF,Bool.and_eq_true]at hB;refine wp_region_any hm (fV (C:=C) (R:=λa w=>Q .normal a w) (λ_ _ h=>h) _ _ _ _ hC ?_);refine ue hB.1 _ 0 _ _ _ (by simp) hC (λj o _ hl=>by simp[Array.getElem?_replicate]at hl;split at hl<;>simp at hl) hB.2 ?_
 have:=pB (P:=P) (ds:=ds) (ops:=l) (C:=C) (R:=λt w=>Q .normal ⟨t.toArray,ds⟩ w) (N:=λa w=>Q .normal a w) (λt w hk=>hk) l 0 t w.drew (λj=>by simp) h;simpa using this
theorem aCY {c:Code}(hp:j9 c=true){Q:Exit->Act->World->Prop}{t:Fr}{w:World}(h:vc P c (λe t w=>Q e ⟨t.toArray,ds⟩ w) t w .mk):c.wp P Q ⟨t.toArray,ds⟩ w :=
 wpIn_wide.1 (LX (n:=0) (ro:=none) hp h)
theorem Yd {a b:Code}(hp:j9 a=true){Q:Exit->Act->World->Prop}{t:Fr}{w:World}(h:vc P a (np (λt w=>b.wp P Q ⟨t.toArray,ds⟩ w) (λe t w=>Q e ⟨t.toArray,ds⟩ w) .mk) t w .mk):(Code.seq a b).wp P Q ⟨t.toArray,ds⟩ w:=by
 have e:(λ(t:Fr) (w:World)=>b.wpIn (xP none) 0 P Q ⟨t.toArray,ds⟩ w)=λt w=>b.wp P Q ⟨t.toArray,ds⟩ w:=by
  funext t w;exact propext wpIn_wide
 have h':(λN:Fr->World->Prop=>vc P a (np N (λe t w=>Q e ⟨t.toArray,ds⟩ w) .mk) t w .mk) (λt w=>b.wpIn (xP none) 0 P Q ⟨t.toArray,ds⟩ w):=by
  rw[e];exact h
 exact wpIn_wide.1 (mI (n:=0) (ro:=none) hp h')
theorem aAR {c:Operand}{x y:Code}{Q:Exit->Act->World->Prop}{t:Fr}{w:World}(hc:ev t c=.bool false)(h:y.wp P Q ⟨t.toArray,ds⟩ w):(Code.cond c x y).wp P Q ⟨t.toArray,ds⟩ w :=
 wpIn_wide.1 (RL (n:=0) (F:=Fence.wide) hc (wpIn_wide.2 h))
theorem aAS {c:Operand}{x y:Code}{Q:Exit->Act->World->Prop}{t:Fr}{w:World}(hc:ev t c=.bool true)(h:x.wp P Q ⟨t.toArray,ds⟩ w):(Code.cond c x y).wp P Q ⟨t.toArray,ds⟩ w :=
 wpIn_wide.1 (Z6 (n:=0) (F:=Fence.wide) hc (wpIn_wide.2 h))
theorem Bb {c:Code}{Q:Exit->Act->List Frame->World->Prop}{t:Fr}{cs:List Frame}{w:World}(h:vc P c (λe t w=>Q e ⟨t.toArray,[]⟩ cs w) t w .mk):c.wpS P Q ⟨t.toArray,[]⟩ cs w:=by
 refine wpS_of_wp ?_;have h1:=nt c _ _ w h;unfold cw at h1;refine Code.wp_mono ?_ h1;rintro e a w' ⟨hd,hh⟩;rw[wX hd];exact hh
theorem ES {ty xT:TypeId}{v:Value}{fs:Array Field}{t:Fr}{w:World}{K:VK}{Q:EP}{p}(hu:P.underlying ty=some (.struct fs))(k:K (.tuple #[v,.bool true]) w):aq P (Instr.typeAssert (.iface ty v) xT ty true) t w K Q p :=
 dq (by simp[Instr.typeAssert,run_underlying hu]) k
theorem aAn {fn:Func}(h:fn.results=#[])(t:Fr)(w:World):(results fn t.toArray).run P w=.ok (.tuple #[]) w:=by
 obtain⟨vs,h1,h2⟩:=dL (P:=P) (w:=w) fn [] h t (λvs=>vs=[]) rfl;rw[h1,h2];rfl
theorem R0 {id:Nat}{g:FuncId}{d:Tmp}{cap:List Operand}{ty1 ty2:TypeId}{p1 p2:String}{a1 a2:Array Edge}{Q:Exit->Act->World->Prop}{t:Fr}{w:World}
  (hd:d<t.length) (h:Q .normal ⟨(t.set d (.func (.func g) #[] (cap.map (ev t)).toArray)).toArray,{ target:=.fn (.func g) (cap.map (ev t)).toArray,args:=#[] }::ds⟩ w) :
  (Code.region id #[⟨some d,.makeFunc (.func g) #[] cap.toArray,ty1,p1,a1,none⟩,⟨none,.defer { callee:=.value (.tmp d),args:=#[],argTypes:=#[] },ty2,p2,a2,none⟩] false).wp P Q ⟨t.toArray,ds⟩ w:=by
 refine wp_region_list ?_;unfold wpList;rw[if_pos (by rfl)];refine .inl ?_;unfold Oper.wp;have h1:∀(ρ:Operand->Value) (cap:Array Operand) (o:Oper),o.op=.makeFunc (.func g) #[] cap->(execOp ρ o).run P w=.ok (.value (.func (.func g) #[] (cap.map ρ))) w:=λρ cap o ho=>by
  unfold execOp;simp only[ho];simp[go_sem,Instr.makeFunc]
 rw[h1 _ cap.toArray _ rfl];unfold Oper.upon;dsimp only;rw[iR];unfold wpList;rw[if_pos (by rfl)];refine .inl ?_;unfold Oper.wp;rw[ln,ln];have hg:(put t (some d) (.func (.func g) #[] (cap.toArray.map (ev t)))).getD d undef=.func (.func g) #[] (cap.toArray.map (ev t)):=by
  simp[put,hd]
 have h2:∀(o:Oper),o.op=.defer { callee:=.value (.tmp d),args:=#[],argTypes:=#[] }->(execOp (ev (put t (some d) (.func (.func g) #[] (cap.toArray.map (ev t))))) o).run P w=.ok (.defer { target:=.fn (.func g) (cap.toArray.map (ev t)),args:=#[] }) w:=λo ho=>by
  unfold execOp;simp only[ho];simp only[resolve,ev,hg,Deferred.ofValue];simp[go_sem]
 rw[h2 _ rfl];unfold Oper.upon;dsimp only;unfold wpList;have e:∀(a:Act) ,a.put none undef=a:=λa=>rfl;rw[e];simpa[put] using h
end
end Go.Vc
end
section
namespace Go.Proofs.YtodeeahdhnjpkaaGreatDoor
open Go.Vc Go.Proofs Go.RowKit Cae
attribute [local irreducible] cw ag aq a8 runK bD Sl Vc.Own vc aW cN ai
theorem Wb (rb eb:Nat)(ev:Value)(f0:List Value)(e0:Value)(hf:f0.length=3)(w:World)(hr:aO w rb 25 f0)(he:aO w eb 32 [e0])(dA:rb≠eb)(hev:kA ev=true) :
  CallsD Tryz.prog 30 #[.pointer (some ⟨rb,0,none⟩),.pointer (some ⟨eb,0,none⟩)] (.panicking [{ v:=.iface 81 (.agg #[ev]),recovered:=false }]) w λe u' w' =>
   e=.returned (.tuple #[])/\u'=.panicking [{ v:=.iface 81 (.agg #[ev]),recovered:=true }]/\aO w' rb 25 [.slice none 0 0,.slice none 0 0,.bool false]/\aO w' eb 32 [ev]/\Kept (λi=>i=rb\/i=eb) w w':=by
 refine callsD_of_wpS Tryz.func30 rfl λc₀ cs hu=>?_;apply wpS_seq;apply wpS_region;simp[wpOpsS,go_sem,recoverD,hu,Tryz.ntmps30,Exit.thenS];refine Bb (t:=[.pointer (some ⟨rb,0,none⟩),.pointer (some ⟨eb,0,none⟩),.iface 81 (.agg #[ev]),undef,undef,.iface 81 (.agg #[ev]),undef,undef,undef,undef,undef,undef,undef,undef,undef,undef,undef,undef,undef]) ?_;push_cast -dsimp;refine ES Tryz.underlying81 ?_;push_cast -dsimp;refine aR (z:=[.nilIface]) (by kernel_rfl) ?_;intro w1 au;have C1:=au.aN;have R1:=hr.below au.below hr.lt;have E1:=he.below au.below he.lt;have z1:=au.size;push_cast -dsimp;refine aF (xt:=81) (n:=1) (by kernel_rfl) C1 rfl (by decide) (by simp;cases ev<;>first|rfl|(simp[kA]at hev)) ?_
 intro w2 bT;have C2:aO w2 w.heap.size 81 [ev]:=bT.aN;have NR:=hr.lt;have AF:=he.lt;have R2:=R1.kept bT.kept (by omega);have E2:=E1.kept bT.kept (by omega);push_cast -dsimp;refine aX (λw'=>aO w' w.heap.size 81 [ev]) mixed (by kernel_rfl) C2.drew ?_;have d2:w2.drew.cell? ⟨w.heap.size,0,none⟩=some ev:=C2.drew.cell rfl;push_cast -dsimp[d2];refine⟨λar h=>by rw[aO.cell h (o:=0) rfl];exact rfl,?_⟩;refine aF (xt:=25) (n:=3) (by kernel_rfl) R2.drew rfl (by rw[hf];exact Nat.le_refl _) (by simp;exact⟨rfl,rfl⟩) ?_;intro w3 bO;have R3:aO w3 rb 25 [.slice none 0 0,.slice none 0 0,.bool false]:=by
  have:=bO.aN;rw[List.take_zero,List.nil_append,Nat.zero_add,List.drop_of_length_le (by rw[hf];exact Nat.le_refl _),List.append_nil]at this;exact this
 have C3:aO w3 w.heap.size 81 [ev]:=C2.drew.kept bO.kept (by omega);have E3:=E2.drew.kept bO.kept (by omega);refine⟨C3,?_⟩;push_cast -dsimp;refine aC E3 (by simp) hev ?_;intro w4 aj;have E4:aO w4 eb 32 [ev]:=aj.aN;have R4:=R3.kept aj.kept (by omega);have C4:aO w4 w.heap.size 81 [ev]:=C3.kept aj.kept (by omega);have k4:Kept (λi=>i=rb\/i=eb) w w4:=(((Kept.new (X:=λi=>i=rb\/i=eb) au).trans bT.kept (λi h1 h2=>by omega)).drew.trans bO.kept (λi _ h=>.inl h)).trans aj.kept (λi _ h=>.inr h);refine⟨C4,?_⟩;push_cast -dsimp;exact⟨rfl,_,rfl,.tuple #[],aAn (by rfl) _ _,rfl,rfl,R4,E4,k4⟩
theorem aCg (rb eb:Nat)(w:World) :
  CallsD Tryz.prog 30 #[.pointer (some ⟨rb,0,none⟩),.pointer (some ⟨eb,0,none⟩)] .returning w λe u' w'=>e=.returned (.tuple #[])/\u'=.returning/\w'=w:=by
 refine callsD_of_wpS Tryz.func30 rfl λc₀ cs hu=>?_;apply wpS_seq;apply wpS_region;simp[wpOpsS,go_sem,recoverD,hu,Tryz.ntmps30,Exit.thenS];refine Bb (t:=[.pointer (some ⟨rb,0,none⟩),.pointer (some ⟨eb,0,none⟩),.nilIface,undef,undef,.nilIface,undef,undef,undef,undef,undef,undef,undef,undef,undef,undef,undef,undef,undef]) ?_;push_cast -dsimp;refine⟨rfl,.returning,?_,.tuple #[],aAn (by rfl) _ _,rfl,rfl,rfl⟩;rw[<-hu]
def K9 (w:World)(s:List UInt8)(r:Value)(w':World):Prop :=
 (∃f v,dM s=.ok f/\r=.tuple #[v,.nilIface]/\gn (·<w.heap.size) w' v f) \/
 (∃e pos b,dM s=.error (e,pos)/\r=.tuple #[.agg #[.slice none 0 0,.slice none 0 0,.bool false],.iface 96 (.pointer (some ⟨b,0,none⟩))]/\w.heap.size<=b/\aO w' b 97 [.int .i64 e,.int .i64 pos])
def WI (w:World)(s:List UInt8)(e:Ending)(w':World):Prop:=∃v,e=.returned v/\K9 w s v w'/\Below w.heap.size w w'
theorem VL {s:List UInt8}{l:List Cae.Tok}(hs:s.length<=1000000)(h:yp s=.ok l):TL l:=by
 obtain⟨m,hm,e,hn⟩:=jv _ _ _ _ _ (by simp) h;rw[List.nil_append]at e;subst e;refine⟨⟨m,_,rfl,rfl⟩,λt ht=>?_,by rw[List.length_append,List.length_singleton];simp at hn;omega,λt ht hk=>?_⟩
 ·rcases List.mem_append.1 ht with ht|ht
  ·have:=(hm.inside t ht).length_le;omega
  rw[List.mem_singleton.1 ht];simp
 rcases List.mem_append.1 ht with ht|ht
 ·exact aDq hm t ht hk
 rw[List.mem_singleton.1 ht]at hk;cases hk
theorem G2 {w W:World}{s:List UInt8}{fv:List Value}{t:Fr}(h2:t.getD 2 undef=.pointer (some ⟨w.heap.size,0,none⟩))(h3:t.getD 3 undef=.pointer (some ⟨w.heap.size+1,0,none⟩)){x:Value}
  (B1:aO W w.heap.size 25 fv) (B2:aO W (w.heap.size+1) 32 [x]) (hl:fv.length=3) (hR:K9 w s (.tuple #[.agg fv.toArray,x]) W) (hb:Below w.heap.size w W) :
  bodyPostD Tryz.prog Tryz.f6 (WI w s) .ret ⟨t.toArray,[{ target:=.fn (.func 30) #[.pointer (some ⟨w.heap.size,0,none⟩),.pointer (some ⟨w.heap.size+1,0,none⟩)],args:=#[] }]⟩ W:=by
 show Leaves _ _ _ _ _ _ _
 refine leaves_cons (f:=30) (args:=#[.pointer (some ⟨w.heap.size,0,none⟩),.pointer (some ⟨w.heap.size+1,0,none⟩)]) (by simp) ?_ ?_
 ·simp only[invoke,Array.empty_append];exact cR Tryz.func30 (by kernel_rfl) (by kernel_rfl)
 refine(aCg w.heap.size (w.heap.size+1) W).mono ?_;rintro e u' w' ⟨rfl,rfl,rfl⟩;obtain⟨vs,hv,hk⟩:=dL (P:=Tryz.prog) (w:=w') Tryz.f6 [.cell 2 25,.cell 3 32] (by rfl) t (λvs=>vs=[.agg fv.toArray,x]) (by
  have d1:aB w' ⟨w.heap.size,0,none⟩ 0 3=some fv:=by rw[<-hl];exact B1.aB
  have d2:w'.cell? ⟨w.heap.size+1,0,none⟩=some x:=B2.cell rfl;push_cast -dsimp[h2,h3,d1,d2])
 refine⟨_,hv,_,rfl,?_,hb⟩;rw[hk];exact hR
theorem uy {w W:World}{s:List UInt8}{e pos:Nat}{fv:List Value}{ce:List PanicEntry}{t:Fr}(h2:t.getD 2 undef=.pointer (some ⟨w.heap.size,0,none⟩))(h3:t.getD 3 undef=.pointer (some ⟨w.heap.size+1,0,none⟩)){x:Value}
  (B1:aO W w.heap.size 25 fv) (B2:aO W (w.heap.size+1) 32 [x]) (hl:fv.length=3) (hT:Thr (w.heap.size+2) W ce e pos) (hp:dM s=.error (e,pos)) (hb:Below w.heap.size w W) :
  bodyPostD Tryz.prog Tryz.f6 (WI w s) (.panic ce) ⟨t.toArray,[{ target:=.fn (.func 30) #[.pointer (some ⟨w.heap.size,0,none⟩),.pointer (some ⟨w.heap.size+1,0,none⟩)],args:=#[] }]⟩ W:=by
 obtain⟨b,Ku,rfl,hB⟩:=hT
 show Leaves _ _ _ _ _ _ _
 refine leaves_cons (f:=30) (args:=#[.pointer (some ⟨w.heap.size,0,none⟩),.pointer (some ⟨w.heap.size+1,0,none⟩)]) (by simp) ?_ ?_
 ·simp only[invoke,Array.empty_append];exact cR Tryz.func30 (by kernel_rfl) (by kernel_rfl)
 refine(Wb w.heap.size (w.heap.size+1) _ fv x hl W B1 B2 (by omega) rfl).mono ?_;rintro e' u' w' ⟨rfl,rfl,R1,R2,hk⟩;have Cq:=hB.kept hk (by omega);have pW:=hb.trans (hk.below (B:=w.heap.size) hb.size (λi h=>by omega));obtain⟨vs,hv,hk⟩:=dL (P:=Tryz.prog) (w:=w') Tryz.f6 [.cell 2 25,.cell 3 32] (by rfl) t (λvs=>vs=[.agg #[.slice none 0 0,.slice none 0 0,.bool false],.iface 96 (.pointer (some ⟨b,0,none⟩))]) (by
  have d1:aB w' ⟨w.heap.size,0,none⟩ 0 3=some [.slice none 0 0,.slice none 0 0,.bool false]:=R1.aB;have d2:w'.cell? ⟨w.heap.size+1,0,none⟩=some (.iface 96 (.pointer (some ⟨b,0,none⟩))):=R2.cell rfl;push_cast -dsimp[h2,h3,d1,d2])
 show Leaves _ _ _ _ [] (settle _) _
 refine⟨_,hv,_,rfl,?_,pW⟩;rw[hk];exact .inr ⟨e,pos,b,hp,rfl,by omega,Cq⟩
theorem Sl.off {X:Nat->Prop}{w:World}{v:Value}{l:List Cae.Tok}{rb:Nat}{e:TypeId}{cs:List Value}(h:Sl X 3 (En fF) w v l)(hB:aO w rb e cs)(je:∀(o:Nat) (u:Value),cs[o]?=some u->∀n,u≠.int .i64 n):Sl (λb=>X b\/b=rb) 3 (En fF) w v l:=by
 unfold Sl at h ⊢
 obtain⟨a,c,rfl,hc,h⟩:=h;refine⟨a,c,rfl,hc,λi x hx=>?_⟩;obtain⟨b,o,ks,ha,hb,hk,aP,hr⟩:=h i x hx;refine⟨b,o,ks,ha,λhh=>?_,hk,aP,hr⟩;rcases hh with hh|rfl
 ·exact hb hh
 have zK:ks=fF x:=hr;have h0:=aP 0 (.int .i64 x.kind) (by rw[zK];rfl);have h1:cs[o+i*3+0]?=some (.int .i64 x.kind):=by
  have Cq:w.heap[b]?=_:=hB;simp only[World.cell?,Cq]at h0;simpa using h0
 exact je _ _ h1 _ rfl
theorem PS.off {pb B rb:Nat}{w w':World}{l:List Cae.Tok}{e:TypeId}{cs:List Value}(h:PS pb B w l)(hB:aO w rb e cs)(je:∀(o:Nat) (u:Value),cs[o]?=some u->∀n,u≠.int .i64 n)(dA:rb≠pb)(hg:14<=rb)(hk:Kept (·=rb) w w'):PS pb B w' l:=by
 obtain⟨v,h1,h2⟩:=h.st;exact⟨⟨v,h1.kept hk (λhh=>dA hh.symm),((Sl.off h2 hB je).kept hk (λi hi=>.inr hi)).weaken (λi hi=>.inl hi)⟩,h.lt,Nat.le_trans h.le hk.size,h.tl,h.db.kept hk (λi hi hh=>by omega),h.er.kept hk (λi hi hh=>by omega),h.gl⟩
theorem HG (s:List UInt8)(hs:s.length<=1000000)(w:World)(hd:Db w)(he:lZ w)(hg:14<=w.heap.size):bD Tryz.prog 6 [str s] w λr w'=>K9 w s r w'/\Below w.heap.size w w':=by
 unfold bD;refine⟨cR Tryz.func6 (by kernel_rfl) (by kernel_rfl),?_⟩;refine calls_of_wp_defers Tryz.func6 rfl ?_;have e:(([str s]:List Value).toArray++Array.replicate (Tryz.f6.ntmps-([str s]:List Value).toArray.size) undef)=(sq [str s] Tryz.f6.ntmps).toArray:=by simp[sq]
 rw[e];simp -dsimp (maxSteps:=4000000) only[push_cast,sq,Tryz.ntmps6,List.length_cons,List.length_nil,Nat.reduceAdd,Nat.reduceSub,Nat.reduceBEq,List.replicate_succ,List.replicate_zero];have hR:∃R:Ending->World->Prop,R=WI w s:=⟨_,rfl⟩
 show Code.wp _ _ (bodyPostD Tryz.prog Tryz.f6 (WI w s)) _ _
 refine Yd (by rfl) ?_;push_cast -dsimp;refine aR (z:=[.slice none 0 0,.slice none 0 0,.bool false]) (by kernel_rfl) ?_;intro w1 au;have R1:=au.aN;have z1:=au.size;have b1:=au.below;push_cast -dsimp;refine aR (z:=[.nilIface]) (by kernel_rfl) ?_;intro w2 bT;have E2:=bT.aN;have R2:=R1.below bT.below (by omega);have z2:=bT.size;have b2:=b1.trans (bT.below.mono (by omega));rw[z1]at E2;push_cast -dsimp[z1];refine wp_seq (R0 (cap:=[.tmp 2,.tmp 3]) (by simp) ?_);simp -dsimp only[push_cast];refine Yd (by rfl) ?_;push_cast -dsimp;refine aA (VO s hs w2) ?_;rintro r w3 ⟨hT,b3⟩;have R3:=R2.below b3 (by omega);have E3:=E2.below b3 (by omega);have z3:=b3.size;have ft:=b2.trans (b3.mono (by omega));rcases hT with ⟨l,v,uQ,rfl,hO⟩|⟨en,pos,b,uQ,rfl,Ku,hB⟩
 ·obtain⟨va,vc,rfl⟩:=hO.slice;push_cast -dsimp;refine aC E3 (by simp) rfl ?_;intro w4 aj;have E4:aO w4 (w.heap.size+1) 32 [.nilIface]:=aj.aN;have R4:=R3.kept aj.kept (by omega);have z4:=aj.size;have uk:=hO.ak aj.kept (λg hg h=>by have:=(hO.block g hg).1;omega);have fo:=ft.trans (aj.kept.below (B:=w.heap.size) (by omega) (λi h=>by omega));have d4:w4.cell? ⟨w.heap.size+1,0,none⟩=some .nilIface:=E4.cell rfl;push_cast -dsimp;refine wp_seq (Yd (by rfl) ?_);push_cast -dsimp[d4];refine aAR (by rfl) (wp_skip ?_)
  show Code.wp _ _ _ _ _
  refine aCY (by rfl) ?_;push_cast -dsimp;refine ah ?_;intro w5 bW;have z5:=bW.size;have AL:∃pb,pb=w4.heap.size:=⟨_,rfl⟩;obtain⟨pb,AL⟩:=AL;have PB:=bW.aN;have E5:=E4.below bW.below E4.lt;have R5:=R4.below bW.below R4.lt;have kU:=fo.trans (bW.below.mono fo.size);rw[<-AL]at PB;have GO:=VL hs uQ;have P5:PS pb (pb+1) w5 l:=⟨⟨_,PB,((Sl.top (by decide) uk.sl).below bW.below).weaken (λi h=>by omega)⟩,by omega,by omega,GO,hd.below kU hd.lt,he.below kU,by omega⟩;push_cast -dsimp[<-AL];refine aK (aA7 P5) ?_ ?_
  ·rintro _ w6 ⟨f,l',ef,⟨cv,rv,cs,rs,rfl,S1,S2,A1,A2⟩,P6,k6⟩;have E6:=E5.kept k6 (by omega);have R6:=R5.kept k6 (by omega);have z6:=k6.size;have jc:=kU.trans (k6.below (B:=w.heap.size) kU.size (λi h=>by omega));push_cast -dsimp[<-AL];refine aF (xt:=25) (n:=3) (by kernel_rfl) R6 rfl (by decide) ?_ ?_
   ·obtain⟨_,_,rfl,_⟩:=S1.shape;obtain⟨_,_,rfl,_⟩:=S2.shape;simp;exact⟨rfl,rfl,rfl⟩
   intro w7 dN;have R7:aO w7 w.heap.size 25 [cv,rv,.bool f.els]:=dN.aN;have E7:=E6.kept dN.kept (by omega);have k7:Kept (λi=>i=w.heap.size) w6 w7:=dN.kept;have P7:PS pb (pb+1) w7 l':=P6.off R6 (λo u hu n hn=>by
    subst hn;match o with
    | 0=>simp at hu
    | 1=>simp at hu
    | 2=>simp at hu
    | o+3=>simp at hu) (by omega) (by omega) k7
   have z7:=dN.size;have Mz:=jc.trans (dN.kept.below (B:=w.heap.size) jc.size (λi h=>by omega));obtain⟨t1,r1,gy⟩:=P7.tl.cons;have P7':=P7;rw[gy]at P7';obtain⟨b1,o1,c1,Cv,hc,dA,c0,Z4,c2,c3⟩:=P7'.hd;have cb:w7.cell? ⟨pb,0,none⟩=some (.slice (some ⟨b1,o1,none⟩) (r1.length+1) c1):=Cv.cell rfl;have Kw:isKind 5 l'=decide (t1.kind=5):=by
    rw[gy]
    show (t1.kind == 5)=_
    by_cases h:t1.kind=5<;>simp[h]
   push_cast -dsimp[<-AL,cb,c0];refine⟨by omega,λh5=>?_,λh5=>?_⟩
   ·have hk5:isKind 5 l'=false:=by rw[Kw];exact decide_eq_false (λh=>h5 (by omega))
    refine aK (j2 3 P7) (λ_ _ h=>h.elim) ?_;rintro ce w8 ⟨ht,hb⟩;have hpe:dM s=.error (3,(Cae.hd l').pos):=by
     unfold dM;rw[uQ];dsimp only;rw[ef];dsimp only;rw[hk5];rfl
    push_cast -dsimp[<-AL];refine uy (t:=_) (by rfl) (by rfl) (R7.below hb R7.lt) (E7.below hb E7.lt) rfl (ht.mono (by omega)) hpe (Mz.trans (hb.mono Mz.size))
   have hk5:isKind 5 l'=true:=by rw[Kw];exact decide_eq_true (by omega)
   have aK6:dM s=.ok f:=by
    unfold dM;rw[uQ];dsimp only;rw[ef];dsimp only;rw[hk5];rfl
   have d7:aB w7 ⟨w.heap.size,0,none⟩ 0 3=some [cv,rv,.bool f.els]:=R7.aB;push_cast -dsimp[<-AL,d7];refine aF (xt:=25) (n:=3) (by kernel_rfl) R7 rfl (Nat.le_refl _) ?_ ?_
   ·obtain⟨_,_,rfl,_⟩:=S1.shape;obtain⟨_,_,rfl,_⟩:=S2.shape;simp;exact⟨rfl,rfl,rfl⟩
   intro w8 n9;have R8:aO w8 w.heap.size 25 [cv,rv,.bool f.els]:=n9.aN;have E8:=E7.kept n9.kept (by omega);have z8:=n9.size;push_cast -dsimp[<-AL];refine aC E8 (by simp) rfl ?_;intro w9 mC;have E9:aO w9 (w.heap.size+1) 32 [.nilIface]:=mC.aN;have R9:=R8.kept mC.kept (by omega);have k69:Kept (λi=>i<w5.heap.size) w6 w9:=((k7.weaken (Y:=λi=>i<w5.heap.size) (λi _ h=>by omega)).trans n9.kept (λi _ h=>by omega)).trans mC.kept (λi _ h=>by omega);have AD:=Mz.trans (((n9.kept.weaken (Y:=λi=>w.heap.size<=i) (λi _ h=>by omega)).trans mC.kept (λi _ h=>by omega)).below (B:=w.heap.size) Mz.size (λi h=>h));push_cast -dsimp[<-AL];refine G2 (t:=_) (by rfl) (by rfl) R9 E9 rfl (.inl ⟨f,_,aK6,rfl,cv,rv,cs,rs,rfl,(S1.kept k69 (λi h=>h)).weaken (λi h=>by omega),(S2.kept k69 (λi h=>h)).weaken (λi h=>by omega),A1.imp λa c h=>h.mono k69 (λi h=>h) (λi h=>by omega),A2.imp λa c h=>h.mono k69 (λi h=>h) (λi h=>by omega)⟩) AD
  rintro ce w6 ⟨en,pos,Zn,ht,hk⟩;have E6:=E5.kept hk (by omega);have R6:=R5.kept hk (by omega);have jc:=kU.trans (hk.below (B:=w.heap.size) kU.size (λi h=>by omega));have hpe:dM s=.error (en,pos):=by
   unfold dM;rw[uQ];dsimp only;rw[Zn]
  push_cast -dsimp[<-AL];exact uy (t:=_) (by rfl) (by rfl) R6 E6 rfl (ht.mono (by omega)) hpe jc
 push_cast -dsimp;refine aC E3 (by simp) rfl ?_;intro w4 aj;have E4:aO w4 (w.heap.size+1) 32 [.iface 96 (.pointer (some ⟨b,0,none⟩))]:=aj.aN;have R4:=R3.kept aj.kept (by omega);have z4:=aj.size;have qW:=hB.kept aj.kept (by omega);have fo:=ft.trans (aj.kept.below (B:=w.heap.size) (by omega) (λi h=>by omega));have d4:w4.cell? ⟨w.heap.size+1,0,none⟩=some (.iface 96 (.pointer (some ⟨b,0,none⟩))):=E4.cell rfl;push_cast -dsimp;refine wp_seq (Yd (by rfl) ?_);push_cast -dsimp[d4];refine aAS (by rfl) (wp_seq ?_);refine Vk (λw'=>w'.cell? ⟨w.heap.size+1,0,none⟩=some (.iface 96 (.pointer (some ⟨b,0,none⟩)))) mixed (by kernel_rfl) d4 ?_;have d4d:w4.drew.cell? ⟨w.heap.size+1,0,none⟩=some (.iface 96 (.pointer (some ⟨b,0,none⟩))):=d4;push_cast -dsimp[d4d];refine⟨λar h=>by rw[h];exact rfl,?_⟩;refine aF (xt:=25) (n:=3) (by kernel_rfl) R4.drew rfl (by decide) (by simp;exact⟨rfl,rfl⟩) ?_;intro w5 bW;have R5:aO w5 w.heap.size 25 [.slice none 0 0,.slice none 0 0,.bool false]:=bW.aN;have E5:=E4.drew.kept bW.kept (by omega);have Cr:=qW.drew.kept bW.kept (by omega);refine⟨E5.cell rfl,?_⟩;push_cast -dsimp;refine aC E5 (by simp) rfl ?_;intro w6 cB;have E6:aO w6 (w.heap.size+1) 32 [.iface 96 (.pointer (some ⟨b,0,none⟩))]:=cB.aN;have R6:=R5.kept cB.kept (by omega);have Cs:=Cr.kept cB.kept (by omega);have jc:=fo.trans (((Kept.refl (λi=>w.heap.size<=i) w4).drew.trans bW.kept (λi _ h=>by omega)).trans cB.kept (λi _ h=>by omega) |>.below (B:=w.heap.size) fo.size (λi h=>h))
 have hpe:dM s=.error (en,pos):=by
  unfold dM;rw[uQ]
 refine⟨E6.cell rfl,?_⟩;push_cast -dsimp;refine wp_ret ?_;exact G2 (t:=_) (by rfl) (by rfl) R6 E6 rfl (.inr ⟨en,pos,b,hpe,rfl,by omega,Cs⟩) jc
end Go.Proofs.YtodeeahdhnjpkaaGreatDoor
end
section
namespace Cae
def TB (l:List Cae.Tok):Prop:=∀t∈l,t.text.length<=1000000
def Iv {α:Type}(I:α->Prop)(p:Pa α):Prop:=∀l x l',TB l->p l=.ok (x,l')->I x/\TB l'
section
variable {α β:Type} {I:α->Prop} {J:β->Prop} {p:Pa α} {q:α->Pa β}
theorem Iv.pr {x:α}(h:I x):Iv I (pr x):=λl y l' hl e=>by cases e;exact⟨h,hl⟩
theorem Iv.fail {e:Nat}:Iv I (ck e):=λl y l' _ h=>by cases h
theorem Iv.pb (h:Iv I p)(k:∀x,I x->Iv J (q x)):Iv J (pb p q):=λl y l' hl e=>by
 obtain⟨x,l1,e1,e2⟩:=eo e;obtain⟨h1,h2⟩:=h l x l1 hl e1;exact k x h1 l1 y l' h2 e2
theorem Iv.bE {cc:List Cae.Tok->Bool}{p1 p2:Pa α}(h1:Iv I p1)(h2:Iv I p2):Iv I (bE cc p1 p2):=λl x l' hl e=>by
 unfold Cae.bE at e;split at e
 ·exact h1 l x l' hl e
 exact h2 l x l' hl e
theorem Iv.ite {c:Prop}[Decidable c]{p1 p2:Pa α}(h1:c->Iv I p1)(h2:¬c->Iv I p2):Iv I (if c then p1 else p2):=by
 by_cases h:c
 ·rw[if_pos h];exact h1 h
 rw[if_neg h];exact h2 h
end
def Tv {α:Type}(_:α):Prop:=True
theorem Iv.eA:Iv (λt=>t.text.length<=1000000) eA:=λl x l' hl e=>by
 cases e;refine⟨?_,hl⟩;cases l with
 | nil=>simp[hd]
 | cons t r=>exact hl t (List.mem_cons_self ..)
theorem Iv.pop:Iv Tv bV:=λl x l' hl e=>by
 obtain⟨t,rfl,_⟩:=D1 e;exact⟨trivial,λy hy=>hl y (List.mem_cons_of_mem _ hy)⟩
theorem ix (s:List UInt8):Iv Tv (a7 s):=Iv.bE Iv.pop Iv.fail
theorem LC:Iv Tv fP:=Iv.bE (Iv.bE Iv.fail (Iv.pb Iv.eA λt _=>Iv.pb Iv.pop λ_ _=>Iv.pr trivial)) Iv.fail
theorem aCj:Iv (λc=>c=0\/c=3\/c=4\/c=5) oB :=
 Iv.bE (Iv.pb Iv.pop λ_ _=>Iv.pr (by simp)) (Iv.bE (Iv.pb Iv.pop λ_ _=>Iv.pr (by simp)) (Iv.bE (Iv.pb Iv.pop λ_ _=>Iv.pr (by simp)) (Iv.pr (by simp))))
theorem uw {one:Pa ax}(h:Iv fY one)(pos:Nat):∀(n:Nat) (k:ax),fY k->Iv fY (cj one pos n k)
 | 0,k,_=>Iv.fail
 | n+1,k,hk=>Iv.pb aCj λc hc=>Iv.ite (λ_=>Iv.pr hk) λhc0=>Iv.pb h λr hr=>uw h pos n _ ⟨hk,hr,by rcases hc with hc|hc;exact absurd hc hc0;exact hc⟩
theorem GW {one:Pa ax}(h:Iv fY one):Iv fY (lG one):=Iv.pb Iv.eA λt _=>Iv.pb h λk hk=>uw h _ _ _ hk
theorem aCk:Iv fY yC:=Iv.pb Iv.eA λt ht=>by
 cases hs:Dc t.text with
 | none=>exact Iv.fail
 | some s =>
  refine Iv.pb Iv.pop λ_ _=>Iv.pr ?_;have h1:=Dd hs;refine⟨h1.1,?_⟩;have h2:fR s=t.text:=h1.2;have h3:=(pk (s.map mW) [32] (by decide)).2;have h4:(fR s).length=(Go.Lib.join (s.map mW) [32]).length+2:=by simp[fR]
  rw[h2]at h4;rw[List.length_map]at h3;omega
theorem DI:∀d,Iv fY (dI d)
 | 0=>Iv.fail
 | d+1=>Iv.bE aCk (Iv.bE (Iv.pb Iv.eA λt _=>Iv.pb Iv.pop λ_ _=>Iv.pb (DI d) λk hk=>Iv.pr hk)
   (Iv.bE (Iv.pb Iv.pop λ_ _=>Iv.pb (GW (DI d)) λk hk=>Iv.pb (ix _) λ_ _=>Iv.pr hk)
    (Iv.pb Iv.eA λt _=>Iv.pb LC λn _=>Iv.pr trivial)))
theorem GX:Iv (λn=>n<=12) eF:=Iv.bE (Iv.pb Iv.eA λt _=>Iv.ite (λ_=>Iv.fail) λh=>Iv.pb Iv.pop λ_ _=>Iv.pr (by omega)) Iv.fail
def RgOk (q:Int×Int):Prop:=0<=q.1/\q.1<100/\q.2<100/\(q.2<0\/q.1<=q.2)
theorem N3:Iv RgOk bR:=Iv.pb GX λlo ri=>Iv.bE (Iv.pb Iv.pop λ_ _=>Iv.bE
  (Iv.pb GX λhi Si=>Iv.ite (λ_=>Iv.fail) λhh=>Iv.pb (ix _) λ_ _=>Iv.pr ⟨by show 0<=(lo:Int);omega,by show (lo:Int)<100;omega,by show (hi:Int)<100;omega,.inr (by show (lo:Int)<=hi;omega)⟩)
  (Iv.pb (ix _) λ_ _=>Iv.pr ⟨by show 0<=(lo:Int);omega,by show (lo:Int)<100;omega,by show (-1:Int)<100;omega,.inl (by show (-1:Int)<0;omega)⟩))
 (Iv.pb (ix _) λ_ _=>Iv.pr ⟨by show 0<=(lo:Int);omega,by show (lo:Int)<100;omega,by show (lo:Int)<100;omega,.inr (Int.le_refl _)⟩)
theorem N4:Iv (λo=>∀q,o=some q->RgOk q) cF:=by
 have h:∀r:Int×Int,RgOk r->Iv (λo=>∀q,o=some q->RgOk q) (pb bV λ_=>pr (some r)):=λr hr=>Iv.pb Iv.pop λ_ _=>Iv.pr (by intro q e;cases e;exact hr);refine Iv.bE (h _ (by unfold RgOk;decide)) (Iv.bE (h _ (by unfold RgOk;decide)) (Iv.bE (h _ (by unfold RgOk;decide)) (Iv.bE ?_ (Iv.pr (by intro q e;cases e)))));exact Iv.pb Iv.pop λ_ _=>Iv.pb N3 λr hr=>Iv.pr (by intro q e;cases e;exact hr)
theorem tF (d:Nat):∀(n c:Nat) (x:aI),bQ x->Iv bQ (aw d n c x)
 | 0,_,_,_=>Iv.fail
 | n+1,c,x,hx=>Iv.pb N4 λr hr=>by
   cases r with
   | none=>exact Iv.pr hx
   | some q =>
    have hq:=hr q rfl;refine Iv.ite (λ_=>Iv.fail) λ_=>tF d n (c+1) _ ?_;simp only[bQ];exact⟨hx,hq.1,hq.2.1,hq.2.2⟩
theorem N2 {d:Nat}{unit:Pa aI}(h:Iv bQ unit):Iv bQ (aQ d unit):=Iv.pb h λx hx=>tF d _ _ _ hx
theorem mh:∀{l:List aI} {x:aI},gI l->bQ x->gI (l++[x])
 | [],x,_,h=>by simp only[List.nil_append,gI];exact⟨h,trivial⟩
 | y::l,x,hl,h=>by
  simp only[gI,List.cons_append]at hl ⊢
  exact⟨hl.1,mh hl.2 h⟩
theorem yX:gI []:=by simp only[gI]
theorem xy {again:Pa aI}(h:Iv bQ again):∀(n:Nat) (a:List aI),gI a->Iv gI (bG again n a)
 | 0,_,_=>Iv.fail
 | n+1,a,ha=>Iv.bE (Iv.pb h λx hx=>xy h n _ (mh ha hx)) (Iv.pr ha)
theorem Uo {l:List aI}(h:gI l):bQ (rowOf l):=by
 match l with
 | []=>simp only[rowOf,bQ];exact h
 | [x]=>simp only[gI]at h;exact h.1
 | x::y::l=>simp only[rowOf,bQ];exact h
theorem QM {l:List aI}(h:gI l):bQ (jW l):=by
 match l with
 | []=>simp only[jW,bQ];exact h
 | [x]=>simp only[gI]at h;exact h.1
 | x::y::l=>simp only[jW,bQ];exact h
theorem Xh {again:Pa aI}(h:Iv bQ again):Iv bQ (gV again):=Iv.pb (xy h _ _ yX) λps oM=>Iv.pr (Uo oM)
theorem xx {row:Pa aI}(h:Iv bQ row):∀(n:Nat) (a:List aI),gI a->Iv gI (eH row n a)
 | 0,_,_=>Iv.fail
 | n+1,a,ha=>Iv.bE (Iv.pb Iv.pop λ_ _=>Iv.pb h λx hx=>xx h n _ (mh ha hx)) (Iv.pr ha)
theorem Xe {row:Pa aI}(h:Iv bQ row):Iv bQ (IQ row):=Iv.pb h λx hx=>Iv.pb (xx h _ _ (mh yX hx)) λps oM=>Iv.pr (QM oM)
theorem LD {d:Nat}{unit:Pa aI}(h:Iv bQ unit):Iv bQ (AX d unit):=Iv.ite (λ_=>Iv.fail) λ_=>Xe (Xh (N2 h))
theorem LG:∀d,Iv bQ (aY d)
 | 0=>Iv.fail
 | d+1=>Iv.bE (Iv.pb Iv.pop λ_ _=>Iv.pr (by simp only[bQ])) (Iv.bE (Iv.pb Iv.pop λ_ _=>Iv.pr (by simp only[bQ]))
   (Iv.bE (Iv.pb Iv.pop λ_ _=>Iv.pb (LD (LG d)) λx hx=>Iv.pb (ix _) λ_ _=>Iv.pr hx)
    (Iv.bE (Iv.pb (DI (d+1)) λk hk=>Iv.pr (by simp only[bQ];exact hk)) Iv.fail)))
theorem TW (d:Nat):Iv bQ (j8 d):=LD (LG d)
theorem LF:Iv Tv ep:=Iv.bE (Iv.pb Iv.pop λ_ _=>Iv.pr trivial) (Iv.pb (ix _) λ_ _=>Iv.pr trivial)
theorem Xi:Iv (λr=>bQ r.before/\bQ r.after) iq:=Iv.pb Iv.eA λt _=>Iv.pb LF λb _=>Iv.pb (TW 9) λx hx=>Iv.pb (ix _) λ_ _=>Iv.pb (TW 9) λy hy=>Iv.pb (ix _) λ_ _=>Iv.pr ⟨hx,hy⟩
theorem TV:Iv (λc=>fY c.kind) iX:=Iv.pb Iv.eA λt _=>Iv.pb (ix _) λ_ _=>Iv.pb LC λn _=>Iv.pb (ix _) λ_ _=>Iv.pb (GW (DI 9)) λk hk=>Iv.pb (ix _) λ_ _=>Iv.pr hk
theorem ux:∀(n:Nat) (acc:List cW),acc.length<=20/\(∀r∈acc,bQ r.before/\bQ r.after)->Iv (λl=>l.length<=20/\∀r∈l,bQ r.before/\bQ r.after) (bA n acc)
 | 0,_,_=>Iv.fail
 | n+1,acc,ha=>Iv.bE (Iv.ite (λ_=>Iv.fail) λh=>Iv.pb Xi λr hr=>ux n _ ⟨by have:=ha.1;rw[List.length_append,List.length_singleton];omega,λx hx=>by
   rcases List.mem_append.1 hx with hx|hx
   ·exact ha.2 x hx
   rw[List.mem_singleton.1 hx];exact hr⟩) (Iv.pr ha)
theorem tG:∀(n:Nat) (acc:List eD),acc.length<=20/\(∀c∈acc,fY c.kind)->Iv (λl=>l.length<=20/\∀c∈l,fY c.kind) (az n acc)
 | 0,_,_=>Iv.fail
 | n+1,acc,ha=>Iv.bE (Iv.ite (λ_=>Iv.fail) λh=>Iv.pb TV λr hr=>tG n _ ⟨by have:=ha.1;rw[List.length_append,List.length_singleton];omega,λx hx=>by
   rcases List.mem_append.1 hx with hx|hx
   ·exact ha.2 x hx
   rw[List.mem_singleton.1 hx];exact hr⟩) (Iv.pr ha)
theorem Xg:Iv (λf=>rV f/\f.bJ.length<=20/\f.rules.length<=20) j3:=Iv.pb (tG _ _ ⟨by simp,by simp⟩) λcs je=>Iv.pb (ux _ _ ⟨by simp,by simp⟩) λrs fO =>
 Iv.pb (I:=Tv) (λl x l' hl e=>⟨trivial,(show Iv Tv ia from Iv.bE (Iv.pb Iv.pop λ_ _=>Iv.pb LF λ_ _=>Iv.pb (ix _) λ_ _=>Iv.pr trivial) (Iv.pr trivial)) l x l' hl e |>.2⟩) λb _=>Iv.pr ⟨⟨je.2,fO.2⟩,je.1,fO.1⟩
end Cae
namespace Go.Proofs.YtodeeahdhnjpkaaGreatDoor
open Go.Vc Go.Proofs Go.RowKit Cae
attribute [local irreducible] cw ag aq a8 runK bD Sl Vc.Own vc aW cN ai
theorem UR {s:List UInt8}{f:dQ}(hs:s.length<=1000000)(h:dM s=.ok f):rV f/\f.bJ.length<=20/\f.rules.length<=20:=by
 unfold dM at h;split at h
 ·cases h
 rename_i l hl;have GO:=VL hs hl;split at h
 ·cases h
 rename_i f' l' hf;split at h
 ·cases h;exact(Xg _ _ _ GO.txt hf).1
 cases h
end Go.Proofs.YtodeeahdhnjpkaaGreatDoor
end
section
namespace Cae
abbrev bP:=List (List UInt8×List Rg)
def rG (n:List UInt8):bP->Option (List Rg)
 | []=>none
 | x::l=>if x.1=n then some x.2 else rG n l
def ay (nm:bP):ax->Except Nat (List Rg)
 | .lit _ s=>.ok s
 | .ref pos n=>match rG n nm with
  | some s=>.ok s
  | none=>.error pos
 | .not _ k=>match ay nm k with
  | .ok s=>.ok (fm s)
  | .error e=>.error e
 | .bin c _ k r=>match ay nm k with
  | .error e=>.error e
  | .ok s=>match ay nm r with
   | .error e=>.error e
   | .ok t=>.ok (if c=3 then pA s t else if c=4 then nF s t else lU s t)
def fA:bP->List eD->Except (Nat×Nat) bP
 | nm,[]=>.ok nm
 | nm,c::l=>if (rG c.name nm).isSome then .error (5,c.pos) else match ay nm c.kind with
  | .error e=>.error (6,e)
  | .ok s=>fA (nm++[(c.name,s)]) l
mutual
def im (nm:bP):aI->Option Nat
 | .one k=>match ay nm k with
  | .error e=>some e
  | .ok _=>none
 | .any=>none
 | .iA=>none
 | .cat l=>fq nm l
 | .alt l=>fq nm l
 | .many x _ _=>im nm x
def fq (nm:bP):List aI->Option Nat
 | []=>none
 | x::l=>match im nm x with
  | some e=>some e
  | none=>fq nm l
end
def vH (nm:bP)(r:cW):Option Nat:=match im nm r.before with
 | some e=>some e
 | none=>im nm r.after
def eZ (nm:bP):List cW->Option Nat
 | []=>none
 | r::l=>match vH nm r with
  | some e=>some e
  | none=>eZ nm l
def fZ (nm:bP):Prop:=∀x∈nm,aH (-2) x.2=true
theorem FW {nm:bP}(h:fZ nm){n:List UInt8}{s:List Rg}(hf:rG n nm=some s):aH (-2) s=true:=by
 induction nm with
 | nil=>cases hf
 | cons x l ih =>
  rw[rG]at hf;split at hf
  ·cases hf;exact h x (List.mem_cons_self ..)
  exact ih (λy hy=>h y (List.mem_cons_of_mem _ hy)) hf
theorem cA {nm:bP}(h:fZ nm):∀{k:ax} {s:List Rg},fY k->ay nm k=.ok s->aH (-2) s=true
 | .lit _ s0,s,hk,e=>by cases e;exact hk.1
 | .ref pos n,s,hk,e=>by
  rw[ay]at e;split at e
  ·rename_i t ht;cases e;exact FW h ht
  cases e
 | .not _ k,s,hk,e=>by
  rw[ay]at e;split at e
  ·rename_i t ht;cases e;exact gN (cA (k:=k) h hk ht)
  cases e
 | .bin c _ k r,s,hk,e=>by
  rw[ay]at e;split at e
  ·cases e
  split at e
  ·cases e
  cases e;split
  ·exact kQ _ _
  split
  ·exact oW _ _
  exact rU _ _
mutual
def K7 (Q:ax->Prop):aI->Prop
 | .one k=>Q k
 | .any=>True
 | .iA=>True
 | .cat l=>wT Q l
 | .alt l=>wT Q l
 | .many x _ _=>K7 Q x
def wT (Q:ax->Prop):List aI->Prop
 | []=>True
 | x::l=>K7 Q x/\wT Q l
end
mutual
def ZY (S:ax->List Rg):aI->aI
 | .one k=>.one (.lit 0 (S k))
 | .any=>.any
 | .iA=>.iA
 | .cat l=>.cat (Q6 S l)
 | .alt l=>.alt (Q6 S l)
 | .many x lo hi=>.many (ZY S x) lo hi
def Q6 (S:ax->List Rg):List aI->List aI
 | []=>[]
 | x::l=>ZY S x::Q6 S l
end
section
variable {has aPI:ax->Int->Prop} {pts:List Int} {back:Bool} {S:ax->List Rg}
end
end Cae
end
