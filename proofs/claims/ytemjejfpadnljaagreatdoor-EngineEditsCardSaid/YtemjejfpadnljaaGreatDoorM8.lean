/- Texts of this claim, merged: Rp9, Rpa, Vd, Rpb, Rpc, Prl4, Pmean4. -/
import Derived.Test.YtemjejfpadnljaaGreatDoorM7
import Derived.Recover
set_option maxRecDepth 100000
set_option linter.unusedSimpArgs false
set_option linter.unusedVariables false
set_option maxHeartbeats 8000000
namespace Go.Proofs.YtemjejfpadnljaaGreatDoor
open Go.Vc Go.Proofs Go.RowKit Cae
attribute [local irreducible] cZ ab ai aX runK ar Sl Vc.Own vc aS bu aZ
mutual
theorem aPD:∀d,Nd d
 | 0=>Ee
 | d+1=>Ed d (sP d)
theorem sP:∀d,aD8 d
 | 0=>YL 0 (Ye 0 (Hh 0 Ee))
 | d+1=>YL (d+1) (Ye (d+1) (Hh (d+1) (Ed d (sP d))))
end
def AD (a:List UInt8×Nat×Nat):List Value:=[str a.1,.int .i64 a.2.1,bx a.2.2]
def ja (a:Nat×Bool×Nat×Nat):List Value:=[.int .i64 a.1,.bool a.2.1,bx a.2.2.1,bx a.2.2.2]
theorem Vu (a:List UInt8×Nat×Nat):∀u∈AD a,u.oneCell'=true:=by
 intro u hu;simp[AD,bx]at hu;rcases hu with rfl|rfl|rfl<;>rfl
theorem rL (a:Nat×Bool×Nat×Nat):∀u∈ja a,u.oneCell'=true:=by
 intro u hu;simp[ja,bx]at hu;rcases hu with rfl|rfl|rfl|rfl<;>rfl
def tg (X:Nat->Prop)(w:World)(a:List UInt8×Nat×Nat)(c:fD):Prop:=a.1=c.name/\a.2.1=c.pos/\eZ X w (bx a.2.2) c.kind
def ml (X:Nat->Prop)(w:World)(a:Nat×Bool×Nat×Nat)(r:dJ):Prop:=a.1=r.pos/\a.2.1=r.brk/\bE X w (bx a.2.2.1) r.before/\bE X w (bx a.2.2.2) r.after
theorem _root_.Cae.dX.imp {α β:Type}{R S:α->β->Prop}{l:List α}{m:List β}(h:dX R l m)(k:∀a b,R a b->S a b):dX S l m:=by
 induction h with
 | nil=>exact .nil
 | cons h1 _ ih=>exact .cons (k _ _ h1) ih
theorem tg.mono {X X' Y:Nat->Prop}{w w':World}(hk:Kept Y w w')(hY:∀i,Y i->X i)(hX:∀i,X' i->X i){a:List UInt8×Nat×Nat}{c:fD}(h:tg X w a c):tg X' w' a c:=⟨h.1,h.2.1,h.2.2.mono hk hY hX⟩
theorem tg.top {X:Nat->Prop}{w:World}{a:List UInt8×Nat×Nat}{c:fD}(h:tg X w a c):tg (λb=>X b\/w.heap.size<=b) w a c:=⟨h.1,h.2.1,h.2.2.top⟩
theorem ml.mono {X X' Y:Nat->Prop}{w w':World}(hk:Kept Y w w')(hY:∀i,Y i->X i)(hX:∀i,X' i->X i){a:Nat×Bool×Nat×Nat}{c:dJ}(h:ml X w a c):ml X' w' a c:=⟨h.1,h.2.1,h.2.2.1.mono hk hY hX,h.2.2.2.mono hk hY hX⟩
theorem ml.top {X:Nat->Prop}{w:World}{a:Nat×Bool×Nat×Nat}{c:dJ}(h:ml X w a c):ml (λb=>X b\/w.heap.size<=b) w a c:=⟨h.1,h.2.1,h.2.2.1.top,h.2.2.2.top⟩
def kr (X:Nat->Prop)(w:World)(v:Value)(f:de):Prop:=∃cv rv cs rs,v=.agg #[cv,rv,.bool f.dG]/\Sl X 3 (En AD) w cv cs/\Sl X 4 (En ja) w rv rs/\dX (tg X w) cs f.cO/\dX (ml X w) rs f.rules
theorem bw {α β:Type}{p:Pa α}{q:α->Pa β}{l:List Tok}{e:Nat×Nat}(h:p l=.error e):Cae.pb p q l=.error e:=by
 unfold Cae.pb;rw[h]
theorem Ht {m:Nat}{acc:List fD}{l1 l0:List Tok}(eE:bU m acc l1=bU 1000 [] l0)(hm:l1.length<m)(cJ:dT [99,108,97,115,115] l1=true)(kQ:acc.length≠20) :
  bU 1000 [] l0=Cae.pb nW (λc=>bU (m-1) (acc++[c])) l1:=by
 obtain⟨m',rfl⟩:∃m',m=m'+1:=⟨m-1,by omega⟩;rw[<-eE,bU];unfold ay;rw[cJ,if_pos rfl,if_neg kQ];rfl
theorem uA {m:Nat}{acc:List fD}{l1 l0:List Tok}{e:Nat×Nat}(eE:bU m acc l1=bU 1000 [] l0)(hm:l1.length<m)(cJ:dT [99,108,97,115,115] l1=true)(kQ:acc.length≠20)(h:nW l1=.error e):jC l0=.error e:=by
 unfold jC;exact bw (by rw[Ht eE hm cJ kQ];exact bw h)
theorem VE {m:Nat}{acc:List fD}{l1 l0:List Tok}(eE:bU m acc l1=bU 1000 [] l0)(hm:l1.length<m)(cJ:dT [99,108,97,115,115] l1=true)(kQ:acc.length=20):jC l0=.error (4,(Cae.hd l1).pos):=by
 obtain⟨m',rfl⟩:∃m',m=m'+1:=⟨m-1,by omega⟩;unfold jC;refine bw ?_;rw[<-eE,bU];unfold ay;rw[cJ,if_pos rfl,if_pos kQ];rfl
theorem aAf {m:Nat}{acc:List fD}{l1 l0:List Tok}(eE:bU m acc l1=bU 1000 [] l0)(hm:l1.length<m)(cJ:dT [99,108,97,115,115] l1=false):bU 1000 [] l0=.ok (acc,l1):=by
 obtain⟨m',rfl⟩:∃m',m=m'+1:=⟨m-1,by omega⟩;rw[<-eE,bU];unfold ay;rw[cJ];rfl
theorem qz {m:Nat}{acc:List dJ}{l1 l0:List Tok}(eE:bT m acc l1=bT 1000 [] l0)(hm:l1.length<m)(cJ:iA l1=true)(kQ:acc.length≠20) :
  bT 1000 [] l0=Cae.pb lL (λc=>bT (m-1) (acc++[c])) l1:=by
 obtain⟨m',rfl⟩:∃m',m=m'+1:=⟨m-1,by omega⟩;rw[<-eE,bT];unfold ay;rw[cJ,if_pos rfl,if_neg kQ];rfl
theorem ew {m:Nat}{acc:List dJ}{cs:List fD}{l1 l0 l:List Tok}{e:Nat×Nat}(iS:bU 1000 [] l=.ok (cs,l0))(eE:bT m acc l1=bT 1000 [] l0)(hm:l1.length<m)(cJ:iA l1=true)(kQ:acc.length≠20)(h:lL l1=.error e):jC l=.error e:=by
 unfold jC;rw[aI iS];exact bw (by rw[qz eE hm cJ kQ];exact bw h)
theorem KH {m:Nat}{acc:List dJ}{cs:List fD}{l1 l0 l:List Tok}(iS:bU 1000 [] l=.ok (cs,l0))(eE:bT m acc l1=bT 1000 [] l0)(hm:l1.length<m)(cJ:iA l1=true)(kQ:acc.length=20):jC l=.error (4,(Cae.hd l1).pos):=by
 obtain⟨m',rfl⟩:∃m',m=m'+1:=⟨m-1,by omega⟩;unfold jC;rw[aI iS];refine bw ?_;rw[<-eE,bT];unfold ay;rw[cJ,if_pos rfl,if_pos kQ];rfl
theorem aCr {m:Nat}{acc:List dJ}{l1 l0:List Tok}(eE:bT m acc l1=bT 1000 [] l0)(hm:l1.length<m)(cJ:iA l1=false):bT 1000 [] l0=.ok (acc,l1):=by
 obtain⟨m',rfl⟩:∃m',m=m'+1:=⟨m-1,by omega⟩;rw[<-eE,bT];unfold ay;rw[cJ];rfl
theorem Yo:Sh nW:=Sh.pbr G7 λ_=>Sh.pb (gR.sh (gx _)) λ_=>Le.pb (gR.sh Ga).le λ_=>Le.pb (gR.sh (gx _)).le λ_=>Le.pb (Lo.le (Aj (pI 9))) λ_=>Le.pb (gR.sh (gx _)).le λ_=>Le.pr
theorem yv:Sh lL:=gR.sh aBK
theorem aED {pb B:Nat}{w:World}{l0:List Tok}(h0:PS pb B w l0):Pc 43 [.pointer (some ⟨pb,0,none⟩)] pb B w l0 jC (λw' r f=>kr (·<w.heap.size) w' r f):=by
 have hle:=h0.le;have ao:=h0.lt;refine bI Tryz.func43 rfl (by kernel_rfl) [.cell 2 26] rfl ?_;push_cast -dsimp(maxSteps:=9^7) [Tryz.ntmps43];refine aq (z:=[.slice none 0 0,.slice none 0 0,.bool false]) (by kernel_rfl) ?_;intro w1 aU;have R1:=aU.aL;have P1:=h0.below aU.below;have z1:=aU.size;push_cast -dsimp;refine aq (z:=[.slice none 0 0,.slice none 0 0,.bool false]) (by kernel_rfl) ?_;intro w2 bJ;have F2:=bJ.aL;have R2:=R1.below bJ.below (by omega);have P2:=P1.below bJ.below;have z2:=bJ.size;rw[z1]at F2;push_cast -dsimp[z1];refine aH (xt:=26) (n:=3) (by kernel_rfl) F2 rfl (by decide) (by simp;exact⟨rfl,rfl⟩) ?_;intro w3 cN;have F3:aM w3 (w.heap.size+1) 26 [.slice none 0 0,.slice none 0 0,.bool true]:=cN.aL;have R3:=R2.kept cN.kept (by omega);have P3:=P2.kept cN.kept (λi h=>by omega);have z3:=cN.size;have k3:Kept (·=pb) w w3:=((Kept.new (X:=(·=pb)) aU).trans (Kept.new (X:=(·=pb)) bJ) (λi _ h=>h)).trans cN.kept (λi h1 h2=>by omega);push_cast -dsimp;refine aK [4,7,8,9,10,11,12,13,14,15,16,17,18,19,20,21,22,23,24,25,26,27,28,29,30,31,32,33,34,35,36,37,38,39,40] (λz w'=>∃(m:Nat) (acc:List fD) (l1:List Tok) (cv:Value) (cs:List (List UInt8×Nat×Nat)),bU m acc l1=bU 1000 [] l0/\l1.length<m/\acc.length<=20 /\
   aM w' w.heap.size 26 [.slice none 0 0,.slice none 0 0,.bool false]/\aM w' (w.heap.size+1) 26 [cv,.slice none 0 0,.bool true]/\Go.Vc.Own (w.heap.size+2) 137 3 AD w' cv cs /\
   dX (tg (λb=>b<w.heap.size+2\/cv.ownBlock=some b) w') cs acc/\PS pb B w' l1/\Kept (·=pb) w w') (λz w'=>xa w' pb) ?_ ?_
 ·have ao:l0.length<1000:=by have:=h0.tl.len;omega
  exact⟨1000,[],l0,_,[],rfl,ao,by simp,R3,F3,Vc.Own.nil (enc:=AD) _ _ (λ_=>rfl) _,.nil,P3,k3⟩
 rintro z w' ⟨m,acc,l1,cv,cs,eE,hm,Ii,hR,hF,hO,hV,hP,hk⟩;have iQ:=hV.len;have hzw:=hk.size;have WX:=hP.len;have CO:=hF.lt;obtain⟨ca,cc,Tl⟩:=hO.slice;push_cast -dsimp;refine aA (BV [99,108,97,115,115] hP) ?_;rintro _ wx ⟨rfl,hwx⟩;obtain rfl:w'=wx:=hwx.symm;cases cJ:dT [99,108,97,115,115] l1 with
 | true =>
  have d0:w'.cell? ⟨w.heap.size+1,0,none⟩=some (.slice ca cs.length cc):=by rw[<-Tl];exact hF.cell rfl
  push_cast -dsimp[d0];refine⟨λkQ=>?_,λkQ=>?_⟩
  ·refine aF (jS 4 hP) (λ_ _ h=>h.elim) ?_;rintro ce we ⟨ht,hb⟩;push_cast -dsimp;exact⟨4,_,VE eE hm cJ (by omega),ht.mono (by omega),hk.trans (Kept.aN hb (X:=(·=pb)) (λi h1 h2=>by omega)) (λi _ h=>h)⟩
  have kQ:acc.length≠20:=by omega
  obtain⟨t1,r1,mg⟩:=hP.tl.cons;have Wm:Cae.hd l1=t1:=by rw[mg];rfl
  have hP':=hP;rw[mg]at hP';obtain⟨b,o,c,hBp,hc,cY,c0,c1,c2,c3⟩:=hP'.hd;have cb:w'.cell? ⟨pb,0,none⟩=some (.slice (some ⟨b,o,none⟩) (r1.length+1) c):=hBp.cell rfl;have iR:nW l1=Cae.pb (cg [99,108,97,115,115]) (λ_=>Cae.pb mW λn=>Cae.pb (cg [61]) λ_=>Cae.pb (qi 9) λk=>Cae.pb (cg [59]) λ_=>pr ⟨n,t1.pos,k⟩) l1:=by
   unfold nW;rw[aI (p:=dY) (x:=Cae.hd l1) (l1:=l1) rfl,Wm]
  push_cast -dsimp[cb,c2];refine⟨by omega,?_⟩;refine aq (z:=[str [],.int .i64 0,.pointer none]) (by kernel_rfl) ?_;intro w4 ah;have C4:=ah.aL;have P4:=hP.below ah.below;have z4:=ah.size;have k4:=hk.trans (Kept.new (X:=(·=pb)) ah) (λi _ h=>h);push_cast -dsimp;refine aH (xt:=137) (n:=3) (by kernel_rfl) C4 rfl (by decide) (by simp;exact⟨rfl,rfl,rfl⟩) ?_;intro w5 cI;have C5:aM w5 w'.heap.size 137 [str [],.int .i64 t1.pos,.pointer none]:=cI.aL;have P5:=P4.kept cI.kept (λi h=>by omega);have k5:=k4.trans cI.kept (λi h1 h2=>by omega);have z5:=cI.size;push_cast -dsimp;refine aF (fY [99,108,97,115,115] P5) ?_ ?_;rotate_left;·
   rintro ce we ⟨e,pos,he,ht,eR⟩
   push_cast -dsimp
   refine⟨e,pos,uA eE hm cJ kQ ?_,ht.mono (by have:=k5.size;omega),k5.trans eR (λi _ h=>h)⟩
   rw[iR]
   exact bw he
  rintro _ w6 ⟨_,l2,e2,rfl,P6,sN⟩;have C6:=C5.kept sN (by omega);have k6:=k5.trans sN (λi _ h=>h);have z6:=sN.size;push_cast -dsimp;refine aF (Xm P6) ?_ ?_;rotate_left;·
   rintro ce we ⟨e,pos,he,ht,eR⟩
   push_cast -dsimp
   refine⟨e,pos,uA eE hm cJ kQ ?_,ht.mono (by have:=k6.size;omega),k6.trans eR (λi _ h=>h)⟩
   rw[iR]
   rw[aI e2];exact bw he
  rintro _ w7 ⟨nm,l3,e3,rfl,P7,kt7⟩;have C7:=C6.kept kt7 (by omega);have k7:=k6.trans kt7 (λi _ h=>h);have z7:=kt7.size;push_cast -dsimp;refine aC C7 (by simp) rfl ?_;intro w8 np;have C8:aM w8 w'.heap.size 137 [str nm,.int .i64 t1.pos,.pointer none]:=np.aL;have P8:=P7.kept np.kept (λi h=>by omega);have k8:=k7.trans np.kept (λi h1 h2=>by omega);have z8:=np.size;push_cast -dsimp;refine aF (fY [61] P8) ?_ ?_;rotate_left;·
   rintro ce we ⟨e,pos,he,ht,eR⟩
   push_cast -dsimp
   refine⟨e,pos,uA eE hm cJ kQ ?_,ht.mono (by have:=k8.size;omega),k8.trans eR (λi _ h=>h)⟩
   rw[iR]
   rw[aI e2,aI e3];exact bw he
  rintro _ w9 ⟨_,l4,e4,rfl,P9,kt9⟩;have C9:=C8.kept kt9 (by omega);have k9:=k8.trans kt9 (λi _ h=>h);have z9:=kt9.size;push_cast -dsimp;refine aF (aGb 9 0 (by omega) (by omega) pb B w9 l4 P9) ?_ ?_;rotate_left;·
   rintro ce we ⟨e,pos,he,ht,eR⟩
   push_cast -dsimp
   refine⟨e,pos,uA eE hm cJ kQ ?_,ht.mono (by have:=k9.size;omega),k9.trans eR (λi _ h=>h)⟩
   rw[iR]
   rw[aI e2,aI e3,aI e4];exact bw he
  rintro u wa ⟨kd,l5,e5,Va,Pa,uh⟩;obtain⟨ub,rfl,Hb⟩:=Va.ptr;have Ca:=C9.kept uh (by omega);have ka:=k9.trans uh (λi _ h=>h);have za:=uh.size;push_cast -dsimp;refine aC Ca (by simp) rfl ?_;intro wb dH;have Cb:aM wb w'.heap.size 137 [str nm,.int .i64 t1.pos,bx ub]:=dH.aL;have Pb:=Pa.kept dH.kept (λi h=>by omega);have kb:=ka.trans dH.kept (λi h1 h2=>by omega);have zb:=dH.size;push_cast -dsimp;refine aF (fY [59] Pb) ?_ ?_;rotate_left;·
   rintro ce we ⟨e,pos,he,ht,eR⟩
   push_cast -dsimp
   refine⟨e,pos,uA eE hm cJ kQ ?_,ht.mono (by have:=kb.size;omega),kb.trans eR (λi _ h=>h)⟩
   rw[iR]
   rw[aI e2,aI e3,aI e4,aI e5];exact bw he
  rintro _ wc ⟨_,l6,e6,rfl,Zd,ui⟩;have Cc:=Cb.kept ui (by omega);have kc:=kb.trans ui (λi _ h=>h);have zc:=ui.size;have bO:nW l1=.ok (⟨nm,t1.pos,kd⟩,l6):=by rw[iR,aI e2,aI e3,aI e4,aI e5,aI e6];rfl
  have hl6:=Yo _ _ _ bO;have kw:Kept (λi=>i=pb) w' wc:=by
   refine((((((((Kept.new (X:=(·=pb)) ah).trans cI.kept (λi h1 h2=>by omega)).trans sN (λi _ h=>h)).trans kt7 (λi _ h=>h)).trans np.kept (λi h1 h2=>by omega)).trans kt9 (λi _ h=>h)).trans uh (λi _ h=>h)).trans dH.kept (λi h1 h2=>by omega)).trans ui (λi _ h=>h)
  have CM:=hR.kept kw (by omega);have hFc:=hF.kept kw (by omega);have yN:=hO.aJ kw (λg hg h=>by have:=(hO.block g hg).1;omega);have fU:∀g,cv.ownBlock=some g->w.heap.size+2<=g/\g<w'.heap.size:=λg hg=>hO.block g hg;have hVc:dX (tg (λb=>(b<w.heap.size+2\/cv.ownBlock=some b)\/w'.heap.size<=b) wc) cs acc:=hV.imp λa c h=>h.top.mono kw (λi h=>by omega) (λi h=>h);have hVk:eZ (λb=>b<w9.heap.size\/wa.heap.size<=b) wc (bx ub) kd:=(Va.top.mono dH.kept (X':=λb=>b<w9.heap.size\/wa.heap.size<=b) (λi h=>by omega) (λi h=>h)).mono ui (λi h=>by omega) (λi h=>h);have dc:wc.cell? ⟨w.heap.size+1,0,none⟩=some (.slice ca cs.length cc):=by rw[<-Tl];exact hFc.cell rfl
  have dl:aB wc ⟨w'.heap.size,0,none⟩ 0 3=some [str nm,.int .i64 t1.pos,bx ub]:=Cc.aB;push_cast -dsimp[dc,dl];refine cH Vi rfl rfl (by omega) ?_;intro wd iU;have hRd:=CM.below iU.below CM.lt;have hFd:=hFc.below iU.below hFc.lt;have hOd:=yN.new iU;rw[Tl]at hOd;have Pd:=Zd.below iU.below;have zd:=iU.size;push_cast -dsimp;refine aW (base:=w.heap.size+2) [(nm,t1.pos,ub)] (enc:=AD) Vi hOd (by rfl) (λj y hy=>by simpa[AD,bx] using iU.cell hy) Vu (by rw[iQ];simp only[List.length_cons,List.length_nil];omega) (by omega) ?_;intro cv2 we Qr eY kT;rw[<-Tl]at eY kT;have kg:Kept (λj=>cv.ownBlock=some j) wd we:=Kept.grown eY (λ_ h=>h);have Ny:=hRd.kept kg (λh=>by have:=fU _ h;omega);have hFe:=hFd.kept kg (λh=>by have:=fU _ h;omega);have Pe:=Pd.kept kg (λi h=>by have:=fU _ h;omega);have ze:=kg.size;obtain⟨a5,c5,rfl⟩:=Qr.slice;push_cast -dsimp;refine aC hFe (by simp) rfl ?_;intro wf iH;have Ic:aM wf (w.heap.size+1) 26 [.slice a5 (cs++[(nm,t1.pos,ub)]).length c5,.slice none 0 0,.bool true]:=iH.aL;have hRf:=Ny.kept iH.kept (by omega);have hOf:=Qr.aJ iH.kept (λg hg h=>by have:=(Qr.block g hg).1;omega);have Pf:=Pe.kept iH.kept (λi h=>by omega);have kY:Kept (λi=>i=w.heap.size+1\/cv.ownBlock=some i) wc wf:=((Kept.new (X:=λi=>i=w.heap.size+1\/cv.ownBlock=some i) iU).trans kg (λi _ h=>.inr h)).trans iH.kept (λi _ h=>.inl h);have kf:=kc.trans kY (X:=(·=pb)) (λi h1 h2=>by
   rcases h2 with h2|h2
   ·omega
   have:=fU _ h2;omega)
  have zkw:=kw.size;have hVf:dX (tg (λb=>b<w.heap.size+2\/(Value.slice a5 (cs++[(nm,t1.pos,ub)]).length c5).ownBlock=some b) wf) (cs++[(nm,t1.pos,ub)]) (acc++[⟨nm,t1.pos,kd⟩]):=by
   refine(hVc.imp λa c h=>h.mono kY (λi h=>?_) (λi h=>?_)).snoc ⟨rfl,rfl,hVk.mono kY (λi h=>?_) (λi h=>?_)⟩
   ·rcases h with h|h
    ·exact .inl (.inl (by omega))
    exact .inl (.inr h)
   ·rcases h with h|h
    ·exact .inl (.inl h)
    rcases kT i h with h|h
    ·exact .inl (.inr h)
    exact .inr (by omega)
   ·rcases h with h|h
    ·exact .inl (by omega)
    have:=fU _ h;exact .inl (by omega)
   rcases h with h|h
   ·exact .inl (by omega)
   rcases kT i h with h|h
   ·have:=fU _ h;exact .inl (by omega)
   exact .inr (by omega)
  have jD:bU (m-1) (acc++[⟨nm,t1.pos,kd⟩]) l6=bU 1000 [] l0:=by rw[Ht eE hm cJ kQ,aI bO]
  have hPf:=Pf.len;push_cast -dsimp;exact⟨⟨m-1,acc++[⟨nm,t1.pos,kd⟩],l6,_,_,jD,by omega,by rw[List.length_append,List.length_singleton];omega,hRf,Ic,hOf,hVf,Pf,kf⟩,by rw[hPf,WX];exact hl6⟩
 | false =>
  have iR:=aAf eE hm cJ;have aFn:=Tl;have Kt:∃V0,V0=w':=⟨_,rfl⟩;obtain⟨V0,Kt⟩:=Kt;have ON:∃lc,lc=l1:=⟨_,rfl⟩;obtain⟨lc,ON⟩:=ON;rw[Tl]at hF;rw[<-Kt]at hR hF hO hV hP hk hzw WX ⊢
  rw[<-ON]at iR hP WX;clear eE hm cJ;have hF0:=hF;have hP0:=hP;have hk0:=hk;push_cast -dsimp;refine aK [5,41,42,43,44,45,46,47,48,49,50,51,52,53,54,55,56,57,58,59,60,61,62,63,64,65,66,67,68,69,70,71,72,73,74,75,76,77,78,79,80,81,82,83,84] (λz w'=>∃(m:Nat) (acc:List dJ) (l1:List Tok) (rv:Value) (rs:List (Nat×Bool×Nat×Nat)),bT m acc l1=bT 1000 [] lc/\l1.length<m/\acc.length<=20 /\
    aM w' (w.heap.size+1) 26 [.slice ca cs.length cc,rv,.bool true]/\Go.Vc.Own V0.heap.size 84 4 ja w' rv rs /\
    dX (ml (λb=>b<V0.heap.size\/rv.ownBlock=some b) w') rs acc/\PS pb B w' l1/\Kept (·=pb) w w'/\Kept (λi=>i=pb\/i=w.heap.size+1) V0 w') (λz w'=>xa w' pb) ?_ ?_
  ·have ao:lc.length<1000:=by have:=hP0.tl.len;omega
   exact⟨1000,[],lc,_,[],rfl,ao,by simp,hF0,Vc.Own.nil (enc:=ja) _ _ (λ_=>rfl) _,.nil,hP0,hk0,Kept.refl _ _⟩
  clear hF hP hk WX;have hVc:=hV;have yN:=hO;have aTM:=iQ;have aR7:=acc;rintro z w' ⟨m,kM,l1,rv,rs,eE,hm,aQM,hF,hO,hV,hP,hk,AS⟩;have iQ:=hV.len;have hzw:=hk.size;have WX:=hP.len;have aJN:=hF.lt;have hf0:=hF0.lt;have aUa:=AS.size;obtain⟨ra,rc,Dm⟩:=hO.slice;obtain⟨t1,r1,mg⟩:=hP.tl.cons;have Wm:Cae.hd l1=t1:=by rw[mg];rfl
  have hP':=hP;rw[mg]at hP';obtain⟨b,o,c,hBp,hc,cY,c0,c1,c2,c3⟩:=hP'.hd;have mq:lL l1=Cae.pb gW (λb=>Cae.pb (qu 9) λx=>Cae.pb (cg [58]) λ_=>Cae.pb (qu 9) λy=>Cae.pb (cg [59]) λ_=>pr ⟨t1.pos,b,x,y⟩) l1:=by
   unfold lL;rw[aI (p:=dY) (x:=Cae.hd l1) (l1:=l1) rfl,Wm]
  have jV:iA l1=(dT [98,114,101,97,107] l1 || dT [107,101,101,112] l1):=rfl;push_cast -dsimp;refine aA (BV [98,114,101,97,107] hP) ?_;rintro _ wx ⟨rfl,hwx⟩;obtain rfl:w'=wx:=hwx.symm;cases fx:dT [98,114,101,97,107] l1 with
  | true =>
   have cJ:iA l1=true:=by rw[jV,fx];rfl
   have d1:w'.cell? ⟨w.heap.size+1,1,none⟩=some (.slice ra rs.length rc):=by rw[<-Dm];exact hF.cell rfl
   push_cast -dsimp[d1];refine⟨λkQ=>?_,λkQ=>?_⟩
   ·refine aF (jS 4 hP) (λ_ _ h=>h.elim) ?_;rintro ce we ⟨ht,hb⟩;push_cast -dsimp;exact⟨4,_,KH iR eE hm cJ (by omega),ht.mono (by omega),hk.trans (Kept.aN hb (X:=(·=pb)) (λi h1 h2=>by omega)) (λi _ h=>h)⟩
   have kQ:kM.length≠20:=by omega
   have cb:w'.cell? ⟨pb,0,none⟩=some (.slice (some ⟨b,o,none⟩) (r1.length+1) c):=hBp.cell rfl;push_cast -dsimp[cb,c2];refine⟨by omega,?_⟩;refine aq (z:=[.int .i64 0,.bool false,.pointer none,.pointer none]) (by kernel_rfl) ?_;intro w4 ah;have C4:=ah.aL;have P4:=hP.below ah.below;have z4:=ah.size;have k4:=hk.trans (Kept.new (X:=(·=pb)) ah) (λi _ h=>h);push_cast -dsimp;refine aH (xt:=84) (n:=4) (by kernel_rfl) C4 rfl (by decide) (by simp;exact⟨rfl,rfl,rfl⟩) ?_;intro w5 cI;have C5:aM w5 w'.heap.size 84 [.int .i64 t1.pos,.bool false,.pointer none,.pointer none]:=cI.aL;have P5:=P4.kept cI.kept (λi h=>by omega);have k5:=k4.trans cI.kept (λi h1 h2=>by omega);have z5:=cI.size;have kw5:Kept (λi=>i=pb) w' w5:=(Kept.new (X:=(·=pb)) ah).trans cI.kept (λi h1 h2=>by omega);push_cast -dsimp;refine aA (gF [98,114,101,97,107] P5) ?_;rintro _ wt hT;rcases hT with ⟨uW,rfl,t6,l3,el6,h56,Pt,sN,OW⟩|⟨uW,rfl,q9⟩
   ·have kV:cL l1=.ok ((),l3):=by rw[el6];exact dW h56
    have p8:gW l1=.ok (true,l3):=by
     unfold gW ay;rw[uW,if_pos rfl,aI kV];rfl
    have Ct:=C5.kept sN (by omega);push_cast -dsimp;refine aC Ct (by simp) rfl ?_;intro w6 bQ;have C6:aM w6 w'.heap.size 84 [.int .i64 t1.pos,.bool true,.pointer none,.pointer none]:=bQ.aL;have P6:=Pt.kept bQ.kept (λi h=>by omega);have k6:=(k5.trans sN (λi _ h=>h)).trans bQ.kept (λi h1 h2=>by omega);have kw6:=(kw5.trans sN (λi _ h=>h)).trans bQ.kept (λi h1 h2=>by omega);have z6:w5.heap.size<=w6.heap.size:=by have:=bQ.kept.size;have:=sN.size;omega
    have d7:w6.cell? ⟨w'.heap.size,1,none⟩=some (.bool true):=C6.cell rfl;push_cast -dsimp[d7];refine aF (sP 9 0 (by omega) (by omega) pb B w6 l3 P6) ?_ ?_;rotate_left;·
     rintro ce we ⟨e,pos,he,ht,eR⟩
     push_cast -dsimp
     refine⟨e,pos,ew iR eE hm cJ kQ ?_,ht.mono (by have:=k6.size;omega),k6.trans eR (λi _ h=>h)⟩
     rw[mq]
     rw[aI p8];exact bw he
    rintro u wa ⟨x1,l5,e5,Va,Pa,uh⟩;obtain⟨ub,rfl,Hb,_⟩:=Va.ptr;have Ca:=C6.kept uh (by omega);have ka:=k6.trans uh (λi _ h=>h);have za:=uh.size;push_cast -dsimp;refine aC Ca (by simp) rfl ?_;intro wb dH;have Cb:aM wb w'.heap.size 84 [.int .i64 t1.pos,.bool true,bx ub,.pointer none]:=dH.aL;have Pb:=Pa.kept dH.kept (λi h=>by omega);have kb:=ka.trans dH.kept (λi h1 h2=>by omega);have zb:=dH.size;push_cast -dsimp;refine aF (fY [58] Pb) ?_ ?_;rotate_left;·
     rintro ce we ⟨e,pos,he,ht,eR⟩
     push_cast -dsimp
     refine⟨e,pos,ew iR eE hm cJ kQ ?_,ht.mono (by have:=kb.size;omega),kb.trans eR (λi _ h=>h)⟩
     rw[mq]
     rw[aI p8,aI e5];exact bw he
    rintro _ wc ⟨_,l6,e6,rfl,Zd,ui⟩;have Cc:=Cb.kept ui (by omega);have kc:=kb.trans ui (λi _ h=>h);have zc:=ui.size;push_cast -dsimp;refine aF (sP 9 0 (by omega) (by omega) pb B wc l6 Zd) ?_ ?_;rotate_left;·
     rintro ce we ⟨e,pos,he,ht,eR⟩
     push_cast -dsimp
     refine⟨e,pos,ew iR eE hm cJ kQ ?_,ht.mono (by have:=kc.size;omega),kc.trans eR (λi _ h=>h)⟩
     rw[mq]
     rw[aI p8,aI e5,aI e6];exact bw he
    rintro u wd ⟨x2,l7,e7,Vd,Pd,Af⟩;obtain⟨vb,rfl,MU,_⟩:=Vd.ptr;have Cd:=Cc.kept Af (by omega);have kd:=kc.trans Af (λi _ h=>h);have zd:=Af.size;push_cast -dsimp;refine aC Cd (by simp) rfl ?_;intro we lG;have Ce:aM we w'.heap.size 84 [.int .i64 t1.pos,.bool true,bx ub,bx vb]:=lG.aL;have Pe:=Pd.kept lG.kept (λi h=>by omega);have ke:=kd.trans lG.kept (λi h1 h2=>by omega);have ze:=lG.size;push_cast -dsimp;refine aF (fY [59] Pe) ?_ ?_;rotate_left;·
     rintro ce we ⟨e,pos,he,ht,eR⟩
     push_cast -dsimp
     refine⟨e,pos,ew iR eE hm cJ kQ ?_,ht.mono (by have:=ke.size;omega),ke.trans eR (λi _ h=>h)⟩
     rw[mq]
     rw[aI p8,aI e5,aI e6,aI e7];exact bw he
    rintro _ wf ⟨_,l8,e8,rfl,Pf,wQ⟩;have Cf:=Ce.kept wQ (by omega);have kf:=ke.trans wQ (λi _ h=>h);have zf:=wQ.size;have bO:lL l1=.ok (⟨t1.pos,true,x1,x2⟩,l8):=by rw[mq,aI p8,aI e5,aI e6,aI e7,aI e8];rfl
    have hl8:=yv _ _ _ bO;have kw:Kept (λi=>i=pb) w' wf:=((((((kw6.trans uh (λi _ h=>h)).trans dH.kept (λi h1 h2=>by omega)).trans ui (λi _ h=>h)).trans Af (λi _ h=>h)).trans lG.kept (λi h1 h2=>by omega)).trans wQ (λi _ h=>h));have Ic:=hF.kept kw (by omega);have hOf:=hO.aJ kw (λg hg h=>by have:=(hO.block g hg).1;omega);have fU:∀g,rv.ownBlock=some g->V0.heap.size<=g/\g<w'.heap.size:=λg hg=>hO.block g hg;have hVf:dX (ml (λb=>(b<V0.heap.size\/rv.ownBlock=some b)\/w'.heap.size<=b) wf) rs kM:=hV.imp λa c h=>h.top.mono kw (λi h=>by omega) (λi h=>h);have MB:bE (λb=>b<w6.heap.size\/wa.heap.size<=b) wf (bx ub) x1:=(((Va.top.mono dH.kept (X':=λb=>b<w6.heap.size\/wa.heap.size<=b) (λi h=>by omega) (λi h=>h)).mono ui (X':=λb=>b<w6.heap.size\/wa.heap.size<=b) (λi h=>by omega) (λi h=>h)).mono Af (X':=λb=>b<w6.heap.size\/wa.heap.size<=b) (λi h=>by omega) (λi h=>h)).mono lG.kept (X':=λb=>b<w6.heap.size\/wa.heap.size<=b) (λi h=>by omega) (λi h=>h) |>.mono wQ (λi h=>by omega) (λi h=>h);have MC:bE (λb=>b<wc.heap.size\/wd.heap.size<=b) wf (bx vb) x2:=(Vd.top.mono lG.kept (X':=λb=>b<wc.heap.size\/wd.heap.size<=b) (λi h=>by omega) (λi h=>h)).mono wQ (λi h=>by omega) (λi h=>h);have df:wf.cell? ⟨w.heap.size+1,1,none⟩=some (.slice ra rs.length rc):=by rw[<-Dm];exact Ic.cell rfl
    have dl:aB wf ⟨w'.heap.size,0,none⟩ 0 4=some [.int .i64 t1.pos,.bool true,bx ub,bx vb]:=Cf.aB;push_cast -dsimp[df,dl];refine cH qL rfl rfl (by omega) ?_;intro wg lH;have hFg:=Ic.below lH.below Ic.lt;have WW:=hOf.new lH;rw[Dm]at WW;have Pg:=Pf.below lH.below;have zg:=lH.size;push_cast -dsimp;refine aW (base:=V0.heap.size) [(t1.pos,true,ub,vb)] (enc:=ja) qL WW (by rfl) (λj y hy=>by simpa[ja,bx] using lH.cell hy) rL (by rw[iQ];simp only[List.length_cons,List.length_nil];omega) (by omega) ?_;intro rv2 wh MA RL kT;rw[<-Dm]at RL kT;have kg:Kept (λj=>rv.ownBlock=some j) wg wh:=Kept.grown RL (λ_ h=>h);have hFh:=hFg.kept kg (λh=>by have:=fU _ h;omega);have Ph:=Pg.kept kg (λi h=>by have:=fU _ h;omega);have zh:=kg.size;obtain⟨a5,c5,rfl⟩:=MA.slice;push_cast -dsimp;refine aC hFh (by simp) rfl ?_;intro wi gT;have ZT:aM wi (w.heap.size+1) 26 [.slice ca cs.length cc,.slice a5 (rs++[(t1.pos,true,ub,vb)]).length c5,.bool true]:=gT.aL;have hOi:=MA.aJ gT.kept (λg hg h=>by have:=(MA.block g hg).1;omega);have Pi:=Ph.kept gT.kept (λi h=>by omega);have kY:Kept (λi=>i=w.heap.size+1\/rv.ownBlock=some i) wf wi:=((Kept.new (X:=λi=>i=w.heap.size+1\/rv.ownBlock=some i) lH).trans kg (λi _ h=>.inr h)).trans gT.kept (λi _ h=>.inl h);have ki:=kf.trans kY (X:=(·=pb)) (λi h1 h2=>by
     rcases h2 with h2|h2
     ·omega
     have:=fU _ h2;omega)
    have kv0:Kept (λi=>i=pb\/i=w.heap.size+1\/rv.ownBlock=some i) w' wi:=(kw.weaken (Y:=λi=>i=pb\/i=w.heap.size+1\/rv.ownBlock=some i) (λi _ h=>.inl h)).trans kY (λi _ h=>.inr h);have kv:=AS.trans kv0 (λi h1 h2=>by
     rcases h2 with h2|h2|h2
     ·exact .inl h2
     ·exact .inr h2
     have:=fU _ h2;omega)
    have zkw:=kw.size;have hVi:dX (ml (λb=>b<V0.heap.size\/(Value.slice a5 (rs++[(t1.pos,true,ub,vb)]).length c5).ownBlock=some b) wi) (rs++[(t1.pos,true,ub,vb)]) (kM++[⟨t1.pos,true,x1,x2⟩]):=by
     refine(hVf.imp λa c h=>h.mono kY (λi h=>?_) (λi h=>?_)).snoc ⟨rfl,rfl,MB.mono kY (λi h=>?_) (λi h=>?_),MC.mono kY (λi h=>?_) (λi h=>?_)⟩
     ·rcases h with h|h
      ·exact .inl (.inl (by omega))
      exact .inl (.inr h)
     ·rcases h with h|h
      ·exact .inl (.inl h)
      rcases kT i h with h|h
      ·exact .inl (.inr h)
      exact .inr (by omega)
     ·rcases h with h|h
      ·exact .inl (by omega)
      have:=fU _ h;exact .inl (by omega)
     ·rcases h with h|h
      ·exact .inl (by omega)
      rcases kT i h with h|h
      ·have:=fU _ h;exact .inl (by omega)
      exact .inr (by omega)
     ·rcases h with h|h
      ·exact .inl (by omega)
      have:=fU _ h;exact .inl (by omega)
     rcases h with h|h
     ·exact .inl (by omega)
     rcases kT i h with h|h
     ·have:=fU _ h;exact .inl (by omega)
     exact .inr (by omega)
    have jD:bT (m-1) (kM++[⟨t1.pos,true,x1,x2⟩]) l8=bT 1000 [] lc:=by rw[qz eE hm cJ kQ,aI bO]
    have hPi:=Pi.len;push_cast -dsimp;exact⟨⟨m-1,kM++[⟨t1.pos,true,x1,x2⟩],l8,_,_,jD,by omega,by rw[List.length_append,List.length_singleton];omega,ZT,hOi,hVi,Pi,ki,kv⟩,by rw[hPi,WX];exact hl8⟩
   obtain rfl:w5=wt:=q9.symm;push_cast -dsimp;refine aC C5 (by simp) rfl ?_;intro wu LC;have Cu:aM wu w'.heap.size 84 [.int .i64 t1.pos,.bool false,.pointer none,.pointer none]:=LC.aL;have Pu:=P5.kept LC.kept (λi h=>by omega);have ku:=k5.trans LC.kept (λi h1 h2=>by omega);have zu:=LC.size;have du:wu.cell? ⟨w'.heap.size,1,none⟩=some (.bool false):=Cu.cell rfl;push_cast -dsimp[du];have JO:gW l1=Cae.pb (cg [107,101,101,112]) (λ_=>pr false) l1:=by
    unfold gW ay;rw[uW];rfl
   refine aF (fY [107,101,101,112] Pu) ?_ ?_;rotate_left;·
    rintro ce we ⟨e,pos,he,ht,eR⟩
    push_cast -dsimp
    refine⟨e,pos,ew iR eE hm cJ kQ ?_,ht.mono (by have:=ku.size;omega),ku.trans eR (λi _ h=>h)⟩
    rw[mq]
    refine bw ?_;rw[JO];exact bw he
   rintro _ w6 ⟨_,l3,e3,rfl,P6,sN⟩;have p8:gW l1=.ok (false,l3):=by rw[JO,aI e3];rfl
   have C6:=Cu.kept sN (by omega);have k6:=ku.trans sN (λi _ h=>h);have kw6:=(kw5.trans LC.kept (λi h1 h2=>by omega)).trans sN (λi _ h=>h);have z6:w5.heap.size<=w6.heap.size:=by have:=sN.size;omega
   push_cast -dsimp;refine aF (sP 9 0 (by omega) (by omega) pb B w6 l3 P6) ?_ ?_;rotate_left;·
    rintro ce we ⟨e,pos,he,ht,eR⟩
    push_cast -dsimp
    refine⟨e,pos,ew iR eE hm cJ kQ ?_,ht.mono (by have:=k6.size;omega),k6.trans eR (λi _ h=>h)⟩
    rw[mq]
    rw[aI p8];exact bw he
   rintro u wa ⟨x1,l5,e5,Va,Pa,uh⟩;obtain⟨ub,rfl,Hb,_⟩:=Va.ptr;have Ca:=C6.kept uh (by omega);have ka:=k6.trans uh (λi _ h=>h);have za:=uh.size;push_cast -dsimp;refine aC Ca (by simp) rfl ?_;intro wb dH;have Cb:aM wb w'.heap.size 84 [.int .i64 t1.pos,.bool false,bx ub,.pointer none]:=dH.aL;have Pb:=Pa.kept dH.kept (λi h=>by omega);have kb:=ka.trans dH.kept (λi h1 h2=>by omega);have zb:=dH.size;push_cast -dsimp;refine aF (fY [58] Pb) ?_ ?_;rotate_left;·
    rintro ce we ⟨e,pos,he,ht,eR⟩
    push_cast -dsimp
    refine⟨e,pos,ew iR eE hm cJ kQ ?_,ht.mono (by have:=kb.size;omega),kb.trans eR (λi _ h=>h)⟩
    rw[mq]
    rw[aI p8,aI e5];exact bw he
   rintro _ wc ⟨_,l6,e6,rfl,Zd,ui⟩;have Cc:=Cb.kept ui (by omega);have kc:=kb.trans ui (λi _ h=>h);have zc:=ui.size;push_cast -dsimp;refine aF (sP 9 0 (by omega) (by omega) pb B wc l6 Zd) ?_ ?_;rotate_left;·
    rintro ce we ⟨e,pos,he,ht,eR⟩
    push_cast -dsimp
    refine⟨e,pos,ew iR eE hm cJ kQ ?_,ht.mono (by have:=kc.size;omega),kc.trans eR (λi _ h=>h)⟩
    rw[mq]
    rw[aI p8,aI e5,aI e6];exact bw he
   rintro u wd ⟨x2,l7,e7,Vd,Pd,Af⟩;obtain⟨vb,rfl,MU,_⟩:=Vd.ptr;have Cd:=Cc.kept Af (by omega);have kd:=kc.trans Af (λi _ h=>h);have zd:=Af.size;push_cast -dsimp;refine aC Cd (by simp) rfl ?_;intro we lG;have Ce:aM we w'.heap.size 84 [.int .i64 t1.pos,.bool false,bx ub,bx vb]:=lG.aL;have Pe:=Pd.kept lG.kept (λi h=>by omega);have ke:=kd.trans lG.kept (λi h1 h2=>by omega);have ze:=lG.size;push_cast -dsimp;refine aF (fY [59] Pe) ?_ ?_;rotate_left;·
    rintro ce we ⟨e,pos,he,ht,eR⟩
    push_cast -dsimp
    refine⟨e,pos,ew iR eE hm cJ kQ ?_,ht.mono (by have:=ke.size;omega),ke.trans eR (λi _ h=>h)⟩
    rw[mq]
    rw[aI p8,aI e5,aI e6,aI e7];exact bw he
   rintro _ wf ⟨_,l8,e8,rfl,Pf,wQ⟩;have Cf:=Ce.kept wQ (by omega);have kf:=ke.trans wQ (λi _ h=>h);have zf:=wQ.size;have bO:lL l1=.ok (⟨t1.pos,false,x1,x2⟩,l8):=by rw[mq,aI p8,aI e5,aI e6,aI e7,aI e8];rfl
   have hl8:=yv _ _ _ bO;have kw:Kept (λi=>i=pb) w' wf:=((((((kw6.trans uh (λi _ h=>h)).trans dH.kept (λi h1 h2=>by omega)).trans ui (λi _ h=>h)).trans Af (λi _ h=>h)).trans lG.kept (λi h1 h2=>by omega)).trans wQ (λi _ h=>h));have Ic:=hF.kept kw (by omega);have hOf:=hO.aJ kw (λg hg h=>by have:=(hO.block g hg).1;omega);have fU:∀g,rv.ownBlock=some g->V0.heap.size<=g/\g<w'.heap.size:=λg hg=>hO.block g hg;have hVf:dX (ml (λb=>(b<V0.heap.size\/rv.ownBlock=some b)\/w'.heap.size<=b) wf) rs kM:=hV.imp λa c h=>h.top.mono kw (λi h=>by omega) (λi h=>h);have MB:bE (λb=>b<w6.heap.size\/wa.heap.size<=b) wf (bx ub) x1:=(((Va.top.mono dH.kept (X':=λb=>b<w6.heap.size\/wa.heap.size<=b) (λi h=>by omega) (λi h=>h)).mono ui (X':=λb=>b<w6.heap.size\/wa.heap.size<=b) (λi h=>by omega) (λi h=>h)).mono Af (X':=λb=>b<w6.heap.size\/wa.heap.size<=b) (λi h=>by omega) (λi h=>h)).mono lG.kept (X':=λb=>b<w6.heap.size\/wa.heap.size<=b) (λi h=>by omega) (λi h=>h) |>.mono wQ (λi h=>by omega) (λi h=>h);have MC:bE (λb=>b<wc.heap.size\/wd.heap.size<=b) wf (bx vb) x2:=(Vd.top.mono lG.kept (X':=λb=>b<wc.heap.size\/wd.heap.size<=b) (λi h=>by omega) (λi h=>h)).mono wQ (λi h=>by omega) (λi h=>h);have df:wf.cell? ⟨w.heap.size+1,1,none⟩=some (.slice ra rs.length rc):=by rw[<-Dm];exact Ic.cell rfl
   have dl:aB wf ⟨w'.heap.size,0,none⟩ 0 4=some [.int .i64 t1.pos,.bool false,bx ub,bx vb]:=Cf.aB;push_cast -dsimp[df,dl];refine cH qL rfl rfl (by omega) ?_;intro wg lH;have hFg:=Ic.below lH.below Ic.lt;have WW:=hOf.new lH;rw[Dm]at WW;have Pg:=Pf.below lH.below;have zg:=lH.size;push_cast -dsimp;refine aW (base:=V0.heap.size) [(t1.pos,false,ub,vb)] (enc:=ja) qL WW (by rfl) (λj y hy=>by simpa[ja,bx] using lH.cell hy) rL (by rw[iQ];simp only[List.length_cons,List.length_nil];omega) (by omega) ?_;intro rv2 wh MA RL kT;rw[<-Dm]at RL kT;have kg:Kept (λj=>rv.ownBlock=some j) wg wh:=Kept.grown RL (λ_ h=>h);have hFh:=hFg.kept kg (λh=>by have:=fU _ h;omega);have Ph:=Pg.kept kg (λi h=>by have:=fU _ h;omega);have zh:=kg.size;obtain⟨a5,c5,rfl⟩:=MA.slice;push_cast -dsimp;refine aC hFh (by simp) rfl ?_;intro wi gT;have ZT:aM wi (w.heap.size+1) 26 [.slice ca cs.length cc,.slice a5 (rs++[(t1.pos,false,ub,vb)]).length c5,.bool true]:=gT.aL;have hOi:=MA.aJ gT.kept (λg hg h=>by have:=(MA.block g hg).1;omega);have Pi:=Ph.kept gT.kept (λi h=>by omega);have kY:Kept (λi=>i=w.heap.size+1\/rv.ownBlock=some i) wf wi:=((Kept.new (X:=λi=>i=w.heap.size+1\/rv.ownBlock=some i) lH).trans kg (λi _ h=>.inr h)).trans gT.kept (λi _ h=>.inl h);have ki:=kf.trans kY (X:=(·=pb)) (λi h1 h2=>by
    rcases h2 with h2|h2
    ·omega
    have:=fU _ h2;omega)
   have kv0:Kept (λi=>i=pb\/i=w.heap.size+1\/rv.ownBlock=some i) w' wi:=(kw.weaken (Y:=λi=>i=pb\/i=w.heap.size+1\/rv.ownBlock=some i) (λi _ h=>.inl h)).trans kY (λi _ h=>.inr h);have kv:=AS.trans kv0 (λi h1 h2=>by
    rcases h2 with h2|h2|h2
    ·exact .inl h2
    ·exact .inr h2
    have:=fU _ h2;omega)
   have zkw:=kw.size;have hVi:dX (ml (λb=>b<V0.heap.size\/(Value.slice a5 (rs++[(t1.pos,false,ub,vb)]).length c5).ownBlock=some b) wi) (rs++[(t1.pos,false,ub,vb)]) (kM++[⟨t1.pos,false,x1,x2⟩]):=by
    refine(hVf.imp λa c h=>h.mono kY (λi h=>?_) (λi h=>?_)).snoc ⟨rfl,rfl,MB.mono kY (λi h=>?_) (λi h=>?_),MC.mono kY (λi h=>?_) (λi h=>?_)⟩
    ·rcases h with h|h
     ·exact .inl (.inl (by omega))
     exact .inl (.inr h)
    ·rcases h with h|h
     ·exact .inl (.inl h)
     rcases kT i h with h|h
     ·exact .inl (.inr h)
     exact .inr (by omega)
    ·rcases h with h|h
     ·exact .inl (by omega)
     have:=fU _ h;exact .inl (by omega)
    ·rcases h with h|h
     ·exact .inl (by omega)
     rcases kT i h with h|h
     ·have:=fU _ h;exact .inl (by omega)
     exact .inr (by omega)
    ·rcases h with h|h
     ·exact .inl (by omega)
     have:=fU _ h;exact .inl (by omega)
    rcases h with h|h
    ·exact .inl (by omega)
    rcases kT i h with h|h
    ·have:=fU _ h;exact .inl (by omega)
    exact .inr (by omega)
   have jD:bT (m-1) (kM++[⟨t1.pos,false,x1,x2⟩]) l8=bT 1000 [] lc:=by rw[qz eE hm cJ kQ,aI bO]
   have hPi:=Pi.len;push_cast -dsimp;exact⟨⟨m-1,kM++[⟨t1.pos,false,x1,x2⟩],l8,_,_,jD,by omega,by rw[List.length_append,List.length_singleton];omega,ZT,hOi,hVi,Pi,ki,kv⟩,by rw[hPi,WX];exact hl8⟩
  | false =>
   rw[fx,Bool.false_or]at jV;push_cast -dsimp;refine aA (BV [107,101,101,112] hP) ?_;rintro _ wx ⟨rfl,hwx⟩;obtain rfl:w'=wx:=hwx.symm;cases gZ:dT [107,101,101,112] l1 with
   | true =>
    have cJ:iA l1=true:=by rw[jV,gZ]
    have d1:w'.cell? ⟨w.heap.size+1,1,none⟩=some (.slice ra rs.length rc):=by rw[<-Dm];exact hF.cell rfl
    push_cast -dsimp[d1];refine⟨λkQ=>?_,λkQ=>?_⟩
    ·refine aF (jS 4 hP) (λ_ _ h=>h.elim) ?_;rintro ce we ⟨ht,hb⟩;push_cast -dsimp;exact⟨4,_,KH iR eE hm cJ (by omega),ht.mono (by omega),hk.trans (Kept.aN hb (X:=(·=pb)) (λi h1 h2=>by omega)) (λi _ h=>h)⟩
    have kQ:kM.length≠20:=by omega
    have cb:w'.cell? ⟨pb,0,none⟩=some (.slice (some ⟨b,o,none⟩) (r1.length+1) c):=hBp.cell rfl;push_cast -dsimp[cb,c2];refine⟨by omega,?_⟩;refine aq (z:=[.int .i64 0,.bool false,.pointer none,.pointer none]) (by kernel_rfl) ?_;intro w4 ah;have C4:=ah.aL;have P4:=hP.below ah.below;have z4:=ah.size;have k4:=hk.trans (Kept.new (X:=(·=pb)) ah) (λi _ h=>h);push_cast -dsimp;refine aH (xt:=84) (n:=4) (by kernel_rfl) C4 rfl (by decide) (by simp;exact⟨rfl,rfl,rfl⟩) ?_;intro w5 cI;have C5:aM w5 w'.heap.size 84 [.int .i64 t1.pos,.bool false,.pointer none,.pointer none]:=cI.aL;have P5:=P4.kept cI.kept (λi h=>by omega);have k5:=k4.trans cI.kept (λi h1 h2=>by omega);have z5:=cI.size;have kw5:Kept (λi=>i=pb) w' w5:=(Kept.new (X:=(·=pb)) ah).trans cI.kept (λi h1 h2=>by omega);push_cast -dsimp;refine aA (gF [98,114,101,97,107] P5) ?_;rintro _ wt hT;rcases hT with ⟨uW,rfl,t6,l3,el6,h56,Pt,sN,OW⟩|⟨uW,rfl,q9⟩
    ·have kV:cL l1=.ok ((),l3):=by rw[el6];exact dW h56
     have p8:gW l1=.ok (true,l3):=by
      unfold gW ay;rw[uW,if_pos rfl,aI kV];rfl
     have Ct:=C5.kept sN (by omega);push_cast -dsimp;refine aC Ct (by simp) rfl ?_;intro w6 bQ;have C6:aM w6 w'.heap.size 84 [.int .i64 t1.pos,.bool true,.pointer none,.pointer none]:=bQ.aL;have P6:=Pt.kept bQ.kept (λi h=>by omega);have k6:=(k5.trans sN (λi _ h=>h)).trans bQ.kept (λi h1 h2=>by omega);have kw6:=(kw5.trans sN (λi _ h=>h)).trans bQ.kept (λi h1 h2=>by omega);have z6:w5.heap.size<=w6.heap.size:=by have:=bQ.kept.size;have:=sN.size;omega
     have d7:w6.cell? ⟨w'.heap.size,1,none⟩=some (.bool true):=C6.cell rfl;push_cast -dsimp[d7];refine aF (sP 9 0 (by omega) (by omega) pb B w6 l3 P6) ?_ ?_;rotate_left;·
      rintro ce we ⟨e,pos,he,ht,eR⟩
      push_cast -dsimp
      refine⟨e,pos,ew iR eE hm cJ kQ ?_,ht.mono (by have:=k6.size;omega),k6.trans eR (λi _ h=>h)⟩
      rw[mq]
      rw[aI p8];exact bw he
     rintro u wa ⟨x1,l5,e5,Va,Pa,uh⟩;obtain⟨ub,rfl,Hb,_⟩:=Va.ptr;have Ca:=C6.kept uh (by omega);have ka:=k6.trans uh (λi _ h=>h);have za:=uh.size;push_cast -dsimp;refine aC Ca (by simp) rfl ?_;intro wb dH;have Cb:aM wb w'.heap.size 84 [.int .i64 t1.pos,.bool true,bx ub,.pointer none]:=dH.aL;have Pb:=Pa.kept dH.kept (λi h=>by omega);have kb:=ka.trans dH.kept (λi h1 h2=>by omega);have zb:=dH.size;push_cast -dsimp;refine aF (fY [58] Pb) ?_ ?_;rotate_left;·
      rintro ce we ⟨e,pos,he,ht,eR⟩
      push_cast -dsimp
      refine⟨e,pos,ew iR eE hm cJ kQ ?_,ht.mono (by have:=kb.size;omega),kb.trans eR (λi _ h=>h)⟩
      rw[mq]
      rw[aI p8,aI e5];exact bw he
     rintro _ wc ⟨_,l6,e6,rfl,Zd,ui⟩;have Cc:=Cb.kept ui (by omega);have kc:=kb.trans ui (λi _ h=>h);have zc:=ui.size;push_cast -dsimp;refine aF (sP 9 0 (by omega) (by omega) pb B wc l6 Zd) ?_ ?_;rotate_left;·
      rintro ce we ⟨e,pos,he,ht,eR⟩
      push_cast -dsimp
      refine⟨e,pos,ew iR eE hm cJ kQ ?_,ht.mono (by have:=kc.size;omega),kc.trans eR (λi _ h=>h)⟩
      rw[mq]
      rw[aI p8,aI e5,aI e6];exact bw he
     rintro u wd ⟨x2,l7,e7,Vd,Pd,Af⟩;obtain⟨vb,rfl,MU,_⟩:=Vd.ptr;have Cd:=Cc.kept Af (by omega);have kd:=kc.trans Af (λi _ h=>h);have zd:=Af.size;push_cast -dsimp;refine aC Cd (by simp) rfl ?_;intro we lG;have Ce:aM we w'.heap.size 84 [.int .i64 t1.pos,.bool true,bx ub,bx vb]:=lG.aL;have Pe:=Pd.kept lG.kept (λi h=>by omega);have ke:=kd.trans lG.kept (λi h1 h2=>by omega);have ze:=lG.size;push_cast -dsimp;refine aF (fY [59] Pe) ?_ ?_;rotate_left;·
      rintro ce we ⟨e,pos,he,ht,eR⟩
      push_cast -dsimp
      refine⟨e,pos,ew iR eE hm cJ kQ ?_,ht.mono (by have:=ke.size;omega),ke.trans eR (λi _ h=>h)⟩
      rw[mq]
      rw[aI p8,aI e5,aI e6,aI e7];exact bw he
     rintro _ wf ⟨_,l8,e8,rfl,Pf,wQ⟩;have Cf:=Ce.kept wQ (by omega);have kf:=ke.trans wQ (λi _ h=>h);have zf:=wQ.size;have bO:lL l1=.ok (⟨t1.pos,true,x1,x2⟩,l8):=by rw[mq,aI p8,aI e5,aI e6,aI e7,aI e8];rfl
     have hl8:=yv _ _ _ bO;have kw:Kept (λi=>i=pb) w' wf:=((((((kw6.trans uh (λi _ h=>h)).trans dH.kept (λi h1 h2=>by omega)).trans ui (λi _ h=>h)).trans Af (λi _ h=>h)).trans lG.kept (λi h1 h2=>by omega)).trans wQ (λi _ h=>h));have Ic:=hF.kept kw (by omega);have hOf:=hO.aJ kw (λg hg h=>by have:=(hO.block g hg).1;omega);have fU:∀g,rv.ownBlock=some g->V0.heap.size<=g/\g<w'.heap.size:=λg hg=>hO.block g hg;have hVf:dX (ml (λb=>(b<V0.heap.size\/rv.ownBlock=some b)\/w'.heap.size<=b) wf) rs kM:=hV.imp λa c h=>h.top.mono kw (λi h=>by omega) (λi h=>h);have MB:bE (λb=>b<w6.heap.size\/wa.heap.size<=b) wf (bx ub) x1:=(((Va.top.mono dH.kept (X':=λb=>b<w6.heap.size\/wa.heap.size<=b) (λi h=>by omega) (λi h=>h)).mono ui (X':=λb=>b<w6.heap.size\/wa.heap.size<=b) (λi h=>by omega) (λi h=>h)).mono Af (X':=λb=>b<w6.heap.size\/wa.heap.size<=b) (λi h=>by omega) (λi h=>h)).mono lG.kept (X':=λb=>b<w6.heap.size\/wa.heap.size<=b) (λi h=>by omega) (λi h=>h) |>.mono wQ (λi h=>by omega) (λi h=>h);have MC:bE (λb=>b<wc.heap.size\/wd.heap.size<=b) wf (bx vb) x2:=(Vd.top.mono lG.kept (X':=λb=>b<wc.heap.size\/wd.heap.size<=b) (λi h=>by omega) (λi h=>h)).mono wQ (λi h=>by omega) (λi h=>h);have df:wf.cell? ⟨w.heap.size+1,1,none⟩=some (.slice ra rs.length rc):=by rw[<-Dm];exact Ic.cell rfl
     have dl:aB wf ⟨w'.heap.size,0,none⟩ 0 4=some [.int .i64 t1.pos,.bool true,bx ub,bx vb]:=Cf.aB;push_cast -dsimp[df,dl];refine cH qL rfl rfl (by omega) ?_;intro wg lH;have hFg:=Ic.below lH.below Ic.lt;have WW:=hOf.new lH;rw[Dm]at WW;have Pg:=Pf.below lH.below;have zg:=lH.size;push_cast -dsimp;refine aW (base:=V0.heap.size) [(t1.pos,true,ub,vb)] (enc:=ja) qL WW (by rfl) (λj y hy=>by simpa[ja,bx] using lH.cell hy) rL (by rw[iQ];simp only[List.length_cons,List.length_nil];omega) (by omega) ?_;intro rv2 wh MA RL kT;rw[<-Dm]at RL kT;have kg:Kept (λj=>rv.ownBlock=some j) wg wh:=Kept.grown RL (λ_ h=>h);have hFh:=hFg.kept kg (λh=>by have:=fU _ h;omega);have Ph:=Pg.kept kg (λi h=>by have:=fU _ h;omega);have zh:=kg.size;obtain⟨a5,c5,rfl⟩:=MA.slice;push_cast -dsimp;refine aC hFh (by simp) rfl ?_;intro wi gT;have ZT:aM wi (w.heap.size+1) 26 [.slice ca cs.length cc,.slice a5 (rs++[(t1.pos,true,ub,vb)]).length c5,.bool true]:=gT.aL;have hOi:=MA.aJ gT.kept (λg hg h=>by have:=(MA.block g hg).1;omega);have Pi:=Ph.kept gT.kept (λi h=>by omega);have kY:Kept (λi=>i=w.heap.size+1\/rv.ownBlock=some i) wf wi:=((Kept.new (X:=λi=>i=w.heap.size+1\/rv.ownBlock=some i) lH).trans kg (λi _ h=>.inr h)).trans gT.kept (λi _ h=>.inl h);have ki:=kf.trans kY (X:=(·=pb)) (λi h1 h2=>by
      rcases h2 with h2|h2
      ·omega
      have:=fU _ h2;omega)
     have kv0:Kept (λi=>i=pb\/i=w.heap.size+1\/rv.ownBlock=some i) w' wi:=(kw.weaken (Y:=λi=>i=pb\/i=w.heap.size+1\/rv.ownBlock=some i) (λi _ h=>.inl h)).trans kY (λi _ h=>.inr h);have kv:=AS.trans kv0 (λi h1 h2=>by
      rcases h2 with h2|h2|h2
      ·exact .inl h2
      ·exact .inr h2
      have:=fU _ h2;omega)
     have zkw:=kw.size;have hVi:dX (ml (λb=>b<V0.heap.size\/(Value.slice a5 (rs++[(t1.pos,true,ub,vb)]).length c5).ownBlock=some b) wi) (rs++[(t1.pos,true,ub,vb)]) (kM++[⟨t1.pos,true,x1,x2⟩]):=by
      refine(hVf.imp λa c h=>h.mono kY (λi h=>?_) (λi h=>?_)).snoc ⟨rfl,rfl,MB.mono kY (λi h=>?_) (λi h=>?_),MC.mono kY (λi h=>?_) (λi h=>?_)⟩
      ·rcases h with h|h
       ·exact .inl (.inl (by omega))
       exact .inl (.inr h)
      ·rcases h with h|h
       ·exact .inl (.inl h)
       rcases kT i h with h|h
       ·exact .inl (.inr h)
       exact .inr (by omega)
      ·rcases h with h|h
       ·exact .inl (by omega)
       have:=fU _ h;exact .inl (by omega)
      ·rcases h with h|h
       ·exact .inl (by omega)
       rcases kT i h with h|h
       ·have:=fU _ h;exact .inl (by omega)
       exact .inr (by omega)
      ·rcases h with h|h
       ·exact .inl (by omega)
       have:=fU _ h;exact .inl (by omega)
      rcases h with h|h
      ·exact .inl (by omega)
      rcases kT i h with h|h
      ·have:=fU _ h;exact .inl (by omega)
      exact .inr (by omega)
     have jD:bT (m-1) (kM++[⟨t1.pos,true,x1,x2⟩]) l8=bT 1000 [] lc:=by rw[qz eE hm cJ kQ,aI bO]
     have hPi:=Pi.len;push_cast -dsimp;exact⟨⟨m-1,kM++[⟨t1.pos,true,x1,x2⟩],l8,_,_,jD,by omega,by rw[List.length_append,List.length_singleton];omega,ZT,hOi,hVi,Pi,ki,kv⟩,by rw[hPi,WX];exact hl8⟩
    obtain rfl:w5=wt:=q9.symm;push_cast -dsimp;refine aC C5 (by simp) rfl ?_;intro wu LC;have Cu:aM wu w'.heap.size 84 [.int .i64 t1.pos,.bool false,.pointer none,.pointer none]:=LC.aL;have Pu:=P5.kept LC.kept (λi h=>by omega);have ku:=k5.trans LC.kept (λi h1 h2=>by omega);have zu:=LC.size;have du:wu.cell? ⟨w'.heap.size,1,none⟩=some (.bool false):=Cu.cell rfl;push_cast -dsimp[du];have JO:gW l1=Cae.pb (cg [107,101,101,112]) (λ_=>pr false) l1:=by
     unfold gW ay;rw[uW];rfl
    refine aF (fY [107,101,101,112] Pu) ?_ ?_;rotate_left;·
     rintro ce we ⟨e,pos,he,ht,eR⟩
     push_cast -dsimp
     refine⟨e,pos,ew iR eE hm cJ kQ ?_,ht.mono (by have:=ku.size;omega),ku.trans eR (λi _ h=>h)⟩
     rw[mq]
     refine bw ?_;rw[JO];exact bw he
    rintro _ w6 ⟨_,l3,e3,rfl,P6,sN⟩;have p8:gW l1=.ok (false,l3):=by rw[JO,aI e3];rfl
    have C6:=Cu.kept sN (by omega);have k6:=ku.trans sN (λi _ h=>h);have kw6:=(kw5.trans LC.kept (λi h1 h2=>by omega)).trans sN (λi _ h=>h);have z6:w5.heap.size<=w6.heap.size:=by have:=sN.size;omega
    push_cast -dsimp;refine aF (sP 9 0 (by omega) (by omega) pb B w6 l3 P6) ?_ ?_;rotate_left;·
     rintro ce we ⟨e,pos,he,ht,eR⟩
     push_cast -dsimp
     refine⟨e,pos,ew iR eE hm cJ kQ ?_,ht.mono (by have:=k6.size;omega),k6.trans eR (λi _ h=>h)⟩
     rw[mq]
     rw[aI p8];exact bw he
    rintro u wa ⟨x1,l5,e5,Va,Pa,uh⟩;obtain⟨ub,rfl,Hb,_⟩:=Va.ptr;have Ca:=C6.kept uh (by omega);have ka:=k6.trans uh (λi _ h=>h);have za:=uh.size;push_cast -dsimp;refine aC Ca (by simp) rfl ?_;intro wb dH;have Cb:aM wb w'.heap.size 84 [.int .i64 t1.pos,.bool false,bx ub,.pointer none]:=dH.aL;have Pb:=Pa.kept dH.kept (λi h=>by omega);have kb:=ka.trans dH.kept (λi h1 h2=>by omega);have zb:=dH.size;push_cast -dsimp;refine aF (fY [58] Pb) ?_ ?_;rotate_left;·
     rintro ce we ⟨e,pos,he,ht,eR⟩
     push_cast -dsimp
     refine⟨e,pos,ew iR eE hm cJ kQ ?_,ht.mono (by have:=kb.size;omega),kb.trans eR (λi _ h=>h)⟩
     rw[mq]
     rw[aI p8,aI e5];exact bw he
    rintro _ wc ⟨_,l6,e6,rfl,Zd,ui⟩;have Cc:=Cb.kept ui (by omega);have kc:=kb.trans ui (λi _ h=>h);have zc:=ui.size;push_cast -dsimp;refine aF (sP 9 0 (by omega) (by omega) pb B wc l6 Zd) ?_ ?_;rotate_left;·
     rintro ce we ⟨e,pos,he,ht,eR⟩
     push_cast -dsimp
     refine⟨e,pos,ew iR eE hm cJ kQ ?_,ht.mono (by have:=kc.size;omega),kc.trans eR (λi _ h=>h)⟩
     rw[mq]
     rw[aI p8,aI e5,aI e6];exact bw he
    rintro u wd ⟨x2,l7,e7,Vd,Pd,Af⟩;obtain⟨vb,rfl,MU,_⟩:=Vd.ptr;have Cd:=Cc.kept Af (by omega);have kd:=kc.trans Af (λi _ h=>h);have zd:=Af.size;push_cast -dsimp;refine aC Cd (by simp) rfl ?_;intro we lG;have Ce:aM we w'.heap.size 84 [.int .i64 t1.pos,.bool false,bx ub,bx vb]:=lG.aL;have Pe:=Pd.kept lG.kept (λi h=>by omega);have ke:=kd.trans lG.kept (λi h1 h2=>by omega);have ze:=lG.size;push_cast -dsimp;refine aF (fY [59] Pe) ?_ ?_;rotate_left;·
     rintro ce we ⟨e,pos,he,ht,eR⟩
     push_cast -dsimp
     refine⟨e,pos,ew iR eE hm cJ kQ ?_,ht.mono (by have:=ke.size;omega),ke.trans eR (λi _ h=>h)⟩
     rw[mq]
     rw[aI p8,aI e5,aI e6,aI e7];exact bw he
    rintro _ wf ⟨_,l8,e8,rfl,Pf,wQ⟩;have Cf:=Ce.kept wQ (by omega);have kf:=ke.trans wQ (λi _ h=>h);have zf:=wQ.size;have bO:lL l1=.ok (⟨t1.pos,false,x1,x2⟩,l8):=by rw[mq,aI p8,aI e5,aI e6,aI e7,aI e8];rfl
    have hl8:=yv _ _ _ bO;have kw:Kept (λi=>i=pb) w' wf:=((((((kw6.trans uh (λi _ h=>h)).trans dH.kept (λi h1 h2=>by omega)).trans ui (λi _ h=>h)).trans Af (λi _ h=>h)).trans lG.kept (λi h1 h2=>by omega)).trans wQ (λi _ h=>h));have Ic:=hF.kept kw (by omega);have hOf:=hO.aJ kw (λg hg h=>by have:=(hO.block g hg).1;omega);have fU:∀g,rv.ownBlock=some g->V0.heap.size<=g/\g<w'.heap.size:=λg hg=>hO.block g hg;have hVf:dX (ml (λb=>(b<V0.heap.size\/rv.ownBlock=some b)\/w'.heap.size<=b) wf) rs kM:=hV.imp λa c h=>h.top.mono kw (λi h=>by omega) (λi h=>h);have MB:bE (λb=>b<w6.heap.size\/wa.heap.size<=b) wf (bx ub) x1:=(((Va.top.mono dH.kept (X':=λb=>b<w6.heap.size\/wa.heap.size<=b) (λi h=>by omega) (λi h=>h)).mono ui (X':=λb=>b<w6.heap.size\/wa.heap.size<=b) (λi h=>by omega) (λi h=>h)).mono Af (X':=λb=>b<w6.heap.size\/wa.heap.size<=b) (λi h=>by omega) (λi h=>h)).mono lG.kept (X':=λb=>b<w6.heap.size\/wa.heap.size<=b) (λi h=>by omega) (λi h=>h) |>.mono wQ (λi h=>by omega) (λi h=>h);have MC:bE (λb=>b<wc.heap.size\/wd.heap.size<=b) wf (bx vb) x2:=(Vd.top.mono lG.kept (X':=λb=>b<wc.heap.size\/wd.heap.size<=b) (λi h=>by omega) (λi h=>h)).mono wQ (λi h=>by omega) (λi h=>h);have df:wf.cell? ⟨w.heap.size+1,1,none⟩=some (.slice ra rs.length rc):=by rw[<-Dm];exact Ic.cell rfl
    have dl:aB wf ⟨w'.heap.size,0,none⟩ 0 4=some [.int .i64 t1.pos,.bool false,bx ub,bx vb]:=Cf.aB;push_cast -dsimp[df,dl];refine cH qL rfl rfl (by omega) ?_;intro wg lH;have hFg:=Ic.below lH.below Ic.lt;have WW:=hOf.new lH;rw[Dm]at WW;have Pg:=Pf.below lH.below;have zg:=lH.size;push_cast -dsimp;refine aW (base:=V0.heap.size) [(t1.pos,false,ub,vb)] (enc:=ja) qL WW (by rfl) (λj y hy=>by simpa[ja,bx] using lH.cell hy) rL (by rw[iQ];simp only[List.length_cons,List.length_nil];omega) (by omega) ?_;intro rv2 wh MA RL kT;rw[<-Dm]at RL kT;have kg:Kept (λj=>rv.ownBlock=some j) wg wh:=Kept.grown RL (λ_ h=>h);have hFh:=hFg.kept kg (λh=>by have:=fU _ h;omega);have Ph:=Pg.kept kg (λi h=>by have:=fU _ h;omega);have zh:=kg.size;obtain⟨a5,c5,rfl⟩:=MA.slice;push_cast -dsimp;refine aC hFh (by simp) rfl ?_;intro wi gT;have ZT:aM wi (w.heap.size+1) 26 [.slice ca cs.length cc,.slice a5 (rs++[(t1.pos,false,ub,vb)]).length c5,.bool true]:=gT.aL;have hOi:=MA.aJ gT.kept (λg hg h=>by have:=(MA.block g hg).1;omega);have Pi:=Ph.kept gT.kept (λi h=>by omega);have kY:Kept (λi=>i=w.heap.size+1\/rv.ownBlock=some i) wf wi:=((Kept.new (X:=λi=>i=w.heap.size+1\/rv.ownBlock=some i) lH).trans kg (λi _ h=>.inr h)).trans gT.kept (λi _ h=>.inl h);have ki:=kf.trans kY (X:=(·=pb)) (λi h1 h2=>by
     rcases h2 with h2|h2
     ·omega
     have:=fU _ h2;omega)
    have kv0:Kept (λi=>i=pb\/i=w.heap.size+1\/rv.ownBlock=some i) w' wi:=(kw.weaken (Y:=λi=>i=pb\/i=w.heap.size+1\/rv.ownBlock=some i) (λi _ h=>.inl h)).trans kY (λi _ h=>.inr h);have kv:=AS.trans kv0 (λi h1 h2=>by
     rcases h2 with h2|h2|h2
     ·exact .inl h2
     ·exact .inr h2
     have:=fU _ h2;omega)
    have zkw:=kw.size;have hVi:dX (ml (λb=>b<V0.heap.size\/(Value.slice a5 (rs++[(t1.pos,false,ub,vb)]).length c5).ownBlock=some b) wi) (rs++[(t1.pos,false,ub,vb)]) (kM++[⟨t1.pos,false,x1,x2⟩]):=by
     refine(hVf.imp λa c h=>h.mono kY (λi h=>?_) (λi h=>?_)).snoc ⟨rfl,rfl,MB.mono kY (λi h=>?_) (λi h=>?_),MC.mono kY (λi h=>?_) (λi h=>?_)⟩
     ·rcases h with h|h
      ·exact .inl (.inl (by omega))
      exact .inl (.inr h)
     ·rcases h with h|h
      ·exact .inl (.inl h)
      rcases kT i h with h|h
      ·exact .inl (.inr h)
      exact .inr (by omega)
     ·rcases h with h|h
      ·exact .inl (by omega)
      have:=fU _ h;exact .inl (by omega)
     ·rcases h with h|h
      ·exact .inl (by omega)
      rcases kT i h with h|h
      ·have:=fU _ h;exact .inl (by omega)
      exact .inr (by omega)
     ·rcases h with h|h
      ·exact .inl (by omega)
      have:=fU _ h;exact .inl (by omega)
     rcases h with h|h
     ·exact .inl (by omega)
     rcases kT i h with h|h
     ·have:=fU _ h;exact .inl (by omega)
     exact .inr (by omega)
    have jD:bT (m-1) (kM++[⟨t1.pos,false,x1,x2⟩]) l8=bT 1000 [] lc:=by rw[qz eE hm cJ kQ,aI bO]
    have hPi:=Pi.len;push_cast -dsimp;exact⟨⟨m-1,kM++[⟨t1.pos,false,x1,x2⟩],l8,_,_,jD,by omega,by rw[List.length_append,List.length_singleton];omega,ZT,hOi,hVi,Pi,ki,kv⟩,by rw[hPi,WX];exact hl8⟩
   | false =>
    have cJ:iA l1=false:=by rw[jV,gZ]
    have Ky:=aCr eE hm cJ;have RI:jC l0=Cae.pb nz (λb=>pr ⟨acc,kM,b⟩) l1:=by
     unfold jC;rw[aI iR,aI Ky]
    push_cast -dsimp;refine aA (gF [101,108,115,101] hP) ?_;rintro _ w3' hT;rcases hT with ⟨DG,rfl,t3,l3,el3,h53,P3',kt3,JP⟩|⟨DG,rfl,q9⟩
    ·have kV:cL l1=.ok ((),l3):=by rw[el3];exact dW h53
     have Wj:nz l1=Cae.pb gW (λb=>Cae.pb (cg [59]) λ_=>pr b) l3:=by
      unfold nz ay;rw[DG,if_pos rfl,aI kV]
     have F3':=hF.kept kt3 (by omega);have k3':=hk.trans kt3 (λi _ h=>h);have y3':Kept (λi=>i=pb\/i=w.heap.size+1) w' w3':=kt3.weaken (λi _ h=>.inl h);push_cast -dsimp;refine aA (gF [98,114,101,97,107] P3') ?_;rintro _ w4' hT;rcases hT with ⟨uW,rfl,t4,l4,QS,h54,P4',kt4,MX⟩|⟨uW,rfl,q9⟩
     ·have aKc:cL l3=.ok ((),l4):=by rw[QS];exact dW h54
      have p8:gW l3=.ok (true,l4):=by
       unfold gW ay;rw[uW,if_pos rfl,aI aKc];rfl
      have F4':=F3'.kept kt4 (by omega);push_cast -dsimp;refine aC F4' (by simp) rfl ?_;intro w5 cI;have F5:aM w5 (w.heap.size+1) 26 [.slice ca cs.length cc,rv,.bool true]:=cI.aL;have P5:=P4'.kept cI.kept (λi h=>by omega);have k5:=(k3'.trans kt4 (λi _ h=>h)).trans cI.kept (λi h1 h2=>by omega);have y5:=(y3'.trans kt4 (λi _ h=>.inl h)).trans cI.kept (λi _ h=>.inr h);have d5:w5.cell? ⟨w.heap.size+1,2,none⟩=some (.bool true):=F5.cell rfl;push_cast -dsimp[d5];refine aF (fY [59] P5) ?_ ?_;rotate_left;·
       rintro ce we ⟨e,pos,he,ht,eR⟩
       push_cast -dsimp
       refine⟨e,pos,?_,ht.mono (by have:=k5.size;omega),k5.trans eR (λi _ h=>h)⟩
       rw[RI]
       refine bw ?_
       rw[Wj]
       rw[aI p8];exact bw he
      rintro _ w6 ⟨_,l5,e5,rfl,Px,sN⟩;have hFx:=F5.kept sN (by omega);have kx:=k5.trans sN (λi _ h=>h);have ky:=y5.trans sN (λi _ h=>.inl h);have Iu:jC l0=.ok (⟨acc,kM,true⟩,l5):=by rw[RI,aI (show nz l1=.ok (true,l5) by rw[Wj,aI p8,aI e5];rfl)];rfl
      push_cast -dsimp;have kvx:=AS.trans ky (λi _ h=>h);have vw:=hR.kept kvx (by omega);have d3:aB w6 ⟨w.heap.size+1,0,none⟩ 0 3=some [.slice ca cs.length cc,rv,.bool true]:=hFx.aB;rw[Dm]at d3;push_cast -dsimp[d3];refine aH (xt:=26) (n:=3) (by kernel_rfl) vw rfl (by decide) (by simp;exact⟨rfl,rfl,rfl⟩) ?_;intro wz A5;have hRz:aM wz w.heap.size 26 [.slice ca cs.length cc,.slice ra rs.length rc,.bool true]:=A5.aL;have dz:aB wz ⟨w.heap.size,0,none⟩ 0 3=some [.slice ca cs.length cc,.slice ra rs.length rc,.bool true]:=hRz.aB;have Pz:=Px.kept A5.kept (λi h=>by omega);have kz:=kx.trans A5.kept (X:=(·=pb)) (λi h1 h2=>by omega);have kvz:Kept (λi=>i<w.heap.size+2) V0 wz:=(kvx.weaken (Y:=λi=>i<w.heap.size+2) (λi _ h=>by omega)).trans A5.kept (λi _ h=>by omega);have kyz:Kept (λi=>i<w.heap.size+2) w' wz:=(ky.weaken (Y:=λi=>i<w.heap.size+2) (λi _ h=>by omega)).trans A5.kept (λi _ h=>by omega);have s1:Sl (·<w.heap.size) 3 (En AD) wz (.slice ca cs.length cc) cs:=by
       have hh:=(yN.aJ kvz (λg hg h=>by have:=(yN.block g hg).1;omega)).sl;rw[aFn]at hh;exact hh.weaken (λi h=>by omega)
      have s2:Sl (·<w.heap.size) 4 (En ja) wz (.slice ra rs.length rc) rs:=by
       have hh:=(hO.aJ kyz (λg hg h=>by have:=(hO.block g hg).1;omega)).sl;rw[Dm]at hh;exact hh.weaken (λi h=>by omega)
      have a1:dX (tg (·<w.heap.size) wz) cs acc:=hVc.imp λa c h=>h.mono kvz (λi h=>.inl h) (λi h=>.inl (by omega));have a2:dX (ml (·<w.heap.size) wz) rs kM:=hV.imp λa c h=>h.mono kyz (λi h=>.inl (by omega)) (λi h=>.inl (by omega));push_cast -dsimp[dz];exact⟨_,_,Iu,⟨_,_,cs,rs,rfl,s1,s2,a1,a2⟩,Pz,kz⟩
     obtain rfl:w3'=w4':=q9.symm;push_cast -dsimp;refine aC F3' (by simp) rfl ?_;intro wu LC;have Fu:aM wu (w.heap.size+1) 26 [.slice ca cs.length cc,rv,.bool false]:=LC.aL;have Pu:=P3'.kept LC.kept (λi h=>by omega);have ku:=k3'.trans LC.kept (λi h1 h2=>by omega);have yu:=y3'.trans LC.kept (λi _ h=>.inr h);have du:wu.cell? ⟨w.heap.size+1,2,none⟩=some (.bool false):=Fu.cell rfl;have JO:gW l3=Cae.pb (cg [107,101,101,112]) (λ_=>pr false) l3:=by
      unfold gW ay;rw[uW];rfl
     push_cast -dsimp[du];refine aF (fY [107,101,101,112] Pu) ?_ ?_;rotate_left;·
      rintro ce we ⟨e,pos,he,ht,eR⟩
      push_cast -dsimp
      refine⟨e,pos,?_,ht.mono (by have:=ku.size;omega),ku.trans eR (λi _ h=>h)⟩
      rw[RI]
      refine bw ?_
      rw[Wj]
      refine bw ?_;rw[JO];exact bw he
     rintro _ w5 ⟨_,l4,e4,rfl,P5,kt5⟩;have p8:gW l3=.ok (false,l4):=by rw[JO,aI e4];rfl
     have F5:=Fu.kept kt5 (by omega);have k5:=ku.trans kt5 (λi _ h=>h);have y5:=yu.trans kt5 (λi _ h=>.inl h);push_cast -dsimp;refine aF (fY [59] P5) ?_ ?_;rotate_left;·
      rintro ce we ⟨e,pos,he,ht,eR⟩
      push_cast -dsimp
      refine⟨e,pos,?_,ht.mono (by have:=k5.size;omega),k5.trans eR (λi _ h=>h)⟩
      rw[RI]
      refine bw ?_
      rw[Wj]
      rw[aI p8];exact bw he
     rintro _ w6 ⟨_,l5,e5,rfl,Px,sN⟩;have hFx:=F5.kept sN (by omega);have kx:=k5.trans sN (λi _ h=>h);have ky:=y5.trans sN (λi _ h=>.inl h);have Iu:jC l0=.ok (⟨acc,kM,false⟩,l5):=by rw[RI,aI (show nz l1=.ok (false,l5) by rw[Wj,aI p8,aI e5];rfl)];rfl
     push_cast -dsimp;have kvx:=AS.trans ky (λi _ h=>h);have vw:=hR.kept kvx (by omega);have d3:aB w6 ⟨w.heap.size+1,0,none⟩ 0 3=some [.slice ca cs.length cc,rv,.bool false]:=hFx.aB;rw[Dm]at d3;push_cast -dsimp[d3];refine aH (xt:=26) (n:=3) (by kernel_rfl) vw rfl (by decide) (by simp;exact⟨rfl,rfl,rfl⟩) ?_;intro wz A5;have hRz:aM wz w.heap.size 26 [.slice ca cs.length cc,.slice ra rs.length rc,.bool false]:=A5.aL;have dz:aB wz ⟨w.heap.size,0,none⟩ 0 3=some [.slice ca cs.length cc,.slice ra rs.length rc,.bool false]:=hRz.aB;have Pz:=Px.kept A5.kept (λi h=>by omega);have kz:=kx.trans A5.kept (X:=(·=pb)) (λi h1 h2=>by omega);have kvz:Kept (λi=>i<w.heap.size+2) V0 wz:=(kvx.weaken (Y:=λi=>i<w.heap.size+2) (λi _ h=>by omega)).trans A5.kept (λi _ h=>by omega);have kyz:Kept (λi=>i<w.heap.size+2) w' wz:=(ky.weaken (Y:=λi=>i<w.heap.size+2) (λi _ h=>by omega)).trans A5.kept (λi _ h=>by omega);have s1:Sl (·<w.heap.size) 3 (En AD) wz (.slice ca cs.length cc) cs:=by
      have hh:=(yN.aJ kvz (λg hg h=>by have:=(yN.block g hg).1;omega)).sl;rw[aFn]at hh;exact hh.weaken (λi h=>by omega)
     have s2:Sl (·<w.heap.size) 4 (En ja) wz (.slice ra rs.length rc) rs:=by
      have hh:=(hO.aJ kyz (λg hg h=>by have:=(hO.block g hg).1;omega)).sl;rw[Dm]at hh;exact hh.weaken (λi h=>by omega)
     have a1:dX (tg (·<w.heap.size) wz) cs acc:=hVc.imp λa c h=>h.mono kvz (λi h=>.inl h) (λi h=>.inl (by omega));have a2:dX (ml (·<w.heap.size) wz) rs kM:=hV.imp λa c h=>h.mono kyz (λi h=>.inl (by omega)) (λi h=>.inl (by omega));push_cast -dsimp[dz];exact⟨_,_,Iu,⟨_,_,cs,rs,rfl,s1,s2,a1,a2⟩,Pz,kz⟩
    obtain rfl:w'=w3':=q9.symm;have hFx:=hF;have Px:=hP;have kx:=hk;have ky:Kept (λi=>i=pb\/i=w.heap.size+1) w' w':=Kept.refl _ _;have Iu:jC l0=.ok (⟨acc,kM,true⟩,l1):=by
     rw[RI,aI (show nz l1=.ok (true,l1) by unfold nz ay;rw[DG];rfl)]
     rfl
    push_cast -dsimp;have kvx:=AS.trans ky (λi _ h=>h);have vw:=hR.kept kvx (by omega);have d3:aB w' ⟨w.heap.size+1,0,none⟩ 0 3=some [.slice ca cs.length cc,rv,.bool true]:=hFx.aB;rw[Dm]at d3;push_cast -dsimp[d3];refine aH (xt:=26) (n:=3) (by kernel_rfl) vw rfl (by decide) (by simp;exact⟨rfl,rfl,rfl⟩) ?_;intro wz A5;have hRz:aM wz w.heap.size 26 [.slice ca cs.length cc,.slice ra rs.length rc,.bool true]:=A5.aL;have dz:aB wz ⟨w.heap.size,0,none⟩ 0 3=some [.slice ca cs.length cc,.slice ra rs.length rc,.bool true]:=hRz.aB;have Pz:=Px.kept A5.kept (λi h=>by omega);have kz:=kx.trans A5.kept (X:=(·=pb)) (λi h1 h2=>by omega);have kvz:Kept (λi=>i<w.heap.size+2) V0 wz:=(kvx.weaken (Y:=λi=>i<w.heap.size+2) (λi _ h=>by omega)).trans A5.kept (λi _ h=>by omega);have kyz:Kept (λi=>i<w.heap.size+2) w' wz:=(ky.weaken (Y:=λi=>i<w.heap.size+2) (λi _ h=>by omega)).trans A5.kept (λi _ h=>by omega);have s1:Sl (·<w.heap.size) 3 (En AD) wz (.slice ca cs.length cc) cs:=by
     have hh:=(yN.aJ kvz (λg hg h=>by have:=(yN.block g hg).1;omega)).sl;rw[aFn]at hh;exact hh.weaken (λi h=>by omega)
    have s2:Sl (·<w.heap.size) 4 (En ja) wz (.slice ra rs.length rc) rs:=by
     have hh:=(hO.aJ kyz (λg hg h=>by have:=(hO.block g hg).1;omega)).sl;rw[Dm]at hh;exact hh.weaken (λi h=>by omega)
    have a1:dX (tg (·<w.heap.size) wz) cs acc:=hVc.imp λa c h=>h.mono kvz (λi h=>.inl h) (λi h=>.inl (by omega));have a2:dX (ml (·<w.heap.size) wz) rs kM:=hV.imp λa c h=>h.mono kyz (λi h=>.inl (by omega)) (λi h=>.inl (by omega));push_cast -dsimp[dz];exact⟨_,_,Iu,⟨_,_,cs,rs,rfl,s1,s2,a1,a2⟩,Pz,kz⟩
end Go.Proofs.YtemjejfpadnljaaGreatDoor
namespace Cae
theorem EU (f:UInt8->Bool)(c:UInt8)(r:List UInt8):jo f (c::r)=if f c then jo f r+1 else 0:=by
 unfold jo;rw[List.takeWhile_cons];split<;>rfl
theorem HE:∀(f:UInt8->Bool) (s:List UInt8) (n:Nat),n<=s.length->(∀i,i<n->f (s.getD i 0)=true)->(n=s.length\/f (s.getD n 0)=false)->jo f s=n
 | f,[],n,h,_,_=>by
  have:n=0:=by simpa using h
  subst this;rfl
 | f,c::r,0,_,_,h=>by
  rw[EU];rcases h with h|h
  ·simp at h
  have:f c=false:=h;rw[this];rfl
 | f,c::r,n+1,h,ha,hb=>by
  rw[EU,if_pos (show f c=true from ha 0 (by omega)),HE f r n (by simpa using h) (λi hi=>ha (i+1) (by omega)) (hb.imp (λe=>by simpa using e) (λe=>e))]
theorem aF1 {s:List UInt8}{c:UInt8}:Go.Lib.indexByte s c+1=if s.contains c then ((jo (· != c) s+1:Nat):Int) else 0:=by
 rw[u5];split<;>simp[jo]
theorem aGT {i:Nat}{s:List UInt8}{l:List Tok}(h:Tk i s l):∀t∈l,t.kind=2->t.text≠[]/\∀c∈t.text,eL c=true:=by
 induction h with
 | nil i=>simp
 | blank _ _ ih=>exact ih
 | note _ _ _ ih=>exact ih
 | @tok i c r l h1 h2 h3 hl ih =>
  intro t ht hk;rcases List.mem_cons.1 ht with rfl|ht
  ·rw[pO]at hk h3;simp only[pO];by_cases a1:jY c=true
   ·rw[if_pos a1]at hk;cases hk
   rw[if_neg a1]at hk h3 ⊢
   by_cases a2:eL c=true
   ·rw[if_pos a2]at h3 ⊢
    have e:(c::r).take (jo eL (c::r))=(c::r).takeWhile eL:=yx eL (c::r)
    show (c::r).take (jo eL (c::r))≠[]/\_
    rw[e];refine⟨λhh=>?_,λx hx=>?_⟩
    ·rw[List.takeWhile_cons,if_pos a2]at hh;cases hh
    exact List.all_eq_true.1 (List.all_takeWhile (p:=eL) (l:=c::r)) x hx
   rw[if_neg a2]at hk;split at hk
   ·cases hk
   split at hk<;>cases hk
  exact ih t ht hk
end Cae
namespace Go.Proofs.YtemjejfpadnljaaGreatDoor
open Go.Vc Go.Proofs Go.RowKit Cae
attribute [local irreducible] cZ ab ai aX runK ar Sl Vc.Own vc aS bu aZ
theorem JZ (c:UInt8)(w:World):ar Tryz.prog 103 [.int .u8 c.toNat] w λr w'=>r=.bool (jY c)/\w'=w:=by
 have h:jY c=(decide (97<=c.toNat) && decide (c.toNat<=122)):=rfl;refine aE Tryz.func103 rfl (by kernel_rfl) [2] rfl ?_;push_cast -dsimp(maxSteps:=9^7) [Tryz.ntmps103];refine⟨λh1=>?_,λh1=>?_⟩
 ·rw[h,decide_eq_true (show 97<=c.toNat by omega),Bool.true_and]
  congr 1;exact decide_eq_decide.2 (by omega)
 rw[h,decide_eq_false (show ¬97<=c.toNat by omega)];rfl
theorem FL (c:UInt8)(w:World):ar Tryz.prog 105 [.int .u8 c.toNat] w λr w'=>r=.bool (eL c)/\w'=w:=by
 have h:eL c=(decide (48<=c.toNat) && decide (c.toNat<=57)):=rfl;refine aE Tryz.func105 rfl (by kernel_rfl) [2] rfl ?_;push_cast -dsimp(maxSteps:=9^7) [Tryz.ntmps105];refine⟨λh1=>?_,λh1=>?_⟩
 ·rw[h,decide_eq_true (show 48<=c.toNat by omega),Bool.true_and]
  congr 1;exact decide_eq_decide.2 (by omega)
 rw[h,decide_eq_false (show ¬48<=c.toNat by omega)];rfl
theorem X2 (c:UInt8)(w:World):ar Tryz.prog 104 [.int .u8 c.toNat] w λr w'=>r=.bool (jY c || eL c)/\w'=w:=by
 refine aE Tryz.func104 rfl (by kernel_rfl) [2] rfl ?_;push_cast -dsimp(maxSteps:=9^7) [Tryz.ntmps104];refine aA (JZ c w) ?_;rintro _ _ ⟨rfl,rfl⟩;cases jY c with
 | true =>
  push_cast -dsimp;rfl
 | false =>
  push_cast -dsimp;refine aA (FL c _) ?_;rintro _ _ ⟨rfl,rfl⟩;push_cast -dsimp
theorem Xs (c:UInt8)(w:World):ar Tryz.prog 64 [.int .u8 c.toNat] w λr w'=>r=.bool (c != 10)/\w'=w:=by
 refine aE Tryz.func64 rfl (by kernel_rfl) [2] rfl ?_;push_cast -dsimp(maxSteps:=9^7) [Tryz.ntmps64];congr 1;rw[bne,El];have:(((c.toNat:Nat):Int)=10)↔c=10:=by
  constructor
  ·intro h;exact UInt8.toNat_inj.1 (by show c.toNat=10;omega)
  rintro rfl;rfl
 by_cases h:c=10
 ·rw[decide_eq_true h,decide_eq_false (show ¬((c.toNat:Nat):Int)≠10 from λhh=>hh (this.2 h))];rfl
 rw[decide_eq_false h,decide_eq_true (show ((c.toNat:Nat):Int)≠10 from λhh=>h (this.1 hh))];rfl
def A8:Go.Shelf.Ren:=⟨λ| 217=>119|266=>144|n=>n,λ| 9=>9|5=>5|3=>3|n=>n,λ| n=>n⟩
theorem MZ:Go.Proofs.Lays.n217 Tryz.prog A8:={
 mixed:=by kernel_rfl
 f217:=Tryz.func119.trans (congrArg some (by kernel_rfl))
 f266:=Tryz.func144.trans (congrArg some (by kernel_rfl))
 t3:=Tryz.underlying3
 a3:=Tryz.isAgg3
 z3:=Tryz.sizeOf3
 v3:=Tryz.zeroValue3
 t5:=Tryz.underlying5
 a5:=Tryz.isAgg5
 z5:=Tryz.sizeOf5
 v5:=Tryz.zeroValue5
 t9:=Tryz.underlying9
 a9:=Tryz.isAgg9
 z9:=Tryz.sizeOf9
 v9:=Tryz.zeroValue9 }
theorem G4 (s:List UInt8)(c:UInt8)(w:World):ar Tryz.prog 119 [str s,.int .u8 c.toNat] w λr w'=>r=.int .i64 (Lib.indexByte s c)/\w'=w:=by
 refine dM Tryz.func119 (by kernel_rfl) (by kernel_rfl) ?_;refine Calls.mono (Any.stringslite_IndexByte MZ ⟨s.toArray⟩ c.toNat w) ?_;rintro e w' ⟨rfl,rfl⟩;exact⟨_,rfl,by simp,rfl⟩
theorem xX (s:List UInt8)(c:UInt8)(w:World):ar Tryz.prog 82 [str s,.int .u8 c.toNat] w λr w'=>r=.int .i64 (Lib.indexByte s c)/\w'=w:=by
 refine aE Tryz.func82 rfl (by kernel_rfl) [4] rfl ?_;push_cast -dsimp(maxSteps:=9^7) [Tryz.ntmps82];refine aA (G4 s c w) ?_;rintro _ _ ⟨rfl,rfl⟩;push_cast -dsimp
theorem Yg (f:FuncId)(g:UInt8->Bool)(hf:∀(c:UInt8) (w:World),ar Tryz.prog f [.int .u8 c.toNat] w λr w'=>r=.bool (g c)/\w'=w)(s:List UInt8)(hs:s.length<=1000000000)(w:World) :
  ar Tryz.prog 63 [str s,.func (.func f) #[] #[]] w λr w'=>r=.int .i64 (jo g s:Nat)/\w'=w:=by
 refine aE Tryz.func63 rfl (by kernel_rfl) [4] rfl ?_;push_cast -dsimp(maxSteps:=9^7) [Tryz.ntmps63];refine aK [5,6,7,8,9,10,11,12,13,14,15,16,17,18] (λz w'=>∃n:Nat,z 5=.int .i64 n/\n<=s.length/\(∀i,i<n->g (s.getD i 0)=true)/\w'=w) (λz w'=>s.length-(intOf (z 5)).toNat) ?_ ?_
 ·exact⟨0,rfl,Nat.zero_le _,λi hi=>by omega,rfl⟩
 rintro z w' ⟨n,hz,hn,dD,rfl⟩;have hint:(intOf (z 5)).toNat=n:=by rw[hz];simp[intOf]
 push_cast -dsimp[hz];refine⟨λao=>⟨⟨by omega,by omega⟩,?_⟩,λeY=>?_⟩
 ·refine aA (hf (s.getD n 0) w') ?_;rintro _ _ ⟨rfl,rfl⟩;cases hg:g (s.getD n 0) with
  | true =>
   push_cast -dsimp[hz];refine⟨⟨by omega,by omega⟩,⟨n+1,rfl,by omega,λi hi=>?_⟩,?_⟩
   ·by_cases h:i<n
    ·exact dD i h
    rw[show i=n by omega];exact hg
   simp only[intOf];omega
  | false =>
   push_cast -dsimp[hz];rw[HE g s n hn dD (.inr hg)]
 rw[HE g s n hn dD (.inl (by omega))]
theorem aGt (c:UInt8)(r:List UInt8)(hs:(c::r).length<=1000000000)(w:World):ar Tryz.prog 65 [str (c::r)] w λv w'=>v=.tuple #[.int .i64 ((gp (c::r)).1:Nat),.int .i64 ((gp (c::r)).2:Nat)]/\w'=w:=by
 have hn:=pO c r;refine aE Tryz.func65 rfl (by kernel_rfl) [2,3] rfl ?_;push_cast -dsimp(maxSteps:=9^7) [Tryz.ntmps65];have e0:((c::r).getD 0 0)=c:=rfl;refine⟨by omega,?_⟩;refine aA (JZ c w) ?_;rintro _ _ ⟨rfl,rfl⟩;cases h1:jY c with
 | true =>
  rw[h1,if_pos rfl]at hn;push_cast -dsimp;refine aA (Yg _ (λc=>jY c || eL c) X2 (c::r) hs _) ?_;rintro _ _ ⟨rfl,rfl⟩;push_cast -dsimp;rw[hn];rfl
 | false =>
  rw[h1,if_neg (by decide)]at hn;push_cast -dsimp;refine aA (FL c _) ?_;rintro _ _ ⟨rfl,rfl⟩;cases h2:eL c with
  | true =>
   rw[h2,if_pos rfl]at hn;push_cast -dsimp;refine aA (Yg _ eL FL (c::r) hs _) ?_;rintro _ _ ⟨rfl,rfl⟩;push_cast -dsimp;rw[hn];rfl
  | false =>
   rw[h2,if_neg (by decide)]at hn;have h91:(((c.toNat:Nat):Int)=91)↔c=91:=by
    constructor
    ·intro h;exact UInt8.toNat_inj.1 (by show c.toNat=91;omega)
    rintro rfl;rfl
   push_cast -dsimp;refine⟨λh3=>?_,λh3=>?_⟩
   ·rw[if_pos (h91.1 h3)]at hn;refine aA (xX (c::r) 93 _) ?_;rintro _ _ ⟨rfl,rfl⟩;have hr:=vH (· != 93) (c::r);have hib:Lib.indexByte (c::r) 93+1=(((gp (c::r)).2:Nat):Int):=by
     rw[aF1,hn];split<;>rfl
    push_cast -dsimp;refine⟨?_,?_⟩
    ·rw[hib];have:=ux c r;omega
    rw[hib,hn];rfl
   rw[if_neg (λh=>h3 (h91.2 h))]at hn;refine aA (xX J5 c _) ?_;rintro _ _ ⟨rfl,rfl⟩;have hib:(0<=Lib.indexByte J5 c)↔J5.contains c=true:=by
    rw[u5];split
    ·rename_i h;exact⟨λ_=>h,λ_=>by omega⟩
    rename_i h;exact⟨λhh=>by omega,λhh=>absurd hh h⟩
   push_cast -dsimp;refine⟨λh=>?_,λh=>?_⟩
   ·rw[if_pos (hib.1 h)]at hn;rw[hn];rfl
   rw[if_neg (λhh=>h (hib.2 hh))]at hn;rw[hn];rfl
theorem AE (t:Tok):∀u∈jR t,u.oneCell'=true:=by
 intro u hu;simp[jR]at hu;rcases hu with rfl|rfl|rfl<;>rfl
def aL8 (w:World)(s:List UInt8)(r:Value)(w':World):Prop :=
 (∃l v,TV s=.ok l/\r=.tuple #[v,.nilIface]/\Go.Vc.Own w.heap.size 107 3 jR w' v l) \/
 (∃e pos b,TV s=.error (e,pos)/\r=.tuple #[.slice none 0 0,.iface 141 (.pointer (some ⟨b,0,none⟩))]/\w.heap.size<=b/\aM w' b 143 [.int .i64 e,.int .i64 pos])
theorem ZG (s:List UInt8)(hs:s.length<=1000000)(w:World):ar Tryz.prog 42 [str s] w λr w'=>aL8 w s r w'/\Below w.heap.size w w':=by
 refine aE Tryz.func42 rfl (by kernel_rfl) [2,3] rfl ?_;push_cast -dsimp(maxSteps:=9^7) [Tryz.ntmps42];refine aK [2,3,4,5,6,7,8,9,10,11,12,13,14,15,16,17,18,19,20,21,22,23,24,25,26,27,28,29,30,31,32,33,34,35,36,37,38,39,40,41,42,43,44,45,46,47,48,49,50,51,52,53,54,55,56,57,58,59,60,61,62,63,64] (λz w'=>∃(m i:Nat) (acc:List Tok) (v:Value),z 5=.int .i64 i/\z 4=v/\i<=s.length/\(s.drop i).length<m/\acc.length<=500/\lh m i (s.drop i) acc=TV s/\Go.Vc.Own w.heap.size 107 3 jR w' v acc/\Below w.heap.size w w') (λz w'=>s.length-(intOf (z 5)).toNat) ?_ ?_
 ·exact⟨s.length+1,0,[],_,rfl,rfl,Nat.zero_le _,by simp,by simp,rfl,Vc.Own.nil (enc:=jR) _ _ (λ_=>rfl) _,Below.refl _ _⟩
 rintro z w' ⟨m,i,acc,v,Hc,MX,hi,hm,Ii,eE,hO,hb⟩;obtain⟨m',rfl⟩:∃m',m=m'+1:=⟨m-1,by omega⟩;have hzb:=hb.size;obtain⟨va,vc,rfl⟩:=hO.slice;have hdl:(s.drop i).length=s.length-i:=List.length_drop;push_cast -dsimp[Hc];refine⟨λao=>?_,λeY=>?_⟩
 ·obtain⟨c,r,H0⟩:∃c r,s.drop i=c::r:=by
   cases hd:s.drop i with
   | nil=>rw[hd]at hdl;simp at hdl;omega
   | cons c r=>exact⟨c,r,rfl⟩
  have yS:s.getD i 0=c:=by
   have:(s.drop i).getD 0 0=c:=by rw[H0];rfl
   rw[<-this];simp[List.getD_eq_getElem?_getD]
  rw[H0]at eE hm hdl;have Ky:r.length+1=s.length-i:=by simpa using hdl
  have dF:=eE;rw[lh]at dF;have aJv:(((c.toNat:Nat):Int)=32)↔c=32:=⟨λh=>UInt8.toNat_inj.1 (by show c.toNat=32;omega),λh=>by subst h;rfl⟩
  have aJt:(((c.toNat:Nat):Int)=10)↔c=10:=⟨λh=>UInt8.toNat_inj.1 (by show c.toNat=10;omega),λh=>by subst h;rfl⟩
  have aFh:(((c.toNat:Nat):Int)=35)↔c=35:=⟨λh=>UInt8.toNat_inj.1 (by show c.toNat=35;omega),λh=>by subst h;rfl⟩
  have Z2:∀k,s.drop (i+k)=(c::r).drop k:=λk=>by rw[<-H0,List.drop_drop]
  by_cases h32:((c.toNat:Nat):Int)=32
  ·rw[if_pos (.inl (aJv.1 h32))]at dF;push_cast -dsimp[Hc,yS,h32];refine⟨⟨by omega,by omega⟩,⟨by omega,by omega⟩,⟨m',i+1,acc,_,rfl,MX,by omega,by rw[Z2 1];simp;omega,Ii,by rw[Z2 1];exact dF,hO,hb⟩,by simp only[intOf];omega⟩
  by_cases Kq:((c.toNat:Nat):Int)=10
  ·rw[if_pos (.inr (aJt.1 Kq))]at dF;push_cast -dsimp[Hc,yS,h32,Kq];refine⟨⟨by omega,by omega⟩,⟨by omega,by omega⟩,⟨m',i+1,acc,_,rfl,MX,by omega,by rw[Z2 1];simp;omega,Ii,by rw[Z2 1];exact dF,hO,hb⟩,by simp only[intOf];omega⟩
  rw[if_neg (λh=>h.elim (λh=>h32 (aJv.2 h)) (λh=>Kq (aJt.2 h)))]at dF;by_cases h35:((c.toNat:Nat):Int)=35
  ·rw[if_pos (aFh.1 h35)]at dF;have hr:=Yg _ (· != 10) Xs (c::r) (by rw[List.length_cons];omega) w';rw[<-H0]at hr;have hle:=vH (· != 10) (c::r);have yX:0<jo (· != 10) (c::r):=Yf (by rw[aFh.1 h35];decide);rw[List.length_cons]at hle;push_cast -dsimp[Hc,yS,h32,Kq,h35];refine⟨⟨by omega,by omega⟩,⟨by omega,by omega⟩,?_⟩;refine aA hr ?_;rintro _ wq ⟨rfl,MW⟩;obtain rfl:w'=wq:=MW.symm;rw[H0];push_cast -dsimp[Hc];refine⟨⟨by omega,by omega⟩,⟨m',i+jo (· != 10) (c::r),acc,_,by first|(push_cast;done)|(push_cast;rfl),MX,by omega,by rw[Z2];simp;omega,Ii,by rw[Z2];exact dF,hO,hb⟩,by simp only[intOf];omega⟩
  rw[if_neg (λh=>h35 (aFh.2 h))]at dF;have hr:=aGt c r (by rw[List.length_cons];omega) w';rw[<-H0]at hr;have hle:=ux c r;rw[List.length_cons]at hle;push_cast -dsimp[Hc,yS,h32,Kq,h35];refine⟨⟨by omega,by omega⟩,⟨by omega,by omega⟩,?_⟩;refine aA hr ?_;rintro _ wq ⟨rfl,MW⟩;obtain rfl:w'=wq:=MW.symm;rw[H0];have hkn:∃k n,gp (c::r)=(k,n):=⟨_,_,rfl⟩;obtain⟨k,n,hkn⟩:=hkn;rw[hkn]at hle dF ⊢
  dsimp only at hle dF ⊢
  push_cast -dsimp[Hc];refine⟨λh0=>?_,λh0=>?_⟩;·
   refine aR ?_
   intro w4 ah
   have B4:aM w4 w'.heap.size 143 [.int .i64 (3:Nat),.int .i64 i]:=ah.aL
   have b4:=hb.trans (ah.below.mono hzb)
   push_cast -dsimp
   exact⟨.inr ⟨3,i,_,by rw[<-dF,if_pos (show n=0 by omega)],rfl,hzb,B4⟩,b4⟩
  rw[if_neg (by omega)]at dF;push_cast -dsimp[MX];refine⟨λaMn=>?_,λaMn=>?_⟩;·
   refine aR ?_
   intro w4 ah
   have B4:aM w4 w'.heap.size 143 [.int .i64 (4:Nat),.int .i64 i]:=ah.aL
   have b4:=hb.trans (ah.below.mono hzb)
   push_cast -dsimp
   exact⟨.inr ⟨4,i,_,by rw[<-dF,if_pos (show acc.length=500 by omega)],rfl,hzb,B4⟩,b4⟩
  rw[if_neg (by omega)]at dF;refine⟨⟨by omega,by omega⟩,⟨by omega,by omega,by omega⟩,?_⟩;have aO2:(s.take (i+n)).drop i=(c::r).take n:=by rw[List.drop_take,H0];congr 1;omega
  have CX:fF [(0,Value.agg #[.int .i64 k,str ((s.take ((i:Int)+n).toNat).drop i),.int .i64 i])]=[(⟨k,(c::r).take n,i⟩:Tok)].flatMap jR:=by
   rw[show ((i:Int)+n).toNat=i+n by omega,aO2]
   rfl
  refine cH FP rfl rfl (by omega) ?_;rw[CX];intro w4 ah;have yg:=hO.new ah;have z4':=ah.size;have b4:=hb.trans (ah.below.mono hzb);push_cast -dsimp;refine aW (base:=w.heap.size) [⟨k,(c::r).take n,i⟩] (enc:=jR) FP yg (by rfl) (λj y hy=>by rw[Nat.zero_add];exact ah.cell hy) AE (by simp only[List.length_cons,List.length_nil];omega) (by omega) ?_;intro v5 w5 sH yR H8;have b5:=b4.trans ((Kept.grown yR (X:=λj=>(Value.slice va acc.length vc).ownBlock=some j) (λ_ h=>h)).below (B:=w.heap.size) (by omega) (λi h=>(yg.block i h).1));push_cast -dsimp[Hc];refine⟨⟨by omega,by omega⟩,⟨m',i+n,acc++[⟨k,(c::r).take n,i⟩],v5,by first|(push_cast;done)|(push_cast;rfl),rfl,by omega,by rw[Z2];simp;omega,by rw[List.length_append,List.length_singleton];omega,by rw[Z2];exact dF,sH,b5⟩,by simp only[intOf];omega⟩
 have CX:fF [(0,Value.agg #[.int .i64 5,str [],.int .i64 s.length])]=[(⟨5,[],s.length⟩:Tok)].flatMap jR:=rfl;refine cH FP rfl rfl (by omega) ?_;rw[CX];intro w4 ah;have yg:=hO.new ah;have z4':=ah.size;have b4:=hb.trans (ah.below.mono hzb);have MK:s.drop i=[]:=List.drop_eq_nil_iff.2 (by omega);have bO:TV s=.ok (acc++[⟨5,[],s.length⟩]):=by
  rw[<-eE,MK,lh,show i=s.length by omega]
 push_cast -dsimp[MX];refine aW (base:=w.heap.size) [⟨5,[],s.length⟩] (enc:=jR) FP yg (by rfl) (λj y hy=>by rw[Nat.zero_add];exact ah.cell hy) AE (by simp only[List.length_cons,List.length_nil];omega) (by omega) ?_;intro v5 w5 sH yR H8;have b5:=b4.trans ((Kept.grown yR (X:=λj=>(Value.slice va acc.length vc).ownBlock=some j) (λ_ h=>h)).below (B:=w.heap.size) (by omega) (λi h=>(yg.block i h).1));push_cast -dsimp;exact⟨.inl ⟨_,v5,bO,rfl,sH⟩,b5⟩
end Go.Proofs.YtemjejfpadnljaaGreatDoor
namespace Go.Vc
open Go.RowKit
section
variable {P:Program} {ds:List Deferred}
theorem DT {t:Fr}{dst:Option Tmp}{C:World->Prop}{K:VK}{N:Act->World->Prop}(hn:∀v w',K v w'->N ⟨(put t dst v).toArray,ds⟩ w'){r:Result Next}(h:ru P t (λv w'=>C w'/\K v w') Ji r):rr P ⟨t.toArray,ds⟩ dst C N r:=by
 cases r with
 | halt x w'=>cases x<;>simp only[ru,Ji]at h
 | ok n w' =>
  cases n<;>simp only[ru]at h<;>simp only[rr]
  case value v=>exact⟨h.1,by rw[gz];exact hn _ _ h.2⟩
  case skip=>exact⟨h.1,by rw[gz];exact hn _ _ h.2⟩
  case enter f args =>
   refine h.mono λe bB he=>?_;cases e with
   | returned v=>exact⟨v,rfl,he.1,by rw[gz];exact hn _ _ he.2⟩
   | panicked c=>exact he.elim
   | outgrown=>exact he.elim
theorem qk {ops:List Oper}{i:Nat}{o:Oper}{C:World->Prop}{t:Fr}{w:World}{K:VK}{N:Act->World->Prop}(hi:ops[i]?=some o)(hw:Region.wanted o (yielded ops.toArray t.toArray)=true)
  (hn:∀v w',K v w'->N ⟨(put t o.dst v).toArray,ds⟩ w') (h:dp P o t w C K .mk):bD P ops.toArray C i N ⟨t.toArray,ds⟩ w:=by
 unfold bD;simp only[List.getElem?_toArray,hi,hw,if_true,nE];unfold dp at h;split at h
 ·rename_i ty x ho;have hc:chain P o=false:=by simp[chain,ho]
  simp only[hc,Bool.false_eq_true,if_false];obtain⟨v,hr,dD,hk⟩:=oL ho h;refine⟨v,λw' tf=>?_,by rw[gz];exact hn _ _ hk⟩;obtain⟨u,hu,hv⟩:=oL ho (dD w' tf);rw[hu,hv]
 ·rename_i x ho;have hc:chain P o=false:=by simp[chain,ho]
  simp only[hc,Bool.false_eq_true,if_false];unfold Jh at h;split at h
  ·rename_i a hx;refine⟨_,λw' _=>?_,by rw[gz];exact hn _ _ h⟩;unfold execOp;simp only[ho,hx];rfl
  exact h.elim
 split at h
 ·rename_i hc;simp only[hc,if_true];exact DT hn (Gp h)
 rename_i hc;simp only[hc];rcases qx h with h|⟨v,hg,hk⟩
 ·exact h.elim
 exact⟨v,λw' _=>hg w',by rw[gz];exact hn _ _ hk⟩
theorem Jc {ops:List Oper}{i:Nat}{o:Oper}{C:World->Prop}{t:Fr}{w:World}{N:Act->World->Prop}(hi:ops[i]?=some o)(hw:Region.wanted o (yielded ops.toArray t.toArray)=false)
  (h:N ⟨(put t o.dst undef).toArray,ds⟩ w):bD P ops.toArray C i N ⟨t.toArray,ds⟩ w:=by
 unfold bD;simp only[List.getElem?_toArray,hi,hw,Bool.false_eq_true,if_false];rw[gz];exact h
theorem pj {ops:List Oper}{C:World->Prop}{R:Fr->World->Prop}{N:Act->World->Prop}(hn:∀t w,R t w->N ⟨t.toArray,ds⟩ w):∀(l:List Oper) (k:Nat) (t:Fr) (w:World),(∀j,l[j]?=ops[k+j]?) ->
  mc P ops C R l t w .mk->CA P ops.toArray C N (List.range' k l.length) ⟨t.toArray,ds⟩ w
 | [],_,_,_,_,h=>hn _ _ h
 | o::r,k,t,w,hl,h=>by
  have h0:ops[k]?=some o:=by simpa using(hl 0).symm
  have ih:=λt w=>pj (C:=C) hn r (k+1) t w (λj=>by have:=hl (j+1);simpa[Nat.add_assoc,Nat.add_comm 1 j] using this);simp only[List.length_cons,List.range'_succ,CA];simp only[mc]at h;split at h
  ·rename_i hg;exact qk h0 (by simp[Region.wanted,hg]) (λv w' hk=>ih _ _ hk) h
  rename_i j want hg;rcases kC hg h with ⟨hw,hh⟩|⟨hw,hh⟩
  ·exact qk h0 hw (λv w' hk=>ih _ _ hk) hh
  exact Jc h0 hw (ih _ _ hh)
theorem ZN {id:Nat}{l:List Oper}{t:Fr}{w:World}{Q:Exit->Act->World->Prop}(C:World->Prop)(hm:P.follows .mixedOrders=true)(hB:aBR P l.toArray=true)(hC:C w.drew)
  (h:mc P l C (λt w=>Q .normal ⟨t.toArray,ds⟩ w) l t w.drew .mk):(Code.region id l.toArray true).wp P Q ⟨t.toArray,ds⟩ w:=by
 simp only[aBR,Bool.and_eq_true]at hB;refine wp_region_any hm (fR (C:=C) (R:=λa w=>Q .normal a w) (λ_ _ h=>h) _ _ _ _ hC ?_);refine xE hB.1 _ 0 _ _ _ (by simp) hC (λj o _ hl=>by simp[Array.getElem?_replicate]at hl;split at hl<;>simp at hl) hB.2 ?_
 have:=pj (P:=P) (ds:=ds) (ops:=l) (C:=C) (R:=λt w=>Q .normal ⟨t.toArray,ds⟩ w) (N:=λa w=>Q .normal a w) (λt w hk=>hk) l 0 t w.drew (λj=>by simp) h;simpa using this
theorem YO {c:Code}(hp:j0 c=true){Q:Exit->Act->World->Prop}{t:Fr}{w:World}(h:vc P c (λe t w=>Q e ⟨t.toArray,ds⟩ w) t w .mk):c.wp P Q ⟨t.toArray,ds⟩ w :=
 wpIn_wide.1 (Oq (n:=0) (ro:=none) hp h)
theorem Yj {a b:Code}(hp:j0 a=true){Q:Exit->Act->World->Prop}{t:Fr}{w:World}(h:vc P a (tR (λt w=>b.wp P Q ⟨t.toArray,ds⟩ w) (λe t w=>Q e ⟨t.toArray,ds⟩ w) .mk) t w .mk):(Code.seq a b).wp P Q ⟨t.toArray,ds⟩ w:=by
 have e:(λ(t:Fr) (w:World)=>b.wpIn (AH none) 0 P Q ⟨t.toArray,ds⟩ w)=λt w=>b.wp P Q ⟨t.toArray,ds⟩ w:=by
  funext t w;exact propext wpIn_wide
 have h':(λN:Fr->World->Prop=>vc P a (tR N (λe t w=>Q e ⟨t.toArray,ds⟩ w) .mk) t w .mk) (λt w=>b.wpIn (AH none) 0 P Q ⟨t.toArray,ds⟩ w):=by
  rw[e];exact h
 exact wpIn_wide.1 (ma (n:=0) (ro:=none) hp h')
theorem aEo {c:Operand}{x y:Code}{Q:Exit->Act->World->Prop}{t:Fr}{w:World}(hc:ev t c=.bool false)(h:y.wp P Q ⟨t.toArray,ds⟩ w):(Code.cond c x y).wp P Q ⟨t.toArray,ds⟩ w :=
 wpIn_wide.1 (VL (n:=0) (F:=Fence.wide) hc (wpIn_wide.2 h))
theorem aEp {c:Operand}{x y:Code}{Q:Exit->Act->World->Prop}{t:Fr}{w:World}(hc:ev t c=.bool true)(h:x.wp P Q ⟨t.toArray,ds⟩ w):(Code.cond c x y).wp P Q ⟨t.toArray,ds⟩ w :=
 wpIn_wide.1 (aDc (n:=0) (F:=Fence.wide) hc (wpIn_wide.2 h))
theorem rf {c:Code}{Q:Exit->Act->List Frame->World->Prop}{t:Fr}{cs:List Frame}{w:World}(h:vc P c (λe t w=>Q e ⟨t.toArray,[]⟩ cs w) t w .mk):c.wpS P Q ⟨t.toArray,[]⟩ cs w:=by
 refine wpS_of_wp ?_;have h1:=sR c _ _ w h;unfold cZ at h1;refine Code.wp_mono ?_ h1;rintro e a w' ⟨hd,hh⟩;rw[LQ hd];exact hh
theorem xG {ty xT:TypeId}{v:Value}{fs:Array Field}{t:Fr}{w:World}{K:VK}{Q:EP}{p}(hu:P.underlying ty=some (.struct fs))(k:K (.tuple #[v,.bool true]) w):ai P (Instr.typeAssert (.iface ty v) xT ty true) t w K Q p :=
 fh (by simp[Instr.typeAssert,run_underlying hu]) k
theorem Ol {fn:Func}(h:fn.results=#[])(t:Fr)(w:World):(results fn t.toArray).run P w=.ok (.tuple #[]) w:=by
 obtain⟨vs,h1,h2⟩:=cW (P:=P) (w:=w) fn [] h t (λvs=>vs=[]) rfl;rw[h1,h2];rfl
theorem ID {id:Nat}{g:FuncId}{d:Tmp}{cap:List Operand}{ty1 ty2:TypeId}{p1 p2:String}{a1 a2:Array Edge}{Q:Exit->Act->World->Prop}{t:Fr}{w:World}
  (hd:d<t.length) (h:Q .normal ⟨(t.set d (.func (.func g) #[] (cap.map (ev t)).toArray)).toArray,{ target:=.fn (.func g) (cap.map (ev t)).toArray,args:=#[] }::ds⟩ w) :
  (Code.region id #[⟨some d,.makeFunc (.func g) #[] cap.toArray,ty1,p1,a1,none⟩,⟨none,.defer { callee:=.value (.tmp d),args:=#[],argTypes:=#[] },ty2,p2,a2,none⟩] false).wp P Q ⟨t.toArray,ds⟩ w:=by
 refine wp_region_list ?_;unfold wpList;rw[if_pos (by rfl)];refine .inl ?_;unfold Oper.wp;have h1:∀(ρ:Operand->Value) (cap:Array Operand) (o:Oper),o.op=.makeFunc (.func g) #[] cap->(execOp ρ o).run P w=.ok (.value (.func (.func g) #[] (cap.map ρ))) w:=λρ cap o ho=>by
  unfold execOp;simp only[ho];simp[go_sem,Instr.makeFunc]
 rw[h1 _ cap.toArray _ rfl];unfold Oper.upon;dsimp only;rw[gz];unfold wpList;rw[if_pos (by rfl)];refine .inl ?_;unfold Oper.wp;rw[nE,nE];have hg:(put t (some d) (.func (.func g) #[] (cap.toArray.map (ev t)))).getD d undef=.func (.func g) #[] (cap.toArray.map (ev t)):=by
  simp[put,hd]
 have h2:∀(o:Oper),o.op=.defer { callee:=.value (.tmp d),args:=#[],argTypes:=#[] }->(execOp (ev (put t (some d) (.func (.func g) #[] (cap.toArray.map (ev t))))) o).run P w=.ok (.defer { target:=.fn (.func g) (cap.toArray.map (ev t)),args:=#[] }) w:=λo ho=>by
  unfold execOp;simp only[ho];simp only[resolve,ev,hg,Deferred.ofValue];simp[go_sem]
 rw[h2 _ rfl];unfold Oper.upon;dsimp only;unfold wpList;have e:∀(a:Act) ,a.put none undef=a:=λa=>rfl;rw[e];simpa[put] using h
end
end Go.Vc
namespace Go.Proofs.YtemjejfpadnljaaGreatDoor
open Go.Vc Go.Proofs Go.RowKit Cae
attribute [local irreducible] cZ ab ai aX runK ar Sl Vc.Own vc aS bu aZ
theorem Zt (rb eb:Nat)(ev:Value)(f0:List Value)(e0:Value)(hf:f0.length=3)(w:World)(hr:aM w rb 26 f0)(he:aM w eb 34 [e0])(cY:rb≠eb)(hev:jv ev=true) :
  CallsD Tryz.prog 41 #[.pointer (some ⟨rb,0,none⟩),.pointer (some ⟨eb,0,none⟩)] (.panicking [{ v:=.iface 97 (.agg #[ev]),recovered:=false }]) w λe u' w' =>
   e=.returned (.tuple #[])/\u'=.panicking [{ v:=.iface 97 (.agg #[ev]),recovered:=true }]/\aM w' rb 26 [.slice none 0 0,.slice none 0 0,.bool false]/\aM w' eb 34 [ev]/\Kept (λi=>i=rb\/i=eb) w w':=by
 refine callsD_of_wpS Tryz.func41 rfl λc₀ cs hu=>?_;apply wpS_seq;apply wpS_region;simp[wpOpsS,go_sem,recoverD,hu,Tryz.ntmps41,Exit.thenS];refine rf (t:=[.pointer (some ⟨rb,0,none⟩),.pointer (some ⟨eb,0,none⟩),.iface 97 (.agg #[ev]),undef,undef,.iface 97 (.agg #[ev]),undef,undef,undef,undef,undef,undef,undef,undef,undef,undef,undef,undef,undef]) ?_;push_cast -dsimp;refine xG Tryz.underlying97 ?_;push_cast -dsimp;refine aq (z:=[.nilIface]) (by kernel_rfl) ?_;intro w1 aU;have C1:=aU.aL;have R1:=hr.below aU.below hr.lt;have E1:=he.below aU.below he.lt;have z1:=aU.size;push_cast -dsimp;refine aH (xt:=97) (n:=1) (by kernel_rfl) C1 rfl (by decide) (by simp;cases ev<;>first|rfl|(simp[jv]at hev)) ?_
 intro w2 bJ;have C2:aM w2 w.heap.size 97 [ev]:=bJ.aL;have Ky:=hr.lt;have xQ:=he.lt;have R2:=R1.kept bJ.kept (by omega);have E2:=E1.kept bJ.kept (by omega);push_cast -dsimp;refine b8 (λw'=>aM w' w.heap.size 97 [ev]) mixed (by kernel_rfl) C2.drew ?_;have d2:w2.drew.cell? ⟨w.heap.size,0,none⟩=some ev:=C2.drew.cell rfl;push_cast -dsimp[d2];refine⟨λbB h=>by rw[aM.cell h (o:=0) rfl];exact rfl,?_⟩;refine aH (xt:=26) (n:=3) (by kernel_rfl) R2.drew rfl (by rw[hf];exact Nat.le_refl _) (by simp;exact⟨rfl,rfl⟩) ?_;intro w3 cN;have R3:aM w3 rb 26 [.slice none 0 0,.slice none 0 0,.bool false]:=by
  have:=cN.aL;rw[List.take_zero,List.nil_append,Nat.zero_add,List.drop_of_length_le (by rw[hf];exact Nat.le_refl _),List.append_nil]at this;exact this
 have C3:aM w3 w.heap.size 97 [ev]:=C2.drew.kept cN.kept (by omega);have E3:=E2.drew.kept cN.kept (by omega);refine⟨C3,?_⟩;push_cast -dsimp;refine aC E3 (by simp) hev ?_;intro w4 ah;have E4:aM w4 eb 34 [ev]:=ah.aL;have R4:=R3.kept ah.kept (by omega);have C4:aM w4 w.heap.size 97 [ev]:=C3.kept ah.kept (by omega);have k4:Kept (λi=>i=rb\/i=eb) w w4:=(((Kept.new (X:=λi=>i=rb\/i=eb) aU).trans bJ.kept (λi h1 h2=>by omega)).drew.trans cN.kept (λi _ h=>.inl h)).trans ah.kept (λi _ h=>.inr h);refine⟨C4,?_⟩;push_cast -dsimp;exact⟨rfl,_,rfl,.tuple #[],Ol (by rfl) _ _,rfl,rfl,R4,E4,k4⟩
theorem aF2 (rb eb:Nat)(w:World) :
  CallsD Tryz.prog 41 #[.pointer (some ⟨rb,0,none⟩),.pointer (some ⟨eb,0,none⟩)] .returning w λe u' w'=>e=.returned (.tuple #[])/\u'=.returning/\w'=w:=by
 refine callsD_of_wpS Tryz.func41 rfl λc₀ cs hu=>?_;apply wpS_seq;apply wpS_region;simp[wpOpsS,go_sem,recoverD,hu,Tryz.ntmps41,Exit.thenS];refine rf (t:=[.pointer (some ⟨rb,0,none⟩),.pointer (some ⟨eb,0,none⟩),.nilIface,undef,undef,.nilIface,undef,undef,undef,undef,undef,undef,undef,undef,undef,undef,undef,undef,undef]) ?_;push_cast -dsimp;refine⟨rfl,.returning,?_,.tuple #[],Ol (by rfl) _ _,rfl,rfl,rfl⟩;rw[<-hu]
def UE (w:World)(s:List UInt8)(r:Value)(w':World):Prop :=
 (∃f v,da s=.ok f/\r=.tuple #[v,.nilIface]/\kr (·<w.heap.size) w' v f) \/
 (∃e pos b,da s=.error (e,pos)/\r=.tuple #[.agg #[.slice none 0 0,.slice none 0 0,.bool false],.iface 141 (.pointer (some ⟨b,0,none⟩))]/\w.heap.size<=b/\aM w' b 143 [.int .i64 e,.int .i64 pos])
def Zc (w:World)(s:List UInt8)(e:Ending)(w':World):Prop:=∃v,e=.returned v/\UE w s v w'/\Below w.heap.size w w'
theorem ZC {s:List UInt8}{l:List Tok}(hs:s.length<=1000000)(h:TV s=.ok l):TL l:=by
 obtain⟨m,hm,e,hn⟩:=jq _ _ _ _ _ (by simp) h;rw[List.nil_append]at e;subst e;refine⟨⟨m,_,rfl,rfl⟩,λt ht=>?_,by rw[List.length_append,List.length_singleton];simp at hn;omega,λt ht hk=>?_⟩
 ·rcases List.mem_append.1 ht with ht|ht
  ·have:=(hm.inside t ht).length_le;omega
  rw[List.mem_singleton.1 ht];simp
 rcases List.mem_append.1 ht with ht|ht
 ·exact aGT hm t ht hk
 rw[List.mem_singleton.1 ht]at hk;cases hk
theorem JW {w W:World}{s:List UInt8}{fv:List Value}{t:Fr}(h2:t.getD 2 undef=.pointer (some ⟨w.heap.size,0,none⟩))(h3:t.getD 3 undef=.pointer (some ⟨w.heap.size+1,0,none⟩)){x:Value}
  (B1:aM W w.heap.size 26 fv) (B2:aM W (w.heap.size+1) 34 [x]) (hl:fv.length=3) (hR:UE w s (.tuple #[.agg fv.toArray,x]) W) (hb:Below w.heap.size w W) :
  bodyPostD Tryz.prog Tryz.f24 (Zc w s) .ret ⟨t.toArray,[{ target:=.fn (.func 41) #[.pointer (some ⟨w.heap.size,0,none⟩),.pointer (some ⟨w.heap.size+1,0,none⟩)],args:=#[] }]⟩ W:=by
 show Leaves _ _ _ _ _ _ _
 refine leaves_cons (f:=41) (args:=#[.pointer (some ⟨w.heap.size,0,none⟩),.pointer (some ⟨w.heap.size+1,0,none⟩)]) (by simp) ?_ ?_
 ·simp only[invoke,Array.empty_append];exact bh Tryz.func41 (by kernel_rfl) (by kernel_rfl)
 refine(aF2 w.heap.size (w.heap.size+1) W).mono ?_;rintro e u' w' ⟨rfl,rfl,rfl⟩;obtain⟨vs,hv,hk⟩:=cW (P:=Tryz.prog) (w:=w') Tryz.f24 [.cell 2 26,.cell 3 34] (by rfl) t (λvs=>vs=[.agg fv.toArray,x]) (by
  have d1:aB w' ⟨w.heap.size,0,none⟩ 0 3=some fv:=by rw[<-hl];exact B1.aB
  have d2:w'.cell? ⟨w.heap.size+1,0,none⟩=some x:=B2.cell rfl;push_cast -dsimp[h2,h3,d1,d2])
 refine⟨_,hv,_,rfl,?_,hb⟩;rw[hk];exact hR
theorem x9 {w W:World}{s:List UInt8}{e pos:Nat}{fv:List Value}{ce:List PanicEntry}{t:Fr}(h2:t.getD 2 undef=.pointer (some ⟨w.heap.size,0,none⟩))(h3:t.getD 3 undef=.pointer (some ⟨w.heap.size+1,0,none⟩)){x:Value}
  (B1:aM W w.heap.size 26 fv) (B2:aM W (w.heap.size+1) 34 [x]) (hl:fv.length=3) (hT:Thr (w.heap.size+2) W ce e pos) (hp:da s=.error (e,pos)) (hb:Below w.heap.size w W) :
  bodyPostD Tryz.prog Tryz.f24 (Zc w s) (.panic ce) ⟨t.toArray,[{ target:=.fn (.func 41) #[.pointer (some ⟨w.heap.size,0,none⟩),.pointer (some ⟨w.heap.size+1,0,none⟩)],args:=#[] }]⟩ W:=by
 obtain⟨b,Ti,rfl,hB⟩:=hT
 show Leaves _ _ _ _ _ _ _
 refine leaves_cons (f:=41) (args:=#[.pointer (some ⟨w.heap.size,0,none⟩),.pointer (some ⟨w.heap.size+1,0,none⟩)]) (by simp) ?_ ?_
 ·simp only[invoke,Array.empty_append];exact bh Tryz.func41 (by kernel_rfl) (by kernel_rfl)
 refine(Zt w.heap.size (w.heap.size+1) _ fv x hl W B1 B2 (by omega) rfl).mono ?_;rintro e' u' w' ⟨rfl,rfl,R1,R2,hk⟩;have o8:=hB.kept hk (by omega);have Dc:=hb.trans (hk.below (B:=w.heap.size) hb.size (λi h=>by omega));obtain⟨vs,hv,hk⟩:=cW (P:=Tryz.prog) (w:=w') Tryz.f24 [.cell 2 26,.cell 3 34] (by rfl) t (λvs=>vs=[.agg #[.slice none 0 0,.slice none 0 0,.bool false],.iface 141 (.pointer (some ⟨b,0,none⟩))]) (by
  have d1:aB w' ⟨w.heap.size,0,none⟩ 0 3=some [.slice none 0 0,.slice none 0 0,.bool false]:=R1.aB;have d2:w'.cell? ⟨w.heap.size+1,0,none⟩=some (.iface 141 (.pointer (some ⟨b,0,none⟩))):=R2.cell rfl;push_cast -dsimp[h2,h3,d1,d2])
 show Leaves _ _ _ _ [] (settle _) _
 refine⟨_,hv,_,rfl,?_,Dc⟩;rw[hk];exact .inr ⟨e,pos,b,hp,rfl,by omega,o8⟩
theorem Sl.off {X:Nat->Prop}{w:World}{v:Value}{l:List Tok}{rb:Nat}{e:TypeId}{cs:List Value}(h:Sl X 3 (En jR) w v l)(hB:aM w rb e cs)(iS:∀(o:Nat) (u:Value),cs[o]?=some u->∀n,u≠.int .i64 n):Sl (λb=>X b\/b=rb) 3 (En jR) w v l:=by
 unfold Sl at h ⊢
 obtain⟨a,c,rfl,hc,h⟩:=h;refine⟨a,c,rfl,hc,λi x hx=>?_⟩;obtain⟨b,o,ks,ha,hb,hk,aP,hr⟩:=h i x hx;refine⟨b,o,ks,ha,λhh=>?_,hk,aP,hr⟩;rcases hh with hh|rfl
 ·exact hb hh
 have jK:ks=jR x:=hr;have h0:=aP 0 (.int .i64 x.kind) (by rw[jK];rfl);have h1:cs[o+i*3+0]?=some (.int .i64 x.kind):=by
  have o8:w.heap[b]?=_:=hB;simp only[World.cell?,o8]at h0;simpa using h0
 exact iS _ _ h1 _ rfl
theorem PS.off {pb B rb:Nat}{w w':World}{l:List Tok}{e:TypeId}{cs:List Value}(h:PS pb B w l)(hB:aM w rb e cs)(iS:∀(o:Nat) (u:Value),cs[o]?=some u->∀n,u≠.int .i64 n)(cY:rb≠pb)(hg:10<=rb)(hk:Kept (·=rb) w w'):PS pb B w' l:=by
 obtain⟨v,h1,h2⟩:=h.st;exact⟨⟨v,h1.kept hk (λhh=>cY hh.symm),((Sl.off h2 hB iS).kept hk (λi hi=>.inr hi)).weaken (λi hi=>.inl hi)⟩,h.lt,Nat.le_trans h.le hk.size,h.tl,h.db.kept hk (λi hi hh=>by omega),h.er.kept hk (λi hi hh=>by omega),h.gl⟩
theorem xq (s:List UInt8)(hs:s.length<=1000000)(w:World)(hd:Db w)(he:mB w)(hg:10<=w.heap.size):ar Tryz.prog 24 [str s] w λr w'=>UE w s r w'/\Below w.heap.size w w':=by
 unfold ar;refine⟨bh Tryz.func24 (by kernel_rfl) (by kernel_rfl),?_⟩;refine calls_of_wp_defers Tryz.func24 rfl ?_;have e:(([str s]:List Value).toArray++Array.replicate (Tryz.f24.ntmps-([str s]:List Value).toArray.size) undef)=(xN [str s] Tryz.f24.ntmps).toArray:=by simp[xN]
 rw[e];simp -dsimp (maxSteps:=9^7) only[push_cast,xN,Tryz.ntmps24,List.length_cons,List.length_nil,Nat.reduceAdd,Nat.reduceSub,Nat.reduceBEq,List.replicate_succ,List.replicate_zero];have hR:∃R:Ending->World->Prop,R=Zc w s:=⟨_,rfl⟩
 show Code.wp _ _ (bodyPostD Tryz.prog Tryz.f24 (Zc w s)) _ _
 refine Yj (by rfl) ?_;push_cast -dsimp;refine aq (z:=[.slice none 0 0,.slice none 0 0,.bool false]) (by kernel_rfl) ?_;intro w1 aU;have R1:=aU.aL;have z1:=aU.size;have b1:=aU.below;push_cast -dsimp;refine aq (z:=[.nilIface]) (by kernel_rfl) ?_;intro w2 bJ;have E2:=bJ.aL;have R2:=R1.below bJ.below (by omega);have z2:=bJ.size;have b2:=b1.trans (bJ.below.mono (by omega));rw[z1]at E2;push_cast -dsimp[z1];refine wp_seq (ID (cap:=[.tmp 2,.tmp 3]) (by simp) ?_);simp -dsimp only[push_cast];refine Yj (by rfl) ?_;push_cast -dsimp;refine aA (ZG s hs w2) ?_;rintro r w3 ⟨hT,b3⟩;have R3:=R2.below b3 (by omega);have E3:=E2.below b3 (by omega);have z3:=b3.size;have gV:=b2.trans (b3.mono (by omega));rcases hT with ⟨l,v,RY,rfl,hO⟩|⟨en,pos,b,RY,rfl,Ti,hB⟩
 ·obtain⟨va,vc,rfl⟩:=hO.slice;push_cast -dsimp;refine aC E3 (by simp) rfl ?_;intro w4 ah;have E4:aM w4 (w.heap.size+1) 34 [.nilIface]:=ah.aL;have R4:=R3.kept ah.kept (by omega);have z4:=ah.size;have yg:=hO.aJ ah.kept (λg hg h=>by have:=(hO.block g hg).1;omega);have nn:=gV.trans (ah.kept.below (B:=w.heap.size) (by omega) (λi h=>by omega));have d4:w4.cell? ⟨w.heap.size+1,0,none⟩=some .nilIface:=E4.cell rfl;push_cast -dsimp;refine wp_seq (Yj (by rfl) ?_);push_cast -dsimp[d4];refine aEo (by rfl) (wp_skip ?_)
  show Code.wp _ _ _ _ _
  refine YO (by rfl) ?_;push_cast -dsimp;refine aR ?_;intro w5 cI;have z5:=cI.size;have OQ:∃pb,pb=w4.heap.size:=⟨_,rfl⟩;obtain⟨pb,OQ⟩:=OQ;have PB:=cI.aL;have E5:=E4.below cI.below E4.lt;have R5:=R4.below cI.below R4.lt;have mn:=nn.trans (cI.below.mono nn.size);rw[<-OQ]at PB;have LA:=ZC hs RY;have P5:PS pb (pb+1) w5 l:=⟨⟨_,PB,((Sl.top (by decide) yg.sl).below cI.below).weaken (λi h=>by omega)⟩,by omega,by omega,LA,hd.below mn hd.lt,he.below mn,by omega⟩;push_cast -dsimp[<-OQ];refine aF (aED P5) ?_ ?_
  ·rintro _ w6 ⟨f,l',ef,⟨cv,rv,cs,rs,rfl,S1,S2,A1,A2⟩,P6,k6⟩;have E6:=E5.kept k6 (by omega);have R6:=R5.kept k6 (by omega);have z6:=k6.size;have ob:=mn.trans (k6.below (B:=w.heap.size) mn.size (λi h=>by omega));push_cast -dsimp[<-OQ];refine aH (xt:=26) (n:=3) (by kernel_rfl) R6 rfl (by decide) ?_ ?_
   ·obtain⟨_,_,rfl,_⟩:=S1.shape;obtain⟨_,_,rfl,_⟩:=S2.shape;simp;exact⟨rfl,rfl,rfl⟩
   intro w7 fB;have R7:aM w7 w.heap.size 26 [cv,rv,.bool f.dG]:=fB.aL;have E7:=E6.kept fB.kept (by omega);have k7:Kept (λi=>i=w.heap.size) w6 w7:=fB.kept;have P7:PS pb (pb+1) w7 l':=P6.off R6 (λo u hu n hn=>by
    subst hn;match o with
    | 0=>simp at hu
    | 1=>simp at hu
    | 2=>simp at hu
    | o+3=>simp at hu) (by omega) (by omega) k7
   have z7:=fB.size;have lq:=ob.trans (fB.kept.below (B:=w.heap.size) ob.size (λi h=>by omega));obtain⟨t1,r1,mg⟩:=P7.tl.cons;have P7':=P7;rw[mg]at P7';obtain⟨b1,o1,c1,hBp,hc,cY,c0,c1',c2,c3⟩:=P7'.hd;have cb:w7.cell? ⟨pb,0,none⟩=some (.slice (some ⟨b1,o1,none⟩) (r1.length+1) c1):=hBp.cell rfl;have Wo:isKind 5 l'=decide (t1.kind=5):=by
    rw[mg]
    show (t1.kind == 5)=_
    by_cases h:t1.kind=5<;>simp[h]
   push_cast -dsimp[<-OQ,cb,c0];refine⟨by omega,λh5=>?_,λh5=>?_⟩
   ·have CT:isKind 5 l'=false:=by rw[Wo];exact decide_eq_false (λh=>h5 (by omega))
    refine aF (jS 3 P7) (λ_ _ h=>h.elim) ?_;rintro ce w8 ⟨ht,hb⟩;have hpe:da s=.error (3,(Cae.hd l').pos):=by
     unfold da;rw[RY];dsimp only;rw[ef];dsimp only;rw[CT];rfl
    push_cast -dsimp[<-OQ];refine x9 (t:=_) (by rfl) (by rfl) (R7.below hb R7.lt) (E7.below hb E7.lt) rfl (ht.mono (by omega)) hpe (lq.trans (hb.mono lq.size))
   have CT:isKind 5 l'=true:=by rw[Wo];exact decide_eq_true (by omega)
   have aOI:da s=.ok f:=by
    unfold da;rw[RY];dsimp only;rw[ef];dsimp only;rw[CT];rfl
   have d7:aB w7 ⟨w.heap.size,0,none⟩ 0 3=some [cv,rv,.bool f.dG]:=R7.aB;push_cast -dsimp[<-OQ,d7];refine aH (xt:=26) (n:=3) (by kernel_rfl) R7 rfl (Nat.le_refl _) ?_ ?_
   ·obtain⟨_,_,rfl,_⟩:=S1.shape;obtain⟨_,_,rfl,_⟩:=S2.shape;simp;exact⟨rfl,rfl,rfl⟩
   intro w8 np;have R8:aM w8 w.heap.size 26 [cv,rv,.bool f.dG]:=np.aL;have E8:=E7.kept np.kept (by omega);have z8:=np.size;push_cast -dsimp[<-OQ];refine aC E8 (by simp) rfl ?_;intro w9 DH;have E9:aM w9 (w.heap.size+1) 34 [.nilIface]:=DH.aL;have R9:=R8.kept DH.kept (by omega);have k69:Kept (λi=>i<w5.heap.size) w6 w9:=((k7.weaken (Y:=λi=>i<w5.heap.size) (λi _ h=>by omega)).trans np.kept (λi _ h=>by omega)).trans DH.kept (λi _ h=>by omega);have lS:=lq.trans (((np.kept.weaken (Y:=λi=>w.heap.size<=i) (λi _ h=>by omega)).trans DH.kept (λi _ h=>by omega)).below (B:=w.heap.size) lq.size (λi h=>h));push_cast -dsimp[<-OQ];refine JW (t:=_) (by rfl) (by rfl) R9 E9 rfl (.inl ⟨f,_,aOI,rfl,cv,rv,cs,rs,rfl,(S1.kept k69 (λi h=>h)).weaken (λi h=>by omega),(S2.kept k69 (λi h=>h)).weaken (λi h=>by omega),A1.imp λa c h=>h.mono k69 (λi h=>h) (λi h=>by omega),A2.imp λa c h=>h.mono k69 (λi h=>h) (λi h=>by omega)⟩) lS
  rintro ce w6 ⟨en,pos,OD,ht,hk⟩;have E6:=E5.kept hk (by omega);have R6:=R5.kept hk (by omega);have ob:=mn.trans (hk.below (B:=w.heap.size) mn.size (λi h=>by omega));have hpe:da s=.error (en,pos):=by
   unfold da;rw[RY];dsimp only;rw[OD]
  push_cast -dsimp[<-OQ];exact x9 (t:=_) (by rfl) (by rfl) R6 E6 rfl (ht.mono (by omega)) hpe ob
 push_cast -dsimp;refine aC E3 (by simp) rfl ?_;intro w4 ah;have E4:aM w4 (w.heap.size+1) 34 [.iface 141 (.pointer (some ⟨b,0,none⟩))]:=ah.aL;have R4:=R3.kept ah.kept (by omega);have z4:=ah.size;have Cq:=hB.kept ah.kept (by omega);have nn:=gV.trans (ah.kept.below (B:=w.heap.size) (by omega) (λi h=>by omega));have d4:w4.cell? ⟨w.heap.size+1,0,none⟩=some (.iface 141 (.pointer (some ⟨b,0,none⟩))):=E4.cell rfl;push_cast -dsimp;refine wp_seq (Yj (by rfl) ?_);push_cast -dsimp[d4];refine aEp (by rfl) (wp_seq ?_);refine ZN (λw'=>w'.cell? ⟨w.heap.size+1,0,none⟩=some (.iface 141 (.pointer (some ⟨b,0,none⟩)))) mixed (by kernel_rfl) d4 ?_;have d4d:w4.drew.cell? ⟨w.heap.size+1,0,none⟩=some (.iface 141 (.pointer (some ⟨b,0,none⟩))):=d4;push_cast -dsimp[d4d];refine⟨λbB h=>by rw[h];exact rfl,?_⟩;refine aH (xt:=26) (n:=3) (by kernel_rfl) R4.drew rfl (by decide) (by simp;exact⟨rfl,rfl⟩) ?_;intro w5 cI;have R5:aM w5 w.heap.size 26 [.slice none 0 0,.slice none 0 0,.bool false]:=cI.aL;have E5:=E4.drew.kept cI.kept (by omega);have GG:=Cq.drew.kept cI.kept (by omega);refine⟨E5.cell rfl,?_⟩;push_cast -dsimp;refine aC E5 (by simp) rfl ?_;intro w6 bQ;have E6:aM w6 (w.heap.size+1) 34 [.iface 141 (.pointer (some ⟨b,0,none⟩))]:=bQ.aL;have R6:=R5.kept bQ.kept (by omega);have rO:=GG.kept bQ.kept (by omega);have ob:=nn.trans (((Kept.refl (λi=>w.heap.size<=i) w4).drew.trans cI.kept (λi _ h=>by omega)).trans bQ.kept (λi _ h=>by omega) |>.below (B:=w.heap.size) nn.size (λi h=>h))
 have hpe:da s=.error (en,pos):=by
  unfold da;rw[RY]
 refine⟨E6.cell rfl,?_⟩;push_cast -dsimp;refine wp_ret ?_;exact JW (t:=_) (by rfl) (by rfl) R6 E6 rfl (.inr ⟨en,pos,b,hpe,rfl,by omega,rO⟩) ob
end Go.Proofs.YtemjejfpadnljaaGreatDoor
namespace Cae
def TB (l:List Tok):Prop:=∀t∈l,t.text.length<=1000000
def Iv {α:Type}(I:α->Prop)(p:Pa α):Prop:=∀l x l',TB l->p l=.ok (x,l')->I x/\TB l'
section
variable {α β:Type} {I:α->Prop} {J:β->Prop} {p:Pa α} {q:α->Pa β}
theorem Iv.pr {x:α}(h:I x):Iv I (pr x):=λl y l' hl e=>by cases e;exact⟨h,hl⟩
theorem Iv.fail {e:Nat}:Iv I (dt e):=λl y l' _ h=>by cases h
theorem Iv.pb (h:Iv I p)(k:∀x,I x->Iv J (q x)):Iv J (pb p q):=λl y l' hl e=>by
 obtain⟨x,l1,e1,e2⟩:=dr e;obtain⟨h1,h2⟩:=h l x l1 hl e1;exact k x h1 l1 y l' h2 e2
theorem Iv.ay {cc:List Tok->Bool}{p1 p2:Pa α}(h1:Iv I p1)(h2:Iv I p2):Iv I (ay cc p1 p2):=λl x l' hl e=>by
 unfold Cae.ay at e;split at e
 ·exact h1 l x l' hl e
 exact h2 l x l' hl e
theorem Iv.ite {c:Prop}[Decidable c]{p1 p2:Pa α}(h1:c->Iv I p1)(h2:¬c->Iv I p2):Iv I (if c then p1 else p2):=by
 by_cases h:c
 ·rw[if_pos h];exact h1 h
 rw[if_neg h];exact h2 h
end
def Tv {α:Type}(_:α):Prop:=True
theorem Iv.dY:Iv (λt=>t.text.length<=1000000) dY:=λl x l' hl e=>by
 cases e;refine⟨?_,hl⟩;cases l with
 | nil=>simp[hd]
 | cons t r=>exact hl t (List.mem_cons_self ..)
theorem Iv.pop:Iv Tv cL:=λl x l' hl e=>by
 obtain⟨t,rfl,_⟩:=tO e;exact⟨trivial,λy hy=>hl y (List.mem_cons_of_mem _ hy)⟩
theorem fg (s:List UInt8):Iv Tv (cg s):=Iv.ay Iv.pop Iv.fail
theorem O0:Iv Tv mW:=Iv.ay (Iv.ay Iv.fail (Iv.pb Iv.dY λt _=>Iv.pb Iv.pop λ_ _=>Iv.pr trivial)) Iv.fail
theorem aF7:Iv (λc=>c=0\/c=3\/c=4\/c=5) tq :=
 Iv.ay (Iv.pb Iv.pop λ_ _=>Iv.pr (by simp)) (Iv.ay (Iv.pb Iv.pop λ_ _=>Iv.pr (by simp)) (Iv.ay (Iv.pb Iv.pop λ_ _=>Iv.pr (by simp)) (Iv.pr (by simp))))
theorem x6 {one:Pa ax}(h:Iv gQ one)(pos:Nat):∀(n:Nat) (k:ax),gQ k->Iv gQ (dN one pos n k)
 | 0,k,_=>Iv.fail
 | n+1,k,hk=>Iv.pb aF7 λc hc=>Iv.ite (λ_=>Iv.pr hk) λhc0=>Iv.pb h λr hr=>x6 h pos n _ ⟨hk,hr,by rcases hc with hc|hc;exact absurd hc hc0;exact hc⟩
theorem JT {one:Pa ax}(h:Iv gQ one):Iv gQ (sM one):=Iv.pb Iv.dY λt _=>Iv.pb h λk hk=>x6 h _ _ _ hk
theorem aF8:Iv gQ G9:=Iv.pb Iv.dY λt ht=>by
 cases hs:HI t.text with
 | none=>exact Iv.fail
 | some s =>
  refine Iv.pb Iv.pop λ_ _=>Iv.pr ?_;have h1:=HJ hs;refine⟨h1.1,?_⟩;have h2:gU s=t.text:=h1.2;have h3:=(qh (s.map ry) [32] (by decide)).2;have h4:(gU s).length=(Go.Lib.join (s.map ry) [32]).length+2:=by simp[gU]
  rw[h2]at h4;rw[List.length_map]at h3;omega
theorem Ac:∀d,Iv gQ (kZ d)
 | 0=>Iv.fail
 | d+1=>Iv.ay aF8 (Iv.ay (Iv.pb Iv.dY λt _=>Iv.pb Iv.pop λ_ _=>Iv.pb (Ac d) λk hk=>Iv.pr hk)
   (Iv.ay (Iv.pb Iv.pop λ_ _=>Iv.pb (JT (Ac d)) λk hk=>Iv.pb (fg _) λ_ _=>Iv.pr hk)
    (Iv.pb Iv.dY λt _=>Iv.pb O0 λn _=>Iv.pr trivial)))
theorem JU:Iv (λn=>n<=12) j5:=Iv.ay (Iv.pb Iv.dY λt _=>Iv.ite (λ_=>Iv.fail) λh=>Iv.pb Iv.pop λ_ _=>Iv.pr (by omega)) Iv.fail
def LN (q:Int×Int):Prop:=0<=q.1/\q.1<100/\q.2<100/\(q.2<0\/q.1<=q.2)
theorem Rr:Iv LN dA:=Iv.pb JU λlo AV=>Iv.ay (Iv.pb Iv.pop λ_ _=>Iv.ay
  (Iv.pb JU λhi Wn=>Iv.ite (λ_=>Iv.fail) λhh=>Iv.pb (fg _) λ_ _=>Iv.pr ⟨by show 0<=(lo:Int);omega,by show (lo:Int)<100;omega,by show (hi:Int)<100;omega,.inr (by show (lo:Int)<=hi;omega)⟩)
  (Iv.pb (fg _) λ_ _=>Iv.pr ⟨by show 0<=(lo:Int);omega,by show (lo:Int)<100;omega,by show (-1:Int)<100;omega,.inl (by show (-1:Int)<0;omega)⟩))
 (Iv.pb (fg _) λ_ _=>Iv.pr ⟨by show 0<=(lo:Int);omega,by show (lo:Int)<100;omega,by show (lo:Int)<100;omega,.inr (Int.le_refl _)⟩)
theorem Ds:Iv (λo=>∀q,o=some q->LN q) eJ:=by
 have h:∀r:Int×Int,LN r->Iv (λo=>∀q,o=some q->LN q) (pb cL λ_=>pr (some r)):=λr hr=>Iv.pb Iv.pop λ_ _=>Iv.pr (by intro q e;cases e;exact hr);refine Iv.ay (h _ (by unfold LN;decide)) (Iv.ay (h _ (by unfold LN;decide)) (Iv.ay (h _ (by unfold LN;decide)) (Iv.ay ?_ (Iv.pr (by intro q e;cases e)))));exact Iv.pb Iv.pop λ_ _=>Iv.pb Rr λr hr=>Iv.pr (by intro q e;cases e;exact hr)
theorem uf (d:Nat):∀(n c:Nat) (x:aG),bK x->Iv bK (bX d n c x)
 | 0,_,_,_=>Iv.fail
 | n+1,c,x,hx=>Iv.pb Ds λr hr=>by
   cases r with
   | none=>exact Iv.pr hx
   | some q =>
    have hq:=hr q rfl;refine Iv.ite (λ_=>Iv.fail) λ_=>uf d n (c+1) _ ?_;simp only[bK];exact⟨hx,hq.1,hq.2.1,hq.2.2⟩
theorem Rq {d:Nat}{unit:Pa aG}(h:Iv bK unit):Iv bK (aY d unit):=Iv.pb h λx hx=>uf d _ _ _ hx
theorem nN:∀{l:List aG} {x:aG},cU l->bK x->cU (l++[x])
 | [],x,_,h=>by simp only[List.nil_append,cU];exact⟨h,trivial⟩
 | y::l,x,hl,h=>by
  simp only[cU,List.cons_append]at hl ⊢
  exact⟨hl.1,nN hl.2 h⟩
theorem BG:cU []:=by simp only[cU]
theorem Ad {again:Pa aG}(h:Iv bK again):∀(n:Nat) (a:List aG),cU a->Iv cU (bF again n a)
 | 0,_,_=>Iv.fail
 | n+1,a,ha=>Iv.ay (Iv.pb h λx hx=>Ad h n _ (nN ha hx)) (Iv.pr ha)
theorem Yd {l:List aG}(h:cU l):bK (rowOf l):=by
 match l with
 | []=>simp only[rowOf,bK];exact h
 | [x]=>simp only[cU]at h;exact h.1
 | x::y::l=>simp only[rowOf,bK];exact h
theorem UJ {l:List aG}(h:cU l):bK (jO l):=by
 match l with
 | []=>simp only[jO,bK];exact h
 | [x]=>simp only[cU]at h;exact h.1
 | x::y::l=>simp only[jO,bK];exact h
theorem aBD {again:Pa aG}(h:Iv bK again):Iv bK (iI again):=Iv.pb (Ad h _ _ BG) λps tC=>Iv.pr (Yd tC)
theorem Ab {row:Pa aG}(h:Iv bK row):∀(n:Nat) (a:List aG),cU a->Iv cU (eS row n a)
 | 0,_,_=>Iv.fail
 | n+1,a,ha=>Iv.ay (Iv.pb Iv.pop λ_ _=>Iv.pb h λx hx=>Ab h n _ (nN ha hx)) (Iv.pr ha)
theorem aBB {row:Pa aG}(h:Iv bK row):Iv bK (LR row):=Iv.pb h λx hx=>Iv.pb (Ab h _ _ (nN BG hx)) λps tC=>Iv.pr (UJ tC)
theorem O1 {d:Nat}{unit:Pa aG}(h:Iv bK unit):Iv bK (BF d unit):=Iv.ite (λ_=>Iv.fail) λ_=>aBB (aBD (Rq h))
theorem O4:∀d,Iv bK (aw d)
 | 0=>Iv.fail
 | d+1=>Iv.ay (Iv.pb Iv.pop λ_ _=>Iv.pr (by simp only[bK])) (Iv.ay (Iv.pb Iv.pop λ_ _=>Iv.pr (by simp only[bK]))
   (Iv.ay (Iv.pb Iv.pop λ_ _=>Iv.pb (O1 (O4 d)) λx hx=>Iv.pb (fg _) λ_ _=>Iv.pr hx)
    (Iv.ay (Iv.pb (Ac (d+1)) λk hk=>Iv.pr (by simp only[bK];exact hk)) Iv.fail)))
theorem XR (d:Nat):Iv bK (qu d):=O1 (O4 d)
theorem yj:Iv Tv gW:=Iv.ay (Iv.pb Iv.pop λ_ _=>Iv.pr trivial) (Iv.pb (fg _) λ_ _=>Iv.pr trivial)
theorem aBE:Iv (λr=>bK r.before/\bK r.after) lL:=Iv.pb Iv.dY λt _=>Iv.pb yj λb _=>Iv.pb (XR 9) λx hx=>Iv.pb (fg _) λ_ _=>Iv.pb (XR 9) λy hy=>Iv.pb (fg _) λ_ _=>Iv.pr ⟨hx,hy⟩
theorem XQ:Iv (λc=>gQ c.kind) nW:=Iv.pb Iv.dY λt _=>Iv.pb (fg _) λ_ _=>Iv.pb O0 λn _=>Iv.pb (fg _) λ_ _=>Iv.pb (JT (Ac 9)) λk hk=>Iv.pb (fg _) λ_ _=>Iv.pr hk
theorem x7:∀(n:Nat) (acc:List dJ),acc.length<=20/\(∀r∈acc,bK r.before/\bK r.after)->Iv (λl=>l.length<=20/\∀r∈l,bK r.before/\bK r.after) (bT n acc)
 | 0,_,_=>Iv.fail
 | n+1,acc,ha=>Iv.ay (Iv.ite (λ_=>Iv.fail) λh=>Iv.pb aBE λr hr=>x7 n _ ⟨by have:=ha.1;rw[List.length_append,List.length_singleton];omega,λx hx=>by
   rcases List.mem_append.1 hx with hx|hx
   ·exact ha.2 x hx
   rw[List.mem_singleton.1 hx];exact hr⟩) (Iv.pr ha)
theorem pG:∀(n:Nat) (acc:List fD),acc.length<=20/\(∀c∈acc,gQ c.kind)->Iv (λl=>l.length<=20/\∀c∈l,gQ c.kind) (bU n acc)
 | 0,_,_=>Iv.fail
 | n+1,acc,ha=>Iv.ay (Iv.ite (λ_=>Iv.fail) λh=>Iv.pb XQ λr hr=>pG n _ ⟨by have:=ha.1;rw[List.length_append,List.length_singleton];omega,λx hx=>by
   rcases List.mem_append.1 hx with hx|hx
   ·exact ha.2 x hx
   rw[List.mem_singleton.1 hx];exact hr⟩) (Iv.pr ha)
theorem aBC:Iv (λf=>Eh f/\f.cO.length<=20/\f.rules.length<=20) jC:=Iv.pb (pG _ _ ⟨by simp,by simp⟩) λcs iS=>Iv.pb (x7 _ _ ⟨by simp,by simp⟩) λrs jV =>
 Iv.pb (I:=Tv) (λl x l' hl e=>⟨trivial,(show Iv Tv nz from Iv.ay (Iv.pb Iv.pop λ_ _=>Iv.pb yj λ_ _=>Iv.pb (fg _) λ_ _=>Iv.pr trivial) (Iv.pr trivial)) l x l' hl e |>.2⟩) λb _=>Iv.pr ⟨⟨iS.2,jV.2⟩,iS.1,jV.1⟩
end Cae
namespace Go.Proofs.YtemjejfpadnljaaGreatDoor
open Go.Vc Go.Proofs Go.RowKit Cae
attribute [local irreducible] cZ ab ai aX runK ar Sl Vc.Own vc aS bu aZ
theorem Jr {s:List UInt8}{f:de}(hs:s.length<=1000000)(h:da s=.ok f):Eh f/\f.cO.length<=20/\f.rules.length<=20:=by
 unfold da at h;split at h
 ·cases h
 rename_i l hl;have LA:=ZC hs hl;split at h
 ·cases h
 rename_i f' l' hf;split at h
 ·cases h;exact(aBC _ _ _ LA.txt hf).1
 cases h
end Go.Proofs.YtemjejfpadnljaaGreatDoor
namespace Cae
abbrev ba:=List (List UInt8×List Rg)
def sG (n:List UInt8):ba->Option (List Rg)
 | []=>none
 | x::l=>if x.1=n then some x.2 else sG n l
def cD (nm:ba):ax->Except Nat (List Rg)
 | .lit _ s=>.ok s
 | .ref pos n=>match sG n nm with
  | some s=>.ok s
  | none=>.error pos
 | .not _ k=>match cD nm k with
  | .ok s=>.ok (gr s)
  | .error e=>.error e
 | .bin c _ k r=>match cD nm k with
  | .error e=>.error e
  | .ok s=>match cD nm r with
   | .error e=>.error e
   | .ok t=>.ok (if c=3 then Bh s t else if c=4 then Bf s t else yr s t)
def gm:ba->List fD->Except (Nat×Nat) ba
 | nm,[]=>.ok nm
 | nm,c::l=>if (sG c.name nm).isSome then .error (5,c.pos) else match cD nm c.kind with
  | .error e=>.error (6,e)
  | .ok s=>gm (nm++[(c.name,s)]) l
mutual
def gy (nm:ba):aG->Option Nat
 | .one k=>match cD nm k with
  | .error e=>some e
  | .ok _=>none
 | .any=>none
 | .gh=>none
 | .cat l=>iX nm l
 | .alt l=>iX nm l
 | .many x _ _=>gy nm x
def iX (nm:ba):List aG->Option Nat
 | []=>none
 | x::l=>match gy nm x with
  | some e=>some e
  | none=>iX nm l
end
def ET (nm:ba)(r:dJ):Option Nat:=match gy nm r.before with
 | some e=>some e
 | none=>gy nm r.after
def gE (nm:ba):List dJ->Option Nat
 | []=>none
 | r::l=>match ET nm r with
  | some e=>some e
  | none=>gE nm l
def jM (nm:ba):Prop:=∀x∈nm,aO (-2) x.2=true
theorem I7 {nm:ba}(h:jM nm){n:List UInt8}{s:List Rg}(hf:sG n nm=some s):aO (-2) s=true:=by
 induction nm with
 | nil=>cases hf
 | cons x l ih =>
  rw[sG]at hf;split at hf
  ·cases hf;exact h x (List.mem_cons_self ..)
  exact ih (λy hy=>h y (List.mem_cons_of_mem _ hy)) hf
theorem eW {nm:ba}(h:jM nm):∀{k:ax} {s:List Rg},gQ k->cD nm k=.ok s->aO (-2) s=true
 | .lit _ s0,s,hk,e=>by cases e;exact hk.1
 | .ref pos n,s,hk,e=>by
  rw[cD]at e;split at e
  ·rename_i t ht;cases e;exact I7 h ht
  cases e
 | .not _ k,s,hk,e=>by
  rw[cD]at e;split at e
  ·rename_i t ht;cases e;exact pW (eW (k:=k) h hk ht)
  cases e
 | .bin c _ k r,s,hk,e=>by
  rw[cD]at e;split at e
  ·cases e
  split at e
  ·cases e
  cases e;split
  ·exact rC _ _
  split
  ·exact vL _ _
  exact DW _ _
mutual
def Nc (Q:ax->Prop):aG->Prop
 | .one k=>Q k
 | .any=>True
 | .gh=>True
 | .cat l=>zE Q l
 | .alt l=>zE Q l
 | .many x _ _=>Nc Q x
def zE (Q:ax->Prop):List aG->Prop
 | []=>True
 | x::l=>Nc Q x/\zE Q l
end
mutual
def aC8 (S:ax->List Rg):aG->aG
 | .one k=>.one (.lit 0 (S k))
 | .any=>.any
 | .gh=>.gh
 | .cat l=>.cat (UY S l)
 | .alt l=>.alt (UY S l)
 | .many x lo hi=>.many (aC8 S x) lo hi
def UY (S:ax->List Rg):List aG->List aG
 | []=>[]
 | x::l=>aC8 S x::UY S l
end
end Cae
