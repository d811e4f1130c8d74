/- Texts of this claim, merged: Rp9, Rpa, Vd, Rpb, Rpc, Prl4, Pmean4. -/
import Derived.Test.YtemjejfpadnljaaGreatDoorM7
import Derived.Recover
set_option maxRecDepth 100000
set_option linter.unusedSimpArgs false
set_option linter.unusedVariables false
set_option maxHeartbeats 8000000
section
namespace Go.Proofs.YtemjejfpadnljaaGreatDoor
open Go.Vc Go.Proofs Go.RowKit Cae
attribute [local irreducible] cg aa ag aX runK ar Sl Vc.Own vc aQ br a7
mutual
theorem aOT:∀d,NP d
 | 0=>EN
 | d+1=>EM d (sJ d)
theorem sJ:∀d,aDA d
 | 0=>Xa 0 (YH 0 (HX 0 EN))
 | d+1=>Xa (d+1) (YH (d+1) (HX (d+1) (EM d (sJ d))))
end
def zX (a:List UInt8×Nat×Nat):List Value:=[str a.1,.int .i64 a.2.1,bw a.2.2]
def j8 (a:Nat×Bool×Nat×Nat):List Value:=[.int .i64 a.1,.bool a.2.1,bw a.2.2.1,bw a.2.2.2]
theorem VI (a:List UInt8×Nat×Nat):∀u∈zX a,u.oneCell'=true:=by
 intro u hu;simp[zX,bw]at hu;rcases hu with rfl|rfl|rfl<;>rfl
theorem rF (a:Nat×Bool×Nat×Nat):∀u∈j8 a,u.oneCell'=true:=by
 intro u hu;simp[j8,bw]at hu;rcases hu with rfl|rfl|rfl|rfl<;>rfl
def tV (X:Nat->Prop)(w:World)(a:List UInt8×Nat×Nat)(c:fB):Prop:=a.1=c.name/\a.2.1=c.pos/\eX X w (bw a.2.2) c.kind
def mh (X:Nat->Prop)(w:World)(a:Nat×Bool×Nat×Nat)(r:dG):Prop:=a.1=r.pos/\a.2.1=r.brk/\bC X w (bw a.2.2.1) r.before/\bC X w (bw a.2.2.2) r.after
theorem _root_.Cae.dW.imp {α β:Type}{R S:α->β->Prop}{l:List α}{m:List β}(h:dW R l m)(k:∀a b,R a b->S a b):dW S l m:=by
 induction h with
 | nil=>exact .nil
 | cons h1 _ ih=>exact .cons (k _ _ h1) ih
theorem tV.mono {X X' Y:Nat->Prop}{w w':World}(hk:Kept Y w w')(hY:∀i,Y i->X i)(hX:∀i,X' i->X i){a:List UInt8×Nat×Nat}{c:fB}(h:tV X w a c):tV X' w' a c:=⟨h.1,h.2.1,h.2.2.mono hk hY hX⟩
theorem tV.top {X:Nat->Prop}{w:World}{a:List UInt8×Nat×Nat}{c:fB}(h:tV X w a c):tV (λb=>X b\/w.heap.size<=b) w a c:=⟨h.1,h.2.1,h.2.2.top⟩
theorem mh.mono {X X' Y:Nat->Prop}{w w':World}(hk:Kept Y w w')(hY:∀i,Y i->X i)(hX:∀i,X' i->X i){a:Nat×Bool×Nat×Nat}{c:dG}(h:mh X w a c):mh X' w' a c:=⟨h.1,h.2.1,h.2.2.1.mono hk hY hX,h.2.2.2.mono hk hY hX⟩
theorem mh.top {X:Nat->Prop}{w:World}{a:Nat×Bool×Nat×Nat}{c:dG}(h:mh X w a c):mh (λb=>X b\/w.heap.size<=b) w a c:=⟨h.1,h.2.1,h.2.2.1.top,h.2.2.2.top⟩
def kj (X:Nat->Prop)(w:World)(v:Value)(f:dY):Prop:=∃cv rv cs rs,v=.agg #[cv,rv,.bool f.dD]/\Sl X 3 (En zX) w cv cs/\Sl X 4 (En j8) w rv rs/\dW (tV X w) cs f.cN/\dW (mh X w) rs f.rules
theorem bu {α β:Type}{p:Pa α}{q:α->Pa β}{l:List Tok}{e:Nat×Nat}(h:p l=.error e):Cae.pb p q l=.error e:=by
 unfold Cae.pb;rw[h]
theorem Ha {m:Nat}{acc:List fB}{l1 l0:List Tok}(eE:bR m acc l1=bR 1000 [] l0)(hm:l1.length<m)(cI:dR [99,108,97,115,115] l1=true)(kL:acc.length≠20) :
  bR 1000 [] l0=Cae.pb nR (λc=>bR (m-1) (acc++[c])) l1:=by
 obtain⟨m',rfl⟩:∃m',m=m'+1:=⟨m-1,by omega⟩;rw[<-eE,bR];unfold ax;rw[cI,if_pos rfl,if_neg kL];rfl
theorem tn {m:Nat}{acc:List fB}{l1 l0:List Tok}{e:Nat×Nat}(eE:bR m acc l1=bR 1000 [] l0)(hm:l1.length<m)(cI:dR [99,108,97,115,115] l1=true)(kL:acc.length≠20)(h:nR l1=.error e):jB l0=.error e:=by
 unfold jB;exact bu (by rw[Ha eE hm cI kL];exact bu h)
theorem Ua {m:Nat}{acc:List fB}{l1 l0:List Tok}(eE:bR m acc l1=bR 1000 [] l0)(hm:l1.length<m)(cI:dR [99,108,97,115,115] l1=true)(kL:acc.length=20):jB l0=.error (4,(Cae.hd l1).pos):=by
 obtain⟨m',rfl⟩:∃m',m=m'+1:=⟨m-1,by omega⟩;unfold jB;refine bu ?_;rw[<-eE,bR];unfold ax;rw[cI,if_pos rfl,if_pos kL];rfl
theorem Z4 {m:Nat}{acc:List fB}{l1 l0:List Tok}(eE:bR m acc l1=bR 1000 [] l0)(hm:l1.length<m)(cI:dR [99,108,97,115,115] l1=false):bR 1000 [] l0=.ok (acc,l1):=by
 obtain⟨m',rfl⟩:∃m',m=m'+1:=⟨m-1,by omega⟩;rw[<-eE,bR];unfold ax;rw[cI];rfl
theorem qq {m:Nat}{acc:List dG}{l1 l0:List Tok}(eE:bP m acc l1=bP 1000 [] l0)(hm:l1.length<m)(cI:gz l1=true)(kL:acc.length≠20) :
  bP 1000 [] l0=Cae.pb lI (λc=>bP (m-1) (acc++[c])) l1:=by
 obtain⟨m',rfl⟩:∃m',m=m'+1:=⟨m-1,by omega⟩;rw[<-eE,bP];unfold ax;rw[cI,if_pos rfl,if_neg kL];rfl
theorem ep {m:Nat}{acc:List dG}{cs:List fB}{l1 l0 l:List Tok}{e:Nat×Nat}(il:bR 1000 [] l=.ok (cs,l0))(eE:bP m acc l1=bP 1000 [] l0)(hm:l1.length<m)(cI:gz l1=true)(kL:acc.length≠20)(h:lI l1=.error e):jB l=.error e:=by
 unfold jB;rw[aI il];exact bu (by rw[qq eE hm cI kL];exact bu h)
theorem Jh {m:Nat}{acc:List dG}{cs:List fB}{l1 l0 l:List Tok}(il:bR 1000 [] l=.ok (cs,l0))(eE:bP m acc l1=bP 1000 [] l0)(hm:l1.length<m)(cI:gz l1=true)(kL:acc.length=20):jB l=.error (4,(Cae.hd l1).pos):=by
 obtain⟨m',rfl⟩:∃m',m=m'+1:=⟨m-1,by omega⟩;unfold jB;rw[aI il];refine bu ?_;rw[<-eE,bP];unfold ax;rw[cI,if_pos rfl,if_pos kL];rfl
theorem aBQ {m:Nat}{acc:List dG}{l1 l0:List Tok}(eE:bP m acc l1=bP 1000 [] l0)(hm:l1.length<m)(cI:gz l1=false):bP 1000 [] l0=.ok (acc,l1):=by
 obtain⟨m',rfl⟩:∃m',m=m'+1:=⟨m-1,by omega⟩;rw[<-eE,bP];unfold ax;rw[cI];rfl
theorem YR:Sh nR:=Sh.pbr GO λ_=>Sh.pb (gQ.sh (gw _)) λ_=>Le.pb (gQ.sh GR).le λ_=>Le.pb (gQ.sh (gw _)).le λ_=>Le.pb (Lo.le (A4 (ox 9))) λ_=>Le.pb (gQ.sh (gw _)).le λ_=>Le.pr
theorem yh:Sh lI:=gQ.sh aBa
theorem aD4 {pb B:Nat}{w:World}{l0:List Tok}(h0:PS pb B w l0):Pc 43 [.pointer (some ⟨pb,0,none⟩)] pb B w l0 jB (λw' r f=>kj (·<w.heap.size) w' r f):=by
 have hle:=h0.le;have aj:=h0.lt;refine bG Tryz.func43 rfl (by kernel_rfl) [.cell 2 26] rfl ?_;push_cast -dsimp(maxSteps:=4000000) [Tryz.ntmps43];refine ao (z:=[.slice none 0 0,.slice none 0 0,.bool false]) (by kernel_rfl) ?_;intro w1 aV;have R1:=aV.aM;have P1:=h0.below aV.below;have z1:=aV.size;push_cast -dsimp;refine ao (z:=[.slice none 0 0,.slice none 0 0,.bool false]) (by kernel_rfl) ?_;intro w2 bH;have F2:=bH.aM;have R2:=R1.below bH.below (by omega);have P2:=P1.below bH.below;have z2:=bH.size;rw[z1]at F2;push_cast -dsimp[z1];refine aH (xt:=26) (n:=3) (by kernel_rfl) F2 rfl (by decide) (by simp;exact⟨rfl,rfl⟩) ?_;intro w3 cM;have F3:aL w3 (w.heap.size+1) 26 [.slice none 0 0,.slice none 0 0,.bool true]:=cM.aM;have R3:=R2.kept cM.kept (by omega);have P3:=P2.kept cM.kept (λi h=>by omega);have z3:=cM.size;have k3:Kept (·=pb) w w3:=((Kept.new (X:=(·=pb)) aV).trans (Kept.new (X:=(·=pb)) bH) (λi _ h=>h)).trans cM.kept (λi h1 h2=>by omega);push_cast -dsimp;refine aK [4,7,8,9,10,11,12,13,14,15,16,17,18,19,20,21,22,23,24,25,26,27,28,29,30,31,32,33,34,35,36,37,38,39,40] (λz w'=>∃(m:Nat) (acc:List fB) (l1:List Tok) (cv:Value) (cs:List (List UInt8×Nat×Nat)),bR m acc l1=bR 1000 [] l0/\l1.length<m/\acc.length<=20 /\
   aL w' w.heap.size 26 [.slice none 0 0,.slice none 0 0,.bool false]/\aL w' (w.heap.size+1) 26 [cv,.slice none 0 0,.bool true]/\Go.Vc.Own (w.heap.size+2) 137 3 zX w' cv cs /\
   dW (tV (λb=>b<w.heap.size+2\/cv.ownBlock=some b) w') cs acc/\PS pb B w' l1/\Kept (·=pb) w w') (λz w'=>xO w' pb) ?_ ?_
 ·have aj:l0.length<1000:=by have:=h0.tl.len;omega
  exact⟨1000,[],l0,_,[],rfl,aj,by simp,R3,F3,Vc.Own.nil (enc:=zX) _ _ (λ_=>rfl) _,.nil,P3,k3⟩
 rintro z w' ⟨m,acc,l1,cv,cs,eE,hm,IV,hR,hF,hO,hV,hP,hk⟩;have iQ:=hV.len;have hzw:=hk.size;have Vo:=hP.len;have DX:=hF.lt;obtain⟨ca,cc,TK⟩:=hO.slice;push_cast -dsimp;refine aA (BG [99,108,97,115,115] hP) ?_;rintro _ wx ⟨rfl,hwx⟩;obtain rfl:w'=wx:=hwx.symm;cases cI:dR [99,108,97,115,115] l1 with
 | true =>
  have d0:w'.cell? ⟨w.heap.size+1,0,none⟩=some (.slice ca cs.length cc):=by rw[<-TK];exact hF.cell rfl
  push_cast -dsimp[d0];refine⟨λkL=>?_,λkL=>?_⟩
  ·refine aF (jR 4 hP) (λ_ _ h=>h.elim) ?_;rintro ce we ⟨ht,hb⟩;push_cast -dsimp;exact⟨4,_,Ua eE hm cI (by omega),ht.mono (by omega),hk.trans (Kept.aN hb (X:=(·=pb)) (λi h1 h2=>by omega)) (λi _ h=>h)⟩
  have kL:acc.length≠20:=by omega
  obtain⟨t1,r1,mZ⟩:=hP.tl.cons;have WM:Cae.hd l1=t1:=by rw[mZ];rfl
  have hP':=hP;rw[mZ]at hP';obtain⟨b,o,c,hBp,hc,cW,c0,c1,c2,c3⟩:=hP'.hd;have cb:w'.cell? ⟨pb,0,none⟩=some (.slice (some ⟨b,o,none⟩) (r1.length+1) c):=hBp.cell rfl;have iR:nR l1=Cae.pb (cY [99,108,97,115,115]) (λ_=>Cae.pb mQ λn=>Cae.pb (cY [61]) λ_=>Cae.pb (qX 9) λk=>Cae.pb (cY [59]) λ_=>pr ⟨n,t1.pos,k⟩) l1:=by
   unfold nR;rw[aI (p:=dX) (x:=Cae.hd l1) (l1:=l1) rfl,WM]
  push_cast -dsimp[cb,c2];refine⟨by omega,?_⟩;refine ao (z:=[str [],.int .i64 0,.pointer none]) (by kernel_rfl) ?_;intro w4 ae;have C4:=ae.aM;have P4:=hP.below ae.below;have z4:=ae.size;have k4:=hk.trans (Kept.new (X:=(·=pb)) ae) (λi _ h=>h);push_cast -dsimp;refine aH (xt:=137) (n:=3) (by kernel_rfl) C4 rfl (by decide) (by simp;exact⟨rfl,rfl,rfl⟩) ?_;intro w5 cH;have C5:aL w5 w'.heap.size 137 [str [],.int .i64 t1.pos,.pointer none]:=cH.aM;have P5:=P4.kept cH.kept (λi h=>by omega);have k5:=k4.trans cH.kept (λi h1 h2=>by omega);have z5:=cH.size;push_cast -dsimp;refine aF (fW [99,108,97,115,115] P5) ?_ ?_;rotate_left;·
   rintro ce we ⟨e,pos,he,ht,eQ⟩
   push_cast -dsimp
   refine⟨e,pos,tn eE hm cI kL ?_,ht.mono (by have:=k5.size;omega),k5.trans eQ (λi _ h=>h)⟩
   rw[iR]
   exact bu he
  rintro _ w6 ⟨_,l2,e2,rfl,P6,sH⟩;have C6:=C5.kept sH (by omega);have k6:=k5.trans sH (λi _ h=>h);have z6:=sH.size;push_cast -dsimp;refine aF (XO P6) ?_ ?_;rotate_left;·
   rintro ce we ⟨e,pos,he,ht,eQ⟩
   push_cast -dsimp
   refine⟨e,pos,tn eE hm cI kL ?_,ht.mono (by have:=k6.size;omega),k6.trans eQ (λi _ h=>h)⟩
   rw[iR]
   rw[aI e2];exact bu he
  rintro _ w7 ⟨nm,l3,e3,rfl,P7,kt7⟩;have C7:=C6.kept kt7 (by omega);have k7:=k6.trans kt7 (λi _ h=>h);have z7:=kt7.size;push_cast -dsimp;refine aC C7 (by simp) rfl ?_;intro w8 nf;have C8:aL w8 w'.heap.size 137 [str nm,.int .i64 t1.pos,.pointer none]:=nf.aM;have P8:=P7.kept nf.kept (λi h=>by omega);have k8:=k7.trans nf.kept (λi h1 h2=>by omega);have z8:=nf.size;push_cast -dsimp;refine aF (fW [61] P8) ?_ ?_;rotate_left;·
   rintro ce we ⟨e,pos,he,ht,eQ⟩
   push_cast -dsimp
   refine⟨e,pos,tn eE hm cI kL ?_,ht.mono (by have:=k8.size;omega),k8.trans eQ (λi _ h=>h)⟩
   rw[iR]
   rw[aI e2,aI e3];exact bu he
  rintro _ w9 ⟨_,l4,e4,rfl,P9,kt9⟩;have C9:=C8.kept kt9 (by omega);have k9:=k8.trans kt9 (λi _ h=>h);have z9:=kt9.size;push_cast -dsimp;refine aF (aFz 9 0 (by omega) (by omega) pb B w9 l4 P9) ?_ ?_;rotate_left;·
   rintro ce we ⟨e,pos,he,ht,eQ⟩
   push_cast -dsimp
   refine⟨e,pos,tn eE hm cI kL ?_,ht.mono (by have:=k9.size;omega),k9.trans eQ (λi _ h=>h)⟩
   rw[iR]
   rw[aI e2,aI e3,aI e4];exact bu he
  rintro u wa ⟨kd,l5,e5,Va,Pa,uZ⟩;obtain⟨ub,rfl,HR⟩:=Va.ptr;have Ca:=C9.kept uZ (by omega);have ka:=k9.trans uZ (λi _ h=>h);have za:=uZ.size;push_cast -dsimp;refine aC Ca (by simp) rfl ?_;intro wb dE;have Cb:aL wb w'.heap.size 137 [str nm,.int .i64 t1.pos,bw ub]:=dE.aM;have Pb:=Pa.kept dE.kept (λi h=>by omega);have kb:=ka.trans dE.kept (λi h1 h2=>by omega);have zb:=dE.size;push_cast -dsimp;refine aF (fW [59] Pb) ?_ ?_;rotate_left;·
   rintro ce we ⟨e,pos,he,ht,eQ⟩
   push_cast -dsimp
   refine⟨e,pos,tn eE hm cI kL ?_,ht.mono (by have:=kb.size;omega),kb.trans eQ (λi _ h=>h)⟩
   rw[iR]
   rw[aI e2,aI e3,aI e4,aI e5];exact bu he
  rintro _ wc ⟨_,l6,e6,rfl,ZD,u5⟩;have Cc:=Cb.kept u5 (by omega);have kc:=kb.trans u5 (λi _ h=>h);have zc:=u5.size;have bU:nR l1=.ok (⟨nm,t1.pos,kd⟩,l6):=by rw[iR,aI e2,aI e3,aI e4,aI e5,aI e6];rfl
  have hl6:=YR _ _ _ bU;have kw:Kept (λi=>i=pb) w' wc:=by
   refine((((((((Kept.new (X:=(·=pb)) ae).trans cH.kept (λi h1 h2=>by omega)).trans sH (λi _ h=>h)).trans kt7 (λi _ h=>h)).trans nf.kept (λi h1 h2=>by omega)).trans kt9 (λi _ h=>h)).trans uZ (λi _ h=>h)).trans dE.kept (λi h1 h2=>by omega)).trans u5 (λi _ h=>h)
  have Bu:=hR.kept kw (by omega);have hFc:=hF.kept kw (by omega);have xy:=hO.aJ kw (λg hg h=>by have:=(hO.block g hg).1;omega);have fS:∀g,cv.ownBlock=some g->w.heap.size+2<=g/\g<w'.heap.size:=λg hg=>hO.block g hg;have hVc:dW (tV (λb=>(b<w.heap.size+2\/cv.ownBlock=some b)\/w'.heap.size<=b) wc) cs acc:=hV.imp λa c h=>h.top.mono kw (λi h=>by omega) (λi h=>h);have hVk:eX (λb=>b<w9.heap.size\/wa.heap.size<=b) wc (bw ub) kd:=(Va.top.mono dE.kept (X':=λb=>b<w9.heap.size\/wa.heap.size<=b) (λi h=>by omega) (λi h=>h)).mono u5 (λi h=>by omega) (λi h=>h);have dc:wc.cell? ⟨w.heap.size+1,0,none⟩=some (.slice ca cs.length cc):=by rw[<-TK];exact hFc.cell rfl
  have dl:aB wc ⟨w'.heap.size,0,none⟩ 0 3=some [str nm,.int .i64 t1.pos,bw ub]:=Cc.aB;push_cast -dsimp[dc,dl];refine cG Uy rfl rfl (by omega) ?_;intro wd iT;have hRd:=Bu.below iT.below Bu.lt;have hFd:=hFc.below iT.below hFc.lt;have hOd:=xy.new iT;rw[TK]at hOd;have Pd:=ZD.below iT.below;have zd:=iT.size;push_cast -dsimp;refine aW (base:=w.heap.size+2) [(nm,t1.pos,ub)] (enc:=zX) Uy hOd (by rfl) (λj y hy=>by simpa[zX,bw] using iT.cell hy) VI (by rw[iQ];simp only[List.length_cons,List.length_nil];omega) (by omega) ?_;intro cv2 we QU eo kN;rw[<-TK]at eo kN;have kg:Kept (λj=>cv.ownBlock=some j) wd we:=Kept.grown eo (λ_ h=>h);have N9:=hRd.kept kg (λh=>by have:=fS _ h;omega);have hFe:=hFd.kept kg (λh=>by have:=fS _ h;omega);have Pe:=Pd.kept kg (λi h=>by have:=fS _ h;omega);have ze:=kg.size;obtain⟨a5,c5,rfl⟩:=QU.slice;push_cast -dsimp;refine aC hFe (by simp) rfl ?_;intro wf iG;have IP:aL wf (w.heap.size+1) 26 [.slice a5 (cs++[(nm,t1.pos,ub)]).length c5,.slice none 0 0,.bool true]:=iG.aM;have hRf:=N9.kept iG.kept (by omega);have Zw:=QU.aJ iG.kept (λg hg h=>by have:=(QU.block g hg).1;omega);have Pf:=Pe.kept iG.kept (λi h=>by omega);have kY:Kept (λi=>i=w.heap.size+1\/cv.ownBlock=some i) wc wf:=((Kept.new (X:=λi=>i=w.heap.size+1\/cv.ownBlock=some i) iT).trans kg (λi _ h=>.inr h)).trans iG.kept (λi _ h=>.inl h);have kf:=kc.trans kY (X:=(·=pb)) (λi h1 h2=>by
   rcases h2 with h2|h2
   ·omega
   have:=fS _ h2;omega)
  have zkw:=kw.size;have hVf:dW (tV (λb=>b<w.heap.size+2\/(Value.slice a5 (cs++[(nm,t1.pos,ub)]).length c5).ownBlock=some b) wf) (cs++[(nm,t1.pos,ub)]) (acc++[⟨nm,t1.pos,kd⟩]):=by
   refine(hVc.imp λa c h=>h.mono kY (λi h=>?_) (λi h=>?_)).snoc ⟨rfl,rfl,hVk.mono kY (λi h=>?_) (λi h=>?_)⟩
   ·rcases h with h|h
    ·exact .inl (.inl (by omega))
    exact .inl (.inr h)
   ·rcases h with h|h
    ·exact .inl (.inl h)
    rcases kN i h with h|h
    ·exact .inl (.inr h)
    exact .inr (by omega)
   ·rcases h with h|h
    ·exact .inl (by omega)
    have:=fS _ h;exact .inl (by omega)
   rcases h with h|h
   ·exact .inl (by omega)
   rcases kN i h with h|h
   ·have:=fS _ h;exact .inl (by omega)
   exact .inr (by omega)
  have jC:bR (m-1) (acc++[⟨nm,t1.pos,kd⟩]) l6=bR 1000 [] l0:=by rw[Ha eE hm cI kL,aI bU]
  have hPf:=Pf.len;push_cast -dsimp;exact⟨⟨m-1,acc++[⟨nm,t1.pos,kd⟩],l6,_,_,jC,by omega,by rw[List.length_append,List.length_singleton];omega,hRf,IP,Zw,hVf,Pf,kf⟩,by rw[hPf,Vo];exact hl6⟩
 | false =>
  have iR:=Z4 eE hm cI;have aEM:=TK;have K4:∃V0,V0=w':=⟨_,rfl⟩;obtain⟨V0,K4⟩:=K4;have TQ:∃lc,lc=l1:=⟨_,rfl⟩;obtain⟨lc,TQ⟩:=TQ;rw[TK]at hF;rw[<-K4]at hR hF hO hV hP hk hzw Vo ⊢
  rw[<-TQ]at iR hP Vo;clear eE hm cI;have hF0:=hF;have hP0:=hP;have hk0:=hk;push_cast -dsimp;refine aK [5,41,42,43,44,45,46,47,48,49,50,51,52,53,54,55,56,57,58,59,60,61,62,63,64,65,66,67,68,69,70,71,72,73,74,75,76,77,78,79,80,81,82,83,84] (λz w'=>∃(m:Nat) (acc:List dG) (l1:List Tok) (rv:Value) (rs:List (Nat×Bool×Nat×Nat)),bP m acc l1=bP 1000 [] lc/\l1.length<m/\acc.length<=20 /\
    aL w' (w.heap.size+1) 26 [.slice ca cs.length cc,rv,.bool true]/\Go.Vc.Own V0.heap.size 84 4 j8 w' rv rs /\
    dW (mh (λb=>b<V0.heap.size\/rv.ownBlock=some b) w') rs acc/\PS pb B w' l1/\Kept (·=pb) w w'/\Kept (λi=>i=pb\/i=w.heap.size+1) V0 w') (λz w'=>xO w' pb) ?_ ?_
  ·have aj:lc.length<1000:=by have:=hP0.tl.len;omega
   exact⟨1000,[],lc,_,[],rfl,aj,by simp,hF0,Vc.Own.nil (enc:=j8) _ _ (λ_=>rfl) _,.nil,hP0,hk0,Kept.refl _ _⟩
  clear hF hP hk Vo;have hVc:=hV;have xy:=hO;have aS6:=iQ;have aRr:=acc;rintro z w' ⟨m,kJ,l1,rv,rs,eE,hm,aP5,hF,hO,hV,hP,hk,AD⟩;have iQ:=hV.len;have hzw:=hk.size;have Vo:=hP.len;have aI4:=hF.lt;have hf0:=hF0.lt;have aTr:=AD.size;obtain⟨ra,rc,D3⟩:=hO.slice;obtain⟨t1,r1,mZ⟩:=hP.tl.cons;have WM:Cae.hd l1=t1:=by rw[mZ];rfl
  have hP':=hP;rw[mZ]at hP';obtain⟨b,o,c,hBp,hc,cW,c0,c1,c2,c3⟩:=hP'.hd;have ml:lI l1=Cae.pb gW (λb=>Cae.pb (qk 9) λx=>Cae.pb (cY [58]) λ_=>Cae.pb (qk 9) λy=>Cae.pb (cY [59]) λ_=>pr ⟨t1.pos,b,x,y⟩) l1:=by
   unfold lI;rw[aI (p:=dX) (x:=Cae.hd l1) (l1:=l1) rfl,WM]
  have jU:gz l1=(dR [98,114,101,97,107] l1 || dR [107,101,101,112] l1):=rfl;push_cast -dsimp;refine aA (BG [98,114,101,97,107] hP) ?_;rintro _ wx ⟨rfl,hwx⟩;obtain rfl:w'=wx:=hwx.symm;cases ft:dR [98,114,101,97,107] l1 with
  | true =>
   have cI:gz l1=true:=by rw[jU,ft];rfl
   have d1:w'.cell? ⟨w.heap.size+1,1,none⟩=some (.slice ra rs.length rc):=by rw[<-D3];exact hF.cell rfl
   push_cast -dsimp[d1];refine⟨λkL=>?_,λkL=>?_⟩
   ·refine aF (jR 4 hP) (λ_ _ h=>h.elim) ?_;rintro ce we ⟨ht,hb⟩;push_cast -dsimp;exact⟨4,_,Jh iR eE hm cI (by omega),ht.mono (by omega),hk.trans (Kept.aN hb (X:=(·=pb)) (λi h1 h2=>by omega)) (λi _ h=>h)⟩
   have kL:kJ.length≠20:=by omega
   have cb:w'.cell? ⟨pb,0,none⟩=some (.slice (some ⟨b,o,none⟩) (r1.length+1) c):=hBp.cell rfl;push_cast -dsimp[cb,c2];refine⟨by omega,?_⟩;refine ao (z:=[.int .i64 0,.bool false,.pointer none,.pointer none]) (by kernel_rfl) ?_;intro w4 ae;have C4:=ae.aM;have P4:=hP.below ae.below;have z4:=ae.size;have k4:=hk.trans (Kept.new (X:=(·=pb)) ae) (λi _ h=>h);push_cast -dsimp;refine aH (xt:=84) (n:=4) (by kernel_rfl) C4 rfl (by decide) (by simp;exact⟨rfl,rfl,rfl⟩) ?_;intro w5 cH;have C5:aL w5 w'.heap.size 84 [.int .i64 t1.pos,.bool false,.pointer none,.pointer none]:=cH.aM;have P5:=P4.kept cH.kept (λi h=>by omega);have k5:=k4.trans cH.kept (λi h1 h2=>by omega);have z5:=cH.size;have kw5:Kept (λi=>i=pb) w' w5:=(Kept.new (X:=(·=pb)) ae).trans cH.kept (λi h1 h2=>by omega);push_cast -dsimp;refine aA (gE [98,114,101,97,107] P5) ?_;rintro _ wt hT;rcases hT with ⟨uP,rfl,t6,l3,el6,h56,Pt,sH,Nx⟩|⟨uP,rfl,qT⟩
   ·have kR:cK l1=.ok ((),l3):=by rw[el6];exact dV h56
    have pT:gW l1=.ok (true,l3):=by
     unfold gW ax;rw[uP,if_pos rfl,aI kR];rfl
    have Ct:=C5.kept sH (by omega);push_cast -dsimp;refine aC Ct (by simp) rfl ?_;intro w6 bQ;have C6:aL w6 w'.heap.size 84 [.int .i64 t1.pos,.bool true,.pointer none,.pointer none]:=bQ.aM;have P6:=Pt.kept bQ.kept (λi h=>by omega);have k6:=(k5.trans sH (λi _ h=>h)).trans bQ.kept (λi h1 h2=>by omega);have kw6:=(kw5.trans sH (λi _ h=>h)).trans bQ.kept (λi h1 h2=>by omega);have z6:w5.heap.size<=w6.heap.size:=by have:=bQ.kept.size;have:=sH.size;omega
    have d7:w6.cell? ⟨w'.heap.size,1,none⟩=some (.bool true):=C6.cell rfl;push_cast -dsimp[d7];refine aF (sJ 9 0 (by omega) (by omega) pb B w6 l3 P6) ?_ ?_;rotate_left;·
     rintro ce we ⟨e,pos,he,ht,eQ⟩
     push_cast -dsimp
     refine⟨e,pos,ep iR eE hm cI kL ?_,ht.mono (by have:=k6.size;omega),k6.trans eQ (λi _ h=>h)⟩
     rw[ml]
     rw[aI pT];exact bu he
    rintro u wa ⟨x1,l5,e5,Va,Pa,uZ⟩;obtain⟨ub,rfl,HR,_⟩:=Va.ptr;have Ca:=C6.kept uZ (by omega);have ka:=k6.trans uZ (λi _ h=>h);have za:=uZ.size;push_cast -dsimp;refine aC Ca (by simp) rfl ?_;intro wb dE;have Cb:aL wb w'.heap.size 84 [.int .i64 t1.pos,.bool true,bw ub,.pointer none]:=dE.aM;have Pb:=Pa.kept dE.kept (λi h=>by omega);have kb:=ka.trans dE.kept (λi h1 h2=>by omega);have zb:=dE.size;push_cast -dsimp;refine aF (fW [58] Pb) ?_ ?_;rotate_left;·
     rintro ce we ⟨e,pos,he,ht,eQ⟩
     push_cast -dsimp
     refine⟨e,pos,ep iR eE hm cI kL ?_,ht.mono (by have:=kb.size;omega),kb.trans eQ (λi _ h=>h)⟩
     rw[ml]
     rw[aI pT,aI e5];exact bu he
    rintro _ wc ⟨_,l6,e6,rfl,ZD,u5⟩;have Cc:=Cb.kept u5 (by omega);have kc:=kb.trans u5 (λi _ h=>h);have zc:=u5.size;push_cast -dsimp;refine aF (sJ 9 0 (by omega) (by omega) pb B wc l6 ZD) ?_ ?_;rotate_left;·
     rintro ce we ⟨e,pos,he,ht,eQ⟩
     push_cast -dsimp
     refine⟨e,pos,ep iR eE hm cI kL ?_,ht.mono (by have:=kc.size;omega),kc.trans eQ (λi _ h=>h)⟩
     rw[ml]
     rw[aI pT,aI e5,aI e6];exact bu he
    rintro u wd ⟨x2,l7,e7,Vd,Pd,AY⟩;obtain⟨vb,rfl,Lu,_⟩:=Vd.ptr;have Cd:=Cc.kept AY (by omega);have kd:=kc.trans AY (λi _ h=>h);have zd:=AY.size;push_cast -dsimp;refine aC Cd (by simp) rfl ?_;intro we lE;have Ce:aL we w'.heap.size 84 [.int .i64 t1.pos,.bool true,bw ub,bw vb]:=lE.aM;have Pe:=Pd.kept lE.kept (λi h=>by omega);have ke:=kd.trans lE.kept (λi h1 h2=>by omega);have ze:=lE.size;push_cast -dsimp;refine aF (fW [59] Pe) ?_ ?_;rotate_left;·
     rintro ce we ⟨e,pos,he,ht,eQ⟩
     push_cast -dsimp
     refine⟨e,pos,ep iR eE hm cI kL ?_,ht.mono (by have:=ke.size;omega),ke.trans eQ (λi _ h=>h)⟩
     rw[ml]
     rw[aI pT,aI e5,aI e6,aI e7];exact bu he
    rintro _ wf ⟨_,l8,e8,rfl,Pf,vy⟩;have Cf:=Ce.kept vy (by omega);have kf:=ke.trans vy (λi _ h=>h);have zf:=vy.size;have bU:lI l1=.ok (⟨t1.pos,true,x1,x2⟩,l8):=by rw[ml,aI pT,aI e5,aI e6,aI e7,aI e8];rfl
    have hl8:=yh _ _ _ bU;have kw:Kept (λi=>i=pb) w' wf:=((((((kw6.trans uZ (λi _ h=>h)).trans dE.kept (λi h1 h2=>by omega)).trans u5 (λi _ h=>h)).trans AY (λi _ h=>h)).trans lE.kept (λi h1 h2=>by omega)).trans vy (λi _ h=>h));have IP:=hF.kept kw (by omega);have Zw:=hO.aJ kw (λg hg h=>by have:=(hO.block g hg).1;omega);have fS:∀g,rv.ownBlock=some g->V0.heap.size<=g/\g<w'.heap.size:=λg hg=>hO.block g hg;have hVf:dW (mh (λb=>(b<V0.heap.size\/rv.ownBlock=some b)\/w'.heap.size<=b) wf) rs kJ:=hV.imp λa c h=>h.top.mono kw (λi h=>by omega) (λi h=>h);have L8:bC (λb=>b<w6.heap.size\/wa.heap.size<=b) wf (bw ub) x1:=(((Va.top.mono dE.kept (X':=λb=>b<w6.heap.size\/wa.heap.size<=b) (λi h=>by omega) (λi h=>h)).mono u5 (X':=λb=>b<w6.heap.size\/wa.heap.size<=b) (λi h=>by omega) (λi h=>h)).mono AY (X':=λb=>b<w6.heap.size\/wa.heap.size<=b) (λi h=>by omega) (λi h=>h)).mono lE.kept (X':=λb=>b<w6.heap.size\/wa.heap.size<=b) (λi h=>by omega) (λi h=>h) |>.mono vy (λi h=>by omega) (λi h=>h);have L9:bC (λb=>b<wc.heap.size\/wd.heap.size<=b) wf (bw vb) x2:=(Vd.top.mono lE.kept (X':=λb=>b<wc.heap.size\/wd.heap.size<=b) (λi h=>by omega) (λi h=>h)).mono vy (λi h=>by omega) (λi h=>h);have df:wf.cell? ⟨w.heap.size+1,1,none⟩=some (.slice ra rs.length rc):=by rw[<-D3];exact IP.cell rfl
    have dl:aB wf ⟨w'.heap.size,0,none⟩ 0 4=some [.int .i64 t1.pos,.bool true,bw ub,bw vb]:=Cf.aB;push_cast -dsimp[df,dl];refine cG qD rfl rfl (by omega) ?_;intro wg lF;have hFg:=IP.below lF.below IP.lt;have Vn:=Zw.new lF;rw[D3]at Vn;have Pg:=Pf.below lF.below;have zg:=lF.size;push_cast -dsimp;refine aW (base:=V0.heap.size) [(t1.pos,true,ub,vb)] (enc:=j8) qD Vn (by rfl) (λj y hy=>by simpa[j8,bw] using lF.cell hy) rF (by rw[iQ];simp only[List.length_cons,List.length_nil];omega) (by omega) ?_;intro rv2 wh L7 Qg kN;rw[<-D3]at Qg kN;have kg:Kept (λj=>rv.ownBlock=some j) wg wh:=Kept.grown Qg (λ_ h=>h);have Zr:=hFg.kept kg (λh=>by have:=fS _ h;omega);have Ph:=Pg.kept kg (λi h=>by have:=fS _ h;omega);have zh:=kg.size;obtain⟨a5,c5,rfl⟩:=L7.slice;push_cast -dsimp;refine aC Zr (by simp) rfl ?_;intro wi gS;have Ym:aL wi (w.heap.size+1) 26 [.slice ca cs.length cc,.slice a5 (rs++[(t1.pos,true,ub,vb)]).length c5,.bool true]:=gS.aM;have hOi:=L7.aJ gS.kept (λg hg h=>by have:=(L7.block g hg).1;omega);have Pi:=Ph.kept gS.kept (λi h=>by omega);have kY:Kept (λi=>i=w.heap.size+1\/rv.ownBlock=some i) wf wi:=((Kept.new (X:=λi=>i=w.heap.size+1\/rv.ownBlock=some i) lF).trans kg (λi _ h=>.inr h)).trans gS.kept (λi _ h=>.inl h);have ki:=kf.trans kY (X:=(·=pb)) (λi h1 h2=>by
     rcases h2 with h2|h2
     ·omega
     have:=fS _ h2;omega)
    have kv0:Kept (λi=>i=pb\/i=w.heap.size+1\/rv.ownBlock=some i) w' wi:=(kw.weaken (Y:=λi=>i=pb\/i=w.heap.size+1\/rv.ownBlock=some i) (λi _ h=>.inl h)).trans kY (λi _ h=>.inr h);have kv:=AD.trans kv0 (λi h1 h2=>by
     rcases h2 with h2|h2|h2
     ·exact .inl h2
     ·exact .inr h2
     have:=fS _ h2;omega)
    have zkw:=kw.size;have hVi:dW (mh (λb=>b<V0.heap.size\/(Value.slice a5 (rs++[(t1.pos,true,ub,vb)]).length c5).ownBlock=some b) wi) (rs++[(t1.pos,true,ub,vb)]) (kJ++[⟨t1.pos,true,x1,x2⟩]):=by
     refine(hVf.imp λa c h=>h.mono kY (λi h=>?_) (λi h=>?_)).snoc ⟨rfl,rfl,L8.mono kY (λi h=>?_) (λi h=>?_),L9.mono kY (λi h=>?_) (λi h=>?_)⟩
     ·rcases h with h|h
      ·exact .inl (.inl (by omega))
      exact .inl (.inr h)
     ·rcases h with h|h
      ·exact .inl (.inl h)
      rcases kN i h with h|h
      ·exact .inl (.inr h)
      exact .inr (by omega)
     ·rcases h with h|h
      ·exact .inl (by omega)
      have:=fS _ h;exact .inl (by omega)
     ·rcases h with h|h
      ·exact .inl (by omega)
      rcases kN i h with h|h
      ·have:=fS _ h;exact .inl (by omega)
      exact .inr (by omega)
     ·rcases h with h|h
      ·exact .inl (by omega)
      have:=fS _ h;exact .inl (by omega)
     rcases h with h|h
     ·exact .inl (by omega)
     rcases kN i h with h|h
     ·have:=fS _ h;exact .inl (by omega)
     exact .inr (by omega)
    have jC:bP (m-1) (kJ++[⟨t1.pos,true,x1,x2⟩]) l8=bP 1000 [] lc:=by rw[qq eE hm cI kL,aI bU]
    have Zx:=Pi.len;push_cast -dsimp;exact⟨⟨m-1,kJ++[⟨t1.pos,true,x1,x2⟩],l8,_,_,jC,by omega,by rw[List.length_append,List.length_singleton];omega,Ym,hOi,hVi,Pi,ki,kv⟩,by rw[Zx,Vo];exact hl8⟩
   obtain rfl:w5=wt:=qT.symm;push_cast -dsimp;refine aC C5 (by simp) rfl ?_;intro wu Kd;have Cu:aL wu w'.heap.size 84 [.int .i64 t1.pos,.bool false,.pointer none,.pointer none]:=Kd.aM;have Pu:=P5.kept Kd.kept (λi h=>by omega);have ku:=k5.trans Kd.kept (λi h1 h2=>by omega);have zu:=Kd.size;have du:wu.cell? ⟨w'.heap.size,1,none⟩=some (.bool false):=Cu.cell rfl;push_cast -dsimp[du];have Ip:gW l1=Cae.pb (cY [107,101,101,112]) (λ_=>pr false) l1:=by
    unfold gW ax;rw[uP];rfl
   refine aF (fW [107,101,101,112] Pu) ?_ ?_;rotate_left;·
    rintro ce we ⟨e,pos,he,ht,eQ⟩
    push_cast -dsimp
    refine⟨e,pos,ep iR eE hm cI kL ?_,ht.mono (by have:=ku.size;omega),ku.trans eQ (λi _ h=>h)⟩
    rw[ml]
    refine bu ?_;rw[Ip];exact bu he
   rintro _ w6 ⟨_,l3,e3,rfl,P6,sH⟩;have pT:gW l1=.ok (false,l3):=by rw[Ip,aI e3];rfl
   have C6:=Cu.kept sH (by omega);have k6:=ku.trans sH (λi _ h=>h);have kw6:=(kw5.trans Kd.kept (λi h1 h2=>by omega)).trans sH (λi _ h=>h);have z6:w5.heap.size<=w6.heap.size:=by have:=sH.size;omega
   push_cast -dsimp;refine aF (sJ 9 0 (by omega) (by omega) pb B w6 l3 P6) ?_ ?_;rotate_left;·
    rintro ce we ⟨e,pos,he,ht,eQ⟩
    push_cast -dsimp
    refine⟨e,pos,ep iR eE hm cI kL ?_,ht.mono (by have:=k6.size;omega),k6.trans eQ (λi _ h=>h)⟩
    rw[ml]
    rw[aI pT];exact bu he
   rintro u wa ⟨x1,l5,e5,Va,Pa,uZ⟩;obtain⟨ub,rfl,HR,_⟩:=Va.ptr;have Ca:=C6.kept uZ (by omega);have ka:=k6.trans uZ (λi _ h=>h);have za:=uZ.size;push_cast -dsimp;refine aC Ca (by simp) rfl ?_;intro wb dE;have Cb:aL wb w'.heap.size 84 [.int .i64 t1.pos,.bool false,bw ub,.pointer none]:=dE.aM;have Pb:=Pa.kept dE.kept (λi h=>by omega);have kb:=ka.trans dE.kept (λi h1 h2=>by omega);have zb:=dE.size;push_cast -dsimp;refine aF (fW [58] Pb) ?_ ?_;rotate_left;·
    rintro ce we ⟨e,pos,he,ht,eQ⟩
    push_cast -dsimp
    refine⟨e,pos,ep iR eE hm cI kL ?_,ht.mono (by have:=kb.size;omega),kb.trans eQ (λi _ h=>h)⟩
    rw[ml]
    rw[aI pT,aI e5];exact bu he
   rintro _ wc ⟨_,l6,e6,rfl,ZD,u5⟩;have Cc:=Cb.kept u5 (by omega);have kc:=kb.trans u5 (λi _ h=>h);have zc:=u5.size;push_cast -dsimp;refine aF (sJ 9 0 (by omega) (by omega) pb B wc l6 ZD) ?_ ?_;rotate_left;·
    rintro ce we ⟨e,pos,he,ht,eQ⟩
    push_cast -dsimp
    refine⟨e,pos,ep iR eE hm cI kL ?_,ht.mono (by have:=kc.size;omega),kc.trans eQ (λi _ h=>h)⟩
    rw[ml]
    rw[aI pT,aI e5,aI e6];exact bu he
   rintro u wd ⟨x2,l7,e7,Vd,Pd,AY⟩;obtain⟨vb,rfl,Lu,_⟩:=Vd.ptr;have Cd:=Cc.kept AY (by omega);have kd:=kc.trans AY (λi _ h=>h);have zd:=AY.size;push_cast -dsimp;refine aC Cd (by simp) rfl ?_;intro we lE;have Ce:aL we w'.heap.size 84 [.int .i64 t1.pos,.bool false,bw ub,bw vb]:=lE.aM;have Pe:=Pd.kept lE.kept (λi h=>by omega);have ke:=kd.trans lE.kept (λi h1 h2=>by omega);have ze:=lE.size;push_cast -dsimp;refine aF (fW [59] Pe) ?_ ?_;rotate_left;·
    rintro ce we ⟨e,pos,he,ht,eQ⟩
    push_cast -dsimp
    refine⟨e,pos,ep iR eE hm cI kL ?_,ht.mono (by have:=ke.size;omega),ke.trans eQ (λi _ h=>h)⟩
    rw[ml]
    rw[aI pT,aI e5,aI e6,aI e7];exact bu he
   rintro _ wf ⟨_,l8,e8,rfl,Pf,vy⟩;have Cf:=Ce.kept vy (by omega);have kf:=ke.trans vy (λi _ h=>h);have zf:=vy.size;have bU:lI l1=.ok (⟨t1.pos,false,x1,x2⟩,l8):=by rw[ml,aI pT,aI e5,aI e6,aI e7,aI e8];rfl
   have hl8:=yh _ _ _ bU;have kw:Kept (λi=>i=pb) w' wf:=((((((kw6.trans uZ (λi _ h=>h)).trans dE.kept (λi h1 h2=>by omega)).trans u5 (λi _ h=>h)).trans AY (λi _ h=>h)).trans lE.kept (λi h1 h2=>by omega)).trans vy (λi _ h=>h));have IP:=hF.kept kw (by omega);have Zw:=hO.aJ kw (λg hg h=>by have:=(hO.block g hg).1;omega);have fS:∀g,rv.ownBlock=some g->V0.heap.size<=g/\g<w'.heap.size:=λg hg=>hO.block g hg;have hVf:dW (mh (λb=>(b<V0.heap.size\/rv.ownBlock=some b)\/w'.heap.size<=b) wf) rs kJ:=hV.imp λa c h=>h.top.mono kw (λi h=>by omega) (λi h=>h);have L8:bC (λb=>b<w6.heap.size\/wa.heap.size<=b) wf (bw ub) x1:=(((Va.top.mono dE.kept (X':=λb=>b<w6.heap.size\/wa.heap.size<=b) (λi h=>by omega) (λi h=>h)).mono u5 (X':=λb=>b<w6.heap.size\/wa.heap.size<=b) (λi h=>by omega) (λi h=>h)).mono AY (X':=λb=>b<w6.heap.size\/wa.heap.size<=b) (λi h=>by omega) (λi h=>h)).mono lE.kept (X':=λb=>b<w6.heap.size\/wa.heap.size<=b) (λi h=>by omega) (λi h=>h) |>.mono vy (λi h=>by omega) (λi h=>h);have L9:bC (λb=>b<wc.heap.size\/wd.heap.size<=b) wf (bw vb) x2:=(Vd.top.mono lE.kept (X':=λb=>b<wc.heap.size\/wd.heap.size<=b) (λi h=>by omega) (λi h=>h)).mono vy (λi h=>by omega) (λi h=>h);have df:wf.cell? ⟨w.heap.size+1,1,none⟩=some (.slice ra rs.length rc):=by rw[<-D3];exact IP.cell rfl
   have dl:aB wf ⟨w'.heap.size,0,none⟩ 0 4=some [.int .i64 t1.pos,.bool false,bw ub,bw vb]:=Cf.aB;push_cast -dsimp[df,dl];refine cG qD rfl rfl (by omega) ?_;intro wg lF;have hFg:=IP.below lF.below IP.lt;have Vn:=Zw.new lF;rw[D3]at Vn;have Pg:=Pf.below lF.below;have zg:=lF.size;push_cast -dsimp;refine aW (base:=V0.heap.size) [(t1.pos,false,ub,vb)] (enc:=j8) qD Vn (by rfl) (λj y hy=>by simpa[j8,bw] using lF.cell hy) rF (by rw[iQ];simp only[List.length_cons,List.length_nil];omega) (by omega) ?_;intro rv2 wh L7 Qg kN;rw[<-D3]at Qg kN;have kg:Kept (λj=>rv.ownBlock=some j) wg wh:=Kept.grown Qg (λ_ h=>h);have Zr:=hFg.kept kg (λh=>by have:=fS _ h;omega);have Ph:=Pg.kept kg (λi h=>by have:=fS _ h;omega);have zh:=kg.size;obtain⟨a5,c5,rfl⟩:=L7.slice;push_cast -dsimp;refine aC Zr (by simp) rfl ?_;intro wi gS;have Ym:aL wi (w.heap.size+1) 26 [.slice ca cs.length cc,.slice a5 (rs++[(t1.pos,false,ub,vb)]).length c5,.bool true]:=gS.aM;have hOi:=L7.aJ gS.kept (λg hg h=>by have:=(L7.block g hg).1;omega);have Pi:=Ph.kept gS.kept (λi h=>by omega);have kY:Kept (λi=>i=w.heap.size+1\/rv.ownBlock=some i) wf wi:=((Kept.new (X:=λi=>i=w.heap.size+1\/rv.ownBlock=some i) lF).trans kg (λi _ h=>.inr h)).trans gS.kept (λi _ h=>.inl h);have ki:=kf.trans kY (X:=(·=pb)) (λi h1 h2=>by
    rcases h2 with h2|h2
    ·omega
    have:=fS _ h2;omega)
   have kv0:Kept (λi=>i=pb\/i=w.heap.size+1\/rv.ownBlock=some i) w' wi:=(kw.weaken (Y:=λi=>i=pb\/i=w.heap.size+1\/rv.ownBlock=some i) (λi _ h=>.inl h)).trans kY (λi _ h=>.inr h);have kv:=AD.trans kv0 (λi h1 h2=>by
    rcases h2 with h2|h2|h2
    ·exact .inl h2
    ·exact .inr h2
    have:=fS _ h2;omega)
   have zkw:=kw.size;have hVi:dW (mh (λb=>b<V0.heap.size\/(Value.slice a5 (rs++[(t1.pos,false,ub,vb)]).length c5).ownBlock=some b) wi) (rs++[(t1.pos,false,ub,vb)]) (kJ++[⟨t1.pos,false,x1,x2⟩]):=by
    refine(hVf.imp λa c h=>h.mono kY (λi h=>?_) (λi h=>?_)).snoc ⟨rfl,rfl,L8.mono kY (λi h=>?_) (λi h=>?_),L9.mono kY (λi h=>?_) (λi h=>?_)⟩
    ·rcases h with h|h
     ·exact .inl (.inl (by omega))
     exact .inl (.inr h)
    ·rcases h with h|h
     ·exact .inl (.inl h)
     rcases kN i h with h|h
     ·exact .inl (.inr h)
     exact .inr (by omega)
    ·rcases h with h|h
     ·exact .inl (by omega)
     have:=fS _ h;exact .inl (by omega)
    ·rcases h with h|h
     ·exact .inl (by omega)
     rcases kN i h with h|h
     ·have:=fS _ h;exact .inl (by omega)
     exact .inr (by omega)
    ·rcases h with h|h
     ·exact .inl (by omega)
     have:=fS _ h;exact .inl (by omega)
    rcases h with h|h
    ·exact .inl (by omega)
    rcases kN i h with h|h
    ·have:=fS _ h;exact .inl (by omega)
    exact .inr (by omega)
   have jC:bP (m-1) (kJ++[⟨t1.pos,false,x1,x2⟩]) l8=bP 1000 [] lc:=by rw[qq eE hm cI kL,aI bU]
   have Zx:=Pi.len;push_cast -dsimp;exact⟨⟨m-1,kJ++[⟨t1.pos,false,x1,x2⟩],l8,_,_,jC,by omega,by rw[List.length_append,List.length_singleton];omega,Ym,hOi,hVi,Pi,ki,kv⟩,by rw[Zx,Vo];exact hl8⟩
  | false =>
   rw[ft,Bool.false_or]at jU;push_cast -dsimp;refine aA (BG [107,101,101,112] hP) ?_;rintro _ wx ⟨rfl,hwx⟩;obtain rfl:w'=wx:=hwx.symm;cases gY:dR [107,101,101,112] l1 with
   | true =>
    have cI:gz l1=true:=by rw[jU,gY]
    have d1:w'.cell? ⟨w.heap.size+1,1,none⟩=some (.slice ra rs.length rc):=by rw[<-D3];exact hF.cell rfl
    push_cast -dsimp[d1];refine⟨λkL=>?_,λkL=>?_⟩
    ·refine aF (jR 4 hP) (λ_ _ h=>h.elim) ?_;rintro ce we ⟨ht,hb⟩;push_cast -dsimp;exact⟨4,_,Jh iR eE hm cI (by omega),ht.mono (by omega),hk.trans (Kept.aN hb (X:=(·=pb)) (λi h1 h2=>by omega)) (λi _ h=>h)⟩
    have kL:kJ.length≠20:=by omega
    have cb:w'.cell? ⟨pb,0,none⟩=some (.slice (some ⟨b,o,none⟩) (r1.length+1) c):=hBp.cell rfl;push_cast -dsimp[cb,c2];refine⟨by omega,?_⟩;refine ao (z:=[.int .i64 0,.bool false,.pointer none,.pointer none]) (by kernel_rfl) ?_;intro w4 ae;have C4:=ae.aM;have P4:=hP.below ae.below;have z4:=ae.size;have k4:=hk.trans (Kept.new (X:=(·=pb)) ae) (λi _ h=>h);push_cast -dsimp;refine aH (xt:=84) (n:=4) (by kernel_rfl) C4 rfl (by decide) (by simp;exact⟨rfl,rfl,rfl⟩) ?_;intro w5 cH;have C5:aL w5 w'.heap.size 84 [.int .i64 t1.pos,.bool false,.pointer none,.pointer none]:=cH.aM;have P5:=P4.kept cH.kept (λi h=>by omega);have k5:=k4.trans cH.kept (λi h1 h2=>by omega);have z5:=cH.size;have kw5:Kept (λi=>i=pb) w' w5:=(Kept.new (X:=(·=pb)) ae).trans cH.kept (λi h1 h2=>by omega);push_cast -dsimp;refine aA (gE [98,114,101,97,107] P5) ?_;rintro _ wt hT;rcases hT with ⟨uP,rfl,t6,l3,el6,h56,Pt,sH,Nx⟩|⟨uP,rfl,qT⟩
    ·have kR:cK l1=.ok ((),l3):=by rw[el6];exact dV h56
     have pT:gW l1=.ok (true,l3):=by
      unfold gW ax;rw[uP,if_pos rfl,aI kR];rfl
     have Ct:=C5.kept sH (by omega);push_cast -dsimp;refine aC Ct (by simp) rfl ?_;intro w6 bQ;have C6:aL w6 w'.heap.size 84 [.int .i64 t1.pos,.bool true,.pointer none,.pointer none]:=bQ.aM;have P6:=Pt.kept bQ.kept (λi h=>by omega);have k6:=(k5.trans sH (λi _ h=>h)).trans bQ.kept (λi h1 h2=>by omega);have kw6:=(kw5.trans sH (λi _ h=>h)).trans bQ.kept (λi h1 h2=>by omega);have z6:w5.heap.size<=w6.heap.size:=by have:=bQ.kept.size;have:=sH.size;omega
     have d7:w6.cell? ⟨w'.heap.size,1,none⟩=some (.bool true):=C6.cell rfl;push_cast -dsimp[d7];refine aF (sJ 9 0 (by omega) (by omega) pb B w6 l3 P6) ?_ ?_;rotate_left;·
      rintro ce we ⟨e,pos,he,ht,eQ⟩
      push_cast -dsimp
      refine⟨e,pos,ep iR eE hm cI kL ?_,ht.mono (by have:=k6.size;omega),k6.trans eQ (λi _ h=>h)⟩
      rw[ml]
      rw[aI pT];exact bu he
     rintro u wa ⟨x1,l5,e5,Va,Pa,uZ⟩;obtain⟨ub,rfl,HR,_⟩:=Va.ptr;have Ca:=C6.kept uZ (by omega);have ka:=k6.trans uZ (λi _ h=>h);have za:=uZ.size;push_cast -dsimp;refine aC Ca (by simp) rfl ?_;intro wb dE;have Cb:aL wb w'.heap.size 84 [.int .i64 t1.pos,.bool true,bw ub,.pointer none]:=dE.aM;have Pb:=Pa.kept dE.kept (λi h=>by omega);have kb:=ka.trans dE.kept (λi h1 h2=>by omega);have zb:=dE.size;push_cast -dsimp;refine aF (fW [58] Pb) ?_ ?_;rotate_left;·
      rintro ce we ⟨e,pos,he,ht,eQ⟩
      push_cast -dsimp
      refine⟨e,pos,ep iR eE hm cI kL ?_,ht.mono (by have:=kb.size;omega),kb.trans eQ (λi _ h=>h)⟩
      rw[ml]
      rw[aI pT,aI e5];exact bu he
     rintro _ wc ⟨_,l6,e6,rfl,ZD,u5⟩;have Cc:=Cb.kept u5 (by omega);have kc:=kb.trans u5 (λi _ h=>h);have zc:=u5.size;push_cast -dsimp;refine aF (sJ 9 0 (by omega) (by omega) pb B wc l6 ZD) ?_ ?_;rotate_left;·
      rintro ce we ⟨e,pos,he,ht,eQ⟩
      push_cast -dsimp
      refine⟨e,pos,ep iR eE hm cI kL ?_,ht.mono (by have:=kc.size;omega),kc.trans eQ (λi _ h=>h)⟩
      rw[ml]
      rw[aI pT,aI e5,aI e6];exact bu he
     rintro u wd ⟨x2,l7,e7,Vd,Pd,AY⟩;obtain⟨vb,rfl,Lu,_⟩:=Vd.ptr;have Cd:=Cc.kept AY (by omega);have kd:=kc.trans AY (λi _ h=>h);have zd:=AY.size;push_cast -dsimp;refine aC Cd (by simp) rfl ?_;intro we lE;have Ce:aL we w'.heap.size 84 [.int .i64 t1.pos,.bool true,bw ub,bw vb]:=lE.aM;have Pe:=Pd.kept lE.kept (λi h=>by omega);have ke:=kd.trans lE.kept (λi h1 h2=>by omega);have ze:=lE.size;push_cast -dsimp;refine aF (fW [59] Pe) ?_ ?_;rotate_left;·
      rintro ce we ⟨e,pos,he,ht,eQ⟩
      push_cast -dsimp
      refine⟨e,pos,ep iR eE hm cI kL ?_,ht.mono (by have:=ke.size;omega),ke.trans eQ (λi _ h=>h)⟩
      rw[ml]
      rw[aI pT,aI e5,aI e6,aI e7];exact bu he
     rintro _ wf ⟨_,l8,e8,rfl,Pf,vy⟩;have Cf:=Ce.kept vy (by omega);have kf:=ke.trans vy (λi _ h=>h);have zf:=vy.size;have bU:lI l1=.ok (⟨t1.pos,true,x1,x2⟩,l8):=by rw[ml,aI pT,aI e5,aI e6,aI e7,aI e8];rfl
     have hl8:=yh _ _ _ bU;have kw:Kept (λi=>i=pb) w' wf:=((((((kw6.trans uZ (λi _ h=>h)).trans dE.kept (λi h1 h2=>by omega)).trans u5 (λi _ h=>h)).trans AY (λi _ h=>h)).trans lE.kept (λi h1 h2=>by omega)).trans vy (λi _ h=>h));have IP:=hF.kept kw (by omega);have Zw:=hO.aJ kw (λg hg h=>by have:=(hO.block g hg).1;omega);have fS:∀g,rv.ownBlock=some g->V0.heap.size<=g/\g<w'.heap.size:=λg hg=>hO.block g hg;have hVf:dW (mh (λb=>(b<V0.heap.size\/rv.ownBlock=some b)\/w'.heap.size<=b) wf) rs kJ:=hV.imp λa c h=>h.top.mono kw (λi h=>by omega) (λi h=>h);have L8:bC (λb=>b<w6.heap.size\/wa.heap.size<=b) wf (bw ub) x1:=(((Va.top.mono dE.kept (X':=λb=>b<w6.heap.size\/wa.heap.size<=b) (λi h=>by omega) (λi h=>h)).mono u5 (X':=λb=>b<w6.heap.size\/wa.heap.size<=b) (λi h=>by omega) (λi h=>h)).mono AY (X':=λb=>b<w6.heap.size\/wa.heap.size<=b) (λi h=>by omega) (λi h=>h)).mono lE.kept (X':=λb=>b<w6.heap.size\/wa.heap.size<=b) (λi h=>by omega) (λi h=>h) |>.mono vy (λi h=>by omega) (λi h=>h);have L9:bC (λb=>b<wc.heap.size\/wd.heap.size<=b) wf (bw vb) x2:=(Vd.top.mono lE.kept (X':=λb=>b<wc.heap.size\/wd.heap.size<=b) (λi h=>by omega) (λi h=>h)).mono vy (λi h=>by omega) (λi h=>h);have df:wf.cell? ⟨w.heap.size+1,1,none⟩=some (.slice ra rs.length rc):=by rw[<-D3];exact IP.cell rfl
     have dl:aB wf ⟨w'.heap.size,0,none⟩ 0 4=some [.int .i64 t1.pos,.bool true,bw ub,bw vb]:=Cf.aB;push_cast -dsimp[df,dl];refine cG qD rfl rfl (by omega) ?_;intro wg lF;have hFg:=IP.below lF.below IP.lt;have Vn:=Zw.new lF;rw[D3]at Vn;have Pg:=Pf.below lF.below;have zg:=lF.size;push_cast -dsimp;refine aW (base:=V0.heap.size) [(t1.pos,true,ub,vb)] (enc:=j8) qD Vn (by rfl) (λj y hy=>by simpa[j8,bw] using lF.cell hy) rF (by rw[iQ];simp only[List.length_cons,List.length_nil];omega) (by omega) ?_;intro rv2 wh L7 Qg kN;rw[<-D3]at Qg kN;have kg:Kept (λj=>rv.ownBlock=some j) wg wh:=Kept.grown Qg (λ_ h=>h);have Zr:=hFg.kept kg (λh=>by have:=fS _ h;omega);have Ph:=Pg.kept kg (λi h=>by have:=fS _ h;omega);have zh:=kg.size;obtain⟨a5,c5,rfl⟩:=L7.slice;push_cast -dsimp;refine aC Zr (by simp) rfl ?_;intro wi gS;have Ym:aL wi (w.heap.size+1) 26 [.slice ca cs.length cc,.slice a5 (rs++[(t1.pos,true,ub,vb)]).length c5,.bool true]:=gS.aM;have hOi:=L7.aJ gS.kept (λg hg h=>by have:=(L7.block g hg).1;omega);have Pi:=Ph.kept gS.kept (λi h=>by omega);have kY:Kept (λi=>i=w.heap.size+1\/rv.ownBlock=some i) wf wi:=((Kept.new (X:=λi=>i=w.heap.size+1\/rv.ownBlock=some i) lF).trans kg (λi _ h=>.inr h)).trans gS.kept (λi _ h=>.inl h);have ki:=kf.trans kY (X:=(·=pb)) (λi h1 h2=>by
      rcases h2 with h2|h2
      ·omega
      have:=fS _ h2;omega)
     have kv0:Kept (λi=>i=pb\/i=w.heap.size+1\/rv.ownBlock=some i) w' wi:=(kw.weaken (Y:=λi=>i=pb\/i=w.heap.size+1\/rv.ownBlock=some i) (λi _ h=>.inl h)).trans kY (λi _ h=>.inr h);have kv:=AD.trans kv0 (λi h1 h2=>by
      rcases h2 with h2|h2|h2
      ·exact .inl h2
      ·exact .inr h2
      have:=fS _ h2;omega)
     have zkw:=kw.size;have hVi:dW (mh (λb=>b<V0.heap.size\/(Value.slice a5 (rs++[(t1.pos,true,ub,vb)]).length c5).ownBlock=some b) wi) (rs++[(t1.pos,true,ub,vb)]) (kJ++[⟨t1.pos,true,x1,x2⟩]):=by
      refine(hVf.imp λa c h=>h.mono kY (λi h=>?_) (λi h=>?_)).snoc ⟨rfl,rfl,L8.mono kY (λi h=>?_) (λi h=>?_),L9.mono kY (λi h=>?_) (λi h=>?_)⟩
      ·rcases h with h|h
       ·exact .inl (.inl (by omega))
       exact .inl (.inr h)
      ·rcases h with h|h
       ·exact .inl (.inl h)
       rcases kN i h with h|h
       ·exact .inl (.inr h)
       exact .inr (by omega)
      ·rcases h with h|h
       ·exact .inl (by omega)
       have:=fS _ h;exact .inl (by omega)
      ·rcases h with h|h
       ·exact .inl (by omega)
       rcases kN i h with h|h
       ·have:=fS _ h;exact .inl (by omega)
       exact .inr (by omega)
      ·rcases h with h|h
       ·exact .inl (by omega)
       have:=fS _ h;exact .inl (by omega)
      rcases h with h|h
      ·exact .inl (by omega)
      rcases kN i h with h|h
      ·have:=fS _ h;exact .inl (by omega)
      exact .inr (by omega)
     have jC:bP (m-1) (kJ++[⟨t1.pos,true,x1,x2⟩]) l8=bP 1000 [] lc:=by rw[qq eE hm cI kL,aI bU]
     have Zx:=Pi.len;push_cast -dsimp;exact⟨⟨m-1,kJ++[⟨t1.pos,true,x1,x2⟩],l8,_,_,jC,by omega,by rw[List.length_append,List.length_singleton];omega,Ym,hOi,hVi,Pi,ki,kv⟩,by rw[Zx,Vo];exact hl8⟩
    obtain rfl:w5=wt:=qT.symm;push_cast -dsimp;refine aC C5 (by simp) rfl ?_;intro wu Kd;have Cu:aL wu w'.heap.size 84 [.int .i64 t1.pos,.bool false,.pointer none,.pointer none]:=Kd.aM;have Pu:=P5.kept Kd.kept (λi h=>by omega);have ku:=k5.trans Kd.kept (λi h1 h2=>by omega);have zu:=Kd.size;have du:wu.cell? ⟨w'.heap.size,1,none⟩=some (.bool false):=Cu.cell rfl;push_cast -dsimp[du];have Ip:gW l1=Cae.pb (cY [107,101,101,112]) (λ_=>pr false) l1:=by
     unfold gW ax;rw[uP];rfl
    refine aF (fW [107,101,101,112] Pu) ?_ ?_;rotate_left;·
     rintro ce we ⟨e,pos,he,ht,eQ⟩
     push_cast -dsimp
     refine⟨e,pos,ep iR eE hm cI kL ?_,ht.mono (by have:=ku.size;omega),ku.trans eQ (λi _ h=>h)⟩
     rw[ml]
     refine bu ?_;rw[Ip];exact bu he
    rintro _ w6 ⟨_,l3,e3,rfl,P6,sH⟩;have pT:gW l1=.ok (false,l3):=by rw[Ip,aI e3];rfl
    have C6:=Cu.kept sH (by omega);have k6:=ku.trans sH (λi _ h=>h);have kw6:=(kw5.trans Kd.kept (λi h1 h2=>by omega)).trans sH (λi _ h=>h);have z6:w5.heap.size<=w6.heap.size:=by have:=sH.size;omega
    push_cast -dsimp;refine aF (sJ 9 0 (by omega) (by omega) pb B w6 l3 P6) ?_ ?_;rotate_left;·
     rintro ce we ⟨e,pos,he,ht,eQ⟩
     push_cast -dsimp
     refine⟨e,pos,ep iR eE hm cI kL ?_,ht.mono (by have:=k6.size;omega),k6.trans eQ (λi _ h=>h)⟩
     rw[ml]
     rw[aI pT];exact bu he
    rintro u wa ⟨x1,l5,e5,Va,Pa,uZ⟩;obtain⟨ub,rfl,HR,_⟩:=Va.ptr;have Ca:=C6.kept uZ (by omega);have ka:=k6.trans uZ (λi _ h=>h);have za:=uZ.size;push_cast -dsimp;refine aC Ca (by simp) rfl ?_;intro wb dE;have Cb:aL wb w'.heap.size 84 [.int .i64 t1.pos,.bool false,bw ub,.pointer none]:=dE.aM;have Pb:=Pa.kept dE.kept (λi h=>by omega);have kb:=ka.trans dE.kept (λi h1 h2=>by omega);have zb:=dE.size;push_cast -dsimp;refine aF (fW [58] Pb) ?_ ?_;rotate_left;·
     rintro ce we ⟨e,pos,he,ht,eQ⟩
     push_cast -dsimp
     refine⟨e,pos,ep iR eE hm cI kL ?_,ht.mono (by have:=kb.size;omega),kb.trans eQ (λi _ h=>h)⟩
     rw[ml]
     rw[aI pT,aI e5];exact bu he
    rintro _ wc ⟨_,l6,e6,rfl,ZD,u5⟩;have Cc:=Cb.kept u5 (by omega);have kc:=kb.trans u5 (λi _ h=>h);have zc:=u5.size;push_cast -dsimp;refine aF (sJ 9 0 (by omega) (by omega) pb B wc l6 ZD) ?_ ?_;rotate_left;·
     rintro ce we ⟨e,pos,he,ht,eQ⟩
     push_cast -dsimp
     refine⟨e,pos,ep iR eE hm cI kL ?_,ht.mono (by have:=kc.size;omega),kc.trans eQ (λi _ h=>h)⟩
     rw[ml]
     rw[aI pT,aI e5,aI e6];exact bu he
    rintro u wd ⟨x2,l7,e7,Vd,Pd,AY⟩;obtain⟨vb,rfl,Lu,_⟩:=Vd.ptr;have Cd:=Cc.kept AY (by omega);have kd:=kc.trans AY (λi _ h=>h);have zd:=AY.size;push_cast -dsimp;refine aC Cd (by simp) rfl ?_;intro we lE;have Ce:aL we w'.heap.size 84 [.int .i64 t1.pos,.bool false,bw ub,bw vb]:=lE.aM;have Pe:=Pd.kept lE.kept (λi h=>by omega);have ke:=kd.trans lE.kept (λi h1 h2=>by omega);have ze:=lE.size;push_cast -dsimp;refine aF (fW [59] Pe) ?_ ?_;rotate_left;·
     rintro ce we ⟨e,pos,he,ht,eQ⟩
     push_cast -dsimp
     refine⟨e,pos,ep iR eE hm cI kL ?_,ht.mono (by have:=ke.size;omega),ke.trans eQ (λi _ h=>h)⟩
     rw[ml]
     rw[aI pT,aI e5,aI e6,aI e7];exact bu he
    rintro _ wf ⟨_,l8,e8,rfl,Pf,vy⟩;have Cf:=Ce.kept vy (by omega);have kf:=ke.trans vy (λi _ h=>h);have zf:=vy.size;have bU:lI l1=.ok (⟨t1.pos,false,x1,x2⟩,l8):=by rw[ml,aI pT,aI e5,aI e6,aI e7,aI e8];rfl
    have hl8:=yh _ _ _ bU;have kw:Kept (λi=>i=pb) w' wf:=((((((kw6.trans uZ (λi _ h=>h)).trans dE.kept (λi h1 h2=>by omega)).trans u5 (λi _ h=>h)).trans AY (λi _ h=>h)).trans lE.kept (λi h1 h2=>by omega)).trans vy (λi _ h=>h));have IP:=hF.kept kw (by omega);have Zw:=hO.aJ kw (λg hg h=>by have:=(hO.block g hg).1;omega);have fS:∀g,rv.ownBlock=some g->V0.heap.size<=g/\g<w'.heap.size:=λg hg=>hO.block g hg;have hVf:dW (mh (λb=>(b<V0.heap.size\/rv.ownBlock=some b)\/w'.heap.size<=b) wf) rs kJ:=hV.imp λa c h=>h.top.mono kw (λi h=>by omega) (λi h=>h);have L8:bC (λb=>b<w6.heap.size\/wa.heap.size<=b) wf (bw ub) x1:=(((Va.top.mono dE.kept (X':=λb=>b<w6.heap.size\/wa.heap.size<=b) (λi h=>by omega) (λi h=>h)).mono u5 (X':=λb=>b<w6.heap.size\/wa.heap.size<=b) (λi h=>by omega) (λi h=>h)).mono AY (X':=λb=>b<w6.heap.size\/wa.heap.size<=b) (λi h=>by omega) (λi h=>h)).mono lE.kept (X':=λb=>b<w6.heap.size\/wa.heap.size<=b) (λi h=>by omega) (λi h=>h) |>.mono vy (λi h=>by omega) (λi h=>h);have L9:bC (λb=>b<wc.heap.size\/wd.heap.size<=b) wf (bw vb) x2:=(Vd.top.mono lE.kept (X':=λb=>b<wc.heap.size\/wd.heap.size<=b) (λi h=>by omega) (λi h=>h)).mono vy (λi h=>by omega) (λi h=>h);have df:wf.cell? ⟨w.heap.size+1,1,none⟩=some (.slice ra rs.length rc):=by rw[<-D3];exact IP.cell rfl
    have dl:aB wf ⟨w'.heap.size,0,none⟩ 0 4=some [.int .i64 t1.pos,.bool false,bw ub,bw vb]:=Cf.aB;push_cast -dsimp[df,dl];refine cG qD rfl rfl (by omega) ?_;intro wg lF;have hFg:=IP.below lF.below IP.lt;have Vn:=Zw.new lF;rw[D3]at Vn;have Pg:=Pf.below lF.below;have zg:=lF.size;push_cast -dsimp;refine aW (base:=V0.heap.size) [(t1.pos,false,ub,vb)] (enc:=j8) qD Vn (by rfl) (λj y hy=>by simpa[j8,bw] using lF.cell hy) rF (by rw[iQ];simp only[List.length_cons,List.length_nil];omega) (by omega) ?_;intro rv2 wh L7 Qg kN;rw[<-D3]at Qg kN;have kg:Kept (λj=>rv.ownBlock=some j) wg wh:=Kept.grown Qg (λ_ h=>h);have Zr:=hFg.kept kg (λh=>by have:=fS _ h;omega);have Ph:=Pg.kept kg (λi h=>by have:=fS _ h;omega);have zh:=kg.size;obtain⟨a5,c5,rfl⟩:=L7.slice;push_cast -dsimp;refine aC Zr (by simp) rfl ?_;intro wi gS;have Ym:aL wi (w.heap.size+1) 26 [.slice ca cs.length cc,.slice a5 (rs++[(t1.pos,false,ub,vb)]).length c5,.bool true]:=gS.aM;have hOi:=L7.aJ gS.kept (λg hg h=>by have:=(L7.block g hg).1;omega);have Pi:=Ph.kept gS.kept (λi h=>by omega);have kY:Kept (λi=>i=w.heap.size+1\/rv.ownBlock=some i) wf wi:=((Kept.new (X:=λi=>i=w.heap.size+1\/rv.ownBlock=some i) lF).trans kg (λi _ h=>.inr h)).trans gS.kept (λi _ h=>.inl h);have ki:=kf.trans kY (X:=(·=pb)) (λi h1 h2=>by
     rcases h2 with h2|h2
     ·omega
     have:=fS _ h2;omega)
    have kv0:Kept (λi=>i=pb\/i=w.heap.size+1\/rv.ownBlock=some i) w' wi:=(kw.weaken (Y:=λi=>i=pb\/i=w.heap.size+1\/rv.ownBlock=some i) (λi _ h=>.inl h)).trans kY (λi _ h=>.inr h);have kv:=AD.trans kv0 (λi h1 h2=>by
     rcases h2 with h2|h2|h2
     ·exact .inl h2
     ·exact .inr h2
     have:=fS _ h2;omega)
    have zkw:=kw.size;have hVi:dW (mh (λb=>b<V0.heap.size\/(Value.slice a5 (rs++[(t1.pos,false,ub,vb)]).length c5).ownBlock=some b) wi) (rs++[(t1.pos,false,ub,vb)]) (kJ++[⟨t1.pos,false,x1,x2⟩]):=by
     refine(hVf.imp λa c h=>h.mono kY (λi h=>?_) (λi h=>?_)).snoc ⟨rfl,rfl,L8.mono kY (λi h=>?_) (λi h=>?_),L9.mono kY (λi h=>?_) (λi h=>?_)⟩
     ·rcases h with h|h
      ·exact .inl (.inl (by omega))
      exact .inl (.inr h)
     ·rcases h with h|h
      ·exact .inl (.inl h)
      rcases kN i h with h|h
      ·exact .inl (.inr h)
      exact .inr (by omega)
     ·rcases h with h|h
      ·exact .inl (by omega)
      have:=fS _ h;exact .inl (by omega)
     ·rcases h with h|h
      ·exact .inl (by omega)
      rcases kN i h with h|h
      ·have:=fS _ h;exact .inl (by omega)
      exact .inr (by omega)
     ·rcases h with h|h
      ·exact .inl (by omega)
      have:=fS _ h;exact .inl (by omega)
     rcases h with h|h
     ·exact .inl (by omega)
     rcases kN i h with h|h
     ·have:=fS _ h;exact .inl (by omega)
     exact .inr (by omega)
    have jC:bP (m-1) (kJ++[⟨t1.pos,false,x1,x2⟩]) l8=bP 1000 [] lc:=by rw[qq eE hm cI kL,aI bU]
    have Zx:=Pi.len;push_cast -dsimp;exact⟨⟨m-1,kJ++[⟨t1.pos,false,x1,x2⟩],l8,_,_,jC,by omega,by rw[List.length_append,List.length_singleton];omega,Ym,hOi,hVi,Pi,ki,kv⟩,by rw[Zx,Vo];exact hl8⟩
   | false =>
    have cI:gz l1=false:=by rw[jU,gY]
    have Ka:=aBQ eE hm cI;have Qe:jB l0=Cae.pb np (λb=>pr ⟨acc,kJ,b⟩) l1:=by
     unfold jB;rw[aI iR,aI Ka]
    push_cast -dsimp;refine aA (gE [101,108,115,101] hP) ?_;rintro _ w3' hT;rcases hT with ⟨Cm,rfl,t3,l3,el3,h53,P3',kt3,Iq⟩|⟨Cm,rfl,qT⟩
    ·have kR:cK l1=.ok ((),l3):=by rw[el3];exact dV h53
     have WJ:np l1=Cae.pb gW (λb=>Cae.pb (cY [59]) λ_=>pr b) l3:=by
      unfold np ax;rw[Cm,if_pos rfl,aI kR]
     have F3':=hF.kept kt3 (by omega);have k3':=hk.trans kt3 (λi _ h=>h);have y3':Kept (λi=>i=pb\/i=w.heap.size+1) w' w3':=kt3.weaken (λi _ h=>.inl h);push_cast -dsimp;refine aA (gE [98,114,101,97,107] P3') ?_;rintro _ w4' hT;rcases hT with ⟨uP,rfl,t4,l4,Pn,h54,P4',kt4,Lx⟩|⟨uP,rfl,qT⟩
     ·have aJs:cK l3=.ok ((),l4):=by rw[Pn];exact dV h54
      have pT:gW l3=.ok (true,l4):=by
       unfold gW ax;rw[uP,if_pos rfl,aI aJs];rfl
      have F4':=F3'.kept kt4 (by omega);push_cast -dsimp;refine aC F4' (by simp) rfl ?_;intro w5 cH;have F5:aL w5 (w.heap.size+1) 26 [.slice ca cs.length cc,rv,.bool true]:=cH.aM;have P5:=P4'.kept cH.kept (λi h=>by omega);have k5:=(k3'.trans kt4 (λi _ h=>h)).trans cH.kept (λi h1 h2=>by omega);have y5:=(y3'.trans kt4 (λi _ h=>.inl h)).trans cH.kept (λi _ h=>.inr h);have d5:w5.cell? ⟨w.heap.size+1,2,none⟩=some (.bool true):=F5.cell rfl;push_cast -dsimp[d5];refine aF (fW [59] P5) ?_ ?_;rotate_left;·
       rintro ce we ⟨e,pos,he,ht,eQ⟩
       push_cast -dsimp
       refine⟨e,pos,?_,ht.mono (by have:=k5.size;omega),k5.trans eQ (λi _ h=>h)⟩
       rw[Qe]
       refine bu ?_
       rw[WJ]
       rw[aI pT];exact bu he
      rintro _ w6 ⟨_,l5,e5,rfl,Px,sH⟩;have hFx:=F5.kept sH (by omega);have kx:=k5.trans sH (λi _ h=>h);have ky:=y5.trans sH (λi _ h=>.inl h);have I2:jB l0=.ok (⟨acc,kJ,true⟩,l5):=by rw[Qe,aI (show np l1=.ok (true,l5) by rw[WJ,aI pT,aI e5];rfl)];rfl
      push_cast -dsimp;have kvx:=AD.trans ky (λi _ h=>h);have vf:=hR.kept kvx (by omega);have d3:aB w6 ⟨w.heap.size+1,0,none⟩ 0 3=some [.slice ca cs.length cc,rv,.bool true]:=hFx.aB;rw[D3]at d3;push_cast -dsimp[d3];refine aH (xt:=26) (n:=3) (by kernel_rfl) vf rfl (by decide) (by simp;exact⟨rfl,rfl,rfl⟩) ?_;intro wz AO;have hRz:aL wz w.heap.size 26 [.slice ca cs.length cc,.slice ra rs.length rc,.bool true]:=AO.aM;have dz:aB wz ⟨w.heap.size,0,none⟩ 0 3=some [.slice ca cs.length cc,.slice ra rs.length rc,.bool true]:=hRz.aB;have Pz:=Px.kept AO.kept (λi h=>by omega);have kz:=kx.trans AO.kept (X:=(·=pb)) (λi h1 h2=>by omega);have kvz:Kept (λi=>i<w.heap.size+2) V0 wz:=(kvx.weaken (Y:=λi=>i<w.heap.size+2) (λi _ h=>by omega)).trans AO.kept (λi _ h=>by omega);have kyz:Kept (λi=>i<w.heap.size+2) w' wz:=(ky.weaken (Y:=λi=>i<w.heap.size+2) (λi _ h=>by omega)).trans AO.kept (λi _ h=>by omega);have s1:Sl (·<w.heap.size) 3 (En zX) wz (.slice ca cs.length cc) cs:=by
       have hh:=(xy.aJ kvz (λg hg h=>by have:=(xy.block g hg).1;omega)).sl;rw[aEM]at hh;exact hh.weaken (λi h=>by omega)
      have s2:Sl (·<w.heap.size) 4 (En j8) wz (.slice ra rs.length rc) rs:=by
       have hh:=(hO.aJ kyz (λg hg h=>by have:=(hO.block g hg).1;omega)).sl;rw[D3]at hh;exact hh.weaken (λi h=>by omega)
      have a1:dW (tV (·<w.heap.size) wz) cs acc:=hVc.imp λa c h=>h.mono kvz (λi h=>.inl h) (λi h=>.inl (by omega));have a2:dW (mh (·<w.heap.size) wz) rs kJ:=hV.imp λa c h=>h.mono kyz (λi h=>.inl (by omega)) (λi h=>.inl (by omega));push_cast -dsimp[dz];exact⟨_,_,I2,⟨_,_,cs,rs,rfl,s1,s2,a1,a2⟩,Pz,kz⟩
     obtain rfl:w3'=w4':=qT.symm;push_cast -dsimp;refine aC F3' (by simp) rfl ?_;intro wu Kd;have Fu:aL wu (w.heap.size+1) 26 [.slice ca cs.length cc,rv,.bool false]:=Kd.aM;have Pu:=P3'.kept Kd.kept (λi h=>by omega);have ku:=k3'.trans Kd.kept (λi h1 h2=>by omega);have yu:=y3'.trans Kd.kept (λi _ h=>.inr h);have du:wu.cell? ⟨w.heap.size+1,2,none⟩=some (.bool false):=Fu.cell rfl;have Ip:gW l3=Cae.pb (cY [107,101,101,112]) (λ_=>pr false) l3:=by
      unfold gW ax;rw[uP];rfl
     push_cast -dsimp[du];refine aF (fW [107,101,101,112] Pu) ?_ ?_;rotate_left;·
      rintro ce we ⟨e,pos,he,ht,eQ⟩
      push_cast -dsimp
      refine⟨e,pos,?_,ht.mono (by have:=ku.size;omega),ku.trans eQ (λi _ h=>h)⟩
      rw[Qe]
      refine bu ?_
      rw[WJ]
      refine bu ?_;rw[Ip];exact bu he
     rintro _ w5 ⟨_,l4,e4,rfl,P5,kt5⟩;have pT:gW l3=.ok (false,l4):=by rw[Ip,aI e4];rfl
     have F5:=Fu.kept kt5 (by omega);have k5:=ku.trans kt5 (λi _ h=>h);have y5:=yu.trans kt5 (λi _ h=>.inl h);push_cast -dsimp;refine aF (fW [59] P5) ?_ ?_;rotate_left;·
      rintro ce we ⟨e,pos,he,ht,eQ⟩
      push_cast -dsimp
      refine⟨e,pos,?_,ht.mono (by have:=k5.size;omega),k5.trans eQ (λi _ h=>h)⟩
      rw[Qe]
      refine bu ?_
      rw[WJ]
      rw[aI pT];exact bu he
     rintro _ w6 ⟨_,l5,e5,rfl,Px,sH⟩;have hFx:=F5.kept sH (by omega);have kx:=k5.trans sH (λi _ h=>h);have ky:=y5.trans sH (λi _ h=>.inl h);have I2:jB l0=.ok (⟨acc,kJ,false⟩,l5):=by rw[Qe,aI (show np l1=.ok (false,l5) by rw[WJ,aI pT,aI e5];rfl)];rfl
     push_cast -dsimp;have kvx:=AD.trans ky (λi _ h=>h);have vf:=hR.kept kvx (by omega);have d3:aB w6 ⟨w.heap.size+1,0,none⟩ 0 3=some [.slice ca cs.length cc,rv,.bool false]:=hFx.aB;rw[D3]at d3;push_cast -dsimp[d3];refine aH (xt:=26) (n:=3) (by kernel_rfl) vf rfl (by decide) (by simp;exact⟨rfl,rfl,rfl⟩) ?_;intro wz AO;have hRz:aL wz w.heap.size 26 [.slice ca cs.length cc,.slice ra rs.length rc,.bool false]:=AO.aM;have dz:aB wz ⟨w.heap.size,0,none⟩ 0 3=some [.slice ca cs.length cc,.slice ra rs.length rc,.bool false]:=hRz.aB;have Pz:=Px.kept AO.kept (λi h=>by omega);have kz:=kx.trans AO.kept (X:=(·=pb)) (λi h1 h2=>by omega);have kvz:Kept (λi=>i<w.heap.size+2) V0 wz:=(kvx.weaken (Y:=λi=>i<w.heap.size+2) (λi _ h=>by omega)).trans AO.kept (λi _ h=>by omega);have kyz:Kept (λi=>i<w.heap.size+2) w' wz:=(ky.weaken (Y:=λi=>i<w.heap.size+2) (λi _ h=>by omega)).trans AO.kept (λi _ h=>by omega);have s1:Sl (·<w.heap.size) 3 (En zX) wz (.slice ca cs.length cc) cs:=by
      have hh:=(xy.aJ kvz (λg hg h=>by have:=(xy.block g hg).1;omega)).sl;rw[aEM]at hh;exact hh.weaken (λi h=>by omega)
     have s2:Sl (·<w.heap.size) 4 (En j8) wz (.slice ra rs.length rc) rs:=by
      have hh:=(hO.aJ kyz (λg hg h=>by have:=(hO.block g hg).1;omega)).sl;rw[D3]at hh;exact hh.weaken (λi h=>by omega)
     have a1:dW (tV (·<w.heap.size) wz) cs acc:=hVc.imp λa c h=>h.mono kvz (λi h=>.inl h) (λi h=>.inl (by omega));have a2:dW (mh (·<w.heap.size) wz) rs kJ:=hV.imp λa c h=>h.mono kyz (λi h=>.inl (by omega)) (λi h=>.inl (by omega));push_cast -dsimp[dz];exact⟨_,_,I2,⟨_,_,cs,rs,rfl,s1,s2,a1,a2⟩,Pz,kz⟩
    obtain rfl:w'=w3':=qT.symm;have hFx:=hF;have Px:=hP;have kx:=hk;have ky:Kept (λi=>i=pb\/i=w.heap.size+1) w' w':=Kept.refl _ _;have I2:jB l0=.ok (⟨acc,kJ,true⟩,l1):=by
     rw[Qe,aI (show np l1=.ok (true,l1) by unfold np ax;rw[Cm];rfl)]
     rfl
    push_cast -dsimp;have kvx:=AD.trans ky (λi _ h=>h);have vf:=hR.kept kvx (by omega);have d3:aB w' ⟨w.heap.size+1,0,none⟩ 0 3=some [.slice ca cs.length cc,rv,.bool true]:=hFx.aB;rw[D3]at d3;push_cast -dsimp[d3];refine aH (xt:=26) (n:=3) (by kernel_rfl) vf rfl (by decide) (by simp;exact⟨rfl,rfl,rfl⟩) ?_;intro wz AO;have hRz:aL wz w.heap.size 26 [.slice ca cs.length cc,.slice ra rs.length rc,.bool true]:=AO.aM;have dz:aB wz ⟨w.heap.size,0,none⟩ 0 3=some [.slice ca cs.length cc,.slice ra rs.length rc,.bool true]:=hRz.aB;have Pz:=Px.kept AO.kept (λi h=>by omega);have kz:=kx.trans AO.kept (X:=(·=pb)) (λi h1 h2=>by omega);have kvz:Kept (λi=>i<w.heap.size+2) V0 wz:=(kvx.weaken (Y:=λi=>i<w.heap.size+2) (λi _ h=>by omega)).trans AO.kept (λi _ h=>by omega);have kyz:Kept (λi=>i<w.heap.size+2) w' wz:=(ky.weaken (Y:=λi=>i<w.heap.size+2) (λi _ h=>by omega)).trans AO.kept (λi _ h=>by omega);have s1:Sl (·<w.heap.size) 3 (En zX) wz (.slice ca cs.length cc) cs:=by
     have hh:=(xy.aJ kvz (λg hg h=>by have:=(xy.block g hg).1;omega)).sl;rw[aEM]at hh;exact hh.weaken (λi h=>by omega)
    have s2:Sl (·<w.heap.size) 4 (En j8) wz (.slice ra rs.length rc) rs:=by
     have hh:=(hO.aJ kyz (λg hg h=>by have:=(hO.block g hg).1;omega)).sl;rw[D3]at hh;exact hh.weaken (λi h=>by omega)
    have a1:dW (tV (·<w.heap.size) wz) cs acc:=hVc.imp λa c h=>h.mono kvz (λi h=>.inl h) (λi h=>.inl (by omega));have a2:dW (mh (·<w.heap.size) wz) rs kJ:=hV.imp λa c h=>h.mono kyz (λi h=>.inl (by omega)) (λi h=>.inl (by omega));push_cast -dsimp[dz];exact⟨_,_,I2,⟨_,_,cs,rs,rfl,s1,s2,a1,a2⟩,Pz,kz⟩
end Go.Proofs.YtemjejfpadnljaaGreatDoor
end
section
namespace Cae
theorem EA (f:UInt8->Bool)(c:UInt8)(r:List UInt8):jm f (c::r)=if f c then jm f r+1 else 0:=by
 unfold jm;rw[List.takeWhile_cons];split<;>rfl
theorem Gl:∀(f:UInt8->Bool) (s:List UInt8) (n:Nat),n<=s.length->(∀i,i<n->f (s.getD i 0)=true)->(n=s.length\/f (s.getD n 0)=false)->jm f s=n
 | f,[],n,h,_,_=>by
  have:n=0:=by simpa using h
  subst this;rfl
 | f,c::r,0,_,_,h=>by
  rw[EA];rcases h with h|h
  ·simp at h
  have:f c=false:=h;rw[this];rfl
 | f,c::r,n+1,h,ha,hb=>by
  rw[EA,if_pos (show f c=true from ha 0 (by omega)),Gl f r n (by simpa using h) (λi hi=>ha (i+1) (by omega)) (hb.imp (λe=>by simpa using e) (λe=>e))]
theorem aFp {s:List UInt8}{c:UInt8}:Go.Lib.indexByte s c+1=if s.contains c then ((jm (· != c) s+1:Nat):Int) else 0:=by
 rw[uR];split<;>simp[jm]
theorem aGg {i:Nat}{s:List UInt8}{l:List Tok}(h:Tk i s l):∀t∈l,t.kind=2->t.text≠[]/\∀c∈t.text,eL c=true:=by
 induction h with
 | nil i=>simp
 | blank _ _ ih=>exact ih
 | note _ _ _ ih=>exact ih
 | @tok i c r l h1 h2 h3 hl ih =>
  intro t ht hk;rcases List.mem_cons.1 ht with rfl|ht
  ·rw[pF]at hk h3;simp only[pF];by_cases a1:jX c=true
   ·rw[if_pos a1]at hk;cases hk
   rw[if_neg a1]at hk h3 ⊢
   by_cases a2:eL c=true
   ·rw[if_pos a2]at h3 ⊢
    have e:(c::r).take (jm eL (c::r))=(c::r).takeWhile eL:=yj eL (c::r)
    show (c::r).take (jm eL (c::r))≠[]/\_
    rw[e];refine⟨λhh=>?_,λx hx=>?_⟩
    ·rw[List.takeWhile_cons,if_pos a2]at hh;cases hh
    exact List.all_eq_true.1 (List.all_takeWhile (p:=eL) (l:=c::r)) x hx
   rw[if_neg a2]at hk;split at hk
   ·cases hk
   split at hk<;>cases hk
  exact ih t ht hk
end Cae
namespace Go.Proofs.YtemjejfpadnljaaGreatDoor
open Go.Vc Go.Proofs Go.RowKit Cae
attribute [local irreducible] cg aa ag aX runK ar Sl Vc.Own vc aQ br a7
theorem JB (c:UInt8)(w:World):ar Tryz.prog 103 [.int .u8 c.toNat] w λr w'=>r=.bool (jX c)/\w'=w:=by
 have h:jX c=(decide (97<=c.toNat) && decide (c.toNat<=122)):=rfl;refine aE Tryz.func103 rfl (by kernel_rfl) [2] rfl ?_;push_cast -dsimp(maxSteps:=4000000) [Tryz.ntmps103];refine⟨λh1=>?_,λh1=>?_⟩
 ·rw[h,decide_eq_true (show 97<=c.toNat by omega),Bool.true_and]
  congr 1;exact decide_eq_decide.2 (by omega)
 rw[h,decide_eq_false (show ¬97<=c.toNat by omega)];rfl
theorem Et (c:UInt8)(w:World):ar Tryz.prog 105 [.int .u8 c.toNat] w λr w'=>r=.bool (eL c)/\w'=w:=by
 have h:eL c=(decide (48<=c.toNat) && decide (c.toNat<=57)):=rfl;refine aE Tryz.func105 rfl (by kernel_rfl) [2] rfl ?_;push_cast -dsimp(maxSteps:=4000000) [Tryz.ntmps105];refine⟨λh1=>?_,λh1=>?_⟩
 ·rw[h,decide_eq_true (show 48<=c.toNat by omega),Bool.true_and]
  congr 1;exact decide_eq_decide.2 (by omega)
 rw[h,decide_eq_false (show ¬48<=c.toNat by omega)];rfl
theorem Ww (c:UInt8)(w:World):ar Tryz.prog 104 [.int .u8 c.toNat] w λr w'=>r=.bool (jX c || eL c)/\w'=w:=by
 refine aE Tryz.func104 rfl (by kernel_rfl) [2] rfl ?_;push_cast -dsimp(maxSteps:=4000000) [Tryz.ntmps104];refine aA (JB c w) ?_;rintro _ _ ⟨rfl,rfl⟩;cases jX c with
 | true =>
  push_cast -dsimp;rfl
 | false =>
  push_cast -dsimp;refine aA (Et c _) ?_;rintro _ _ ⟨rfl,rfl⟩;push_cast -dsimp
theorem XR (c:UInt8)(w:World):ar Tryz.prog 64 [.int .u8 c.toNat] w λr w'=>r=.bool (c != 10)/\w'=w:=by
 refine aE Tryz.func64 rfl (by kernel_rfl) [2] rfl ?_;push_cast -dsimp(maxSteps:=4000000) [Tryz.ntmps64];congr 1;rw[bne,EW];have:(((c.toNat:Nat):Int)=10)↔c=10:=by
  constructor
  ·intro h;exact UInt8.toNat_inj.1 (by show c.toNat=10;omega)
  rintro rfl;rfl
 by_cases h:c=10
 ·rw[decide_eq_true h,decide_eq_false (show ¬((c.toNat:Nat):Int)≠10 from λhh=>hh (this.2 h))];rfl
 rw[decide_eq_false h,decide_eq_true (show ((c.toNat:Nat):Int)≠10 from λhh=>h (this.1 hh))];rfl
def AQ:Go.Shelf.Ren:=⟨λ| 217=>119|266=>144|n=>n,λ| 9=>9|5=>5|3=>3|n=>n,λ| n=>n⟩
theorem Lz:Go.Proofs.Lays.n217 Tryz.prog AQ:={
 mixed:=by kernel_rfl
 f217:=Tryz.func119.trans (congrArg some (by kernel_rfl))
 f266:=Tryz.func144.trans (congrArg some (by kernel_rfl))
 t3:=Tryz.underlying3
 a3:=Tryz.isAgg3
 z3:=Tryz.sizeOf3
 v3:=Tryz.zeroValue3
 t5:=Tryz.underlying5
 a5:=Tryz.isAgg5
 z5:=Tryz.sizeOf5
 v5:=Tryz.zeroValue5
 t9:=Tryz.underlying9
 a9:=Tryz.isAgg9
 z9:=Tryz.sizeOf9
 v9:=Tryz.zeroValue9 }
theorem GL (s:List UInt8)(c:UInt8)(w:World):ar Tryz.prog 119 [str s,.int .u8 c.toNat] w λr w'=>r=.int .i64 (Lib.indexByte s c)/\w'=w:=by
 refine dL Tryz.func119 (by kernel_rfl) (by kernel_rfl) ?_;refine Calls.mono (Any.stringslite_IndexByte Lz ⟨s.toArray⟩ c.toNat w) ?_;rintro e w' ⟨rfl,rfl⟩;exact⟨_,rfl,by simp,rfl⟩
theorem xH (s:List UInt8)(c:UInt8)(w:World):ar Tryz.prog 82 [str s,.int .u8 c.toNat] w λr w'=>r=.int .i64 (Lib.indexByte s c)/\w'=w:=by
 refine aE Tryz.func82 rfl (by kernel_rfl) [4] rfl ?_;push_cast -dsimp(maxSteps:=4000000) [Tryz.ntmps82];refine aA (GL s c w) ?_;rintro _ _ ⟨rfl,rfl⟩;push_cast -dsimp
theorem YJ (f:FuncId)(g:UInt8->Bool)(hf:∀(c:UInt8) (w:World),ar Tryz.prog f [.int .u8 c.toNat] w λr w'=>r=.bool (g c)/\w'=w)(s:List UInt8)(hs:s.length<=1000000000)(w:World) :
  ar Tryz.prog 63 [str s,.func (.func f) #[] #[]] w λr w'=>r=.int .i64 (jm g s:Nat)/\w'=w:=by
 refine aE Tryz.func63 rfl (by kernel_rfl) [4] rfl ?_;push_cast -dsimp(maxSteps:=4000000) [Tryz.ntmps63];refine aK [5,6,7,8,9,10,11,12,13,14,15,16,17,18] (λz w'=>∃n:Nat,z 5=.int .i64 n/\n<=s.length/\(∀i,i<n->g (s.getD i 0)=true)/\w'=w) (λz w'=>s.length-(intOf (z 5)).toNat) ?_ ?_
 ·exact⟨0,rfl,Nat.zero_le _,λi hi=>by omega,rfl⟩
 rintro z w' ⟨n,hz,hn,dA,rfl⟩;have hint:(intOf (z 5)).toNat=n:=by rw[hz];simp[intOf]
 push_cast -dsimp[hz];refine⟨λaj=>⟨⟨by omega,by omega⟩,?_⟩,λeo=>?_⟩
 ·refine aA (hf (s.getD n 0) w') ?_;rintro _ _ ⟨rfl,rfl⟩;cases hg:g (s.getD n 0) with
  | true =>
   push_cast -dsimp[hz];refine⟨⟨by omega,by omega⟩,⟨n+1,rfl,by omega,λi hi=>?_⟩,?_⟩
   ·by_cases h:i<n
    ·exact dA i h
    rw[show i=n by omega];exact hg
   simp only[intOf];omega
  | false =>
   push_cast -dsimp[hz];rw[Gl g s n hn dA (.inr hg)]
 rw[Gl g s n hn dA (.inl (by omega))]
theorem aFR (c:UInt8)(r:List UInt8)(hs:(c::r).length<=1000000000)(w:World):ar Tryz.prog 65 [str (c::r)] w λv w'=>v=.tuple #[.int .i64 ((gn (c::r)).1:Nat),.int .i64 ((gn (c::r)).2:Nat)]/\w'=w:=by
 have hn:=pF c r;refine aE Tryz.func65 rfl (by kernel_rfl) [2,3] rfl ?_;push_cast -dsimp(maxSteps:=4000000) [Tryz.ntmps65];have e0:((c::r).getD 0 0)=c:=rfl;refine⟨by omega,?_⟩;refine aA (JB c w) ?_;rintro _ _ ⟨rfl,rfl⟩;cases h1:jX c with
 | true =>
  rw[h1,if_pos rfl]at hn;push_cast -dsimp;refine aA (YJ _ (λc=>jX c || eL c) Ww (c::r) hs _) ?_;rintro _ _ ⟨rfl,rfl⟩;push_cast -dsimp;rw[hn];rfl
 | false =>
  rw[h1,if_neg (by decide)]at hn;push_cast -dsimp;refine aA (Et c _) ?_;rintro _ _ ⟨rfl,rfl⟩;cases h2:eL c with
  | true =>
   rw[h2,if_pos rfl]at hn;push_cast -dsimp;refine aA (YJ _ eL Et (c::r) hs _) ?_;rintro _ _ ⟨rfl,rfl⟩;push_cast -dsimp;rw[hn];rfl
  | false =>
   rw[h2,if_neg (by decide)]at hn;have h91:(((c.toNat:Nat):Int)=91)↔c=91:=by
    constructor
    ·intro h;exact UInt8.toNat_inj.1 (by show c.toNat=91;omega)
    rintro rfl;rfl
   push_cast -dsimp;refine⟨λh3=>?_,λh3=>?_⟩
   ·rw[if_pos (h91.1 h3)]at hn;refine aA (xH (c::r) 93 _) ?_;rintro _ _ ⟨rfl,rfl⟩;have hr:=uw (· != 93) (c::r);have hib:Lib.indexByte (c::r) 93+1=(((gn (c::r)).2:Nat):Int):=by
     rw[aFp,hn];split<;>rfl
    push_cast -dsimp;refine⟨?_,?_⟩
    ·rw[hib];have:=ui c r;omega
    rw[hib,hn];rfl
   rw[if_neg (λh=>h3 (h91.2 h))]at hn;refine aA (xH JH c _) ?_;rintro _ _ ⟨rfl,rfl⟩;have hib:(0<=Lib.indexByte JH c)↔JH.contains c=true:=by
    rw[uR];split
    ·rename_i h;exact⟨λ_=>h,λ_=>by omega⟩
    rename_i h;exact⟨λhh=>by omega,λhh=>absurd hh h⟩
   push_cast -dsimp;refine⟨λh=>?_,λh=>?_⟩
   ·rw[if_pos (hib.1 h)]at hn;rw[hn];rfl
   rw[if_neg (λhh=>h (hib.2 hh))]at hn;rw[hn];rfl
theorem zY (t:Tok):∀u∈jQ t,u.oneCell'=true:=by
 intro u hu;simp[jQ]at hu;rcases hu with rfl|rfl|rfl<;>rfl
def aLp (w:World)(s:List UInt8)(r:Value)(w':World):Prop :=
 (∃l v,Sk s=.ok l/\r=.tuple #[v,.nilIface]/\Go.Vc.Own w.heap.size 107 3 jQ w' v l) \/
 (∃e pos b,Sk s=.error (e,pos)/\r=.tuple #[.slice none 0 0,.iface 141 (.pointer (some ⟨b,0,none⟩))]/\w.heap.size<=b/\aL w' b 143 [.int .i64 e,.int .i64 pos])
theorem Y9 (s:List UInt8)(hs:s.length<=1000000)(w:World):ar Tryz.prog 42 [str s] w λr w'=>aLp w s r w'/\Below w.heap.size w w':=by
 refine aE Tryz.func42 rfl (by kernel_rfl) [2,3] rfl ?_;push_cast -dsimp(maxSteps:=4000000) [Tryz.ntmps42];refine aK [2,3,4,5,6,7,8,9,10,11,12,13,14,15,16,17,18,19,20,21,22,23,24,25,26,27,28,29,30,31,32,33,34,35,36,37,38,39,40,41,42,43,44,45,46,47,48,49,50,51,52,53,54,55,56,57,58,59,60,61,62,63,64] (λz w'=>∃(m i:Nat) (acc:List Tok) (v:Value),z 5=.int .i64 i/\z 4=v/\i<=s.length/\(s.drop i).length<m/\acc.length<=500/\lY m i (s.drop i) acc=Sk s/\Go.Vc.Own w.heap.size 107 3 jQ w' v acc/\Below w.heap.size w w') (λz w'=>s.length-(intOf (z 5)).toNat) ?_ ?_
 ·exact⟨s.length+1,0,[],_,rfl,rfl,Nat.zero_le _,by simp,by simp,rfl,Vc.Own.nil (enc:=jQ) _ _ (λ_=>rfl) _,Below.refl _ _⟩
 rintro z w' ⟨m,i,acc,v,HS,Lx,hi,hm,IV,eE,hO,hb⟩;obtain⟨m',rfl⟩:∃m',m=m'+1:=⟨m-1,by omega⟩;have hzb:=hb.size;obtain⟨va,vc,rfl⟩:=hO.slice;have hdl:(s.drop i).length=s.length-i:=List.length_drop;push_cast -dsimp[HS];refine⟨λaj=>?_,λeo=>?_⟩
 ·obtain⟨c,r,HI⟩:∃c r,s.drop i=c::r:=by
   cases hd:s.drop i with
   | nil=>rw[hd]at hdl;simp at hdl;omega
   | cons c r=>exact⟨c,r,rfl⟩
  have yE:s.getD i 0=c:=by
   have:(s.drop i).getD 0 0=c:=by rw[HI];rfl
   rw[<-this];simp[List.getD_eq_getElem?_getD]
  rw[HI]at eE hm hdl;have Ka:r.length+1=s.length-i:=by simpa using hdl
  have dC:=eE;rw[lY]at dC;have aIM:(((c.toNat:Nat):Int)=32)↔c=32:=⟨λh=>UInt8.toNat_inj.1 (by show c.toNat=32;omega),λh=>by subst h;rfl⟩
  have aIK:(((c.toNat:Nat):Int)=10)↔c=10:=⟨λh=>UInt8.toNat_inj.1 (by show c.toNat=10;omega),λh=>by subst h;rfl⟩
  have aEG:(((c.toNat:Nat):Int)=35)↔c=35:=⟨λh=>UInt8.toNat_inj.1 (by show c.toNat=35;omega),λh=>by subst h;rfl⟩
  have Ys:∀k,s.drop (i+k)=(c::r).drop k:=λk=>by rw[<-HI,List.drop_drop]
  by_cases h32:((c.toNat:Nat):Int)=32
  ·rw[if_pos (.inl (aIM.1 h32))]at dC;push_cast -dsimp[HS,yE,h32];refine⟨⟨by omega,by omega⟩,⟨by omega,by omega⟩,⟨m',i+1,acc,_,rfl,Lx,by omega,by rw[Ys 1];simp;omega,IV,by rw[Ys 1];exact dC,hO,hb⟩,by simp only[intOf];omega⟩
  by_cases K1:((c.toNat:Nat):Int)=10
  ·rw[if_pos (.inr (aIK.1 K1))]at dC;push_cast -dsimp[HS,yE,h32,K1];refine⟨⟨by omega,by omega⟩,⟨by omega,by omega⟩,⟨m',i+1,acc,_,rfl,Lx,by omega,by rw[Ys 1];simp;omega,IV,by rw[Ys 1];exact dC,hO,hb⟩,by simp only[intOf];omega⟩
  rw[if_neg (λh=>h.elim (λh=>h32 (aIM.2 h)) (λh=>K1 (aIK.2 h)))]at dC;by_cases h35:((c.toNat:Nat):Int)=35
  ·rw[if_pos (aEG.1 h35)]at dC;have hr:=YJ _ (· != 10) XR (c::r) (by rw[List.length_cons];omega) w';rw[<-HI]at hr;have hle:=uw (· != 10) (c::r);have yJ:0<jm (· != 10) (c::r):=YI (by rw[aEG.1 h35];decide);rw[List.length_cons]at hle;push_cast -dsimp[HS,yE,h32,K1,h35];refine⟨⟨by omega,by omega⟩,⟨by omega,by omega⟩,?_⟩;refine aA hr ?_;rintro _ wq ⟨rfl,Lw⟩;obtain rfl:w'=wq:=Lw.symm;rw[HI];push_cast -dsimp[HS];refine⟨⟨by omega,by omega⟩,⟨m',i+jm (· != 10) (c::r),acc,_,by first|(push_cast;done)|(push_cast;rfl),Lx,by omega,by rw[Ys];simp;omega,IV,by rw[Ys];exact dC,hO,hb⟩,by simp only[intOf];omega⟩
  rw[if_neg (λh=>h35 (aEG.2 h))]at dC;have hr:=aFR c r (by rw[List.length_cons];omega) w';rw[<-HI]at hr;have hle:=ui c r;rw[List.length_cons]at hle;push_cast -dsimp[HS,yE,h32,K1,h35];refine⟨⟨by omega,by omega⟩,⟨by omega,by omega⟩,?_⟩;refine aA hr ?_;rintro _ wq ⟨rfl,Lw⟩;obtain rfl:w'=wq:=Lw.symm;rw[HI];have hkn:∃k n,gn (c::r)=(k,n):=⟨_,_,rfl⟩;obtain⟨k,n,hkn⟩:=hkn;rw[hkn]at hle dC ⊢
  dsimp only at hle dC ⊢
  push_cast -dsimp[HS];refine⟨λh0=>?_,λh0=>?_⟩;·
   refine aR ?_
   intro w4 ae
   have B4:aL w4 w'.heap.size 143 [.int .i64 (3:Nat),.int .i64 i]:=ae.aM
   have b4:=hb.trans (ae.below.mono hzb)
   push_cast -dsimp
   exact⟨.inr ⟨3,i,_,by rw[<-dC,if_pos (show n=0 by omega)],rfl,hzb,B4⟩,b4⟩
  rw[if_neg (by omega)]at dC;push_cast -dsimp[Lx];refine⟨λaLE=>?_,λaLE=>?_⟩;·
   refine aR ?_
   intro w4 ae
   have B4:aL w4 w'.heap.size 143 [.int .i64 (4:Nat),.int .i64 i]:=ae.aM
   have b4:=hb.trans (ae.below.mono hzb)
   push_cast -dsimp
   exact⟨.inr ⟨4,i,_,by rw[<-dC,if_pos (show acc.length=500 by omega)],rfl,hzb,B4⟩,b4⟩
  rw[if_neg (by omega)]at dC;refine⟨⟨by omega,by omega⟩,⟨by omega,by omega,by omega⟩,?_⟩;have aOj:(s.take (i+n)).drop i=(c::r).take n:=by rw[List.drop_take,HI];congr 1;omega
  have CG:fD [(0,Value.agg #[.int .i64 k,str ((s.take ((i:Int)+n).toNat).drop i),.int .i64 i])]=[(⟨k,(c::r).take n,i⟩:Tok)].flatMap jQ:=by
   rw[show ((i:Int)+n).toNat=i+n by omega,aOj]
   rfl
  refine cG Ex rfl rfl (by omega) ?_;rw[CG];intro w4 ae;have yY:=hO.new ae;have z4':=ae.size;have b4:=hb.trans (ae.below.mono hzb);push_cast -dsimp;refine aW (base:=w.heap.size) [⟨k,(c::r).take n,i⟩] (enc:=jQ) Ex yY (by rfl) (λj y hy=>by rw[Nat.zero_add];exact ae.cell hy) zY (by simp only[List.length_cons,List.length_nil];omega) (by omega) ?_;intro v5 w5 sC yD HO;have b5:=b4.trans ((Kept.grown yD (X:=λj=>(Value.slice va acc.length vc).ownBlock=some j) (λ_ h=>h)).below (B:=w.heap.size) (by omega) (λi h=>(yY.block i h).1));push_cast -dsimp[HS];refine⟨⟨by omega,by omega⟩,⟨m',i+n,acc++[⟨k,(c::r).take n,i⟩],v5,by first|(push_cast;done)|(push_cast;rfl),rfl,by omega,by rw[Ys];simp;omega,by rw[List.length_append,List.length_singleton];omega,by rw[Ys];exact dC,sC,b5⟩,by simp only[intOf];omega⟩
 have CG:fD [(0,Value.agg #[.int .i64 5,str [],.int .i64 s.length])]=[(⟨5,[],s.length⟩:Tok)].flatMap jQ:=rfl;refine cG Ex rfl rfl (by omega) ?_;rw[CG];intro w4 ae;have yY:=hO.new ae;have z4':=ae.size;have b4:=hb.trans (ae.below.mono hzb);have Li:s.drop i=[]:=List.drop_eq_nil_iff.2 (by omega);have bU:Sk s=.ok (acc++[⟨5,[],s.length⟩]):=by
  rw[<-eE,Li,lY,show i=s.length by omega]
 push_cast -dsimp[Lx];refine aW (base:=w.heap.size) [⟨5,[],s.length⟩] (enc:=jQ) Ex yY (by rfl) (λj y hy=>by rw[Nat.zero_add];exact ae.cell hy) zY (by simp only[List.length_cons,List.length_nil];omega) (by omega) ?_;intro v5 w5 sC yD HO;have b5:=b4.trans ((Kept.grown yD (X:=λj=>(Value.slice va acc.length vc).ownBlock=some j) (λ_ h=>h)).below (B:=w.heap.size) (by omega) (λi h=>(yY.block i h).1));push_cast -dsimp;exact⟨.inl ⟨_,v5,bU,rfl,sC⟩,b5⟩
end Go.Proofs.YtemjejfpadnljaaGreatDoor
end
section
namespace Go.Vc
open Go.RowKit
section
variable {P:Program} {ds:List Deferred}
theorem DB {t:Fr}{dst:Option Tmp}{C:World->Prop}{K:VK}{N:Act->World->Prop}(hn:∀v w',K v w'->N ⟨(put t dst v).toArray,ds⟩ w'){r:Result Next}(h:rl P t (λv w'=>C w'/\K v w') JU r):rk P ⟨t.toArray,ds⟩ dst C N r:=by
 cases r with
 | halt x w'=>cases x<;>simp only[rl,JU]at h
 | ok n w' =>
  cases n<;>simp only[rl]at h<;>simp only[rk]
  case value v=>exact⟨h.1,by rw[gy];exact hn _ _ h.2⟩
  case skip=>exact⟨h.1,by rw[gy];exact hn _ _ h.2⟩
  case enter f args =>
   refine h.mono λe bE he=>?_;cases e with
   | returned v=>exact⟨v,rfl,he.1,by rw[gy];exact hn _ _ he.2⟩
   | panicked c=>exact he.elim
   | outgrown=>exact he.elim
theorem qZ {ops:List Oper}{i:Nat}{o:Oper}{C:World->Prop}{t:Fr}{w:World}{K:VK}{N:Act->World->Prop}(hi:ops[i]?=some o)(hw:Region.wanted o (yielded ops.toArray t.toArray)=true)
  (hn:∀v w',K v w'->N ⟨(put t o.dst v).toArray,ds⟩ w') (h:dm P o t w C K .mk):bA P ops.toArray C i N ⟨t.toArray,ds⟩ w:=by
 unfold bA;simp only[List.getElem?_toArray,hi,hw,if_true,nB];unfold dm at h;split at h
 ·rename_i ty x ho;have hc:chain P o=false:=by simp[chain,ho]
  simp only[hc,Bool.false_eq_true,if_false];obtain⟨v,hr,dA,hk⟩:=oB ho h;refine⟨v,λw' tU=>?_,by rw[gy];exact hn _ _ hk⟩;obtain⟨u,hu,hv⟩:=oB ho (dA w' tU);rw[hu,hv]
 ·rename_i x ho;have hc:chain P o=false:=by simp[chain,ho]
  simp only[hc,Bool.false_eq_true,if_false];unfold JT at h;split at h
  ·rename_i a hx;refine⟨_,λw' _=>?_,by rw[gy];exact hn _ _ h⟩;unfold execOp;simp only[ho,hx];rfl
  exact h.elim
 split at h
 ·rename_i hc;simp only[hc,if_true];exact DB hn (G7 h)
 rename_i hc;simp only[hc];rcases qn h with h|⟨v,hg,hk⟩
 ·exact h.elim
 exact⟨v,λw' _=>hg w',by rw[gy];exact hn _ _ hk⟩
theorem JO {ops:List Oper}{i:Nat}{o:Oper}{C:World->Prop}{t:Fr}{w:World}{N:Act->World->Prop}(hi:ops[i]?=some o)(hw:Region.wanted o (yielded ops.toArray t.toArray)=false)
  (h:N ⟨(put t o.dst undef).toArray,ds⟩ w):bA P ops.toArray C i N ⟨t.toArray,ds⟩ w:=by
 unfold bA;simp only[List.getElem?_toArray,hi,hw,Bool.false_eq_true,if_false];rw[gy];exact h
theorem pX {ops:List Oper}{C:World->Prop}{R:Fr->World->Prop}{N:Act->World->Prop}(hn:∀t w,R t w->N ⟨t.toArray,ds⟩ w):∀(l:List Oper) (k:Nat) (t:Fr) (w:World),(∀j,l[j]?=ops[k+j]?) ->
  mW P ops C R l t w .mk->Bi P ops.toArray C N (List.range' k l.length) ⟨t.toArray,ds⟩ w
 | [],_,_,_,_,h=>hn _ _ h
 | o::r,k,t,w,hl,h=>by
  have h0:ops[k]?=some o:=by simpa using(hl 0).symm
  have ih:=λt w=>pX (C:=C) hn r (k+1) t w (λj=>by have:=hl (j+1);simpa[Nat.add_assoc,Nat.add_comm 1 j] using this);simp only[List.length_cons,List.range'_succ,Bi];simp only[mW]at h;split at h
  ·rename_i hg;exact qZ h0 (by simp[Region.wanted,hg]) (λv w' hk=>ih _ _ hk) h
  rename_i j want hg;rcases kB hg h with ⟨hw,hh⟩|⟨hw,hh⟩
  ·exact qZ h0 hw (λv w' hk=>ih _ _ hk) hh
  exact JO h0 hw (ih _ _ hh)
theorem Yg {id:Nat}{l:List Oper}{t:Fr}{w:World}{Q:Exit->Act->World->Prop}(C:World->Prop)(hm:P.follows .mixedOrders=true)(hB:aBh P l.toArray=true)(hC:C w.drew)
  (h:mW P l C (λt w=>Q .normal ⟨t.toArray,ds⟩ w) l t w.drew .mk):(Code.region id l.toArray true).wp P Q ⟨t.toArray,ds⟩ w:=by
 simp only[aBh,Bool.and_eq_true]at hB;refine wp_region_any hm (fP (C:=C) (R:=λa w=>Q .normal a w) (λ_ _ h=>h) _ _ _ _ hC ?_);refine wN hB.1 _ 0 _ _ _ (by simp) hC (λj o _ hl=>by simp[Array.getElem?_replicate]at hl;split at hl<;>simp at hl) hB.2 ?_
 have:=pX (P:=P) (ds:=ds) (ops:=l) (C:=C) (R:=λt w=>Q .normal ⟨t.toArray,ds⟩ w) (N:=λa w=>Q .normal a w) (λt w hk=>hk) l 0 t w.drew (λj=>by simp) h;simpa using this
theorem Xe {c:Code}(hp:jZ c=true){Q:Exit->Act->World->Prop}{t:Fr}{w:World}(h:vc P c (λe t w=>Q e ⟨t.toArray,ds⟩ w) t w .mk):c.wp P Q ⟨t.toArray,ds⟩ w :=
 wpIn_wide.1 (OX (n:=0) (ro:=none) hp h)
theorem YM {a b:Code}(hp:jZ a=true){Q:Exit->Act->World->Prop}{t:Fr}{w:World}(h:vc P a (tI (λt w=>b.wp P Q ⟨t.toArray,ds⟩ w) (λe t w=>Q e ⟨t.toArray,ds⟩ w) .mk) t w .mk):(Code.seq a b).wp P Q ⟨t.toArray,ds⟩ w:=by
 have e:(λ(t:Fr) (w:World)=>b.wpIn (zj none) 0 P Q ⟨t.toArray,ds⟩ w)=λt w=>b.wp P Q ⟨t.toArray,ds⟩ w:=by
  funext t w;exact propext wpIn_wide
 have h':(λN:Fr->World->Prop=>vc P a (tI N (λe t w=>Q e ⟨t.toArray,ds⟩ w) .mk) t w .mk) (λt w=>b.wpIn (zj none) 0 P Q ⟨t.toArray,ds⟩ w):=by
  rw[e];exact h
 exact wpIn_wide.1 (mV (n:=0) (ro:=none) hp h')
theorem aDQ {c:Operand}{x y:Code}{Q:Exit->Act->World->Prop}{t:Fr}{w:World}(hc:ev t c=.bool false)(h:y.wp P Q ⟨t.toArray,ds⟩ w):(Code.cond c x y).wp P Q ⟨t.toArray,ds⟩ w :=
 wpIn_wide.1 (Uh (n:=0) (F:=Fence.wide) hc (wpIn_wide.2 h))
theorem aDR {c:Operand}{x y:Code}{Q:Exit->Act->World->Prop}{t:Fr}{w:World}(hc:ev t c=.bool true)(h:x.wp P Q ⟨t.toArray,ds⟩ w):(Code.cond c x y).wp P Q ⟨t.toArray,ds⟩ w :=
 wpIn_wide.1 (aCA (n:=0) (F:=Fence.wide) hc (wpIn_wide.2 h))
theorem rZ {c:Code}{Q:Exit->Act->List Frame->World->Prop}{t:Fr}{cs:List Frame}{w:World}(h:vc P c (λe t w=>Q e ⟨t.toArray,[]⟩ cs w) t w .mk):c.wpS P Q ⟨t.toArray,[]⟩ cs w:=by
 refine wpS_of_wp ?_;have h1:=sL c _ _ w h;unfold cg at h1;refine Code.wp_mono ?_ h1;rintro e a w' ⟨hd,hh⟩;rw[Kq hd];exact hh
theorem wQ {ty xT:TypeId}{v:Value}{fs:Array Field}{t:Fr}{w:World}{K:VK}{Q:EP}{p}(hu:P.underlying ty=some (.struct fs))(k:K (.tuple #[v,.bool true]) w):ag P (Instr.typeAssert (.iface ty v) xT ty true) t w K Q p :=
 ff (by simp[Instr.typeAssert,run_underlying hu]) k
theorem OT {fn:Func}(h:fn.results=#[])(t:Fr)(w:World):(results fn t.toArray).run P w=.ok (.tuple #[]) w:=by
 obtain⟨vs,h1,h2⟩:=cT (P:=P) (w:=w) fn [] h t (λvs=>vs=[]) rfl;rw[h1,h2];rfl
theorem Hk {id:Nat}{g:FuncId}{d:Tmp}{cap:List Operand}{ty1 ty2:TypeId}{p1 p2:String}{a1 a2:Array Edge}{Q:Exit->Act->World->Prop}{t:Fr}{w:World}
  (hd:d<t.length) (h:Q .normal ⟨(t.set d (.func (.func g) #[] (cap.map (ev t)).toArray)).toArray,{ target:=.fn (.func g) (cap.map (ev t)).toArray,args:=#[] }::ds⟩ w) :
  (Code.region id #[⟨some d,.makeFunc (.func g) #[] cap.toArray,ty1,p1,a1,none⟩,⟨none,.defer { callee:=.value (.tmp d),args:=#[],argTypes:=#[] },ty2,p2,a2,none⟩] false).wp P Q ⟨t.toArray,ds⟩ w:=by
 refine wp_region_list ?_;unfold wpList;rw[if_pos (by rfl)];refine .inl ?_;unfold Oper.wp;have h1:∀(ρ:Operand->Value) (cap:Array Operand) (o:Oper),o.op=.makeFunc (.func g) #[] cap->(execOp ρ o).run P w=.ok (.value (.func (.func g) #[] (cap.map ρ))) w:=λρ cap o ho=>by
  unfold execOp;simp only[ho];simp[go_sem,Instr.makeFunc]
 rw[h1 _ cap.toArray _ rfl];unfold Oper.upon;dsimp only;rw[gy];unfold wpList;rw[if_pos (by rfl)];refine .inl ?_;unfold Oper.wp;rw[nB,nB];have hg:(put t (some d) (.func (.func g) #[] (cap.toArray.map (ev t)))).getD d undef=.func (.func g) #[] (cap.toArray.map (ev t)):=by
  simp[put,hd]
 have h2:∀(o:Oper),o.op=.defer { callee:=.value (.tmp d),args:=#[],argTypes:=#[] }->(execOp (ev (put t (some d) (.func (.func g) #[] (cap.toArray.map (ev t))))) o).run P w=.ok (.defer { target:=.fn (.func g) (cap.toArray.map (ev t)),args:=#[] }) w:=λo ho=>by
  unfold execOp;simp only[ho];simp only[resolve,ev,hg,Deferred.ofValue];simp[go_sem]
 rw[h2 _ rfl];unfold Oper.upon;dsimp only;unfold wpList;have e:∀(a:Act) ,a.put none undef=a:=λa=>rfl;rw[e];simpa[put] using h
end
end Go.Vc
end
section
namespace Go.Proofs.YtemjejfpadnljaaGreatDoor
open Go.Vc Go.Proofs Go.RowKit Cae
attribute [local irreducible] cg aa ag aX runK ar Sl Vc.Own vc aQ br a7
theorem ZS (rb eb:Nat)(ev:Value)(f0:List Value)(e0:Value)(hf:f0.length=3)(w:World)(hr:aL w rb 26 f0)(he:aL w eb 34 [e0])(cW:rb≠eb)(hev:jt ev=true) :
  CallsD Tryz.prog 41 #[.pointer (some ⟨rb,0,none⟩),.pointer (some ⟨eb,0,none⟩)] (.panicking [{ v:=.iface 97 (.agg #[ev]),recovered:=false }]) w λe u' w' =>
   e=.returned (.tuple #[])/\u'=.panicking [{ v:=.iface 97 (.agg #[ev]),recovered:=true }]/\aL w' rb 26 [.slice none 0 0,.slice none 0 0,.bool false]/\aL w' eb 34 [ev]/\Kept (λi=>i=rb\/i=eb) w w':=by
 refine callsD_of_wpS Tryz.func41 rfl λc₀ cs hu=>?_;apply wpS_seq;apply wpS_region;simp[wpOpsS,go_sem,recoverD,hu,Tryz.ntmps41,Exit.thenS];refine rZ (t:=[.pointer (some ⟨rb,0,none⟩),.pointer (some ⟨eb,0,none⟩),.iface 97 (.agg #[ev]),undef,undef,.iface 97 (.agg #[ev]),undef,undef,undef,undef,undef,undef,undef,undef,undef,undef,undef,undef,undef]) ?_;push_cast -dsimp;refine wQ Tryz.underlying97 ?_;push_cast -dsimp;refine ao (z:=[.nilIface]) (by kernel_rfl) ?_;intro w1 aV;have C1:=aV.aM;have R1:=hr.below aV.below hr.lt;have E1:=he.below aV.below he.lt;have z1:=aV.size;push_cast -dsimp;refine aH (xt:=97) (n:=1) (by kernel_rfl) C1 rfl (by decide) (by simp;cases ev<;>first|rfl|(simp[jt]at hev)) ?_
 intro w2 bH;have C2:aL w2 w.heap.size 97 [ev]:=bH.aM;have Ka:=hr.lt;have yZ:=he.lt;have R2:=R1.kept bH.kept (by omega);have E2:=E1.kept bH.kept (by omega);push_cast -dsimp;refine ba (λw'=>aL w' w.heap.size 97 [ev]) mixed (by kernel_rfl) C2.drew ?_;have d2:w2.drew.cell? ⟨w.heap.size,0,none⟩=some ev:=C2.drew.cell rfl;push_cast -dsimp[d2];refine⟨λbE h=>by rw[aL.cell h (o:=0) rfl];exact rfl,?_⟩;refine aH (xt:=26) (n:=3) (by kernel_rfl) R2.drew rfl (by rw[hf];exact Nat.le_refl _) (by simp;exact⟨rfl,rfl⟩) ?_;intro w3 cM;have R3:aL w3 rb 26 [.slice none 0 0,.slice none 0 0,.bool false]:=by
  have:=cM.aM;rw[List.take_zero,List.nil_append,Nat.zero_add,List.drop_of_length_le (by rw[hf];exact Nat.le_refl _),List.append_nil]at this;exact this
 have C3:aL w3 w.heap.size 97 [ev]:=C2.drew.kept cM.kept (by omega);have E3:=E2.drew.kept cM.kept (by omega);refine⟨C3,?_⟩;push_cast -dsimp;refine aC E3 (by simp) hev ?_;intro w4 ae;have E4:aL w4 eb 34 [ev]:=ae.aM;have R4:=R3.kept ae.kept (by omega);have C4:aL w4 w.heap.size 97 [ev]:=C3.kept ae.kept (by omega);have k4:Kept (λi=>i=rb\/i=eb) w w4:=(((Kept.new (X:=λi=>i=rb\/i=eb) aV).trans bH.kept (λi h1 h2=>by omega)).drew.trans cM.kept (λi _ h=>.inl h)).trans ae.kept (λi _ h=>.inr h);refine⟨C4,?_⟩;push_cast -dsimp;exact⟨rfl,_,rfl,.tuple #[],OT (by rfl) _ _,rfl,rfl,R4,E4,k4⟩
theorem aFq (rb eb:Nat)(w:World) :
  CallsD Tryz.prog 41 #[.pointer (some ⟨rb,0,none⟩),.pointer (some ⟨eb,0,none⟩)] .returning w λe u' w'=>e=.returned (.tuple #[])/\u'=.returning/\w'=w:=by
 refine callsD_of_wpS Tryz.func41 rfl λc₀ cs hu=>?_;apply wpS_seq;apply wpS_region;simp[wpOpsS,go_sem,recoverD,hu,Tryz.ntmps41,Exit.thenS];refine rZ (t:=[.pointer (some ⟨rb,0,none⟩),.pointer (some ⟨eb,0,none⟩),.nilIface,undef,undef,.nilIface,undef,undef,undef,undef,undef,undef,undef,undef,undef,undef,undef,undef,undef]) ?_;push_cast -dsimp;refine⟨rfl,.returning,?_,.tuple #[],OT (by rfl) _ _,rfl,rfl,rfl⟩;rw[<-hu]
def T7 (w:World)(s:List UInt8)(r:Value)(w':World):Prop :=
 (∃f v,dd s=.ok f/\r=.tuple #[v,.nilIface]/\kj (·<w.heap.size) w' v f) \/
 (∃e pos b,dd s=.error (e,pos)/\r=.tuple #[.agg #[.slice none 0 0,.slice none 0 0,.bool false],.iface 141 (.pointer (some ⟨b,0,none⟩))]/\w.heap.size<=b/\aL w' b 143 [.int .i64 e,.int .i64 pos])
def ZC (w:World)(s:List UInt8)(e:Ending)(w':World):Prop:=∃v,e=.returned v/\T7 w s v w'/\Below w.heap.size w w'
theorem Y5 {s:List UInt8}{l:List Tok}(hs:s.length<=1000000)(h:Sk s=.ok l):TL l:=by
 obtain⟨m,hm,e,hn⟩:=jn _ _ _ _ _ (by simp) h;rw[List.nil_append]at e;subst e;refine⟨⟨m,_,rfl,rfl⟩,λt ht=>?_,by rw[List.length_append,List.length_singleton];simp at hn;omega,λt ht hk=>?_⟩
 ·rcases List.mem_append.1 ht with ht|ht
  ·have:=(hm.inside t ht).length_le;omega
  rw[List.mem_singleton.1 ht];simp
 rcases List.mem_append.1 ht with ht|ht
 ·exact aGg hm t ht hk
 rw[List.mem_singleton.1 ht]at hk;cases hk
theorem Iy {w W:World}{s:List UInt8}{fv:List Value}{t:Fr}(h2:t.getD 2 undef=.pointer (some ⟨w.heap.size,0,none⟩))(h3:t.getD 3 undef=.pointer (some ⟨w.heap.size+1,0,none⟩)){x:Value}
  (B1:aL W w.heap.size 26 fv) (B2:aL W (w.heap.size+1) 34 [x]) (hl:fv.length=3) (hR:T7 w s (.tuple #[.agg fv.toArray,x]) W) (hb:Below w.heap.size w W) :
  bodyPostD Tryz.prog Tryz.f24 (ZC w s) .ret ⟨t.toArray,[{ target:=.fn (.func 41) #[.pointer (some ⟨w.heap.size,0,none⟩),.pointer (some ⟨w.heap.size+1,0,none⟩)],args:=#[] }]⟩ W:=by
 show Leaves _ _ _ _ _ _ _
 refine leaves_cons (f:=41) (args:=#[.pointer (some ⟨w.heap.size,0,none⟩),.pointer (some ⟨w.heap.size+1,0,none⟩)]) (by simp) ?_ ?_
 ·simp only[invoke,Array.empty_append];exact bg Tryz.func41 (by kernel_rfl) (by kernel_rfl)
 refine(aFq w.heap.size (w.heap.size+1) W).mono ?_;rintro e u' w' ⟨rfl,rfl,rfl⟩;obtain⟨vs,hv,hk⟩:=cT (P:=Tryz.prog) (w:=w') Tryz.f24 [.cell 2 26,.cell 3 34] (by rfl) t (λvs=>vs=[.agg fv.toArray,x]) (by
  have d1:aB w' ⟨w.heap.size,0,none⟩ 0 3=some fv:=by rw[<-hl];exact B1.aB
  have d2:w'.cell? ⟨w.heap.size+1,0,none⟩=some x:=B2.cell rfl;push_cast -dsimp[h2,h3,d1,d2])
 refine⟨_,hv,_,rfl,?_,hb⟩;rw[hk];exact hR
theorem xN {w W:World}{s:List UInt8}{e pos:Nat}{fv:List Value}{ce:List PanicEntry}{t:Fr}(h2:t.getD 2 undef=.pointer (some ⟨w.heap.size,0,none⟩))(h3:t.getD 3 undef=.pointer (some ⟨w.heap.size+1,0,none⟩)){x:Value}
  (B1:aL W w.heap.size 26 fv) (B2:aL W (w.heap.size+1) 34 [x]) (hl:fv.length=3) (hT:Thr (w.heap.size+2) W ce e pos) (hp:dd s=.error (e,pos)) (hb:Below w.heap.size w W) :
  bodyPostD Tryz.prog Tryz.f24 (ZC w s) (.panic ce) ⟨t.toArray,[{ target:=.fn (.func 41) #[.pointer (some ⟨w.heap.size,0,none⟩),.pointer (some ⟨w.heap.size+1,0,none⟩)],args:=#[] }]⟩ W:=by
 obtain⟨b,TI,rfl,hB⟩:=hT
 show Leaves _ _ _ _ _ _ _
 refine leaves_cons (f:=41) (args:=#[.pointer (some ⟨w.heap.size,0,none⟩),.pointer (some ⟨w.heap.size+1,0,none⟩)]) (by simp) ?_ ?_
 ·simp only[invoke,Array.empty_append];exact bg Tryz.func41 (by kernel_rfl) (by kernel_rfl)
 refine(ZS w.heap.size (w.heap.size+1) _ fv x hl W B1 B2 (by omega) rfl).mono ?_;rintro e' u' w' ⟨rfl,rfl,R1,R2,hk⟩;have oS:=hB.kept hk (by omega);have Bx:=hb.trans (hk.below (B:=w.heap.size) hb.size (λi h=>by omega));obtain⟨vs,hv,hk⟩:=cT (P:=Tryz.prog) (w:=w') Tryz.f24 [.cell 2 26,.cell 3 34] (by rfl) t (λvs=>vs=[.agg #[.slice none 0 0,.slice none 0 0,.bool false],.iface 141 (.pointer (some ⟨b,0,none⟩))]) (by
  have d1:aB w' ⟨w.heap.size,0,none⟩ 0 3=some [.slice none 0 0,.slice none 0 0,.bool false]:=R1.aB;have d2:w'.cell? ⟨w.heap.size+1,0,none⟩=some (.iface 141 (.pointer (some ⟨b,0,none⟩))):=R2.cell rfl;push_cast -dsimp[h2,h3,d1,d2])
 show Leaves _ _ _ _ [] (settle _) _
 refine⟨_,hv,_,rfl,?_,Bx⟩;rw[hk];exact .inr ⟨e,pos,b,hp,rfl,by omega,oS⟩
theorem Sl.off {X:Nat->Prop}{w:World}{v:Value}{l:List Tok}{rb:Nat}{e:TypeId}{cs:List Value}(h:Sl X 3 (En jQ) w v l)(hB:aL w rb e cs)(il:∀(o:Nat) (u:Value),cs[o]?=some u->∀n,u≠.int .i64 n):Sl (λb=>X b\/b=rb) 3 (En jQ) w v l:=by
 unfold Sl at h ⊢
 obtain⟨a,c,rfl,hc,h⟩:=h;refine⟨a,c,rfl,hc,λi x hx=>?_⟩;obtain⟨b,o,ks,ha,hb,hk,aU,hr⟩:=h i x hx;refine⟨b,o,ks,ha,λhh=>?_,hk,aU,hr⟩;rcases hh with hh|rfl
 ·exact hb hh
 have jK:ks=jQ x:=hr;have h0:=aU 0 (.int .i64 x.kind) (by rw[jK];rfl);have h1:cs[o+i*3+0]?=some (.int .i64 x.kind):=by
  have oS:w.heap[b]?=_:=hB;simp only[World.cell?,oS]at h0;simpa using h0
 exact il _ _ h1 _ rfl
theorem PS.off {pb B rb:Nat}{w w':World}{l:List Tok}{e:TypeId}{cs:List Value}(h:PS pb B w l)(hB:aL w rb e cs)(il:∀(o:Nat) (u:Value),cs[o]?=some u->∀n,u≠.int .i64 n)(cW:rb≠pb)(hg:10<=rb)(hk:Kept (·=rb) w w'):PS pb B w' l:=by
 obtain⟨v,h1,h2⟩:=h.st;exact⟨⟨v,h1.kept hk (λhh=>cW hh.symm),((Sl.off h2 hB il).kept hk (λi hi=>.inr hi)).weaken (λi hi=>.inl hi)⟩,h.lt,Nat.le_trans h.le hk.size,h.tl,h.db.kept hk (λi hi hh=>by omega),h.er.kept hk (λi hi hh=>by omega),h.gl⟩
theorem x7 (s:List UInt8)(hs:s.length<=1000000)(w:World)(hd:Db w)(he:lr w)(hg:10<=w.heap.size):ar Tryz.prog 24 [str s] w λr w'=>T7 w s r w'/\Below w.heap.size w w':=by
 unfold ar;refine⟨bg Tryz.func24 (by kernel_rfl) (by kernel_rfl),?_⟩;refine calls_of_wp_defers Tryz.func24 rfl ?_;have e:(([str s]:List Value).toArray++Array.replicate (Tryz.f24.ntmps-([str s]:List Value).toArray.size) undef)=(wY [str s] Tryz.f24.ntmps).toArray:=by simp[wY]
 rw[e];simp -dsimp (maxSteps:=4000000) only[push_cast,wY,Tryz.ntmps24,List.length_cons,List.length_nil,Nat.reduceAdd,Nat.reduceSub,Nat.reduceBEq,List.replicate_succ,List.replicate_zero];have hR:∃R:Ending->World->Prop,R=ZC w s:=⟨_,rfl⟩
 show Code.wp _ _ (bodyPostD Tryz.prog Tryz.f24 (ZC w s)) _ _
 refine YM (by rfl) ?_;push_cast -dsimp;refine ao (z:=[.slice none 0 0,.slice none 0 0,.bool false]) (by kernel_rfl) ?_;intro w1 aV;have R1:=aV.aM;have z1:=aV.size;have b1:=aV.below;push_cast -dsimp;refine ao (z:=[.nilIface]) (by kernel_rfl) ?_;intro w2 bH;have E2:=bH.aM;have R2:=R1.below bH.below (by omega);have z2:=bH.size;have b2:=b1.trans (bH.below.mono (by omega));rw[z1]at E2;push_cast -dsimp[z1];refine wp_seq (Hk (cap:=[.tmp 2,.tmp 3]) (by simp) ?_);simp -dsimp only[push_cast];refine YM (by rfl) ?_;push_cast -dsimp;refine aA (Y9 s hs w2) ?_;rintro r w3 ⟨hT,b3⟩;have R3:=R2.below b3 (by omega);have E3:=E2.below b3 (by omega);have z3:=b3.size;have gV:=b2.trans (b3.mono (by omega));rcases hT with ⟨l,v,Qt,rfl,hO⟩|⟨en,pos,b,Qt,rfl,TI,hB⟩
 ·obtain⟨va,vc,rfl⟩:=hO.slice;push_cast -dsimp;refine aC E3 (by simp) rfl ?_;intro w4 ae;have E4:aL w4 (w.heap.size+1) 34 [.nilIface]:=ae.aM;have R4:=R3.kept ae.kept (by omega);have z4:=ae.size;have yY:=hO.aJ ae.kept (λg hg h=>by have:=(hO.block g hg).1;omega);have nd:=gV.trans (ae.kept.below (B:=w.heap.size) (by omega) (λi h=>by omega));have d4:w4.cell? ⟨w.heap.size+1,0,none⟩=some .nilIface:=E4.cell rfl;push_cast -dsimp;refine wp_seq (YM (by rfl) ?_);push_cast -dsimp[d4];refine aDQ (by rfl) (wp_skip ?_)
  show Code.wp _ _ _ _ _
  refine Xe (by rfl) ?_;push_cast -dsimp;refine aR ?_;intro w5 cH;have z5:=cH.size;have Nq:∃pb,pb=w4.heap.size:=⟨_,rfl⟩;obtain⟨pb,Nq⟩:=Nq;have PB:=cH.aM;have E5:=E4.below cH.below E4.lt;have R5:=R4.below cH.below R4.lt;have mj:=nd.trans (cH.below.mono nd.size);rw[<-Nq]at PB;have Nt:=Y5 hs Qt;have P5:PS pb (pb+1) w5 l:=⟨⟨_,PB,((Sl.top (by decide) yY.sl).below cH.below).weaken (λi h=>by omega)⟩,by omega,by omega,Nt,hd.below mj hd.lt,he.below mj,by omega⟩;push_cast -dsimp[<-Nq];refine aF (aD4 P5) ?_ ?_
  ·rintro _ w6 ⟨f,l',ef,⟨cv,rv,cs,rs,rfl,S1,S2,A1,A2⟩,P6,k6⟩;have E6:=E5.kept k6 (by omega);have R6:=R5.kept k6 (by omega);have z6:=k6.size;have mI:=mj.trans (k6.below (B:=w.heap.size) mj.size (λi h=>by omega));push_cast -dsimp[<-Nq];refine aH (xt:=26) (n:=3) (by kernel_rfl) R6 rfl (by decide) ?_ ?_
   ·obtain⟨_,_,rfl,_⟩:=S1.shape;obtain⟨_,_,rfl,_⟩:=S2.shape;simp;exact⟨rfl,rfl,rfl⟩
   intro w7 fK;have R7:aL w7 w.heap.size 26 [cv,rv,.bool f.dD]:=fK.aM;have E7:=E6.kept fK.kept (by omega);have k7:Kept (λi=>i=w.heap.size) w6 w7:=fK.kept;have P7:PS pb (pb+1) w7 l':=P6.off R6 (λo u hu n hn=>by
    subst hn;match o with
    | 0=>simp at hu
    | 1=>simp at hu
    | 2=>simp at hu
    | o+3=>simp at hu) (by omega) (by omega) k7
   have z7:=fK.size;have kr:=mI.trans (fK.kept.below (B:=w.heap.size) mI.size (λi h=>by omega));obtain⟨t1,r1,mZ⟩:=P7.tl.cons;have P7':=P7;rw[mZ]at P7';obtain⟨b1,o1,c1,hBp,hc,cW,c0,c1',c2,c3⟩:=P7'.hd;have cb:w7.cell? ⟨pb,0,none⟩=some (.slice (some ⟨b1,o1,none⟩) (r1.length+1) c1):=hBp.cell rfl;have WO:isKind 5 l'=decide (t1.kind=5):=by
    rw[mZ]
    show (t1.kind == 5)=_
    by_cases h:t1.kind=5<;>simp[h]
   push_cast -dsimp[<-Nq,cb,c0];refine⟨by omega,λh5=>?_,λh5=>?_⟩
   ·have CC:isKind 5 l'=false:=by rw[WO];exact decide_eq_false (λh=>h5 (by omega))
    refine aF (jR 3 P7) (λ_ _ h=>h.elim) ?_;rintro ce w8 ⟨ht,hb⟩;have hpe:dd s=.error (3,(Cae.hd l').pos):=by
     unfold dd;rw[Qt];dsimp only;rw[ef];dsimp only;rw[CC];rfl
    push_cast -dsimp[<-Nq];refine xN (t:=_) (by rfl) (by rfl) (R7.below hb R7.lt) (E7.below hb E7.lt) rfl (ht.mono (by omega)) hpe (kr.trans (hb.mono kr.size))
   have CC:isKind 5 l'=true:=by rw[WO];exact decide_eq_true (by omega)
   have aNX:dd s=.ok f:=by
    unfold dd;rw[Qt];dsimp only;rw[ef];dsimp only;rw[CC];rfl
   have d7:aB w7 ⟨w.heap.size,0,none⟩ 0 3=some [cv,rv,.bool f.dD]:=R7.aB;push_cast -dsimp[<-Nq,d7];refine aH (xt:=26) (n:=3) (by kernel_rfl) R7 rfl (Nat.le_refl _) ?_ ?_
   ·obtain⟨_,_,rfl,_⟩:=S1.shape;obtain⟨_,_,rfl,_⟩:=S2.shape;simp;exact⟨rfl,rfl,rfl⟩
   intro w8 nf;have R8:aL w8 w.heap.size 26 [cv,rv,.bool f.dD]:=nf.aM;have E8:=E7.kept nf.kept (by omega);have z8:=nf.size;push_cast -dsimp[<-Nq];refine aC E8 (by simp) rfl ?_;intro w9 Cn;have E9:aL w9 (w.heap.size+1) 34 [.nilIface]:=Cn.aM;have R9:=R8.kept Cn.kept (by omega);have k69:Kept (λi=>i<w5.heap.size) w6 w9:=((k7.weaken (Y:=λi=>i<w5.heap.size) (λi _ h=>by omega)).trans nf.kept (λi _ h=>by omega)).trans Cn.kept (λi _ h=>by omega);have p8:=kr.trans (((nf.kept.weaken (Y:=λi=>w.heap.size<=i) (λi _ h=>by omega)).trans Cn.kept (λi _ h=>by omega)).below (B:=w.heap.size) kr.size (λi h=>h));push_cast -dsimp[<-Nq];refine Iy (t:=_) (by rfl) (by rfl) R9 E9 rfl (.inl ⟨f,_,aNX,rfl,cv,rv,cs,rs,rfl,(S1.kept k69 (λi h=>h)).weaken (λi h=>by omega),(S2.kept k69 (λi h=>h)).weaken (λi h=>by omega),A1.imp λa c h=>h.mono k69 (λi h=>h) (λi h=>by omega),A2.imp λa c h=>h.mono k69 (λi h=>h) (λi h=>by omega)⟩) p8
  rintro ce w6 ⟨en,pos,Nd,ht,hk⟩;have E6:=E5.kept hk (by omega);have R6:=R5.kept hk (by omega);have mI:=mj.trans (hk.below (B:=w.heap.size) mj.size (λi h=>by omega));have hpe:dd s=.error (en,pos):=by
   unfold dd;rw[Qt];dsimp only;rw[Nd]
  push_cast -dsimp[<-Nq];exact xN (t:=_) (by rfl) (by rfl) R6 E6 rfl (ht.mono (by omega)) hpe mI
 push_cast -dsimp;refine aC E3 (by simp) rfl ?_;intro w4 ae;have E4:aL w4 (w.heap.size+1) 34 [.iface 141 (.pointer (some ⟨b,0,none⟩))]:=ae.aM;have R4:=R3.kept ae.kept (by omega);have z4:=ae.size;have CV:=hB.kept ae.kept (by omega);have nd:=gV.trans (ae.kept.below (B:=w.heap.size) (by omega) (λi h=>by omega));have d4:w4.cell? ⟨w.heap.size+1,0,none⟩=some (.iface 141 (.pointer (some ⟨b,0,none⟩))):=E4.cell rfl;push_cast -dsimp;refine wp_seq (YM (by rfl) ?_);push_cast -dsimp[d4];refine aDR (by rfl) (wp_seq ?_);refine Yg (λw'=>w'.cell? ⟨w.heap.size+1,0,none⟩=some (.iface 141 (.pointer (some ⟨b,0,none⟩)))) mixed (by kernel_rfl) d4 ?_;have d4d:w4.drew.cell? ⟨w.heap.size+1,0,none⟩=some (.iface 141 (.pointer (some ⟨b,0,none⟩))):=d4;push_cast -dsimp[d4d];refine⟨λbE h=>by rw[h];exact rfl,?_⟩;refine aH (xt:=26) (n:=3) (by kernel_rfl) R4.drew rfl (by decide) (by simp;exact⟨rfl,rfl⟩) ?_;intro w5 cH;have R5:aL w5 w.heap.size 26 [.slice none 0 0,.slice none 0 0,.bool false]:=cH.aM;have E5:=E4.drew.kept cH.kept (by omega);have Fk:=CV.drew.kept cH.kept (by omega);refine⟨E5.cell rfl,?_⟩;push_cast -dsimp;refine aC E5 (by simp) rfl ?_;intro w6 bQ;have E6:aL w6 (w.heap.size+1) 34 [.iface 141 (.pointer (some ⟨b,0,none⟩))]:=bQ.aM;have R6:=R5.kept bQ.kept (by omega);have rI:=Fk.kept bQ.kept (by omega);have mI:=nd.trans (((Kept.refl (λi=>w.heap.size<=i) w4).drew.trans cH.kept (λi _ h=>by omega)).trans bQ.kept (λi _ h=>by omega) |>.below (B:=w.heap.size) nd.size (λi h=>h))
 have hpe:dd s=.error (en,pos):=by
  unfold dd;rw[Qt]
 refine⟨E6.cell rfl,?_⟩;push_cast -dsimp;refine wp_ret ?_;exact Iy (t:=_) (by rfl) (by rfl) R6 E6 rfl (.inr ⟨en,pos,b,hpe,rfl,by omega,rI⟩) mI
end Go.Proofs.YtemjejfpadnljaaGreatDoor
end
section
namespace Cae
def TB (l:List Tok):Prop:=∀t∈l,t.text.length<=1000000
def Iv {α:Type}(I:α->Prop)(p:Pa α):Prop:=∀l x l',TB l->p l=.ok (x,l')->I x/\TB l'
section
variable {α β:Type} {I:α->Prop} {J:β->Prop} {p:Pa α} {q:α->Pa β}
theorem Iv.pr {x:α}(h:I x):Iv I (pr x):=λl y l' hl e=>by cases e;exact⟨h,hl⟩
theorem Iv.fail {e:Nat}:Iv I (dr e):=λl y l' _ h=>by cases h
theorem Iv.pb (h:Iv I p)(k:∀x,I x->Iv J (q x)):Iv J (pb p q):=λl y l' hl e=>by
 obtain⟨x,l1,e1,e2⟩:=dq e;obtain⟨h1,h2⟩:=h l x l1 hl e1;exact k x h1 l1 y l' h2 e2
theorem Iv.ax {cc:List Tok->Bool}{p1 p2:Pa α}(h1:Iv I p1)(h2:Iv I p2):Iv I (ax cc p1 p2):=λl x l' hl e=>by
 unfold Cae.ax at e;split at e
 ·exact h1 l x l' hl e
 exact h2 l x l' hl e
theorem Iv.ite {c:Prop}[Decidable c]{p1 p2:Pa α}(h1:c->Iv I p1)(h2:¬c->Iv I p2):Iv I (if c then p1 else p2):=by
 by_cases h:c
 ·rw[if_pos h];exact h1 h
 rw[if_neg h];exact h2 h
end
def Tv {α:Type}(_:α):Prop:=True
theorem Iv.dX:Iv (λt=>t.text.length<=1000000) dX:=λl x l' hl e=>by
 cases e;refine⟨?_,hl⟩;cases l with
 | nil=>simp[hd]
 | cons t r=>exact hl t (List.mem_cons_self ..)
theorem Iv.pop:Iv Tv cK:=λl x l' hl e=>by
 obtain⟨t,rfl,_⟩:=tF e;exact⟨trivial,λy hy=>hl y (List.mem_cons_of_mem _ hy)⟩
theorem fe (s:List UInt8):Iv Tv (cY s):=Iv.ax Iv.pop Iv.fail
theorem OB:Iv Tv mQ:=Iv.ax (Iv.ax Iv.fail (Iv.pb Iv.dX λt _=>Iv.pb Iv.pop λ_ _=>Iv.pr trivial)) Iv.fail
theorem aFv:Iv (λc=>c=0\/c=3\/c=4\/c=5) tg :=
 Iv.ax (Iv.pb Iv.pop λ_ _=>Iv.pr (by simp)) (Iv.ax (Iv.pb Iv.pop λ_ _=>Iv.pr (by simp)) (Iv.ax (Iv.pb Iv.pop λ_ _=>Iv.pr (by simp)) (Iv.pr (by simp))))
theorem xK {one:Pa aw}(h:Iv gO one)(pos:Nat):∀(n:Nat) (k:aw),gO k->Iv gO (dM one pos n k)
 | 0,k,_=>Iv.fail
 | n+1,k,hk=>Iv.pb aFv λc hc=>Iv.ite (λ_=>Iv.pr hk) λhc0=>Iv.pb h λr hr=>xK h pos n _ ⟨hk,hr,by rcases hc with hc|hc;exact absurd hc hc0;exact hc⟩
theorem Iu {one:Pa aw}(h:Iv gO one):Iv gO (sG one):=Iv.pb Iv.dX λt _=>Iv.pb h λk hk=>xK h _ _ _ hk
theorem aFw:Iv gO GQ:=Iv.pb Iv.dX λt ht=>by
 cases hs:Gr t.text with
 | none=>exact Iv.fail
 | some s =>
  refine Iv.pb Iv.pop λ_ _=>Iv.pr ?_;have h1:=Gs hs;refine⟨h1.1,?_⟩;have h2:gT s=t.text:=h1.2;have h3:=(qW (s.map rm) [32] (by decide)).2;have h4:(gT s).length=(Go.Lib.join (s.map rm) [32]).length+2:=by simp[gT]
  rw[h2]at h4;rw[List.length_map]at h3;omega
theorem AV:∀d,Iv gO (kU d)
 | 0=>Iv.fail
 | d+1=>Iv.ax aFw (Iv.ax (Iv.pb Iv.dX λt _=>Iv.pb Iv.pop λ_ _=>Iv.pb (AV d) λk hk=>Iv.pr hk)
   (Iv.ax (Iv.pb Iv.pop λ_ _=>Iv.pb (Iu (AV d)) λk hk=>Iv.pb (fe _) λ_ _=>Iv.pr hk)
    (Iv.pb Iv.dX λt _=>Iv.pb OB λn _=>Iv.pr trivial)))
theorem Iw:Iv (λn=>n<=12) j4:=Iv.ax (Iv.pb Iv.dX λt _=>Iv.ite (λ_=>Iv.fail) λh=>Iv.pb Iv.pop λ_ _=>Iv.pr (by omega)) Iv.fail
def Kn (q:Int×Int):Prop:=0<=q.1/\q.1<100/\q.2<100/\(q.2<0\/q.1<=q.2)
theorem RG:Iv Kn cf:=Iv.pb Iw λlo AF=>Iv.ax (Iv.pb Iv.pop λ_ _=>Iv.ax
  (Iv.pb Iw λhi WN=>Iv.ite (λ_=>Iv.fail) λhh=>Iv.pb (fe _) λ_ _=>Iv.pr ⟨by show 0<=(lo:Int);omega,by show (lo:Int)<100;omega,by show (hi:Int)<100;omega,.inr (by show (lo:Int)<=hi;omega)⟩)
  (Iv.pb (fe _) λ_ _=>Iv.pr ⟨by show 0<=(lo:Int);omega,by show (lo:Int)<100;omega,by show (-1:Int)<100;omega,.inl (by show (-1:Int)<0;omega)⟩))
 (Iv.pb (fe _) λ_ _=>Iv.pr ⟨by show 0<=(lo:Int);omega,by show (lo:Int)<100;omega,by show (lo:Int)<100;omega,.inr (Int.le_refl _)⟩)
theorem D8:Iv (λo=>∀q,o=some q->Kn q) eJ:=by
 have h:∀r:Int×Int,Kn r->Iv (λo=>∀q,o=some q->Kn q) (pb cK λ_=>pr (some r)):=λr hr=>Iv.pb Iv.pop λ_ _=>Iv.pr (by intro q e;cases e;exact hr);refine Iv.ax (h _ (by unfold Kn;decide)) (Iv.ax (h _ (by unfold Kn;decide)) (Iv.ax (h _ (by unfold Kn;decide)) (Iv.ax ?_ (Iv.pr (by intro q e;cases e)))));exact Iv.pb Iv.pop λ_ _=>Iv.pb RG λr hr=>Iv.pr (by intro q e;cases e;exact hr)
theorem uX (d:Nat):∀(n c:Nat) (x:aG),bI x->Iv bI (bW d n c x)
 | 0,_,_,_=>Iv.fail
 | n+1,c,x,hx=>Iv.pb D8 λr hr=>by
   cases r with
   | none=>exact Iv.pr hx
   | some q =>
    have hq:=hr q rfl;refine Iv.ite (λ_=>Iv.fail) λ_=>uX d n (c+1) _ ?_;simp only[bI];exact⟨hx,hq.1,hq.2.1,hq.2.2⟩
theorem RF {d:Nat}{unit:Pa aG}(h:Iv bI unit):Iv bI (aY d unit):=Iv.pb h λx hx=>uX d _ _ _ hx
theorem nI:∀{l:List aG} {x:aG},cQ l->bI x->cQ (l++[x])
 | [],x,_,h=>by simp only[List.nil_append,cQ];exact⟨h,trivial⟩
 | y::l,x,hl,h=>by
  simp only[cQ,List.cons_append]at hl ⊢
  exact⟨hl.1,nI hl.2 h⟩
theorem Aq:cQ []:=by simp only[cQ]
theorem AW {again:Pa aG}(h:Iv bI again):∀(n:Nat) (a:List aG),cQ a->Iv cQ (bD again n a)
 | 0,_,_=>Iv.fail
 | n+1,a,ha=>Iv.ax (Iv.pb h λx hx=>AW h n _ (nI ha hx)) (Iv.pr ha)
theorem YG {l:List aG}(h:cQ l):bI (rowOf l):=by
 match l with
 | []=>simp only[rowOf,bI];exact h
 | [x]=>simp only[cQ]at h;exact h.1
 | x::y::l=>simp only[rowOf,bI];exact h
theorem Te {l:List aG}(h:cQ l):bI (jN l):=by
 match l with
 | []=>simp only[jN,bI];exact h
 | [x]=>simp only[cQ]at h;exact h.1
 | x::y::l=>simp only[jN,bI];exact h
theorem aA3 {again:Pa aG}(h:Iv bI again):Iv bI (iH again):=Iv.pb (AW h _ _ Aq) λps sj=>Iv.pr (YG sj)
theorem AU {row:Pa aG}(h:Iv bI row):∀(n:Nat) (a:List aG),cQ a->Iv cQ (eR row n a)
 | 0,_,_=>Iv.fail
 | n+1,a,ha=>Iv.ax (Iv.pb Iv.pop λ_ _=>Iv.pb h λx hx=>AU h n _ (nI ha hx)) (Iv.pr ha)
theorem aA1 {row:Pa aG}(h:Iv bI row):Iv bI (Kr row):=Iv.pb h λx hx=>Iv.pb (AU h _ _ (nI Aq hx)) λps sj=>Iv.pr (Te sj)
theorem OC {d:Nat}{unit:Pa aG}(h:Iv bI unit):Iv bI (Ap d unit):=Iv.ite (λ_=>Iv.fail) λ_=>aA1 (aA3 (RF h))
theorem OD:∀d,Iv bI (aq d)
 | 0=>Iv.fail
 | d+1=>Iv.ax (Iv.pb Iv.pop λ_ _=>Iv.pr (by simp only[bI])) (Iv.ax (Iv.pb Iv.pop λ_ _=>Iv.pr (by simp only[bI]))
   (Iv.ax (Iv.pb Iv.pop λ_ _=>Iv.pb (OC (OD d)) λx hx=>Iv.pb (fe _) λ_ _=>Iv.pr hx)
    (Iv.ax (Iv.pb (AV (d+1)) λk hk=>Iv.pr (by simp only[bI];exact hk)) Iv.fail)))
theorem Wl (d:Nat):Iv bI (qk d):=OC (OD d)
theorem y8:Iv Tv gW:=Iv.ax (Iv.pb Iv.pop λ_ _=>Iv.pr trivial) (Iv.pb (fe _) λ_ _=>Iv.pr trivial)
theorem aA4:Iv (λr=>bI r.before/\bI r.after) lI:=Iv.pb Iv.dX λt _=>Iv.pb y8 λb _=>Iv.pb (Wl 9) λx hx=>Iv.pb (fe _) λ_ _=>Iv.pb (Wl 9) λy hy=>Iv.pb (fe _) λ_ _=>Iv.pr ⟨hx,hy⟩
theorem Wk:Iv (λc=>gO c.kind) nR:=Iv.pb Iv.dX λt _=>Iv.pb (fe _) λ_ _=>Iv.pb OB λn _=>Iv.pb (fe _) λ_ _=>Iv.pb (Iu (AV 9)) λk hk=>Iv.pb (fe _) λ_ _=>Iv.pr hk
theorem xL:∀(n:Nat) (acc:List dG),acc.length<=20/\(∀r∈acc,bI r.before/\bI r.after)->Iv (λl=>l.length<=20/\∀r∈l,bI r.before/\bI r.after) (bP n acc)
 | 0,_,_=>Iv.fail
 | n+1,acc,ha=>Iv.ax (Iv.ite (λ_=>Iv.fail) λh=>Iv.pb aA4 λr hr=>xL n _ ⟨by have:=ha.1;rw[List.length_append,List.length_singleton];omega,λx hx=>by
   rcases List.mem_append.1 hx with hx|hx
   ·exact ha.2 x hx
   rw[List.mem_singleton.1 hx];exact hr⟩) (Iv.pr ha)
theorem ou:∀(n:Nat) (acc:List fB),acc.length<=20/\(∀c∈acc,gO c.kind)->Iv (λl=>l.length<=20/\∀c∈l,gO c.kind) (bR n acc)
 | 0,_,_=>Iv.fail
 | n+1,acc,ha=>Iv.ax (Iv.ite (λ_=>Iv.fail) λh=>Iv.pb Wk λr hr=>ou n _ ⟨by have:=ha.1;rw[List.length_append,List.length_singleton];omega,λx hx=>by
   rcases List.mem_append.1 hx with hx|hx
   ·exact ha.2 x hx
   rw[List.mem_singleton.1 hx];exact hr⟩) (Iv.pr ha)
theorem aA2:Iv (λf=>ES f/\f.cN.length<=20/\f.rules.length<=20) jB:=Iv.pb (ou _ _ ⟨by simp,by simp⟩) λcs il=>Iv.pb (xL _ _ ⟨by simp,by simp⟩) λrs jU =>
 Iv.pb (I:=Tv) (λl x l' hl e=>⟨trivial,(show Iv Tv np from Iv.ax (Iv.pb Iv.pop λ_ _=>Iv.pb y8 λ_ _=>Iv.pb (fe _) λ_ _=>Iv.pr trivial) (Iv.pr trivial)) l x l' hl e |>.2⟩) λb _=>Iv.pr ⟨⟨il.2,jU.2⟩,il.1,jU.1⟩
end Cae
namespace Go.Proofs.YtemjejfpadnljaaGreatDoor
open Go.Vc Go.Proofs Go.RowKit Cae
attribute [local irreducible] cg aa ag aX runK ar Sl Vc.Own vc aQ br a7
theorem J3 {s:List UInt8}{f:dY}(hs:s.length<=1000000)(h:dd s=.ok f):ES f/\f.cN.length<=20/\f.rules.length<=20:=by
 unfold dd at h;split at h
 ·cases h
 rename_i l hl;have Nt:=Y5 hs hl;split at h
 ·cases h
 rename_i f' l' hf;split at h
 ·cases h;exact(aA2 _ _ _ Nt.txt hf).1
 cases h
end Go.Proofs.YtemjejfpadnljaaGreatDoor
end
section
namespace Cae
abbrev bZ:=List (List UInt8×List Rg)
def sB (n:List UInt8):bZ->Option (List Rg)
 | []=>none
 | x::l=>if x.1=n then some x.2 else sB n l
def cC (nm:bZ):aw->Except Nat (List Rg)
 | .lit _ s=>.ok s
 | .ref pos n=>match sB n nm with
  | some s=>.ok s
  | none=>.error pos
 | .not _ k=>match cC nm k with
  | .ok s=>.ok (gq s)
  | .error e=>.error e
 | .bin c _ k r=>match cC nm k with
  | .error e=>.error e
  | .ok s=>match cC nm r with
   | .error e=>.error e
   | .ok t=>.ok (if c=3 then BO s t else if c=4 then BM s t else yg s t)
def gk:bZ->List fB->Except (Nat×Nat) bZ
 | nm,[]=>.ok nm
 | nm,c::l=>if (sB c.name nm).isSome then .error (5,c.pos) else match cC nm c.kind with
  | .error e=>.error (6,e)
  | .ok s=>gk (nm++[(c.name,s)]) l
mutual
def gx (nm:bZ):aG->Option Nat
 | .one k=>match cC nm k with
  | .error e=>some e
  | .ok _=>none
 | .any=>none
 | .gg=>none
 | .cat l=>iW nm l
 | .alt l=>iW nm l
 | .many x _ _=>gx nm x
def iW (nm:bZ):List aG->Option Nat
 | []=>none
 | x::l=>match gx nm x with
  | some e=>some e
  | none=>iW nm l
end
def Dz (nm:bZ)(r:dG):Option Nat:=match gx nm r.before with
 | some e=>some e
 | none=>gx nm r.after
def gD (nm:bZ):List dG->Option Nat
 | []=>none
 | r::l=>match Dz nm r with
  | some e=>some e
  | none=>gD nm l
def jL (nm:bZ):Prop:=∀x∈nm,aO (-2) x.2=true
theorem II {nm:bZ}(h:jL nm){n:List UInt8}{s:List Rg}(hf:sB n nm=some s):aO (-2) s=true:=by
 induction nm with
 | nil=>cases hf
 | cons x l ih =>
  rw[sB]at hf;split at hf
  ·cases hf;exact h x (List.mem_cons_self ..)
  exact ih (λy hy=>h y (List.mem_cons_of_mem _ hy)) hf
theorem eU {nm:bZ}(h:jL nm):∀{k:aw} {s:List Rg},gO k->cC nm k=.ok s->aO (-2) s=true
 | .lit _ s0,s,hk,e=>by cases e;exact hk.1
 | .ref pos n,s,hk,e=>by
  rw[cC]at e;split at e
  ·rename_i t ht;cases e;exact II h ht
  cases e
 | .not _ k,s,hk,e=>by
  rw[cC]at e;split at e
  ·rename_i t ht;cases e;exact pN (eU (k:=k) h hk ht)
  cases e
 | .bin c _ k r,s,hk,e=>by
  rw[cC]at e;split at e
  ·cases e
  split at e
  ·cases e
  cases e;split
  ·exact qw _ _
  split
  ·exact vA _ _
  exact DE _ _
mutual
def NO (Q:aw->Prop):aG->Prop
 | .one k=>Q k
 | .any=>True
 | .gg=>True
 | .cat l=>yo Q l
 | .alt l=>yo Q l
 | .many x _ _=>NO Q x
def yo (Q:aw->Prop):List aG->Prop
 | []=>True
 | x::l=>NO Q x/\yo Q l
end
mutual
def aCx (S:aw->List Rg):aG->aG
 | .one k=>.one (.lit 0 (S k))
 | .any=>.any
 | .gg=>.gg
 | .cat l=>.cat (Tt S l)
 | .alt l=>.alt (Tt S l)
 | .many x lo hi=>.many (aCx S x) lo hi
def Tt (S:aw->List Rg):List aG->List aG
 | []=>[]
 | x::l=>aCx S x::Tt S l
end
section
variable {has aS1:aw->Int->Prop} {bS:List Int} {back:Bool} {S:aw->List Rg}
end
end Cae
end
