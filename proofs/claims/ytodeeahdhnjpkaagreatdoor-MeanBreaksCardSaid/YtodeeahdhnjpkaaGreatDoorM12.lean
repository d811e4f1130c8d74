/- Texts of this claim, merged: Rck, Rr2, Rr3, Rr4, Rr5, Rr6, Rr7. -/
import Derived.Test.YtodeeahdhnjpkaaGreatDoorM11
set_option maxRecDepth 100000
set_option linter.unusedSimpArgs false
set_option linter.unusedVariables false
set_option maxHeartbeats 8000000
section
namespace Go.Proofs.YtodeeahdhnjpkaaGreatDoor
open Go.Vc Go.Proofs Go.RowKit Cae
attribute [local irreducible] cw ag aq a8 runK bD Sl Vc.Own vc aW cN ai
def LkS (nm:bP)(c:cW)(j:Nat):Prop:=(1<=j->im nm c.before=none)/\(2<=j->im nm c.after=none)
theorem Uc (f:dQ)(cD:rV f)(jS:QE f)(Ar:f.bJ.length<=1000000)(Zu:f.rules.length<=1000000)(X:Nat->Prop)(v:Value)(w:World)(hg:Gr w)(hv:gn X w v f) :
  bD Tryz.prog 11 [v] w λr w'=>MA (kl f) r/\Below w.heap.size w w':=by
 have X4:=hv;obtain⟨cv,rv,cs,rs,rfl,je,fO,hC,hR⟩:=hv;have NR:=dd.len hR;obtain⟨ca,cc,rfl,Sb⟩:=je.shape;obtain⟨ra,rc,rfl,hrc⟩:=fO.shape;refine cM Tryz.func11 rfl (by kernel_rfl) [.cell 2 28] rfl ?_;push_cast -dsimp(maxSteps:=4000000) [Tryz.ntmps11];refine aD ?_;push_cast -dsimp;refine ah ?_;intro w1 au;have au:qR w w1 25 [.slice ca cs.length cc,.slice ra rs.length rc,.bool f.els]:=au;have z1:=au.size;push_cast -dsimp;refine aR (z:=[.int .i64 0,.int .i64 0]) (by kernel_rfl) ?_;intro w2 bT;have z2:=bT.size;have B2:=au.aN.below bT.below (by omega);have E2:aO w2 w1.heap.size 28 [.int .i64 0,.int .i64 0]:=bT.aN;have c2:=au.below.trans (bT.below.mono (by omega));have d0:aB w2 ⟨w.heap.size,0,none⟩ 0 3=some [.slice ca cs.length cc,.slice ra rs.length rc,.bool f.els]:=B2.aB;push_cast -dsimp;refine aD ?_;push_cast -dsimp[d0];refine aA (ye f cD.1 Ar X _ w2 (hg.below c2) (X4.below c2)) ?_;rintro r w3 ⟨hN,b3⟩;have z3:=b3.size;have cw3:=c2.trans (b3.mono (by omega));unfold rX at hN;cases jR:fA [] f.bJ with
 | error e =>
  rw[jR]at hN;have hN:r=_:=hN;obtain⟨q,hq⟩:∃q,q=CL e:=⟨_,rfl⟩;have Vp:q.1=9\/q.1=7:=by rw[hq];unfold CL;dsimp only;split<;>simp
  rw[<-hq]at hN;obtain⟨c,p⟩:=q;have Zk:kl f=some (c,p):=by unfold kl;rw[jR,hq]
  subst hN;dsimp only at Vp ⊢
  rcases Vp with rfl|rfl;·
   push_cast -dsimp
   refine aR (z:=[.int .i64 0,.int .i64 0]) (by kernel_rfl) ?_
   intro w4 aj
   have z4:=aj.size
   push_cast -dsimp
   refine aF (xt:=28) (n:=2) (by kernel_rfl) aj.aN rfl (by decide) (by simp;exact⟨rfl,rfl⟩) ?_
   intro w5 bW
   have F5:aO w5 w3.heap.size 28 [.int .i64 9,.int .i64 p]:=bW.aN
   have z5:=bW.size
   have c35:Below w3.heap.size w3 w5:=aj.below.trans (bW.kept.below (B:=w3.heap.size) (by omega) (λi h=>by omega))
   have pL:=cw3.trans (c35.mono (by omega))
   have E5:=(E2.below b3 (by omega)).below c35 (by omega)
   have f5:aB w5 ⟨w3.heap.size,0,none⟩ 0 2=some [.int .i64 9,.int .i64 p]:=F5.aB
   have g5:=aL (hg.below pL)
   push_cast -dsimp
   refine aD ?_
   push_cast -dsimp[f5,g5]
   refine aF (xt:=28) (n:=2) (by kernel_rfl) E5 rfl (by decide) (by simp;exact⟨rfl,rfl⟩) ?_
   intro w6 cB
   have E6:aO w6 w1.heap.size 28 [.int .i64 9,.int .i64 p]:=cB.aN
   have dE:aB w6 ⟨w1.heap.size,0,none⟩ 0 2=some [.int .i64 9,.int .i64 p]:=E6.aB
   have tx:=pL.trans (cB.kept.below (B:=w.heap.size) pL.size (λi h=>by omega))
   push_cast -dsimp[dE]
   refine⟨?_,tx⟩
   rw[Zk]
   rfl
  ·
   push_cast -dsimp
   refine aR (z:=[.int .i64 0,.int .i64 0]) (by kernel_rfl) ?_
   intro w4 aj
   have z4:=aj.size
   push_cast -dsimp
   refine aF (xt:=28) (n:=2) (by kernel_rfl) aj.aN rfl (by decide) (by simp;exact⟨rfl,rfl⟩) ?_
   intro w5 bW
   have F5:aO w5 w3.heap.size 28 [.int .i64 7,.int .i64 p]:=bW.aN
   have z5:=bW.size
   have c35:Below w3.heap.size w3 w5:=aj.below.trans (bW.kept.below (B:=w3.heap.size) (by omega) (λi h=>by omega))
   have pL:=cw3.trans (c35.mono (by omega))
   have E5:=(E2.below b3 (by omega)).below c35 (by omega)
   have f5:aB w5 ⟨w3.heap.size,0,none⟩ 0 2=some [.int .i64 7,.int .i64 p]:=F5.aB
   have g5:=aL (hg.below pL)
   push_cast -dsimp
   refine aD ?_
   push_cast -dsimp[f5,g5]
   refine aF (xt:=28) (n:=2) (by kernel_rfl) E5 rfl (by decide) (by simp;exact⟨rfl,rfl⟩) ?_
   intro w6 cB
   have E6:aO w6 w1.heap.size 28 [.int .i64 7,.int .i64 p]:=cB.aN
   have dE:aB w6 ⟨w1.heap.size,0,none⟩ 0 2=some [.int .i64 7,.int .i64 p]:=E6.aB
   have tx:=pL.trans (cB.kept.below (B:=w.heap.size) pL.size (λi h=>by omega))
   push_cast -dsimp[dE]
   refine⟨?_,tx⟩
   rw[Zk]
   rfl
 | ok nm =>
  rw[jR]at hN;obtain⟨mb,hmb,rfl,EB,vf⟩:=hN;push_cast -dsimp;refine aR (z:=[.int .i64 0,.int .i64 0]) (by kernel_rfl) ?_;intro w4 aj;have z4:=aj.size;push_cast -dsimp;refine aF (xt:=28) (n:=2) (by kernel_rfl) aj.aN rfl (by decide) (by simp;exact⟨rfl,rfl⟩) ?_;intro w5 bW;have F5:aO w5 w3.heap.size 28 [.int .i64 0,.int .i64 (-1)]:=bW.aN;have z5:=bW.size;have Hl:Below w3.heap.size w3 w5:=aj.below.trans (bW.kept.below (B:=w3.heap.size) (by omega) (λi h=>by omega));have pL:=cw3.trans (Hl.mono (by omega));have E5:=(E2.below b3 (by omega)).below Hl (by omega);have B5:=(B2.below b3 (by omega)).below Hl (by omega);have f5:aB w5 ⟨w3.heap.size,0,none⟩ 0 2=some [.int .i64 0,.int .i64 (-1)]:=F5.aB;have g5:=aL (hg.below pL);have d1:w5.cell? ⟨w.heap.size,1,none⟩=some (.slice ra rs.length rc):=B5.cell rfl;push_cast -dsimp;refine aD ?_;push_cast -dsimp[f5,g5];refine aD ?_;push_cast -dsimp[d1];refine jP [6,8,9,22,23,24,25,26,27,28,29,30,31,32,33,34,35,36,37,38,39,40,41,42] (λz wx=>∃(i:Nat),z 22=.int .i64 i/\i<=f.rules.length/\eZ nm (f.rules.take i)=none/\Below w5.heap.size w5 wx) (λz _=>f.rules.length-(intOf (z 22)).toNat) ?_ ?_
  ·exact⟨0,rfl,Nat.zero_le _,by simp[eZ],Below.refl _ _⟩
  intro z wx hI;obtain⟨i,Zf,hi,gC,XV⟩:=hI;have zx:=XV.size;have bC:=pL.trans (XV.mono (by omega));have Ex:=E5.below XV (by omega);refine aD ?_;push_cast -dsimp[Zf];refine aD ?_;push_cast -dsimp;refine⟨λbZ=>?_,λgh=>?_⟩
  ·obtain⟨c,hc,qm,_,ht⟩:=bK (l:=f.rules) (i:=i) (by omega);obtain⟨x,hx,wK,tD,Av,wJ⟩:=jV hR hc;obtain⟨xp,xb,x1,x2⟩:=x;simp only at wK tD Av wJ;subst wK;subst tD;obtain⟨b1,o,rfl,zJ,aP⟩:=(fO.below bC).get hx;have c4:aB wx ⟨b1,o+i*4,none⟩ 0 4=some [.int .i64 c.pos,.bool c.brk,.pointer (some ⟨x1,0,none⟩),.pointer (some ⟨x2,0,none⟩)]:=bL _ 0 (λj u hu=>by simpa[gv,bF] using aP j u hu);refine fK (dr (aD ?_));push_cast -dsimp[c4];refine⟨⟨by omega,by omega⟩,?_⟩;refine aR (z:=[.int .i64 0,.bool false,.pointer none,.pointer none]) (by kernel_rfl) ?_;intro wa eL;have za:=eL.size;push_cast -dsimp;refine aF (n:=4) (by kernel_rfl) eL.aN rfl (by simp) (by simp[Value.oneCell']) ?_;intro wb cX;have zb:=cX.size;have me:Below wx.heap.size wx wb:=eL.below.trans (cX.kept.below (by omega) (λi h=>by omega));have XR:=XV.trans (me.mono (by omega));have oI:=bC.trans (me.mono (by omega));have Rb:aO wb wx.heap.size 60 [.int .i64 c.pos,.bool c.brk,.pointer (some ⟨x1,0,none⟩),.pointer (some ⟨x2,0,none⟩)]:=cX.aN;have e2:wb.cell? ⟨wx.heap.size,2,none⟩=some (.pointer (some ⟨x1,0,none⟩)):=Rb.cell rfl;have e3:wb.cell? ⟨wx.heap.size,3,none⟩=some (.pointer (some ⟨x2,0,none⟩)):=Rb.cell rfl;have qv:f.rules=f.rules.take (i+1)++f.rules.drop (i+1):=(List.take_append_drop _ _).symm;push_cast -dsimp;refine fK (PW (l1:=[_,_,_,_]) rfl rfl ?_);push_cast -dsimp[e2,e3];refine iD (w':=wb) (v:=.agg #[.pointer (some ⟨x1,0,none⟩),.pointer (some ⟨x2,0,none⟩)]) (by kernel_rfl) ?_;push_cast -dsimp;refine dr ?_
   refine aM [8,9,31,32,33,34,35,36,37,38,39,40,41] (λz wy=>∃(j:Nat),z 31=.int .i64 j/\j<=2/\LkS nm c j/\Below wb.heap.size wb wy) (λz _=>2-(intOf (z 31)).toNat) ?_ ?_
   ·exact⟨0,rfl,Nat.zero_le _,⟨λh=>by omega,λh=>by omega⟩,Below.refl _ _⟩
   intro z wy hI;obtain⟨j,h31,hj,⟨wH,AJ⟩,cp⟩:=hI;have zy:=cp.size;have PY:=oI.trans (cp.mono oI.size);have aFV:=XR.trans (cp.mono XR.size);rcases(show j=0\/j=1\/j=2 by omega) with rfl|rfl|rfl
   ·push_cast -dsimp[h31];refine GS (n:=2) (e:=58) (by kernel_rfl) ?_;refine iD (w':=wy) (v:=bF x1) (by kernel_rfl) ?_;push_cast -dsimp;refine aA (LL c.before (cD.2 c qm).1 (by have:=(jS c qm).1;omega) nm vf _ _ mb wy (hg.below PY) (aV.qP (aV.below Av PY) (λb h=>h.1)) (EB.below (Hl.trans (aFV.mono (by omega))))) ?_;rintro r wz ⟨hE,pY⟩;have zz:=pY.size;have PZ:=PY.trans (pY.mono PY.size);unfold mQ at hE;cases hp:im nm c.before with
    | none =>
     rw[hp]at hE;have hE:r=_:=hE;subst hE;push_cast -dsimp;refine aR (z:=[.int .i64 0,.int .i64 0]) (by kernel_rfl) ?_;intro wp JT;have zp:=JT.size;push_cast -dsimp;refine aF (xt:=28) (n:=2) (by kernel_rfl) JT.aN rfl (by decide) (by simp;exact⟨rfl,rfl⟩) ?_;intro wq oy;have Fq:aO wq wz.heap.size 28 [.int .i64 0,.int .i64 (-1)]:=oy.aN;have zq:=oy.size;have c4:Below wz.heap.size wz wq:=JT.below.trans (oy.kept.below (B:=wz.heap.size) (by omega) (λi h=>by omega));have RY:=PZ.trans (c4.mono PZ.size);have f4:aB wq ⟨wz.heap.size,0,none⟩ 0 2=some [.int .i64 0,.int .i64 (-1)]:=Fq.aB;have g4:=aL (hg.below RY);push_cast -dsimp[f4,g4];exact⟨⟨1,rfl,by omega,⟨λ_=>hp,λh=>by omega⟩,cp.trans ((pY.mono cp.size).trans (c4.mono (by omega)))⟩,by rw[h31];simp only[intOf];omega⟩
    | some e =>
     rw[hp]at hE;have hE:r=_:=hE;subst hE;push_cast -dsimp;refine aR (z:=[.int .i64 0,.int .i64 0]) (by kernel_rfl) ?_;intro wp JT;have zp:=JT.size;push_cast -dsimp;refine aF (xt:=28) (n:=2) (by kernel_rfl) JT.aN rfl (by decide) (by simp;exact⟨rfl,rfl⟩) ?_;intro wq oy;have Fq:aO wq wz.heap.size 28 [.int .i64 7,.int .i64 e]:=oy.aN;have zq:=oy.size;have c4:Below wz.heap.size wz wq:=JT.below.trans (oy.kept.below (B:=wz.heap.size) (by omega) (λi h=>by omega));have RY:=PZ.trans (c4.mono PZ.size);have f4:aB wq ⟨wz.heap.size,0,none⟩ 0 2=some [.int .i64 7,.int .i64 e]:=Fq.aB;have g4:=aL (hg.below RY);have Eq:=Ex.below (me.trans (cp.trans ((pY.mono cp.size).trans (c4.mono (by omega))) |>.mono (by omega))) Ex.lt;push_cast -dsimp[f4,g4];refine aF (xt:=28) (n:=2) (by kernel_rfl) Eq rfl (by decide) (by simp;exact⟨rfl,rfl⟩) ?_;intro w9 mC;have E9:aO w9 w1.heap.size 28 [.int .i64 7,.int .i64 e]:=mC.aN;have dE:aB w9 ⟨w1.heap.size,0,none⟩ 0 2=some [.int .i64 7,.int .i64 e]:=E9.aB;have Wq:=RY.trans (mC.kept.below (B:=w.heap.size) RY.size (λi h=>by omega));push_cast -dsimp[dE];refine⟨?_,Wq⟩;have cg:eZ nm f.rules=some e:=by
      rw[qv,fJ,ht,fJ,gC];simp only[eZ,vH,hp]
     unfold kl;rw[jR];dsimp only;rw[cg];rfl
   ·push_cast -dsimp[h31];refine GS (n:=2) (e:=58) (by kernel_rfl) ?_;refine iD (w':=wy) (v:=bF x2) (by kernel_rfl) ?_;push_cast -dsimp;refine aA (LL c.after (cD.2 c qm).2 (by have:=(jS c qm).2;omega) nm vf _ _ mb wy (hg.below PY) (aV.qP (aV.below wJ PY) (λb h=>h.1)) (EB.below (Hl.trans (aFV.mono (by omega))))) ?_;rintro r wz ⟨hE,pY⟩;have zz:=pY.size;have PZ:=PY.trans (pY.mono PY.size);unfold mQ at hE;cases hp:im nm c.after with
    | none =>
     rw[hp]at hE;have hE:r=_:=hE;subst hE;push_cast -dsimp;refine aR (z:=[.int .i64 0,.int .i64 0]) (by kernel_rfl) ?_;intro wp JT;have zp:=JT.size;push_cast -dsimp;refine aF (xt:=28) (n:=2) (by kernel_rfl) JT.aN rfl (by decide) (by simp;exact⟨rfl,rfl⟩) ?_;intro wq oy;have Fq:aO wq wz.heap.size 28 [.int .i64 0,.int .i64 (-1)]:=oy.aN;have zq:=oy.size;have c4:Below wz.heap.size wz wq:=JT.below.trans (oy.kept.below (B:=wz.heap.size) (by omega) (λi h=>by omega));have RY:=PZ.trans (c4.mono PZ.size);have f4:aB wq ⟨wz.heap.size,0,none⟩ 0 2=some [.int .i64 0,.int .i64 (-1)]:=Fq.aB;have g4:=aL (hg.below RY);push_cast -dsimp[f4,g4];exact⟨⟨2,rfl,by omega,⟨λ_=>wH (by omega),λ_=>hp⟩,cp.trans ((pY.mono cp.size).trans (c4.mono (by omega)))⟩,by rw[h31];simp only[intOf];omega⟩
    | some e =>
     rw[hp]at hE;have hE:r=_:=hE;subst hE;push_cast -dsimp;refine aR (z:=[.int .i64 0,.int .i64 0]) (by kernel_rfl) ?_;intro wp JT;have zp:=JT.size;push_cast -dsimp;refine aF (xt:=28) (n:=2) (by kernel_rfl) JT.aN rfl (by decide) (by simp;exact⟨rfl,rfl⟩) ?_;intro wq oy;have Fq:aO wq wz.heap.size 28 [.int .i64 7,.int .i64 e]:=oy.aN;have zq:=oy.size;have c4:Below wz.heap.size wz wq:=JT.below.trans (oy.kept.below (B:=wz.heap.size) (by omega) (λi h=>by omega));have RY:=PZ.trans (c4.mono PZ.size);have f4:aB wq ⟨wz.heap.size,0,none⟩ 0 2=some [.int .i64 7,.int .i64 e]:=Fq.aB;have g4:=aL (hg.below RY);have Eq:=Ex.below (me.trans (cp.trans ((pY.mono cp.size).trans (c4.mono (by omega))) |>.mono (by omega))) Ex.lt;push_cast -dsimp[f4,g4];refine aF (xt:=28) (n:=2) (by kernel_rfl) Eq rfl (by decide) (by simp;exact⟨rfl,rfl⟩) ?_;intro w9 mC;have E9:aO w9 w1.heap.size 28 [.int .i64 7,.int .i64 e]:=mC.aN;have dE:aB w9 ⟨w1.heap.size,0,none⟩ 0 2=some [.int .i64 7,.int .i64 e]:=E9.aB;have Wq:=RY.trans (mC.kept.below (B:=w.heap.size) RY.size (λi h=>by omega));push_cast -dsimp[dE];refine⟨?_,Wq⟩;have cg:eZ nm f.rules=some e:=by
      rw[qv,fJ,ht,fJ,gC];simp only[eZ,vH,wH (by omega),hp]
     unfold kl;rw[jR];dsimp only;rw[cg];rfl
   push_cast -dsimp[h31];have zb5:=XR.size;refine cC ?_;push_cast -dsimp[Zf];refine⟨⟨by omega,by omega⟩,⟨i+1,rfl,by omega,?_,XR.trans (cp.mono (by omega))⟩,by simp only[intOf];omega⟩;rw[ht,fJ,gC];simp only[eZ,vH,wH (by omega),AJ (by omega)]
  have gx:=aL (hg.below bC);refine aD ?_;push_cast -dsimp[gx];refine aF (xt:=28) (n:=2) (by kernel_rfl) Ex rfl (by decide) (by simp;exact⟨rfl,rfl⟩) ?_;intro w7 dN;have E7:aO w7 w1.heap.size 28 [.int .i64 0,.int .i64 (-1)]:=dN.aN;have dE:aB w7 ⟨w1.heap.size,0,none⟩ 0 2=some [.int .i64 0,.int .i64 (-1)]:=E7.aB;have se:=bC.trans (dN.kept.below (B:=w.heap.size) bC.size (λi h=>by omega));push_cast -dsimp[dE];refine cC ?_;push_cast -dsimp[dE];refine⟨?_,se⟩;rw[List.take_of_length_le (by omega)]at gC;unfold kl;rw[jR];dsimp only;rw[gC];rfl
theorem Kept.rb {rb B:Nat}{w w':World}(hl:B<=w.heap.size)(hr:rb<B)(hb:Below w.heap.size w w'):Kept (·=rb) w w':=Kept.aJ hb (λi h1 h2=>by omega)
section
variable {rb B:Nat} {w:World} {l:List Cae.Tok} {bad:Option (Nat×Nat)} (h:RS rb B w l bad)
include h
theorem Lc:Rc 25 [.pointer (some ⟨rb,0,none⟩)] rb B w l bad fP (λ_ r n=>r=str n) (λr=>∃n,r=str n):=by
 obtain⟨t,r,rfl⟩:=h.cons;obtain⟨b,o,c,hB,hc,dA,c0,c1,c2,c3⟩:=h.hd;have cb:w.cell? ⟨rb,0,none⟩=some (.slice (some ⟨b,o,none⟩) (r.length+1) c):=hB.cell rfl;have hle:=h.le;have bZ:=h.lt;refine aE Tryz.func25 rfl (by kernel_rfl) [2] rfl ?_;push_cast -dsimp(maxSteps:=4000000) [Tryz.ntmps25];push_cast -dsimp[cb,Nat.zero_mul,Nat.add_zero,c3];refine⟨by omega,?_⟩;refine aR (z:=[.int .i64 0,str [],.int .i64 0]) (by kernel_rfl) ?_;intro w1 au;have z1:=au.size;have P1:=h.below au.below;push_cast -dsimp;refine aF (xt:=71) (n:=3) (by kernel_rfl) au.aN rfl (by decide) (by simp;exact⟨rfl,rfl,rfl⟩) ?_;intro w2 bT;have z2:=bT.size;have B2:aO w2 w.heap.size 71 [.int .i64 t.kind,str t.text,.int .i64 t.pos]:=bT.aN;have P2:=P1.fx bT.kept (λi hi=>by omega);have b2:=au.below.trans (bT.kept.below (B:=w.heap.size) (by omega) (λi h=>by omega));push_cast -dsimp;refine aA (u0 P2) ?_;rintro _ w3 ⟨rfl,ft⟩;have P3:=P2.below ft;have B3:=B2.below ft (by omega);have k3:Kept (·=rb) w w3:=Kept.rb hle bZ (b2.trans (ft.mono (by omega)));unfold pC;cases jR:fI (t::r) with
 | false =>
  have ot:dp bad fP (t::r)=.error (bad.getD (3,(Cae.hd (t::r)).pos)):=by
   cases bad with
   | none=>unfold dp fP bE;rw[jR];rfl
   | some e=>rfl
  push_cast -dsimp;refine aA (bX P3 3 (by decide)) ?_;rintro _ w4 ⟨rfl,P4,k4⟩;have B4:=B3.kept k4 (by omega);have d4:w4.cell? ⟨w.heap.size,1,none⟩=some (str t.text):=B4.cell rfl;have k4':=k3.trans k4 (λi _ h=>h);push_cast -dsimp[d4];refine⟨λhl=>?_,λhl=>?_⟩
  ·refine aA (bX P4 4 (by decide)) ?_;rintro _ w5 ⟨rfl,P5,k5⟩;have B5:=B4.kept k5 (by omega);have Xk:=k4'.trans k5 (λi _ h=>h);push_cast -dsimp;refine aA (iW P5) ?_;rintro _ wo ⟨rfl,x7⟩;have do1:wo.cell? ⟨w.heap.size,1,none⟩=some (str t.text):=(aO.below B5 x7 (aO.lt B5)).cell rfl;have Po:=(P5).below x7;have ko2:Kept (·=rb) w wo:=Kept.trans Xk (Kept.rb (P5).le (P5).lt x7) (λi _ h=>h);push_cast -dsimp[do1];refine⟨ko2,?_⟩;rw[ot];exact⟨⟨_,rfl⟩,_,Po⟩
  ·
   refine aA (iW P4) ?_
   rintro _ wo ⟨rfl,x7⟩
   have do1:wo.cell? ⟨w.heap.size,1,none⟩=some (str t.text):=(aO.below B4 x7 (aO.lt B4)).cell rfl
   have Po:=(P4).below x7
   have ko2:Kept (·=rb) w wo:=Kept.trans k4' (Kept.rb (P4).le (P4).lt x7) (λi _ h=>h)
   push_cast -dsimp[do1]
   refine⟨ko2,?_⟩
   rw[ot]
   exact⟨⟨_,rfl⟩,_,Po⟩
 | true =>
  have d3:w3.cell? ⟨w.heap.size,1,none⟩=some (str t.text):=B3.cell rfl;push_cast -dsimp[d3];refine⟨λhl=>?_,λhl=>?_⟩
  ·have ri:vA (t::r)=true:=decide_eq_true (show 10<t.text.length by omega)
   have ot:dp bad fP (t::r)=.error (bad.getD (4,(Cae.hd (t::r)).pos)):=by
    cases bad with
    | none=>unfold dp fP bE;rw[jR,ri];rfl
    | some e=>rfl
   refine aA (bX P3 4 (by decide)) ?_;rintro _ w5 ⟨rfl,P5,k5⟩;have B5:=B3.kept k5 (by omega);have Xk:=k3.trans k5 (λi _ h=>h);push_cast -dsimp;refine aA (iW P5) ?_;rintro _ wo ⟨rfl,x7⟩;have do1:wo.cell? ⟨w.heap.size,1,none⟩=some (str t.text):=(aO.below B5 x7 (aO.lt B5)).cell rfl;have Po:=(P5).below x7;have ko2:Kept (·=rb) w wo:=Kept.trans Xk (Kept.rb (P5).le (P5).lt x7) (λi _ h=>h);push_cast -dsimp[do1];refine⟨ko2,?_⟩;rw[ot];exact⟨⟨_,rfl⟩,_,Po⟩
  have ri:vA (t::r)=false:=decide_eq_false (show ¬10<t.text.length by omega)
  cases bad with
  | some e =>
   have ot:dp (some e) fP (t::r)=.error e:=rfl;refine aA (iW P3) ?_;rintro _ wo ⟨rfl,x7⟩;have do1:wo.cell? ⟨w.heap.size,1,none⟩=some (str t.text):=(aO.below B3 x7 (aO.lt B3)).cell rfl;have Po:=(P3).below x7;have ko2:Kept (·=rb) w wo:=Kept.trans k3 (Kept.rb (P3).le (P3).lt x7) (λi _ h=>h);push_cast -dsimp[do1];refine⟨ko2,?_⟩;rw[ot];exact⟨⟨_,rfl⟩,_,Po⟩
  | none =>
   have h5:t.kind≠5:=by
    have hn:fI (t::r)=(t.kind == 1 && !rN t.text):=rfl;rw[hn]at jR;simp at jR;omega
   refine aA (iW P3) ?_;rintro _ w4 ⟨rfl,fo⟩;have P4:=P3.below fo;have B4:=B3.below fo (by have:=B3.lt;omega);obtain⟨b',o',c',qW,hc4,_⟩:=P4.hd;have Qy:w4.cell? ⟨rb,0,none⟩=some (.slice (some ⟨b',o',none⟩) (r.length+1) c'):=qW.cell rfl;push_cast -dsimp[Qy,oX];refine⟨by omega,?_⟩;refine aC qW (by simp) rfl ?_;intro w5 bW;have P5:=P4.pop qW h5 bW;have B5:=B4.kept bW.kept (by omega);have d5:w5.cell? ⟨w.heap.size,1,none⟩=some (str t.text):=B5.cell rfl;have k5:=(k3.trans (Kept.rb P3.le P3.lt fo) (λi _ h=>h)).trans bW.kept (λi _ h=>h);push_cast -dsimp[d5];refine⟨k5,?_⟩;have ot:dp none fP (t::r)=.ok (t.text,r):=by unfold dp;simp[fP,bE,jR,ri,Cae.pb,eA,bV,pr,h5,Cae.hd]
   rw[ot];exact⟨rfl,P5⟩
theorem BM:Rc 85 [.pointer (some ⟨rb,0,none⟩)] rb B w l bad eF (λ_ r n=>r=.int .i64 (n:Int)/\n<=12) (λr=>r=.int .i64 0):=by
 obtain⟨t,r,rfl⟩:=h.cons;obtain⟨b,o,c,hB,hc,dA,c0,c1,c2,c3⟩:=h.hd;have cb:w.cell? ⟨rb,0,none⟩=some (.slice (some ⟨b,o,none⟩) (r.length+1) c):=hB.cell rfl;have hle:=h.le;have bZ:=h.lt;refine aE Tryz.func85 rfl (by kernel_rfl) [2] rfl ?_;push_cast -dsimp(maxSteps:=4000000) [Tryz.ntmps85];push_cast -dsimp[cb,Nat.zero_mul,Nat.add_zero,c3];refine⟨by omega,?_⟩;refine aR (z:=[.int .i64 0,str [],.int .i64 0]) (by kernel_rfl) ?_;intro w1 au;have z1:=au.size;have P1:=h.below au.below;push_cast -dsimp;refine aF (xt:=71) (n:=3) (by kernel_rfl) au.aN rfl (by decide) (by simp;exact⟨rfl,rfl,rfl⟩) ?_;intro w2 bT;have z2:=bT.size;have B2:aO w2 w.heap.size 71 [.int .i64 t.kind,str t.text,.int .i64 t.pos]:=bT.aN;have P2:=P1.fx bT.kept (λi hi=>by omega);have b2:=au.below.trans (bT.kept.below (B:=w.heap.size) (by omega) (λi h=>by omega));have k2:Kept (·=rb) w w2:=Kept.rb hle bZ b2;push_cast -dsimp;refine aA (iW P2) ?_;rintro _ w3 ⟨rfl,ft⟩;have P3:=P2.below ft;have B3:=B2.below ft (by omega);have k3:=k2.trans (Kept.rb P2.le P2.lt ft) (λi _ h=>h);have d0:w3.cell? ⟨w.heap.size,0,none⟩=some (.int .i64 t.kind):=B3.cell rfl;have d1:w3.cell? ⟨w.heap.size,1,none⟩=some (str t.text):=B3.cell rfl;unfold pC;cases bad with
 | some e =>
  push_cast -dsimp;refine aA (bX P3 3 (by decide)) ?_;rintro _ w4 ⟨rfl,P4,k4⟩;push_cast -dsimp;exact⟨k3.trans k4 (λi _ h=>h),_,P4⟩
 | none =>
  push_cast -dsimp[d0];refine⟨λhk=>?_,λhk=>?_⟩
  ·have iY:isKind 2 (t::r)=false:=by
    have:t.kind≠2:=λe=>hk (by omega);simp[isKind,Cae.hd,this]
   have ot:dp none eF (t::r)=.error (3,(Cae.hd (t::r)).pos):=by unfold dp eF bE;rw[iY];rfl
   refine aA (bX P3 3 (by decide)) ?_;rintro _ w4 ⟨rfl,P4,k4⟩;push_cast -dsimp;rw[ot];exact⟨k3.trans k4 (λi _ h=>h),_,P4⟩
  have hkk:t.kind=2:=by omega
  have iY:isKind 2 (t::r)=true:=by simp[isKind,Cae.hd,hkk]
  have Sw:=h.tl.num t (by simp) hkk;have Sn:12<r6 t.text->dp none eF (t::r)=.error (4,(Cae.hd (t::r)).pos):=λF0=>by
   unfold dp eF bE;rw[iY];simp[Cae.pb,eA,Cae.hd,F0,ck]
  push_cast -dsimp[d1];refine aA (QZ t.text (h.tl.txt t (by simp)) Sw.1 Sw.2 w3 P3.gr.e) ?_;rintro rv w4 ⟨hr,fo⟩;have P4:=P3.below fo;have k4:=k3.trans (Kept.rb P3.le P3.lt fo) (λi _ h=>h);rcases hr with rfl|⟨F0,v,t',p,rfl⟩
  ·push_cast -dsimp;refine⟨λhh=>?_,λhh=>?_⟩
   ·have ot:=Sn (by omega);refine aA (bX P4 4 (by decide)) ?_;rintro _ w5 ⟨rfl,P5,k5⟩;push_cast -dsimp;rw[ot];exact⟨k4.trans k5 (λi _ h=>h),_,P5⟩
   have h5:t.kind≠5:=by omega
   obtain⟨b',o',c',qW,hc4,_⟩:=P4.hd;have Qy:w4.cell? ⟨rb,0,none⟩=some (.slice (some ⟨b',o',none⟩) (r.length+1) c'):=qW.cell rfl;push_cast -dsimp[Qy,oX];refine⟨by omega,?_⟩;refine aC qW (by simp) rfl ?_;intro w5 bW;have P5:=P4.pop qW h5 bW;have F0:¬12<r6 t.text:=by omega
   have ot:dp none eF (t::r)=.ok (r6 t.text,r):=by unfold dp eF bE;rw[iY];simp[Cae.pb,eA,Cae.hd,F0,bV,h5,pr]
   push_cast -dsimp;rw[ot];exact⟨k4.trans bW.kept (λi _ h=>h),⟨rfl,by omega⟩,P5⟩
  have ot:=Sn F0;push_cast -dsimp;refine aA (bX P4 4 (by decide)) ?_;rintro _ w5 ⟨rfl,P5,k5⟩;push_cast -dsimp;rw[ot];exact⟨k4.trans k5 (λi _ h=>h),_,P5⟩
end
end Go.Proofs.YtodeeahdhnjpkaaGreatDoor
end
section
namespace Cae
def iI (s:List UInt8):Nat:=if s=[124] then 3 else if s=[38] then 4 else if s=[45] then 5 else 0
theorem Bi {t:Cae.Tok}{r:List Cae.Tok}(h:iI t.text=0):oB (t::r)=.ok (0,t::r):=by
 have h1:t.text≠[124]:=λe=>by rw[e]at h;cases h
 have h2:t.text≠[38]:=λe=>by rw[e]at h;cases h
 have h3:t.text≠[45]:=λe=>by rw[e]at h;cases h
 simp[oB,bE,bI,Cae.hd,h1,h2,h3,pr]
theorem Bj {t:Cae.Tok}{r:List Cae.Tok}(h:iI t.text≠0)(h4:t.kind=4):oB (t::r)=.ok (iI t.text,r)/\bI t.text (t::r)=true:=by
 have h5:t.kind≠5:=by omega
 refine⟨?_,by simp[bI,Cae.hd,h5]⟩;unfold iI at h ⊢
 by_cases h1:t.text=[124]
 ·rw[if_pos h1];simp[oB,bE,bI,Cae.hd,h1,h5,pr,Cae.pb,bV]
 rw[if_neg h1]at h ⊢
 by_cases h2:t.text=[38]
 ·rw[if_pos h2];simp[oB,bE,bI,Cae.hd,h2,h5,pr,Cae.pb,bV]
 rw[if_neg h2]at h ⊢
 by_cases h3:t.text=[45]
 ·rw[if_pos h3];simp[oB,bE,bI,Cae.hd,h3,h5,pr,Cae.pb,bV]
 rw[if_neg h3]at h;exact absurd rfl h
theorem Bh {s:List UInt8}(h:iI s≠0)(hn:noMark s):False:=by
 unfold iI at h;obtain⟨h1,h2,h3⟩:=hn;rw[if_neg h1,if_neg h2,if_neg h3]at h;exact h rfl
end Cae
namespace Go.Proofs.YtodeeahdhnjpkaaGreatDoor
open Go.Vc Go.Proofs Go.RowKit Cae
attribute [local irreducible] cw ag aq a8 runK bD Sl Vc.Own vc aW cN ai
def aAF:List (List UInt8×Value):=[([124],.int .i64 3),([38],.int .i64 4),([45],.int .i64 5)]
theorem Qm (s:List UInt8):(eN s aAF).getD (.int .i64 0)=.int .i64 (iI s:Nat):=by
 unfold iI;by_cases h1:s=[124]
 ·subst h1;rfl
 by_cases h2:s=[38]
 ·subst h2;rfl
 by_cases h3:s=[45]
 ·subst h3;rfl
 rw[if_neg h1,if_neg h2,if_neg h3];simp[aAF,eN,h1,h2,h3]
def Tx (rb:Nat)(w:World):Nat:=match w.cell? ⟨rb,1,none⟩ with
 | some (.int _ 0)=>rP w rb+1
 | _=>0
theorem RS.mu {rb B:Nat}{w:World}{l:List Cae.Tok}(h:RS rb B w l none):Tx rb w=l.length+1:=by
 obtain⟨v,h1,h2⟩:=h.st;obtain⟨a,c,rfl,_⟩:=h2.shape;unfold Tx rP;rw[h1.cell (o:=0) rfl,h1.cell (o:=1) rfl];rfl
theorem RS.vD {rb B:Nat}{w:World}{l:List Cae.Tok}{e:Nat×Nat}(h:RS rb B w l (some e)):Tx rb w=0:=by
 obtain⟨v,h1,h2⟩:=h.st;have dA:=h.ne e rfl;unfold Tx;rw[h1.cell (o:=1) (show (v::pN (some e))[1]?=some (.int .i64 (e.1:Int)) from rfl)]
 obtain⟨c,p⟩:=e;cases c with
 | zero=>exact absurd rfl dA
 | succ c=>rfl
def EM (d:Nat):Prop:=∀(n:Int),0<=n->n+(d:Int)=9->∀(rb B:Nat) (w:World) (l:List Cae.Tok) (bad:Option (Nat×Nat)),RS rb B w l bad->Rc 51 [.pointer (some ⟨rb,0,none⟩),.int .i64 n] rb B w l bad (dI d) (λw' r k=>eC (·<w.heap.size) w' r k) (λr=>∃a,r=.pointer a)
def aEC (d:Nat):Prop:=∀(n:Int),0<=n->n+(d:Int)=9->∀(rb B:Nat) (w:World) (l:List Cae.Tok) (bad:Option (Nat×Nat)),RS rb B w l bad->Rc 27 [.pointer (some ⟨rb,0,none⟩),.int .i64 n] rb B w l bad (iV d) (λw' r k=>eC (·<w.heap.size) w' r k) (λr=>∃a,r=.pointer a)
theorem G0 (d:Nat)(tB:EM d):aEC d:=by
 intro n oK hn rb B w l0 bad h0;obtain⟨t,r,sR⟩:=h0.cons;have wF:Cae.hd l0=t:=by rw[sR];rfl
 have wC:=h0;rw[sR]at wC;obtain⟨b,o,c,hB,hc,dA,c0,c1,c2,c3⟩:=wC.hd;have cb:w.cell? ⟨rb,0,none⟩=some (.slice (some ⟨b,o,none⟩) (r.length+1) c):=hB.cell rfl;have hle:=h0.le;have bZ:=h0.lt;refine aE Tryz.func27 rfl (by kernel_rfl) [4] rfl ?_;push_cast -dsimp(maxSteps:=4000000) [Tryz.ntmps27];push_cast -dsimp[cb,c2];refine⟨by omega,?_⟩;refine aA (tB n oK hn rb B w l0 bad h0) ?_;rintro v1 w1 ⟨k1,hO⟩;have hinv:(∃(m:Nat) (kk:ax) (l1:List Cae.Tok),cj (dI d) t.pos m kk l1=dp bad (iV d) l0/\l1.length<m/\eC (·<w.heap.size) w1 v1 kk/\RS rb B w1 l1 none)\/(∃(e:Nat×Nat) (l1:List Cae.Tok) (a:Option Addr),dp bad (iV d) l0=.error e/\v1=.pointer a/\RS rb B w1 l1 (some e)):=by
  cases ho:dp bad (dI d) l0 with
  | ok q =>
   obtain⟨kk,l1⟩:=q;rw[ho]at hO;obtain⟨hV,hR⟩:=hO;cases bad with
   | some e=>cases ho
   | none =>
    refine .inl ⟨1000,kk,l1,?_,by have:=hR.tl.len;omega,hV,hR⟩;have ho':dI d l0=.ok (kk,l1):=ho
    show _=iV d l0
    unfold iV lG;rw[aG (p:=eA) (x:=Cae.hd l0) (l1:=l0) rfl,aG ho',wF]
  | error e =>
   rw[ho]at hO;obtain⟨⟨a,hJ⟩,l1,hR⟩:=hO;refine .inr ⟨e,l1,a,?_,hJ,hR⟩;cases bad with
   | some e'=>exact ho
   | none =>
    have ho':dI d l0=.error e:=ho
    show iV d l0=_
    unfold iV lG;rw[aG (p:=eA) (x:=Cae.hd l0) (l1:=l0) rfl];unfold Cae.pb;rw[ho']
 have aK8:∃a,v1=.pointer a:=by
  rcases hinv with ⟨_,_,_,_,_,hV,_⟩|⟨_,_,a,_,e,_⟩
  ·obtain⟨kb,e,_⟩:=hV.ptr;exact⟨_,e⟩
  exact⟨a,e⟩
 obtain⟨a1,zH⟩:=aK8;subst zH;have p6:∃out,dp bad (iV d) l0=out:=⟨_,rfl⟩;obtain⟨out,fN⟩:=p6;unfold pC;rw[fN]at hinv ⊢
 push_cast -dsimp;refine aM [6,7,8,19,20,21,22,23,24,25,26,27,28,29,30,31,32,33,34,35,36,37,38,39,40,41,42,43,44,45,46,47,48,49,50,51,52,53,54] (λz w'=>∃a:Option Addr,z 6=.pointer a/\Kept (·=rb) w w'/\((∃(m:Nat) (kk:ax) (l1:List Cae.Tok),cj (dI d) t.pos m kk l1=out/\l1.length<m/\eC (·<w.heap.size) w' (.pointer a) kk/\RS rb B w' l1 none)\/(∃(e:Nat×Nat) (l1:List Cae.Tok),out=.error e/\RS rb B w' l1 (some e)))) (λz w'=>Tx rb w') ?_ ?_
 ·refine⟨a1,rfl,k1,?_⟩;rcases hinv with h|⟨e,l1,a,h1,_,h3⟩
  ·exact .inl h
  exact .inr ⟨e,l1,h1,h3⟩
 rintro z w' ⟨a,ig,uJ,Sa⟩;rcases Sa with ⟨m,kk,l1,dB,hm,V1,P1⟩|⟨e,l1,nB,P1⟩
 ·have tA:=P1.mu;obtain⟨t1,r1,Hs⟩:=P1.cons;push_cast -dsimp[ig];refine aA (iW P1) ?_;rintro _ w2 ⟨rfl,eW⟩;have P2:=P1.below eW;rw[Hs]at P2;obtain⟨b',o',c',jK,Zj,ie,d0,d1,d2,d3⟩:=P2.hd;have cb2:w2.cell? ⟨rb,0,none⟩=some (.slice (some ⟨b',o',none⟩) (r1.length+1) c'):=jK.cell rfl;have kw2:=uJ.trans (Kept.rb P1.le P1.lt eW) (λi _ h=>h);push_cast -dsimp[ig,cb2,d1];refine⟨by omega,?_⟩;refine tK (key:=λl:List UInt8=>str l) ?_;intro w3 m3 b3 z3;push_cast -dsimp;refine fU (kt:=9) (et:=3) (k:=[124]) (by kernel_rfl) (gL (by kernel_rfl)) m3 rfl rfl ?_;intro w4 m4 k4 z4;push_cast -dsimp;refine fU (kt:=9) (et:=3) (k:=[38]) (by kernel_rfl) (gL (by kernel_rfl)) m4 rfl (by decide) ?_;intro w5 m5 k5 z5;push_cast -dsimp;refine fU (kt:=9) (et:=3) (k:=[45]) (by kernel_rfl) (gL (by kernel_rfl)) m5 rfl (by decide) ?_;intro w6 m6 k6 z6;have m7:mP (λl:List UInt8=>str l) w6 w2.heap.size aAF:=m6;have jc:Below w2.heap.size w2 w6:=b3.trans (((k4.trans k5 (λ_ _ h=>h)).trans k6 (λ_ _ h=>h)).below (by omega) (λi h=>by omega));have P6:=P2.below jc;have WD:=kw2.trans (Kept.rb P2.le P2.lt jc) (λi _ h=>h);obtain⟨b6,o6,c6,Cs,hc6,JP,e0,e1,e2,e3⟩:=P6.hd;have cb6:w6.cell? ⟨rb,0,none⟩=some (.slice (some ⟨b6,o6,none⟩) (r1.length+1) c6):=Cs.cell rfl;push_cast -dsimp;refine wN (kt:=9) (et:=3) (z:=.int .i64 0) (c:=false) (k:=t1.text) (by kernel_rfl) (gL (by kernel_rfl)) (by kernel_rfl) m7 ?_;rw[if_neg (by decide),Qm];obtain⟨m',rfl⟩:∃m',m=m'+1:=⟨m-1,by omega⟩;by_cases ti:iI t1.text=0
  ·have i0:((iI t1.text:Nat):Int)=0:=by omega
   have pX:=Bi (r:=r1) ti;rw[<-Hs]at pX;have nW:out=.ok (kk,l1):=by
    rw[<-dB,cj,aG pX,if_pos rfl];rfl
   rw[nW];push_cast -dsimp[i0,ig];rw[<-Hs]at P6;exact⟨WD,(V1.mono (Kept.rb P1.le P1.lt eW) (λi h=>by have:=h0.lt;omega) (λ_ h=>h)).mono (Kept.rb P2.le P2.lt jc) (λi h=>by have:=h0.lt;omega) (λ_ h=>h),P6⟩
  have i0:¬((iI t1.text:Nat):Int)=0:=by omega
  have h4:t1.kind=4:=Classical.byContradiction λhk=>Bh ti (P6.tm t1 (by simp) hk);have i4:((t1.kind:Nat):Int)=4:=by omega
  have Ku:=Bj (r:=r1) ti h4;obtain⟨pX,aLj⟩:=Ku;rw[<-Hs]at pX;push_cast -dsimp[i0,cb6,e0,i4];refine⟨by omega,?_⟩;refine aA (iS P6 t1.text) ?_;rintro _ w7 ⟨k7,hM⟩;have hmo:dp none (a7 t1.text) (t1::r1)=.ok ((),r1):=by unfold dp a7 bE;rw[aLj];exact bB (by omega)
  rw[hmo]at hM;obtain⟨rfl,P7⟩:=hM;have kw7:=WD.trans k7 (λi _ h=>h);push_cast -dsimp;refine aA (tB n oK hn rb B w7 r1 none P7) ?_;rintro v8 w8 ⟨k8,Kq⟩;have kw8:=kw7.trans k8 (λi _ h=>h);have hV8:eC (·<w.heap.size) w8 (.pointer a) kk:=V1.mono (((Kept.rb P1.le P1.lt eW).trans (Kept.rb P2.le P2.lt jc) (λi _ h=>h)).trans (k7.trans k8 (λi _ h=>h)) (λi _ h=>h)) (λi h=>by omega) (λ_ h=>h);have h8:∃u,v8=.pointer u:=by
   cases ho:dp none (dI d) r1 with
   | ok q =>
    rw[ho]at Kq;obtain⟨ub,e,_⟩:=Kq.1.ptr;exact⟨_,e⟩
   | error e =>
    rw[ho]at Kq;exact Kq.1
  obtain⟨u,rfl⟩:=h8;have EL:=kw8.size;have aQZ:=kw7.size;have z8:=k8.size;push_cast -dsimp[ig];refine ah ?_;intro w9 mC;have B9:aO w9 w8.heap.size 126 [.int .i64 (iI t1.text:Nat),.int .i64 t.pos,.slice none 0 0,str [],.pointer a,.pointer u]:=mC.aN;have b9:=mC.below;have kw9:=kw8.trans (Kept.aJ b9 (X:=(·=rb)) (λi h1 h2=>by omega)) (λi _ h=>h);cases ho:dp none (dI d) r1 with
  | ok q =>
   obtain⟨k2,l2⟩:=q;rw[ho]at Kq;obtain⟨V8,P8⟩:=Kq;have P9:=P8.below b9;have aBW:=P9.mu;have p7:l2.length<=r1.length:=by
    obtain⟨pre,_,e,_⟩:=nE d _ _ _ (show dI d r1=.ok (k2,l2) from ho)
    rw[e,List.length_append];omega
   have hll:l1.length=r1.length+1:=by rw[Hs,List.length_cons]
   push_cast -dsimp;refine⟨⟨_,rfl,kw9,.inl ⟨m',.bin (iI t1.text) t.pos kk k2,l2,?_,by omega,?_,P9⟩⟩,by rw[tA,aBW];omega⟩
   ·rw[<-dB,cj,aG pX,if_neg ti,aG (show dI d r1=.ok (k2,l2) from ho)]
   exact⟨w8.heap.size,_,_,rfl,by omega,B9,hV8.below b9,(V8.mono (X:=(·<w7.heap.size)) (Kept.refl (λ_=>False) w8) (λ_ h=>h.elim) (λi h=>by omega)).below b9⟩
  | error e =>
   rw[ho]at Kq;obtain⟨_,l2,P8⟩:=Kq;have P9:=P8.below b9;have aBW:=P9.vD;push_cast -dsimp;refine⟨⟨_,rfl,kw9,.inr ⟨e,l2,?_,P9⟩⟩,by rw[tA,aBW];omega⟩;rw[<-dB,cj,aG pX,if_neg ti];unfold Cae.pb;rw[show dI d r1=.error e from ho]
 push_cast -dsimp[ig];refine aA (iW P1) ?_;rintro _ w2 ⟨rfl,eW⟩;have P2:=P1.below eW;have kw2:=uJ.trans (Kept.rb P1.le P1.lt eW) (λi _ h=>h);push_cast -dsimp[ig];rw[nB];exact⟨kw2,⟨_,rfl⟩,_,P2⟩
end Go.Proofs.YtodeeahdhnjpkaaGreatDoor
end
section
namespace Go.Proofs.YtodeeahdhnjpkaaGreatDoor
open Go.Vc Go.Proofs Go.RowKit Cae
attribute [local irreducible] cw ag aq a8 runK bD Sl Vc.Own vc aW cN ai
theorem Nb:EM 0:=by
 intro n oK hn rb B w l bad h;have ot:dp bad (dI 0) l=.error (bad.getD (4,(Cae.hd l).pos)):=by cases bad<;>rfl
 refine aE Tryz.func51 rfl (by kernel_rfl) [4] rfl ?_;push_cast -dsimp(maxSteps:=4000000) [Tryz.ntmps51];refine⟨λh8=>?_,λh8=>by omega⟩;refine aA (bX h 4 (by decide)) ?_;rintro _ w1 ⟨rfl,P1,k1⟩;push_cast -dsimp;refine aA (iW P1) ?_;rintro _ w2 ⟨rfl,eW⟩;unfold pC;rw[ot];push_cast -dsimp;exact⟨k1.trans (Kept.rb P1.le P1.lt eW) (λi _ h=>h),⟨_,rfl⟩,_,P1.below eW⟩
theorem Na (d:Nat)(ih:EM d):EM (d+1):=by
 have ihk:=G0 d ih;intro n oK hn rb B w l0 bad h0;have hle:=h0.le;have bZ:=h0.lt;refine aE Tryz.func51 rfl (by kernel_rfl) [4] rfl ?_;push_cast -dsimp(maxSteps:=4000000) [Tryz.ntmps51];refine⟨λh8=>by omega,λh8=>?_⟩;refine aA (iW h0) ?_;rintro _ w1 ⟨rfl,de⟩;have P1:=h0.below de;have k1:Kept (·=rb) w w1:=Kept.rb hle bZ de;have z1:=de.size;unfold pC;cases bad with
 | some e =>
  push_cast -dsimp;exact⟨k1,⟨_,rfl⟩,_,P1⟩
 | none =>
  obtain⟨t,r,sR⟩:=h0.cons;have wF:Cae.hd l0=t:=by rw[sR];rfl
  have mU:dI (d+1) l0=bE (isKind 3) yC (bE (bI [126]) (Cae.pb eA λt=>Cae.pb bV λ_=>Cae.pb (dI d) λk=>pr (.not t.pos k))
   (bE (bI [40]) (Cae.pb bV λ_=>Cae.pb (lG (dI d)) λk=>Cae.pb (a7 [41]) λ_=>pr k)
    (Cae.pb eA λt=>Cae.pb fP λn=>pr (.ref t.pos n)))) l0:=rfl
  have X2:∀{β:Type} (q:Cae.Tok->Pa β),Cae.pb eA q l0=q t l0:=λq=>by rw[aG (p:=eA) (x:=Cae.hd l0) (l1:=l0) rfl,wF]
  have P1':=P1;rw[sR]at P1';obtain⟨b,o,c,hB,hc,dA,c0,c1,c2,c3⟩:=P1'.hd;have cb:w1.cell? ⟨rb,0,none⟩=some (.slice (some ⟨b,o,none⟩) (r.length+1) c):=hB.cell rfl;push_cast -dsimp[cb,Nat.zero_mul,Nat.add_zero,c3];refine⟨by omega,?_⟩;refine aR (z:=[.int .i64 0,str [],.int .i64 0]) (by kernel_rfl) ?_;intro w2 bT;have z2:=bT.size;push_cast -dsimp;refine aF (xt:=71) (n:=3) (by kernel_rfl) bT.aN rfl (by decide) (by simp;exact⟨rfl,rfl,rfl⟩) ?_;intro w3 bO;have z3:=bO.size;have B3:aO w3 w1.heap.size 71 [.int .i64 t.kind,str t.text,.int .i64 t.pos]:=bO.aN;have vu:Below w1.heap.size w1 w3:=bT.below.trans (bO.kept.below (by omega) (λi h=>by omega));have P3:=P1.below vu;have Vm:=P1'.below vu;have k3:=k1.trans (Kept.rb P1.le P1.lt vu) (λi _ h=>h);have e0:w3.cell? ⟨w1.heap.size,0,none⟩=some (.int .i64 t.kind):=B3.cell rfl;have e1:w3.cell? ⟨w1.heap.size,1,none⟩=some (str t.text):=B3.cell rfl;have hrw:rb<w1.heap.size:=by omega
  have fN:dp none (dI (d+1)) l0=dI (d+1) l0:=rfl;rw[fN];push_cast -dsimp[e0];refine⟨λh3=>?_,λh3=>?_⟩
  ·have qq:isKind 3 l0=true:=by
    have:t.kind=3:=by omega
    simp[isKind,wF,this]
   have h5:t.kind≠5:=by omega
   push_cast -dsimp[e1];refine aA (Gq t.text (Vm.tl.txt t (by simp)) w3 P3.gr.d P3.gr.e P3.gr.t) ?_;rintro rv w4 ⟨hR,b4⟩;have z4:=b4.size;have P4:=P3.below b4;have K8:=Vm.below b4;have B4:=B3.below b4 (by omega);have k4:=k3.trans (Kept.rb P3.le P3.lt b4) (λi _ h=>h);unfold Kd at hR;rcases hR with ⟨v,s,rfl,ho,hpr⟩|⟨rfl,gC⟩
   ·have vj:=Lf hpr;have hs0:=ho.sl;have ha0:Arg v:=ho.dH;have eM:=hs0.shape;obtain⟨va,vc,rfl,_⟩:=eM;have hex:dI (d+1) l0=.ok (.lit t.pos s,r):=by
     rw[mU];unfold bE;rw[qq,if_pos rfl];unfold yC;rw[X2,vj,sR];simp[Cae.pb,bV,h5,pr]
    rw[hex];obtain⟨b5,o5,c5,Cr,hc5,_⟩:=K8.hd;have cb5:w4.cell? ⟨rb,0,none⟩=some (.slice (some ⟨b5,o5,none⟩) (r.length+1) c5):=Cr.cell rfl;push_cast -dsimp[cb5,oX];refine⟨by omega,?_⟩;refine aC Cr (by simp) rfl ?_;intro w5 bW;have P5:=K8.pop Cr h5 bW;have z5:w5.heap.size=w4.heap.size:=bW.size;have B5:=B4.kept bW.kept (by omega);have e5:w5.cell? ⟨w1.heap.size,2,none⟩=some (.int .i64 t.pos):=B5.cell rfl;have k5:=k4.trans bW.kept (λi _ h=>h);push_cast -dsimp[e5];refine ah ?_;intro w6 cB;have B6:aO w6 w5.heap.size 126 [.int .i64 1,.int .i64 t.pos,.slice va s.length vc,str [],.pointer none,.pointer none]:=cB.aN;have s6:Sl (·<w.heap.size) 2 (En encR) w6 (.slice va s.length vc) s:=((hs0.kept bW.kept (λi h=>by omega)).below cB.below).weaken (λi h=>by omega);push_cast -dsimp;exact⟨k5.trans (Kept.aJ cB.below (X:=(·=rb)) (λi h1 h2=>by omega)) (λi _ h=>h),⟨_,_,rfl,by omega,B6,s6,ha0⟩,P5.below cB.below⟩
   have vj:=Ld gC;have hex:dI (d+1) l0=.error (3,(Cae.hd l0).pos):=by
    rw[mU];unfold bE;rw[qq,if_pos rfl];unfold yC;rw[X2,vj];rfl
   rw[hex];push_cast -dsimp;refine aA (bX P4 3 (by decide)) ?_;rintro _ w5 ⟨rfl,P5,k5⟩;push_cast -dsimp;exact⟨k4.trans k5 (λi _ h=>h),⟨_,rfl⟩,_,P5⟩
  have qq:isKind 3 l0=false:=by
   have:t.kind≠3:=λe=>h3 (by omega);simp[isKind,wF,this]
  refine aA (fB P3 [126]) ?_;rintro _ w4 hT;rcases hT with ⟨_,eY,rfl,t1,r1,gy,lx,P4,kt⟩|⟨eY,rfl,P4,b4⟩
  ·obtain⟨rfl,rfl⟩:t=t1/\r=r1:=by rw[sR]at gy;exact List.cons.inj gy
   have ew:bV l0=.ok ((),r):=by rw[sR];exact bB lx
   have iM:dI (d+1) l0=Cae.pb (dI d) (λk=>pr (.not t.pos k)) r:=by
    rw[mU];unfold bE;rw[qq,eY,if_neg (by decide),if_pos rfl,X2,aG ew]
   rw[iM];have B4:=B3.kept kt (by omega);have k4:=k3.trans kt (λi _ h=>h);have z4:=kt.size;push_cast -dsimp;have ga:∀ar:World,aO ar w1.heap.size 71 [.int .i64 t.kind,str t.text,.int .i64 t.pos]->ar.cell? ⟨w1.heap.size,2,none⟩=some (.int .i64 t.pos):=λar h=>h.cell rfl;refine aX (λw'=>aO w' w1.heap.size 71 [.int .i64 t.kind,str t.text,.int .i64 t.pos]) mixed (by kernel_rfl) B4.drew ?_;have ea:=ga _ B4.drew;push_cast -dsimp[ea];refine⟨λar h=>by rw[ga ar h];exact rfl,by omega,?_⟩;have P4d:=P4.below (aS w4);have zd:w4.drew.heap.size=w4.heap.size:=rfl;have k4d:=k4.trans (Kept.rb P4.le P4.lt (aS w4)) (λi _ h=>h);refine aA (ih (n+1) (by omega) (by omega) rb B w4.drew r none P4d) ?_;rintro v5 w5 ⟨k5,gR⟩;have z5:=k5.size;have B5:=B4.drew.kept k5 (by omega);refine⟨B5,?_⟩;have Xk:=k4d.trans k5 (λi _ h=>h);rw[show dp none (dI d) r=dI d r from rfl]at gR
   cases ho:dI d r with
   | ok q =>
    obtain⟨kk,l2⟩:=q;rw[ho]at gR;obtain⟨V5,P5⟩:=gR;have hp:=V5.ptr;obtain⟨ub,rfl,zM⟩:=hp;rw[aG ho];push_cast -dsimp;refine ah ?_;intro w6 cB;have B6:aO w6 w5.heap.size 126 [.int .i64 6,.int .i64 t.pos,.slice none 0 0,str [],.pointer (some ⟨ub,0,none⟩),.pointer none]:=cB.aN;refine⟨B5.below cB.below (by omega),?_⟩;push_cast -dsimp;exact⟨Xk.trans (Kept.aJ cB.below (X:=(·=rb)) (λi h1 h2=>by omega)) (λi _ h=>h),⟨_,_,rfl,by omega,B6,(V5.mono (X:=(·<w4.drew.heap.size)) (Kept.refl (λ_=>False) w5) (λ_ h=>h.elim) (λi h=>by omega)).below cB.below⟩,P5.below cB.below⟩
   | error e =>
    rw[ho]at gR;obtain⟨⟨u,rfl⟩,l2,P5⟩:=gR;have ot:Cae.pb (dI d) (λk=>pr (ax.not t.pos k)) r=.error e:=by unfold Cae.pb;rw[ho]
    rw[ot];push_cast -dsimp;refine ah ?_;intro w6 cB;refine⟨B5.below cB.below (by omega),?_⟩;push_cast -dsimp;exact⟨Xk.trans (Kept.aJ cB.below (X:=(·=rb)) (λi h1 h2=>by omega)) (λi _ h=>h),⟨_,rfl⟩,_,P5.below cB.below⟩
  have k4:=k3.trans (Kept.rb P3.le P3.lt b4) (λi _ h=>h);have B4:=B3.below b4 (by omega);have z4:=b4.size;push_cast -dsimp;refine aA (fB P4 [40]) ?_;rintro _ w5 hT;rcases hT with ⟨_,iP,rfl,t1,r1,gy,lx,P5,kt⟩|⟨iP,rfl,P5,b5⟩
  ·obtain⟨rfl,rfl⟩:t=t1/\r=r1:=by rw[sR]at gy;exact List.cons.inj gy
   have ew:bV l0=.ok ((),r):=by rw[sR];exact bB lx
   have iM:dI (d+1) l0=Cae.pb (lG (dI d)) (λk=>Cae.pb (a7 [41]) λ_=>pr k) r:=by
    rw[mU];unfold bE;rw[qq,show bI [126] l0=false from eY,iP,if_neg (by decide),if_neg (by decide),if_pos rfl,aG ew]
   rw[iM];have k5:=k4.trans kt (λi _ h=>h);have z5:=kt.size;push_cast -dsimp;refine⟨by omega,?_⟩;refine aA (ihk (n+1) (by omega) (by omega) rb B w5 r none P5) ?_;rintro v6 w6 ⟨k6,mR⟩;have k6':=k5.trans k6 (λi _ h=>h);rw[show dp none (iV d) r=lG (dI d) r from rfl]at mR
   cases ho:lG (dI d) r with
   | ok q =>
    obtain⟨kk,l2⟩:=q;rw[ho]at mR;obtain⟨V6,P6⟩:=mR;have hp:=V6.ptr;obtain⟨ub,rfl,zM⟩:=hp;rw[aG ho];push_cast -dsimp;refine aA (iS P6 [41]) ?_;rintro _ w7 ⟨k7,hM⟩;have k7':=k6'.trans k7 (λi _ h=>h);rw[show dp none (a7 [41]) l2=a7 [41] l2 from rfl]at hM
    cases hm:a7 [41] l2 with
    | ok q =>
     obtain⟨_,l3⟩:=q;rw[hm]at hM;obtain⟨rfl,P7⟩:=hM;rw[aG hm];push_cast -dsimp;exact⟨k7',V6.mono k7 (λi h=>by omega) (λi h=>by omega),P7⟩
    | error e =>
     rw[hm]at hM;obtain⟨rfl,l3,P7⟩:=hM;have ot:Cae.pb (a7 [41]) (λ_=>pr kk) l2=.error e:=by unfold Cae.pb;rw[hm]
     rw[ot];push_cast -dsimp;exact⟨k7',⟨_,rfl⟩,_,P7⟩
   | error e =>
    rw[ho]at mR;obtain⟨⟨u,rfl⟩,l2,P6⟩:=mR;have ot:Cae.pb (lG (dI d)) (λk=>Cae.pb (a7 [41]) λ_=>pr k) r=.error e:=by unfold Cae.pb;rw[ho]
    rw[ot];push_cast -dsimp;refine aA (iS P6 [41]) ?_;rintro _ w7 ⟨k7,hM⟩;rw[show dp (some e) (a7 [41]) l2=.error e from rfl]at hM
    obtain⟨rfl,l3,P7⟩:=hM;push_cast -dsimp;exact⟨k6'.trans k7 (λi _ h=>h),⟨_,rfl⟩,_,P7⟩
  have k5:=k4.trans (Kept.rb P4.le P4.lt b5) (λi _ h=>h);have B5:=B4.below b5 (by omega);have z5:=b5.size;have iM:dI (d+1) l0=Cae.pb fP (λn=>pr (ax.ref t.pos n)) l0:=by
   rw[mU];unfold bE;rw[qq,show bI [126] l0=false from eY,show bI [40] l0=false from iP,if_neg (by decide),if_neg (by decide),if_neg (by decide),X2]
  rw[iM];push_cast -dsimp;have ga:∀ar:World,aO ar w1.heap.size 71 [.int .i64 t.kind,str t.text,.int .i64 t.pos]->ar.cell? ⟨w1.heap.size,2,none⟩=some (.int .i64 t.pos):=λar h=>h.cell rfl;refine aX (λw'=>aO w' w1.heap.size 71 [.int .i64 t.kind,str t.text,.int .i64 t.pos]) mixed (by kernel_rfl) B5.drew ?_;have ea:=ga _ B5.drew;push_cast -dsimp[ea];refine⟨λar h=>by rw[ga ar h];exact rfl,?_⟩;have P5d:=P5.below (aS w5);have zd:w5.drew.heap.size=w5.heap.size:=rfl;have k5d:=k5.trans (Kept.rb P5.le P5.lt (aS w5)) (λi _ h=>h);refine aA (Lc P5d) ?_;rintro v6 w6 ⟨k6,mR⟩;have z6:=k6.size;have B6:=B5.drew.kept k6 (by omega);refine⟨B6,?_⟩;have k6':=k5d.trans k6 (λi _ h=>h);rw[show dp none fP l0=fP l0 from rfl]at mR
  cases ho:fP l0 with
  | ok q =>
   obtain⟨nm,l2⟩:=q;rw[ho]at mR;obtain⟨rfl,P6⟩:=mR;rw[aG ho];push_cast -dsimp;refine ah ?_;intro w7 dN;have B7:aO w7 w6.heap.size 126 [.int .i64 2,.int .i64 t.pos,.slice none 0 0,str nm,.pointer none,.pointer none]:=dN.aN;refine⟨B6.below dN.below (by omega),?_⟩;push_cast -dsimp;exact⟨k6'.trans (Kept.aJ dN.below (X:=(·=rb)) (λi h1 h2=>by omega)) (λi _ h=>h),⟨_,rfl,by omega,B7⟩,P6.below dN.below⟩
  | error e =>
   rw[ho]at mR;obtain⟨⟨nm,rfl⟩,l2,P6⟩:=mR;have ot:Cae.pb fP (λn=>pr (ax.ref t.pos n)) l0=.error e:=by unfold Cae.pb;rw[ho]
   rw[ot];push_cast -dsimp;refine ah ?_;intro w7 dN;refine⟨B6.below dN.below (by omega),?_⟩;push_cast -dsimp;exact⟨k6'.trans (Kept.aJ dN.below (X:=(·=rb)) (λi h1 h2=>by omega)) (λi _ h=>h),⟨_,rfl⟩,_,P6.below dN.below⟩
theorem tH:∀d,EM d
 | 0=>Nb
 | d+1=>Na d (tH d)
def Kg (d:Nat):Prop:=∀(n:Int),0<=n->n+(d:Int)=9->∀(rb B:Nat) (w:World) (l:List Cae.Tok) (bad:Option (Nat×Nat)),RS rb B w l bad->Rc 84 [.pointer (some ⟨rb,0,none⟩),.int .i64 n] rb B w l bad (aY d) (λw' r x=>aV (·<w.heap.size) w' r x) (λr=>∃a,r=.pointer a)
def ZU (d:Nat):Prop:=∀(n:Int),0<=n->n+(d:Int)=9->∀(rb B:Nat) (w:World) (l:List Cae.Tok) (bad:Option (Nat×Nat)),RS rb B w l bad->Rc 52 [.pointer (some ⟨rb,0,none⟩),.int .i64 n] rb B w l bad (aQ d (aY d)) (λw' r x=>aV (·<w.heap.size) w' r x) (λr=>∃a,r=.pointer a)
def QD (d:Nat):Prop:=∀(n:Int),0<=n->n+(d:Int)=9->∀(rb B:Nat) (w:World) (l:List Cae.Tok) (bad:Option (Nat×Nat)),RS rb B w l bad->Rc 28 [.pointer (some ⟨rb,0,none⟩),.int .i64 n] rb B w l bad (j8 d) (λw' r x=>aV (·<w.heap.size) w' r x) (λr=>∃a,r=.pointer a)
theorem KA:Kg 0:=by
 intro n oK hn rb B w l bad h;have ot:dp bad (aY 0) l=.error (bad.getD (4,(Cae.hd l).pos)):=by cases bad<;>rfl
 refine aE Tryz.func84 rfl (by kernel_rfl) [4] rfl ?_;push_cast -dsimp(maxSteps:=4000000) [Tryz.ntmps84];refine⟨λh8=>?_,λh8=>by omega⟩;refine aA (bX h 4 (by decide)) ?_;rintro _ w1 ⟨rfl,P1,k1⟩;push_cast -dsimp;refine aA (iW P1) ?_;rintro _ w2 ⟨rfl,eW⟩;unfold pC;rw[ot];push_cast -dsimp;exact⟨k1.trans (Kept.rb P1.le P1.lt eW) (λi _ h=>h),⟨_,rfl⟩,_,P1.below eW⟩
theorem Jz (d:Nat)(ihp:QD d):Kg (d+1):=by
 intro n oK hn rb B w l0 bad h0;have hle:=h0.le;have bZ:=h0.lt;refine aE Tryz.func84 rfl (by kernel_rfl) [4] rfl ?_;push_cast -dsimp(maxSteps:=4000000) [Tryz.ntmps84];refine⟨λh8=>by omega,λh8=>?_⟩;refine aA (iW h0) ?_;rintro _ w1 ⟨rfl,de⟩;have P1:=h0.below de;have k1:Kept (·=rb) w w1:=Kept.rb hle bZ de;have z1:=de.size;unfold pC;cases bad with
 | some e =>
  push_cast -dsimp;exact⟨k1,⟨_,rfl⟩,_,P1⟩
 | none =>
  obtain⟨t,r,sR⟩:=h0.cons;have wF:Cae.hd l0=t:=by rw[sR];rfl
  have mU:aY (d+1) l0=bE (bI [46]) (Cae.pb bV λ_=>pr .any)
   (bE (bI [36]) (Cae.pb bV λ_=>pr .iA)
   (bE (bI [40]) (Cae.pb bV λ_=>Cae.pb (j8 d) λx=>Cae.pb (a7 [41]) λ_=>pr x)
   (bE dx (Cae.pb (dI (d+1)) λk=>pr (.one k)) (ck 3)))) l0:=rfl
  have fN:dp none (aY (d+1)) l0=aY (d+1) l0:=rfl;rw[fN];push_cast -dsimp;refine aA (fB P1 [46]) ?_;rintro _ w2 hT;rcases hT with ⟨_,eY,rfl,t1,r1,gy,lx,P2,kt⟩|⟨eY,rfl,P2,b2⟩
  ·have ew:bV l0=.ok ((),r1):=by rw[gy];exact bB lx
   have hex:aY (d+1) l0=.ok (.any,r1):=by
    rw[mU];unfold bE;rw[eY,if_pos rfl,aG ew];rfl
   rw[hex];have k2:=k1.trans kt (λi _ h=>h);have z2:=k2.size;push_cast -dsimp;refine ah ?_;intro w3 bO;have B3:aO w3 w2.heap.size 129 [.int .i64 2,.pointer none,.slice none 0 0,.int .i64 0,.int .i64 0]:=bO.aN;push_cast -dsimp;refine⟨k2.trans (Kept.aJ bO.below (X:=(·=rb)) (λi h1 h2=>by omega)) (λi _ h=>h),?_,P2.below bO.below⟩;simp only[aV];exact⟨_,rfl,by omega,B3⟩
  have k2:=k1.trans (Kept.rb P1.le P1.lt b2) (λi _ h=>h);push_cast -dsimp;refine aA (fB P2 [36]) ?_;rintro _ w3 hT;rcases hT with ⟨_,iP,rfl,t1,r1,gy,lx,P3,kt⟩|⟨iP,rfl,P3,b3⟩
  ·have ew:bV l0=.ok ((),r1):=by rw[gy];exact bB lx
   have hex:aY (d+1) l0=.ok (.iA,r1):=by
    rw[mU];unfold bE;rw[show bI [46] l0=false from eY,iP,if_neg (by decide),if_pos rfl,aG ew]
    rfl
   rw[hex];have k3:=k2.trans kt (λi _ h=>h);have z3:=k3.size;push_cast -dsimp;refine ah ?_;intro w4 aj;have B4:aO w4 w3.heap.size 129 [.int .i64 3,.pointer none,.slice none 0 0,.int .i64 0,.int .i64 0]:=aj.aN;push_cast -dsimp;refine⟨k3.trans (Kept.aJ aj.below (X:=(·=rb)) (λi h1 h2=>by omega)) (λi _ h=>h),?_,P3.below aj.below⟩;simp only[aV];exact⟨_,rfl,by omega,B4⟩
  have k3:=k2.trans (Kept.rb P2.le P2.lt b3) (λi _ h=>h);push_cast -dsimp;refine aA (fB P3 [40]) ?_;rintro _ w4 hT;rcases hT with ⟨_,nZ,rfl,t1,r1,gy,lx,P4,kt⟩|⟨nZ,rfl,P4,b4⟩
  ·have ew:bV l0=.ok ((),r1):=by rw[gy];exact bB lx
   have iM:aY (d+1) l0=Cae.pb (j8 d) (λx=>Cae.pb (a7 [41]) λ_=>pr x) r1:=by
    rw[mU];unfold bE;rw[show bI [46] l0=false from eY,show bI [36] l0=false from iP,nZ,if_neg (by decide),if_neg (by decide),if_pos rfl,aG ew]
   rw[iM];have k4:=k3.trans kt (λi _ h=>h);have z4:=k4.size;push_cast -dsimp;refine⟨by omega,?_⟩;refine aA (ihp (n+1) (by omega) (by omega) rb B w4 r1 none P4) ?_;rintro v5 w5 ⟨k5,gR⟩;have Xk:=k4.trans k5 (λi _ h=>h);rw[show dp none (j8 d) r1=j8 d r1 from rfl]at gR
   cases ho:j8 d r1 with
   | ok q =>
    obtain⟨x,l2⟩:=q;rw[ho]at gR;obtain⟨V5,P5⟩:=gR;have hp:=V5.ptr;obtain⟨ub,rfl,zM,_⟩:=hp;rw[aG ho];push_cast -dsimp;refine aA (iS P5 [41]) ?_;rintro _ w6 ⟨k6,hM⟩;have k6':=Xk.trans k6 (λi _ h=>h);rw[show dp none (a7 [41]) l2=a7 [41] l2 from rfl]at hM
    cases hm:a7 [41] l2 with
    | ok q =>
     obtain⟨_,l3⟩:=q;rw[hm]at hM;obtain⟨rfl,P6⟩:=hM;rw[aG hm];push_cast -dsimp;exact⟨k6',V5.mono k6 (λi h=>by have:=P4.le;have:=P4.lt;omega) (λi h=>by omega),P6⟩
    | error e =>
     rw[hm]at hM;obtain⟨rfl,l3,P6⟩:=hM;have ot:Cae.pb (a7 [41]) (λ_=>pr x) l2=.error e:=by unfold Cae.pb;rw[hm]
     rw[ot];push_cast -dsimp;exact⟨k6',⟨_,rfl⟩,_,P6⟩
   | error e =>
    rw[ho]at gR;obtain⟨⟨u,rfl⟩,l2,P5⟩:=gR;have ot:Cae.pb (j8 d) (λx=>Cae.pb (a7 [41]) λ_=>pr x) r1=.error e:=by unfold Cae.pb;rw[ho]
    rw[ot];push_cast -dsimp;refine aA (iS P5 [41]) ?_;rintro _ w6 ⟨k6,hM⟩;rw[show dp (some e) (a7 [41]) l2=.error e from rfl]at hM
    obtain⟨rfl,l3,P6⟩:=hM;push_cast -dsimp;exact⟨Xk.trans k6 (λi _ h=>h),⟨_,rfl⟩,_,P6⟩
  have k4:=k3.trans (Kept.rb P3.le P3.lt b4) (λi _ h=>h);have z4:=k4.size;have K8:=P4;rw[sR]at K8;obtain⟨b,o,c,hB,hc,dA,c0,c1,c2,c3⟩:=K8.hd;have cb:w4.cell? ⟨rb,0,none⟩=some (.slice (some ⟨b,o,none⟩) (r.length+1) c):=hB.cell rfl;have iM:aY (d+1) l0=if dx l0=true then Cae.pb (dI (d+1)) (λk=>pr (.one k)) l0 else ck 3 l0:=by
   rw[mU];unfold bE;rw[show bI [46] l0=false from eY,show bI [36] l0=false from iP,show bI [40] l0=false from nZ,if_neg (by decide),if_neg (by decide),if_neg (by decide)]
  push_cast -dsimp[cb,c0];refine⟨by omega,λh3=>?_,λh3=>?_⟩;rotate_left
  ·have cO:dx l0=true:=by
    have:t.kind=3:=by omega
    simp[dx,isKind,wF,this]
   rw[if_pos cO]at iM;refine aA (tH (d+1) n (by omega) (by omega) rb B w4 l0 none P4) ?_;rintro v9 w9 ⟨k9,sr⟩;have k9':=Kept.trans k4 k9 (λi _ h=>h);have zk9:=(k4).size;have z9:=k9.size;rw[show dp none (dI (d+1)) l0=dI (d+1) l0 from rfl]at sr
   rw[iM];cases ho:dI (d+1) l0 with
   | ok q =>
    obtain⟨kk,l2⟩:=q;rw[ho]at sr;obtain⟨V9,P9⟩:=sr;have hp:=V9.ptr;obtain⟨ub,rfl,zM⟩:=hp;rw[aG ho];push_cast -dsimp;refine ah ?_;intro tq eQ;have B10:aO tq w9.heap.size 129 [.int .i64 1,.pointer (some ⟨ub,0,none⟩),.slice none 0 0,.int .i64 0,.int .i64 0]:=eQ.aN;push_cast -dsimp;refine⟨k9'.trans (Kept.aJ eQ.below (X:=(·=rb)) (λi h1 h2=>by omega)) (λi _ h=>h),?_,P9.below eQ.below⟩;simp only[aV];exact⟨_,_,rfl,by omega,B10,(V9.mono (Kept.refl (λ_=>False) w9) (λ_ h=>h.elim) (λi h=>by omega)).below eQ.below⟩
   | error e =>
    rw[ho]at sr;obtain⟨⟨u,rfl⟩,l2,P9⟩:=sr;have ot:Cae.pb (dI (d+1)) (λk=>pr (aI.one k)) l0=.error e:=by unfold Cae.pb;rw[ho]
    rw[ot];push_cast -dsimp;refine ah ?_;intro tq eQ;push_cast -dsimp;exact⟨k9'.trans (Kept.aJ eQ.below (X:=(·=rb)) (λi h1 h2=>by omega)) (λi _ h=>h),⟨_,rfl⟩,_,P9.below eQ.below⟩
  have qq:isKind 3 l0=false:=by
   have:t.kind≠3:=λe=>h3 (by omega);simp[isKind,wF,this]
  refine aA (u0 P4) ?_;rintro _ w5 ⟨rfl,kU⟩;have P5:=P4.below kU;have k5:=k4.trans (Kept.rb P4.le P4.lt kU) (λi _ h=>h);cases jR:fI l0 with
  | true =>
   have cO:dx l0=true:=by simp[dx,jR]
   rw[if_pos cO]at iM;push_cast -dsimp;refine aA (tH (d+1) n (by omega) (by omega) rb B w5 l0 none P5) ?_;rintro v9 w9 ⟨k9,sr⟩;have k9':=Kept.trans k5 k9 (λi _ h=>h);have zk9:=(k5).size;have z9:=k9.size;rw[show dp none (dI (d+1)) l0=dI (d+1) l0 from rfl]at sr
   rw[iM];cases ho:dI (d+1) l0 with
   | ok q =>
    obtain⟨kk,l2⟩:=q;rw[ho]at sr;obtain⟨V9,P9⟩:=sr;have hp:=V9.ptr;obtain⟨ub,rfl,zM⟩:=hp;rw[aG ho];push_cast -dsimp;refine ah ?_;intro tq eQ;have B10:aO tq w9.heap.size 129 [.int .i64 1,.pointer (some ⟨ub,0,none⟩),.slice none 0 0,.int .i64 0,.int .i64 0]:=eQ.aN;push_cast -dsimp;refine⟨k9'.trans (Kept.aJ eQ.below (X:=(·=rb)) (λi h1 h2=>by omega)) (λi _ h=>h),?_,P9.below eQ.below⟩;simp only[aV];exact⟨_,_,rfl,by omega,B10,(V9.mono (Kept.refl (λ_=>False) w9) (λ_ h=>h.elim) (λi h=>by omega)).below eQ.below⟩
   | error e =>
    rw[ho]at sr;obtain⟨⟨u,rfl⟩,l2,P9⟩:=sr;have ot:Cae.pb (dI (d+1)) (λk=>pr (aI.one k)) l0=.error e:=by unfold Cae.pb;rw[ho]
    rw[ot];push_cast -dsimp;refine ah ?_;intro tq eQ;push_cast -dsimp;exact⟨k9'.trans (Kept.aJ eQ.below (X:=(·=rb)) (λi h1 h2=>by omega)) (λi _ h=>h),⟨_,rfl⟩,_,P9.below eQ.below⟩
  | false =>
   have cO:¬dx l0=true:=by simp[dx,jR,qq]
   rw[if_neg cO]at iM;have ot:aY (d+1) l0=.error (3,(Cae.hd l0).pos):=iM;rw[ot];push_cast -dsimp;refine aA (bX P5 3 (by decide)) ?_;rintro _ w6 ⟨rfl,P6,k6⟩;push_cast -dsimp;exact⟨k5.trans k6 (λi _ h=>h),⟨_,rfl⟩,_,P6⟩
def Ke (d:Nat)(rb B:Nat)(w w':World)(i:Nat)(v:Value)(out:Except (Nat×Nat) (aI×List Cae.Tok)):Prop :=
 (∃(m c:Nat) (x:aI) (l1:List Cae.Tok),aw d m c x l1=out/\l1.length<m/\i=c+1/\c<=9/\aV (·<w.heap.size) w' v x/\RS rb B w' l1 none)\/(∃(e:Nat×Nat) (l1:List Cae.Tok),out=.error e/\i<=12/\RS rb B w' l1 (some e))
theorem Ur (d:Nat)(hu:Kg d):ZU d:=by
 intro n oK hn rb B w l0 bad h0;have hle:=h0.le;have bZ:=h0.lt;refine aE Tryz.func52 rfl (by kernel_rfl) [4] rfl ?_;push_cast -dsimp(maxSteps:=4000000) [Tryz.ntmps52];refine aA (hu n oK hn rb B w l0 bad h0) ?_;rintro v1 w1 ⟨k1,hO⟩;have p6:∃out,dp bad (aQ d (aY d)) l0=out:=⟨_,rfl⟩;obtain⟨out,fN⟩:=p6;have hinv:(∃a,v1=.pointer a)/\Ke d rb B w w1 1 v1 out:=by
  unfold Ke;rw[<-fN];cases ho:dp bad (aY d) l0 with
  | ok q =>
   obtain⟨x,l1⟩:=q;rw[ho]at hO;obtain⟨hV,hR⟩:=hO;have hp:=hV.ptr;obtain⟨kb,e,_⟩:=hp;cases bad with
   | some e=>cases ho
   | none =>
    refine⟨⟨_,e⟩,.inl ⟨1000,0,x,l1,?_,by have:=hR.tl.len;omega,rfl,by omega,hV,hR⟩⟩
    show _=aQ d (aY d) l0
    unfold aQ;rw[aG (show aY d l0=.ok (x,l1) from ho)]
  | error e =>
   rw[ho]at hO;obtain⟨hJ,l1,hR⟩:=hO;refine⟨hJ,.inr ⟨e,l1,?_,by omega,hR⟩⟩;cases bad with
   | some e'=>exact ho
   | none =>
    show aQ d (aY d) l0=_
    unfold aQ Cae.pb;rw[show aY d l0=.error e from ho]
 obtain⟨⟨a1,rfl⟩,hI0⟩:=hinv;unfold pC;rw[fN];push_cast -dsimp;refine aM [4,5,6,7,11,12,13,14,15,16,17,18,19,20,21,22,23,24,25,26,27,28,29,30,31,32,33,34,35,36,37,38,39,40,41,42,43,44,45,46,47,48,49,50,51,52,53,54,55,56,57,58,59,60,61,62,63,64,65,66,67,68,69,70,71,72,73,74,75,76,77,78,79,80,81,82,83,84,85,86,87] (λz w'=>∃(i:Nat) (a:Option Addr),z 6=.int .i64 i/\z 5=.pointer a/\1<=i/\Kept (·=rb) w w'/\Ke d rb B w w' i (.pointer a) out) (λz w'=>Tx rb w') ?_ ?_
 ·exact⟨1,a1,rfl,rfl,by omega,k1,hI0⟩
 rintro z w' ⟨i,a,ig,rr,Zp,uJ,hI⟩;unfold Ke at hI;rcases hI with ⟨m,c,x,l1,dB,hm,hic,hc9,V1,P1⟩|⟨e,l1,nB,aQf,P1⟩
 ·have tA:=P1.mu;have hzw:=uJ.size;push_cast -dsimp[ig,rr];refine aA (iW P1) ?_;rintro _ w0 ⟨rfl,ti⟩;have P0:=P1.below ti;have k0:=uJ.trans (Kept.rb P1.le P1.lt ti) (λi _ h=>h);have V0:=V1.below ti;have z0:=ti.size;push_cast -dsimp[rr];refine cY dj rfl rfl (by omega) ?_;intro w2 bT;have BX0:aO w2 w0.heap.size 58 [.pointer a]:=bT.aN;have P2:=P0.below bT.below;have z2:=bT.size;have k2:=k0.trans (Kept.new (X:=(·=rb)) bT) (λi _ h=>h);push_cast -dsimp;refine ah ?_;intro w3 bO;have hp:=V0.ptr;obtain⟨kb,ha,vi,_⟩:=hp;cases ha;have BY3:aO w3 (w0.heap.size+1) 129 [.int .i64 6,.pointer none,.slice (some ⟨w0.heap.size,0,none⟩) 1 1,.int .i64 0,.int .i64 (-1)]:=by
   have:=bO.aN;rw[z2]at this;exact this
  have ZQ:aO w3 w0.heap.size 58 [bF kb]:=BX0.below bO.below (by omega);have P3:=P2.below bO.below;have z3:=bO.size;have k3:=k2.trans (Kept.new (X:=(·=rb)) bO) (λi _ h=>h);have V3:aV (λb=>b<w.heap.size\/w0.heap.size<=b) w3 (.pointer (some ⟨kb,0,none⟩)) x:=(V0.top.below bT.below).below bO.below;push_cast -dsimp[z2];refine aA (fB P3 [42]) ?_;rintro _ w4 hT;rcases hT with ⟨_,eY,rfl,t4,l2,tz,lx,P4,kt⟩|⟨eY,rfl,P4,b4⟩
  ·have ew:bV l1=.ok ((),l2):=by rw[tz];exact bB lx
   have p7:l1.length=l2.length+1:=by rw[tz,List.length_cons]
   have kp:cF l1=.ok (some (0,-1),l2):=by
    unfold cF bE;rw[eY,if_pos rfl,aG ew];rfl
   have BY:=BY3.kept kt (by omega);have BX:=ZQ.kept kt (by omega);have kS:=k3.trans kt (λi _ h=>h);have VX:=V3.mono (X':=(·<w.heap.size)) kt (λi h=>by omega) (λi h=>.inl h);push_cast -dsimp[ig];have gi:∃m',m=m'+1:=⟨m-1,by omega⟩;obtain⟨m',nY⟩:=gi;have pV:out=if d<=c+1 then ck 4 l2 else aw d m' (c+1) (.many x 0 (-1)) l2:=by
    rw[<-dB,nY,aw,aG kp];dsimp only;split<;>rfl
   refine⟨by omega,λh8=>?_,λh8=>?_⟩
   ·refine aA (bX P4 4 (by decide)) ?_;rintro _ we ⟨rfl,Pe,ke⟩;have eX:=Pe.vD;push_cast -dsimp[ig];refine⟨by omega,⟨i+1,_,rfl,rfl,by omega,kS.trans ke (λi _ h=>h),.inr ⟨_,_,?_,by omega,Pe⟩⟩,by rw[tA,eX];omega⟩;rw[pV,if_pos (by omega)];rfl
   have eX:=RS.mu P4;have TN:=kS.size;push_cast -dsimp[ig];refine⟨by omega,⟨i+1,_,rfl,rfl,by omega,kS,.inl ⟨m',c+1,.many x 0 (-1),l2,?_,by omega,by omega,by omega,?_,P4⟩⟩,by rw[tA,eX];omega⟩
   ·rw[pV,if_neg (by omega)]
   simp only[aV];exact⟨_,_,_,rfl,by omega,BY,iz BX (by omega),VX⟩
  skip;have WH:=BY3.below b4 BY3.lt;have WG:=ZQ.below b4 ZQ.lt;have k4:=k3.trans (Kept.rb P3.le P3.lt b4) (λi _ h=>h);have V4:=V3.below b4;push_cast -dsimp;refine aA (fB P4 [43]) ?_;rintro _ w5 hT;rcases hT with ⟨_,iP,rfl,t4,l2,tz,lx,P5,kt⟩|⟨iP,rfl,P5,b5⟩
  ·have ew:bV l1=.ok ((),l2):=by rw[tz];exact bB lx
   have p7:l1.length=l2.length+1:=by rw[tz,List.length_cons]
   have kp:cF l1=.ok (some (1,-1),l2):=by
    unfold cF bE;rw[show bI [42] l1=false from eY,iP,if_neg (by decide),if_pos rfl,aG ew]
    rfl
   have BY5:=WH.kept kt (by omega);have BX5:=WG.kept kt (by omega);have k5:=k4.trans kt (λi _ h=>h);have V5:=V4.mono (X':=λb=>b<w.heap.size\/w0.heap.size<=b) kt (λi h=>by omega) (λi h=>h);push_cast -dsimp;refine aC BY5 (by simp) rfl ?_;intro w6 cB;have BY:aO w6 (w0.heap.size+1) 129 [.int .i64 6,.pointer none,.slice (some ⟨w0.heap.size,0,none⟩) 1 1,.int .i64 1,.int .i64 (-1)]:=cB.aN;have BX:=BX5.kept cB.kept (by omega);have P6:=P5.fx cB.kept (λi h=>by omega);have kS:=k5.trans cB.kept (λi h1 h2=>by omega);have VX:=V5.mono (X':=(·<w.heap.size)) cB.kept (λi h=>by omega) (λi h=>.inl h);push_cast -dsimp;have gi:∃m',m=m'+1:=⟨m-1,by omega⟩;obtain⟨m',nY⟩:=gi;have pV:out=if d<=c+1 then ck 4 l2 else aw d m' (c+1) (.many x 1 (-1)) l2:=by
    rw[<-dB,nY,aw,aG kp];dsimp only;split<;>rfl
   refine⟨by omega,λh8=>?_,λh8=>?_⟩
   ·refine aA (bX P6 4 (by decide)) ?_;rintro _ we ⟨rfl,Pe,ke⟩;have eX:=Pe.vD;push_cast -dsimp[ig];refine⟨by omega,⟨i+1,_,rfl,rfl,by omega,kS.trans ke (λi _ h=>h),.inr ⟨_,_,?_,by omega,Pe⟩⟩,by rw[tA,eX];omega⟩;rw[pV,if_pos (by omega)];rfl
   have eX:=RS.mu P6;have TN:=kS.size;push_cast -dsimp[ig];refine⟨by omega,⟨i+1,_,rfl,rfl,by omega,kS,.inl ⟨m',c+1,.many x 1 (-1),l2,?_,by omega,by omega,by omega,?_,P6⟩⟩,by rw[tA,eX];omega⟩
   ·rw[pV,if_neg (by omega)]
   simp only[aV];exact⟨_,_,_,rfl,by omega,BY,iz BX (by omega),VX⟩
  skip;have BY5:=WH.below b5 WH.lt;have BX5:=WG.below b5 WG.lt;have k5:=k4.trans (Kept.rb P4.le P4.lt b5) (λi _ h=>h);have V5:=V4.below b5;push_cast -dsimp;refine aA (fB P5 [63]) ?_;rintro _ w6 hT;rcases hT with ⟨_,nZ,rfl,t4,l2,tz,lx,P6,kt⟩|⟨nZ,rfl,P6,b6⟩
  ·have ew:bV l1=.ok ((),l2):=by rw[tz];exact bB lx
   have p7:l1.length=l2.length+1:=by rw[tz,List.length_cons]
   have kp:cF l1=.ok (some (0,1),l2):=by
    unfold cF bE;rw[show bI [42] l1=false from eY,show bI [43] l1=false from iP,nZ,if_neg (by decide),if_neg (by decide),if_pos rfl,aG ew]
    rfl
   have ZR:=BY5.kept kt (by omega);have BX6:=BX5.kept kt (by omega);have k6:=k5.trans kt (λi _ h=>h);have V6:=V5.mono (X':=λb=>b<w.heap.size\/w0.heap.size<=b) kt (λi h=>by omega) (λi h=>h);push_cast -dsimp;refine aC ZR (by simp) rfl ?_;intro w7 dN;have cB:=dN;have BY:aO w7 (w0.heap.size+1) 129 [.int .i64 6,.pointer none,.slice (some ⟨w0.heap.size,0,none⟩) 1 1,.int .i64 0,.int .i64 1]:=dN.aN;have BX:=BX6.kept cB.kept (by omega);have P7:=P6.fx cB.kept (λi h=>by omega);have kS:=k6.trans cB.kept (λi h1 h2=>by omega);have VX:=V6.mono (X':=(·<w.heap.size)) cB.kept (λi h=>by omega) (λi h=>.inl h);push_cast -dsimp;have gi:∃m',m=m'+1:=⟨m-1,by omega⟩;obtain⟨m',nY⟩:=gi;have pV:out=if d<=c+1 then ck 4 l2 else aw d m' (c+1) (.many x 0 1) l2:=by
    rw[<-dB,nY,aw,aG kp];dsimp only;split<;>rfl
   refine⟨by omega,λh8=>?_,λh8=>?_⟩
   ·refine aA (bX P7 4 (by decide)) ?_;rintro _ we ⟨rfl,Pe,ke⟩;have eX:=Pe.vD;push_cast -dsimp[ig];refine⟨by omega,⟨i+1,_,rfl,rfl,by omega,kS.trans ke (λi _ h=>h),.inr ⟨_,_,?_,by omega,Pe⟩⟩,by rw[tA,eX];omega⟩;rw[pV,if_pos (by omega)];rfl
   have eX:=RS.mu P7;have TN:=kS.size;push_cast -dsimp[ig];refine⟨by omega,⟨i+1,_,rfl,rfl,by omega,kS,.inl ⟨m',c+1,.many x 0 1,l2,?_,by omega,by omega,by omega,?_,P7⟩⟩,by rw[tA,eX];omega⟩
   ·rw[pV,if_neg (by omega)]
   simp only[aV];exact⟨_,_,_,rfl,by omega,BY,iz BX (by omega),VX⟩
  skip;have ZR:=BY5.below b6 BY5.lt;have BX6:=BX5.below b6 BX5.lt;have k6:=k5.trans (Kept.rb P5.le P5.lt b6) (λi _ h=>h);have V6:=V5.below b6;push_cast -dsimp;refine aA (fB P6 [123]) ?_;rintro _ w7 hT;rcases hT with ⟨_,hs4,rfl,t4,l2,tz,lx,P7,kt⟩|⟨hs4,rfl,P7,b7⟩
  ·have ew:bV l1=.ok ((),l2):=by rw[tz];exact bB lx
   have p7:l1.length=l2.length+1:=by rw[tz,List.length_cons]
   have zL:cF l1=Cae.pb bR (λr=>pr (some r)) l2:=by
    unfold cF bE;rw[show bI [42] l1=false from eY,show bI [43] l1=false from iP,show bI [63] l1=false from nZ,hs4,if_neg (by decide),if_neg (by decide),if_neg (by decide),if_pos rfl,aG ew]
   have Vu:∀e,bR l2=.error e->out=.error e:=λe he=>by
    rw[<-dB];refine gX hm ?_;rw[zL];unfold Cae.pb;rw[he]
   have BY7:=ZR.kept kt (by omega);have BX7:=BX6.kept kt (by omega);have k7:=k6.trans kt (λi _ h=>h);have V7:=V6.mono (X':=λb=>b<w.heap.size\/w0.heap.size<=b) kt (λi h=>by omega) (λi h=>h);push_cast -dsimp;refine aA (BM P7) ?_;rintro _ w8 ⟨k8,hN⟩;rw[show dp none eF l2=eF l2 from rfl]at hN
   have BY8:=BY7.kept k8 (by omega);have BX8:=BX7.kept k8 (by omega);have k8':=k7.trans k8 (λi _ h=>h);have V8:=V7.mono (X':=λb=>b<w.heap.size\/w0.heap.size<=b) k8 (λi h=>by omega) (λi h=>h);cases wH:eF l2 with
   | error e =>
    rw[wH]at hN;obtain⟨rfl,l3,P8⟩:=hN;have nB:=Vu e (by unfold bR Cae.pb;rw[wH]);push_cast -dsimp;refine aC BY8 (by simp) rfl ?_;intro w9 mC;have B9:aO w9 (w0.heap.size+1) 129 [.int .i64 6,.pointer none,.slice (some ⟨w0.heap.size,0,none⟩) 1 1,.int .i64 0,.int .i64 (-1)]:=mC.aN;have c9:w9.cell? ⟨w0.heap.size+1,3,none⟩=some (.int .i64 0):=B9.cell rfl;push_cast -dsimp[c9];refine aC B9 (by simp) rfl ?_;intro tq eQ;have k10:Kept (·=w0.heap.size+1) w8 tq:=mC.kept.trans eQ.kept (λi _ h=>h);have P10:=P8.fx k10 (λi h=>by omega);have Xj:=k8'.trans k10 (λi h1 h2=>by omega);push_cast -dsimp;refine aA (fB P10 [44]) ?_;rintro _ A8 hT;rcases hT with ⟨h0e,_⟩|⟨_,rfl,P11,b11⟩
    ·cases h0e
    have k11:=Xj.trans (Kept.rb P10.le P10.lt b11) (λi _ h=>h);push_cast -dsimp;refine aA (iS P11 [125]) ?_;rintro _ wm ⟨km,hM⟩;have kS:=Kept.trans k11 km (λi _ h=>h);rw[show ∀(e:Nat×Nat) l,dp (some e) (a7 [125]) l=.error e from λ_ _=>rfl]at hM
    obtain⟨rfl,lm,Pm⟩:=hM;push_cast -dsimp;refine⟨by omega,λh8=>?_,λh8=>?_⟩
    ·refine aA (bX Pm 4 (by decide)) ?_;rintro _ we ⟨rfl,Pe,ke⟩;have eX:=Pe.vD;push_cast -dsimp[ig];exact⟨by omega,⟨i+1,_,rfl,rfl,by omega,Kept.trans kS ke (λi _ h=>h),.inr ⟨_,_,nB,by omega,Pe⟩⟩,by rw[tA,eX];omega⟩
    have eX:=RS.vD Pm;push_cast -dsimp[ig];exact⟨by omega,⟨i+1,_,rfl,rfl,by omega,kS,.inr ⟨_,_,nB,by omega,Pm⟩⟩,by rw[tA,eX];omega⟩
   | ok q =>
    obtain⟨n1,l3⟩:=q;rw[wH]at hN;obtain⟨⟨rfl,aGt⟩,P8⟩:=hN;push_cast -dsimp;refine aC BY8 (by simp) rfl ?_;intro w9 mC;have B9:aO w9 (w0.heap.size+1) 129 [.int .i64 6,.pointer none,.slice (some ⟨w0.heap.size,0,none⟩) 1 1,.int .i64 n1,.int .i64 (-1)]:=mC.aN;have c9:w9.cell? ⟨w0.heap.size+1,3,none⟩=some (.int .i64 n1):=B9.cell rfl;push_cast -dsimp[c9];refine aC B9 (by simp) rfl ?_;intro tq eQ;have aAw:aO tq (w0.heap.size+1) 129 [.int .i64 6,.pointer none,.slice (some ⟨w0.heap.size,0,none⟩) 1 1,.int .i64 n1,.int .i64 n1]:=eQ.aN;have k10:Kept (·=w0.heap.size+1) w8 tq:=mC.kept.trans eQ.kept (λi _ h=>h);have Be:=BX8.kept k10 (by omega);have P10:=P8.fx k10 (λi h=>by omega);have Xj:=k8'.trans k10 (λi h1 h2=>by omega);have V10:=V8.mono (X':=λb=>b<w.heap.size\/w0.heap.size<=b) k10 (λi h=>by omega) (λi h=>h);push_cast -dsimp;refine aA (fB P10 [44]) ?_;rintro _ A8 hT;rcases hT with ⟨_,hs5,rfl,t8,l4,el8,h58,P11,Xl⟩|⟨hs5,rfl,P11,b11⟩
    ·have TE:bV l3=.ok ((),l4):=by rw[el8];exact bB h58
     have aAx:=aAw.kept Xl (by omega);have Bf:=Be.kept Xl (by omega);have k11:=Xj.trans Xl (λi _ h=>h);have V11:=V10.mono (X':=λb=>b<w.heap.size\/w0.heap.size<=b) Xl (λi h=>by omega) (λi h=>h);have SX:bR l2=bE (isKind 2) (Cae.pb eF λhi=>if hi<n1 then ck 2 else Cae.pb (a7 [125]) λ_=>pr ((n1:Int),(hi:Int))) (Cae.pb (a7 [125]) λ_=>pr ((n1:Int),-1)) l4:=by
      unfold bR;rw[aG wH]
      show (if bI [44] l3 then _ else _)=_
      rw[hs5,if_pos rfl,aG TE]
     push_cast -dsimp;refine aC aAx (by simp) rfl ?_;intro qO gj;have aEt:aO qO (w0.heap.size+1) 129 [.int .i64 6,.pointer none,.slice (some ⟨w0.heap.size,0,none⟩) 1 1,.int .i64 n1,.int .i64 (-1)]:=gj.aN;have aEp:=Bf.kept gj.kept (by omega);have rW:=P11.fx gj.kept (λi h=>by omega);have GZ:=k11.trans gj.kept (λi h1 h2=>by omega);have V12:=V11.mono (X':=λb=>b<w.heap.size\/w0.heap.size<=b) gj.kept (λi h=>by omega) (λi h=>h);obtain⟨t9,r9,el9⟩:=rW.cons;have aEE:=rW;rw[el9]at aEE;obtain⟨b9,o9,c9',hB9,aPL,aKY,c90,_⟩:=aEE.hd;have cb9:qO.cell? ⟨rb,0,none⟩=some (.slice (some ⟨b9,o9,none⟩) (r9.length+1) c9'):=hB9.cell rfl;push_cast -dsimp[cb9,c90];refine⟨by omega,λiY=>?_,λiY=>?_⟩
     ·have Kw:isKind 2 l4=true:=by
       have:t9.kind=2:=by omega
       rw[el9];simp[isKind,Cae.hd,this]
      have nA:bR l2=Cae.pb eF (λhi=>if hi<n1 then ck 2 else Cae.pb (a7 [125]) λ_=>pr ((n1:Int),(hi:Int))) l4:=by
       rw[SX];unfold bE;rw[Kw,if_pos rfl]
      refine aA (BM rW) ?_;rintro _ rA ⟨zO,Al⟩;rw[show dp none eF l4=eF l4 from rfl]at Al
      have aEu:=aEt.kept zO (by omega);have aIJ:=aEp.kept zO (by omega);have aG7:=GZ.trans zO (λi _ h=>h);have V13:=V12.mono (X':=λb=>b<w.heap.size\/w0.heap.size<=b) zO (λi h=>by omega) (λi h=>h);cases AJ:eF l4 with
      | error e =>
       rw[AJ]at Al;obtain⟨rfl,l5,wV⟩:=Al;have nB:=Vu e (by rw[nA];unfold Cae.pb;rw[AJ]);push_cast -dsimp;refine aC aEu (by simp) rfl ?_;intro ID DF;have IE:aO ID (w0.heap.size+1) 129 [.int .i64 6,.pointer none,.slice (some ⟨w0.heap.size,0,none⟩) 1 1,.int .i64 n1,.int .i64 0]:=DF.aN;have P14:=wV.fx DF.kept (λi h=>by omega);have J0:=aG7.trans DF.kept (λi h1 h2=>by omega);push_cast -dsimp;refine aX (λw'=>w'=ID.drew) mixed (by kernel_rfl) rfl ?_;have d3:ID.drew.cell? ⟨w0.heap.size+1,3,none⟩=some (.int .i64 n1):=IE.drew.cell rfl;have d4:ID.drew.cell? ⟨w0.heap.size+1,4,none⟩=some (.int .i64 0):=IE.drew.cell rfl;have PD:=P14.below (aS ID);have kD:=J0.trans (Kept.rb P14.le P14.lt (aS ID)) (λi _ h=>h);push_cast -dsimp[d3,d4];refine⟨λar h=>by rw[h,d4];exact rfl,λar h=>by rw[h,d3];exact rfl,λJL=>?_,λSg=>?_⟩
       ·refine aA (bX PD 2 (by decide)) ?_;rintro _ wf ⟨rfl,Pf,kf⟩;have kf':=kD.trans kf (λi _ h=>h);push_cast -dsimp;refine aA (iS Pf [125]) ?_;rintro _ wm ⟨km,hM⟩;have kS:=Kept.trans kf' km (λi _ h=>h);rw[show ∀(e:Nat×Nat) l,dp (some e) (a7 [125]) l=.error e from λ_ _=>rfl]at hM
        obtain⟨rfl,lm,Pm⟩:=hM;push_cast -dsimp;refine⟨by omega,λh8=>?_,λh8=>?_⟩
        ·refine aA (bX Pm 4 (by decide)) ?_;rintro _ we ⟨rfl,Pe,ke⟩;have eX:=Pe.vD;push_cast -dsimp[ig];exact⟨by omega,⟨i+1,_,rfl,rfl,by omega,Kept.trans kS ke (λi _ h=>h),.inr ⟨_,_,nB,by omega,Pe⟩⟩,by rw[tA,eX];omega⟩
        have eX:=RS.vD Pm;push_cast -dsimp[ig];exact⟨by omega,⟨i+1,_,rfl,rfl,by omega,kS,.inr ⟨_,_,nB,by omega,Pm⟩⟩,by rw[tA,eX];omega⟩
       ·
        refine aA (iS PD [125]) ?_
        rintro _ wm ⟨km,hM⟩
        have kS:=Kept.trans kD km (λi _ h=>h)
        rw[show ∀(e:Nat×Nat) l,dp (some e) (a7 [125]) l=.error e from λ_ _=>rfl]at hM
        obtain⟨rfl,lm,Pm⟩:=hM
        push_cast -dsimp
        refine⟨by omega,λh8=>?_,λh8=>?_⟩
        ·refine aA (bX Pm 4 (by decide)) ?_;rintro _ we ⟨rfl,Pe,ke⟩;have eX:=Pe.vD;push_cast -dsimp[ig];exact⟨by omega,⟨i+1,_,rfl,rfl,by omega,Kept.trans kS ke (λi _ h=>h),.inr ⟨_,_,nB,by omega,Pe⟩⟩,by rw[tA,eX];omega⟩
        have eX:=RS.vD Pm
        push_cast -dsimp[ig]
        exact⟨by omega,⟨i+1,_,rfl,rfl,by omega,kS,.inr ⟨_,_,nB,by omega,Pm⟩⟩,by rw[tA,eX];omega⟩
      | ok q =>
       obtain⟨n2,l5⟩:=q;rw[AJ]at Al;obtain⟨⟨rfl,aQA⟩,wV⟩:=Al;push_cast -dsimp;refine aC aEu (by simp) rfl ?_;intro ID DF;have IE:aO ID (w0.heap.size+1) 129 [.int .i64 6,.pointer none,.slice (some ⟨w0.heap.size,0,none⟩) 1 1,.int .i64 n1,.int .i64 n2]:=DF.aN;have aEq:=aIJ.kept DF.kept (by omega);have P14:=wV.fx DF.kept (λi h=>by omega);have J0:=aG7.trans DF.kept (λi h1 h2=>by omega);have V14:=V13.mono (X':=λb=>b<w.heap.size\/w0.heap.size<=b) DF.kept (λi h=>by omega) (λi h=>h);push_cast -dsimp;refine aX (λw'=>w'=ID.drew) mixed (by kernel_rfl) rfl ?_;have d3:ID.drew.cell? ⟨w0.heap.size+1,3,none⟩=some (.int .i64 n1):=IE.drew.cell rfl;have d4:ID.drew.cell? ⟨w0.heap.size+1,4,none⟩=some (.int .i64 n2):=IE.drew.cell rfl;have PD:=P14.below (aS ID);have kD:=J0.trans (Kept.rb P14.le P14.lt (aS ID)) (λi _ h=>h);have BYD:=IE.below (aS ID) IE.lt;have BXD:=aEq.below (aS ID) aEq.lt;have VB:=V14.below (aS ID);push_cast -dsimp[d3,d4];refine⟨λar h=>by rw[h,d4];exact rfl,λar h=>by rw[h,d3];exact rfl,λJL=>?_,λSg=>?_⟩
       ·have nB:=Vu (2,(Cae.hd l5).pos) (by rw[nA,aG AJ,if_pos (by omega)];rfl);refine aA (bX PD 2 (by decide)) ?_;rintro _ wf ⟨rfl,Pf,kf⟩;have kf':=kD.trans kf (λi _ h=>h);have Pf:RS rb B wf l5 (some (2,(Cae.hd l5).pos)):=Pf;push_cast -dsimp;refine aA (iS Pf [125]) ?_;rintro _ wm ⟨km,hM⟩;have kS:=Kept.trans kf' km (λi _ h=>h);rw[show ∀(e:Nat×Nat) l,dp (some e) (a7 [125]) l=.error e from λ_ _=>rfl]at hM
        obtain⟨rfl,lm,Pm⟩:=hM;push_cast -dsimp;refine⟨by omega,λh8=>?_,λh8=>?_⟩
        ·refine aA (bX Pm 4 (by decide)) ?_;rintro _ we ⟨rfl,Pe,ke⟩;have eX:=Pe.vD;push_cast -dsimp[ig];exact⟨by omega,⟨i+1,_,rfl,rfl,by omega,Kept.trans kS ke (λi _ h=>h),.inr ⟨_,_,nB,by omega,Pe⟩⟩,by rw[tA,eX];omega⟩
        have eX:=RS.vD Pm;push_cast -dsimp[ig];exact⟨by omega,⟨i+1,_,rfl,rfl,by omega,kS,.inr ⟨_,_,nB,by omega,Pm⟩⟩,by rw[tA,eX];omega⟩
       have NC:bR l2=Cae.pb (a7 [125]) (λ_=>pr ((n1:Int),(n2:Int))) l5:=by
        rw[nA,aG AJ,if_neg (by omega)]
       have Sq:∃lq,lq=l5:=⟨_,rfl⟩;obtain⟨lq,Sq⟩:=Sq;rw[<-Sq]at NC PD;refine aA (iS PD [125]) ?_;rintro _ wm ⟨km,hM⟩;have kS:=Kept.trans kD km (λi _ h=>h);cases Ky:a7 [125] lq with
       | ok q =>
        obtain⟨_,lm⟩:=q;rw[show dp none (a7 [125]) lq=a7 [125] lq from rfl,Ky]at hM
        obtain⟨rfl,Pm⟩:=hM;have oG:bR l2=.ok (((n1:Int),(n2:Int)),lm):=by rw[NC,aG Ky];rfl
        have kp:cF l1=.ok (some ((n1:Int),(n2:Int)),lm):=by rw[zL,aG oG];rfl
        have hlm:lm.length<=l2.length:=by
         obtain⟨pre,_,e,_⟩:=jn _ _ _ oG;rw[e,List.length_append];omega
        have BY:=aO.kept BYD km (by omega);have BX:=aO.kept BXD km (by omega);have VX:=VB.mono (X':=(·<w.heap.size)) km (λi h=>by omega) (λi h=>.inl h);push_cast -dsimp;have gi:∃m',m=m'+1:=⟨m-1,by omega⟩;obtain⟨m',nY⟩:=gi;have pV:out=if d<=c+1 then ck 4 lm else aw d m' (c+1) (.many x (n1:Int) (n2:Int)) lm:=by
         rw[<-dB,nY,aw,aG kp];dsimp only;split<;>rfl
        refine⟨by omega,λh8=>?_,λh8=>?_⟩
        ·refine aA (bX Pm 4 (by decide)) ?_;rintro _ we ⟨rfl,Pe,ke⟩;have eX:=Pe.vD;push_cast -dsimp[ig];refine⟨by omega,⟨i+1,_,rfl,rfl,by omega,kS.trans ke (λi _ h=>h),.inr ⟨_,_,?_,by omega,Pe⟩⟩,by rw[tA,eX];omega⟩;rw[pV,if_pos (by omega)];rfl
        have eX:=RS.mu Pm;have TN:=kS.size;push_cast -dsimp[ig];refine⟨by omega,⟨i+1,_,rfl,rfl,by omega,kS,.inl ⟨m',c+1,.many x (n1:Int) (n2:Int),lm,?_,by omega,by omega,by omega,?_,Pm⟩⟩,by rw[tA,eX];omega⟩
        ·rw[pV,if_neg (by omega)]
        simp only[aV];exact⟨_,_,_,rfl,by omega,BY,iz BX (by omega),VX⟩
       | error e =>
        rw[show dp none (a7 [125]) lq=a7 [125] lq from rfl,Ky]at hM
        obtain⟨rfl,lm,Pm⟩:=hM;have oG:bR l2=.error e:=by rw[NC];unfold Cae.pb;rw[Ky]
        have nB:out=.error e:=by
         rw[<-dB];refine gX hm ?_;rw[zL];unfold Cae.pb;rw[oG]
        push_cast -dsimp;refine⟨by omega,λh8=>?_,λh8=>?_⟩
        ·refine aA (bX Pm 4 (by decide)) ?_;rintro _ we ⟨rfl,Pe,ke⟩;have eX:=Pe.vD;push_cast -dsimp[ig];exact⟨by omega,⟨i+1,_,rfl,rfl,by omega,Kept.trans kS ke (λi _ h=>h),.inr ⟨_,_,nB,by omega,Pe⟩⟩,by rw[tA,eX];omega⟩
        have eX:=RS.vD Pm;push_cast -dsimp[ig];exact⟨by omega,⟨i+1,_,rfl,rfl,by omega,kS,.inr ⟨_,_,nB,by omega,Pm⟩⟩,by rw[tA,eX];omega⟩
     have Kw:isKind 2 l4=false:=by
      have:t9.kind≠2:=λe=>iY (by omega);rw[el9];simp[isKind,Cae.hd,this]
     have nA:bR l2=Cae.pb (a7 [125]) (λ_=>pr ((n1:Int),-1)) l4:=by
      rw[SX];unfold bE;rw[Kw,if_neg (by decide)]
     have VB:=V12;have Sq:∃lq,lq=l4:=⟨_,rfl⟩;obtain⟨lq,Sq⟩:=Sq;rw[<-Sq]at nA rW;refine aA (iS rW [125]) ?_;rintro _ wm ⟨km,hM⟩;have kS:=Kept.trans GZ km (λi _ h=>h);cases Ky:a7 [125] lq with
     | ok q =>
      obtain⟨_,lm⟩:=q;rw[show dp none (a7 [125]) lq=a7 [125] lq from rfl,Ky]at hM
      obtain⟨rfl,Pm⟩:=hM;have oG:bR l2=.ok (((n1:Int),(-1)),lm):=by rw[nA,aG Ky];rfl
      have kp:cF l1=.ok (some ((n1:Int),(-1)),lm):=by rw[zL,aG oG];rfl
      have hlm:lm.length<=l2.length:=by
       obtain⟨pre,_,e,_⟩:=jn _ _ _ oG;rw[e,List.length_append];omega
      have BY:=aO.kept aEt km (by omega);have BX:=aO.kept aEp km (by omega);have VX:=VB.mono (X':=(·<w.heap.size)) km (λi h=>by omega) (λi h=>.inl h);push_cast -dsimp;have gi:∃m',m=m'+1:=⟨m-1,by omega⟩;obtain⟨m',nY⟩:=gi;have pV:out=if d<=c+1 then ck 4 lm else aw d m' (c+1) (.many x (n1:Int) (-1)) lm:=by
       rw[<-dB,nY,aw,aG kp];dsimp only;split<;>rfl
      refine⟨by omega,λh8=>?_,λh8=>?_⟩
      ·refine aA (bX Pm 4 (by decide)) ?_;rintro _ we ⟨rfl,Pe,ke⟩;have eX:=Pe.vD;push_cast -dsimp[ig];refine⟨by omega,⟨i+1,_,rfl,rfl,by omega,kS.trans ke (λi _ h=>h),.inr ⟨_,_,?_,by omega,Pe⟩⟩,by rw[tA,eX];omega⟩;rw[pV,if_pos (by omega)];rfl
      have eX:=RS.mu Pm;have TN:=kS.size;push_cast -dsimp[ig];refine⟨by omega,⟨i+1,_,rfl,rfl,by omega,kS,.inl ⟨m',c+1,.many x (n1:Int) (-1),lm,?_,by omega,by omega,by omega,?_,Pm⟩⟩,by rw[tA,eX];omega⟩
      ·rw[pV,if_neg (by omega)]
      simp only[aV];exact⟨_,_,_,rfl,by omega,BY,iz BX (by omega),VX⟩
     | error e =>
      rw[show dp none (a7 [125]) lq=a7 [125] lq from rfl,Ky]at hM
      obtain⟨rfl,lm,Pm⟩:=hM;have oG:bR l2=.error e:=by rw[nA];unfold Cae.pb;rw[Ky]
      have nB:out=.error e:=by
       rw[<-dB];refine gX hm ?_;rw[zL];unfold Cae.pb;rw[oG]
      push_cast -dsimp;refine⟨by omega,λh8=>?_,λh8=>?_⟩
      ·refine aA (bX Pm 4 (by decide)) ?_;rintro _ we ⟨rfl,Pe,ke⟩;have eX:=Pe.vD;push_cast -dsimp[ig];exact⟨by omega,⟨i+1,_,rfl,rfl,by omega,Kept.trans kS ke (λi _ h=>h),.inr ⟨_,_,nB,by omega,Pe⟩⟩,by rw[tA,eX];omega⟩
      have eX:=RS.vD Pm;push_cast -dsimp[ig];exact⟨by omega,⟨i+1,_,rfl,rfl,by omega,kS,.inr ⟨_,_,nB,by omega,Pm⟩⟩,by rw[tA,eX];omega⟩
    have aAx:=aAw.below b11 aAw.lt;have Bf:=Be.below b11 Be.lt;have k11:=Xj.trans (Kept.rb P10.le P10.lt b11) (λi _ h=>h);have VB:=V10.below b11;have nA:bR l2=Cae.pb (a7 [125]) (λ_=>pr ((n1:Int),(n1:Int))) l3:=by
     unfold bR;rw[aG wH]
     show (if bI [44] l3 then _ else _)=_
     rw[show bI [44] l3=false from hs5,if_neg (by decide)]
    have Sq:∃lq,lq=l3:=⟨_,rfl⟩;obtain⟨lq,Sq⟩:=Sq;rw[<-Sq]at nA P11;push_cast -dsimp;refine aA (iS P11 [125]) ?_;rintro _ wm ⟨km,hM⟩;have kS:=Kept.trans k11 km (λi _ h=>h);cases Ky:a7 [125] lq with
    | ok q =>
     obtain⟨_,lm⟩:=q;rw[show dp none (a7 [125]) lq=a7 [125] lq from rfl,Ky]at hM
     obtain⟨rfl,Pm⟩:=hM;have oG:bR l2=.ok (((n1:Int),(n1:Int)),lm):=by rw[nA,aG Ky];rfl
     have kp:cF l1=.ok (some ((n1:Int),(n1:Int)),lm):=by rw[zL,aG oG];rfl
     have hlm:lm.length<=l2.length:=by
      obtain⟨pre,_,e,_⟩:=jn _ _ _ oG;rw[e,List.length_append];omega
     have BY:=aO.kept aAx km (by omega);have BX:=aO.kept Bf km (by omega);have VX:=VB.mono (X':=(·<w.heap.size)) km (λi h=>by omega) (λi h=>.inl h);push_cast -dsimp;have gi:∃m',m=m'+1:=⟨m-1,by omega⟩;obtain⟨m',nY⟩:=gi;have pV:out=if d<=c+1 then ck 4 lm else aw d m' (c+1) (.many x (n1:Int) (n1:Int)) lm:=by
      rw[<-dB,nY,aw,aG kp];dsimp only;split<;>rfl
     refine⟨by omega,λh8=>?_,λh8=>?_⟩
     ·refine aA (bX Pm 4 (by decide)) ?_;rintro _ we ⟨rfl,Pe,ke⟩;have eX:=Pe.vD;push_cast -dsimp[ig];refine⟨by omega,⟨i+1,_,rfl,rfl,by omega,kS.trans ke (λi _ h=>h),.inr ⟨_,_,?_,by omega,Pe⟩⟩,by rw[tA,eX];omega⟩;rw[pV,if_pos (by omega)];rfl
     have eX:=RS.mu Pm;have TN:=kS.size;push_cast -dsimp[ig];refine⟨by omega,⟨i+1,_,rfl,rfl,by omega,kS,.inl ⟨m',c+1,.many x (n1:Int) (n1:Int),lm,?_,by omega,by omega,by omega,?_,Pm⟩⟩,by rw[tA,eX];omega⟩
     ·rw[pV,if_neg (by omega)]
     simp only[aV];exact⟨_,_,_,rfl,by omega,BY,iz BX (by omega),VX⟩
    | error e =>
     rw[show dp none (a7 [125]) lq=a7 [125] lq from rfl,Ky]at hM
     obtain⟨rfl,lm,Pm⟩:=hM;have oG:bR l2=.error e:=by rw[nA];unfold Cae.pb;rw[Ky]
     have nB:out=.error e:=by
      rw[<-dB];refine gX hm ?_;rw[zL];unfold Cae.pb;rw[oG]
     push_cast -dsimp;refine⟨by omega,λh8=>?_,λh8=>?_⟩
     ·refine aA (bX Pm 4 (by decide)) ?_;rintro _ we ⟨rfl,Pe,ke⟩;have eX:=Pe.vD;push_cast -dsimp[ig];exact⟨by omega,⟨i+1,_,rfl,rfl,by omega,Kept.trans kS ke (λi _ h=>h),.inr ⟨_,_,nB,by omega,Pe⟩⟩,by rw[tA,eX];omega⟩
     have eX:=RS.vD Pm;push_cast -dsimp[ig];exact⟨by omega,⟨i+1,_,rfl,rfl,by omega,kS,.inr ⟨_,_,nB,by omega,Pm⟩⟩,by rw[tA,eX];omega⟩
  have aGx:out=.ok (x,l1):=by
   obtain⟨m',rfl⟩:∃m',m=m'+1:=⟨m-1,by omega⟩;rw[<-dB,aw];have hsn:cF l1=.ok (none,l1):=by
    unfold cF bE;rw[show bI [42] l1=false from eY,show bI [43] l1=false from iP,show bI [63] l1=false from nZ,show bI [123] l1=false from hs4,if_neg (by decide),if_neg (by decide),if_neg (by decide),if_neg (by decide)]
    rfl
   rw[aG hsn];rfl
  have BY7:=ZR.below b7 ZR.lt;have BX7:=BX6.below b7 BX6.lt;have k7:=k6.trans (Kept.rb P6.le P6.lt b7) (λi _ h=>h);have V7:=V6.below b7;rw[aGx];push_cast -dsimp[rr];exact⟨k7,V7.mono (X':=(·<w.heap.size)) (Kept.refl (λ_=>False) w7) (λ_ h=>h.elim) (λi h=>.inl h),P7⟩
 push_cast -dsimp[ig,rr];refine aA (iW P1) ?_;rintro _ w2 ⟨rfl,eW⟩;push_cast -dsimp[rr];rw[nB];exact⟨uJ.trans (Kept.rb P1.le P1.lt eW) (λi _ h=>h),⟨_,rfl⟩,_,P1.below eW⟩
def oC (a:Option Addr):List Value:=[.pointer a]
theorem sj (b:Option Addr):∀u∈oC b,u.oneCell'=true:=by
 intro u hu;simp[oC]at hu;subst hu;rfl
def rY (b:Nat):Option Addr:=some ⟨b,0,none⟩
structure Lv (S xb:Nat)(code:Int)(w:World)(sv:Value)(us:List (Option Addr))(acc:Option (List aI)):Prop where
 aN:aO w xb 129 [.int .i64 code,.pointer none,sv,.int .i64 0,.int .i64 0]
 own:Vc.Own S 58 1 oC w sv us
 ne:∀g,sv.ownBlock=some g->g≠xb
 acc:∀l,acc=some l->∃vs:List Nat,us=vs.map rY/\aU (λb=>b<S\/b=xb\/sv.ownBlock=some b) w vs l
 lo:S<=xb
def LV (S xb:Nat)(code:Int)(w:World)(us:List (Option Addr))(acc:Option (List aI)):Prop:=∃sv,Lv S xb code w sv us acc
theorem Lv.kept {S xb:Nat}{code:Int}{w w':World}{sv:Value}{us:List (Option Addr)}{acc:Option (List aI)}{Y:Nat->Prop}(h:Lv S xb code w sv us acc)(hk:Kept Y w w')(hY:∀i,Y i->i<S\/w.heap.size<=i):Lv S xb code w' sv us acc:=by
 obtain⟨hB,hO,dA,ha,ri⟩:=h;have hl:=hB.lt;refine⟨hB.kept hk (λhh=>by have:=hY _ hh;omega),hO.ak hk (λg hg hh=>by have:=hO.block g hg;have:=hY _ hh;omega),dA,λl he=>?_,ri⟩;obtain⟨vs,e,hv⟩:=ha l he;exact⟨vs,e,aU.mono (X:=λb=>(b<S\/b=xb\/sv.ownBlock=some b)\/w.heap.size<=b) hk (λi hi=>(hY i hi).imp .inl id) (λi hi=>.inl hi) (aU.top hv)⟩
theorem LV.kept {S xb:Nat}{code:Int}{w w':World}{us:List (Option Addr)}{acc:Option (List aI)}{Y:Nat->Prop}(h:LV S xb code w us acc)(hk:Kept Y w w')(hY:∀i,Y i->i<S\/w.heap.size<=i):LV S xb code w' us acc:=by
 obtain⟨sv,h⟩:=h;exact⟨sv,h.kept hk hY⟩
theorem LV.below {S xb:Nat}{code:Int}{w w':World}{us:List (Option Addr)}{acc:Option (List aI)}(h:LV S xb code w us acc)(hb:Below w.heap.size w w'):LV S xb code w' us acc :=
 h.kept (Kept.aJ hb (X:=λi=>w.heap.size<=i) (λi h1 h2=>h1)) (λi hi=>.inr hi)
theorem Lv.cut {S xb:Nat}{code:Int}{w:World}{sv:Value}{us:List (Option Addr)}{acc l9:Option (List aI)}(h:Lv S xb code w sv us acc)(he:∀l,l9=some l->acc=some l):Lv S xb code w sv us l9 :=
 ⟨h.aN,h.own,h.ne,λl hl=>h.acc l (he l hl),h.lo⟩
theorem LV.cut {S xb:Nat}{code:Int}{w:World}{us:List (Option Addr)}{acc l9:Option (List aI)}(h:LV S xb code w us acc)(he:∀l,l9=some l->acc=some l):LV S xb code w us l9:=by
 obtain⟨sv,h⟩:=h;exact⟨sv,h.cut he⟩
theorem LV.push {S xb T:Nat}{code:Int}{w3 w4 w5 w6:World}{us:List (Option Addr)}{acc:Option (List aI)}{sv IB:Value}{u:Option Addr}{l9:Option (List aI)}
  (h:Lv S xb code w3 sv us acc)
  (hT:S<=T/\xb<T/\∀g,sv.ownBlock=some g->g<T) (hT3:T<=w3.heap.size)
  (aj:qR w3 w4 58 [.pointer u]) (gR:Vc.Own S 58 1 oC w5 IB (us++[u])) (rh:Kept (λj=>sv.ownBlock=some j) w4 w5) (mT:∀g,IB.ownBlock=some g->sv.ownBlock=some g\/w4.heap.size<=g)
  (cB:Lz w5 w6 xb 129 [.int .i64 code,.pointer none,IB,.int .i64 0,.int .i64 0])
  (hu:∀l',l9=some l'->∃l x ub,acc=some l/\l'=l++[x]/\u=rY ub/\aV (·<T) w3 (bF ub) x):LV S xb code w6 (us++[u]) l9:=by
 obtain⟨hB,hO,dA,ha,ri⟩:=h;have z4:=aj.size;have JP:∀g,IB.ownBlock=some g->g≠xb:=λg hg=>by
  rcases mT g hg with h|h
  ·exact dA g h
  omega
 have kY:Kept (λi=>i=xb\/sv.ownBlock=some i) w3 w6:=((Kept.new (X:=λi=>i=xb\/sv.ownBlock=some i) aj).trans rh (λi _ h=>.inr h)).trans cB.kept (λi _ h=>.inl h);refine⟨IB,cB.aN,gR.ak cB.kept (λg hg h=>JP g hg h),JP,λl' hl'=>?_,ri⟩;obtain⟨l,x,ub,hl,rfl,rfl,hV⟩:=hu l' hl';obtain⟨vs,e,hv⟩:=ha l hl;refine⟨vs++[ub],by rw[e,List.map_append];rfl,?_⟩;have hX:∀i,(i<S\/i=xb\/IB.ownBlock=some i)->i<S\/i=xb\/sv.ownBlock=some i\/w4.heap.size<=i:=λi h=>by
  rcases h with h|h|h
  ·exact .inl h
  ·exact .inr (.inl h)
  rcases mT i h with h|h
  ·exact .inr (.inr (.inl h))
  exact .inr (.inr (.inr h))
 refine aU.snoc (aU.mono kY (λi h=>?_) (λi h=>?_) (aU.top hv)) (aV.mono kY (λi h=>?_) (λi h=>?_) hV.top)
 ·rcases h with h|h
  ·exact .inl (.inr (.inl h))
  exact .inl (.inr (.inr h))
 ·rcases hX i h with h|h|h|h
  ·exact .inl (.inl h)
  ·exact .inl (.inr (.inl h))
  ·exact .inl (.inr (.inr h))
  exact .inr (by omega)
 ·rcases h with h|h
  ·exact .inl (by omega)
  exact .inl (hT.2.2 i h)
 rcases hX i h with h|h|h|h
 ·exact .inl (by omega)
 ·exact .inl (by omega)
 ·exact .inl (hT.2.2 i h)
 exact .inr (by omega)
theorem Sl.aHl {X:Nat->Prop}{w:World}{v:Value}{vs:List Nat}(h:Sl X 1 (En oC) w v (vs.map rY)):Sl X 1 (En gg) w v vs:=by
 unfold Sl at h ⊢
 obtain⟨a,c,rfl,hc,h⟩:=h;refine⟨a,c,by rw[List.length_map],by rw[List.length_map]at hc;exact hc,λi x hx=>?_⟩;obtain⟨b,o,cs,ha,hb,je,aP,hr⟩:=h i (rY x) (by rw[List.getElem?_map,hx];rfl);exact⟨b,o,cs,ha,hb,je,aP,hr⟩
theorem LV.cat {S xb:Nat}{w:World}{us:List (Option Addr)}{l:List aI}(h:LV S xb 4 w us (some l)):aV (·<S) w (bF xb) (.cat l):=by
 obtain⟨sv,hB,hO,dA,ha,ri⟩:=h;obtain⟨vs,e,hv⟩:=ha l rfl;subst e;simp only[aV];exact⟨_,_,vs,rfl,by omega,hB,Sl.aHl (hO.sl.weaken (λi h=>h)),aU.mono (Kept.refl (λ_=>False) _) (λ_ h=>h.elim) (λi h=>.inl h) hv⟩
theorem LV.alt {S xb:Nat}{w:World}{us:List (Option Addr)}{l:List aI}(h:LV S xb 5 w us (some l)):aV (·<S) w (bF xb) (.alt l):=by
 obtain⟨sv,hB,hO,dA,ha,ri⟩:=h;obtain⟨vs,e,hv⟩:=ha l rfl;subst e;simp only[aV];exact⟨_,_,vs,rfl,by omega,hB,Sl.aHl (hO.sl.weaken (λi h=>h)),aU.mono (Kept.refl (λ_=>False) _) (λ_ h=>h.elim) (λi h=>.inl h) hv⟩
theorem LV.one {S xb:Nat}{code:Int}{w:World}{u:Option Addr}{l:List aI}(h:LV S xb code w [u] (some l)):∃x ub,l=[x]/\u=rY ub/\aV (·<S) w (bF ub) x:=by
 obtain⟨sv,hB,hO,dA,ha,ri⟩:=h;obtain⟨vs,e,hv⟩:=ha l rfl;match vs,e with
 | [ub],e =>
  have hl:=aU.len hv;obtain⟨x,rfl⟩:∃x,l=[x]:=List.length_eq_one_iff.1 (by simpa using hl.symm);simp only[aU,and_true]at hv;refine⟨x,ub,rfl,by simpa using e,aV.mono (Kept.refl (λ_=>False) _) (λ_ h=>h.elim) (λi h=>.inl h) hv⟩
theorem LV.len {S xb:Nat}{code:Int}{w:World}{us:List (Option Addr)}{l:List aI}(h:LV S xb code w us (some l)):us.length=l.length:=by
 obtain⟨sv,hB,hO,dA,ha,ri⟩:=h;obtain⟨vs,e,hv⟩:=ha l rfl;rw[e,List.length_map,aU.len hv]
end Go.Proofs.YtodeeahdhnjpkaaGreatDoor
end
