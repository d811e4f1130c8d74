/- Texts of this claim, merged: Ld3, Ld4, Ld5, Mn5, Mn6, Ap2, Mn7, Mn8, Mn9. -/
import Derived.Test.YtodeeahdhnjpkaaGreatDoorM14
set_option maxRecDepth 100000
set_option linter.unusedSimpArgs false
set_option linter.unusedVariables false
set_option maxHeartbeats 8000000
section
namespace Go.Proofs.YtodeeahdhnjpkaaGreatDoor
open Go.Vc Go.Proofs Go.RowKit Cae
attribute [local irreducible] cw ag aq a8 runK bD Sl Vc.Own vc aW cN ai
attribute [local irreducible] ny lH sU IA sb gd
theorem Lg {X:Nat->Prop}{w:World}{v:Value}{l:List Bool}(h:Sl X 1 (En cH) w v l)(hl:0<l.length):∃a c,v=.slice (some a) l.length c:=by
 obtain⟨a,c,rfl,_⟩:=h.shape;obtain⟨x,hx,_⟩:=bK (l:=l) (i:=0) hl;obtain⟨b,o,rfl,_⟩:=h.get hx;exact⟨_,c,rfl⟩
def TmC (x:aI)(lo hi:Int):Prop:=bQ (.many x lo hi)->wd x<=100000->∀(nm:bP),fZ nm->∀(X Xp Xf:Nat->Prop) (v pv fv:Value) (mb:Nat) (ps:List Int) (bl:List Bool) (t:Bool) (w:World),Gr w->aV X w v (.many x lo hi)->gH X w mb nm->Sl Xp 1 (En eV) w pv ps->Sl Xf 1 (En cH) w fv bl ->
 bl.length=ps.length+1->ps.length<=1000->(∀p∈ps,0<=p/\p<=1114111) ->
 bD Tryz.prog 75 [v,.map (some mb),pv,fv,.bool t] w λr w'=>Vc.Own w.heap.size 4 1 cH w' r (ny (aZ nm) ps t (.many x lo hi) bl)/\Below w.heap.size w w'
def TmI (hi:Int)(m k c:Nat):Prop:=(hi<0\/(m:Int)<=hi)/\(hi<0->k<=c)
theorem Us (x:aI)(lo hi:Int)(hx:PX x):TmC x lo hi:=by
 intro cD jS nm hr X Xp Xf v pv fv mb ps bl t w hg hV hN hP hF iL hlen oM;simp only[aV]at hV;obtain⟨b,sv,u,rfl,hb,hB,hs,hV⟩:=hV;simp only[bQ]at cD;obtain⟨aB0,aQs,aBV,aGi,hlh⟩:=cD;obtain⟨l,rfl⟩:∃l:Nat,lo=l:=⟨lo.toNat,by omega⟩;obtain⟨sa,sc,rfl,WA⟩:=hs.shape;obtain⟨pa,pc,rfl,nC⟩:=hP.shape;obtain⟨fa,fc,rfl⟩:=Lg hF (by omega);obtain⟨b1,o1,rfl,zJ,aP⟩:=hs.get (i:=0) (x:=u) rfl;have Fb:=hB.lt;have de:∀wx,Below w.heap.size w wx->wx.cell? ⟨b1,o1,none⟩=some (.pointer (some ⟨u,0,none⟩)):=λwx h=>by
  obtain⟨b2,o2,e,_,hc⟩:=(hs.below h).get (i:=0) (x:=u) rfl;cases e;simpa[gg,bF] using hc 0 _ rfl
 (refine cM Tryz.func75 rfl (by kernel_rfl) [.tmp 10] rfl ?_;push_cast -dsimp(maxSteps:=4000000) [Tryz.ntmps75]);refine aD ?_;push_cast -dsimp;refine aD ?_;push_cast -dsimp;refine fK (aD ?_);push_cast -dsimp;refine dr ?_;refine kR [11,12,13,21,22,23,24,25,26,27,28,29,30,31,32,33,34,35,36,37,38,39,40,41,42,43] (λz wx=>∃ov,z 11=ov/\Sl (λ_=>False) 1 (En cH) wx ov (lH (aZ nm) ps t x bl l)/\Below w.heap.size w wx) ?_ ?_
 ·refine aM [11,12,13,21,22,23,24,25,26,27,28,29,30,31,32,33,34,35,36,37,38,39,40,41,42,43] (λz wx=>∃(n:Nat) (ov:Value),z 12=.int .i64 n/\z 11=ov/\n<=l/\Sl (λ_=>False) 1 (En cH) wx ov (lH (aZ nm) ps t x bl n)/\Below w.heap.size w wx) (λz _=>l-(intOf (z 12)).toNat) ?_ ?_
  ·exact⟨0,_,rfl,rfl,Nat.zero_le _,by rw[VG];exact hF.weaken (λ_ h=>h.elim),Below.refl _ _⟩
  rintro z wx ⟨n,ov,F0,FZ,hn,hS,hb⟩;have EA:=hB.below hb Fb;have d2:wx.cell? ⟨b,2,none⟩=some (.slice (some ⟨b1,o1,none⟩) [u].length sc):=EA.cell rfl;have d3:wx.cell? ⟨b,3,none⟩=some (.int .i64 l):=EA.cell rfl;have c0:=de wx hb;have rL:=iT (has:=aZ nm) (t:=t) (x:=x) iL n;obtain⟨oa,oc,rfl⟩:=Lg hS (by omega);have zx:=hb.size;push_cast -dsimp[F0,FZ,d3];refine⟨λbZ=>?_,λgh=>?_⟩
  ·push_cast -dsimp[d2,c0,Nat.zero_mul,Nat.add_zero];refine aA (hx aB0 jS nm hr X Xp (λ_=>False) (bF u) _ _ mb ps _ t wx (hg.below hb) (aV.below hV hb) (hN.below hb) (hP.below hb) hS rL hlen oM) ?_;rintro r wy ⟨hR,cp⟩;have zy:=cp.size;obtain⟨ra,rc,rfl⟩:=hR.slice;have cO:ny (aZ nm) ps t x (lH (aZ nm) ps t x bl n)=lH (aZ nm) ps t x bl (n+1):=yn;rw[cO]at hR ⊢
   have aGS:=iT (has:=aZ nm) (t:=t) (x:=x) iL (n+1);have gz:=hb.trans (cp.mono zx);push_cast -dsimp;refine aA (Da _ _ (by omega) (by omega) (λ_=>False) (λ_=>False) _ _ wy (hS.below cp) (hR.sl.weaken (λ_ h=>h.elim))) ?_;rintro _ wz ⟨rfl,pY⟩;have aF0:=gz.trans (pY.mono gz.size);have hSz:=(hR.sl.weaken (X':=λ_=>False) (λ_ h=>h.elim)).below pY;push_cast -dsimp;refine⟨λhq=>?_,λhq=>?_⟩
   ·have e:lH (aZ nm) ps t x bl l=lH (aZ nm) ps t x bl (n+1):=by
     have:=Dg hq (l-n);rw[show n+(l-n)=l by omega]at this
     rw[this,hq]
    exact⟨_,rfl,by rw[e];exact hSz,aF0⟩
   exact⟨⟨by omega,by omega⟩,⟨n+1,_,rfl,rfl,by omega,hSz,aF0⟩,by rw[F0];simp only[intOf];omega⟩
  have e:n=l:=by omega
  subst e;exact⟨_,rfl,hS,hb⟩
 rintro z wx ⟨ov,FZ,hS,hb⟩;have rL:=iT (has:=aZ nm) (t:=t) (x:=x) iL l;have zx:=hb.size;obtain⟨oa,oc,rfl⟩:=Lg hS (by omega);have hST:=Sl.top (by decide) hS;push_cast -dsimp[FZ];refine aD ?_;push_cast -dsimp;refine cY iJ rfl rfl (by omega) ?_;intro w2 bT;have z2:=bT.size;have O2:=bT.own (base:=wx.heap.size) (k:=1) (n:=0) (enc:=cH) (l:=[]) rfl rfl (λ_=>rfl) (Nat.le_refl _) (by omega);push_cast -dsimp;refine jh (base:=wx.heap.size) (enc:=cH) (ys:=lH (aZ nm) ps t x bl l) iJ O2 (hS.below bT.below) (λn c h=>by cases h) (λx u hu=>by simp[cH]at hu;rw[hu];rfl) (by simp only[List.length_nil];omega) (by omega) ?_;intro v3 w3 O3 hg3 b3;rw[List.nil_append]at O3;obtain⟨ob,c3,rfl⟩:=yU O3 (by omega);have gw:wx.heap.size<=ob/\ob<w3.heap.size:=O3.block ob rfl;have bx3:=bT.below.trans (b3.mono (by omega));have bw3:=hb.trans (bx3.mono zx);have z3:=bx3.size;have aJP:=(hST.below bx3).weaken (X':=λi=>i=ob) (λi h=>by rw[h];exact .inr gw.1);have Ip:=hB.below bw3 Fb;have d3:w3.cell? ⟨b,3,none⟩=some (.int .i64 l):=Ip.cell rfl;have hcu:∀k,sb (sU (aZ nm) ps t x bl l k)<=bl.length:=λk=>by have:=Wl (sU (aZ nm) ps t x bl l k);rw[mq iL]at this;omega
 push_cast -dsimp;refine aD ?_;push_cast -dsimp[d3];refine aM [11,15,16,17,18,19,51,52,53,54,55,56,57,58,59,60,61,62,63,64,65,66,67,68,69,70,71,72,73,74,75,76,77,78,79,80,81,82,83,84,85,86,87,88,89,90,91,92,93,94,95,96,97,98,99,100,101,102,103,104,105,106,107,108,109,110,111,112,113] (λz wr=>∃(k m:Nat) (nv:Value),z 15=.int .i64 m/\z 11=nv/\m=l+k/\TmI hi m k (sb (sU (aZ nm) ps t x bl l k))/\Vc.Own wx.heap.size 4 1 cH wr (.slice (some ⟨ob,0,none⟩) (lH (aZ nm) ps t x bl l).length c3) (sU (aZ nm) ps t x bl l k)/\Sl (λi=>i=ob) 1 (En cH) wr nv (lH (aZ nm) ps t x bl m)/\Below w.heap.size w wr/\w3.heap.size<=wr.heap.size) (λz _=>bl.length+200-(intOf (z 15)).toNat) ?_ ?_
 ·exact⟨0,l,_,rfl,rfl,rfl,⟨hlh,λ_=>Nat.zero_le _⟩,by rw[VT];exact O3,aJP,bw3,Nat.le_refl _⟩
 rintro z wr ⟨k,m,nv,Vo,aFp,hm,⟨hkh,hkc⟩,hO,hS',oG,zr⟩;have hBr:=hB.below oG Fb;have d2:wr.cell? ⟨b,2,none⟩=some (.slice (some ⟨b1,o1,none⟩) [u].length sc):=hBr.cell rfl;have d4:wr.cell? ⟨b,4,none⟩=some (.int .i64 hi):=hBr.cell rfl;have c0:=de wr oG;have aGT:=iT (has:=aZ nm) (t:=t) (x:=x) iL m;have aLp:=mq (has:=aZ nm) (t:=t) (x:=x) (lo:=l) iL k;have aPR:=hcu k;obtain⟨na,nc,rfl⟩:=Lg hS' (by omega);by_cases mA:hi<0
 ·push_cast -dsimp[Vo,aFp,d4,mA];refine cY iJ rfl rfl (by omega) ?_;intro wa eL;have za:=eL.size;have Oa:=eL.own (base:=wr.heap.size) (k:=1) (n:=0) (enc:=cH) (l:=[]) rfl rfl (λ_=>rfl) (Nat.le_refl _) (by omega);push_cast -dsimp;refine jh (base:=wr.heap.size) (enc:=cH) (ys:=sU (aZ nm) ps t x bl l k) iJ Oa (hO.sl.below eL.below) (λn c h=>by cases h) (λx u hu=>by simp[cH]at hu;rw[hu];rfl) (by simp only[List.length_nil];omega) (by omega) ?_;intro vb wb Ob vh bb;rw[List.nil_append]at Ob;obtain⟨wg,cb,rfl⟩:=yU Ob (by omega);have Qt:=eL.below.trans (bb.mono (by omega));have Ec:=oG.trans (Qt.mono oG.size);have zb:=Qt.size;have d2b:wb.cell? ⟨b,2,none⟩=some (.slice (some ⟨b1,o1,none⟩) [u].length sc):=(hB.below Ec Fb).cell rfl;have c0b:=de wb Ec;push_cast -dsimp[d2b,c0b,Nat.zero_mul,Nat.add_zero];refine aA (hx aB0 jS nm hr X Xp (λi=>i=ob) (bF u) _ _ mb ps _ t wb (hg.below Ec) (aV.below hV Ec) (hN.below Ec) (hP.below Ec) (hS'.below Qt) aGT hlen oM) ?_;rintro r wc ⟨hR,bc⟩;have zc:=bc.size;have cO:ny (aZ nm) ps t x (lH (aZ nm) ps t x bl m)=lH (aZ nm) ps t x bl (m+1):=yn;rw[cO]at hR;have aGS:=iT (has:=aZ nm) (t:=t) (x:=x) iL (m+1);obtain⟨rg,rc,rfl⟩:=yU hR (by omega);have bwc:=Ec.trans (bc.mono Ec.size);have brc:=Qt.trans (bc.mono Qt.size);have Oc:=hO.below brc;have p6:=gw.2;push_cast -dsimp
  refine aM [18,19,83,84,85,86,87,88,89,90,91,92,93,94,95,96,97,98] (λz wz=>∃(q:Nat) (cur:List Bool),z 83=.int .i64 q/\q<=bl.length/\cur.length=bl.length/\(∀j,gd cur j↔gd (sU (aZ nm) ps t x bl l k) j\/(j<q/\gd (lH (aZ nm) ps t x bl (m+1)) j))/\Vc.Own wx.heap.size 4 1 cH wz (.slice (some ⟨ob,0,none⟩) (lH (aZ nm) ps t x bl l).length c3) cur/\Kept (λj=>j=ob) wc wz/\Below w.heap.size w wz) (λz _=>bl.length-(intOf (z 83)).toNat) ?_ ?_
  ·exact⟨0,_,rfl,Nat.zero_le _,by omega,λj=>⟨.inl,λh=>h.elim id (λh=>by omega)⟩,Oc,Kept.refl _ _,bwc⟩
  rintro z2 wz ⟨q,cur,h83,hq,lC,hc,Cx,rJ,pY⟩;have zz:=rJ.size;push_cast -dsimp[h83];refine⟨λaKM=>?_,λaKu=>?_⟩
  ·have hex:∃y d,(lH (aZ nm) ps t x bl (m+1))[q]?=some y/\cur[q]?=some d/\wz.cell? ⟨rg,q,none⟩=some (.bool y)/\wz.cell? ⟨ob,q,none⟩=some (.bool d):=by
    obtain⟨y,hy,_⟩:=bK (l:=lH (aZ nm) ps t x bl (m+1)) (i:=q) (by omega);obtain⟨d,hd,_⟩:=bK (l:=cur) (i:=q) (by omega);obtain⟨g1,o2,e1,_,S6⟩:=(hR.sl.kept rJ (λj h=>by rw[h];show ob<wb.heap.size;omega)).get hy
    cases e1;obtain⟨g2,o3,e2,_,Zj⟩:=Cx.sl.get hd;cases e2;exact⟨y,d,hy,hd,by simpa[cH] using S6 0 _ rfl,by simpa[cH] using Zj 0 _ rfl⟩
   obtain⟨y,d,hy,hd,y1,y2⟩:=hex;have bN:=D0 hc hd hy;cases d with
   | true =>
    push_cast -dsimp[y1,y2,Nat.mul_one,Nat.zero_add];refine⟨⟨by omega,by omega⟩,⟨by omega,by omega⟩,⟨by omega,by omega⟩,?_⟩;refine gW (i:=q) (y:=true) Cx rfl (by omega) rfl rfl ?_;intro wu SR GH oN;push_cast -dsimp;exact⟨⟨by omega,by omega⟩,⟨q+1,cur.set q (true),rfl,by omega,by rw[List.length_set];exact lC,bN,SR,rJ.trans GH (λ_ _ h=>h),pY.trans (GH.below (B:=w.heap.size) pY.size (λi h=>by omega))⟩,by rw[h83];simp only[intOf];omega⟩
   | false =>
    push_cast -dsimp[y1,y2,Nat.mul_one,Nat.zero_add];refine⟨⟨by omega,by omega⟩,⟨by omega,by omega⟩,⟨by omega,by omega⟩,?_⟩;refine gW (i:=q) (y:=y) Cx rfl (by omega) rfl rfl ?_;intro wu SR GH oN;push_cast -dsimp;exact⟨⟨by omega,by omega⟩,⟨q+1,cur.set q (y),rfl,by omega,by rw[List.length_set];exact lC,bN,SR,rJ.trans GH (λ_ _ h=>h),pY.trans (GH.below (B:=w.heap.size) pY.size (λi h=>by omega))⟩,by rw[h83];simp only[intOf];omega⟩
  have xm:cur=sU (aZ nm) ps t x bl l (k+1):=by
   rw[sU,<-hm];refine mc (by rw[DZ (by omega)];omega) λj=>?_;rw[hc,Jq (by omega)];exact⟨λh=>h.elim .inl (λh=>.inr h.2),λh=>h.elim .inl (λh=>.inr ⟨by have:=rZ h;omega,h⟩)⟩
  rw[xm]at Cx;have hSb:=(hS'.below brc).kept rJ (λ_ h=>h);have hSn:=hR.sl.kept rJ (λj h=>by rw[h];show ob<wb.heap.size;omega)
  have hSw:=(Ob.sl.below bc).kept rJ (λj h=>by rw[h];show ob<wr.heap.size;omega)
  have aLo:=mq (has:=aZ nm) (t:=t) (x:=x) (lo:=l) iL (k+1);push_cast -dsimp;refine aA (Da _ _ (by omega) (by omega) _ _ _ _ wz hSb hSn) ?_;rintro _ wu ⟨rfl,SY⟩;have zu:=SY.size;have Z1:=pY.trans (SY.mono pY.size);have Ou:=Cx.below SY;push_cast -dsimp;refine⟨λhq=>?_,λhq=>?_⟩
  ·have d4u:wu.cell? ⟨b,4,none⟩=some (.int .i64 hi):=(hB.below Z1 Fb).cell rfl;push_cast -dsimp[d4u,mA];refine aA (Da _ _ (by omega) (by omega) _ _ _ _ wu (hSw.below SY) Ou.sl) ?_;rintro _ wv ⟨rfl,hbv⟩;have Ov:=Ou.below hbv;have bwv:=Z1.trans (hbv.mono Z1.size);have zv:=hbv.size;have aJ9:=SY.trans (hbv.mono SY.size);push_cast -dsimp;refine⟨λhq2=>?_,λhq2=>?_⟩;·
    refine cC ?_
    push_cast -dsimp
    have OF:=Ov
    rw[ZD (hi:=hi) iL mA hq2]at OF
    exact⟨OF.mono zx,bwv⟩
   ·
    have hbN:=aJ9
    have zN:=hbN.size
    have aKQ:m<bl.length+200:=by
     rcases hkh with h|h
     ·have:=hkc h;omega
     omega
    exact⟨⟨by omega,by omega⟩,⟨k+1,m+1,_,rfl,rfl,by omega,⟨.inl mA,(λ_=>by have:=(Km (a:=sU (aZ nm) ps t x bl l k) (b:=lH (aZ nm) ps t x bl (l+k+1)) (by rw[aLp,iT iL])).2 (by rw[<-H5];exact hq2);rw[<-H5]at this;have:=hkc mA;omega)⟩,Ov,(hSn.weaken (X':=λi=>i=ob) (λi h=>by rw[h];show ob<wb.heap.size;omega)).below hbN,bwv,by omega⟩,by rw[Vo];simp only[intOf];omega⟩
  ·
   refine cC ?_
   push_cast -dsimp
   have OF:=Ou
   rw[VU (hi:=hi) iL (.inl mA) (by rw[<-hm];exact hq)]at OF
   exact⟨OF.mono zx,Z1⟩
 push_cast -dsimp[Vo,aFp,d4,mA];refine⟨λbZ=>?_,λgh=>?_⟩;·
  refine cY iJ rfl rfl (by omega) ?_
  intro wa eL
  have za:=eL.size
  have Oa:=eL.own (base:=wr.heap.size) (k:=1) (n:=0) (enc:=cH) (l:=[]) rfl rfl (λ_=>rfl) (Nat.le_refl _) (by omega)
  push_cast -dsimp
  refine jh (base:=wr.heap.size) (enc:=cH) (ys:=sU (aZ nm) ps t x bl l k) iJ Oa (hO.sl.below eL.below) (λn c h=>by cases h) (λx u hu=>by simp[cH]at hu;rw[hu];rfl) (by simp only[List.length_nil];omega) (by omega) ?_
  intro vb wb Ob vh bb
  rw[List.nil_append]at Ob
  obtain⟨wg,cb,rfl⟩:=yU Ob (by omega)
  have Qt:=eL.below.trans (bb.mono (by omega))
  have Ec:=oG.trans (Qt.mono oG.size)
  have zb:=Qt.size
  have d2b:wb.cell? ⟨b,2,none⟩=some (.slice (some ⟨b1,o1,none⟩) [u].length sc):=(hB.below Ec Fb).cell rfl
  have c0b:=de wb Ec
  push_cast -dsimp[d2b,c0b,Nat.zero_mul,Nat.add_zero]
  refine aA (hx aB0 jS nm hr X Xp (λi=>i=ob) (bF u) _ _ mb ps _ t wb (hg.below Ec) (aV.below hV Ec) (hN.below Ec) (hP.below Ec) (hS'.below Qt) aGT hlen oM) ?_
  rintro r wc ⟨hR,bc⟩
  have zc:=bc.size
  have cO:ny (aZ nm) ps t x (lH (aZ nm) ps t x bl m)=lH (aZ nm) ps t x bl (m+1):=yn
  rw[cO]at hR
  have aGS:=iT (has:=aZ nm) (t:=t) (x:=x) iL (m+1)
  obtain⟨rg,rc,rfl⟩:=yU hR (by omega)
  have bwc:=Ec.trans (bc.mono Ec.size)
  have brc:=Qt.trans (bc.mono Qt.size)
  have Oc:=hO.below brc
  have p6:=gw.2
  push_cast -dsimp
  refine aM [18,19,83,84,85,86,87,88,89,90,91,92,93,94,95,96,97,98] (λz wz=>∃(q:Nat) (cur:List Bool),z 83=.int .i64 q/\q<=bl.length/\cur.length=bl.length/\(∀j,gd cur j↔gd (sU (aZ nm) ps t x bl l k) j\/(j<q/\gd (lH (aZ nm) ps t x bl (m+1)) j))/\Vc.Own wx.heap.size 4 1 cH wz (.slice (some ⟨ob,0,none⟩) (lH (aZ nm) ps t x bl l).length c3) cur/\Kept (λj=>j=ob) wc wz/\Below w.heap.size w wz) (λz _=>bl.length-(intOf (z 83)).toNat) ?_ ?_
  ·exact⟨0,_,rfl,Nat.zero_le _,by omega,λj=>⟨.inl,λh=>h.elim id (λh=>by omega)⟩,Oc,Kept.refl _ _,bwc⟩
  rintro z2 wz ⟨q,cur,h83,hq,lC,hc,Cx,rJ,pY⟩
  have zz:=rJ.size
  push_cast -dsimp[h83]
  refine⟨λaKM=>?_,λaKu=>?_⟩
  ·have hex:∃y d,(lH (aZ nm) ps t x bl (m+1))[q]?=some y/\cur[q]?=some d/\wz.cell? ⟨rg,q,none⟩=some (.bool y)/\wz.cell? ⟨ob,q,none⟩=some (.bool d):=by
    obtain⟨y,hy,_⟩:=bK (l:=lH (aZ nm) ps t x bl (m+1)) (i:=q) (by omega);obtain⟨d,hd,_⟩:=bK (l:=cur) (i:=q) (by omega);obtain⟨g1,o2,e1,_,S6⟩:=(hR.sl.kept rJ (λj h=>by rw[h];show ob<wb.heap.size;omega)).get hy
    cases e1;obtain⟨g2,o3,e2,_,Zj⟩:=Cx.sl.get hd;cases e2;exact⟨y,d,hy,hd,by simpa[cH] using S6 0 _ rfl,by simpa[cH] using Zj 0 _ rfl⟩
   obtain⟨y,d,hy,hd,y1,y2⟩:=hex;have bN:=D0 hc hd hy;cases d with
   | true =>
    push_cast -dsimp[y1,y2,Nat.mul_one,Nat.zero_add];refine⟨⟨by omega,by omega⟩,⟨by omega,by omega⟩,⟨by omega,by omega⟩,?_⟩;refine gW (i:=q) (y:=true) Cx rfl (by omega) rfl rfl ?_;intro wu SR GH oN;push_cast -dsimp;exact⟨⟨by omega,by omega⟩,⟨q+1,cur.set q (true),rfl,by omega,by rw[List.length_set];exact lC,bN,SR,rJ.trans GH (λ_ _ h=>h),pY.trans (GH.below (B:=w.heap.size) pY.size (λi h=>by omega))⟩,by rw[h83];simp only[intOf];omega⟩
   | false =>
    push_cast -dsimp[y1,y2,Nat.mul_one,Nat.zero_add];refine⟨⟨by omega,by omega⟩,⟨by omega,by omega⟩,⟨by omega,by omega⟩,?_⟩;refine gW (i:=q) (y:=y) Cx rfl (by omega) rfl rfl ?_;intro wu SR GH oN;push_cast -dsimp;exact⟨⟨by omega,by omega⟩,⟨q+1,cur.set q (y),rfl,by omega,by rw[List.length_set];exact lC,bN,SR,rJ.trans GH (λ_ _ h=>h),pY.trans (GH.below (B:=w.heap.size) pY.size (λi h=>by omega))⟩,by rw[h83];simp only[intOf];omega⟩
  have xm:cur=sU (aZ nm) ps t x bl l (k+1):=by
   rw[sU,<-hm];refine mc (by rw[DZ (by omega)];omega) λj=>?_;rw[hc,Jq (by omega)];exact⟨λh=>h.elim .inl (λh=>.inr h.2),λh=>h.elim .inl (λh=>.inr ⟨by have:=rZ h;omega,h⟩)⟩
  rw[xm]at Cx
  have hSb:=(hS'.below brc).kept rJ (λ_ h=>h)
  have hSn:=hR.sl.kept rJ (λj h=>by rw[h];show ob<wb.heap.size;omega)
  have hSw:=(Ob.sl.below bc).kept rJ (λj h=>by rw[h];show ob<wr.heap.size;omega)
  have aLo:=mq (has:=aZ nm) (t:=t) (x:=x) (lo:=l) iL (k+1)
  push_cast -dsimp
  refine aA (Da _ _ (by omega) (by omega) _ _ _ _ wz hSb hSn) ?_
  rintro _ wu ⟨rfl,SY⟩
  have zu:=SY.size
  have Z1:=pY.trans (SY.mono pY.size)
  have Ou:=Cx.below SY
  push_cast -dsimp
  refine⟨λhq=>?_,λhq=>?_⟩
  ·have d4u:wu.cell? ⟨b,4,none⟩=some (.int .i64 hi):=(hB.below Z1 Fb).cell rfl;push_cast -dsimp[d4u,mA];have hbN:=SY;have zN:=hbN.size;have aKQ:m<bl.length+200:=by
    rcases hkh with h|h
    ·have:=hkc h;omega
    omega
   exact⟨⟨by omega,by omega⟩,⟨k+1,m+1,_,rfl,rfl,by omega,⟨.inr (by omega),(λh=>absurd h mA)⟩,Ou,(hSn.weaken (X':=λi=>i=ob) (λi h=>by rw[h];show ob<wb.heap.size;omega)).below hbN,Z1,by omega⟩,by rw[Vo];simp only[intOf];omega⟩
  ·
   refine cC ?_
   push_cast -dsimp
   have OF:=Ou
   rw[VU (hi:=hi) iL (.inr (by omega)) (by rw[<-hm];exact hq)]at OF
   exact⟨OF.mono zx,Z1⟩
 ·
  refine cC ?_
  push_cast -dsimp
  have OF:=hO
  rw[aHG (hi:=hi) iL (by omega)]at OF
  exact⟨OF.mono zx,oG⟩
end Go.Proofs.YtodeeahdhnjpkaaGreatDoor
end
section
namespace Go.Proofs.YtodeeahdhnjpkaaGreatDoor
open Go.Vc Go.Proofs Go.RowKit Cae
attribute [local irreducible] cw ag aq a8 runK bD Sl Vc.Own vc aW cN ai
attribute [local irreducible] ny gd
theorem Xo (x:aI)(lo hi:Int)(hx:PX x):PX (.many x lo hi):=by
 intro cD jS nm hr X Xp Xf v pv fv mb ps bl t w hg hV hN hP hF iL hlen oM;have XP:=hV;simp only[aV]at hV;obtain⟨b,sv,u,rfl,hb,hB,hs,hV⟩:=hV;have hpm:=oh (x:=x) (lo:=lo) (hi:=hi);obtain⟨pa,pc,rfl,nC⟩:=hP.shape;obtain⟨fa,fc,rfl,Pq⟩:=hF.shape;obtain⟨N1,AA,Al⟩:∃N1:Nat,(ps.length:Int)+1=(N1:Int)/\N1=bl.length:=⟨bl.length,by omega,rfl⟩
 (refine cM Tryz.func44 rfl (by kernel_rfl) [.tmp 10] rfl ?_;push_cast -dsimp(maxSteps:=4000000) [Tryz.ntmps44]);refine aD ?_;push_cast -dsimp;refine aD ?_;push_cast -dsimp[AA];refine⟨⟨by omega,by omega⟩,?_⟩;refine yG (z:=.bool false) iJ (by kernel_rfl) rfl (by omega) (by omega) ?_;intro w1 au;have z1:=au.size;have c1:=au.below;have O1:Vc.Own w.heap.size 4 1 cH w1 (.slice (some ⟨w.heap.size,0,none⟩) N1 N1) (List.replicate N1 false):=au.own (sC N1) (by simp) (λ_=>rfl) (Nat.le_refl _) (by omega);have iK:=hB.below c1 hB.lt;have d0:w1.cell? ⟨b,0,none⟩=some (.int .i64 6):=iK.cell rfl;push_cast -dsimp;refine aD ?_;push_cast -dsimp[d0];refine aA (Us x lo hi hx cD (by omega) nm hr X Xp Xf _ _ _ mb ps bl t w1 (hg.below c1) (aV.below XP c1) (hN.below c1) (hP.below c1) (hF.below c1) iL hlen oM) ?_;rintro r w2 ⟨hR,h2⟩;push_cast -dsimp;exact⟨hR.mono (by omega),c1.trans (h2.mono (by omega))⟩
mutual
theorem aCx:∀x,PX x
 | .one k=>aCz k
 | .any=>aCw
 | .iA=>Xm
 | .cat l=>aCy l (T4 l)
 | .alt l=>aCv l (T4 l)
 | .many x lo hi=>Xo x lo hi (aCx x)
theorem T4:∀(l:List aI) (x:aI),x∈l->PX x
 | [],x,h=>by cases h
 | y::l,x,h=>by
  have hy:=aCx y;rcases List.mem_cons.1 h with h|h
  ·rw[h];exact hy
  exact T4 l x h
end
theorem q7 (x:aI)(cD:bQ x)(jS:wd x<=100000)(nm:bP)(hr:fZ nm)(X Xp:Nat->Prop)(v pv:Value)(mb:Nat)(ps:List Int)(t:Bool)(w:World)(hg:Gr w)(hV:aV X w v x)(hN:gH X w mb nm)(hP:Sl Xp 1 (En eV) w pv ps)(hlen:ps.length<=1000)(oM:∀p∈ps,0<=p/\p<=1114111) :
  bD Tryz.prog 19 [v,.map (some mb),pv,.bool t] w λr w'=>(∃b:Bool,r=.bool b/\(b=true↔∃j,dK (aZ nm) ps false (tP t x) 0 j))/\Below w.heap.size w w':=by
 obtain⟨pa,pc,rfl,nC⟩:=hP.shape;obtain⟨N1,AA,Al⟩:∃N1:Nat,(ps.length:Int)+1=(N1:Int)/\N1=ps.length+1:=⟨ps.length+1,by omega,rfl⟩;refine Aj Tryz.func19 rfl (by kernel_rfl) [8] rfl ?_;push_cast -dsimp(maxSteps:=4000000) [Tryz.ntmps19];refine aD ?_;push_cast -dsimp;refine aD ?_;push_cast -dsimp[AA];refine⟨⟨by omega,by omega⟩,?_⟩;refine yG (z:=.bool false) iJ (by kernel_rfl) rfl (by omega) (by omega) ?_;intro w1 au;have z1:=au.size;have O1:Vc.Own w.heap.size 4 1 cH w1 (.slice (some ⟨w.heap.size,0,none⟩) N1 N1) (List.replicate N1 false):=au.own (sC N1) (by simp) (λ_=>rfl) (Nat.le_refl _) (by omega);push_cast -dsimp;refine aD ?_;push_cast -dsimp[Nat.mul_one,Nat.zero_add];refine⟨by omega,?_⟩;refine gW (i:=0) (y:=true) O1 rfl (by rw[List.length_replicate];omega) rfl rfl ?_;intro w2 O2 k2 z2;have c2:=au.below.trans (k2.below (B:=w.heap.size) (by omega) (λi h=>by omega));have p7:((List.replicate N1 false).set 0 true).length=ps.length+1:=by rw[List.length_set,List.length_replicate,Al]
 have hF2:=O2.sl.weaken (X':=λ_=>False) (λ_ h=>h.elim);have aJE:Sl (λ_=>False) 1 (En cH) w2 (.slice (some ⟨w.heap.size,0,none⟩) N1 N1) ((List.replicate N1 false).set 0 true):=hF2;push_cast -dsimp;refine aD ?_;push_cast -dsimp;refine aA (aCx x cD jS nm hr X Xp (λ_=>False) v _ _ mb ps ((List.replicate N1 false).set 0 true) t w2 (hg.below c2) (aV.below hV c2) (hN.below c2) (hP.below c2) aJE p7 hlen oM) ?_;rintro r w3 ⟨hR,h3⟩;have z3:=h3.size;have c3:=c2.trans (h3.mono c2.size);obtain⟨T,hT⟩:∃T,T=ny (aZ nm) ps t x ((List.replicate N1 false).set 0 true):=⟨_,rfl⟩;rw[<-hT]at hR;have hTl:T.length=ps.length+1:=by rw[hT];exact j7
 have hSt:(∃j,gd T j)↔∃j,dK (aZ nm) ps false (tP t x) 0 j:=by
  refine exists_congr λj=>?_;rw[hT,lA p7];constructor
  ·rintro⟨i,h1,h2⟩;rcases(s8 (by rw[List.length_replicate];omega)).1 h1 with ⟨rfl,_⟩|⟨_,h⟩
   ·exact h2
   exact absurd h nM
  exact λh=>⟨0,(s8 (by rw[List.length_replicate];omega)).2 (.inl ⟨rfl,rfl⟩),h⟩
 obtain⟨ra,rc,rfl⟩:=hR.slice;push_cast -dsimp;refine aM [8,11,25,26,27,28,29,30] (λz wx=>∃(i:Nat),z 25=.int .i64 i/\i<=T.length/\(∀j,j<i->¬gd T j)/\Below w3.heap.size w3 wx) (λz _=>T.length-(intOf (z 25)).toNat) ?_ ?_
 ·exact⟨0,rfl,Nat.zero_le _,λj h=>by omega,Below.refl _ _⟩
 rintro z wx ⟨i,h25,hi,gC,bC⟩;have Z2:=c3.trans (bC.mono c3.size);push_cast -dsimp[h25];refine⟨λbZ=>?_,λgh=>?_⟩
 ·have hex:∃y g o,T[i]?=some y/\ra=some ⟨g,o,none⟩/\wx.cell? ⟨g,o+i,none⟩=some (.bool y):=by
   obtain⟨y,hy,_⟩:=bK (l:=T) (i:=i) (by omega);obtain⟨g,o,e,_,hc⟩:=(hR.sl.below bC).get hy;exact⟨y,g,o,hy,e,by simpa[cH] using hc 0 _ rfl⟩
  obtain⟨y,g,o,hy,e,c0⟩:=hex;subst e;cases y with
  | true =>
   push_cast -dsimp[c0,Nat.mul_one];refine⟨⟨by omega,by omega⟩,⟨⟨true,rfl,λ_=>hSt.1 ⟨i,by unfold gd;exact hy⟩,λ_=>rfl⟩,Z2⟩⟩
  | false =>
   push_cast -dsimp[c0,Nat.mul_one];refine⟨⟨by omega,by omega⟩,⟨by omega,by omega⟩,⟨i+1,rfl,by omega,λj hj=>?_,bC⟩,by rw[h25];simp only[intOf];omega⟩;by_cases uI:j=i
   ·subst uI;unfold gd;rw[hy];simp
   exact gC j (by omega)
 refine cC ?_;push_cast -dsimp;refine⟨⟨false,rfl,λh=>(by cases h),λh=>?_⟩,Z2⟩;obtain⟨j,h⟩:=hSt.2 h;exact absurd h (gC j (by have:=rZ h;omega))
end Go.Proofs.YtodeeahdhnjpkaaGreatDoor
end
section
namespace Go.Vc
theorem Sl.Z9 {α:Type}{X:Nat->Prop}{R:List Value->α->Prop}{w:World}{a:Option Addr}{c n:Nat}{l:List α}(h:Sl X 1 R w (.slice a n c) l){i:Nat}(hi:i<=l.length) :
  Sl X 1 R w (.slice (if (c:Int)=(i:Int) then a else a.map (·.add (i*1))) (n-i) (c-i)) (l.drop i):=by
 unfold Sl at h ⊢
 obtain⟨a',c',e,hc,h⟩:=h;cases e;refine⟨_,_,by rw[List.length_drop],by rw[List.length_drop];omega,λj x hx=>?_⟩;rw[List.getElem?_drop]at hx;have bZ:=(List.getElem?_eq_some_iff.1 hx).1;obtain⟨b,o,cs,rfl,hX,hk,aP,hr⟩:=h (i+j) x hx;refine⟨b,o+i,cs,?_,hX,hk,λq u hu=>?_,hr⟩
 ·rw[if_neg (by omega)];simp only[Option.map_some,Nat.mul_one];rw[add_lit]
 have:=aP q u hu;rw[show o+i+j*1+q=o+(i+j)*1+q by omega]
 exact this
theorem Lh {t e:TypeId}{size:Nat}{a:Option Addr}{n c i:Nat}{L:VP}{other:Prop}{p}(hi:i<=n)(hn:n<=c)(h:L (.slice (if (c:Int)=(i:Int) then a else a.map (·.add (i*size))) (n-i) (c-i))):gm (some (.slice t)) (some (e,size)) (.slice a n c) (some (.int .i64 i)) none none L other p:=by
 show (0<=(i:Int)/\(i:Int)<=(n:Int)/\(n:Int)<=(c:Int))/\L _
 exact⟨by omega,h⟩
end Go.Vc
namespace Go.Proofs.YtodeeahdhnjpkaaGreatDoor
open Go.Vc Go.Proofs Go.RowKit Cae
attribute [local irreducible] cw ag aq a8 runK bD Sl Vc.Own vc aW cN ai
theorem U3 (us:List U)(hlen:us.length<=1000)(X:Nat->Prop)(v:Value)(w:World)(hv:Sl X 3 (En lL) w v us) :
  bD Tryz.prog 14 [v] w λr w'=>Vc.Own w.heap.size 3 1 eV w' r (an us)/\Below w.heap.size w w':=by
 obtain⟨a,c,rfl,hc⟩:=hv.shape;refine aE Tryz.func14 rfl (by kernel_rfl) [2] rfl ?_;push_cast -dsimp(maxSteps:=4000000) [Tryz.ntmps14];refine aM [3,5,8,9,10,11,12,13,14,15,16,17] (λz wx=>∃(i:Nat) (ov:Value),z 8=.int .i64 i/\z 3=ov/\i<=us.length/\Vc.Own w.heap.size 3 1 eV wx ov (an (us.take i))/\Below w.heap.size w wx) (λz _=>us.length-(intOf (z 8)).toNat) ?_ ?_
 ·exact⟨0,_,rfl,rfl,Nat.zero_le _,Vc.Own.nil (enc:=eV) _ _ (λ_=>rfl) _,Below.refl _ _⟩
 rintro z wx ⟨i,ov,h8,h3,hi,hO,hb⟩;have zx:=hb.size;push_cast -dsimp[h8,h3];refine⟨λbZ=>?_,λgh=>?_⟩
 ·obtain⟨u,hu,hum,_,ht⟩:=bK (l:=us) (i:=i) (by omega);have hex:∃g o,a=some ⟨g,o,none⟩/\aB wx ⟨g,o+i*3,none⟩ 0 3=some (lL u):=by
   obtain⟨g,o,e,_,aP⟩:=(hv.below hb).get hu;exact⟨g,o,e,bL _ 0 (λj u hu=>by simpa using aP j u hu)⟩
  obtain⟨g,o,e,c0⟩:=hex;subst e;unfold lL at c0;push_cast -dsimp[c0];refine⟨⟨by omega,by omega⟩,?_⟩;refine aR (z:=[.int .i64 0,.int .i64 0,.int .i64 0]) (by kernel_rfl) ?_;intro w2 bT;have z2:=bT.size;push_cast -dsimp;refine aF (n:=3) (by kernel_rfl) bT.aN rfl (by simp) (by simp[Value.oneCell']) ?_;intro w3 bO;have z3:=bO.size;have d0:w3.cell? ⟨wx.heap.size,0,none⟩=some (.int .i64 u.p):=bO.aN.cell rfl;have vu:Below wx.heap.size wx w3:=bT.below.trans (bO.kept.below (B:=wx.heap.size) (by omega) (λi h=>by omega));have O3:=hO.below vu;have X3:(an (us.take i)).length<=i:=by rw[eP,List.length_take];omega
  obtain⟨oa,oc,rfl⟩:=O3.slice;push_cast -dsimp[d0];refine cY bw rfl rfl (by omega) ?_;intro w5 bW;have z5:=bW.size;have gR:=O3.new bW;have b15:=vu.trans (bW.below.mono (by omega));push_cast -dsimp;refine ae (base:=w.heap.size) [(u.p:Int)] (enc:=eV) bw gR (by rfl) (λj v hv=>by rw[Nat.zero_add];exact bW.cell hv) (by simp[eV,Value.oneCell']) (by simp only[List.length_cons,List.length_nil];omega) (by omega) ?_;intro v6 w6 mR Sf JO;have jc:Below w.heap.size w w6:=(hb.trans (b15.mono hb.size)).trans ((Kept.grown (X:=λj=>w.heap.size<=j) Sf (λk hk=>(gR.block k hk).1)).below (by omega) (λ_ h=>h));push_cast -dsimp;refine⟨⟨by omega,by omega⟩,⟨i+1,_,rfl,rfl,by omega,?_,jc⟩,by rw[h8];simp only[intOf];omega⟩;have e:an (us.take (i+1))=an (us.take i)++[(u.p:Int)]:=by rw[ht];simp[an]
  rw[e];exact mR
 rw[List.take_of_length_le (by omega)]at hO;exact⟨hO,hb⟩
theorem HX {ps:List Int}{i n:Nat}(hi:i<=ps.length)(hn:n<i):∃p,ps[i-1-n]?=some p/\(ps.take i).reverse.take (n+1)=(ps.take i).reverse.take n++[p]:=by
 have hl:(ps.take i).length=i:=by rw[List.length_take];omega
 obtain⟨p,hp,_⟩:=bK (l:=ps) (i:=i-1-n) (by omega);refine⟨p,hp,?_⟩;rw[List.take_add_one];congr 1;rw[List.getElem?_reverse (by omega),hl,List.getElem?_take_of_lt (by omega),hp];rfl
theorem Yf (ps:List Int)(hlen:ps.length<=1000)(i:Nat)(hi:i<=ps.length)(X:Nat->Prop)(v:Value)(w:World)(hv:Sl X 1 (En eV) w v ps) :
  bD Tryz.prog 41 [v,.int .i64 i] w λr w'=>(∃bv fv,r=.tuple #[bv,fv]/\Vc.Own w.heap.size 3 1 eV w' bv (ps.take i).reverse/\Sl X 1 (En eV) w' fv (ps.drop i))/\Below w.heap.size w w':=by
 obtain⟨a,c,rfl,hc⟩:=hv.shape;have hl:(ps.take i).reverse.length=i:=by rw[List.length_reverse,List.length_take];omega
 refine aE Tryz.func41 rfl (by kernel_rfl) [4,5] rfl ?_;push_cast -dsimp(maxSteps:=4000000) [Tryz.ntmps41];refine⟨⟨by omega,by omega⟩,?_⟩;refine aM [4,6,9,10,11,12,13,14,15,16,17,18,19] (λz wx=>∃(n:Nat) (ov:Value),z 6=.int .i64 ((i:Int)-1-n)/\z 4=ov/\n<=i/\Vc.Own w.heap.size 3 1 eV wx ov ((ps.take i).reverse.take n)/\Below w.heap.size w wx) (λz _=>(intOf (z 6)+1).toNat) ?_ ?_
 ·exact⟨0,_,by show Value.int .i64 ((i:Int)-1)=_;simp,rfl,Nat.zero_le _,Vc.Own.nil (enc:=eV) _ _ (λ_=>rfl) _,Below.refl _ _⟩
 rintro z wx ⟨n,ov,h6,h4,hn,hO,hb⟩;have zx:=hb.size;push_cast -dsimp[h6,h4];refine⟨λgh=>?_,λbZ=>?_⟩
 ·obtain⟨p,hp,rp⟩:=HX hi (show n<i by omega)
  have hex:∃g o,a=some ⟨g,o,none⟩/\wx.cell? ⟨g,o+(i-1-n),none⟩=some (.int .i64 p):=by
   obtain⟨g,o,e,_,aP⟩:=(hv.below hb).get hp;exact⟨g,o,e,by simpa[eV] using aP 0 _ rfl⟩
  obtain⟨g,o,e,c0⟩:=hex;subst e;have tn:((i:Int)-1-n).toNat=i-1-n:=by omega
  have NN:((ps.take i).reverse.take n).length=n:=by rw[List.length_take,hl];omega
  obtain⟨oa,oc,rfl⟩:=hO.slice;push_cast -dsimp[c0,tn,Nat.mul_one];refine⟨⟨by omega,by omega⟩,?_⟩;refine cY bw rfl rfl (by omega) ?_;intro w5 bW;have z5:=bW.size;have gR:=hO.new bW;push_cast -dsimp;refine ae (base:=w.heap.size) [p] (enc:=eV) bw gR (by rfl) (λj v hv=>by rw[Nat.zero_add];exact bW.cell hv) (by simp[eV,Value.oneCell']) (by simp only[List.length_cons,List.length_nil];omega) (by omega) ?_;intro v6 w6 mR Sf JO;have jc:Below w.heap.size w w6:=(hb.trans (bW.below.mono hb.size)).trans ((Kept.grown (X:=λj=>w.heap.size<=j) Sf (λk hk=>(gR.block k hk).1)).below (by omega) (λ_ h=>h));rw[<-rp]at mR;push_cast -dsimp;exact⟨⟨by omega,by omega⟩,⟨n+1,_,by congr 1;omega,rfl,by omega,mR,jc⟩,by rw[h6];simp only[intOf];omega⟩
 have hni:n=i:=by omega
 rw[hni,List.take_of_length_le (by omega)]at hO;have hS:=(hv.below hb).Z9 hi;have bxd:Below wx.heap.size wx wx.drew:=ma wx;refine aX (λar=>Below wx.heap.size wx ar) mixed (by kernel_rfl) bxd ?_;push_cast -dsimp;obtain⟨fv,hfv⟩:∃fv,fv=Value.slice (if (c:Int)=(i:Int) then a else a.map (·.add (i*1))) (ps.length-i) (c-i):=⟨_,rfl⟩
 rw[<-hfv]at hS;refine Lh hi hc ?_;rw[<-hfv];push_cast -dsimp;exact⟨⟨_,_,rfl,hO.below bxd,hS.below bxd⟩,hb.trans (bxd.mono hb.size)⟩
end Go.Proofs.YtodeeahdhnjpkaaGreatDoor
end
section
namespace Cae
open Classical
noncomputable def eU (P:Int->Prop)(pts:List Int)(back:Bool)(i:Nat):Option Nat:=match cz pts back i with
 | some (j,p)=>if P p then some j else none
 | none=>none
theorem BT {P:Int->Prop}{pts:List Int}{back:Bool}{l:List Nat}{j:Nat}:j∈l.filterMap (eU P pts back)↔∃i∈l,∃p,cz pts back i=some (j,p)/\P p:=by
 rw[List.mem_filterMap];refine exists_congr λi=>and_congr Iff.rfl ?_;unfold eU;cases h:cz pts back i with
 | none=>simp
 | some q =>
  obtain⟨k,p⟩:=q;by_cases hp:P p
  ·simp[hp];constructor
   ·intro hkj;exact⟨p,⟨hkj,rfl⟩,hp⟩
   rintro⟨p',⟨h1,_⟩,_⟩;exact h1
  simp[hp]
end Cae
namespace Go.Proofs.YtodeeahdhnjpkaaGreatDoor
open Go.Vc Go.Proofs Go.RowKit Cae
attribute [local irreducible] cw ag aq a8 runK bD Sl Vc.Own vc aW cN ai
def vU (x:aI):Prop:=bQ x->wd x<=100000->∀(X:Nat->Prop) (w:World) (rb mb:Nat) (us:List U) (nm:bP) (back:Bool),Mr X w rb mb us nm back->∀(v:Value),aV X w v x->∀(fv:Value) (from_:List Nat),Sl (λ_=>False) 1 (En br) w fv from_->Arg fv->from_.Pairwise (·<·)->(∀i∈from_,i<=us.length) ->
 bD Tryz.prog 45 [.pointer (some ⟨rb,0,none⟩),v,fv] w λr w'=>Vc.Own w.heap.size 3 1 br w' r (jf us.length (dK (aZ nm) (an us) back x) from_)/\Below w.heap.size w w'
theorem Aw {a b:List Nat}(h:bM a=bM b):a=b:=by
 have:=congrArg (List.map Int.toNat) h;unfold bM at this;rw[List.map_map,List.map_map]at this;have e:(Int.toNat∘λn:Nat=>(n:Int))=id:=funext λn=>by simp
 rw[e,List.map_id,List.map_id]at this;exact this
theorem uB {N:Nat}{R:Nat->Nat->Prop}{from_ L m1 m2:List Nat}(h1:bM m1=((bM L).mergeSort λx y=>decide (x<=y)))(h2:bM m2=Lib.compact (bM m1))(hm:∀j,j∈L↔j<=N/\∃i∈from_,R i j):m2=jf N R from_:=by
 obtain⟨m,e,hp,uL⟩:=qG L;rw[<-h1,<-h2]at e;have e:=Aw e;subst e;exact X7 hp λj=>by rw[uL j,hm j]
theorem jy {L m1:List Nat}(h1:bM m1=((bM L).mergeSort λx y=>decide (x<=y))):m1.length=L.length:=by
 have:=congrArg List.length h1;rw[(List.mergeSort_perm _ _).length_eq]at this;simpa[bM] using this
theorem QK:vU .iA:=by
 intro cD jS X w rb mb us nm back h v hV fv from_ hf ha hr hle;have hlen:=h.len;have sQ:=cZ hr hle;simp only[aV]at hV;obtain⟨b,rfl,hb,hB⟩:=hV;obtain⟨fa,fc,rfl,Pq⟩:=hf.shape;have d0:w.cell? ⟨b,0,none⟩=some (.int .i64 3):=hB.cell rfl;refine aE Tryz.func45 rfl (by kernel_rfl) [6] rfl ?_;push_cast -dsimp(maxSteps:=4000000) [Tryz.ntmps45];push_cast -dsimp[d0];refine aM [7,13,14,15,70,71,72,73,74,75,76,77,78,79,80,81,82,83,84,85,86] (λz wx=>∃(i:Nat) (ov:Value),z 70=.int .i64 i/\z 7=ov/\i<=from_.length/\Vc.Own w.heap.size 3 1 br wx ov ((from_.take i).filter λa=>(cz (an us) back a).isNone)/\Below w.heap.size w wx) (λz _=>from_.length-(intOf (z 70)).toNat) ?_ ?_
 ·exact⟨0,_,rfl,rfl,Nat.zero_le _,Vc.Own.nil (enc:=br) _ _ (λ_=>rfl) _,Below.refl _ _⟩
 intro z wx hI;obtain⟨i,ov,h70,h7,hi,hO,bC⟩:=hI;have zx:=bC.size;push_cast -dsimp[h70,h7];refine⟨λbZ=>?_,λgh=>?_⟩
 ·obtain⟨a,hx,lO,_,ht⟩:=bK (l:=from_) (i:=i) (by omega);obtain⟨b1,o,rfl,zJ,aP⟩:=(hf.below bC).get hx;have c0:wx.cell? ⟨b1,o+i,none⟩=some (.int .i64 (a:Int)):=by simpa[br] using aP 0 _ rfl
  push_cast -dsimp[c0,Nat.mul_one];refine⟨⟨by omega,by omega⟩,?_⟩;refine aA (KM (h.below bC) a (hle a lO)) ?_;rintro r wy ⟨hS,cp⟩;have zy:=cp.size;have gz:=bC.trans (cp.mono zx);obtain⟨oa,oc,rfl⟩:=hO.slice;have oq:=hO.below cp;have hlL:((from_.take i).filter λa=>(cz (an us) back a).isNone).length<=i:=by
   have:=List.length_filter_le (λa=>(cz (an us) back a).isNone) (from_.take i);rw[List.length_take]at this;omega
  rcases hS with ⟨j,p,cO,rfl⟩|⟨cO,rfl⟩
  ·push_cast -dsimp;refine⟨λmA=>by omega,λ_=>⟨⟨by omega,by omega⟩,⟨i+1,_,rfl,rfl,by omega,?_,gz⟩,by rw[h70];simp only[intOf];omega⟩⟩;rw[ht,List.filter_append,List.filter_cons_of_neg (by simp[cO]),List.filter_nil,List.append_nil];exact oq
  push_cast -dsimp;refine cY bw rfl rfl (by omega) ?_;intro w5 bW;have z5:=bW.size;have gR:=oq.new bW;push_cast -dsimp;refine ae (base:=w.heap.size) [a] (enc:=br) bw gR (by rfl) (λj u hu=>by rw[Nat.zero_add];exact bW.cell hu) (by simp[br,Value.oneCell']) (by simp only[List.length_cons,List.length_nil];omega) (by omega) ?_;intro v6 w6 mR Sf JO;have jc:Below w.heap.size w w6:=(gz.trans (bW.below.mono (by omega))).trans ((Kept.grown (X:=λj=>w.heap.size<=j) Sf (λk hk=>(gR.block k hk).1)).below (by omega) (λ_ h=>h));push_cast -dsimp;refine⟨⟨by omega,by omega⟩,⟨i+1,_,rfl,rfl,by omega,?_,jc⟩,by rw[h70];simp only[intOf];omega⟩;rw[ht,List.filter_append,List.filter_cons_of_pos (by simp[cO]),List.filter_nil];exact mR
 rw[List.take_of_length_le (by omega)]at hO;have hlL:=List.length_filter_le (λa=>(cz (an us) back a).isNone) from_;have uL:∀j,j∈(from_.filter λa=>(cz (an us) back a).isNone)↔j<=us.length/\∃i∈from_,dK (aZ nm) (an us) back .iA i j:=λj=>by
  rw[List.mem_filter,Option.isNone_iff_eq_none];simp only[dK];constructor
  ·rintro⟨h1,h2⟩;exact⟨hle j h1,j,h1,rfl,h2⟩
  rintro⟨_,i,h1,rfl,h2⟩;exact⟨h1,h2⟩
 have Fo:=bC;have zF:=Fo.size;refine aA (kH (from_.filter λa=>(cz (an us) back a).isNone) (by omega) (λ_=>False) _ (wx) (hO.sl.weaken (λ_ h=>h.elim)) hO.dH) ?_;rintro vc wc ⟨xg,Fp⟩;have zc:=Fp.size;push_cast -dsimp;refine aA (kE (from_.filter λa=>(cz (an us) back a).isNone) (by omega) _ vc wc xg) ?_;rintro _ wd ⟨⟨m1,gi,Hu⟩,GG⟩;have zd:=GG.size;have sQ:=jy gi;push_cast -dsimp;refine aA (fg m1 (by omega) _ vc wd Hu) ?_;rintro vr we ⟨⟨m2,dB,nB,tC⟩,fL⟩;have Sd:=uB gi dB uL;subst Sd;push_cast -dsimp;exact⟨nB.mono zF,Fo.trans ((Fp.mono zF).trans ((GG.below (by omega) (λi h=>by have:=xg.block i h;omega)).trans (fL.below (by omega) (λi h=>by have:=xg.block i h;omega))))⟩
theorem WM:vU .any:=by
 intro cD jS X w rb mb us nm back h v hV fv from_ hf ha hr hle;have hlen:=h.len;have sQ:=cZ hr hle;simp only[aV]at hV;obtain⟨b,rfl,hb,hB⟩:=hV;obtain⟨fa,fc,rfl,Pq⟩:=hf.shape;have d0:w.cell? ⟨b,0,none⟩=some (.int .i64 2):=hB.cell rfl;refine aE Tryz.func45 rfl (by kernel_rfl) [6] rfl ?_;push_cast -dsimp(maxSteps:=4000000) [Tryz.ntmps45];push_cast -dsimp[d0];refine aM [7,9,10,11,33,34,35,36,37,38,39,40,41,42,43,44,45,46,47,48,49,50,51,52,53,54,55,56,57,58,59,60,61,62,63,64,65] (λz wx=>∃(i:Nat) (ov:Value),z 33=.int .i64 i/\z 7=ov/\i<=from_.length/\Vc.Own w.heap.size 3 1 br wx ov ((from_.take i).filterMap (eU (λ_=>True) (an us) back))/\Below w.heap.size w wx) (λz _=>from_.length-(intOf (z 33)).toNat) ?_ ?_
 ·exact⟨0,_,rfl,rfl,Nat.zero_le _,Vc.Own.nil (enc:=br) _ _ (λ_=>rfl) _,Below.refl _ _⟩
 intro z wx hI;obtain⟨i,ov,Zg,h7,hi,hO,bC⟩:=hI;have zx:=bC.size;have EA:=hB.below bC hB.lt;have f0:wx.cell? ⟨b,0,none⟩=some (.int .i64 2):=EA.cell rfl;push_cast -dsimp[Zg,h7];refine⟨λbZ=>?_,λgh=>?_⟩
 ·obtain⟨a,hx,lO,_,ht⟩:=bK (l:=from_) (i:=i) (by omega);obtain⟨b1,o,rfl,zJ,aP⟩:=(hf.below bC).get hx;have c0:wx.cell? ⟨b1,o+i,none⟩=some (.int .i64 (a:Int)):=by simpa[br] using aP 0 _ rfl
  push_cast -dsimp[c0,Nat.mul_one];refine⟨⟨by omega,by omega⟩,?_⟩;refine aA (KM (h.below bC) a (hle a lO)) ?_;rintro r wy ⟨hS,cp⟩;have zy:=cp.size;have gz:=bC.trans (cp.mono zx);obtain⟨oa,oc,rfl⟩:=hO.slice;have oq:=hO.below cp;have hBy:=EA.below cp EA.lt;have g0:wy.cell? ⟨b,0,none⟩=some (.int .i64 2):=hBy.cell rfl;have hlL:((from_.take i).filterMap (eU (λ_=>True) (an us) back)).length<=i:=by
   have:=List.length_filterMap_le (eU (λ_=>True) (an us) back) (from_.take i);rw[List.length_take]at this;omega
  have tk:(from_.take (i+1)).filterMap (eU (λ_=>True) (an us) back)=(from_.take i).filterMap (eU (λ_=>True) (an us) back)++(eU (λ_=>True) (an us) back a).toList:=by
   rw[ht,List.filterMap_append];exact congrArg _ (by cases hq:eU (λ_=>True) (an us) back a<;>simp[List.filterMap_cons,hq])
  rcases hS with ⟨j,p,cO,rfl⟩|⟨cO,rfl⟩
  ·skip;have hF:eU (λ_=>True) (an us) back a=some j:=by unfold eU;rw[cO];simp
   push_cast -dsimp[g0];refine⟨λ_=>?_,λhn=>by omega⟩;refine cY bw rfl rfl (by omega) ?_;intro w5 bW;have z5:=bW.size;have ft:=gz;have zb3:=ft.size;have gR:=(oq).new bW;push_cast -dsimp;refine ae (base:=w.heap.size) [j] (enc:=br) bw gR (by rfl) (λj u hu=>by rw[Nat.zero_add];exact bW.cell hu) (by simp[br,Value.oneCell']) (by simp only[List.length_cons,List.length_nil];omega) (by omega) ?_;intro v6 w6 mR Sf JO;have jc:Below w.heap.size w w6:=(ft.trans (bW.below.mono (by omega))).trans ((Kept.grown (X:=λj=>w.heap.size<=j) Sf (λk hk=>(gR.block k hk).1)).below (by omega) (λ_ h=>h));rw[hF]at tk;push_cast -dsimp;refine⟨⟨by omega,by omega⟩,⟨i+1,_,rfl,rfl,by omega,?_,jc⟩,by rw[Zg];simp only[intOf];omega⟩;rw[tk];exact mR
  have hF:eU (λ_=>True) (an us) back a=none:=by unfold eU;rw[cO]
  rw[hF]at tk;push_cast -dsimp;refine⟨⟨by omega,by omega⟩,⟨i+1,_,rfl,rfl,by omega,?_,gz⟩,by rw[Zg];simp only[intOf];omega⟩;rw[tk];simpa using oq
 rw[List.take_of_length_le (by omega)]at hO;have hlL:=List.length_filterMap_le (eU (λ_=>True) (an us) back) from_;have uL:∀j,j∈from_.filterMap (eU (λ_=>True) (an us) back)↔j<=us.length/\∃i∈from_,dK (aZ nm) (an us) back .any i j:=λj=>by
  rw[BT];simp only[dK];constructor
  ·rintro⟨i,h1,p,h2,h3⟩;exact⟨by have:=nq h2 (by rw[eP];exact hle i h1);rw[eP]at this;exact this,i,h1,by first|exact⟨p,h2,h3⟩|exact⟨p,h2⟩⟩
  rintro⟨_,i,h1,hh⟩
  first
   | (obtain⟨p,h2,h3⟩:=hh;exact⟨i,h1,p,h2,h3⟩)
   | (obtain⟨p,h2⟩:=hh;exact⟨i,h1,p,h2,trivial⟩)
 have Fo:=bC;have zF:=Fo.size;refine aA (kH (from_.filterMap (eU (λ_=>True) (an us) back)) (by omega) (λ_=>False) _ (wx) (hO.sl.weaken (λ_ h=>h.elim)) hO.dH) ?_;rintro vc wc ⟨xg,Fp⟩;have zc:=Fp.size;push_cast -dsimp;refine aA (kE (from_.filterMap (eU (λ_=>True) (an us) back)) (by omega) _ vc wc xg) ?_;rintro _ wd ⟨⟨m1,gi,Hu⟩,GG⟩;have zd:=GG.size;have sQ:=jy gi;push_cast -dsimp;refine aA (fg m1 (by omega) _ vc wd Hu) ?_;rintro vr we ⟨⟨m2,dB,nB,tC⟩,fL⟩;have Sd:=uB gi dB uL;subst Sd;push_cast -dsimp;exact⟨nB.mono zF,Fo.trans ((Fp.mono zF).trans ((GG.below (by omega) (λi h=>by have:=xg.block i h;omega)).trans (fL.below (by omega) (λi h=>by have:=xg.block i h;omega))))⟩
theorem WO (k:ax):vU (.one k):=by
 intro cD jS X w rb mb us nm back h v hV fv from_ hf ha hr hle;have hlen:=h.len;have sQ:=cZ hr hle;simp only[aV]at hV;simp only[bQ]at cD;obtain⟨b,u,rfl,hb,hB,h1⟩:=hV;obtain⟨kb,rfl,vi⟩:=h1.ptr;obtain⟨fa,fc,rfl,Pq⟩:=hf.shape;have d0:w.cell? ⟨b,0,none⟩=some (.int .i64 1):=hB.cell rfl;refine aE Tryz.func45 rfl (by kernel_rfl) [6] rfl ?_;push_cast -dsimp(maxSteps:=4000000) [Tryz.ntmps45];push_cast -dsimp[d0];refine aM [7,9,10,11,33,34,35,36,37,38,39,40,41,42,43,44,45,46,47,48,49,50,51,52,53,54,55,56,57,58,59,60,61,62,63,64,65] (λz wx=>∃(i:Nat) (ov:Value),z 33=.int .i64 i/\z 7=ov/\i<=from_.length/\Vc.Own w.heap.size 3 1 br wx ov ((from_.take i).filterMap (eU (aZ nm k) (an us) back))/\Below w.heap.size w wx) (λz _=>from_.length-(intOf (z 33)).toNat) ?_ ?_
 ·exact⟨0,_,rfl,rfl,Nat.zero_le _,Vc.Own.nil (enc:=br) _ _ (λ_=>rfl) _,Below.refl _ _⟩
 intro z wx hI;obtain⟨i,ov,Zg,h7,hi,hO,bC⟩:=hI;have zx:=bC.size;have EA:=hB.below bC hB.lt;have f0:wx.cell? ⟨b,0,none⟩=some (.int .i64 1):=EA.cell rfl;push_cast -dsimp[Zg,h7];refine⟨λbZ=>?_,λgh=>?_⟩
 ·obtain⟨a,hx,lO,_,ht⟩:=bK (l:=from_) (i:=i) (by omega);obtain⟨b1,o,rfl,zJ,aP⟩:=(hf.below bC).get hx;have c0:wx.cell? ⟨b1,o+i,none⟩=some (.int .i64 (a:Int)):=by simpa[br] using aP 0 _ rfl
  push_cast -dsimp[c0,Nat.mul_one];refine⟨⟨by omega,by omega⟩,?_⟩;refine aA (KM (h.below bC) a (hle a lO)) ?_;rintro r wy ⟨hS,cp⟩;have zy:=cp.size;have gz:=bC.trans (cp.mono zx);obtain⟨oa,oc,rfl⟩:=hO.slice;have oq:=hO.below cp;have hBy:=EA.below cp EA.lt;have g0:wy.cell? ⟨b,0,none⟩=some (.int .i64 1):=hBy.cell rfl;have hlL:((from_.take i).filterMap (eU (aZ nm k) (an us) back)).length<=i:=by
   have:=List.length_filterMap_le (eU (aZ nm k) (an us) back) (from_.take i);rw[List.length_take]at this;omega
  have tk:(from_.take (i+1)).filterMap (eU (aZ nm k) (an us) back)=(from_.take i).filterMap (eU (aZ nm k) (an us) back)++(eU (aZ nm k) (an us) back a).toList:=by
   rw[ht,List.filterMap_append];exact congrArg _ (by cases hq:eU (aZ nm k) (an us) back a<;>simp[List.filterMap_cons,hq])
  rcases hS with ⟨j,p,cO,rfl⟩|⟨cO,rfl⟩
  ·skip;have g1:wy.cell? ⟨b,1,none⟩=some (.pointer (some ⟨kb,0,none⟩)):=hBy.cell rfl;push_cast -dsimp[g0,g1];refine⟨λ_=>?_,λhn=>by omega⟩;refine aA (aBw (h.below gz) k cD _ (h1.below gz) p) ?_;rintro _ w4 ⟨⟨bb,rfl,me⟩,fo⟩;have z4:=fo.size;have uk:=oq.below fo;have re:=gz.trans (fo.mono (by omega));cases bb with
   | true =>
    have hF:eU (aZ nm k) (an us) back a=some j:=by unfold eU;rw[cO];exact if_pos (me.1 rfl)
    push_cast -dsimp;refine cY bw rfl rfl (by omega) ?_;intro w5 bW;have z5:=bW.size;have ft:=re;have zb3:=ft.size;have gR:=(uk).new bW;push_cast -dsimp;refine ae (base:=w.heap.size) [j] (enc:=br) bw gR (by rfl) (λj u hu=>by rw[Nat.zero_add];exact bW.cell hu) (by simp[br,Value.oneCell']) (by simp only[List.length_cons,List.length_nil];omega) (by omega) ?_;intro v6 w6 mR Sf JO;have jc:Below w.heap.size w w6:=(ft.trans (bW.below.mono (by omega))).trans ((Kept.grown (X:=λj=>w.heap.size<=j) Sf (λk hk=>(gR.block k hk).1)).below (by omega) (λ_ h=>h));rw[hF]at tk;push_cast -dsimp;refine⟨⟨by omega,by omega⟩,⟨i+1,_,rfl,rfl,by omega,?_,jc⟩,by rw[Zg];simp only[intOf];omega⟩;rw[tk];exact mR
   | false =>
    have hF:eU (aZ nm k) (an us) back a=none:=by unfold eU;rw[cO];exact if_neg (λhh=>by have:=me.2 hh;cases this)
    rw[hF]at tk;push_cast -dsimp;refine⟨⟨by omega,by omega⟩,⟨i+1,_,rfl,rfl,by omega,?_,re⟩,by rw[Zg];simp only[intOf];omega⟩;rw[tk];simpa using uk
  have hF:eU (aZ nm k) (an us) back a=none:=by unfold eU;rw[cO]
  rw[hF]at tk;push_cast -dsimp;refine⟨⟨by omega,by omega⟩,⟨i+1,_,rfl,rfl,by omega,?_,gz⟩,by rw[Zg];simp only[intOf];omega⟩;rw[tk];simpa using oq
 rw[List.take_of_length_le (by omega)]at hO;have hlL:=List.length_filterMap_le (eU (aZ nm k) (an us) back) from_;have uL:∀j,j∈from_.filterMap (eU (aZ nm k) (an us) back)↔j<=us.length/\∃i∈from_,dK (aZ nm) (an us) back (.one k) i j:=λj=>by
  rw[BT];simp only[dK];constructor
  ·rintro⟨i,h1,p,h2,h3⟩;exact⟨by have:=nq h2 (by rw[eP];exact hle i h1);rw[eP]at this;exact this,i,h1,by first|exact⟨p,h2,h3⟩|exact⟨p,h2⟩⟩
  rintro⟨_,i,h1,hh⟩
  first
   | (obtain⟨p,h2,h3⟩:=hh;exact⟨i,h1,p,h2,h3⟩)
   | (obtain⟨p,h2⟩:=hh;exact⟨i,h1,p,h2,trivial⟩)
 have Fo:=bC;have zF:=Fo.size;refine aA (kH (from_.filterMap (eU (aZ nm k) (an us) back)) (by omega) (λ_=>False) _ (wx) (hO.sl.weaken (λ_ h=>h.elim)) hO.dH) ?_;rintro vc wc ⟨xg,Fp⟩;have zc:=Fp.size;push_cast -dsimp;refine aA (kE (from_.filterMap (eU (aZ nm k) (an us) back)) (by omega) _ vc wc xg) ?_;rintro _ wd ⟨⟨m1,gi,Hu⟩,GG⟩;have zd:=GG.size;have sQ:=jy gi;push_cast -dsimp;refine aA (fg m1 (by omega) _ vc wd Hu) ?_;rintro vr we ⟨⟨m2,dB,nB,tC⟩,fL⟩;have Sd:=uB gi dB uL;subst Sd;push_cast -dsimp;exact⟨nB.mono zF,Fo.trans ((Fp.mono zF).trans ((GG.below (by omega) (λi h=>by have:=xg.block i h;omega)).trans (fL.below (by omega) (λi h=>by have:=xg.block i h;omega))))⟩
end Go.Proofs.YtodeeahdhnjpkaaGreatDoor
end
section
namespace Go.Proofs.YtodeeahdhnjpkaaGreatDoor
open Go.Vc Go.Proofs Go.RowKit Cae
attribute [local irreducible] cw ag aq a8 runK bD Sl Vc.Own vc aW cN ai
theorem WN (l:List aI)(cg:∀x∈l,vU x):vU (.cat l):=by
 intro cD jS X w rb mb us nm back h v hV fv from_ hf ha hr hle;have hlen:=h.len;have sQ:=cZ hr hle;have nC:=qi (l:=l);simp only[aV]at hV;simp only[bQ]at cD;obtain⟨b,sv,vs,rfl,hb,hB,hs,hV⟩:=hV;have hvl:=hV.len;obtain⟨sa,sc,rfl,WA⟩:=hs.shape;rw[hvl]at hB hs WA;obtain⟨fa,fc,rfl,Pq⟩:=hf.shape;obtain⟨lv,hBr,hlv⟩:=h.st;have d0:w.cell? ⟨b,0,none⟩=some (.int .i64 4):=hB.cell rfl;have d2:w.cell? ⟨b,2,none⟩=some (.slice sa l.length sc):=hB.cell rfl;refine aE Tryz.func45 rfl (by kernel_rfl) [6] rfl ?_;push_cast -dsimp(maxSteps:=4000000) [Tryz.ntmps45];push_cast -dsimp[d0,d2];refine aM [7,16,17,95,96,97,98,99,100,101,102,103,104,105,106,107,108,109,110,111,112,113,114,115,116,117,118,119,120,121] (λz wx=>∃(n:Nat) (ov:Value) (L:List Nat),z 95=.int .i64 n/\z 7=ov/\n<=l.length/\Sl (λ_=>False) 1 (En br) wx ov L/\Arg ov/\L.Pairwise (·<·)/\(∀j,j∈L↔j<=us.length/\∃i∈from_,zY (aZ nm) (an us) back l n i j)/\Below w.heap.size w wx) (λz _=>l.length-(intOf (z 95)).toNat) ?_ ?_
 ·refine⟨0,_,from_,rfl,rfl,Nat.zero_le _,hf,ha,hr,λj=>?_,Below.refl _ _⟩;constructor
  ·intro hj;exact⟨hle j hj,j,hj,Aa.2 rfl⟩
  rintro⟨_,i,hi,h2⟩;rw[<-Aa.1 h2];exact hi
 intro z wx hI;obtain⟨n,ov,L,XH,h7,hn,hL,haL,Zy,As,bC⟩:=hI;have zx:=bC.size;have EA:=hB.below bC hB.lt;have aJB:=hBr.below bC hBr.lt;have e2:wx.cell? ⟨b,2,none⟩=some (.slice sa l.length sc):=EA.cell rfl;have eb:wx.cell? ⟨rb,2,none⟩=some (.bool back):=aJB.cell rfl;have hll:=nC.2.1;push_cast -dsimp[XH,h7];refine⟨λbZ=>?_,λgh=>?_⟩
 ·cases back with
  | true =>
   have tn:((l.length:Int)-1-n).toNat=l.length-1-n:=by omega
   have hkx:∃x,l[l.length-1-n]?=some x:=⟨l[l.length-1-n]'(by omega),List.getElem?_eq_getElem (by omega)⟩;obtain⟨x,hx⟩:=hkx;obtain⟨u,hu,My⟩:=aU.nth hV hx;obtain⟨b1,o,rfl,zJ,aP⟩:=(hs.below bC).get hu;have c0:wx.cell? ⟨b1,o+(l.length-1-n),none⟩=some (.pointer (some ⟨u,0,none⟩)):=by simpa[gg,bF] using aP 0 _ rfl
   push_cast -dsimp[eb,e2,tn,c0,Nat.mul_one];refine⟨⟨by omega,by omega⟩,⟨by omega,by omega⟩,⟨by omega,by omega⟩,?_⟩;have lO:=List.mem_of_getElem? hx;refine aA (cg x lO (fk cD lO) (by have:=nC.2.2 x lO;omega) X wx rb mb us nm _ (h.below bC) _ (aV.below My bC) ov L hL haL Zy (λj hj=>((As j).1 hj).1)) ?_;rintro r wy ⟨hO,cp⟩;have zy:=cp.size;have AB:Arg r:=hO.dH;push_cast -dsimp;refine⟨⟨by omega,by omega⟩,⟨n+1,_,_,rfl,rfl,by omega,hO.sl.weaken (λ_ h=>h.elim),AB,cU _ _ _,λj=>?_,bC.trans (cp.mono zx)⟩,by rw[XH];simp only[intOf];omega⟩;rw[fw];refine and_congr Iff.rfl ?_;constructor
   ·rintro⟨m,hm,h2⟩;obtain⟨_,i,hi,h3⟩:=(As m).1 hm;exact⟨i,hi,(qS (by omega) hx).2 ⟨m,h3,h2⟩⟩
   rintro⟨i,hi,h3⟩;obtain⟨m,h4,h5⟩:=(qS (by omega) hx).1 h3;exact⟨m,(As m).2 ⟨by have:=Kk (by rw[eP];exact hle i hi) h4;rw[eP]at this;exact this,i,hi,h4⟩,h5⟩
  | false =>
   have hkx:∃x,l[n]?=some x:=⟨l[n]'(by omega),List.getElem?_eq_getElem (by omega)⟩;obtain⟨x,hx⟩:=hkx;obtain⟨u,hu,My⟩:=aU.nth hV hx;obtain⟨b1,o,rfl,zJ,aP⟩:=(hs.below bC).get hu;have c0:wx.cell? ⟨b1,o+n,none⟩=some (.pointer (some ⟨u,0,none⟩)):=by simpa[gg,bF] using aP 0 _ rfl
   push_cast -dsimp[eb,e2,c0,Nat.mul_one];refine⟨⟨by omega,by omega⟩,?_⟩;have lO:=List.mem_of_getElem? hx;refine aA (cg x lO (fk cD lO) (by have:=nC.2.2 x lO;omega) X wx rb mb us nm _ (h.below bC) _ (aV.below My bC) ov L hL haL Zy (λj hj=>((As j).1 hj).1)) ?_;rintro r wy ⟨hO,cp⟩;have zy:=cp.size;have AB:Arg r:=hO.dH;push_cast -dsimp;refine⟨⟨by omega,by omega⟩,⟨n+1,_,_,rfl,rfl,by omega,hO.sl.weaken (λ_ h=>h.elim),AB,cU _ _ _,λj=>?_,bC.trans (cp.mono zx)⟩,by rw[XH];simp only[intOf];omega⟩;rw[fw];refine and_congr Iff.rfl ?_;constructor
   ·rintro⟨m,hm,h2⟩;obtain⟨_,i,hi,h3⟩:=(As m).1 hm;exact⟨i,hi,(qS (by omega) hx).2 ⟨m,h3,h2⟩⟩
   rintro⟨i,hi,h3⟩;obtain⟨m,h4,h5⟩:=(qS (by omega) hx).1 h3;exact⟨m,(As m).2 ⟨by have:=Kk (by rw[eP];exact hle i hi) h4;rw[eP]at this;exact this,i,hi,h4⟩,h5⟩
 have hnl:n=l.length:=by omega
 subst hnl;have hlL:=cZ Zy (λj hj=>((As j).1 hj).1);have uL:∀j,j∈L↔j<=us.length/\∃i∈from_,dK (aZ nm) (an us) back (.cat l) i j:=λj=>by
  rw[As j];refine and_congr Iff.rfl (exists_congr λi=>and_congr Iff.rfl Qx)
 have Fo:=bC;have zF:=Fo.size;refine aA (kH L (by omega) (λ_=>False) _ (wx) hL haL) ?_;rintro vc wc ⟨xg,Fp⟩;have zc:=Fp.size;push_cast -dsimp;refine aA (kE L (by omega) _ vc wc xg) ?_;rintro _ wd ⟨⟨m1,gi,Hu⟩,GG⟩;have zd:=GG.size;have sQ:=jy gi;push_cast -dsimp;refine aA (fg m1 (by omega) _ vc wd Hu) ?_;rintro vr we ⟨⟨m2,dB,nB,tC⟩,fL⟩;have Sd:=uB gi dB uL;subst Sd;push_cast -dsimp;exact⟨nB.mono zF,Fo.trans ((Fp.mono zF).trans ((GG.below (by omega) (λi h=>by have:=xg.block i h;omega)).trans (fL.below (by omega) (λi h=>by have:=xg.block i h;omega))))⟩
theorem WL (l:List aI)(cg:∀x∈l,vU x):vU (.alt l):=by
 intro cD jS X w rb mb us nm back h v hV fv from_ hf ha hr hle;have hlen:=h.len;have sQ:=cZ hr hle;have nC:=qh (l:=l);have hll:=nC.2.1;simp only[aV]at hV;simp only[bQ]at cD;obtain⟨b,sv,vs,rfl,hb,hB,hs,hV⟩:=hV;have hvl:=hV.len;obtain⟨sa,sc,rfl,WA⟩:=hs.shape;rw[hvl]at hB hs WA;obtain⟨fa,fc,rfl,Pq⟩:=hf.shape;have d0:w.cell? ⟨b,0,none⟩=some (.int .i64 5):=hB.cell rfl;have d2:w.cell? ⟨b,2,none⟩=some (.slice sa l.length sc):=hB.cell rfl;refine aE Tryz.func45 rfl (by kernel_rfl) [6] rfl ?_;push_cast -dsimp(maxSteps:=4000000) [Tryz.ntmps45];push_cast -dsimp[d0,d2];refine aM [7,19,129,130,131,132,133,134,135,136,137,138,139] (λz wx=>∃(n:Nat) (ov:Value) (L:List Nat),z 129=.int .i64 n/\z 7=ov/\n<=l.length/\Vc.Own w.heap.size 3 1 br wx ov L/\L.length<=n*(us.length+1)/\(∀j,j∈L↔j<=us.length/\∃i∈from_,∃y∈l.take n,dK (aZ nm) (an us) back y i j)/\Below w.heap.size w wx) (λz _=>l.length-(intOf (z 129)).toNat) ?_ ?_
 ·exact⟨0,_,[],rfl,rfl,Nat.zero_le _,Vc.Own.nil (enc:=br) _ _ (λ_=>rfl) _,by simp,λj=>by simp,Below.refl _ _⟩
 intro z wx hI;obtain⟨n,ov,L,aFr,h7,hn,hO,hlL,As,bC⟩:=hI;have zx:=bC.size;have hnl:n*(us.length+1)<=l.length*(us.length+1):=Nat.mul_le_mul_right _ hn;have aFZ:l.length*(us.length+1)<=100000*1001:=Nat.mul_le_mul (by omega) (by omega);push_cast -dsimp[aFr,h7];refine⟨λbZ=>?_,λgh=>?_⟩
 ·obtain⟨x,hx,lO,_,ht⟩:=bK (l:=l) (i:=n) (by omega);obtain⟨u,hu,My⟩:=aU.nth hV hx;obtain⟨b1,o,rfl,zJ,aP⟩:=(hs.below bC).get hu;have c0:wx.cell? ⟨b1,o+n,none⟩=some (.pointer (some ⟨u,0,none⟩)):=by simpa[gg,bF] using aP 0 _ rfl
  push_cast -dsimp[c0,Nat.mul_one];refine⟨⟨by omega,by omega⟩,?_⟩;refine aA (cg x lO (fk cD lO) (by have:=nC.2.2 x lO;omega) X wx rb mb us nm _ (h.below bC) _ (aV.below My bC) _ from_ (hf.below bC) ha hr hle) ?_;rintro r wy ⟨jC,cp⟩;have zy:=cp.size;have AB:Arg r:=jC.dH;have oq:=hO.below cp;have Zr:=cZ (cU us.length (dK (aZ nm) (an us) back x) from_) (λj hj=>(fw.1 hj).1);have wH:(n+1)*(us.length+1)=n*(us.length+1)+(us.length+1):=by rw[Nat.add_mul];omega
  push_cast -dsimp;refine jh (base:=w.heap.size) (enc:=br) (ys:=jf us.length (dK (aZ nm) (an us) back x) from_) bw oq (jC.sl) AB (by simp[br,Value.oneCell']) (by omega) (by omega) ?_;intro v8 w8 Kq EF kW;push_cast -dsimp;refine⟨⟨by omega,by omega⟩,⟨n+1,_,_,rfl,rfl,by omega,Kq,by rw[List.length_append];omega,λj=>?_,(bC.trans (cp.mono zx)).trans (kW.mono (by omega))⟩,by rw[aFr];simp only[intOf];omega⟩;rw[List.mem_append,As j,fw,ht];constructor
  ·rintro(⟨h1,i,hi,y,hy,h2⟩|⟨h1,i,hi,h2⟩)
   ·exact⟨h1,i,hi,y,List.mem_append_left _ hy,h2⟩
   exact⟨h1,i,hi,x,by simp,h2⟩
  rintro⟨h1,i,hi,y,hy,h2⟩;rw[List.mem_append,List.mem_singleton]at hy;rcases hy with hy|rfl
  ·exact .inl ⟨h1,i,hi,y,hy,h2⟩
  exact .inr ⟨h1,i,hi,h2⟩
 have hnl:n=l.length:=by omega
 subst hnl;rw[List.take_length]at As;have uL:∀j,j∈L↔j<=us.length/\∃i∈from_,dK (aZ nm) (an us) back (.alt l) i j:=λj=>by
  rw[As j];refine and_congr Iff.rfl (exists_congr λi=>and_congr Iff.rfl ?_);simp only[dK];rw[y7]
 have Fo:=bC;have zF:=Fo.size;refine aA (kH L (by omega) (λ_=>False) _ (wx) (hO.sl.weaken (λ_ h=>h.elim)) hO.dH) ?_;rintro vc wc ⟨xg,Fp⟩;have zc:=Fp.size;push_cast -dsimp;refine aA (kE L (by omega) _ vc wc xg) ?_;rintro _ wd ⟨⟨m1,gi,Hu⟩,GG⟩;have zd:=GG.size;have sQ:=jy gi;push_cast -dsimp;refine aA (fg m1 (by omega) _ vc wd Hu) ?_;rintro vr we ⟨⟨m2,dB,nB,tC⟩,fL⟩;have Sd:=uB gi dB uL;subst Sd;push_cast -dsimp;exact⟨nB.mono zF,Fo.trans ((Fp.mono zF).trans ((GG.below (by omega) (λi h=>by have:=xg.block i h;omega)).trans (fL.below (by omega) (λi h=>by have:=xg.block i h;omega))))⟩
end Go.Proofs.YtodeeahdhnjpkaaGreatDoor
end
section
namespace Go.Vc
open Go.RowKit
section
variable {P:Program} {t:Fr} {w:World} {K:VK} {Q:EP}
theorem oA {α:Type}{bt ty e:TypeId}{k bytes base:Nat}{enc:α->List Value}{X:Nat->Prop}{v x:Value}{l ys:List α}{p}(hE:zC P bt=some (e,k,bytes))(gU:Vc.Own base e k enc w v l)(hx:Sl X k (En enc) w x ys)
  (DD:∀n c,x=.slice none n c->n=0/\c=0) (h1:∀x,∀u∈enc x,u.oneCell'=true)
  (hm:(l.length+ys.length)*bytes<=140737488355328) (nV:base<=w.heap.size)
  (kk:∀v' w',Vc.Own base e k enc w' v' (l++ys)->w.grownBy w' v.ownBlock->Below base w w'->(∀g,v'.ownBlock=some g->v.ownBlock=some g\/w.heap.size<=g)->K v' w'):aq P (Builtin.append_ #[bt,bt] ty [v,x].toArray) t w K Q p:=by
 obtain⟨hu,i,z,hi,hz,rfl,rfl,JV,hk,cp⟩:=ll hE;have hlen:∀(ys:List α),(ys.flatMap enc).length=ys.length*i.size:=by
  intro ys;induction ys with
  | nil=>simp
  | cons y ys ih=>simp[List.flatMap_cons,gU.2,ih,Nat.add_mul];omega
 have hle:l.length+ys.length<=140737488355328:=Nat.le_trans (Nat.le_mul_of_pos_right _ cp) hm;unfold Sl at hx;obtain⟨a,c,rfl,hc,AF⟩:=hx;cases a with
 | none =>
  obtain⟨h0,rfl⟩:=DD _ _ rfl;have:ys=[]:=List.eq_nil_of_length_eq_zero h0;subst this;have hr:=run_append_owned_none (P:=P) w base bt ty e i i.size hu hi v l.length (l.flatMap enc) gU.1;refine dq (w':=w) (v:=v) hr (kk v w (by rw[List.append_nil];exact gU) ⟨rfl,rfl,rfl,Nat.le_refl _,λ_ _ _=>rfl⟩ (Below.refl _ _) (λg hg=>.inl hg))
 | some ad =>
  have hy:∀j u,(ys.flatMap enc)[j]?=some u->w.cell? (ad.add j)=some u:=by
   intro j u hj;have Zs:=(List.getElem?_eq_some_iff.1 hj).1;rw[hlen]at Zs;have hq:j / i.size<ys.length:=Nat.div_lt_of_lt_mul (by rw[Nat.mul_comm];exact Zs);have NX:ys[j / i.size]?=some ys[j / i.size]:=List.getElem?_eq_getElem hq;obtain⟨b,o,cs,hb,_,je,aP,rfl⟩:=AF _ _ NX;cases hb;have hr:j % i.size<(enc ys[j / i.size]).length:=by rw[je];exact Nat.mod_lt _ hk
   have hg:=kI gU.2 ys (j / i.size) (j % i.size) _ _ NX (List.getElem?_eq_getElem hr);have ej:j / i.size*i.size+j % i.size=j:=by rw[Nat.mul_comm];exact Nat.div_add_mod j i.size
   rw[ej,hj]at hg
   have:=aP _ _ (List.getElem?_eq_getElem hr);rw[add_lit];rw[Nat.add_assoc,ej]at this;rw[this,hg]
  obtain⟨v',w',hr,ho,hg,_⟩:=run_append_own (P:=P) w base bt ty e i z i.size i.bytes hu hi hz rfl rfl JV hk v l.length (l.flatMap enc) gU.1 ad ys.length c (ys.flatMap enc) (hlen ys)
   hy (λu EK=>by obtain⟨x,_,hx⟩:=List.mem_flatMap.1 EK;exact h1 x u hx) (by simp only[maxLen];omega) hm nV
  have qV:∀u∈ys.flatMap enc,u.oneCell'=true:=λu EK=>by obtain⟨x,_,hx⟩:=List.mem_flatMap.1 EK;exact h1 x u hx
  refine dq hr (kk v' w' ⟨by simpa[List.flatMap_append] using ho,gU.2⟩ hg ((Below.refl _ _).grown hg nV λk hk=>(gU.1.lt k hk).1) ?_);intro g' Se;rcases gU.1.2 with ⟨rfl,h0⟩|⟨g,cap,cur,rfl,XT,Vw,Zv,qm,je,aGV⟩
  ·have hl:l=[]:=List.eq_nil_of_length_eq_zero h0;subst hl;have TC:w.ownsRow w.heap.size e i.size (.slice none 0 0) 0 []:=World.ownsRow_nil _ _ _ _;obtain⟨v2,w2,EJ,ow,_,_⟩:=run_append_own (P:=P) w w.heap.size bt ty e i z i.size i.bytes hu hi hz rfl rfl JV hk _ 0 [] TC ad ys.length c (ys.flatMap enc) (hlen ys)
    hy qV (by simp only[maxLen];omega) (by simpa using hm) (Nat.le_refl _)
   have:=hr.symm.trans EJ;cases this;exact .inr (ow.lt g' Se).1
  by_cases TG:l.length+ys.length<=cap
  ·obtain⟨w2,EJ,_⟩:=run_append_fits (P:=P) (w:=w) base bt ty e i i.size hu hi rfl g l.length cap (l.flatMap enc) gU.1 ad ys.length c (ys.flatMap enc) (hlen ys) hy qV TG
   have:=hr.symm.trans EJ;cases this;exact .inl Se
  have EJ:=run_append_grow (P:=P) w bt ty e i z hu hi hz ⟨g,0,none⟩ l.length cap (l.flatMap enc) gU.1.1 (gU.1.cells (g:=g) rfl) ad ys.length c (ys.flatMap enc) (hlen ys) hy (by omega) (by omega) (growslice_fits (by omega) hm)
  have:=hr.symm.trans EJ;cases this;simp only[Value.ownBlock,Option.some.injEq]at Se;exact .inr (by omega)
end
end Go.Vc
end
section
namespace Cae
section
variable {has:ax->Int->Prop} {pts:List Int} {back:Bool}
theorem aDh {x:aI}{l:List Nat}{n j:Nat}(hl:∀i∈l,i<=pts.length)(h:stM (dK has pts back x) l n j):j<=pts.length:=by
 obtain⟨i,hi,h⟩:=h;exact xv (λa b ha hr=>ja x ha hr) (hl i hi) h
theorem ij {x:aI}{lo k N:Nat}{hi:Int}{from_ M:List Nat}(hM:∀j,j∈M↔j<=N/\∃s,s<=k/\stM (dK has pts back x) from_ (lo+s) j)(hk:hi<0\/((lo+k:Nat):Int)<=hi)
  (nW:∀t j,(hi<0\/((lo+t:Nat):Int)<=hi)->stM (dK has pts back x) from_ (lo+t) j->∃s,s<=k/\stM (dK has pts back x) from_ (lo+s) j):∀j,j∈M↔j<=N/\∃i∈from_,dK has pts back (.many x (lo:Int) hi) i j:=λj=>by
 rw[hM j,Ti];refine and_congr Iff.rfl ?_;constructor
 ·rintro⟨s,hs,h⟩;exact⟨s,by rcases hk with hk|hk<;>omega,h⟩
 rintro⟨t,ht,h⟩;exact nW t j ht h
end
theorem tV {l m:List Nat}(hl:l.Pairwise (·<·))(hm:m.Pairwise (·<·))(h:∀x∈l,x∈m):l.length<=m.length:=by
 have e:l=m.filter λx=>decide (x∈l):=tU hl (List.Pairwise.filter _ hm) λx=>by
  rw[List.mem_filter,decide_eq_true_iff];exact⟨λhx=>⟨h x hx,hx⟩,λhx=>hx.2⟩
 rw[e];exact List.length_filter_le _ _
end Cae
namespace Go.Proofs.YtodeeahdhnjpkaaGreatDoor
open Go.Vc Go.Proofs Go.RowKit Cae
attribute [local irreducible] cw ag aq a8 runK bD Sl Vc.Own vc aW cN ai
theorem ph {N:Nat}{R:Nat->Nat->Prop}{from_ L:List Nat}{t:Nat}(h:∀j,j∈L↔j<=N/\stM R from_ t j)(hle:∀j,stM R from_ t j->j<=N):∀j,j∈jf N R L↔j<=N/\stM R from_ (t+1) j:=λj=>by
 rw[fw,mK];refine and_congr Iff.rfl ?_;constructor
 ·rintro⟨m,hm,h2⟩;exact⟨m,((h m).1 hm).2,h2⟩
 rintro⟨m,hm,h2⟩;exact⟨m,(h m).2 ⟨hle m hm,hm⟩,h2⟩
def Nc:Value->Nat
 | .slice _ n _=>n
 | _=>0
theorem tN {L m1 m2:List Nat}(h1:bM m1=((bM L).mergeSort λx y=>decide (x<=y)))(h2:bM m2=Lib.compact (bM m1)):m2.Pairwise (·<·)/\∀x,x∈m2↔x∈L:=by
 obtain⟨m,e,hp,uL⟩:=qG L;rw[<-h1,<-h2]at e;have e:=Aw e;subst e;exact⟨hp,uL⟩
theorem aCG (x:aI)(lo:Nat)(hi:Int)(hx:vU x)(cD:bQ x)(jS:wd x<=100000)(ri:lo<100)(Si:hi<100)(hlh:hi<0\/(lo:Int)<=hi)(X:Nat->Prop)(w:World)(rb mb:Nat)(us:List U)(nm:bP)(back:Bool)(h:Mr X w rb mb us nm back)(v:Value)(hV:aV X w v (.many x lo hi))
  (fv:Value) (from_:List Nat) (hf:Sl (λ_=>False) 1 (En br) w fv from_) (ha:Arg fv) (hr:from_.Pairwise (·<·)) (hle:∀i∈from_,i<=us.length) :
  bD Tryz.prog 78 [.pointer (some ⟨rb,0,none⟩),v,fv] w λr w'=>(∃M,Vc.Own w.heap.size 3 1 br w' r M/\M.length<=1001/\∀j,j∈M↔j<=us.length/\∃i∈from_,dK (aZ nm) (an us) back (.many x lo hi) i j)/\Below w.heap.size w w':=by
 have hlen:=h.len;have sQ:=cZ hr hle;have X3:=eP us;have rm:∀t j,stM (dK (aZ nm) (an us) back x) from_ t j->j<=us.length:=λt j hj=>by have:=aDh (by rw[X3];exact hle) hj;rw[X3]at this;exact this
 simp only[aV]at hV;obtain⟨b,sv,u,rfl,hb,hB,hs,hV⟩:=hV;obtain⟨sa,sc,rfl,WA⟩:=hs.shape;obtain⟨b1,o,rfl,zJ,aP⟩:=hs.get (i:=0) (x:=u) rfl;obtain⟨fa,fc,rfl,Pq⟩:=hf.shape;have d2:∀w',Below w.heap.size w w'->w'.cell? ⟨b,2,none⟩=some (.slice (some ⟨b1,o,none⟩) 1 sc):=λw' hb=>(hB.below hb hB.lt).cell rfl;have d3:∀w',Below w.heap.size w w'->w'.cell? ⟨b,3,none⟩=some (.int .i64 lo):=λw' hb=>(hB.below hb hB.lt).cell rfl;have d4:∀w',Below w.heap.size w w'->w'.cell? ⟨b,4,none⟩=some (.int .i64 hi):=λw' hb=>(hB.below hb hB.lt).cell rfl;have cx:∀w',Below w.heap.size w w'->w'.cell? ⟨b1,o,none⟩=some (.pointer (some ⟨u,0,none⟩)):=λw' hb=>(hb.cell (World.block_lt_of_cell? w _ (aP 0 _ rfl))).trans (by simpa[gg,bF] using aP 0 _ rfl);have hrf:=Below.refl w.heap.size w;refine aE Tryz.func78 rfl (by kernel_rfl) [6] rfl ?_;push_cast -dsimp(maxSteps:=4000000) [Tryz.ntmps78];push_cast -dsimp[d3 _ hrf];refine aM [7,8,17,18,19,20,21,22,23,24,25,26,27,28,29,30,31,32] (λz wx=>∃(t:Nat) (ov:Value) (L:List Nat),z 17=.int .i64 t/\z 7=ov/\t<=lo/\Sl (λ_=>False) 1 (En br) wx ov L/\Arg ov/\L.Pairwise (·<·)/\(∀j,j∈L↔j<=us.length/\stM (dK (aZ nm) (an us) back x) from_ t j)/\Below w.heap.size w wx) (λz _=>lo-(intOf (z 17)).toNat) ?_ ?_
 ·refine⟨0,_,from_,rfl,rfl,Nat.zero_le _,hf,ha,hr,λj=>?_,Below.refl _ _⟩;constructor
  ·intro hj;exact⟨hle j hj,j,hj,rfl⟩
  rintro⟨_,i,hi,h2⟩;have h2:i=j:=h2;rw[<-h2];exact hi
 intro z wx hI;obtain⟨t,ov,L,h17,h7,ht,hL,haL,Zy,As,bC⟩:=hI;have zx:=bC.size;push_cast -dsimp[h17,h7,d2 _ bC,cx _ bC];refine⟨λbZ=>?_,λgh=>?_⟩
 ·refine aA (hx cD jS X wx rb mb us nm _ (h.below bC) _ (aV.below hV bC) ov L hL haL Zy (λj hj=>((As j).1 hj).1)) ?_;rintro r wy ⟨hO,cp⟩;have zy:=cp.size;have gz:=bC.trans (cp.mono zx);have Zr:=cZ (cU us.length (dK (aZ nm) (an us) back x) L) (λj hj=>(fw.1 hj).1);have DC:=ph As (rm t);push_cast -dsimp;refine aA (Rw (jf us.length (dK (aZ nm) (an us) back x) L) L (by omega) _ _ r ov wy hO.sl (hL.below cp)) ?_;rintro _ w4 ⟨rfl,fo⟩;by_cases heq:jf us.length (dK (aZ nm) (an us) back x) L=L
  ·rw[decide_eq_true heq];have Zz:∀j,stM (dK (aZ nm) (an us) back x) from_ (t+1) j↔stM (dK (aZ nm) (an us) back x) from_ t j:=λj=>by
    have h1:=DC j;rw[heq,As j]at h1;constructor
    ·intro hh;exact(h1.2 ⟨rm _ j hh,hh⟩).2
    intro hh;exact(h1.1 ⟨rm _ j hh,hh⟩).2
   have hmR:∀j,j∈jf us.length (dK (aZ nm) (an us) back x) L↔j<=us.length/\stM (dK (aZ nm) (an us) back x) from_ lo j:=λj=>by
    rw[DC j,Zz j]
    have:=Dh Zz (lo-t) j;rw[show t+(lo-t)=lo by omega]at this
    rw[this]
   have re:=gz.trans (fo.mono (by omega));have hS4:Sl (λ_=>False) 1 (En br) w4 r (jf us.length (dK (aZ nm) (an us) back x) L):=(hO.sl.weaken (λ_ h=>h.elim)).below fo;push_cast -dsimp;have hbR:=re;have zR:=hbR.size;have hlR:=cZ (cU _ _ _) (λj hj=>((hmR j).1 hj).1);refine aA (kH (jf us.length (dK (aZ nm) (an us) back x) L) (by omega) (λ_=>False) r (w4) hS4 hO.dH) ?_;rintro vo wo ⟨hOo,x7⟩;have zo:=x7.size;have SZ:=hbR.trans (x7.mono zR);push_cast -dsimp[d3 _ SZ];refine aM [7,9,10,11,39,40,41,42,43,44,45,46,47,48,49,50,51,52,53,54,55,56,57,58,59,60,61,62,63,64,65,66,67,68,69,70,71,72,73,74,75,76,77,78,79,80,81,82,83,84,85,86,87] (λz wx=>∃(k:Nat) (nv:Value) (N1:List Nat) (ov:Value) (M:List Nat),z 10=.int .i64 ((lo+k:Nat):Int)/\z 7=nv/\z 9=ov/\Sl (λ_=>False) 1 (En br) wx nv N1/\Arg nv/\N1.Pairwise (·<·)/\(∀j,j∈N1↔j<=us.length/\stM (dK (aZ nm) (an us) back x) from_ (lo+k) j)/\Vc.Own w.heap.size 3 1 br wx ov M/\M.Pairwise (·<·)/\(∀j,j∈M↔j<=us.length/\∃s,s<=k/\stM (dK (aZ nm) (an us) back x) from_ (lo+s) j)/\(hi<0\/((lo+k:Nat):Int)<=hi)/\(hi<0->k<=M.length)/\Below w.heap.size w wx) (λz _=>if hi<0 then us.length+2-Nc (z 9) else (hi-intOf (z 10)).toNat) ?_ ?_
   ·refine⟨0,_,(jf us.length (dK (aZ nm) (an us) back x) L),_,(jf us.length (dK (aZ nm) (an us) back x) L),rfl,rfl,rfl,(hS4).below x7,hO.dH,(cU _ _ _),hmR,hOo.mono zR,(cU _ _ _),λj=>?_,hlh,λ_=>Nat.zero_le _,SZ⟩;rw[hmR j];refine and_congr Iff.rfl ?_;constructor
    ·intro hh;exact⟨0,Nat.le_refl _,hh⟩
    rintro⟨s,hs,hh⟩;have:s=0:=by omega
    subst this;exact hh
   intro z wx hI;obtain⟨k,nv,N1,ov,M,nH,h7,h9,AA,haN,hrN,JM,hO,TF,DB,p6,XZ,bC⟩:=hI;have zx:=bC.size;have hlN:=cZ hrN (λj hj=>((JM j).1 hj).1);have hlM:=cZ TF (λj hj=>((DB j).1 hj).1);have eM:=AA.shape;obtain⟨na,nc,rfl,_⟩:=eM;have eM:=hO.slice;obtain⟨oa,oc,rfl⟩:=eM;push_cast -dsimp[nH,h7,h9,d4 _ bC,d2 _ bC,cx _ bC];refine⟨λmA=>⟨λJL=>⟨λpG=>?_,λhz=>?_⟩,λSg=>?_⟩,λmA=>⟨λpG=>?_,λhz=>?_⟩⟩
   ·skip;refine aA (hx cD jS X wx rb mb us nm _ (h.below bC) _ (aV.below hV bC) _ N1 AA haN hrN (λj hj=>((JM j).1 hj).1)) ?_;rintro r wy ⟨jC,cp⟩;have zy:=cp.size;have gz:=bC.trans (cp.mono zx);have aBO:=cZ (cU us.length (dK (aZ nm) (an us) back x) N1) (λj hj=>(fw.1 hj).1);have DC:=ph JM (rm (lo+k));have AB:Arg r:=jC.dH;have oq:=hO.below cp;push_cast -dsimp;refine oA (base:=w.heap.size) (enc:=br) (ys:=jf us.length (dK (aZ nm) (an us) back x) N1) bw oq (jC.sl) AB (by simp[br,Value.oneCell']) (by omega) (by omega) ?_;intro v5 w5 gR rh kU mT;have z5:=kU.size;have AE:=gz.trans (kU.mono (by omega));have hl5:(M++jf us.length (dK (aZ nm) (an us) back x) N1).length<=3000:=by rw[List.length_append];omega
    push_cast -dsimp;refine aA (kE _ (by omega) _ v5 w5 gR) ?_;rintro _ w6 ⟨⟨m1,gi,mR⟩,JJ⟩;have z6:=JJ.size;have aBH:=jy gi;push_cast -dsimp;refine aA (fg m1 (by omega) _ v5 w6 mR) ?_;rintro v7 w7 ⟨⟨m2,dB,Cw,tC⟩,JK⟩;have z7:=JK.size;obtain⟨mB,xe⟩:=tN gi dB;have oH:Below w.heap.size w w7:=AE.trans ((JJ.below (by omega) (λi h=>(gR.block i h).1)).trans (JK.below (by omega) (λi h=>(gR.block i h).1)));have It:=jC.ak (Kept.grown rh (X:=λj=>(Value.slice oa M.length oc).ownBlock=some j) (λ_ h=>h)) (λg hg hh=>by have:=jC.block g hg;have:=hO.block g hh;omega);have xf:∀g,r.ownBlock=some g->v5.ownBlock≠some g:=λg hg hh=>by
     have h1:=jC.block g hg;rcases mT g hh with h2|h2
     ·have:=hO.block g h2;omega
     omega
    have Iu:=(It.ak JJ (λg hg hh=>xf g hg hh)).ak JK (λg hg hh=>xf g hg hh);have SO:Sl (λ_=>False) 1 (En br) w7 r (jf us.length (dK (aZ nm) (an us) back x) N1):=Iu.sl.weaken (λ_ h=>h.elim);have lz:∀j,j∈m2↔j<=us.length/\∃s,s<=k+1/\stM (dK (aZ nm) (an us) back x) from_ (lo+s) j:=λj=>by
     rw[xe,List.mem_append,DB j,DC j];constructor
     ·rintro(⟨h1,s,h2,h3⟩|⟨h1,h2⟩)
      ·exact⟨h1,s,by omega,h3⟩
      exact⟨h1,k+1,Nat.le_refl _,h2⟩
     rintro⟨h1,s,h2,h3⟩;by_cases hs:s=k+1
     ·subst hs;exact .inr ⟨h1,h3⟩
     exact .inl ⟨h1,s,by omega,h3⟩
    have xl:∀y∈M,y∈m2:=λy hy=>(xe y).2 (List.mem_append_left _ hy);have NM:=tV TF mB xl;have p7:=cZ mB (λj hj=>((lz j).1 hj).1);have eM:=Cw.slice;obtain⟨o7,c7,rfl⟩:=eM;push_cast -dsimp[d4 _ oH];have xo:(Value.int .i64 ((lo:Int)+k+1))=.int .i64 ((lo+(k+1):Nat):Int):=by
     congr 1
    refine⟨λiB=>⟨λrL=>?_,λhns=>⟨⟨by omega,by have:=XZ iB;omega⟩,?_,?_⟩⟩,λSu=>⟨⟨by omega,by omega⟩,?_,?_⟩⟩
    ·have heq:=q6 TF mB xl (by omega);refine⟨⟨m2,Cw,by omega,ij lz (.inl iB) λt j ht cO=>?_⟩,oH⟩
     have:=qI (a:=lo) (k:=k) (λj hj=>by
      have h1:j∈m2:=(lz j).2 ⟨rm _ j hj,k+1,Nat.le_refl _,hj⟩;rw[<-heq]at h1;exact((DB j).1 h1).2) t j cO
     obtain⟨s,hs,h2⟩:=this;exact⟨s,by omega,h2⟩
    ·exact⟨k+1,_,_,_,m2,xo,rfl,rfl,SO,AB,cU _ _ _,DC,Cw,mB,lz,.inl iB,(λ_=>by have:=XZ iB;omega),oH⟩
    ·rw[h9,nH];simp only[if_pos iB,Nc];omega
    ·exact⟨k+1,_,_,_,m2,xo,rfl,rfl,SO,AB,cU _ _ _,DC,Cw,mB,lz,.inr (by omega),(λhh=>absurd hh Su),oH⟩
    rw[h9,nH];simp only[if_neg Su,intOf];omega
   ·skip;refine⟨⟨M,hO,by omega,ij DB p6 λt j ht cO=>?_⟩,bC⟩;by_cases rp:t<k
    ·exact⟨t,by omega,cO⟩
    have gC:∀j,¬stM (dK (aZ nm) (an us) back x) from_ (lo+k) j:=λj hj=>by
     have hm:=(JM j).2 ⟨rm _ j hj,hj⟩;have:N1=[]:=List.eq_nil_of_length_eq_zero (by omega);rw[this]at hm;cases hm
    have:=qJ gC (t-k) j;rw[show lo+k+(t-k)=lo+t by omega]at this
    exact absurd cO this
   ·refine⟨⟨M,hO,by omega,ij DB p6 λt j ht cO=>?_⟩,bC⟩;rcases ht with ht|ht
    ·omega
    exact⟨t,by omega,cO⟩
   ·skip;refine aA (hx cD jS X wx rb mb us nm _ (h.below bC) _ (aV.below hV bC) _ N1 AA haN hrN (λj hj=>((JM j).1 hj).1)) ?_;rintro r wy ⟨jC,cp⟩;have zy:=cp.size;have gz:=bC.trans (cp.mono zx);have aBO:=cZ (cU us.length (dK (aZ nm) (an us) back x) N1) (λj hj=>(fw.1 hj).1);have DC:=ph JM (rm (lo+k));have AB:Arg r:=jC.dH;have oq:=hO.below cp;push_cast -dsimp;refine oA (base:=w.heap.size) (enc:=br) (ys:=jf us.length (dK (aZ nm) (an us) back x) N1) bw oq (jC.sl) AB (by simp[br,Value.oneCell']) (by omega) (by omega) ?_;intro v5 w5 gR rh kU mT;have z5:=kU.size;have AE:=gz.trans (kU.mono (by omega));have hl5:(M++jf us.length (dK (aZ nm) (an us) back x) N1).length<=3000:=by rw[List.length_append];omega
    push_cast -dsimp;refine aA (kE _ (by omega) _ v5 w5 gR) ?_;rintro _ w6 ⟨⟨m1,gi,mR⟩,JJ⟩;have z6:=JJ.size;have aBH:=jy gi;push_cast -dsimp;refine aA (fg m1 (by omega) _ v5 w6 mR) ?_;rintro v7 w7 ⟨⟨m2,dB,Cw,tC⟩,JK⟩;have z7:=JK.size;obtain⟨mB,xe⟩:=tN gi dB;have oH:Below w.heap.size w w7:=AE.trans ((JJ.below (by omega) (λi h=>(gR.block i h).1)).trans (JK.below (by omega) (λi h=>(gR.block i h).1)));have It:=jC.ak (Kept.grown rh (X:=λj=>(Value.slice oa M.length oc).ownBlock=some j) (λ_ h=>h)) (λg hg hh=>by have:=jC.block g hg;have:=hO.block g hh;omega);have xf:∀g,r.ownBlock=some g->v5.ownBlock≠some g:=λg hg hh=>by
     have h1:=jC.block g hg;rcases mT g hh with h2|h2
     ·have:=hO.block g h2;omega
     omega
    have Iu:=(It.ak JJ (λg hg hh=>xf g hg hh)).ak JK (λg hg hh=>xf g hg hh);have SO:Sl (λ_=>False) 1 (En br) w7 r (jf us.length (dK (aZ nm) (an us) back x) N1):=Iu.sl.weaken (λ_ h=>h.elim);have lz:∀j,j∈m2↔j<=us.length/\∃s,s<=k+1/\stM (dK (aZ nm) (an us) back x) from_ (lo+s) j:=λj=>by
     rw[xe,List.mem_append,DB j,DC j];constructor
     ·rintro(⟨h1,s,h2,h3⟩|⟨h1,h2⟩)
      ·exact⟨h1,s,by omega,h3⟩
      exact⟨h1,k+1,Nat.le_refl _,h2⟩
     rintro⟨h1,s,h2,h3⟩;by_cases hs:s=k+1
     ·subst hs;exact .inr ⟨h1,h3⟩
     exact .inl ⟨h1,s,by omega,h3⟩
    have xl:∀y∈M,y∈m2:=λy hy=>(xe y).2 (List.mem_append_left _ hy);have NM:=tV TF mB xl;have p7:=cZ mB (λj hj=>((lz j).1 hj).1);have eM:=Cw.slice;obtain⟨o7,c7,rfl⟩:=eM;push_cast -dsimp[d4 _ oH];have xo:(Value.int .i64 ((lo:Int)+k+1))=.int .i64 ((lo+(k+1):Nat):Int):=by
     congr 1
    refine⟨λiB=>⟨λrL=>?_,λhns=>⟨⟨by omega,by have:=XZ iB;omega⟩,?_,?_⟩⟩,λSu=>⟨⟨by omega,by omega⟩,?_,?_⟩⟩
    ·have heq:=q6 TF mB xl (by omega);refine⟨⟨m2,Cw,by omega,ij lz (.inl iB) λt j ht cO=>?_⟩,oH⟩
     have:=qI (a:=lo) (k:=k) (λj hj=>by
      have h1:j∈m2:=(lz j).2 ⟨rm _ j hj,k+1,Nat.le_refl _,hj⟩;rw[<-heq]at h1;exact((DB j).1 h1).2) t j cO
     obtain⟨s,hs,h2⟩:=this;exact⟨s,by omega,h2⟩
    ·exact⟨k+1,_,_,_,m2,xo,rfl,rfl,SO,AB,cU _ _ _,DC,Cw,mB,lz,.inl iB,(λ_=>by have:=XZ iB;omega),oH⟩
    ·rw[h9,nH];simp only[if_pos iB,Nc];omega
    ·exact⟨k+1,_,_,_,m2,xo,rfl,rfl,SO,AB,cU _ _ _,DC,Cw,mB,lz,.inr (by omega),(λhh=>absurd hh Su),oH⟩
    rw[h9,nH];simp only[if_neg Su,intOf];omega
   skip;refine⟨⟨M,hO,by omega,ij DB p6 λt j ht cO=>?_⟩,bC⟩;by_cases rp:t<k
   ·exact⟨t,by omega,cO⟩
   have gC:∀j,¬stM (dK (aZ nm) (an us) back x) from_ (lo+k) j:=λj hj=>by
    have hm:=(JM j).2 ⟨rm _ j hj,hj⟩;have:N1=[]:=List.eq_nil_of_length_eq_zero (by omega);rw[this]at hm;cases hm
   have:=qJ gC (t-k) j;rw[show lo+k+(t-k)=lo+t by omega]at this
   exact absurd cO this
  rw[decide_eq_false heq];push_cast -dsimp;exact⟨⟨by omega,by omega⟩,⟨t+1,_,_,rfl,rfl,by omega,(hO.sl.weaken (λ_ h=>h.elim)).below fo,hO.dH,cU _ _ _,DC,gz.trans (fo.mono (by omega))⟩,by rw[h17];simp only[intOf];omega⟩
 have GO:t=lo:=by omega
 rw[GO]at As;have hbR:=bC;have zR:=hbR.size;have hlR:=cZ Zy (λj hj=>((As j).1 hj).1);refine aA (kH L (by omega) (λ_=>False) ov (wx) hL haL) ?_;rintro vo wo ⟨hOo,x7⟩;have zo:=x7.size;have SZ:=hbR.trans (x7.mono zR);push_cast -dsimp[d3 _ SZ];refine aM [7,9,10,11,39,40,41,42,43,44,45,46,47,48,49,50,51,52,53,54,55,56,57,58,59,60,61,62,63,64,65,66,67,68,69,70,71,72,73,74,75,76,77,78,79,80,81,82,83,84,85,86,87] (λz wx=>∃(k:Nat) (nv:Value) (N1:List Nat) (ov:Value) (M:List Nat),z 10=.int .i64 ((lo+k:Nat):Int)/\z 7=nv/\z 9=ov/\Sl (λ_=>False) 1 (En br) wx nv N1/\Arg nv/\N1.Pairwise (·<·)/\(∀j,j∈N1↔j<=us.length/\stM (dK (aZ nm) (an us) back x) from_ (lo+k) j)/\Vc.Own w.heap.size 3 1 br wx ov M/\M.Pairwise (·<·)/\(∀j,j∈M↔j<=us.length/\∃s,s<=k/\stM (dK (aZ nm) (an us) back x) from_ (lo+s) j)/\(hi<0\/((lo+k:Nat):Int)<=hi)/\(hi<0->k<=M.length)/\Below w.heap.size w wx) (λz _=>if hi<0 then us.length+2-Nc (z 9) else (hi-intOf (z 10)).toNat) ?_ ?_
 ·refine⟨0,_,L,_,L,rfl,rfl,rfl,(hL).below x7,haL,Zy,As,hOo.mono zR,Zy,λj=>?_,hlh,λ_=>Nat.zero_le _,SZ⟩;rw[As j];refine and_congr Iff.rfl ?_;constructor
  ·intro hh;exact⟨0,Nat.le_refl _,hh⟩
  rintro⟨s,hs,hh⟩;have:s=0:=by omega
  subst this;exact hh
 intro z wx hI;obtain⟨k,nv,N1,ov,M,nH,h7,h9,AA,haN,hrN,JM,hO,TF,DB,p6,XZ,bC⟩:=hI;have zx:=bC.size;have hlN:=cZ hrN (λj hj=>((JM j).1 hj).1);have hlM:=cZ TF (λj hj=>((DB j).1 hj).1);have eM:=AA.shape;obtain⟨na,nc,rfl,_⟩:=eM;have eM:=hO.slice;obtain⟨oa,oc,rfl⟩:=eM;push_cast -dsimp[nH,h7,h9,d4 _ bC,d2 _ bC,cx _ bC];refine⟨λmA=>⟨λJL=>⟨λpG=>?_,λhz=>?_⟩,λSg=>?_⟩,λmA=>⟨λpG=>?_,λhz=>?_⟩⟩
 ·skip;refine aA (hx cD jS X wx rb mb us nm _ (h.below bC) _ (aV.below hV bC) _ N1 AA haN hrN (λj hj=>((JM j).1 hj).1)) ?_;rintro r wy ⟨jC,cp⟩;have zy:=cp.size;have gz:=bC.trans (cp.mono zx);have aBO:=cZ (cU us.length (dK (aZ nm) (an us) back x) N1) (λj hj=>(fw.1 hj).1);have DC:=ph JM (rm (lo+k));have AB:Arg r:=jC.dH;have oq:=hO.below cp;push_cast -dsimp;refine oA (base:=w.heap.size) (enc:=br) (ys:=jf us.length (dK (aZ nm) (an us) back x) N1) bw oq (jC.sl) AB (by simp[br,Value.oneCell']) (by omega) (by omega) ?_;intro v5 w5 gR rh kU mT;have z5:=kU.size;have AE:=gz.trans (kU.mono (by omega));have hl5:(M++jf us.length (dK (aZ nm) (an us) back x) N1).length<=3000:=by rw[List.length_append];omega
  push_cast -dsimp;refine aA (kE _ (by omega) _ v5 w5 gR) ?_;rintro _ w6 ⟨⟨m1,gi,mR⟩,JJ⟩;have z6:=JJ.size;have aBH:=jy gi;push_cast -dsimp;refine aA (fg m1 (by omega) _ v5 w6 mR) ?_;rintro v7 w7 ⟨⟨m2,dB,Cw,tC⟩,JK⟩;have z7:=JK.size;obtain⟨mB,xe⟩:=tN gi dB;have oH:Below w.heap.size w w7:=AE.trans ((JJ.below (by omega) (λi h=>(gR.block i h).1)).trans (JK.below (by omega) (λi h=>(gR.block i h).1)));have It:=jC.ak (Kept.grown rh (X:=λj=>(Value.slice oa M.length oc).ownBlock=some j) (λ_ h=>h)) (λg hg hh=>by have:=jC.block g hg;have:=hO.block g hh;omega);have xf:∀g,r.ownBlock=some g->v5.ownBlock≠some g:=λg hg hh=>by
   have h1:=jC.block g hg;rcases mT g hh with h2|h2
   ·have:=hO.block g h2;omega
   omega
  have Iu:=(It.ak JJ (λg hg hh=>xf g hg hh)).ak JK (λg hg hh=>xf g hg hh);have SO:Sl (λ_=>False) 1 (En br) w7 r (jf us.length (dK (aZ nm) (an us) back x) N1):=Iu.sl.weaken (λ_ h=>h.elim);have lz:∀j,j∈m2↔j<=us.length/\∃s,s<=k+1/\stM (dK (aZ nm) (an us) back x) from_ (lo+s) j:=λj=>by
   rw[xe,List.mem_append,DB j,DC j];constructor
   ·rintro(⟨h1,s,h2,h3⟩|⟨h1,h2⟩)
    ·exact⟨h1,s,by omega,h3⟩
    exact⟨h1,k+1,Nat.le_refl _,h2⟩
   rintro⟨h1,s,h2,h3⟩;by_cases hs:s=k+1
   ·subst hs;exact .inr ⟨h1,h3⟩
   exact .inl ⟨h1,s,by omega,h3⟩
  have xl:∀y∈M,y∈m2:=λy hy=>(xe y).2 (List.mem_append_left _ hy);have NM:=tV TF mB xl;have p7:=cZ mB (λj hj=>((lz j).1 hj).1);have eM:=Cw.slice;obtain⟨o7,c7,rfl⟩:=eM;push_cast -dsimp[d4 _ oH];have xo:(Value.int .i64 ((lo:Int)+k+1))=.int .i64 ((lo+(k+1):Nat):Int):=by
   congr 1
  refine⟨λiB=>⟨λrL=>?_,λhns=>⟨⟨by omega,by have:=XZ iB;omega⟩,?_,?_⟩⟩,λSu=>⟨⟨by omega,by omega⟩,?_,?_⟩⟩
  ·have heq:=q6 TF mB xl (by omega);refine⟨⟨m2,Cw,by omega,ij lz (.inl iB) λt j ht cO=>?_⟩,oH⟩
   have:=qI (a:=lo) (k:=k) (λj hj=>by
    have h1:j∈m2:=(lz j).2 ⟨rm _ j hj,k+1,Nat.le_refl _,hj⟩;rw[<-heq]at h1;exact((DB j).1 h1).2) t j cO
   obtain⟨s,hs,h2⟩:=this;exact⟨s,by omega,h2⟩
  ·exact⟨k+1,_,_,_,m2,xo,rfl,rfl,SO,AB,cU _ _ _,DC,Cw,mB,lz,.inl iB,(λ_=>by have:=XZ iB;omega),oH⟩
  ·rw[h9,nH];simp only[if_pos iB,Nc];omega
  ·exact⟨k+1,_,_,_,m2,xo,rfl,rfl,SO,AB,cU _ _ _,DC,Cw,mB,lz,.inr (by omega),(λhh=>absurd hh Su),oH⟩
  rw[h9,nH];simp only[if_neg Su,intOf];omega
 ·skip;refine⟨⟨M,hO,by omega,ij DB p6 λt j ht cO=>?_⟩,bC⟩;by_cases rp:t<k
  ·exact⟨t,by omega,cO⟩
  have gC:∀j,¬stM (dK (aZ nm) (an us) back x) from_ (lo+k) j:=λj hj=>by
   have hm:=(JM j).2 ⟨rm _ j hj,hj⟩;have:N1=[]:=List.eq_nil_of_length_eq_zero (by omega);rw[this]at hm;cases hm
  have:=qJ gC (t-k) j;rw[show lo+k+(t-k)=lo+t by omega]at this
  exact absurd cO this
 ·refine⟨⟨M,hO,by omega,ij DB p6 λt j ht cO=>?_⟩,bC⟩;rcases ht with ht|ht
  ·omega
  exact⟨t,by omega,cO⟩
 ·skip;refine aA (hx cD jS X wx rb mb us nm _ (h.below bC) _ (aV.below hV bC) _ N1 AA haN hrN (λj hj=>((JM j).1 hj).1)) ?_;rintro r wy ⟨jC,cp⟩;have zy:=cp.size;have gz:=bC.trans (cp.mono zx);have aBO:=cZ (cU us.length (dK (aZ nm) (an us) back x) N1) (λj hj=>(fw.1 hj).1);have DC:=ph JM (rm (lo+k));have AB:Arg r:=jC.dH;have oq:=hO.below cp;push_cast -dsimp;refine oA (base:=w.heap.size) (enc:=br) (ys:=jf us.length (dK (aZ nm) (an us) back x) N1) bw oq (jC.sl) AB (by simp[br,Value.oneCell']) (by omega) (by omega) ?_;intro v5 w5 gR rh kU mT;have z5:=kU.size;have AE:=gz.trans (kU.mono (by omega));have hl5:(M++jf us.length (dK (aZ nm) (an us) back x) N1).length<=3000:=by rw[List.length_append];omega
  push_cast -dsimp;refine aA (kE _ (by omega) _ v5 w5 gR) ?_;rintro _ w6 ⟨⟨m1,gi,mR⟩,JJ⟩;have z6:=JJ.size;have aBH:=jy gi;push_cast -dsimp;refine aA (fg m1 (by omega) _ v5 w6 mR) ?_;rintro v7 w7 ⟨⟨m2,dB,Cw,tC⟩,JK⟩;have z7:=JK.size;obtain⟨mB,xe⟩:=tN gi dB;have oH:Below w.heap.size w w7:=AE.trans ((JJ.below (by omega) (λi h=>(gR.block i h).1)).trans (JK.below (by omega) (λi h=>(gR.block i h).1)));have It:=jC.ak (Kept.grown rh (X:=λj=>(Value.slice oa M.length oc).ownBlock=some j) (λ_ h=>h)) (λg hg hh=>by have:=jC.block g hg;have:=hO.block g hh;omega);have xf:∀g,r.ownBlock=some g->v5.ownBlock≠some g:=λg hg hh=>by
   have h1:=jC.block g hg;rcases mT g hh with h2|h2
   ·have:=hO.block g h2;omega
   omega
  have Iu:=(It.ak JJ (λg hg hh=>xf g hg hh)).ak JK (λg hg hh=>xf g hg hh);have SO:Sl (λ_=>False) 1 (En br) w7 r (jf us.length (dK (aZ nm) (an us) back x) N1):=Iu.sl.weaken (λ_ h=>h.elim);have lz:∀j,j∈m2↔j<=us.length/\∃s,s<=k+1/\stM (dK (aZ nm) (an us) back x) from_ (lo+s) j:=λj=>by
   rw[xe,List.mem_append,DB j,DC j];constructor
   ·rintro(⟨h1,s,h2,h3⟩|⟨h1,h2⟩)
    ·exact⟨h1,s,by omega,h3⟩
    exact⟨h1,k+1,Nat.le_refl _,h2⟩
   rintro⟨h1,s,h2,h3⟩;by_cases hs:s=k+1
   ·subst hs;exact .inr ⟨h1,h3⟩
   exact .inl ⟨h1,s,by omega,h3⟩
  have xl:∀y∈M,y∈m2:=λy hy=>(xe y).2 (List.mem_append_left _ hy);have NM:=tV TF mB xl;have p7:=cZ mB (λj hj=>((lz j).1 hj).1);have eM:=Cw.slice;obtain⟨o7,c7,rfl⟩:=eM;push_cast -dsimp[d4 _ oH];have xo:(Value.int .i64 ((lo:Int)+k+1))=.int .i64 ((lo+(k+1):Nat):Int):=by
   congr 1
  refine⟨λiB=>⟨λrL=>?_,λhns=>⟨⟨by omega,by have:=XZ iB;omega⟩,?_,?_⟩⟩,λSu=>⟨⟨by omega,by omega⟩,?_,?_⟩⟩
  ·have heq:=q6 TF mB xl (by omega);refine⟨⟨m2,Cw,by omega,ij lz (.inl iB) λt j ht cO=>?_⟩,oH⟩
   have:=qI (a:=lo) (k:=k) (λj hj=>by
    have h1:j∈m2:=(lz j).2 ⟨rm _ j hj,k+1,Nat.le_refl _,hj⟩;rw[<-heq]at h1;exact((DB j).1 h1).2) t j cO
   obtain⟨s,hs,h2⟩:=this;exact⟨s,by omega,h2⟩
  ·exact⟨k+1,_,_,_,m2,xo,rfl,rfl,SO,AB,cU _ _ _,DC,Cw,mB,lz,.inl iB,(λ_=>by have:=XZ iB;omega),oH⟩
  ·rw[h9,nH];simp only[if_pos iB,Nc];omega
  ·exact⟨k+1,_,_,_,m2,xo,rfl,rfl,SO,AB,cU _ _ _,DC,Cw,mB,lz,.inr (by omega),(λhh=>absurd hh Su),oH⟩
  rw[h9,nH];simp only[if_neg Su,intOf];omega
 skip;refine⟨⟨M,hO,by omega,ij DB p6 λt j ht cO=>?_⟩,bC⟩;by_cases rp:t<k
 ·exact⟨t,by omega,cO⟩
 have gC:∀j,¬stM (dK (aZ nm) (an us) back x) from_ (lo+k) j:=λj hj=>by
  have hm:=(JM j).2 ⟨rm _ j hj,hj⟩;have:N1=[]:=List.eq_nil_of_length_eq_zero (by omega);rw[this]at hm;cases hm
 have:=qJ gC (t-k) j;rw[show lo+k+(t-k)=lo+t by omega]at this
 exact absurd cO this
theorem QL (x:aI)(lo hi:Int)(hx:vU x):vU (.many x lo hi):=by
 intro cD jS X w rb mb us nm back h v hV fv from_ hf ha hr hle;have hlen:=h.len;have sQ:=cZ hr hle;have hpm:=oh (x:=x) (lo:=lo) (hi:=hi);simp only[bQ]at cD;obtain⟨rk,h0,h1,h2,h3⟩:=cD;obtain⟨l,rfl⟩:∃l:Nat,lo=l:=⟨lo.toNat,by omega⟩;have XP:=hV;simp only[aV]at hV;obtain⟨b,sv,u,rfl,hb,hB,hs,hV⟩:=hV;obtain⟨fa,fc,rfl,Pq⟩:=hf.shape;have d0:w.cell? ⟨b,0,none⟩=some (.int .i64 6):=hB.cell rfl;refine aE Tryz.func45 rfl (by kernel_rfl) [6] rfl ?_;push_cast -dsimp(maxSteps:=4000000) [Tryz.ntmps45];push_cast -dsimp[d0];refine aA (aCG x l hi hx rk (by omega) (by omega) h2 h3 X w rb mb us nm back h _ XP _ from_ hf ha hr hle) ?_;rintro r wx ⟨⟨M,hO,hlM,DB⟩,bC⟩;push_cast -dsimp;have Fo:=bC;have zF:=Fo.size;refine aA (kH M (by omega) (λ_=>False) _ (wx) (hO.sl.weaken (λ_ h=>h.elim)) hO.dH) ?_;rintro vc wc ⟨xg,Fp⟩;have zc:=Fp.size;push_cast -dsimp;refine aA (kE M (by omega) _ vc wc xg) ?_;rintro _ wd ⟨⟨m1,gi,Hu⟩,GG⟩;have zd:=GG.size;have sQ:=jy gi;push_cast -dsimp;refine aA (fg m1 (by omega) _ vc wd Hu) ?_;rintro vr we ⟨⟨m2,dB,nB,tC⟩,fL⟩;have Sd:=uB gi dB DB;subst Sd;push_cast -dsimp;exact⟨nB.mono zF,Fo.trans ((Fp.mono zF).trans ((GG.below (by omega) (λi h=>by have:=xg.block i h;omega)).trans (fL.below (by omega) (λi h=>by have:=xg.block i h;omega))))⟩
mutual
theorem QJ:∀x,vU x
 | .one k=>WO k
 | .any=>WM
 | .iA=>QK
 | .cat l=>WN l (IP l)
 | .alt l=>WL l (IP l)
 | .many x lo hi=>QL x lo hi (QJ x)
theorem IP:∀(l:List aI) (x:aI),x∈l->vU x
 | [],x,h=>by cases h
 | y::l,x,h=>by
  have hy:=QJ y;rcases List.mem_cons.1 h with h|h
  ·rw[h];exact hy
  exact IP l x h
end
end Go.Proofs.YtodeeahdhnjpkaaGreatDoor
end
section
end
section
namespace Cae
section
variable {has:ax->Int->Prop} {pts:List Int}
theorem sD {els:Bool}{i:Nat}:∀{a b:List cW},(∀r∈a,¬yJ has pts r i)->ml has pts els i (a++b)=ml has pts els i b
 | [],_,_=>rfl
 | r::a,b,h=>by
  rw[List.cons_append,ml,if_neg (h r (List.mem_cons_self ..))];exact sD λx hx=>h x (List.mem_cons_of_mem _ hx)
theorem Uv {els:Bool}{i k:Nat}{l:List cW}{r:cW}(hk:l[k]?=some r)(hr:yJ has pts r i)(gC:∀x∈l.take k,¬yJ has pts x i):ml has pts els i l=r.brk:=by
 obtain⟨bZ,he⟩:=List.getElem?_eq_some_iff.1 hk;have e:l=l.take k++(r::l.drop (k+1)):=by
  rw[<-he,<-List.drop_eq_getElem_cons bZ,List.take_append_drop]
 rw[e,sD gC,ml,if_pos hr]
theorem KC {els:Bool}{i:Nat}{l:List cW}(gC:∀x∈l,¬yJ has pts x i):ml has pts els i l=els:=by
 have:=sD (els:=els) (b:=[]) gC;rw[List.append_nil]at this;rw[this,ml]
theorem HT {x:aI}{i:Nat}{back:Bool}(hi:i<=pts.length):0<(jf pts.length (dK has pts back x) [i]).length↔qd has pts x i back:=by
 rw[List.length_pos_iff_exists_mem];constructor
 ·rintro⟨j,hj⟩;obtain⟨_,k,hk,h⟩:=fw.1 hj;rw[List.mem_singleton]at hk;subst hk;exact⟨j,h⟩
 rintro⟨j,h⟩;exact⟨j,fw.2 ⟨ja x hi h,i,List.mem_singleton.2 rfl,h⟩⟩
end
end Cae
namespace Go.Proofs.YtodeeahdhnjpkaaGreatDoor
open Go.Vc Go.Proofs Go.RowKit Cae
attribute [local irreducible] cw ag aq a8 runK bD Sl Vc.Own vc aW cN ai
theorem tX (x:aI)(cD:bQ x)(jS:wd x<=100000)(nm:bP)(hr:fZ nm)(us:List U)(hlen:us.length<=1000)(i:Nat)(hi:i<=us.length)(back:Bool)(X:Nat->Prop)(v lv:Value)(mb:Nat)(w:World)(hV:aV X w v x)(hN:gH X w mb nm)(hU:Sl X 3 (En lL) w lv us) :
  bD Tryz.prog 20 [v,.map (some mb),lv,.int .i64 i,.bool back] w λr w'=>(∃b:Bool,r=.bool b/\(b=true↔qd (aZ nm) (an us) x i back))/\Below w.heap.size w w':=by
 obtain⟨la,lc,rfl,Ar⟩:=hU.shape;refine aE Tryz.func20 rfl (by kernel_rfl) [10] rfl ?_;push_cast -dsimp(maxSteps:=4000000) [Tryz.ntmps20];refine⟨λ_=>⟨λNK=>by omega,λ_=>?_⟩,λmA=>by omega⟩;push_cast -dsimp;refine ah ?_;intro w1 au;have au:qR w w1 119 [.slice la us.length lc,.map (some mb),.bool back]:=au;have z1:=au.size;push_cast -dsimp;refine cY bw rfl rfl (by omega) ?_;intro w2 bT;have z2:=bT.size;have aFS:=bT.below;have jD:=au.below.trans (aFS.mono (by omega));have hR:Mr X w2 w.heap.size mb us nm back:=⟨⟨_,au.aN.below aFS (by omega),hU.below jD⟩,hN.below jD,hr,hlen⟩;push_cast -dsimp;have jC:Vc.Own w1.heap.size 3 1 br w2 (.slice (some ⟨w1.heap.size,0,none⟩) 1 1) [i]:=bT.own (by rfl) rfl (λ_=>rfl) (by omega) (by omega);refine aA (QJ x cD jS _ w2 w.heap.size mb us nm back hR v (hV.below jD) _ [i] (jC.sl.weaken (λ_ h=>h.elim)) jC.dH (by simp) (by simpa using hi)) ?_;rintro r w3 ⟨hO,ft⟩;have z3:=ft.size;obtain⟨oa,oc,rfl⟩:=hO.slice;have hS:=HT (has:=aZ nm) (x:=x) (back:=back) (show i<=(an us).length by rw[eP];exact hi)
 rw[eP]at hS;push_cast -dsimp;refine⟨⟨_,rfl,?_⟩,jD.trans (ft.mono (by omega))⟩;rw[<-hS,decide_eq_true_iff];omega
theorem YE (c:cW)(cD:bQ c.before/\bQ c.after)(jS:wd c.before<=100000/\wd c.after<=100000)(nm:bP)(hr:fZ nm)(us:List U)(hlen:us.length<=1000)(i:Nat)(hi:i<=us.length)(X:Nat->Prop)(x1 x2:Nat)(lv:Value)(mb nb lb ib:Nat)(w:World)
  (h1:aV X w (bF x1) c.before) (h2:aV X w (bF x2) c.after) (hN:gH X w mb nm) (hU:Sl X 3 (En lL) w lv us) (cn:w.cell? ⟨nb,0,none⟩=some (.map (some mb))) (cl:w.cell? ⟨lb,0,none⟩=some lv) (ci:w.cell? ⟨ib,0,none⟩=some (.int .i64 i)) :
  bD Tryz.prog 43 [.agg #[.int .i64 c.pos,.bool c.brk,.pointer (some ⟨x1,0,none⟩),.pointer (some ⟨x2,0,none⟩)],.pointer (some ⟨nb,0,none⟩),.pointer (some ⟨lb,0,none⟩),.pointer (some ⟨ib,0,none⟩)] w λr w'=>(∃b:Bool,r=.bool b/\(b=true↔yJ (aZ nm) (an us) c i))/\Below w.heap.size w w':=by
 refine aE Tryz.func43 rfl (by kernel_rfl) [5] rfl ?_;push_cast -dsimp(maxSteps:=4000000) [Tryz.ntmps43];refine ah ?_;intro w1 au;have au:qR w w1 60 [.int .i64 c.pos,.bool c.brk,.pointer (some ⟨x1,0,none⟩),.pointer (some ⟨x2,0,none⟩)]:=au;have z1:=au.size;have de:=au.below;have R1:=au.aN;have e2:w1.cell? ⟨w.heap.size,2,none⟩=some (.pointer (some ⟨x1,0,none⟩)):=R1.cell rfl;have cn1:w1.cell? ⟨nb,0,none⟩=some (.map (some mb)):=(de.cell (World.block_lt_of_cell? w _ cn)).trans cn;have cl1:w1.cell? ⟨lb,0,none⟩=some lv:=(de.cell (World.block_lt_of_cell? w _ cl)).trans cl;have ci1:w1.cell? ⟨ib,0,none⟩=some (.int .i64 i):=(de.cell (World.block_lt_of_cell? w _ ci)).trans ci;push_cast -dsimp[e2,cn1,cl1,ci1];refine aA (tX c.before cD.1 jS.1 nm hr us hlen i hi true X _ lv mb w1 (h1.below de) (hN.below de) (hU.below de)) ?_;rintro _ w2 ⟨⟨b,rfl,hb⟩,eW⟩;have z2:=eW.size;have jD:=de.trans (eW.mono (by omega));cases b with
 | false =>
  push_cast -dsimp;refine⟨⟨false,rfl,?_⟩,jD⟩;constructor
  ·intro h;cases h
  intro h;have:=hb.2 h.1;cases this
 | true =>
  have e3:w2.cell? ⟨w.heap.size,3,none⟩=some (.pointer (some ⟨x2,0,none⟩)):=(R1.below eW (by omega)).cell rfl;have cn2:w2.cell? ⟨nb,0,none⟩=some (.map (some mb)):=(eW.cell (World.block_lt_of_cell? w1 _ cn1)).trans cn1;have cl2:w2.cell? ⟨lb,0,none⟩=some lv:=(eW.cell (World.block_lt_of_cell? w1 _ cl1)).trans cl1;have ci2:w2.cell? ⟨ib,0,none⟩=some (.int .i64 i):=(eW.cell (World.block_lt_of_cell? w1 _ ci1)).trans ci1;push_cast -dsimp[e3,cn2,cl2,ci2];refine aA (tX c.after cD.2 jS.2 nm hr us hlen i hi false X _ lv mb w2 (h2.below jD) (hN.below jD) (hU.below jD)) ?_;rintro _ w3 ⟨⟨b',rfl,pW⟩,ft⟩;push_cast -dsimp;refine⟨⟨_,rfl,?_⟩,jD.trans (ft.mono (by omega))⟩;rw[pW];exact⟨λh=>⟨hb.1 rfl,h⟩,λh=>h.2⟩
theorem OY (l:List cW)(hl:l.length<=1000000)(cD:∀c∈l,bQ c.before/\bQ c.after)(jS:∀c∈l,wd c.before<=100000/\wd c.after<=100000)(nm:bP)(hr:fZ nm)(us:List U)(hlen:us.length<=1000)(i:Nat)(hi:i<=us.length)(X:Nat->Prop)(rv lv:Value)(rs:List (Nat×Bool×Nat×Nat))(mb nb lb ib:Nat)(w:World)
  (fO:Sl X 4 (En gv) w rv rs) (hR:dd (kG X w) rs l) (hN:gH X w mb nm) (hU:Sl X 3 (En lL) w lv us) (cn:w.cell? ⟨nb,0,none⟩=some (.map (some mb))) (cl:w.cell? ⟨lb,0,none⟩=some lv) (ci:w.cell? ⟨ib,0,none⟩=some (.int .i64 i)) :
  bD Tryz.prog 42 [rv,.func (.func 43) #[] #[.pointer (some ⟨nb,0,none⟩),.pointer (some ⟨lb,0,none⟩),.pointer (some ⟨ib,0,none⟩)]] w λr w' =>
   ((∃(k:Nat) (c:cW),r=.int .i64 k/\l[k]?=some c/\yJ (aZ nm) (an us) c i/\∀d∈l.take k,¬yJ (aZ nm) (an us) d i)\/(r=.int .i64 (-1)/\∀d∈l,¬yJ (aZ nm) (an us) d i))/\Below w.heap.size w w':=by
 have NR:=dd.len hR;obtain⟨ra,rc,rfl,hrc⟩:=fO.shape;refine aE Tryz.func42 rfl (by kernel_rfl) [4] rfl ?_;push_cast -dsimp(maxSteps:=4000000) [Tryz.ntmps42];refine aM [4,5,8,9,10,11,12,13,14,15,16,17,18] (λz wx=>∃(k:Nat),z 8=.int .i64 k/\k<=l.length/\(∀d∈l.take k,¬yJ (aZ nm) (an us) d i)/\Below w.heap.size w wx) (λz _=>l.length-(intOf (z 8)).toNat) ?_ ?_
 ·exact⟨0,rfl,Nat.zero_le _,by simp,Below.refl _ _⟩
 intro z wx hI;obtain⟨k,h8,hk,gC,bC⟩:=hI;have zx:=bC.size;push_cast -dsimp[h8];refine⟨λbZ=>?_,λgh=>?_⟩
 ·obtain⟨c,hc,qm,_,ht⟩:=bK (l:=l) (i:=k) (by omega);obtain⟨x,hx,wK,tD,Av,wJ⟩:=jV hR hc;obtain⟨xp,xb,x1,x2⟩:=x;simp only at wK tD Av wJ;subst wK;subst tD;obtain⟨b1,o,rfl,zJ,aP⟩:=(fO.below bC).get hx;have c4:aB wx ⟨b1,o+k*4,none⟩ 0 4=some [.int .i64 c.pos,.bool c.brk,.pointer (some ⟨x1,0,none⟩),.pointer (some ⟨x2,0,none⟩)]:=bL _ 0 (λj u hu=>by simpa[gv,bF] using aP j u hu);push_cast -dsimp[c4];refine⟨⟨by omega,by omega⟩,?_⟩;refine aA (YE c (cD c qm) (jS c qm) nm hr us hlen i hi X x1 x2 lv mb nb lb ib wx (Av.below bC) (wJ.below bC) (hN.below bC) (hU.below bC) ((bC.cell (World.block_lt_of_cell? w _ cn)).trans cn) ((bC.cell (World.block_lt_of_cell? w _ cl)).trans cl) ((bC.cell (World.block_lt_of_cell? w _ ci)).trans ci)) ?_;rintro _ w1 ⟨⟨b,rfl,hb⟩,de⟩;have iK:=bC.trans (de.mono zx);cases b with
  | true =>
   push_cast -dsimp;exact⟨.inl ⟨k,c,rfl,hc,hb.1 rfl,gC⟩,iK⟩
  | false =>
   push_cast -dsimp;refine⟨⟨by omega,by omega⟩,⟨k+1,rfl,by omega,?_,iK⟩,by rw[h8];simp only[intOf];omega⟩;intro y hy;rw[ht,List.mem_append,List.mem_singleton]at hy;rcases hy with hy|rfl
   ·exact gC y hy
   intro h;have:=hb.2 h;cases this
 rw[List.take_of_length_le (by omega)]at gC;exact⟨.inr gC,bC⟩
end Go.Proofs.YtodeeahdhnjpkaaGreatDoor
end
