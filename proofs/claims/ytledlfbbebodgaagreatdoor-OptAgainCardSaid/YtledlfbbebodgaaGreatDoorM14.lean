/- Texts of this claim, merged: Cd5, Cd6, Pcod4, Cd7, Cd8, Vt, Cd9, Vmc, Rev, Vb. -/
import Derived.Test.YtledlfbbebodgaaGreatDoorM13
set_option maxRecDepth 100000
set_option linter.unusedSimpArgs false
set_option linter.unusedVariables false
set_option maxHeartbeats 8000000
section
namespace Go.Proofs.YtledlfbbebodgaaGreatDoor
open Go.Vc Go.Proofs Go.RowKit Cae
attribute [local irreducible] dd ae ak a7 runK bE Sl Vc.Own vc aU cJ a8
theorem Mk.patch {B mb nb:Nat}{back:Bool}{X:Nat->Prop}{w w':World}{c:aD}{sv iv:Value}{us:List SV}{g k:Nat}{y:I3}(h:Mk B mb nb back X w c)(hM:MkB B mb nb back X w c sv iv us)(hg:iv.ownBlock=some g)(hO:Vc.Own B 109 3 bV w' iv (c.ins.set k y))(hk:Kept (·=g) w w') :
  Mk B mb nb back X w' ⟨c.sets,c.ins.set k y⟩/\gO mb w w':=by
 obtain⟨hB,xJ,fJ,su,gA,gd,lW,rO⟩:=hM;have hgm:mb≠g:=λe=>gd (by rw[hg,e]);have qH:=hB.kept hk (λhh=>hgm hh);have aD0:=xJ.aI hk (λi hi hh=>lW i hi (by rw[hg,hh]));have hz:=hk.size;refine⟨⟨⟨sv,iv,us,qH,aD0,hO,su,gA,gd,lW,λi u s h1 h2=>(rO i u s h1 h2).kept hk (λi hi=>.inr (.inr (.inr (by rw[hg,hi]))))⟩,h.lt,by have:=h.le;omega,h.few,by rw[List.length_set];exact h.num,by rw[List.length_set];exact h.sum⟩,⟨hk.weaken (λi _ hi=>(eT hB).2 (.inr (.inr (by rw[hg,hi])))),λi hi=>?_⟩⟩
 have:=(eT qH).1 hi;exact .inl ((eT hB).2 this)
theorem Mk.off {B mb nb:Nat}{back:Bool}{X:Nat->Prop}{w:World}{c:aD}(h:Mk B mb nb back X w c){α:Type}{base k:Nat}{e:TypeId}{enc:α->List Value}{v:Value}{l:List α}(hO:Vc.Own base e k enc w v l)(h1:e≠41)(h2:e≠109)(hb:mb<base):∀g,v.ownBlock=some g->¬Mw w mb g:=by
 intro g hg hm;obtain⟨sv,iv,us,hB,xJ,fJ,_⟩:=h.st;rcases(eT hB).1 hm with hm|hm|hm
 ·have:=hO.block g hg;omega
 ·exact qe xJ hO (λe=>h1 e.symm) g hm hg
 exact qe fJ hO (λe=>h2 e.symm) g hm hg
theorem Mk.iA {B mb nb:Nat}{back:Bool}{X X':Nat->Prop}{w:World}{c:aD}(h:Mk B mb nb back X w c)(hX:∀b,X' b->X b):Mk B mb nb back X' w c:=by
 obtain⟨sv,iv,us,hB,xJ,fJ,su,gA,gd,lW,rO⟩:=h.st;exact⟨⟨sv,iv,us,hB,xJ,fJ,su,gA,gd,lW,λi u s h1 h2=>(rO i u s h1 h2).weaken (λb hb=>hb.imp (hX b) id)⟩,h.lt,h.le,h.few,h.num,h.sum⟩
theorem Mk.YU {B mb nb:Nat}{back:Bool}{X:Nat->Prop}{w w':World}{c:aD}{ov ov':Value}(h:Mk B mb nb back (λb=>X b\/ov.ownBlock=some b) w c)(ho:∀g,ov.ownBlock=some g->¬Mw w mb g)(hk:Kept (λj=>ov.ownBlock=some j) w w')(hn:∀g,ov'.ownBlock=some g->ov.ownBlock=some g\/w.heap.size<=g) :
  Mk B mb nb back (λb=>X b\/ov'.ownBlock=some b) w' c:=by
 obtain⟨sv,iv,us,hB,xJ,fJ,su,gA,gd,lW,rO⟩:=h.st;have hz:=hk.size;refine⟨⟨sv,iv,us,hB.kept hk (λhh=>ho _ hh ((eT hB).2 (.inl rfl))),xJ.aI hk (λg hg hh=>ho g hh ((eT hB).2 (.inr (.inl hg)))),fJ.aI hk (λg hg hh=>ho g hh ((eT hB).2 (.inr (.inr hg)))),su,gA,gd,lW,λi u s h1 h2=>?_⟩,h.lt,by have:=h.le;omega,h.few,h.num,h.sum⟩;refine(rO i u s h1 h2).Nz (λ_=>by simp[bL]) hk (λi hi=>.inl (.inr hi)) (λb hb=>?_);rcases hb with (hb|hb)|hb|hb|hb
 ·exact .inl (.inl (.inl hb))
 ·rcases hn b hb with h3|h3
  ·exact .inl (.inl (.inr h3))
  exact .inr h3
 ·exact .inl (.inr (.inl hb))
 ·exact .inl (.inr (.inr (.inl hb)))
 exact .inl (.inr (.inr (.inr hb)))
theorem gO.YU {mb:Nat}{w w1 w2:World}(h:gO mb w w1)(hk:Kept (λi=>w.heap.size<=i) w1 w2)(aw:mb<w.heap.size):gO mb w w2 :=
 ⟨h.kept.trans hk (λi hi hm=>by omega),λi hi=>h.own i (by
  rcases hi with hi|⟨o,v,e1,e2⟩
  ·exact .inl hi
  refine .inr ⟨o,v,?_,e2⟩;have hb:=hk.block mb (by have:=h.kept.size;omega) (by omega);have:w2.cell? ⟨mb,o,none⟩=w1.cell? ⟨mb,o,none⟩:=by simp only[World.cell?,hb]
  rw[<-this];exact e1)⟩
theorem Ext.set {a b:aD}{k:Nat}{y:I3}(h:Ext a b)(hk:a.ins.length<=k):Ext a ⟨b.sets,b.ins.set k y⟩:=⟨λj x hx=>by
 show (b.ins.set k y)[j]?=some x
 have hj:=(List.getElem?_eq_some_iff.1 hx).1;rw[List.getElem?_set,if_neg (by omega)];exact h.ins j x hx,h.sets,by have:=h.sum;simp only[List.length_set];omega⟩
theorem eL.set {a b:aD}{p q k:Nat}{y:I3}(h:eL a b p q)(hk:k<p\/q<=k):eL a ⟨b.sets,b.ins.set k y⟩ p q:=⟨λj h1 h2=>by
 show (b.ins.set k y)[j]?=_
 rw[List.getElem?_set,if_neg (by omega)];exact h.1 j h1 h2,h.2⟩
theorem eL.push {a b:aD}{p q:Nat}{x:I3}(h:eL a b p q)(hq:q<=b.ins.length):eL a (aD.push b x) p q:=⟨λj h1 h2=>by
 show (b.ins++[x])[j]?=_
 rw[List.getElem?_append_left (by omega)];exact h.1 j h1 h2,h.2⟩
theorem rW (c:aD)(x:I3):(aD.push c x).ins[c.ins.length]?=some x:=by
 show (c.ins++[x])[c.ins.length]?=_
 rw[List.getElem?_append_right (Nat.le_refl _),Nat.sub_self];rfl
theorem oT (c:aD)(x:I3):(aD.push c x).ins.length=c.ins.length+1:=by simp[aD.push]
theorem aDu (l:List aF)(dD:l≠[])(cN:∀y∈l,ny y):∀(bJ:bz l) (jE:∀y∈l,wd y<=100000) (Li:l.length<=100000) (nm:bG) (jM:∀y∈l,fi nm y=none) (hr:gh nm) (B mb nb:Nat) (back:Bool) (X Z:Nat->Prop) (w:World) (c:aD) (v:Value) (vs:List Nat) (h:Mk B mb nb back X w c) (hX:∀b,X b->(Z b\/b=mb\/B<=b)/\b<w.heap.size) (jh:nb<mb) (hN:fW (λb=>Z b\/b=mb\/B<=b) w nb nm) (hs:Sl (λb=>Z b\/b=mb\/B<=b) 1 (En fB) w v vs) (hV:aQ (λb=>Z b\/b=mb\/B<=b) w vs l) (qT:c.sets.length<=c.ins.length),
  yB Tryz.prog 78 [.pointer (some ⟨mb,0,none⟩),v] w
  (λr w'=>(∃c',Mk B mb nb back X w' c'/\Ext c c'/\c'.ins.length=c.ins.length+fH l/\lR (bD nm) c' back l c.ins.length c'.ins.length)/\gO mb w w')
  (λce w'=>2000<c.ins.length+fH l/\Kq 4 ce/\gO mb w w'):=by
 intro bJ jE Li nm jM hr B mb nb back X Z w c v vs h hX jh hN hs hV qT;have hvl:=hV.len;have aw:=h.lt;have hle:=h.le;obtain⟨pa,pc,rfl,aE4⟩:=hs.shape;have aJj:0<l.length:=List.length_pos_iff.2 dD;refine bM Tryz.func78 rfl (by kernel_rfl) [] rfl ?_;push_cast -dsimp(maxSteps:=4000000) [Tryz.ntmps78];refine aL [4,5,6,7,12,13,14,15,16,17,18,19,20,21,22,23,24,25,26,27,28,29,30,31,32,33,34,35,36,37,38,39,40,41,42,43,44,45,46,47,48,49,50,51,52,53,54,55,56,57] (λz wx=>∃(i:Nat) (ci:aD) (js:List Nat) (ov:Value),z 12=.int .i64 i/\z 4=ov/\i<l.length/\Mk B mb nb back (λb=>X b\/ov.ownBlock=some b) wx ci/\Ext c ci/\ci.ins.length+fH (l.drop i)=c.ins.length+fH l/\mB (bD nm) ci back (l.take i) c.ins.length js ci.ins.length/\js.length=i/\Vc.Own w.heap.size 3 1 aY wx ov js/\gO mb w wx) (λz _=>l.length-(intOf (z 12)).toNat) ?_ ?_
 ·exact⟨0,c,[],_,rfl,rfl,aJj,h.iA (λb hb=>hb.elim id (λh=>by cases h)),Ext.refl c,by simp,by simp[mB],rfl,Vc.Own.nil (enc:=aY) _ _ (λ_=>rfl) _,gO.refl (by omega)⟩
 intro z wx hI;obtain⟨i,ci,js,ov,HC,h4,hi,CK,CJ,Ip,hJx,hjl,QC,kx⟩:=hI;have Qw:=kx.out h;have zx:=kx.kept.size;have fg:=QC.block;have aAC:=CK.off QC (by decide) (by decide) (by omega);obtain⟨y,hy,HO,hyd,hyt⟩:=au (l:=l) (i:=i) hi;obtain⟨u,hu,hVy⟩:=aQ.nth hV hy;obtain⟨b1,o,rfl,_,aK⟩:=(hs.kept Qw (λ_ h=>.inr h)).get hu;have c0:wx.cell? ⟨b1,o+i,none⟩=some (.pointer (some ⟨u,0,none⟩)):=by simpa[fB,bd] using aK 0 _ rfl
 have j1:fH (l.drop i)=if l.drop (i+1)=[] then bK y else bK y+2+fH (l.drop (i+1)):=by rw[hyd,fH]
 have hXx:∀b,(X b\/ov.ownBlock=some b)->(Z b\/b=mb\/B<=b)/\b<wx.heap.size:=λb hb=>by
  rcases hb with hb|hb
  ·have:=hX b hb;exact⟨this.1,by omega⟩
  have:=fg b hb;exact⟨.inr (.inr (by omega)),this.2⟩
 have od:ci.sets.length<=ci.ins.length:=by have:=CJ.sum;omega
 have ym:∀(w1:World),gO mb wx w1->fW (λb=>Z b\/b=mb\/B<=b) w1 nb nm/\ai (λb=>Z b\/b=mb\/B<=b) w1 (bd u) y:=λw1 k1=>by
  have ko:=Qw.trans (k1.out CK) (λ_ _ h=>h);exact⟨fW.kept hN ko (λ_ h=>.inr h) (λh=>by rcases h with h|h<;>omega) (λ_ h=>h),ai.mono ko (λ_ h=>.inr h) (λ_ h=>h) hVy⟩
 push_cast -dsimp[HC,h4,c0];refine⟨λaS4=>⟨⟨by omega,by omega⟩,⟨by omega,by omega⟩,λDg=>?_,λhnl=>?_⟩,λfT=>by omega⟩
 ·have aNC:i+1=l.length:=by omega
  have hd0:l.drop (i+1)=[]:=List.drop_eq_nil_of_le (by omega);rw[if_pos hd0]at j1;refine aG (cN y HO (fe bJ HO) (jE y HO) nm (jM y HO) hr B mb nb back _ Z wx ci _ CK hXx jh (ym wx (gO.refl (by omega))).1 (ym wx (gO.refl (by omega))).2 od) ?_ ?_
  ·rintro _ wy ⟨⟨cy,Zy,NU,hly,pY⟩,ky⟩;have zy:=ky.kept.size;have uE:=QC.aI ky.kept (λg hg hm=>aAC g hg hm);have hJy:mB (bD nm) cy back (l.take i) c.ins.length js ci.ins.length:=wR _ _ _ _ (NU.same (Nat.le_refl _)) hJx;have aEM:=(vD _ _ _ _ hJy).2;obtain⟨oa,oc,rfl⟩:=QC.slice;have e:∃e,e=cy.ins.length:=⟨_,rfl⟩;obtain⟨e,he⟩:=e;have hXy:∀b,(X b\/(Value.slice oa js.length oc).ownBlock=some b)->(Z b\/b=mb\/B<=b)/\b<wy.heap.size:=λb hb=>by
    have:=hXx b hb;exact⟨this.1,by omega⟩
   push_cast -dsimp;refine aL [9,60,61,62,63,64,65,66,67,68,69,70,71,72,73,74] (λz wz=>∃(t:Nat) (ct:aD),z 60=.int .i64 t/\t<=js.length/\Mk B mb nb back (λb=>X b\/(Value.slice oa js.length oc).ownBlock=some b) wz ct/\kK cy ct (js.take t) (λx=>⟨x.op,(e:Int),x.b⟩)/\Vc.Own w.heap.size 3 1 aY wz (.slice oa js.length oc) js/\gO mb w wz) (λz _=>js.length-(intOf (z 60)).toNat) ?_ ?_
   ·exact⟨0,cy,rfl,Nat.zero_le _,Zy,kK.nil cy _,uE,kx.trans ky⟩
   intro z wz hI;obtain⟨t,ct,h60,ht,I0,vf,hOz,kz⟩:=hI;have zz:=kz.kept.size;have WI:=I0.off hOz (by decide) (by decide) (by omega);have hlz:=vf.len;push_cast -dsimp[h60];refine⟨λQ0=>?_,λfT=>?_⟩
   ·obtain⟨k,hk,xO,_,hkt⟩:=au (l:=js) (i:=t) (by omega);obtain⟨bj,oj,hej,_,qN⟩:=hOz.sl.get hk;cases hej;have cj:wz.cell? ⟨bj,oj+t,none⟩=some (.int .i64 (k:Int)):=by simpa[aY] using qN 0 _ rfl
    have hkl:k<ct.ins.length:=by have:=aEM k xO;have:=hly;omega
    obtain⟨xk,TH,_⟩:=au (l:=ct.ins) (i:=k) hkl;push_cast -dsimp[cj];refine⟨⟨by omega,by omega⟩,?_⟩;have fq:=(I0).st;obtain⟨SU,ivP,usP,oG⟩:=fq;have iB:=oG.2.2.1;obtain⟨iaP,wF,rfl⟩:=iB.slice;have QT:=iB.sl.get TH;obtain⟨gP,oP,eP,_,_⟩:=QT;subst eP;have vu:oP=0:=Vc.Own.ZF iB;subst vu;have Q5:=(List.getElem?_eq_some_iff.1 TH).1;have Di:=(I0).num;have Pk:(wz).drew.cell? ⟨mb,1,none⟩=some (.slice (some ⟨gP,0,none⟩) (ct).ins.length wF):=oG.1.drew.cell rfl;refine eE (λw'=>aM w' mb 115 [SU,.slice (some ⟨gP,0,none⟩) (ct).ins.length wF,.map (some nb),.bool back]) mixed (by kernel_rfl) (by simp) oG.1.drew ?_;push_cast -dsimp[Pk];refine⟨λbU h=>by rw[h.cell (o:=1) rfl];exact rfl,?_⟩;have iC:=bl (wz);refine aA (oz ((I0).below iC)) ?_;rintro _ _ ⟨rfl,rfl⟩;refine⟨oG.1.drew,?_⟩;push_cast -dsimp;refine⟨⟨by omega,by omega⟩,?_⟩;have vd:Vc.Own B 109 3 bV (wz).drew (.slice (some ⟨gP,0,none⟩) (ct).ins.length wF) (ct).ins:=iB.aI ((Kept.refl (λ_=>False) (wz)).drew) (λ_ _ h=>h);refine fy (i:=k) (f:=1) (x:=xk) (y:=(⟨xk.op,(ct.ins.length:Int),xk.b⟩:I3)) vd rfl TH (by decide) rfl rfl ?_;intro wP Py QX zP;have Qb:=Mk.patch ((I0).below iC) (oG.below iC) rfl Py QX;obtain⟨p6,jn⟩:=Qb;have fq:gO mb (wz) wP:=(gO.below iC (by have:=(I0).lt;have:=(I0).le;omega)).trans jn;refine⟨trivial,?_⟩;push_cast -dsimp;have hTn:=kK.step (g:=λx=>⟨x.op,(e:Int),x.b⟩) (λx=>rfl) vf TH;rw[<-hkt]at hTn;have hec:(e:Int)=(ct.ins.length:Int):=by rw[he,hlz]
    rw[hec]at hTn vf;refine⟨⟨by omega,by omega⟩,⟨t+1,_,rfl,by omega,p6,by rw[hec];exact hTn,hOz.aI fq.kept (λg hg hm=>WI g hg hm),kz.trans fq⟩,by rw[h60];simp only[intOf];omega⟩
   have Kf:t=js.length:=by omega
   rw[Kf,List.take_length]at vf;have hll:l.take i++[y]=l:=by rw[<-hyt,List.take_of_length_le (by omega)]
   have hA:lR (bD nm) ct back l c.ins.length e:=by
    have:=YE (y:=y) (l.take i) c.ins.length ci.ins.length e js vf hJy (by rw[he];exact pY) (λk hk=>by have:=aEM k hk;omega);rw[hll]at this;exact this
   have aAq:∀k∈js,c.ins.length<=k:=λk hk=>by have:=(aEM k hk).1;omega
   refine⟨⟨ct,I0.iA (λb hb=>.inl hb),⟨λk x hx=>?_,λk s hs=>?_,?_⟩,by rw[hlz];omega,by rw[hlz,<-he];exact hA⟩,kz⟩
   ·have hk:=(List.getElem?_eq_some_iff.1 hx).1;rw[vf.ins k,if_neg (λhm=>by have:=aAq k hm;omega)];exact(CJ.trans NU).ins k x hx
   ·rw[vf.sets];exact(CJ.trans NU).sets k s hs
   have:=(CJ.trans NU).sum;rw[vf.sets,hlz];exact this
  rintro ce wy ⟨mn,ht,ky⟩;push_cast -dsimp;exact⟨by omega,ht,kx.trans ky⟩
 ·have hd1:l.drop (i+1)≠[]:=by intro hd;have:=congrArg List.length hd;simp at this;omega
  rw[if_neg hd1]at j1;refine aG (th CK (by omega) ⟨2,0,0⟩) ?_ ?_
  ·rintro _ w1 ⟨vn,rfl,Ka,k1⟩;have z1:=k1.kept.size;have HM:=rW ci ⟨2,0,0⟩;have Yl:=oT ci ⟨2,0,0⟩;push_cast -dsimp;have fq:=(Ka).st;obtain⟨SU,ivP,usP,oG⟩:=fq;have iB:=oG.2.2.1;obtain⟨iaP,wF,rfl⟩:=iB.slice;have QT:=iB.sl.get HM;obtain⟨gP,oP,eP,_,_⟩:=QT;subst eP;have vu:oP=0:=Vc.Own.ZF iB;subst vu;have Q5:=(List.getElem?_eq_some_iff.1 HM).1;have Di:=(Ka).num;have Pk:(w1).drew.cell? ⟨mb,1,none⟩=some (.slice (some ⟨gP,0,none⟩) ((aD.push ci ⟨2,0,0⟩)).ins.length wF):=oG.1.drew.cell rfl;refine eE (λw'=>aM w' mb 115 [SU,.slice (some ⟨gP,0,none⟩) ((aD.push ci ⟨2,0,0⟩)).ins.length wF,.map (some nb),.bool back]) mixed (by kernel_rfl) (by simp) oG.1.drew ?_;push_cast -dsimp[Pk];refine⟨λbU h=>by rw[h.cell (o:=1) rfl];exact rfl,?_⟩;have iC:=bl (w1);refine aA (oz ((Ka).below iC)) ?_;rintro _ _ ⟨rfl,rfl⟩;refine⟨oG.1.drew,?_⟩;push_cast -dsimp;refine⟨⟨by omega,by omega⟩,?_⟩;have vd:Vc.Own B 109 3 bV (w1).drew (.slice (some ⟨gP,0,none⟩) ((aD.push ci ⟨2,0,0⟩)).ins.length wF) ((aD.push ci ⟨2,0,0⟩)).ins:=iB.aI ((Kept.refl (λ_=>False) (w1)).drew) (λ_ _ h=>h);refine fy (i:=ci.ins.length) (f:=1) (x:=(⟨2,0,0⟩:I3)) (y:=(⟨2,((aD.push ci ⟨2,0,0⟩).ins.length:Int),0⟩:I3)) vd rfl HM (by decide) rfl rfl ?_;intro wP Py QX zP;have Qb:=Mk.patch ((Ka).below iC) (oG.below iC) rfl Py QX;obtain⟨p6,jn⟩:=Qb;have fq:gO mb (w1) wP:=(gO.below iC (by have:=(Ka).lt;have:=(Ka).le;omega)).trans jn;refine⟨trivial,?_⟩;push_cast -dsimp
   have QP:∃c1:aD,c1=⟨(aD.push ci ⟨2,0,0⟩).sets,(aD.push ci ⟨2,0,0⟩).ins.set ci.ins.length ⟨2,((aD.push ci ⟨2,0,0⟩).ins.length:Int),0⟩⟩:=⟨_,rfl⟩;obtain⟨c1,QP⟩:=QP;rw[<-QP]at p6;have aNM:c1.ins.length=ci.ins.length+1:=by rw[QP];simp[aD.push]
   have N9:c1.ins[ci.ins.length]?=some ⟨2,((ci.ins.length+1:Nat):Int),0⟩:=by
    rw[QP]
    show ((aD.push ci ⟨2,0,0⟩).ins.set ci.ins.length _)[ci.ins.length]?=_
    rw[List.getElem?_set,if_pos rfl,if_pos (by omega),Yl]
   have hE1:Ext ci c1:=by rw[QP];exact(Ext.push ci _).set (Nat.le_refl _)
   have WO:c1.sets=ci.sets:=by rw[QP];rfl
   have kP:gO mb wx wP:=k1.trans fq;have zP':=kP.kept.size;have aJb:=ym wP kP;refine aG (cN y HO (fe bJ HO) (jE y HO) nm (jM y HO) hr B mb nb back _ Z wP c1 _ p6 (λb hb=>by have:=hXx b hb;exact⟨this.1,by omega⟩) jh aJb.1 aJb.2 (by rw[WO];omega)) ?_ ?_
   ·rintro _ wq ⟨⟨c2,Ff,hE2,mn,gd⟩,k2⟩;have kq:=kP.trans k2;have zq:=kq.kept.size;push_cast -dsimp;have aQx:c2.sets.length<=c2.ins.length:=by have:=hE2.sum;rw[WO]at this;omega
    refine aG (th Ff (by omega) ⟨3,0,0⟩) ?_ ?_
    ·rintro _ w3 ⟨QZ,rfl,Fg,k3⟩;have kx3:=kq.trans k3;have z3:=kx3.kept.size;have NV:=QC.aI kx3.kept (λg hg hm=>aAC g hg hm);have aQi:=Fg.off NV (by decide) (by decide) (by omega);have hn3:=oT c2 ⟨3,0,0⟩;push_cast -dsimp;refine cT bA rfl rfl (by omega) ?_;intro w4 az;have z4:=az.size;have hM4:=Fg.below az.below;have vZ:=NV.new az;have aJt:=hM4.off vZ (by decide) (by decide) (by omega);push_cast -dsimp;refine aS (base:=w.heap.size) [c2.ins.length] (enc:=aY) bA vZ (by rfl) (λj u hu=>by rw[Nat.zero_add];exact az.cell hu) (by simp[aY,Value.oneCell']) (by simp only[List.length_cons,List.length_nil];omega) (by omega) ?_;intro v5 w5 ja yO xP;have aEQ:Kept (λj=>ov.ownBlock=some j) w4 w5:=Kept.grown yO (λ_ h=>h);have z5:=aEQ.size;have Ck:=hM4.YU aJt aEQ xP;have kx5:gO mb w w5:=(kx.trans (kx3.trans (gO.below az.below (by have:=Fg.lt;have:=Fg.le;omega)))).YU (aEQ.weaken (λj _ h=>(fg j h).1)) (by omega);have WH:=Ck.off ja (by decide) (by decide) (by omega);have CS:(aD.push c2 ⟨3,0,0⟩).ins[ci.ins.length]?=some ⟨2,((ci.ins.length+1:Nat):Int),0⟩:=(Ext.push c2 _).ins _ _ (hE2.ins _ _ N9);push_cast -dsimp;have fq:=(Ck).st;obtain⟨SU,ivP,usP,oG⟩:=fq;have iB:=oG.2.2.1;obtain⟨iaP,wF,rfl⟩:=iB.slice;have QT:=iB.sl.get CS;obtain⟨gP,oP,eP,_,_⟩:=QT;subst eP;have vu:oP=0:=Vc.Own.ZF iB;subst vu;have Q5:=(List.getElem?_eq_some_iff.1 CS).1;have Di:=(Ck).num;have Pk:(w5).drew.cell? ⟨mb,1,none⟩=some (.slice (some ⟨gP,0,none⟩) ((aD.push c2 ⟨3,0,0⟩)).ins.length wF):=oG.1.drew.cell rfl
     refine eE (λw'=>aM w' mb 115 [SU,.slice (some ⟨gP,0,none⟩) ((aD.push c2 ⟨3,0,0⟩)).ins.length wF,.map (some nb),.bool back]) mixed (by kernel_rfl) (by simp) oG.1.drew ?_;push_cast -dsimp[Pk];refine⟨λbU h=>by rw[h.cell (o:=1) rfl];exact rfl,?_⟩;have iC:=bl (w5);refine aA (oz ((Ck).below iC)) ?_;rintro _ _ ⟨rfl,rfl⟩;refine⟨oG.1.drew,?_⟩;push_cast -dsimp;refine⟨⟨by omega,by omega⟩,?_⟩;have vd:Vc.Own B 109 3 bV (w5).drew (.slice (some ⟨gP,0,none⟩) ((aD.push c2 ⟨3,0,0⟩)).ins.length wF) ((aD.push c2 ⟨3,0,0⟩)).ins:=iB.aI ((Kept.refl (λ_=>False) (w5)).drew) (λ_ _ h=>h);refine fy (i:=ci.ins.length) (f:=2) (x:=(⟨2,((ci.ins.length+1:Nat):Int),0⟩:I3)) (y:=(⟨2,((ci.ins.length+1:Nat):Int),((aD.push c2 ⟨3,0,0⟩).ins.length:Int)⟩:I3)) vd rfl CS (by decide) rfl rfl ?_;intro wP Py QX zP;have Qb:=Mk.patch ((Ck).below iC) (oG.below iC) rfl Py QX;obtain⟨p6,jn⟩:=Qb;have fq:gO mb (w5) wP:=(gO.below iC (by have:=(Ck).lt;have:=(Ck).le;omega)).trans jn;refine⟨trivial,?_⟩;push_cast -dsimp;have Yf:∃c4:aD,c4=⟨(aD.push c2 ⟨3,0,0⟩).sets,(aD.push c2 ⟨3,0,0⟩).ins.set ci.ins.length ⟨2,((ci.ins.length+1:Nat):Int),((aD.push c2 ⟨3,0,0⟩).ins.length:Int)⟩⟩:=⟨_,rfl⟩;obtain⟨c4,Yf⟩:=Yf;rw[<-Yf]at p6;have hn4:c4.ins.length=c2.ins.length+1:=by rw[Yf];simp[aD.push]
     have Sn:Ext ci c4:=by rw[Yf];exact((hE1.trans hE2).trans (Ext.push c2 _)).set (Nat.le_refl _)
     have hk4:c4.ins[ci.ins.length]?=some ⟨2,((ci.ins.length+1:Nat):Int),((c2.ins.length+1:Nat):Int)⟩:=by
      rw[Yf]
      show ((aD.push c2 ⟨3,0,0⟩).ins.set ci.ins.length _)[ci.ins.length]?=_
      rw[List.getElem?_set,if_pos rfl,if_pos (by omega),hn3]
     have hj4:c4.ins[c2.ins.length]?=some ⟨3,0,0⟩:=by
      rw[Yf]
      show ((aD.push c2 ⟨3,0,0⟩).ins.set ci.ins.length _)[c2.ins.length]?=_
      rw[List.getElem?_set,if_neg (by omega)];exact rW c2 _
     have hs4:eL c2 c4 (ci.ins.length+1) c2.ins.length:=by
      rw[Yf];exact eL.set (eL.push ((Ext.refl c2).same (Nat.le_refl _)) (Nat.le_refl _)) (.inl (by omega))
     have hJ4:mB (bD nm) c4 back (l.take (i+1)) c.ins.length (js++[c2.ins.length]) c4.ins.length:=by
      rw[hyt];refine Jr _ _ _ ci.ins.length _ _ _ (wR _ _ _ _ (Sn.same (Nat.le_refl _)) hJx) ?_;simp only[mB];rw[aNM]at gd;exact⟨c2.ins.length,[],rfl,hk4,dU _ _ _ hs4 gd,hj4,rfl,hn4.symm⟩
     have se:=ja.aI fq.kept (λg hg hm=>WH g hg hm);exact⟨⟨by omega,by omega⟩,⟨i+1,c4,_,_,rfl,rfl,by omega,p6,CJ.trans Sn,by omega,hJ4,by simp[hjl],se,kx5.trans fq⟩,by rw[HC];simp only[intOf];omega⟩
    rintro ce w3 ⟨QZ,ht,k3⟩;push_cast -dsimp;exact⟨by omega,ht,kx.trans (kq.trans k3)⟩
   rintro ce wq ⟨mn,ht,k2⟩;push_cast -dsimp;exact⟨by omega,ht,kx.trans (kP.trans k2)⟩
  rintro ce w1 ⟨mn,ht,k1⟩;push_cast -dsimp;exact⟨by omega,ht,kx.trans k1⟩
end Go.Proofs.YtledlfbbebodgaaGreatDoor
end
section
namespace Go.Vc
section
variable {P:Program}
def U9 (id:Nat)(Q:EP)(M:List Nat)(t:Fr)(J:(Nat->Value)->World->Prop)(_:Ph (Q,t,J)):EP
 | .exit i,t',w'=>i=id/\t'=ov t M (at_ t')/\J (at_ t') w'
 | .panic c,t',w'=>Q (.panic c) t' w'
 | _,_,_=>False
theorem K6 {c:Code}{id:Nat}{t:Fr}{w:World}{Q:EP}{p q}(M:List Nat)(J:(Nat->Value)->World->Prop)(h1:dd P c (U9 id Q M t J .mk) t w .mk)
  (h2:∀z w',J z w'->Q .normal (ov t M z) w'):dd P c (jj id Q p) t w q:=by
 refine K7 ?_ h1;intro e t' w' h;cases e<;>simp only[U9]at h
 case exit i =>
  obtain⟨rfl,ht,hJ⟩:=h;rw[xF,ht];exact h2 _ _ hJ
 case panic c=>exact h
theorem Oy {id:Nat}{Q:EP}{M:List Nat}{t t':Fr}{w':World}{J:(Nat->Value)->World->Prop}(p):U9 id Q M t J p (.exit id) t' w'=(t'=ov t M (at_ t')/\J (at_ t') w'):=by simp[U9]
theorem LQ {id:Nat}{Q:EP}{M:List Nat}{t t':Fr}{w':World}{J:(Nat->Value)->World->Prop}(c)(p):U9 id Q M t J p (.panic c) t' w'=Q (.panic c) t' w':=(rfl)
attribute [push_cast] Oy LQ
end
end Go.Vc
namespace Cae
theorem Qp {S:Nat->Nat->Prop}{b:Nat}(hb:S b b):∀{n m a:Nat},n<=m->iterM S n a b->iterM S m a b
 | n,m,a,o8,h=>by
  obtain⟨d,rfl⟩:=Nat.le.dest o8;clear o8;induction d with
  | zero=>exact h
  | succ d ih=>exact jq.2 ⟨b,ih,hb⟩
end Cae
namespace Go.Proofs.YtledlfbbebodgaaGreatDoor
open Go.Vc Go.Proofs Go.RowKit Cae
attribute [local irreducible] dd ae ak a7 runK bE Sl Vc.Own vc aU cJ a8
theorem UO (x:aF)(lo hi:Int)(hx:ny x)(bJ:aj (.many x lo hi))(jE:wd x<=100000)(nm:bG)(jM:fi nm x=none)(hr:gh nm)(B mb nb:Nat)(back:Bool)(X Z:Nat->Prop)(w:World)(c:aD)(v:Value)(h:Mk B mb nb back X w c)(hX:∀b,X b->(Z b\/b=mb\/B<=b)/\b<w.heap.size)(jh:nb<mb)(hN:fW (λb=>Z b\/b=mb\/B<=b) w nb nm)(hV:ai (λb=>Z b\/b=mb\/B<=b) w v (.many x lo hi))(qT:c.sets.length<=c.ins.length) :
  yB Tryz.prog 79 [.pointer (some ⟨mb,0,none⟩),v] w
  (λr w'=>(∃c',Mk B mb nb back X w' c'/\Ext c c'/\c'.ins.length=c.ins.length+bK (.many x lo hi)/\iK (bD nm) c' back (.many x lo hi) c.ins.length c'.ins.length)/\gO mb w w')
  (λce w'=>2000<c.ins.length+bK (.many x lo hi)/\Kq 4 ce/\gO mb w w'):=by
 have aw:=h.lt;have hle:=h.le;simp only[aj]at bJ;obtain⟨aE0,aTk,aJh,aJd,hlh⟩:=bJ;simp only[ai]at hV;obtain⟨xb,psv,u,rfl,xW,hB,hs,QF⟩:=hV;obtain⟨pa,pc,rfl,aE4⟩:=hs.shape;obtain⟨b1,o,rfl,_,aK⟩:=hs.get (i:=0) (x:=u) rfl;have yn:∃n:Nat,lo=n:=⟨lo.toNat,by omega⟩;obtain⟨n,rfl⟩:=yn;have c0:w.cell? ⟨b1,o,none⟩=some (.pointer (some ⟨u,0,none⟩)):=by simpa[fB,bd] using aK 0 _ rfl
 have aIA:b1≠mb/\¬B<=b1:=by
  have h1:=hs.get (i:=0) (x:=u) rfl;obtain⟨b',o',e,dD,_⟩:=h1;cases e;exact⟨λe=>dD (.inr (.inl e)),λe=>dD (.inr (.inr e))⟩
 have Il:∀w1,Kept (λb=>b=mb\/B<=b) w w1->aM w1 xb 39 [.int .i64 6,.pointer none,.slice (some ⟨b1,o,none⟩) 1 pc,.int .i64 n,.int .i64 hi]/\w1.cell? ⟨b1,o,none⟩=some (.pointer (some ⟨u,0,none⟩))/\fW (λb=>Z b\/b=mb\/B<=b) w1 nb nm/\ai (λb=>Z b\/b=mb\/B<=b) w1 (bd u) x:=λw1 k1 =>
  ⟨hB.kept k1 (λhh=>xW (.inr hh)),k1.cell c0 (λhh=>hh.elim aIA.1 aIA.2),fW.kept hN k1 (λ_ h=>.inr h) (λh=>by rcases h with h|h<;>omega) (λ_ h=>h),ai.mono k1 (λ_ h=>.inr h) (λ_ h=>h) QF⟩
 have hlen:=λ(ci:aD) (a b:Nat)=>fP (has:=bD nm) (c:=ci) (back:=back) x a b;have d3:w.cell? ⟨xb,3,none⟩=some (.int .i64 (n:Int)):=hB.cell rfl;refine bM Tryz.func79 rfl (by kernel_rfl) [] rfl ?_;simp -dsimp (maxSteps:=4000000) only[push_cast,oy,Tryz.ntmps79,List.length_cons,List.length_nil,Nat.reduceAdd,Nat.reduceSub,Nat.reduceBEq,List.replicate_succ,List.replicate_zero];simp -dsimp only[push_cast,Nat.reduceAdd,Nat.reduceLeDiff,Nat.reduceBEq,Int.reduceNe,Int.reduceEq,Int.reduceLT,Int.reduceLE,d3];refine K6 [4,15,16,17,18,19,20,21,22,23,24,25,26,27,28,29,30,31] (λz wx=>∃(ci:aD),Mk B mb nb back X wx ci/\Ext c ci/\ci.ins.length=c.ins.length+n*bK x/\iterM (iK (bD nm) ci back x) n c.ins.length ci.ins.length/\gO mb w wx) ?_ ?_
 ·refine aL [4,15,16,17,18,19,20,21,22,23,24,25,26,27,28,29,30,31] (λz wx=>∃(t:Nat) (ci:aD),z 15=.int .i64 t/\t<=n/\Mk B mb nb back X wx ci/\Ext c ci/\ci.ins.length=c.ins.length+t*bK x/\iterM (iK (bD nm) ci back x) t c.ins.length ci.ins.length/\gO mb w wx) (λz _=>n-(intOf (z 15)).toNat) ?_ ?_
  ·exact⟨0,c,rfl,Nat.zero_le _,h,Ext.refl c,by simp,rfl,gO.refl (by omega)⟩
  intro z wx hI;obtain⟨t,ci,h15,ht,CK,CJ,Ip,hix,kx⟩:=hI;have Qw:=kx.out h;have zx:=kx.kept.size;obtain⟨nu,cx,hNx,hPx⟩:=Il wx Qw;simp -dsimp only[push_cast,Nat.reduceAdd,Nat.reduceLeDiff,Nat.reduceBEq,Int.reduceNe,Int.reduceEq,Int.reduceLT,Int.reduceLE,h15];have od:ci.sets.length<=ci.ins.length:=by have:=CJ.sum;omega
  have hXx:∀b,X b->(Z b\/b=mb\/B<=b)/\b<wx.heap.size:=λb hb=>by have:=hX b hb;exact⟨this.1,by omega⟩
  refine⟨λQ0=>?_,λfT=>?_⟩
  ·have hmul:(t+1)*bK x<=n*bK x:=Nat.mul_le_mul_right _ (by omega);have Yo:(t+1)*bK x=t*bK x+bK x:=Nat.succ_mul _ _;refine aA (oz CK) ?_;rintro _ w0 ⟨rfl,yQ⟩;have yQ:=yQ.symm;subst yQ;have e2:wx.cell? ⟨xb,2,none⟩=some (.slice (some ⟨b1,o,none⟩) 1 pc):=nu.cell rfl;simp -dsimp only[push_cast,Nat.reduceAdd,Nat.reduceLeDiff,Nat.reduceBEq,Int.reduceNe,Int.reduceEq,Int.reduceLT,Int.reduceLE,e2,cx];refine⟨by omega,?_⟩;refine aG (hx aE0 jE nm jM hr B mb nb back X Z _ ci _ CK hXx jh hNx hPx od) ?_ ?_
   ·rintro _ wy ⟨⟨cy,Zy,NU,hly,pY⟩,ky⟩;have hiy:iterM (iK (bD nm) cy back x) (t+1) c.ins.length cy.ins.length:=jq.2 ⟨ci.ins.length,lq (A:=c.ins.length) (B:=ci.ins.length) (λa b=>hlen ci a b) (λp q hp hq=>dU x p q ((NU.same (Nat.le_refl _)).sub hp hq)) _ _ _ (Nat.le_refl _) (Nat.le_refl _) hix,pY⟩;simp -dsimp only[push_cast,Nat.reduceAdd,Nat.reduceLeDiff,Nat.reduceBEq,Int.reduceNe,Int.reduceEq,Int.reduceLT,Int.reduceLE];refine aA (oz Zy) ?_;rintro _ w0 ⟨rfl,yQ⟩;have yQ:=yQ.symm;subst yQ;simp -dsimp only[push_cast,Nat.reduceAdd,Nat.reduceLeDiff,Nat.reduceBEq,Int.reduceNe,Int.reduceEq,Int.reduceLT,Int.reduceLE];refine⟨λheq=>?_,λdD=>?_⟩
    ·have h0:bK x=0:=by omega
     have ba:iK (bD nm) cy back x cy.ins.length cy.ins.length:=by
      have h1:=pY;have h2:ci.ins.length=cy.ins.length:=by omega
      rw[h2]at h1;exact h1
     exact⟨cy,Zy,CJ.trans NU,by rw[hly,Ip,h0];simp,Qp ba (by omega) hiy,kx.trans ky⟩
    exact⟨⟨by omega,by omega⟩,⟨t+1,cy,rfl,by omega,Zy,CJ.trans NU,by rw[hly,Ip,Yo];omega,hiy,kx.trans ky⟩,by rw[h15];simp only[intOf];omega⟩
   rintro ce wy ⟨mn,ht2,ky⟩;simp -dsimp only[push_cast,Nat.reduceAdd,Nat.reduceLeDiff,Nat.reduceBEq,Int.reduceNe,Int.reduceEq,Int.reduceLT,Int.reduceLE];exact⟨by simp only[bK,Int.toNat_natCast];omega,ht2,kx.trans ky⟩
  have htn:t=n:=by omega
  subst htn;exact⟨ci,CK,CJ,Ip,hix,kx⟩
 intro z w1 hJ;obtain⟨c1,Ka,hE1,vn,N5,k1⟩:=hJ;have k1o:=k1.out h;have z1:=k1.kept.size;obtain⟨nF,cx1,hN1,nG⟩:=Il w1 k1o;have d4:w1.cell? ⟨xb,4,none⟩=some (.int .i64 hi):=nF.cell rfl;have gA:c1.sets.length<=c1.ins.length:=by have:=hE1.sum;omega
 have hX1:∀b,X b->(Z b\/b=mb\/B<=b)/\b<w1.heap.size:=λb hb=>by have:=hX b hb;exact⟨this.1,by omega⟩
 have j1:bK (.many x (n:Int) hi)=n*bK x+if hi<0 then bK x+2 else (hi-n).toNat*(bK x+1):=by simp only[bK,Int.toNat_natCast]
 simp -dsimp only[push_cast,Nat.reduceAdd,Nat.reduceLeDiff,Nat.reduceBEq,Int.reduceNe,Int.reduceEq,Int.reduceLT,Int.reduceLE,d4];refine⟨λuN=>?_,λpC=>?_⟩
 ·rw[if_pos uN]at j1;refine aG (th Ka (by omega) ⟨2,0,0⟩) ?_ ?_
  ·rintro _ w2 ⟨mn,rfl,Ff,k2⟩;have z2:=k2.kept.size;have xV:=rW c1 ⟨2,0,0⟩;have hn2:=oT c1 ⟨2,0,0⟩;simp -dsimp only[push_cast,Nat.reduceAdd,Nat.reduceLeDiff,Nat.reduceBEq,Int.reduceNe,Int.reduceEq,Int.reduceLT,Int.reduceLE];have fq:=(Ff).st;obtain⟨SU,ivP,usP,oG⟩:=fq;have iB:=oG.2.2.1;obtain⟨iaP,wF,rfl⟩:=iB.slice;have QT:=iB.sl.get xV;obtain⟨gP,oP,eP,_,_⟩:=QT;subst eP;have vu:oP=0:=Vc.Own.ZF iB;subst vu;have Q5:=(List.getElem?_eq_some_iff.1 xV).1;have Di:=(Ff).num;have Pk:(w2).drew.cell? ⟨mb,1,none⟩=some (.slice (some ⟨gP,0,none⟩) ((aD.push c1 ⟨2,0,0⟩)).ins.length wF):=oG.1.drew.cell rfl;refine eE (λw'=>aM w' mb 115 [SU,.slice (some ⟨gP,0,none⟩) ((aD.push c1 ⟨2,0,0⟩)).ins.length wF,.map (some nb),.bool back]) mixed (by kernel_rfl) (by simp) oG.1.drew ?_;simp -dsimp only[push_cast,Nat.reduceAdd,Nat.reduceLeDiff,Nat.reduceBEq,Int.reduceNe,Int.reduceEq,Int.reduceLT,Int.reduceLE,Pk];refine⟨λbU h=>by rw[h.cell (o:=1) rfl];exact rfl,?_⟩;have iC:=bl (w2);refine aA (oz ((Ff).below iC)) ?_;rintro _ _ ⟨rfl,rfl⟩;refine⟨oG.1.drew,?_⟩;simp -dsimp only[push_cast,Nat.reduceAdd,Nat.reduceLeDiff,Nat.reduceBEq,Int.reduceNe,Int.reduceEq,Int.reduceLT,Int.reduceLE];refine⟨⟨by omega,by omega⟩,?_⟩;have vd:Vc.Own B 109 3 bV (w2).drew (.slice (some ⟨gP,0,none⟩) ((aD.push c1 ⟨2,0,0⟩)).ins.length wF) ((aD.push c1 ⟨2,0,0⟩)).ins:=iB.aI ((Kept.refl (λ_=>False) (w2)).drew) (λ_ _ h=>h)
   refine fy (i:=c1.ins.length) (f:=1) (x:=(⟨2,0,0⟩:I3)) (y:=(⟨2,((aD.push c1 ⟨2,0,0⟩).ins.length:Int),0⟩:I3)) vd rfl xV (by decide) rfl rfl ?_;intro wP Py QX zP;have Qb:=Mk.patch ((Ff).below iC) (oG.below iC) rfl Py QX;obtain⟨p6,jn⟩:=Qb;have fq:gO mb (w2) wP:=(gO.below iC (by have:=(Ff).lt;have:=(Ff).le;omega)).trans jn;refine⟨trivial,?_⟩;simp -dsimp only[push_cast,Nat.reduceAdd,Nat.reduceLeDiff,Nat.reduceBEq,Int.reduceNe,Int.reduceEq,Int.reduceLT,Int.reduceLE];have yM:∃c2:aD,c2=⟨(aD.push c1 ⟨2,0,0⟩).sets,(aD.push c1 ⟨2,0,0⟩).ins.set c1.ins.length ⟨2,((aD.push c1 ⟨2,0,0⟩).ins.length:Int),0⟩⟩:=⟨_,rfl⟩;obtain⟨c2,yM⟩:=yM;rw[<-yM]at p6;have aEV:c2.ins.length=c1.ins.length+1:=by rw[yM];simp[aD.push]
   have nj:c2.ins[c1.ins.length]?=some ⟨2,((c1.ins.length+1:Nat):Int),0⟩:=by
    rw[yM]
    show ((aD.push c1 ⟨2,0,0⟩).ins.set c1.ins.length _)[c1.ins.length]?=_
    rw[List.getElem?_set,if_pos rfl,if_pos (by omega),hn2]
   have hE2:Ext c1 c2:=by rw[yM];exact(Ext.push c1 _).set (Nat.le_refl _)
   have GD:c2.sets=c1.sets:=by rw[yM];rfl
   have kP:gO mb w1 wP:=k2.trans fq;have zP':=kP.kept.size;obtain⟨hBP,cxP,hNP,hPP⟩:=Il wP (k1o.trans (kP.out Ka) (λ_ _ h=>h));have hXP:=λb hb=>(show (Z b\/b=mb\/B<=b)/\b<wP.heap.size from by have:=hX1 b hb;exact⟨this.1,by omega⟩)
   have e2:wP.cell? ⟨xb,2,none⟩=some (.slice (some ⟨b1,o,none⟩) 1 pc):=hBP.cell rfl;simp -dsimp only[push_cast,Nat.reduceAdd,Nat.reduceLeDiff,Nat.reduceBEq,Int.reduceNe,Int.reduceEq,Int.reduceLT,Int.reduceLE,e2,cxP];refine⟨by omega,?_⟩;refine aG (hx aE0 jE nm jM hr B mb nb back X Z _ c2 _ p6 hXP jh hNP hPP (by rw[GD];omega)) ?_ ?_
   ·rintro _ w4 ⟨⟨c3,Fg,NT,QZ,lW⟩,k3⟩;have yr:=kP.trans k3;have aQy:c3.sets.length<=c3.ins.length:=by have:=NT.sum;rw[GD]at this;omega
    simp -dsimp only[push_cast,Nat.reduceAdd,Nat.reduceLeDiff,Nat.reduceBEq,Int.reduceNe,Int.reduceEq,Int.reduceLT,Int.reduceLE];refine aG (th Fg (by omega) ⟨3,(c1.ins.length:Int),0⟩) ?_ ?_
    ·rintro _ w5 ⟨Yk,rfl,Ck,k5⟩;have CS:(aD.push c3 ⟨3,(c1.ins.length:Int),0⟩).ins[c1.ins.length]?=some ⟨2,((c1.ins.length+1:Nat):Int),0⟩:=(Ext.push c3 _).ins _ _ (NT.ins _ _ nj);have xP:=oT c3 ⟨3,(c1.ins.length:Int),0⟩;simp -dsimp only[push_cast,Nat.reduceAdd,Nat.reduceLeDiff,Nat.reduceBEq,Int.reduceNe,Int.reduceEq,Int.reduceLT,Int.reduceLE];have fq:=(Ck).st;obtain⟨SU,ivP,usP,oG⟩:=fq;have iB:=oG.2.2.1;obtain⟨iaP,wF,rfl⟩:=iB.slice;have QT:=iB.sl.get CS;obtain⟨gP,oP,eP,_,_⟩:=QT;subst eP;have vu:oP=0:=Vc.Own.ZF iB;subst vu;have Q5:=(List.getElem?_eq_some_iff.1 CS).1;have Di:=(Ck).num;have Pk:(w5).drew.cell? ⟨mb,1,none⟩=some (.slice (some ⟨gP,0,none⟩) ((aD.push c3 ⟨3,(c1.ins.length:Int),0⟩)).ins.length wF):=oG.1.drew.cell rfl;refine eE (λw'=>aM w' mb 115 [SU,.slice (some ⟨gP,0,none⟩) ((aD.push c3 ⟨3,(c1.ins.length:Int),0⟩)).ins.length wF,.map (some nb),.bool back]) mixed (by kernel_rfl) (by simp) oG.1.drew ?_;simp -dsimp only[push_cast,Nat.reduceAdd,Nat.reduceLeDiff,Nat.reduceBEq,Int.reduceNe,Int.reduceEq,Int.reduceLT,Int.reduceLE,Pk];refine⟨λbU h=>by rw[h.cell (o:=1) rfl];exact rfl,?_⟩;have iC:=bl (w5);refine aA (oz ((Ck).below iC)) ?_;rintro _ _ ⟨rfl,rfl⟩;refine⟨oG.1.drew,?_⟩;simp -dsimp only[push_cast,Nat.reduceAdd,Nat.reduceLeDiff,Nat.reduceBEq,Int.reduceNe,Int.reduceEq,Int.reduceLT,Int.reduceLE];refine⟨⟨by omega,by omega⟩,?_⟩
     have vd:Vc.Own B 109 3 bV (w5).drew (.slice (some ⟨gP,0,none⟩) ((aD.push c3 ⟨3,(c1.ins.length:Int),0⟩)).ins.length wF) ((aD.push c3 ⟨3,(c1.ins.length:Int),0⟩)).ins:=iB.aI ((Kept.refl (λ_=>False) (w5)).drew) (λ_ _ h=>h);refine fy (i:=c1.ins.length) (f:=2) (x:=(⟨2,((c1.ins.length+1:Nat):Int),0⟩:I3)) (y:=(⟨2,((c1.ins.length+1:Nat):Int),((aD.push c3 ⟨3,(c1.ins.length:Int),0⟩).ins.length:Int)⟩:I3)) vd rfl CS (by decide) rfl rfl ?_;intro wP Py QX zP;have Qb:=Mk.patch ((Ck).below iC) (oG.below iC) rfl Py QX;obtain⟨p6,jn⟩:=Qb;have fq:gO mb (w5) wP:=(gO.below iC (by have:=(Ck).lt;have:=(Ck).le;omega)).trans jn;refine⟨trivial,?_⟩;simp -dsimp only[push_cast,Nat.reduceAdd,Nat.reduceLeDiff,Nat.reduceBEq,Int.reduceNe,Int.reduceEq,Int.reduceLT,Int.reduceLE];have Yg:∃c5:aD,c5=⟨(aD.push c3 ⟨3,(c1.ins.length:Int),0⟩).sets,(aD.push c3 ⟨3,(c1.ins.length:Int),0⟩).ins.set c1.ins.length ⟨2,((c1.ins.length+1:Nat):Int),((aD.push c3 ⟨3,(c1.ins.length:Int),0⟩).ins.length:Int)⟩⟩:=⟨_,rfl⟩;obtain⟨c5,Yg⟩:=Yg;rw[<-Yg]at p6;have aJk:c5.ins.length=c3.ins.length+1:=by rw[Yg];simp[aD.push]
     have hE5:Ext c1 c5:=by rw[Yg];exact((hE2.trans NT).trans (Ext.push c3 _)).set (Nat.le_refl _)
     have aNv:c5.ins[c1.ins.length]?=some ⟨2,((c1.ins.length+1:Nat):Int),((c5.ins.length:Nat):Int)⟩:=by
      rw[aJk,Yg]
      show ((aD.push c3 ⟨3,(c1.ins.length:Int),0⟩).ins.set c1.ins.length _)[c1.ins.length]?=_
      rw[List.getElem?_set,if_pos rfl,if_pos (by omega),xP]
     have hj5:c5.ins[c3.ins.length]?=some ⟨3,(c1.ins.length:Int),0⟩:=by
      rw[Yg]
      show ((aD.push c3 ⟨3,(c1.ins.length:Int),0⟩).ins.set c1.ins.length _)[c3.ins.length]?=_
      rw[List.getElem?_set,if_neg (by omega)];exact rW c3 _
     have hs5:eL c3 c5 (c1.ins.length+1) c3.ins.length:=by
      rw[Yg];exact eL.set (eL.push ((Ext.refl c3).same (Nat.le_refl _)) (Nat.le_refl _)) (.inl (by omega))
     rw[aEV]at lW;refine⟨⟨c5,p6,hE1.trans hE5,by rw[j1];omega,?_⟩,k1.trans (yr.trans (k5.trans fq))⟩;simp only[iK,Int.toNat_natCast];refine⟨c1.ins.length,lq (A:=c.ins.length) (B:=c1.ins.length) (λa b=>hlen c1 a b) (λp q hp hq=>dU x p q ((hE5.same (Nat.le_refl _)).sub hp hq)) _ _ _ (Nat.le_refl _) (Nat.le_refl _) N5,?_⟩;rw[if_pos uN];exact⟨aNv,c3.ins.length,dU x _ _ hs5 lW,hj5,aJk⟩
    rintro ce w5 ⟨Yk,ht,k5⟩;simp -dsimp only[push_cast,Nat.reduceAdd,Nat.reduceLeDiff,Nat.reduceBEq,Int.reduceNe,Int.reduceEq,Int.reduceLT,Int.reduceLE];exact⟨by rw[j1];omega,ht,k1.trans (yr.trans k5)⟩
   rintro ce w4 ⟨CT,ht,k4⟩;simp -dsimp only[push_cast,Nat.reduceAdd,Nat.reduceLeDiff,Nat.reduceBEq,Int.reduceNe,Int.reduceEq,Int.reduceLT,Int.reduceLE];exact⟨by rw[j1];omega,ht,k1.trans (kP.trans k4)⟩
  rintro ce w2 ⟨mn,ht,k2⟩;simp -dsimp only[push_cast,Nat.reduceAdd,Nat.reduceLeDiff,Nat.reduceBEq,Int.reduceNe,Int.reduceEq,Int.reduceLT,Int.reduceLE];exact⟨by rw[j1];omega,ht,k1.trans k2⟩
 rw[if_neg pC]at j1;have hN0:∃N:Nat,hi=n+N:=⟨(hi-n).toNat,by omega⟩;obtain⟨N,rfl⟩:=hN0;have hNt:((n:Int)+(N:Int)-(n:Int)).toNat=N:=by omega
 rw[hNt]at j1;have aTb:=hlen;have d3':w1.cell? ⟨xb,3,none⟩=some (.int .i64 (n:Int)):=nF.cell rfl;simp -dsimp only[push_cast,Nat.reduceAdd,Nat.reduceLeDiff,Nat.reduceBEq,Int.reduceNe,Int.reduceEq,Int.reduceLT,Int.reduceLE,d3'];refine K6 [6,7,8,76,77,78,79,80,81,82,83,84,85,86,87,88,89,90,91,92,93,94,95,96,97,98,99,100,101,102,103,104,105,106,107,108] (λz wx=>∃(ci:aD) (ks:List Nat) (ov:Value),z 6=ov/\Mk B mb nb back (λb=>X b\/ov.ownBlock=some b) wx ci/\Ext c1 ci/\ci.ins.length=c1.ins.length+N*(bK x+1)/\nY ci (iK (bD nm) ci back x) N c1.ins.length ks ci.ins.length/\Vc.Own w.heap.size 3 1 aY wx ov ks/\ks.length<=2000/\gO mb w wx) ?_ ?_
 ·refine aL [6,7,8,76,77,78,79,80,81,82,83,84,85,86,87,88,89,90,91,92,93,94,95,96,97,98,99,100,101,102,103,104,105,106,107,108] (λz wx=>∃(s:Nat) (ci:aD) (ks:List Nat) (ov:Value),z 7=.int .i64 ((n+s:Nat):Int)/\z 6=ov/\s<=N/\Mk B mb nb back (λb=>X b\/ov.ownBlock=some b) wx ci/\Ext c1 ci/\ci.ins.length=c1.ins.length+s*(bK x+1)/\nY ci (iK (bD nm) ci back x) s c1.ins.length ks ci.ins.length/\Vc.Own w.heap.size 3 1 aY wx ov ks/\ks.length=s/\gO mb w wx) (λz _=>N+n-(intOf (z 7)).toNat) ?_ ?_
  ·exact⟨0,c1,[],_,rfl,rfl,Nat.zero_le _,Ka.iA (λb hb=>hb.elim id (λh=>by cases h)),Ext.refl c1,by simp,by simp[nY],Vc.Own.nil (enc:=aY) _ _ (λ_=>rfl) _,rfl,k1⟩
  intro z wx hI;obtain⟨s,ci,ks,ov,h7,h6,Qf,CK,CJ,Ip,hSx,QC,hkl,kx⟩:=hI;have Qw:=kx.out h;have zx:=kx.kept.size;obtain⟨nu,cx,hNx,hPx⟩:=Il wx Qw;have dx4:wx.cell? ⟨xb,4,none⟩=some (.int .i64 ((n:Int)+(N:Int))):=nu.cell rfl;simp -dsimp only[push_cast,Nat.reduceAdd,Nat.reduceLeDiff,Nat.reduceBEq,Int.reduceNe,Int.reduceEq,Int.reduceLT,Int.reduceLE,h7,h6,dx4];have od:ci.sets.length<=ci.ins.length:=by have:=CJ.sum;omega
  have fg:=QC.block;have aAC:=CK.off QC (by decide) (by decide) (by omega);have hXx:∀b,(X b\/ov.ownBlock=some b)->(Z b\/b=mb\/B<=b)/\b<wx.heap.size:=λb hb=>by
   rcases hb with hb|hb
   ·have:=hX b hb;exact⟨this.1,by omega⟩
   have:=fg b hb;exact⟨.inr (.inr (by omega)),this.2⟩
  refine⟨λQ0=>?_,λfT=>?_⟩
  ·have hmul:(s+1)*(bK x+1)<=N*(bK x+1):=Nat.mul_le_mul_right _ (by omega);have Yo:(s+1)*(bK x+1)=s*(bK x+1)+(bK x+1):=Nat.succ_mul _ _;refine aG (th CK (by omega) ⟨2,0,0⟩) ?_ ?_
   ·rintro _ w2 ⟨mn,rfl,Ff,k2⟩;have z2:=k2.kept.size;have xV:=rW ci ⟨2,0,0⟩;have hn2:=oT ci ⟨2,0,0⟩;simp -dsimp only[push_cast,Nat.reduceAdd,Nat.reduceLeDiff,Nat.reduceBEq,Int.reduceNe,Int.reduceEq,Int.reduceLT,Int.reduceLE];have fq:=(Ff).st;obtain⟨SU,ivP,usP,oG⟩:=fq;have iB:=oG.2.2.1;obtain⟨iaP,wF,rfl⟩:=iB.slice;have QT:=iB.sl.get xV;obtain⟨gP,oP,eP,_,_⟩:=QT;subst eP;have vu:oP=0:=Vc.Own.ZF iB;subst vu;have Q5:=(List.getElem?_eq_some_iff.1 xV).1;have Di:=(Ff).num;have Pk:(w2).drew.cell? ⟨mb,1,none⟩=some (.slice (some ⟨gP,0,none⟩) ((aD.push ci ⟨2,0,0⟩)).ins.length wF):=oG.1.drew.cell rfl;refine eE (λw'=>aM w' mb 115 [SU,.slice (some ⟨gP,0,none⟩) ((aD.push ci ⟨2,0,0⟩)).ins.length wF,.map (some nb),.bool back]) mixed (by kernel_rfl) (by simp) oG.1.drew ?_;simp -dsimp only[push_cast,Nat.reduceAdd,Nat.reduceLeDiff,Nat.reduceBEq,Int.reduceNe,Int.reduceEq,Int.reduceLT,Int.reduceLE,Pk];refine⟨λbU h=>by rw[h.cell (o:=1) rfl];exact rfl,?_⟩;have iC:=bl (w2);refine aA (oz ((Ff).below iC)) ?_;rintro _ _ ⟨rfl,rfl⟩;refine⟨oG.1.drew,?_⟩;simp -dsimp only[push_cast,Nat.reduceAdd,Nat.reduceLeDiff,Nat.reduceBEq,Int.reduceNe,Int.reduceEq,Int.reduceLT,Int.reduceLE];refine⟨⟨by omega,by omega⟩,?_⟩;have vd:Vc.Own B 109 3 bV (w2).drew (.slice (some ⟨gP,0,none⟩) ((aD.push ci ⟨2,0,0⟩)).ins.length wF) ((aD.push ci ⟨2,0,0⟩)).ins:=iB.aI ((Kept.refl (λ_=>False) (w2)).drew) (λ_ _ h=>h)
    refine fy (i:=ci.ins.length) (f:=1) (x:=(⟨2,0,0⟩:I3)) (y:=(⟨2,((aD.push ci ⟨2,0,0⟩).ins.length:Int),0⟩:I3)) vd rfl xV (by decide) rfl rfl ?_;intro wP Py QX zP;have Qb:=Mk.patch ((Ff).below iC) (oG.below iC) rfl Py QX;obtain⟨p6,jn⟩:=Qb;have fq:gO mb (w2) wP:=(gO.below iC (by have:=(Ff).lt;have:=(Ff).le;omega)).trans jn;refine⟨trivial,?_⟩;simp -dsimp only[push_cast,Nat.reduceAdd,Nat.reduceLeDiff,Nat.reduceBEq,Int.reduceNe,Int.reduceEq,Int.reduceLT,Int.reduceLE];have yM:∃c2:aD,c2=⟨(aD.push ci ⟨2,0,0⟩).sets,(aD.push ci ⟨2,0,0⟩).ins.set ci.ins.length ⟨2,((aD.push ci ⟨2,0,0⟩).ins.length:Int),0⟩⟩:=⟨_,rfl⟩;obtain⟨c2,yM⟩:=yM;rw[<-yM]at p6;have aEV:c2.ins.length=ci.ins.length+1:=by rw[yM];simp[aD.push]
    have nj:c2.ins[ci.ins.length]?=some ⟨2,((ci.ins.length+1:Nat):Int),0⟩:=by
     rw[yM]
     show ((aD.push ci ⟨2,0,0⟩).ins.set ci.ins.length _)[ci.ins.length]?=_
     rw[List.getElem?_set,if_pos rfl,if_pos (by omega),hn2]
    have hE2:Ext ci c2:=by rw[yM];exact(Ext.push ci _).set (Nat.le_refl _)
    have GD:c2.sets=ci.sets:=by rw[yM];rfl
    have kP:gO mb wx wP:=k2.trans fq;have zP':=kP.kept.size;obtain⟨hBP,cxP,hNP,hPP⟩:=Il wP (Qw.trans (kP.out CK) (λ_ _ h=>h));have hXP:=λb hb=>(show (Z b\/b=mb\/B<=b)/\b<wP.heap.size from by have:=hXx b hb;exact⟨this.1,by omega⟩)
    have e2:wP.cell? ⟨xb,2,none⟩=some (.slice (some ⟨b1,o,none⟩) 1 pc):=hBP.cell rfl;simp -dsimp only[push_cast,Nat.reduceAdd,Nat.reduceLeDiff,Nat.reduceBEq,Int.reduceNe,Int.reduceEq,Int.reduceLT,Int.reduceLE,e2,cxP];refine⟨by omega,?_⟩;refine aG (hx aE0 jE nm jM hr B mb nb back _ Z _ c2 _ p6 hXP jh hNP hPP (by rw[GD];omega)) ?_ ?_
    ·rintro _ w4 ⟨⟨c3,Fg,NT,QZ,lW⟩,k3⟩;have yr:=kP.trans k3;have z4:=yr.kept.size;have vZ:=QC.aI yr.kept (λg hg hm=>aAC g hg hm);simp -dsimp only[push_cast,Nat.reduceAdd,Nat.reduceLeDiff,Nat.reduceBEq,Int.reduceNe,Int.reduceEq,Int.reduceLT,Int.reduceLE];refine cT bA rfl rfl (by omega) ?_;intro w5 cO;have z5:=cO.size;have Ck:=Fg.below cO.below;have ja:=vZ.new cO;have WH:=Ck.off ja (by decide) (by decide) (by omega);simp -dsimp only[push_cast,Nat.reduceAdd,Nat.reduceLeDiff,Nat.reduceBEq,Int.reduceNe,Int.reduceEq,Int.reduceLT,Int.reduceLE];refine aS (base:=w.heap.size) [ci.ins.length] (enc:=aY) bA ja (by rfl) (λj u hu=>by rw[Nat.zero_add];exact cO.cell hu) (by simp[aY,Value.oneCell']) (by have:=Fg.num;simp only[List.length_cons,List.length_nil];omega) (by omega) ?_;intro v6 w6 se hg6 hn6;have aER:Kept (λj=>ov.ownBlock=some j) w5 w6:=Kept.grown hg6 (λ_ h=>h);have z6:=aER.size;have hM6:=Ck.YU WH aER hn6;have kx6:gO mb w w6:=(kx.trans (yr.trans (gO.below cO.below (by have:=Fg.lt;have:=Fg.le;omega)))).YU (aER.weaken (λj _ h=>(fg j h).1)) (by omega);have aDW:=hE2.trans NT;have hS3:nY c3 (iK (bD nm) c3 back x) s c1.ins.length ks ci.ins.length:=EU (A:=c1.ins.length) (λa b=>hlen ci a b) (λp q hp hq=>dU x p q ((aDW.same (Nat.le_refl _)).sub hp hq)) (aDW.same (Nat.le_refl _)) _ _ _ (Nat.le_refl _) hSx;rw[aEV]at lW QZ;have hS6:nY c3 (iK (bD nm) c3 back x) (s+1) c1.ins.length (ks++[ci.ins.length]) c3.ins.length:=EV (NT.ins _ _ nj) lW _ _ _ hS3
     simp -dsimp only[push_cast,Nat.reduceAdd,Nat.reduceLeDiff,Nat.reduceBEq,Int.reduceNe,Int.reduceEq,Int.reduceLT,Int.reduceLE];exact⟨⟨by omega,by omega⟩,⟨s+1,c3,_,_,by first|(push_cast;done)|(push_cast;congr 1;done)|(push_cast;congr 1;omega),rfl,by omega,hM6,CJ.trans aDW,by rw[QZ,Ip,Yo];omega,hS6,se,by simp[hkl],kx6⟩,by rw[h7];simp only[intOf];omega⟩
    rintro ce w4 ⟨CT,ht,k4⟩;simp -dsimp only[push_cast,Nat.reduceAdd,Nat.reduceLeDiff,Nat.reduceBEq,Int.reduceNe,Int.reduceEq,Int.reduceLT,Int.reduceLE];exact⟨by rw[j1];omega,ht,kx.trans (kP.trans k4)⟩
   rintro ce w2 ⟨mn,ht,k2⟩;simp -dsimp only[push_cast,Nat.reduceAdd,Nat.reduceLeDiff,Nat.reduceBEq,Int.reduceNe,Int.reduceEq,Int.reduceLT,Int.reduceLE];exact⟨by rw[j1];omega,ht,kx.trans k2⟩
  have hsN:s=N:=by omega
  subst hsN
  have:=CK.num;have Vy:s<=s*(bK x+1):=Nat.le_mul_of_pos_right _ (by omega);exact⟨ci,ks,_,rfl,CK,CJ,Ip,hSx,QC,by omega,kx⟩
 intro z w7 hJ;obtain⟨cs,ks,ov,h6,hM7,hE7,hl7,NZ,uD,hkl,k7⟩:=hJ;have z7:=k7.kept.size;have aEH:=yz (λa b=>hlen cs a b) _ _ _ NZ;have e:∃e,e=cs.ins.length:=⟨_,rfl⟩;obtain⟨e,he⟩:=e;rw[<-he]at NZ aEH;obtain⟨oa,oc,rfl⟩:=uD.slice;simp -dsimp only[push_cast,Nat.reduceAdd,Nat.reduceLeDiff,Nat.reduceBEq,Int.reduceNe,Int.reduceEq,Int.reduceLT,Int.reduceLE,h6];refine aL [10,111,112,113,114,115,116,117,118,119,120,121,122,123,124,125] (λz wz=>∃(t:Nat) (ct:aD),z 111=.int .i64 t/\t<=ks.length/\Mk B mb nb back (λb=>X b\/(Value.slice oa ks.length oc).ownBlock=some b) wz ct/\kK cs ct (ks.take t) (λx=>⟨x.op,x.a,(e:Int)⟩)/\Vc.Own w.heap.size 3 1 aY wz (.slice oa ks.length oc) ks/\gO mb w wz) (λz _=>ks.length-(intOf (z 111)).toNat) ?_ ?_
 ·exact⟨0,cs,rfl,Nat.zero_le _,hM7,kK.nil cs _,uD,k7⟩
 intro z wz hI;obtain⟨t,ct,aHQ,ht,I0,vf,hOz,kz⟩:=hI;have zz:=kz.kept.size;have WI:=I0.off hOz (by decide) (by decide) (by omega);have hlz:=vf.len;simp -dsimp only[push_cast,Nat.reduceAdd,Nat.reduceLeDiff,Nat.reduceBEq,Int.reduceNe,Int.reduceEq,Int.reduceLT,Int.reduceLE,aHQ];refine⟨λQ0=>?_,λfT=>?_⟩
 ·obtain⟨k,hk,xO,_,hkt⟩:=au (l:=ks) (i:=t) (by omega);obtain⟨bj,oj,hej,_,qN⟩:=hOz.sl.get hk;cases hej;have cj:wz.cell? ⟨bj,oj+t,none⟩=some (.int .i64 (k:Int)):=by simpa[aY] using qN 0 _ rfl
  have aNy:k<ct.ins.length:=by have:=aEH.2 k xO;omega
  obtain⟨xk,TH,_⟩:=au (l:=ct.ins) (i:=k) aNy;simp -dsimp only[push_cast,Nat.reduceAdd,Nat.reduceLeDiff,Nat.reduceBEq,Int.reduceNe,Int.reduceEq,Int.reduceLT,Int.reduceLE,cj];refine⟨⟨by omega,by omega⟩,?_⟩;have fq:=(I0).st;obtain⟨SU,ivP,usP,oG⟩:=fq;have iB:=oG.2.2.1;obtain⟨iaP,wF,rfl⟩:=iB.slice;have QT:=iB.sl.get TH;obtain⟨gP,oP,eP,_,_⟩:=QT;subst eP;have vu:oP=0:=Vc.Own.ZF iB;subst vu;have Q5:=(List.getElem?_eq_some_iff.1 TH).1;have Di:=(I0).num;have Pk:(wz).drew.cell? ⟨mb,1,none⟩=some (.slice (some ⟨gP,0,none⟩) (ct).ins.length wF):=oG.1.drew.cell rfl;refine eE (λw'=>aM w' mb 115 [SU,.slice (some ⟨gP,0,none⟩) (ct).ins.length wF,.map (some nb),.bool back]) mixed (by kernel_rfl) (by simp) oG.1.drew ?_;simp -dsimp only[push_cast,Nat.reduceAdd,Nat.reduceLeDiff,Nat.reduceBEq,Int.reduceNe,Int.reduceEq,Int.reduceLT,Int.reduceLE,Pk];refine⟨λbU h=>by rw[h.cell (o:=1) rfl];exact rfl,?_⟩;have iC:=bl (wz);refine aA (oz ((I0).below iC)) ?_;rintro _ _ ⟨rfl,rfl⟩;refine⟨oG.1.drew,?_⟩;simp -dsimp only[push_cast,Nat.reduceAdd,Nat.reduceLeDiff,Nat.reduceBEq,Int.reduceNe,Int.reduceEq,Int.reduceLT,Int.reduceLE];refine⟨⟨by omega,by omega⟩,?_⟩;have vd:Vc.Own B 109 3 bV (wz).drew (.slice (some ⟨gP,0,none⟩) (ct).ins.length wF) (ct).ins:=iB.aI ((Kept.refl (λ_=>False) (wz)).drew) (λ_ _ h=>h);refine fy (i:=k) (f:=2) (x:=xk) (y:=(⟨xk.op,xk.a,(ct.ins.length:Int)⟩:I3)) vd rfl TH (by decide) rfl rfl ?_;intro wP Py QX zP;have Qb:=Mk.patch ((I0).below iC) (oG.below iC) rfl Py QX;obtain⟨p6,jn⟩:=Qb
  have fq:gO mb (wz) wP:=(gO.below iC (by have:=(I0).lt;have:=(I0).le;omega)).trans jn;refine⟨trivial,?_⟩;simp -dsimp only[push_cast,Nat.reduceAdd,Nat.reduceLeDiff,Nat.reduceBEq,Int.reduceNe,Int.reduceEq,Int.reduceLT,Int.reduceLE];have hTn:=kK.step (g:=λx=>⟨x.op,x.a,(e:Int)⟩) (λx=>rfl) vf TH;rw[<-hkt]at hTn;have hec:(e:Int)=(ct.ins.length:Int):=by rw[he,hlz]
  rw[hec]at hTn vf;exact⟨⟨by omega,by omega⟩,⟨t+1,_,rfl,by omega,p6,by rw[hec];exact hTn,hOz.aI fq.kept (λg hg hm=>WI g hg hm),kz.trans fq⟩,by rw[aHQ];simp only[intOf];omega⟩
 have Kf:t=ks.length:=by omega
 rw[Kf,List.take_length]at vf;have aAq:∀k∈ks,c1.ins.length<=k:=λk hk=>(aEH.2 k hk).1;have hE:=hE1.trans hE7;have hIn:eL c1 ct c.ins.length c1.ins.length:=⟨λk h1 h2=>by
  rw[vf.ins k,if_neg (λhm=>by have:=aAq k hm;omega)];exact(hE7.same (Nat.le_refl _)).1 k h1 h2,λi s hs=>by rw[vf.sets];exact hE7.sets i s hs⟩
 have hH:sL ct (iK (bD nm) ct back x) e N c1.ins.length:=OX (λa b=>hlen cs a b) vf (λa b hab hj=>dU x a b (vf.same hj) hab) _ _ _ (λj hj=>hj) (λj hj=>.inl hj) NZ;refine⟨⟨ct,I0.iA (λb hb=>.inl hb),⟨λk y hy=>?_,λk s hs=>?_,?_⟩,by rw[hlz,j1,hl7];omega,?_⟩,kz⟩
 ·have hk:=(List.getElem?_eq_some_iff.1 hy).1
  have:=hE1.sum;rw[vf.ins k,if_neg (λhm=>by have:=aAq k hm;omega)];exact hE.ins k y hy
 ·rw[vf.sets];exact hE.sets k s hs
 ·have:=hE.sum;rw[vf.sets,hlz];exact this
 simp only[iK,Int.toNat_natCast];refine⟨c1.ins.length,lq (A:=c.ins.length) (B:=c1.ins.length) (λa b=>hlen c1 a b) (λp q hp hq=>dU x p q (hIn.sub hp hq)) _ _ _ (Nat.le_refl _) (Nat.le_refl _) N5,?_⟩;rw[if_neg pC,hNt,hlz,<-he];exact hH
theorem ZW (x:aF)(lo hi:Int)(hx:ny x):ny (.many x lo hi):=by
 intro bJ jE nm jM hr B mb nb back X Z w c v h hX jh hN hV qT;simp only[fi]at jM;have N0:=hV;simp only[ai]at hV;obtain⟨xb,psv,u,rfl,xW,hB,_,_⟩:=hV;have hpm:=tP (x:=x) (lo:=lo) (hi:=hi);have d0:w.cell? ⟨xb,0,none⟩=some (.int .i64 6):=hB.cell rfl;refine bM Tryz.func48 rfl (by kernel_rfl) [] rfl ?_;simp -dsimp (maxSteps:=4000000) only[push_cast,oy,Tryz.ntmps48,List.length_cons,List.length_nil,Nat.reduceAdd,Nat.reduceSub,Nat.reduceBEq,List.replicate_succ,List.replicate_zero];simp -dsimp only[push_cast,Nat.reduceAdd,Nat.reduceLeDiff,Nat.reduceBEq,Int.reduceNe,Int.reduceEq,Int.reduceLT,Int.reduceLE,d0];refine aG (UO x lo hi hx bJ (by omega) nm jM hr B mb nb back X Z w c _ h hX jh hN N0 qT) ?_ ?_
 ·rintro _ w1 h1;simp -dsimp only[push_cast,Nat.reduceAdd,Nat.reduceLeDiff,Nat.reduceBEq,Int.reduceNe,Int.reduceEq,Int.reduceLT,Int.reduceLE];exact h1
 rintro ce w1 h1;simp -dsimp only[push_cast,Nat.reduceAdd,Nat.reduceLeDiff,Nat.reduceBEq,Int.reduceNe,Int.reduceEq,Int.reduceLT,Int.reduceLE];exact h1
theorem ZU (l:List aF)(dD:l≠[])(cN:∀y∈l,ny y):ny (.alt l):=by
 intro bJ jE nm jM hr B mb nb back X Z w c v h hX jh hN hV qT;simp only[aj]at bJ;simp only[fi]at jM;have Li:=gv.1 jM;simp only[ai]at hV;obtain⟨xb,psv,vs,rfl,xW,hB,hs,hVl⟩:=hV;have uR:=wV (l:=l);have aN0:=uR.2.1;obtain⟨pa,pc,rfl,aE4⟩:=hs.shape;have d0:w.cell? ⟨xb,0,none⟩=some (.int .i64 5):=hB.cell rfl;have d2:w.cell? ⟨xb,2,none⟩=some (.slice pa vs.length pc):=hB.cell rfl;refine bM Tryz.func48 rfl (by kernel_rfl) [] rfl ?_;simp -dsimp (maxSteps:=4000000) only[push_cast,oy,Tryz.ntmps48,List.length_cons,List.length_nil,Nat.reduceAdd,Nat.reduceSub,Nat.reduceBEq,List.replicate_succ,List.replicate_zero];simp -dsimp only[push_cast,Nat.reduceAdd,Nat.reduceLeDiff,Nat.reduceBEq,Int.reduceNe,Int.reduceEq,Int.reduceLT,Int.reduceLE,d0,d2];refine aG (aDu l dD cN bJ (λy hy=>by have:=uR.2.2 y hy;omega) (by omega) nm Li hr B mb nb back X Z w c _ vs h hX jh hN hs hVl qT) ?_ ?_
 ·rintro _ w1 h1;simp -dsimp only[push_cast,Nat.reduceAdd,Nat.reduceLeDiff,Nat.reduceBEq,Int.reduceNe,Int.reduceEq,Int.reduceLT,Int.reduceLE];simp only[bK,iK];exact h1
 rintro ce w1 h1;simp -dsimp only[push_cast,Nat.reduceAdd,Nat.reduceLeDiff,Nat.reduceBEq,Int.reduceNe,Int.reduceEq,Int.reduceLT,Int.reduceLE];simp only[bK];exact h1
mutual
theorem M3:∀x,cX x->ny x
 | .one k,_=>aDx k
 | .any,_=>aDv
 | .fY,_=>ZV
 | .cat l,h=>aDw l (Gb l (by simpa only[cX] using h))
 | .alt l,h=>by
  simp only[cX]at h;exact ZU l h.1 (Gb l h.2)
 | .many x lo hi,h=>ZW x lo hi (M3 x (by simpa only[cX] using h))
theorem Gb:∀(l:List aF),gC l->∀(x:aF),x∈l->ny x
 | [],_,x,h=>by cases h
 | y::l,hn,x,h=>by
  simp only[gC]at hn;have hy:=M3 y hn.1;rcases List.mem_cons.1 h with h|h
  ·rw[h];exact hy
  exact Gb l hn.2 x h
end
end Go.Proofs.YtledlfbbebodgaaGreatDoor
end
section
namespace Cae
section
variable {has:ao->Int->Prop} {c:aD} {back:Bool}
structure dh (has:ao->Int->Prop)(back:Bool)(x:aF)(c:aD):Prop where
 seg:iK has c back x 0 (bK x)
 len:c.ins.length=bK x+1
 yes:c.ins[bK x]?=some ⟨5,0,0⟩
 aBh:c.ins.length<=2000
 sets:c.sets.length<=c.ins.length
 right:∀s∈c.sets,aP (-2) s=true
theorem dh.ok {x:aF}(h:dh has back x c):ab c=true:=by
 have hl:=h.len;have hm:=h.aBh;have hs:=h.sets;have hr:=iI x 0 (bK x) (bK x+1) (by omega) h.seg;unfold ab;simp only[Bool.and_eq_true,decide_eq_true_eq,List.all_eq_true];refine⟨⟨⟨⟨by omega,by omega,by omega⟩,?_⟩,λy hy=>?_⟩,h.right⟩
 ·rw[show c.ins.length-1=bK x by omega,h.yes]
  rfl
 obtain⟨k,hk⟩:=List.getElem?_of_mem hy;have aw:=(List.getElem?_eq_some_iff.1 hk).1;rw[hl];by_cases hc:k<bK x
 ·obtain⟨z,h1,h2⟩:=hr k (Nat.zero_le _) hc;rw[h1]at hk;cases hk;exact h2
 have e:k=bK x:=by omega
 rw[e,h.yes]at hk;cases hk;exact SA
theorem dh.Wq {x:aF}{pts:List Int}{i:Nat}(h:dh has back x c)(vO:∀p∈pts,0<=p/\p<=1114111)(bJ:aj x)(hi:i<=pts.length):(eo c (EJ pts back i)).1=true↔nS has pts x i back :=
 (mi (CR.of h.ok) _).trans (Md vO bJ h.seg h.yes hi)
end
def kl (has:ao->Int->Prop)(f:dw)(p:dX):Prop:=p.els=f.els/\cU (λ(r:bg) (q:cD)=>r.brk=q.brk/\dh has true q.before r.before/\dh has false q.after r.after) p.rules f.rules
section
variable {has:ao->Int->Prop} {pts:List Int}
theorem Ww {r:bg}{q:cD}(vO:∀p∈pts,0<=p/\p<=1114111)(bJ:aj q.before/\aj q.after)(h:r.brk=q.brk/\dh has true q.before r.before/\dh has false q.after r.after){i:Nat}(hi:i<=pts.length):fO pts i r=true↔wJ has pts q i:=by
 unfold fO wJ;rw[Bool.and_eq_true];exact and_congr (h.2.1.Wq vO bJ.1 hi) (h.2.2.Wq vO bJ.2 hi)
theorem Mb {els:Bool}{i:Nat}(vO:∀p∈pts,0<=p/\p<=1114111)(hi:i<=pts.length):∀{l:List bg} {m:List cD},cU (λ(r:bg) (q:cD)=>r.brk=q.brk/\dh has true q.before r.before/\dh has false q.after r.after) l m->(∀q∈m,aj q.before/\aj q.after)->l.foldr (λr acc=>if fO pts i r then r.brk else acc) els=qq has pts els i m:=by
 intro l m h;induction h with
 | nil=>intro _;rfl
 | @cons r q l m h1 h2 ih =>
  intro bJ;rw[List.foldr_cons,qq,ih λq hq=>bJ q (List.mem_cons_of_mem _ hq)];have hm:=Ww vO (bJ q (List.mem_cons_self ..)) h1 hi;by_cases hq:wJ has pts q i
  ·rw[if_pos hq,if_pos (hm.2 hq),h1.1]
  rw[if_neg hq,if_neg (λhh=>hq (hm.1 hh))]
theorem H4 {f:dw}{p:dX}(vO:∀q∈pts,0<=q/\q<=1114111)(bJ:∀q∈f.rules,aj q.before/\aj q.after)(h:kl has f p):jz p pts=jy has pts f.rules f.els:=by
 unfold jz jy bm;by_cases dD:pts=[]
 ·rw[if_pos dD,if_pos dD]
 rw[if_neg dD,if_neg dD];refine List.filter_congr λi hi=>?_;rw[List.mem_range]at hi;unfold nL Yq ee;rw[List.drop_zero,h.1,Mb vO (by omega) h.2 bJ]
theorem kl.right {f:dw}{p:dX}(h:kl has f p)(hl:f.rules.length<=20):eG p=true:=by
 have hlen:=cU.len h.2;unfold eG;rw[Bool.and_eq_true,decide_eq_true_iff,List.all_eq_true];refine⟨by omega,λr hr=>?_⟩;have key:∀{l:List bg} {m:List cD},cU (λ(r:bg) (q:cD)=>r.brk=q.brk/\dh has true q.before r.before/\dh has false q.after r.after) l m->∀r∈l,ab r.before=true/\ab r.after=true:=by
  intro l m h;induction h with
  | nil=>intro r hr;cases hr
  | cons h1 _ ih =>
   intro r hr;rcases List.mem_cons.1 hr with rfl|hr
   ·exact⟨h1.2.1.ok,h1.2.2.ok⟩
   exact ih r hr
 have:=key h.2 r hr;rw[this.1,this.2];rfl
end
end Cae
end
section
namespace Go.Proofs.YtledlfbbebodgaaGreatDoor
open Go.Vc Go.Proofs Go.RowKit Cae
attribute [local irreducible] dd ae ak a7 runK bE Sl Vc.Own vc aU cJ a8
theorem UN (rb eb:Nat)(e:Int)(f0:List Value)(e0:Value)(hf:f0.length=2)(w:World)(hr:aM w rb 70 f0)(he:aM w eb 31 [e0])(dD:rb≠eb) :
  CallsD Tryz.prog 47 #[.pointer (some ⟨rb,0,none⟩),.pointer (some ⟨eb,0,none⟩)] (.panicking [{ v:=.iface 111 (.agg #[.int .i64 e]),recovered:=false }]) w λex u' w' =>
   ex=.returned (.tuple #[])/\u'=.panicking [{ v:=.iface 111 (.agg #[.int .i64 e]),recovered:=true }]/\aM w' rb 70 [.slice none 0 0,.slice none 0 0]/\aM w' eb 31 [.iface 83 (.int .i64 e)]/\Kept (λi=>i=rb\/i=eb) w w':=by
 refine callsD_of_wpS Tryz.func47 rfl λc₀ cs hu=>?_;apply wpS_seq;apply wpS_region;simp[wpOpsS,go_sem,recoverD,hu,Tryz.ntmps47,Exit.thenS];refine re (t:=[.pointer (some ⟨rb,0,none⟩),.pointer (some ⟨eb,0,none⟩),.iface 111 (.agg #[.int .i64 e]),undef,undef,.iface 111 (.agg #[.int .i64 e]),undef,undef,undef,undef,undef,undef,undef,undef,undef,undef,undef,undef,undef,undef]) ?_;push_cast -dsimp;refine xB Tryz.underlying111 ?_;push_cast -dsimp;refine ag (z:=[.int .i64 0]) (by kernel_rfl) ?_;intro w1 aZ;have C1:=aZ.aN;have R1:=hr.below aZ.below hr.lt;have E1:=he.below aZ.below he.lt;have z1:=aZ.size;push_cast -dsimp;refine aJ (xt:=111) (n:=1) (by kernel_rfl) C1 rfl (by decide) (by simp[Value.oneCell']) ?_;intro w2 bw;have C2:aM w2 w.heap.size 111 [.int .i64 e]:=bw.aN;have Qd:=hr.lt;have yN:=he.lt;have R2:=R1.kept bw.kept (by omega);have E2:=E1.kept bw.kept (by omega);push_cast -dsimp;refine bx (λw'=>aM w' w.heap.size 111 [.int .i64 e]) mixed (by kernel_rfl) C2.drew ?_;have d2:w2.drew.cell? ⟨w.heap.size,0,none⟩=some (.int .i64 e):=C2.drew.cell rfl;push_cast -dsimp[d2];refine⟨λbU h=>by rw[aM.cell h (o:=0) rfl];exact rfl,?_⟩;refine aJ (xt:=70) (n:=2) (by kernel_rfl) R2.drew rfl (by rw[hf];exact Nat.le_refl _) (by simp[Value.oneCell']) ?_;intro w3 dZ;have R3:aM w3 rb 70 [.slice none 0 0,.slice none 0 0]:=by
  have:=dZ.aN;rw[List.take_zero,List.nil_append,Nat.zero_add,List.drop_of_length_le (by rw[hf];exact Nat.le_refl _),List.append_nil]at this;exact this
 have C3:aM w3 w.heap.size 111 [.int .i64 e]:=C2.drew.kept dZ.kept (by omega);have E3:=E2.drew.kept dZ.kept (by omega);refine⟨C3,?_⟩;push_cast -dsimp;refine aC E3 (by simp) rfl ?_;intro w4 az;have E4:aM w4 eb 31 [.iface 83 (.int .i64 e)]:=az.aN;have R4:=R3.kept az.kept (by omega);have C4:aM w4 w.heap.size 111 [.int .i64 e]:=C3.kept az.kept (by omega);have k4:Kept (λi=>i=rb\/i=eb) w w4:=(((Kept.new (X:=λi=>i=rb\/i=eb) aZ).trans bw.kept (λi h1 h2=>by omega)).drew.trans dZ.kept (λi _ h=>.inl h)).trans az.kept (λi _ h=>.inr h);refine⟨C4,?_⟩;push_cast -dsimp;exact⟨rfl,_,rfl,.tuple #[],OF (by rfl) _ _,rfl,rfl,R4,E4,k4⟩
theorem aAN (rb eb:Nat)(w:World) :
  CallsD Tryz.prog 47 #[.pointer (some ⟨rb,0,none⟩),.pointer (some ⟨eb,0,none⟩)] .returning w λe u' w'=>e=.returned (.tuple #[])/\u'=.returning/\w'=w:=by
 refine callsD_of_wpS Tryz.func47 rfl λc₀ cs hu=>?_;apply wpS_seq;apply wpS_region;simp[wpOpsS,go_sem,recoverD,hu,Tryz.ntmps47,Exit.thenS];refine re (t:=[.pointer (some ⟨rb,0,none⟩),.pointer (some ⟨eb,0,none⟩),.nilIface,undef,undef,.nilIface,undef,undef,undef,undef,undef,undef,undef,undef,undef,undef,undef,undef,undef,undef]) ?_;push_cast -dsimp;refine⟨rfl,.returning,?_,.tuple #[],OF (by rfl) _ _,rfl,rfl,rfl⟩;rw[<-hu]
theorem fW.top {X:Nat->Prop}{w:World}{b:Nat}{nm:bG}(h:fW X w b nm):fW (λb=>X b\/w.heap.size<=b) w b nm:=by
 obtain⟨gg,h2,h3⟩:=h;exact⟨gg,h2,h3.imp λa b h=>⟨h.1,Sl.top (by decide) h.2.1,h.2.2⟩⟩
def TO (X:Nat->Prop)(nm:bG)(back:Bool)(x:aF)(w:World)(r:Value)(w':World):Prop :=
 (∃c cv,r=.tuple #[cv,.nilIface]/\cW (λb=>X b/\b<w.heap.size) w' cv c/\dh (bD nm) back x c) \/
 (2000<bK x+1/\r=.tuple #[.agg #[.slice none 0 0,.slice none 0 0],.iface 83 (.int .i64 4)])
def aDi (X:Nat->Prop)(nm:bG)(back:Bool)(x:aF)(w:World)(e:Ending)(w':World):Prop:=∃v,e=.returned v/\TO X nm back x w v w'/\Below w.heap.size w w'
theorem Qx {X:Nat->Prop}{nm:bG}{back:Bool}{p:aF}{w W:World}{fv:List Value}{t:Fr}(h6:t.getD 6 undef=.pointer (some ⟨w.heap.size,0,none⟩))(h7:t.getD 7 undef=.pointer (some ⟨w.heap.size+1,0,none⟩)){x:Value}
  (B1:aM W w.heap.size 70 fv) (B2:aM W (w.heap.size+1) 31 [x]) (hl:fv.length=2) (hR:TO X nm back p w (.tuple #[.agg fv.toArray,x]) W) (hb:Below w.heap.size w W) :
  bodyPostD Tryz.prog Tryz.f26 (aDi X nm back p w) .ret ⟨t.toArray,[{ target:=.fn (.func 47) #[.pointer (some ⟨w.heap.size,0,none⟩),.pointer (some ⟨w.heap.size+1,0,none⟩)],args:=#[] }]⟩ W:=by
 show Leaves _ _ _ _ _ _ _
 refine leaves_cons (f:=47) (args:=#[.pointer (some ⟨w.heap.size,0,none⟩),.pointer (some ⟨w.heap.size+1,0,none⟩)]) (by simp) ?_ ?_
 ·simp only[invoke,Array.empty_append];exact bo Tryz.func47 (by kernel_rfl) (by kernel_rfl)
 refine(aAN w.heap.size (w.heap.size+1) W).mono ?_;rintro e u' w' ⟨rfl,rfl,rfl⟩;obtain⟨vs,hv,hk⟩:=cZ (P:=Tryz.prog) (w:=w') Tryz.f26 [.cell 6 70,.cell 7 31] (by rfl) t (λvs=>vs=[.agg fv.toArray,x]) (by
  have d1:aB w' ⟨w.heap.size,0,none⟩ 0 2=some fv:=by rw[<-hl];exact B1.aB
  have d2:w'.cell? ⟨w.heap.size+1,0,none⟩=some x:=B2.cell rfl;push_cast -dsimp[h6,h7,d1,d2])
 refine⟨_,hv,_,rfl,?_,hb⟩;rw[hk];exact hR
theorem ud {X:Nat->Prop}{nm:bG}{back:Bool}{p:aF}{w W:World}{fv:List Value}{ce:List PanicEntry}{t:Fr}(h6:t.getD 6 undef=.pointer (some ⟨w.heap.size,0,none⟩))(h7:t.getD 7 undef=.pointer (some ⟨w.heap.size+1,0,none⟩)){x:Value}
  (B1:aM W w.heap.size 70 fv) (B2:aM W (w.heap.size+1) 31 [x]) (hl:fv.length=2) (hT:Kq 4 ce) (hp:2000<bK p+1) (hb:Below w.heap.size w W) :
  bodyPostD Tryz.prog Tryz.f26 (aDi X nm back p w) (.panic ce) ⟨t.toArray,[{ target:=.fn (.func 47) #[.pointer (some ⟨w.heap.size,0,none⟩),.pointer (some ⟨w.heap.size+1,0,none⟩)],args:=#[] }]⟩ W:=by
 unfold Kq at hT;subst hT
 show Leaves _ _ _ _ _ _ _
 refine leaves_cons (f:=47) (args:=#[.pointer (some ⟨w.heap.size,0,none⟩),.pointer (some ⟨w.heap.size+1,0,none⟩)]) (by simp) ?_ ?_
 ·simp only[invoke,Array.empty_append];exact bo Tryz.func47 (by kernel_rfl) (by kernel_rfl)
 refine(UN w.heap.size (w.heap.size+1) 4 fv x hl W B1 B2 (by omega)).mono ?_;rintro e' u' w' ⟨rfl,rfl,R1,R2,hk⟩;have CO:=hb.trans (hk.below (B:=w.heap.size) hb.size (λi h=>by omega));obtain⟨vs,hv,hk⟩:=cZ (P:=Tryz.prog) (w:=w') Tryz.f26 [.cell 6 70,.cell 7 31] (by rfl) t (λvs=>vs=[.agg #[.slice none 0 0,.slice none 0 0],.iface 83 (.int .i64 4)]) (by
  have d1:aB w' ⟨w.heap.size,0,none⟩ 0 2=some [.slice none 0 0,.slice none 0 0]:=R1.aB;have d2:w'.cell? ⟨w.heap.size+1,0,none⟩=some (.iface 83 (.int .i64 4)):=R2.cell rfl;push_cast -dsimp[h6,h7,d1,d2])
 show Leaves _ _ _ _ [] (settle _) _
 refine⟨_,hv,_,rfl,?_,CO⟩;rw[hk];exact .inr ⟨hp,rfl⟩
theorem DZ (x:aF)(dD:cX x)(bJ:aj x)(jE:wd x<=100000)(nm:bG)(jM:fi nm x=none)(hr:gh nm)(X:Nat->Prop)(v:Value)(nb:Nat)(back:Bool)(w:World)(hV:ai X w v x)(hN:fW X w nb nm) :
  bE Tryz.prog 26 [v,.map (some nb),.bool back] w λr w'=>TO X nm back x w r w'/\Below w.heap.size w w':=by
 unfold bE;refine⟨bo Tryz.func26 (by kernel_rfl) (by kernel_rfl),?_⟩;refine calls_of_wp_defers Tryz.func26 rfl ?_;have e:(([v,.map (some nb),.bool back]:List Value).toArray++Array.replicate (Tryz.f26.ntmps-([v,.map (some nb),.bool back]:List Value).toArray.size) undef)=(oy [v,.map (some nb),.bool back] Tryz.f26.ntmps).toArray:=by simp[oy]
 rw[e];have aN2:=hV.ptr;obtain⟨xb,rfl,hxl,hxX⟩:=aN2;have hnl:=hN.lt;simp -dsimp (maxSteps:=4000000) only[push_cast,oy,Tryz.ntmps26,List.length_cons,List.length_nil,Nat.reduceAdd,Nat.reduceSub,Nat.reduceBEq,List.replicate_succ,List.replicate_zero]
 show Code.wp _ _ (bodyPostD Tryz.prog Tryz.f26 (aDi X nm back x w)) _ _
 refine YF (by rfl) ?_;push_cast -dsimp;refine ag (z:=[.slice none 0 0,.slice none 0 0]) (by kernel_rfl) ?_;intro w1 aZ;have R1:=aZ.aN;have z1:=aZ.size;have b1:=aZ.below;push_cast -dsimp;refine ag (z:=[.nilIface]) (by kernel_rfl) ?_;intro w2 bw;have E2:=bw.aN;have R2:=R1.below bw.below (by omega);have z2:=bw.size;have b2:=b1.trans (bw.below.mono (by omega));rw[z1]at E2;push_cast -dsimp[z1];refine wp_seq (Hk (cap:=[.tmp 6,.tmp 7]) (by simp) ?_);simp -dsimp only[push_cast];refine X4 (by rfl) ?_;push_cast -dsimp;refine aR ?_;intro w3 dZ;have dZ:ly w2 w3 115 [.slice none 0 0,.slice none 0 0,.map (some nb),.bool back]:=dZ;have z3:=dZ.size;have hrb:∃B:Nat,B=w2.heap.size+1:=⟨_,rfl⟩;obtain⟨B,hB⟩:=hrb;have b3:Below w.heap.size w w3:=b2.trans (dZ.below.mono (by omega));have R3:=R2.below dZ.below R2.lt;have E3:=E2.below dZ.below E2.lt;have hZ:∃Z:Nat->Prop,Z=λb=>(X b/\b<w.heap.size)\/b=w.heap.size\/b=w.heap.size+1:=⟨_,rfl⟩;obtain⟨Z,hZ⟩:=hZ;have Fg:Mk B w2.heap.size nb back Z w3 ⟨[],[]⟩ :=
  ⟨⟨_,_,[],dZ.aN,Vc.Own.nil (enc:=nD) _ _ (λ_=>rfl) _,Vc.Own.nil (enc:=bV) _ _ (λ_=>rfl) _,rfl,(by intro h;cases h),(by intro h;cases h),(by intro g h;cases h),(by intro i u s h1 h2;simp at h1)⟩,(by omega),(by omega),(by intro s hs;cases hs),(by simp),(by simp)⟩
 have iV:∀b,(Z b\/b=w2.heap.size\/B<=b)->X b\/w.heap.size<=b:=λb hb=>by
  rw[hZ]at hb;rcases hb with (hb|hb|hb)|hb|hb
  ·exact .inl hb.1
  ·exact .inr (by omega)
  ·exact .inr (by omega)
  ·exact .inr (by omega)
  exact .inr (by omega)
 have L5:ai (λb=>Z b\/b=w2.heap.size\/B<=b) w3 (.pointer (some ⟨xb,0,none⟩)) x:=ai.mono (Kept.refl (λ_=>False) w3) (λ_ h=>h.elim) iV (hV.top.below b3);have hN3:fW (λb=>Z b\/b=w2.heap.size\/B<=b) w3 nb nm:=fW.kept (hN.top.below b3) (Kept.refl (λ_=>False) w3) (λ_ h=>h.elim) (λh=>h) iV;push_cast -dsimp;refine aG (M3 x dD bJ jE nm jM hr B w2.heap.size nb back Z Z w3 ⟨[],[]⟩ _ Fg (λb hb=>⟨.inl hb,by rw[hZ]at hb;rcases hb with hb|hb|hb<;>omega⟩) (by omega) hN3 L5 (Nat.le_refl _)) ?_ ?_
 ·rintro _ w4 ⟨⟨c4,hM4,Sn,CT,hs4⟩,k4⟩;have k4o:=k4.out Fg;have z4:=k4o.size;have R4:=R3.kept k4o (by omega);have E4:=E3.kept k4o (by omega);have b4:=b3.trans (k4o.below b3.size (λi h=>by omega));have CT:c4.ins.length=bK x:=by simpa using CT
  have aQz:c4.sets.length<=c4.ins.length:=by have:=Sn.sum;simpa using this
  push_cast -dsimp;refine aG (th hM4 (by omega) ⟨5,0,0⟩) ?_ ?_
  ·rintro _ w5 ⟨Yk,rfl,Ck,k5⟩;have k5o:=k5.out hM4;have z5:=k5o.size;have R5:=R4.kept k5o (by omega);have E5:=E4.kept k5o (by omega);have b5:=b4.trans (k5o.below b4.size (λi h=>by omega));have aOe:=Ck.st;obtain⟨sv,iv,us,Yc,xJ,fJ,su,gA,gd,lW,rO⟩:=aOe;have aNU:=xJ.block;have aNV:=fJ.block;have Yg:dh (bD nm) back x (aD.push c4 ⟨5,0,0⟩):=by
    have hlen:=oT c4 ⟨5,0,0⟩;have hy:=rW c4 ⟨5,0,0⟩;rw[CT]at hy;refine⟨?_,by omega,hy,Ck.num,?_,Ck.few⟩
    ·have h1:=hs4;rw[show ((⟨[],[]⟩:aD).ins.length)=0 from rfl,CT]at h1
     exact dU x _ _ ((Ext.push c4 _).same (by omega)) h1
    show c4.sets.length<=_
    omega
   obtain⟨sa,sc,rfl⟩:=xJ.slice;obtain⟨ia,ic,rfl⟩:=fJ.slice;have d5:aB w5 ⟨w2.heap.size,0,none⟩ 0 2=some [.slice sa us.length sc,.slice ia (aD.push c4 ⟨5,0,0⟩).ins.length ic]:=by
    refine ax [.slice sa us.length sc,.slice ia (aD.push c4 ⟨5,0,0⟩).ins.length ic] 0 (λj u hu=>?_);have h0:w5.cell? ⟨w2.heap.size,0,none⟩=some (.slice sa us.length sc):=Yc.cell rfl;have h1:w5.cell? ⟨w2.heap.size,1,none⟩=some (.slice ia (aD.push c4 ⟨5,0,0⟩).ins.length ic):=Yc.cell rfl;match j,hu with
    | 0,hu=>cases hu;simpa using h0
    | 1,hu=>cases hu;simpa using h1
    | _+2,hu=>simp at hu
   push_cast -dsimp[d5];refine aJ (xt:=70) (n:=2) (by kernel_rfl) R5 rfl (by decide) (by simp[Value.oneCell']) ?_;intro w6 bZ;have R6:aM w6 w.heap.size 70 [.slice sa us.length sc,.slice ia (aD.push c4 ⟨5,0,0⟩).ins.length ic]:=bZ.aN;have E6:=E5.kept bZ.kept (by omega);have z6:=bZ.size;push_cast -dsimp;refine aC E6 (by simp) rfl ?_;intro w7 fh;have E7:aM w7 (w.heap.size+1) 31 [.nilIface]:=fh.aN;have R7:=R6.kept fh.kept (by omega);have k57:Kept (λi=>i=w.heap.size\/i=w.heap.size+1) w5 w7:=(bZ.kept.weaken (λi _ h=>.inl h)).trans fh.kept (λi _ h=>.inr h);have b7:=b5.trans (k57.below b5.size (λi h=>by omega));have aD0:=xJ.aI k57 (λg hg h=>by have:=aNU g hg;omega);have aL9:=fJ.aI k57 (λg hg h=>by have:=aNV g hg;omega);have hCV:cW (λb=>X b/\b<w.heap.size) w7 (.agg #[.slice sa us.length sc,.slice ia (aD.push c4 ⟨5,0,0⟩).ins.length ic]) (aD.push c4 ⟨5,0,0⟩) :=
    ⟨_,_,rfl,dy.rT su (aD0.sl.weaken (λb h=>by omega)) (λi u s h1 h2=>((rO i u s h1 h2).kept k57 (λj hj=>by rw[hZ];exact .inl (.inr hj))).weaken (λb hb=>by rw[hZ];exact .inl (.inl hb))),aL9.sl.weaken (λb h=>by omega)⟩
   push_cast -dsimp;exact Qx (t:=_) (by rfl) (by rfl) R7 E7 rfl (.inl ⟨_,_,rfl,hCV,Yg⟩) b7
  rintro ce w5 ⟨Yk,ht,k5⟩;have k5o:=k5.out hM4;push_cast -dsimp;exact ud (t:=_) (by rfl) (by rfl) (R4.kept k5o (by omega)) (E4.kept k5o (by omega)) rfl ht (by omega) (b4.trans (k5o.below b4.size (λi h=>by omega)))
 rintro ce w4 ⟨CT,ht,k4⟩;have k4o:=k4.out Fg;push_cast -dsimp;exact ud (t:=_) (by rfl) (by rfl) (R3.kept k4o (by omega)) (E3.kept k4o (by omega)) rfl ht (by simpa using Nat.lt_succ_of_lt CT) (b3.trans (k4o.below b3.size (λi h=>by omega)))
end Go.Proofs.YtledlfbbebodgaaGreatDoor
end
section
end
section
namespace Go.Proofs.YtledlfbbebodgaaGreatDoor
open Go.Vc Go.Proofs Go.RowKit Cae
attribute [local irreducible] dd ae ak a7 runK bE Sl Vc.Own vc aU cJ a8
theorem LK {f:dw}{nm:bG}(h:sT f=none)(hn:iQ [] f.cQ=.ok nm):∀r∈f.rules,fi nm r.before=none/\fi nm r.after=none:=by
 unfold sT at h;rw[hn]at h;dsimp only at h;have h1:gF nm f.rules=none:=by
  cases hr:gF nm f.rules with
  | none=>rfl
  | some e=>rw[hr]at h;cases h
 exact xo.1 h1
theorem fF.aC7 {X Y:Nat->Prop}{w w':World}{cs:List Value}{r:bg}(h:fF X w cs r)(hk:Kept Y w w')(hY:∀i,Y i->X i):fF X w' cs r:=h.mono (λb hx aw=>hk.block b aw λhh=>hx (hY b hh)) (λ_ h=>h)
theorem jf.top {X:Nat->Prop}{w:World}{v:Value}{f:dw}(h:jf X w v f):jf (λb=>X b\/w.heap.size<=b) w v f:=by
 obtain⟨cv,rv,cs,rs,rfl,iW,jO,hC,hR⟩:=h;exact⟨_,_,cs,rs,rfl,Sl.top (by decide) iW,Sl.top (by decide) jO,hC.imp λa c h=>h.top,hR.imp λa c h=>h.top⟩
def rm (X:Nat->Prop)(B:Nat)(f:dw)(r:Value)(w':World):Prop:=match sT f with
 | some e=>∃v,r=.tuple #[.agg #[.slice none 0 0,.bool false],v]/\po B (some e) v w'
 | none=>(∃nm p pv,iQ [] f.cQ=.ok nm/\r=.tuple #[pv,.nilIface]/\nz X w' pv p/\kl (bD nm) f p) \/
  (∃q∈f.rules,(2000<bK q.before+1\/2000<bK q.after+1)/\∃v,r=.tuple #[.agg #[.slice none 0 0,.bool false],v]/\po B (some (4,q.pos)) v w')
theorem TO.cases {X:Nat->Prop}{nm:bG}{back:Bool}{x:aF}{w w':World}{r:Value}(h:TO X nm back x w r w'):∃sv iv ev,r=.tuple #[.agg #[sv,iv],ev]/\sv.oneCell'=true/\iv.oneCell'=true /\
  ((ev=.nilIface/\∃c,cW (λb=>X b/\b<w.heap.size) w' (.agg #[sv,iv]) c/\dh (bD nm) back x c)\/(ev=.iface 83 (.int .i64 4)/\2000<bK x+1)):=by
 rcases h with ⟨c,cv,rfl,hV,hC⟩|⟨hl,rfl⟩
 ·have N0:=hV;obtain⟨sv,iv,rfl,hs,hi⟩:=hV;obtain⟨_,_,rfl,_⟩:=hs.shape;obtain⟨_,_,rfl,_⟩:=hi.shape;exact⟨_,_,_,rfl,rfl,rfl,.inl ⟨rfl,c,N0,hC⟩⟩
 exact⟨_,_,_,rfl,rfl,rfl,.inr ⟨rfl,hl⟩⟩
theorem Oq (f:dw)(bJ:zK f)(jE:Yx f)(dD:∀r∈f.rules,cX r.before/\cX r.after)(Ke:f.cQ.length<=1000000)(TE:f.rules.length<=1000)(X:Nat->Prop)(v:Value)(w:World)(hv:jf X w v f) :
  bE Tryz.prog 30 [v] w λr w'=>rm (λb=>X b/\b<w.heap.size) w.heap.size f r w'/\Below w.heap.size w w':=by
 have Iz:=hv;obtain⟨cv,rv,cs,rs,rfl,iW,jO,hC,hR⟩:=hv;obtain⟨ca,cc,rfl,hcc⟩:=iW.shape;obtain⟨ra,rc,rfl,hrc⟩:=jO.shape;have Qd:=cU.len hR;refine jm Tryz.func30 rfl (by kernel_rfl) [.cell 2 79,.tmp 3] rfl ?_;push_cast -dsimp(maxSteps:=4000000) [Tryz.ntmps30];refine aR ?_;intro w1 aZ;have aZ:ly w w1 26 [.slice ca cs.length cc,.slice ra rs.length rc,.bool f.els]:=aZ;have z1:=aZ.size;push_cast -dsimp;refine ag (z:=[.slice none 0 0,.bool false]) (by kernel_rfl) ?_;intro w2 bw;have z2:=bw.size;have fo:=aZ.below.trans (bw.below.mono (by omega));have F2:=aZ.aN.below bw.below (by omega);have d0:aB w2 ⟨w.heap.size,0,none⟩ 0 3=some [.slice ca cs.length cc,.slice ra rs.length rc,.bool f.els]:=F2.aB;push_cast -dsimp[d0];refine aA (Ey f bJ jE Ke (by omega) X _ w2 (Iz.below fo)) ?_;rintro r w3 ⟨hE,fL⟩;have z3:=fL.size;have qM:=fo.trans (fL.mono (by omega));have P3:=bw.aN.below fL (by omega);cases lA:sT f with
 | some e =>
  rw[lA]at hE;have hE0:=hE;obtain⟨c,e⟩:=e;obtain⟨eb,CP,rfl,Sq⟩:=hE;push_cast -dsimp;refine aJ (n:=2) (by kernel_rfl) P3 rfl (by simp) (by simp[Value.oneCell']) ?_;intro w4 az;have P4:aM w4 w1.heap.size 79 [.slice none 0 0,.bool false]:=az.aN;have d4:aB w4 ⟨w1.heap.size,0,none⟩ 0 2=some [.slice none 0 0,.bool false]:=P4.aB;push_cast -dsimp[d4];refine⟨?_,qM.trans (az.kept.below (by omega) (λi h=>by omega))⟩;unfold rm;rw[lA];exact⟨_,rfl,eb,by omega,rfl,Sq.kept az.kept (by omega)⟩
 | none =>
  rw[lA]at hE;have hE:r=.nilIface:=hE;subst hE;have o8:=zn lA;obtain⟨nm,o8⟩:=o8;have F3:=F2.below fL (by omega);have d3:aB w3 ⟨w.heap.size,0,none⟩ 0 3=some [.slice ca cs.length cc,.slice ra rs.length rc,.bool f.els]:=F3.aB;push_cast -dsimp[d3];refine aA (G1 f bJ.1 Ke _ _ w3 (Iz.top.below qM)) ?_;rintro r w4 ⟨hN,kj⟩;have z4:=kj.size;have j0:=qM.trans (kj.mono (by omega));unfold lx at hN;rw[o8]at hN;obtain⟨mb,hmb,rfl,Yd,Sr⟩:=hN;have F4:=F3.below kj (by omega);have e2:w4.cell? ⟨w.heap.size,2,none⟩=some (.bool f.els):=F4.cell rfl;push_cast -dsimp[e2];refine ag (z:=[.slice none 0 0,.bool false]) (by kernel_rfl) ?_;intro w5 cO;have z5:=cO.size;push_cast -dsimp;refine aJ (n:=2) (by kernel_rfl) cO.aN rfl (by simp) (by simp[Value.oneCell']) ?_;intro w6 bZ;have z6:=bZ.size;have Q6:aM w6 w4.heap.size 79 [.slice none 0 0,.bool f.els]:=bZ.aN;have aAj:Below w4.heap.size w4 w6:=cO.below.trans (bZ.kept.below (by omega) (λi h=>by omega));have P4:=P3.below kj (by omega);have F6:=F4.below aAj (by omega);have f6:w6.cell? ⟨w.heap.size,1,none⟩=some (.slice ra rs.length rc):=F6.cell rfl;have Cl:∃Xc:Nat->Prop,Xc=λb=>(X b/\b<w.heap.size)\/b=w1.heap.size\/w4.heap.size<=b:=⟨_,rfl⟩;obtain⟨Xc,Cl⟩:=Cl;have hN4:fW Xc w4 mb nm:=fW.iA Yd.top (λb hb=>by
   rw[Cl]at hb;rcases hb with hb|hb|hb
   ·exact .inl ⟨.inl hb.1,by omega⟩
   ·exact .inl ⟨.inr (by omega),by omega⟩
   exact .inr hb)
  have hR4:cU (lQ Xc w4) rs f.rules:=(hR.imp λa c h=>lQ.top h).imp λa c h=>⟨h.1,h.2.1,ai.iA (h.2.2.1.below j0) (λb hb=>by
   rw[Cl]at hb;rcases hb with hb|hb|hb
   ·exact .inl hb.1
   ·exact .inr (by omega)
   exact .inr (by omega)),ai.iA (h.2.2.2.below j0) (λb hb=>by
   rw[Cl]at hb;rcases hb with hb|hb|hb
   ·exact .inl hb.1
   ·exact .inr (by omega)
   exact .inr (by omega))⟩
  have QQ:=LK lA o8;push_cast -dsimp[f6];refine aL [3,9,10,11,12,13,35,36,37,38,39,40,41,42,43,44,45,46,47,48,49,50,51,52,53,54,55,56,57,58,59,60,61,62,63,64,65,66,67,68,69,70,71,72,73,74,75] (λz wx=>∃(i:Nat) (ov:Value) (us:List PV) (l:List bg),z 35=.int .i64 i/\i<=f.rules.length/\aM wx w4.heap.size 79 [ov,.bool f.els]/\Vc.Own w6.heap.size 139 5 nC wx ov us/\us.length=l.length/\(∀(k:Nat) (u:PV) (r:bg),us[k]?=some u->l[k]?=some r->fF (λb=>b=w4.heap.size\/b=w1.heap.size\/ov.ownBlock=some b\/(X b/\b<w.heap.size)) wx (nC u) r)/\cU (λ(r:bg) (q:cD)=>r.brk=q.brk/\dh (bD nm) true q.before r.before/\dh (bD nm) false q.after r.after) l (f.rules.take i)/\Below w4.heap.size w4 wx/\w6.heap.size<=wx.heap.size) (λz _=>f.rules.length-(intOf (z 35)).toNat) ?_ ?_
  ·exact⟨0,_,[],[],rfl,Nat.zero_le _,Q6,Vc.Own.nil (enc:=nC) _ _ (λ_=>rfl) _,rfl,(by intro k u r h;simp at h),.nil,aAj,Nat.le_refl _⟩
  intro z wx hI;obtain⟨i,ov,us,l,h35,hi,hQ,hO,su,rO,hA,La,zx⟩:=hI;have fg:=hO.block;have hll:=cU.len hA;rw[List.length_take]at hll;push_cast -dsimp[h35];refine⟨λaw=>?_,λfT=>?_⟩
  ·obtain⟨c,hc,sC,_,ht⟩:=au (l:=f.rules) (i:=i) (by omega);obtain⟨x,hx,HN,xW,HM,xV⟩:=pt hR4 hc;have hrx:=(jO.below j0).below La;obtain⟨b1,o,rfl,jh,aK⟩:=hrx.get hx;obtain⟨xp,xb,x1,x2⟩:=x;simp only at HN xW HM xV;subst HN;subst xW;have c4:aB wx ⟨b1,o+i*4,none⟩ 0 4=some [.int .i64 c.pos,.bool c.brk,.pointer (some ⟨x1,0,none⟩),.pointer (some ⟨x2,0,none⟩)]:=ax _ 0 (λj u hu=>by simpa[iU,bd] using aK j u hu);push_cast -dsimp[c4];refine⟨⟨by omega,by omega⟩,?_⟩;refine ag (z:=[.int .i64 0,.bool false,.pointer none,.pointer none]) (by kernel_rfl) ?_;intro wa dt;have za:=dt.size;push_cast -dsimp;refine aJ (n:=4) (by kernel_rfl) dt.aN rfl (by simp) (by simp[Value.oneCell']) ?_;intro wb cL;have zb:=cL.size;have Rb:aM wb wx.heap.size 50 [.int .i64 c.pos,.bool c.brk,.pointer (some ⟨x1,0,none⟩),.pointer (some ⟨x2,0,none⟩)]:=cL.aN;have aIO:Below wx.heap.size wx wb:=dt.below.trans (cL.kept.below (by omega) (λi h=>by omega));have Vf:=La.trans (aIO.mono (by omega));have r2:wb.cell? ⟨wx.heap.size,2,none⟩=some (.pointer (some ⟨x1,0,none⟩)):=Rb.cell rfl;have uR:=QQ c sC;push_cast -dsimp[r2];refine aA (DZ c.before (dD c sC).1 (bJ.2 c sC).1 (jE c sC).1 nm uR.1 Sr Xc _ mb true wb (HM.below Vf) (hN4.below Vf)) ?_;rintro _ wc ⟨hK1,mm⟩;have zc:=mm.size;obtain⟨s1,i1,ev1,rfl,o1,p1,hK1⟩:=hK1.cases;have aMM:=aIO.trans (mm.mono (by omega));push_cast -dsimp;refine ag (z:=[.slice none 0 0,.slice none 0 0]) (by kernel_rfl) ?_;intro wd lG;have zd:=lG.size;push_cast -dsimp
   refine aJ (n:=2) (by kernel_rfl) lG.aN rfl (by simp) (by simp[o1,p1]) ?_;intro we nK;have ze:=nK.size;have C1e:aM we wc.heap.size 70 [s1,i1]:=nK.aN;have aEp:Below wc.heap.size wc we:=lG.below.trans (nK.kept.below (by omega) (λi h=>by omega));have Vp:=aMM.trans (aEp.mono (by omega));have QI:=La.trans (Vp.mono (by omega));have Re:=(Rb.below mm (by omega)).below aEp (by omega);have r3:we.cell? ⟨wx.heap.size,3,none⟩=some (.pointer (some ⟨x2,0,none⟩)):=Re.cell rfl;push_cast -dsimp[r3];refine aA (DZ c.after (dD c sC).2 (bJ.2 c sC).2 (jE c sC).2 nm uR.2 Sr Xc _ mb false we (xV.below QI) (hN4.below QI)) ?_;rintro _ wf ⟨hK2,Vi⟩;have zf:=Vi.size;obtain⟨s2,i2,ev2,rfl,o2,p2,hK2⟩:=hK2.cases;have aMN:=Vp.trans (Vi.mono (by omega));push_cast -dsimp;refine ag (z:=[.slice none 0 0,.slice none 0 0]) (by kernel_rfl) ?_;intro wg nk;have zg:=nk.size;push_cast -dsimp;refine aJ (n:=2) (by kernel_rfl) nk.aN rfl (by simp) (by simp[o2,p2]) ?_;intro wh hwh;have zh:=hwh.size;have C2h:aM wh wf.heap.size 70 [s2,i2]:=hwh.aN;have Vj:Below wf.heap.size wf wh:=nk.below.trans (hwh.kept.below (by omega) (λi h=>by omega));have QN:=aMN.trans (Vj.mono (by omega));have zxh:=QN.size;have Fk:=La.trans (QN.mono (by omega));have Rh:=(Re.below Vi (by omega)).below Vj (by omega);have C1h:=(C1e.below Vi (by omega)).below Vj (by omega);rcases hK1 with ⟨rfl,k1,hV1,hC1⟩|⟨rfl,vn⟩
   ·rcases hK2 with ⟨rfl,k2,p8,hC2⟩|⟨rfl,mn⟩
    ·have dQ:wh.cell? ⟨w4.heap.size,0,none⟩=some ov:=(hQ.below QN (by omega)).cell rfl;have r1:wh.cell? ⟨wx.heap.size,1,none⟩=some (.bool c.brk):=Rh.cell rfl;have dC1:aB wh ⟨wc.heap.size,0,none⟩ 0 2=some [s1,i1]:=C1h.aB;have dC2:aB wh ⟨wf.heap.size,0,none⟩ 0 2=some [s2,i2]:=C2h.aB;have aMo:=hV1;have aMq:=p8;obtain⟨sv1,iv1,aIx,aOf,aNn⟩:=aMo;obtain⟨sv2,iv2,aIy,Qg,Ft⟩:=aMq;simp only[Value.agg.injEq,Array.mk.injEq,List.cons.injEq,and_true]at aIx aIy;obtain⟨rfl,rfl⟩:=aIx;obtain⟨rfl,rfl⟩:=aIy;obtain⟨a1,n1,rfl,_⟩:=aOf.shape;obtain⟨a2,n2,rfl,_⟩:=aNn.shape;obtain⟨a3,n3,rfl,_⟩:=Qg.shape;obtain⟨a4,n4,rfl,_⟩:=Ft.shape;push_cast -dsimp[dQ,r1,dC1,dC2];refine cT FI rfl rfl (by omega) ?_;intro wr oJ;have zr:=oJ.size;have aAn:=QN.trans (oJ.below.mono (by omega));have hOr:=hO.below aAn;have hQr:=hQ.below aAn (by omega);push_cast -dsimp;refine aS (base:=w6.heap.size) [(⟨c.brk,⟨a1,k1.sets.length,n1⟩,⟨a2,k1.ins.length,n2⟩,⟨a3,k2.sets.length,n3⟩,⟨a4,k2.ins.length,n4⟩⟩:PV)] (enc:=nC) FI hOr (by rfl) (λj u hu=>by rw[Nat.zero_add];exact oJ.cell hu) D1 (by simp only[List.length_cons,List.length_nil];omega) (by omega) ?_;intro vq wq yK Cq hnq;have pk:Kept (λj=>ov.ownBlock=some j) wr wq:=Kept.grown Cq (λ_ h=>h);have zq:=pk.size;have Gq:=hQr.kept pk (λh=>by have:=fg _ h;omega);have aNW:=yK.block;obtain⟨qa,qc,rfl⟩:=yK.slice;push_cast -dsimp;refine aC Gq (by simp) rfl ?_;intro ws hws;have zs:=hws.size
     have Qs:aM ws w4.heap.size 79 [.slice qa (us++[(⟨c.brk,⟨a1,k1.sets.length,n1⟩,⟨a2,k1.ins.length,n2⟩,⟨a3,k2.sets.length,n3⟩,⟨a4,k2.ins.length,n4⟩⟩:PV)]).length qc,.bool f.els]:=hws.aN;have hOs:=yK.aI hws.kept (λg hg h=>by have:=aNW g hg;have h':g=w4.heap.size:=h;omega);have krs:Kept (λj=>j=w4.heap.size\/ov.ownBlock=some j) wr ws:=(pk.weaken (λj _ h=>.inr h)).trans hws.kept (λj _ h=>.inl h);have hY:∃Y:Nat->Prop,Y=λb=>(b=w4.heap.size\/b=w1.heap.size\/ov.ownBlock=some b\/(X b/\b<w.heap.size))\/wr.heap.size<=b:=⟨_,rfl⟩;obtain⟨Y,hY⟩:=hY;have hkY:∀j,(j=w4.heap.size\/ov.ownBlock=some j)->Y j:=λj h=>by
      rw[hY];rcases h with h|h
      ·exact .inl (.inl h)
      exact .inl (.inr (.inr (.inl h)))
     have hYs:∀b,(b=w4.heap.size\/b=w1.heap.size\/(Value.slice qa (us++[(⟨c.brk,⟨a1,k1.sets.length,n1⟩,⟨a2,k1.ins.length,n2⟩,⟨a3,k2.sets.length,n3⟩,⟨a4,k2.ins.length,n4⟩⟩:PV)]).length qc).ownBlock=some b\/(X b/\b<w.heap.size))->Y b:=λb hb=>by
      rw[hY];rcases hb with hb|hb|hb|hb
      ·exact .inl (.inl hb)
      ·exact .inl (.inr (.inl hb))
      ·rcases hnq b hb with h|h
       ·exact .inl (.inr (.inr (.inl h)))
       exact .inr h
      exact .inl (.inr (.inr (.inr hb)))
     have hcw:∀b,b<wr.heap.size->Y b->Xc b/\b<wb.heap.size:=λb hb hy=>by
      rw[hY]at hy;rw[Cl];rcases hy with (hy|hy|hy|hy)|hy
      ·exact⟨.inr (.inr (by omega)),by omega⟩
      ·exact⟨.inr (.inl hy),by have:=j0.size;omega⟩
      ·have:=fg b hy;exact⟨.inr (.inr (by omega)),by omega⟩
      ·exact⟨.inl hy,by have:=j0.size;omega⟩
      omega
     have aMH:Below wc.heap.size wc wr:=aEp.trans ((Vi.mono (by omega)).trans ((Vj.mono (by omega)).trans (oJ.below.mono (by omega))));have aMJ:Below wf.heap.size wf wr:=Vj.trans (oJ.below.mono (by omega));have aMp:cW Y ws (.agg #[.slice a1 k1.sets.length n1,.slice a2 k1.ins.length n2]) k1:=cW.kept ((hV1.below aMH).narrow hcw) krs hkY;have aMs:cW Y ws (.agg #[.slice a3 k2.sets.length n3,.slice a4 k2.ins.length n4]) k2:=cW.kept ((p8.below aMJ).narrow (λb hb hy=>by have:=hcw b hb hy;exact⟨this.1,by omega⟩)) krs hkY;have aOl:∀(k:Nat) (u:PV) (r:bg),(us++[(⟨c.brk,⟨a1,k1.sets.length,n1⟩,⟨a2,k1.ins.length,n2⟩,⟨a3,k2.sets.length,n3⟩,⟨a4,k2.ins.length,n4⟩⟩:PV)])[k]?=some u->(l++[(⟨c.brk,k1,k2⟩:bg)])[k]?=some r->fF (λb=>b=w4.heap.size\/b=w1.heap.size\/(Value.slice qa (us++[(⟨c.brk,⟨a1,k1.sets.length,n1⟩,⟨a2,k1.ins.length,n2⟩,⟨a3,k2.sets.length,n3⟩,⟨a4,k2.ins.length,n4⟩⟩:PV)]).length qc).ownBlock=some b\/(X b/\b<w.heap.size)) ws (nC u) r:=λk u r h1 h2=>by
      have hkl:k<(us++[(⟨c.brk,⟨a1,k1.sets.length,n1⟩,⟨a2,k1.ins.length,n2⟩,⟨a3,k2.sets.length,n3⟩,⟨a4,k2.ins.length,n4⟩⟩:PV)]).length:=(List.getElem?_eq_some_iff.1 h1).1;by_cases hk:k<us.length
      ·rw[List.getElem?_append_left hk]at h1;rw[List.getElem?_append_left (by omega)]at h2;have h3:=((rO k u r h1 h2).below aAn).narrow (X':=Y) (λb hb hy=>by
        rw[hY]at hy;rcases hy with hy|hy
        ·exact hy
        omega)
       exact(h3.aC7 krs hkY).narrow (λb _ hb=>hYs b hb)
      have eN:k=us.length:=by rw[List.length_append,List.length_cons,List.length_nil]at hkl;omega
      subst eN;rw[List.getElem?_append_right (Nat.le_refl _),Nat.sub_self]at h1;rw[su,List.getElem?_append_right (Nat.le_refl _),Nat.sub_self]at h2;simp at h1 h2;subst h1;subst h2;exact⟨_,_,_,_,rfl,aMp.narrow (λb _ hb=>hYs b hb),aMs.narrow (λb _ hb=>hYs b hb)⟩
     have aMG:Below w4.heap.size w4 ws:=La.trans ((aAn.mono (by omega)).trans (krs.below (by omega) (λj h=>by
      rcases h with h|h
      ·omega
      have:=fg j h;omega)))
     push_cast -dsimp;refine⟨⟨by omega,by omega⟩,⟨i+1,_,_,l++[(⟨c.brk,k1,k2⟩:bg)],rfl,by omega,Qs,hOs,by simp[su],aOl,by rw[ht];exact cU.snoc hA ⟨rfl,hC1,hC2⟩,aMG,by omega⟩,by rw[h35];simp only[intOf];omega⟩
    skip;push_cast -dsimp;have r0:wh.drew.cell? ⟨wx.heap.size,0,none⟩=some (.int .i64 c.pos):=Rh.drew.cell rfl;have CL:∀bU,aM bU wx.heap.size 50 [.int .i64 c.pos,.bool c.brk,.pointer (some ⟨x1,0,none⟩),.pointer (some ⟨x2,0,none⟩)]->bU.cell? ⟨wx.heap.size,0,none⟩=some (.int .i64 c.pos):=λbU h=>h.cell rfl;refine vI (.one 0 (.one 1 (.one 2 (.one 3 (.two 4 (.one 5 (.one 6 (.one 7 .done))) 6 (.one 4 (.one 5 (.one 7 .done)))))))) (λw'=>aM w' wx.heap.size 50 [.int .i64 c.pos,.bool c.brk,.pointer (some ⟨x1,0,none⟩),.pointer (some ⟨x2,0,none⟩)]) mixed (by kernel_rfl) Rh.drew ?_;push_cast -dsimp[r0];refine⟨λbU h=>by rw[CL bU h];exact rfl,?_,?_⟩
    ·refine aR ?_;intro wi gU;have gU:ly wh.drew wi 94 [.int .i64 4,.int .i64 c.pos]:=gU;have zi:wi.heap.size=wh.heap.size+1:=gU.size;have I6:Below wh.heap.size wh wi:=(bl wh).trans (gU.below.mono (Nat.le_refl _));have Ri:=Rh.below I6 (by omega);refine⟨Ri,?_⟩;have AU:=Fk.trans (I6.mono (by omega));have Pi:=P4.below AU (by omega);push_cast -dsimp;refine aJ (n:=2) (by kernel_rfl) Pi rfl (by simp) (by simp[Value.oneCell']) ?_;intro wj gQ;have Pj:aM wj w1.heap.size 79 [.slice none 0 0,.bool false]:=gQ.aN;have dj:aB wj ⟨w1.heap.size,0,none⟩ 0 2=some [.slice none 0 0,.bool false]:=Pj.aB;refine⟨Ri.kept gQ.kept (by omega),?_⟩;push_cast -dsimp[dj];refine⟨?_,(j0.trans (AU.mono (by omega))).trans (gQ.kept.below (by have:=AU.size;omega) (λi h=>by omega))⟩;unfold rm;rw[lA];exact .inr ⟨c,sC,.inr mn,_,rfl,wh.heap.size,by omega,rfl,gU.aN.kept gQ.kept (by show ¬wh.heap.size=w1.heap.size;omega)⟩
    have Pd:=(P4.below Fk (by omega)).drew;refine aJ (n:=2) (by kernel_rfl) Pd rfl (by simp) (by simp[Value.oneCell']) ?_;intro wi gU;have zi:wi.heap.size=wh.heap.size:=gU.size;have Pi:aM wi w1.heap.size 79 [.slice none 0 0,.bool false]:=gU.aN;have Ri:=Rh.drew.kept gU.kept (by omega);refine⟨Ri,?_⟩;push_cast -dsimp;refine aR ?_;intro wj gQ;have gQ:ly wi wj 94 [.int .i64 4,.int .i64 c.pos]:=gQ;have Pj:=Pi.below gQ.below Pi.lt;have dj:aB wj ⟨w1.heap.size,0,none⟩ 0 2=some [.slice none 0 0,.bool false]:=Pj.aB;refine⟨Ri.below gQ.below Ri.lt,?_⟩;push_cast -dsimp[dj];have uI:Below w.heap.size w wh:=j0.trans (Fk.mono (by omega));have Dd:Kept (λi=>i=w1.heap.size) wh wi:=((Kept.refl (λi=>i=w1.heap.size) wh).drew).trans gU.kept (λ_ _ h=>h);refine⟨?_,(uI.trans (Dd.below (by have:=uI.size;omega) (λi h=>by omega))).trans (gQ.below.mono (by have:=uI.size;omega))⟩;unfold rm;rw[lA];exact .inr ⟨c,sC,.inr mn,_,rfl,wi.heap.size,by have:=uI.size;omega,rfl,gQ.aN⟩
   rcases hK2 with ⟨rfl,k2,p8,hC2⟩|⟨rfl,mn⟩
   ·skip;push_cast -dsimp;have r0:wh.drew.cell? ⟨wx.heap.size,0,none⟩=some (.int .i64 c.pos):=Rh.drew.cell rfl;have CL:∀bU,aM bU wx.heap.size 50 [.int .i64 c.pos,.bool c.brk,.pointer (some ⟨x1,0,none⟩),.pointer (some ⟨x2,0,none⟩)]->bU.cell? ⟨wx.heap.size,0,none⟩=some (.int .i64 c.pos):=λbU h=>h.cell rfl;refine vI (.one 0 (.one 1 (.one 2 (.one 3 (.two 4 (.one 5 (.one 6 (.one 7 .done))) 6 (.one 4 (.one 5 (.one 7 .done)))))))) (λw'=>aM w' wx.heap.size 50 [.int .i64 c.pos,.bool c.brk,.pointer (some ⟨x1,0,none⟩),.pointer (some ⟨x2,0,none⟩)]) mixed (by kernel_rfl) Rh.drew ?_;push_cast -dsimp[r0];refine⟨λbU h=>by rw[CL bU h];exact rfl,?_,?_⟩
    ·refine aR ?_;intro wi gU;have gU:ly wh.drew wi 94 [.int .i64 4,.int .i64 c.pos]:=gU;have zi:wi.heap.size=wh.heap.size+1:=gU.size;have I6:Below wh.heap.size wh wi:=(bl wh).trans (gU.below.mono (Nat.le_refl _));have Ri:=Rh.below I6 (by omega);refine⟨Ri,?_⟩;have AU:=Fk.trans (I6.mono (by omega));have Pi:=P4.below AU (by omega);push_cast -dsimp;refine aJ (n:=2) (by kernel_rfl) Pi rfl (by simp) (by simp[Value.oneCell']) ?_;intro wj gQ;have Pj:aM wj w1.heap.size 79 [.slice none 0 0,.bool false]:=gQ.aN;have dj:aB wj ⟨w1.heap.size,0,none⟩ 0 2=some [.slice none 0 0,.bool false]:=Pj.aB;refine⟨Ri.kept gQ.kept (by omega),?_⟩;push_cast -dsimp[dj];refine⟨?_,(j0.trans (AU.mono (by omega))).trans (gQ.kept.below (by have:=AU.size;omega) (λi h=>by omega))⟩;unfold rm;rw[lA];exact .inr ⟨c,sC,.inl vn,_,rfl,wh.heap.size,by omega,rfl,gU.aN.kept gQ.kept (by show ¬wh.heap.size=w1.heap.size;omega)⟩
    have Pd:=(P4.below Fk (by omega)).drew;refine aJ (n:=2) (by kernel_rfl) Pd rfl (by simp) (by simp[Value.oneCell']) ?_;intro wi gU;have zi:wi.heap.size=wh.heap.size:=gU.size;have Pi:aM wi w1.heap.size 79 [.slice none 0 0,.bool false]:=gU.aN;have Ri:=Rh.drew.kept gU.kept (by omega);refine⟨Ri,?_⟩;push_cast -dsimp;refine aR ?_;intro wj gQ;have gQ:ly wi wj 94 [.int .i64 4,.int .i64 c.pos]:=gQ;have Pj:=Pi.below gQ.below Pi.lt;have dj:aB wj ⟨w1.heap.size,0,none⟩ 0 2=some [.slice none 0 0,.bool false]:=Pj.aB;refine⟨Ri.below gQ.below Ri.lt,?_⟩;push_cast -dsimp[dj];have uI:Below w.heap.size w wh:=j0.trans (Fk.mono (by omega));have Dd:Kept (λi=>i=w1.heap.size) wh wi:=((Kept.refl (λi=>i=w1.heap.size) wh).drew).trans gU.kept (λ_ _ h=>h);refine⟨?_,(uI.trans (Dd.below (by have:=uI.size;omega) (λi h=>by omega))).trans (gQ.below.mono (by have:=uI.size;omega))⟩;unfold rm;rw[lA];exact .inr ⟨c,sC,.inl vn,_,rfl,wi.heap.size,by have:=uI.size;omega,rfl,gQ.aN⟩
   skip;push_cast -dsimp;have r0:wh.drew.cell? ⟨wx.heap.size,0,none⟩=some (.int .i64 c.pos):=Rh.drew.cell rfl;have CL:∀bU,aM bU wx.heap.size 50 [.int .i64 c.pos,.bool c.brk,.pointer (some ⟨x1,0,none⟩),.pointer (some ⟨x2,0,none⟩)]->bU.cell? ⟨wx.heap.size,0,none⟩=some (.int .i64 c.pos):=λbU h=>h.cell rfl;refine vI (.one 0 (.one 1 (.one 2 (.one 3 (.two 4 (.one 5 (.one 6 (.one 7 .done))) 6 (.one 4 (.one 5 (.one 7 .done)))))))) (λw'=>aM w' wx.heap.size 50 [.int .i64 c.pos,.bool c.brk,.pointer (some ⟨x1,0,none⟩),.pointer (some ⟨x2,0,none⟩)]) mixed (by kernel_rfl) Rh.drew ?_;push_cast -dsimp[r0];refine⟨λbU h=>by rw[CL bU h];exact rfl,?_,?_⟩
   ·refine aR ?_;intro wi gU;have gU:ly wh.drew wi 94 [.int .i64 4,.int .i64 c.pos]:=gU;have zi:wi.heap.size=wh.heap.size+1:=gU.size;have I6:Below wh.heap.size wh wi:=(bl wh).trans (gU.below.mono (Nat.le_refl _));have Ri:=Rh.below I6 (by omega);refine⟨Ri,?_⟩;have AU:=Fk.trans (I6.mono (by omega));have Pi:=P4.below AU (by omega);push_cast -dsimp;refine aJ (n:=2) (by kernel_rfl) Pi rfl (by simp) (by simp[Value.oneCell']) ?_;intro wj gQ;have Pj:aM wj w1.heap.size 79 [.slice none 0 0,.bool false]:=gQ.aN;have dj:aB wj ⟨w1.heap.size,0,none⟩ 0 2=some [.slice none 0 0,.bool false]:=Pj.aB;refine⟨Ri.kept gQ.kept (by omega),?_⟩;push_cast -dsimp[dj];refine⟨?_,(j0.trans (AU.mono (by omega))).trans (gQ.kept.below (by have:=AU.size;omega) (λi h=>by omega))⟩;unfold rm;rw[lA];exact .inr ⟨c,sC,.inl vn,_,rfl,wh.heap.size,by omega,rfl,gU.aN.kept gQ.kept (by show ¬wh.heap.size=w1.heap.size;omega)⟩
   have Pd:=(P4.below Fk (by omega)).drew;refine aJ (n:=2) (by kernel_rfl) Pd rfl (by simp) (by simp[Value.oneCell']) ?_;intro wi gU;have zi:wi.heap.size=wh.heap.size:=gU.size;have Pi:aM wi w1.heap.size 79 [.slice none 0 0,.bool false]:=gU.aN;have Ri:=Rh.drew.kept gU.kept (by omega);refine⟨Ri,?_⟩;push_cast -dsimp;refine aR ?_;intro wj gQ;have gQ:ly wi wj 94 [.int .i64 4,.int .i64 c.pos]:=gQ;have Pj:=Pi.below gQ.below Pi.lt;have dj:aB wj ⟨w1.heap.size,0,none⟩ 0 2=some [.slice none 0 0,.bool false]:=Pj.aB;refine⟨Ri.below gQ.below Ri.lt,?_⟩;push_cast -dsimp[dj];have uI:Below w.heap.size w wh:=j0.trans (Fk.mono (by omega));have Dd:Kept (λi=>i=w1.heap.size) wh wi:=((Kept.refl (λi=>i=w1.heap.size) wh).drew).trans gU.kept (λ_ _ h=>h);refine⟨?_,(uI.trans (Dd.below (by have:=uI.size;omega) (λi h=>by omega))).trans (gQ.below.mono (by have:=uI.size;omega))⟩;unfold rm;rw[lA];exact .inr ⟨c,sC,.inl vn,_,rfl,wi.heap.size,by have:=uI.size;omega,rfl,gQ.aN⟩
  rw[List.take_of_length_le (by omega)]at hA;obtain⟨oa,oc,rfl⟩:=hO.slice;have dQ:aB wx ⟨w4.heap.size,0,none⟩ 0 2=some [.slice oa us.length oc,.bool f.els]:=hQ.aB;have Px:=P4.below La (by omega);push_cast -dsimp[dQ];refine aJ (n:=2) (by kernel_rfl) Px rfl (by simp) (by simp[Value.oneCell']) ?_;intro wj gQ;have Pj:aM wj w1.heap.size 79 [.slice oa us.length oc,.bool f.els]:=gQ.aN;have dj:aB wj ⟨w1.heap.size,0,none⟩ 0 2=some [.slice oa us.length oc,.bool f.els]:=Pj.aB;have hOj:=hO.aI gQ.kept (λg hg h=>by have:=fg g hg;have h':g=w1.heap.size:=h;omega);have aIM:Below w.heap.size w wx:=j0.trans (La.mono (by omega));push_cast -dsimp[dj];refine⟨?_,aIM.trans (gQ.kept.below (by have:=aIM.size;omega) (λi h=>by omega))⟩;unfold rm;rw[lA];refine .inl ⟨nm,⟨l,f.els⟩,_,o8,rfl,⟨_,rfl,(G9 (R:=fF (λb=>X b/\b<w.heap.size) wj) hOj su (λk r hr=>?_)).weaken (λb hb=>by have:=hb.2;omega)⟩,rfl,hA⟩;obtain⟨u,hu,_⟩:=au (l:=us) (i:=k) (by have:=(List.getElem?_eq_some_iff.1 hr).1;omega);exact⟨u,hu,((rO k u r hu hr).aC7 gQ.kept (λj h=>.inr (.inl h))).narrow (λb _ hb=>.inr (.inr (.inr hb)))⟩
theorem QG {s:List UInt8}{f:dw}(hl:s.length<=900)(hp:eO s=.ok f){r:cD}(hr:r∈f.rules)(h:2000<bK r.before+1\/2000<bK r.after+1):8<s.length/\((43:UInt8)∈s\/(123:UInt8)∈s):=by
 refine⟨?_,?_⟩
 ·by_cases h8:s.length<=8
  ·have:=LN h8 hp r hr;omega
  omega
 by_cases h1:(43:UInt8)∈s
 ·exact .inl h1
 by_cases h2:(123:UInt8)∈s
 ·exact .inr h2
 have:=LM hl h1 h2 hp r hr;omega
theorem aB1 (n:Nat):∀(s:List UInt8) (a:Nat),s.length=n->∀u∈jw a s,u.p<=1114111:=by
 induction n using Nat.strongRecOn with
 | _ n ih =>
  intro s a hn u hu;by_cases h:s=[]
  ·subst h;rw[Br]at hu;cases hu
  rw[wT a s h]at hu;rcases List.mem_cons.1 hu with rfl|hu
  ·show (gz s).1<=1114111
   unfold gz
   have:=(r7 s).2.2.2;split<;>simp<;>omega
  have h1:=r8 s;have h2:0<s.length:=List.length_pos_iff.2 h;exact ih (s.drop (gz s).2).length (by simp;omega) _ _ rfl u hu
theorem aFW (t:List UInt8):∀p∈bC (jw 0 t),0<=p/\p<=1114111:=by
 intro p hp;unfold bC at hp;obtain⟨u,hu,rfl⟩:=List.mem_map.1 hp
 have:=aB1 t.length t 0 rfl u hu;omega
theorem dh.lens {has:ao->Int->Prop}{back:Bool}{x:aF}{c:aD}(h:dh has back x c):jx c/\c.ins.length<1000000000/\c.sets.length<1000000000:=by
 have h1:=h.aBh;have h2:=h.sets;exact⟨λs hs=>by have:=fu (h.right s hs);omega,by omega,by omega⟩
theorem Ry (l:List Int)(base:Nat)(v:Value)(w:World)(hn:l.length<1000000000)(ho:Vc.Own base 3 1 nd w v l)(hb0:base<=w.heap.size) :
  bE Tryz.prog 25 [v] w λ_ w'=>Vc.Own base 3 1 nd w' v l.reverse/\Below base w w':=by
 obtain⟨a,c,rfl⟩:=ho.slice;refine aE Tryz.func25 rfl (by kernel_rfl) [] rfl ?_;push_cast -dsimp(maxSteps:=4000000) [Tryz.ntmps25];refine⟨⟨by omega,by omega⟩,?_⟩;refine aL [2,3,7,8,9,10,11,12,13,14,15,16,17,18,19,20,21,22,23,24,25,26,27] (λz wx=>∃(i:Nat) (cur:List Int),z 2=.int .i64 i/\z 3=.int .i64 ((l.length:Int)-1-i)/\2*i<=l.length/\cur.length=l.length/\(∀k,k<l.length->cur[k]?=if k<i\/l.length-i<=k then l[l.length-1-k]? else l[k]?)/\Vc.Own base 3 1 nd wx (.slice a l.length c) cur/\Below base w wx) (λz _=>l.length-(intOf (z 2)).toNat) ?_ ?_
 ·exact⟨0,l,rfl,by simp[at_],by omega,rfl,λk hk=>by rw[if_neg (by omega)],ho,Below.refl _ _⟩
 intro z wx hI;obtain⟨i,cur,h2,h3,hi,j1,Fo,kB,hb⟩:=hI;have EZ:=hb.size;push_cast -dsimp[h2,h3];refine⟨λaw=>?_,λfT=>?_⟩
 ·have hex:∃(x y:Int) (g:Nat),cur[i]?=some x/\cur[l.length-1-i]?=some y/\a=some ⟨g,0,none⟩/\wx.cell? ⟨g,i,none⟩=some (.int .i64 x)/\wx.cell? ⟨g,l.length-1-i,none⟩=some (.int .i64 y):=by
   obtain⟨x,hx,_⟩:=au (l:=cur) (i:=i) (by omega);obtain⟨y,hy,_⟩:=au (l:=cur) (i:=l.length-1-i) (by omega);have hgx:=kB.sl.get hx;have QW:=kB.sl.get hy;obtain⟨b,o,e,_,hcx⟩:=hgx;obtain⟨b',o',e',_,hcy⟩:=QW;rw[e]at e';cases e';have ho0:o=0:=Vc.Own.ZF (by rw[<-e];exact kB);subst ho0;exact⟨x,y,b,hx,hy,e,by simpa using hcx 0 _ rfl,by simpa using hcy 0 _ rfl⟩
  obtain⟨x,y,g,hx,hy,he,cx,cy⟩:=hex;subst he;have ej:((l.length:Int)-1-i)=((l.length-1-i:Nat):Int):=by omega
  rw[ej];refine Bz [0,1,2,3,4,5,6,7,8,9,10,11,12] 13 [14,15] (λw'=>w'=wx.drew) mixed (by kernel_rfl) rfl ?_;have cx':wx.drew.cell? ⟨g,i,none⟩=some (.int .i64 x):=cx;have cy':wx.drew.cell? ⟨g,l.length-1-i,none⟩=some (.int .i64 y):=cy;have GB:Vc.Own base 3 1 nd wx.drew (.slice (some ⟨g,0,none⟩) l.length c) cur:=kB.aI (Kept.refl (λ_=>False) _).drew (λ_ _ h=>h);push_cast -dsimp[cx',cy'];refine⟨⟨by omega,by omega⟩,λbU hC=>by rw[hC,cy'];exact rfl,⟨by omega,by omega⟩,λbU hC=>by rw[hC,cx'];exact rfl,⟨by omega,by omega⟩,?_⟩;refine vG (i:=i) (y:=y) GB rfl (by omega) rfl rfl ?_;intro w1 uP N9 sM;refine⟨trivial,?_⟩;push_cast -dsimp;refine⟨⟨by omega,by omega⟩,?_⟩;have vn:l.length-1-i<(cur.set i y).length:=by rw[List.length_set];omega
  have mj:(cur.set i y).length=cur.length:=List.length_set;refine vG (i:=l.length-1-i) (y:=x) uP rfl vn rfl rfl ?_;intro w2 ob nj HQ;have Cx:Kept (λj=>j=g) wx w2:=(((Kept.refl (λj=>j=g) wx).drew).trans N9 (λ_ _ h=>h)).trans nj (λ_ _ h=>h);have yl:base<=g:=(kB.block g rfl).1;refine⟨trivial,?_⟩;push_cast -dsimp;refine⟨⟨by omega,by omega⟩,⟨by omega,by omega⟩,⟨i+1,(cur.set i y).set (l.length-1-i) x,rfl,by congr 1;omega,by omega,by rw[List.length_set,List.length_set];exact j1,λk hk=>?_,ob,hb.trans (Cx.below (by omega) (λj h=>by rw[show j=g from h];exact yl))⟩,by rw[h2];simp only[intOf];omega⟩
  rw[List.getElem?_set,List.getElem?_set];have Cp:=Fo i (by omega);have qN:=Fo (l.length-1-i) (by omega);rw[if_neg (by omega)]at Cp qN;rw[hx]at Cp;rw[hy]at qN;by_cases e1:l.length-1-i=k
  ·rw[if_pos e1,if_pos vn,if_pos (by omega),Cp];congr 1;omega
  rw[if_neg e1];by_cases e2:i=k
  ·rw[if_pos e2,if_pos (by omega),if_pos (by omega),qN];congr 1;omega
  rw[if_neg e2,Fo k hk];by_cases e3:k<i\/l.length-i<=k
  ·rw[if_pos e3,if_pos (by omega)]
  rw[if_neg e3,if_neg (by omega)]
 have aE7:cur=l.reverse:=by
  apply List.ext_getElem?;intro k;by_cases hk:k<l.length
  ·rw[Fo k hk,List.getElem?_reverse hk];split
   ·rfl
   congr 1;omega
  rw[List.getElem?_eq_none (by omega),List.getElem?_eq_none (by rw[List.length_reverse];omega)]
 subst aE7;exact⟨kB,hb⟩
end Go.Proofs.YtledlfbbebodgaaGreatDoor
end
section
namespace Go.Proofs.YtledlfbbebodgaaGreatDoor
open Go.Vc Go.Proofs Go.RowKit Cae
attribute [local irreducible] dd ae ak a7 runK bE Sl Vc.Own vc aU cJ a8
attribute [local irreducible] bm ee nL fO ab eo
theorem Bx (p:dX)(ps:List Int)(hl:td p)(xU:ps.length<1000000)(X Xp:Nat->Prop)(v pv:Value)(w:World)(hv:nz X w v p)(Ym:Sl Xp 1 (En nd) w pv ps)(CN:Arg pv) :
  bE Tryz.prog 34 [v,pv] w λr w'=>(if eG p then ∃u,r=.tuple #[u,.nilIface]/\Vc.Own w.heap.size 3 1 aY w' u (jz p ps) else r=.tuple #[.slice none 0 0,.iface 83 (.int .i64 1)])/\Below w.heap.size w w':=by
 obtain⟨rv,rfl,hr⟩:=hv;obtain⟨a,c,rfl,hc⟩:=hr.shape;obtain⟨a3,c3,rfl,hc3⟩:=Ym.shape;refine aE Tryz.func34 rfl (by kernel_rfl) [4,5] rfl ?_;push_cast -dsimp(maxSteps:=4000000) [Tryz.ntmps34];refine aR ?_;intro w1 aZ;have aZ:ly w w1 79 [.slice a p.rules.length c,.bool p.els]:=aZ;have sM:=aZ.size;have d1:aB w1 ⟨w.heap.size,0,none⟩ 0 2=some [.slice a p.rules.length c,.bool p.els]:=aZ.aN.aB;push_cast -dsimp[d1];refine aA (qm p hl X _ w1 ⟨_,rfl,og.below hr aZ.below⟩) ?_;rintro _ w2 ⟨rfl,eR⟩;have HQ:=eR.size;have hL2:=aZ.below.trans (eR.mono (by omega));cases hR:eG p with
 | false =>
  push_cast -dsimp[Bool.false_eq_true,if_false];exact hL2
 | true =>
  have WQ:=mZ hR;obtain⟨hlen,cN⟩:=WQ;push_cast -dsimp;refine aL [4,5,6,7,8,9,11,12,13,14,15,16,17,22,23,24,25,26,27,28,29,30,31,32,33,34,35,36,37,38,39,40,41,42,43,44,45,46,47,48,49,50,51,52,53,54,55,56,57,58,59,60,61,62,63,64,65,66,67,68,69,70,71,72,73,74,75,76,77,78,79,80,81,82,83,84,85,86,87,88,89,90,91,92,93] (λz wx=>∃(i:Nat) (u:Value),z 7=.int .i64 i/\z 6=u/\i<=ps.length+1/\(ps=[]->i=0)/\Vc.Own w1.heap.size 3 1 aY wx u (bm p ps i)/\Below w1.heap.size w1 wx) (λz _=>ps.length+1-(intOf (z 7)).toNat) ?_ ?_
  ·refine⟨0,_,rfl,rfl,by omega,λ_=>rfl,?_,eR⟩;rw[rq];exact Vc.Own.nil (enc:=aY) _ _ (λ_=>rfl) _
  intro z wx hI;obtain⟨i,u,h7,h6,hi,yP,ho,bT⟩:=hI;have qS:=ho.slice;obtain⟨ua,uc,rfl⟩:=qS;have hLx:Below w.heap.size w wx:=aZ.below.trans (bT.mono (by omega));have EZ:=bT.size;have hbl:=Es p ps i;push_cast -dsimp[h7,h6];have uJ:(ps=[]\/ps.length<i)->bm p ps i=jz p ps:=λh=>by
   unfold jz;by_cases h0:ps=[]
   ·rw[if_pos h0,yP h0];exact rq p ps
   rw[if_neg h0];have:i=ps.length+1:=by
    rcases h with h|h
    ·exact absurd h h0
    omega
   rw[this]
  refine⟨λhle=>⟨λpC=>?_,λhzero=>?_⟩,λHF=>?_⟩
  ·have xM:i<=ps.length:=by omega
   have hpx:=Ym.below hLx;refine YL hpx xM ?_;intro gA;push_cast -dsimp;refine aA (NO (ps.take i) (by rw[List.length_take];omega) Xp _ wx gA (λn c h=>by
    have:=CN ps.length c3 (by cases h;rfl);cases h;omega)) ?_
   rintro v1 w3 ⟨uP,fL⟩;have TJ:=fL.size;push_cast -dsimp;refine aA (Ry (ps.take i) wx.heap.size v1 w3 (by rw[List.length_take];omega) uP (by omega)) ?_;rintro _ w4 ⟨ob,kj⟩;have Yu:=kj.size;have aEj:Below wx.heap.size wx w4:=fL.trans kj;have aOa:=ob.sl;have aEk:Below w1.heap.size w1 w4:=bT.trans (aEj.mono (by omega));have hP4:aM w4 w.heap.size 79 [.slice a p.rules.length c,.bool p.els]:=aZ.aN.below aEk (by omega);have e0:w4.cell? ⟨w.heap.size,0,none⟩=some (.slice a p.rules.length c):=hP4.cell rfl;have e1:w4.cell? ⟨w.heap.size,1,none⟩=some (.bool p.els):=hP4.cell rfl;have hL4:=hLx.trans (aEj.mono (by omega));have oH:=ho.below (aEj.mono (Nat.le_refl _));have uS:∃sb,ee p ps i 0=sb:=⟨_,rfl⟩;obtain⟨sb,uS⟩:=uS;have yR:(sb=true\/i=0\/i=ps.length)->bm p ps (i+1)=bm p ps i++[i]:=λh=>by
    rw[rp,if_pos];unfold nL;rw[uS];rcases h with h|h|h
    ·rw[h];rfl
    ·rw[decide_eq_true h,Bool.or_true,Bool.true_or]
    rw[decide_eq_true h,Bool.or_true]
   have eZ:sb=false->i≠0->i≠ps.length->bm p ps (i+1)=bm p ps i:=λh1 h2 h3=>by
    rw[rp,if_neg];unfold nL;rw[uS,h1,decide_eq_false h2,decide_eq_false h3];simp
   have xR:ps=[]->i+1=0:=λh=>by subst h;simp at pC
   push_cast -dsimp[e0,e1];refine aL [4,5,9,11,12,13,14,15,16,17,44,45,46,47,48,49,50,51,52,53,54,55,56,57,58,59,60,61,62,63,64,65,66,67,68,69,70,71,72,73,74,75,76,77,78] (λz' wy=>∃(k:Nat),z' 44=.int .i64 k/\z' 9=.bool p.els/\k<=p.rules.length/\ee p ps i 0=ee p ps i k/\Below w4.heap.size w4 wy) (λz' _=>p.rules.length-(intOf (z' 44)).toNat) ?_ ?_
   ·exact⟨0,rfl,rfl,Nat.zero_le _,rfl,Below.refl _ _⟩
   intro z' wy hI;obtain⟨k,h44,h9,hk,Iw,iD⟩:=hI;have szy:=iD.size;have hLy:Below w.heap.size w wy:=hL4.trans (iD.mono (by omega));have aMF:Below w1.heap.size w1 wy:=aEk.trans (iD.mono (by omega));rcases Nat.lt_or_ge k p.rules.length with aw|fT
   ·have hg:=au (l:=p.rules) (i:=k) aw;obtain⟨r,hrk,hrm,_⟩:=hg;have hg:=Sl.AQ (og.below hr hLy) hrk;obtain⟨b,o,cs,rfl,hX,CS,aK,hRr⟩:=hg;obtain⟨s1,i1,s2,i2,rfl,h1,h2⟩:=hRr;have ce:aB wy ⟨b,o+k*5,none⟩ 0 5=some [.bool r.brk,s1,i1,s2,i2]:=ax [.bool r.brk,s1,i1,s2,i2] 0 (λj u hu=>by simpa using aK j u hu);push_cast -dsimp[h44,h9,ce];refine⟨λ_=>⟨⟨by omega,by omega⟩,?_⟩,λh=>absurd h (by omega)⟩;have QQ:=cN r hrm;have TE:=hl.2 r hrm;refine ag (z:=[.bool false,.slice none 0 0,.slice none 0 0,.slice none 0 0,.slice none 0 0]) (by kernel_rfl) ?_;intro wa dt;push_cast -dsimp;refine aJ (n:=5) (by kernel_rfl) dt.aN rfl (by simp) (by
     obtain⟨_,_,e1,g1,g2⟩:=h1;cases e1;obtain⟨_,_,rfl,_⟩:=g1.shape;obtain⟨_,_,rfl,_⟩:=g2.shape;obtain⟨_,_,e2,g3,g4⟩:=h2;cases e2;obtain⟨_,_,rfl,_⟩:=g3.shape;obtain⟨_,_,rfl,_⟩:=g4.shape;simp[Value.oneCell']) ?_
    intro wb cL;have YS:=dt.size;have SY:=cL.size;have aAo:Below wy.heap.size wy wb:=dt.below.trans (cL.kept.below (by omega) (λ_ h=>by omega));have hBb:aM wb wy.heap.size 139 [.bool r.brk,s1,i1,s2,i2]:=cL.aN;have f1:aB wb ⟨wy.heap.size,1,none⟩ 0 2=some [s1,i1]:=rH (n:=2) (xs:=[s1,i1]) hBb 1 rfl rfl;have hLb:=hLy.trans (aAo.mono (by omega));have Vf:Below w4.heap.size w4 wb:=iD.trans (aAo.mono szy);have p9:=Nt r.before (ps.take i).reverse TE.1.1 TE.1.2.1 TE.1.2.2 (by rw[List.length_reverse,List.length_take];omega) X _ _ v1 wb (h1.below aAo) (aOa.below Vf);unfold sP at p9;rw[if_pos QQ.1]at p9;have e1:(eo r.before (ps.take i).reverse).1=decide ((eo r.before (ps.take i).reverse).1=true):=by simp
    rw[e1]at p9;push_cast -dsimp[f1];refine aA p9 ?_;rintro _ wc ⟨rfl,mm⟩;have szc:=mm.size;have hBc:=hBb.below mm (by omega);have aEl:Below w4.heap.size w4 wc:=Vf.trans (mm.mono (by omega));have ba:=DN (ps:=ps) (i:=i) hrk;have aJS:(eo r.before (ps.take i).reverse).1=true->(eo r.after (ps.drop i)).1=true->r.brk=sb:=λh1 h2=>by
     rw[<-uS,Iw,ba,if_pos];unfold fO;rw[h1,h2];rfl
    have aJq:((eo r.before (ps.take i).reverse).1≠true\/(eo r.after (ps.drop i)).1≠true)->ee p ps i 0=ee p ps i (k+1):=λh=>by
     rw[Iw,ba,if_neg];unfold fO;rw[Bool.and_eq_true];rintro⟨h1,h2⟩;rcases h with h|h
     ·exact h h1
     exact h h2
    push_cast -dsimp;refine⟨λjC=>⟨⟨by omega,by omega⟩,⟨k+1,rfl,by omega,aJq (.inl jC),aEl⟩,by rw[h44];simp only[intOf];omega⟩,λjC=>?_⟩;have jC:(eo r.before (ps.take i).reverse).1=true:=Classical.byContradiction jC;refine bx (λw'=>aM w' wy.heap.size 139 [.bool r.brk,s1,i1,s2,i2]) mixed (by kernel_rfl) hBc.drew ?_;have f2:∀w':World,aM w' wy.heap.size 139 [.bool r.brk,s1,i1,s2,i2]->aB w' ⟨wy.heap.size,3,none⟩ 0 2=some [s2,i2]:=λw' h=>rH (n:=2) (xs:=[s2,i2]) h 3 rfl rfl;have f2d:=f2 wc.drew hBc.drew;have hLc:Below w.heap.size w wc.drew:=(hL4.trans (aEl.mono (by omega))).drew;push_cast -dsimp[f2d];refine⟨λbU hC=>by rw[f2 bU hC];exact rfl,?_⟩;refine YM (Ym.below hLc) xM ?_;intro a' c' gd;push_cast -dsimp;have p9:=Nt r.after (ps.drop i) TE.2.1 TE.2.2.1 TE.2.2.2 (by rw[List.length_drop];omega) X _ _ _ wc.drew (h2.below (aAo.trans ((mm.mono (by omega)).drew))) gd;unfold sP at p9;rw[if_pos QQ.2]at p9;have e2:(eo r.after (ps.drop i)).1=decide ((eo r.after (ps.drop i)).1=true):=by simp
    rw[e2]at p9;refine aA p9 ?_;rintro _ we ⟨rfl,aMI⟩;have aEq:Below wc.heap.size wc we:=(Below.refl _ _).drew.trans aMI;have aUi:=aEq.size;have hBe:=hBc.below aEq (by omega);refine⟨hBe,?_⟩;have QI:Below w4.heap.size w4 we:=aEl.trans (aEq.mono (by omega));push_cast -dsimp;refine⟨λdG=>?_,λdG=>⟨⟨by omega,by omega⟩,⟨k+1,rfl,by omega,aJq (.inr dG),QI⟩,by rw[h44];simp only[intOf];omega⟩⟩;have hc0:we.cell? ⟨wy.heap.size,0,none⟩=some (.bool r.brk):=hBe.cell rfl;rw[aJS jC dG]at hc0;have qQ:=oH.below (QI.mono (Nat.le_refl _));have sg:Below w1.heap.size w1 we:=aEk.trans (QI.mono (by omega));have O1:=sg.size;cases sb with
    | true =>
     push_cast -dsimp[hc0];have hy:=yR (.inl rfl);refine cT bA rfl rfl (by omega) ?_;intro w6 bZ;have Mm:=bZ.size;push_cast -dsimp;refine aS (base:=w1.heap.size) [i] (enc:=aY) bA (qQ.new bZ) (by rfl) (λj u hu=>by simpa[aY] using bZ.cell hu) (by simp[aY,Value.oneCell']) (by simp only[List.length_cons,List.length_nil];omega) (by omega) ?_;intro v' w7 rN Vx hn7;have mP:Kept (λj=>(Value.slice ua (bm p ps i).length uc).ownBlock=some j) w6 w7:=Kept.grown Vx (λ_ h=>h);have nw:Below w1.heap.size w1 w7:=sg.trans ((bZ.below.mono O1).trans (mP.below (by omega) (λg h=>(qQ.block g h).1)));push_cast -dsimp;rw[<-hy]at rN;exact⟨⟨by omega,by omega⟩,⟨i+1,_,rfl,rfl,by omega,xR,rN,nw⟩,by rw[h7];simp only[intOf];omega⟩
    | false =>
     push_cast -dsimp[hc0];refine⟨λhi0=>⟨λHG=>?_,λHG=>?_⟩,λhi0=>?_⟩
     ·have hy:=yR (.inr (.inr (by omega)));refine cT bA rfl rfl (by omega) ?_;intro w6 bZ;have Mm:=bZ.size;push_cast -dsimp;refine aS (base:=w1.heap.size) [i] (enc:=aY) bA (qQ.new bZ) (by rfl) (λj u hu=>by simpa[aY] using bZ.cell hu) (by simp[aY,Value.oneCell']) (by simp only[List.length_cons,List.length_nil];omega) (by omega) ?_;intro v' w7 rN Vx hn7;have mP:Kept (λj=>(Value.slice ua (bm p ps i).length uc).ownBlock=some j) w6 w7:=Kept.grown Vx (λ_ h=>h);have nw:Below w1.heap.size w1 w7:=sg.trans ((bZ.below.mono O1).trans (mP.below (by omega) (λg h=>(qQ.block g h).1)));push_cast -dsimp;rw[<-hy]at rN;exact⟨⟨by omega,by omega⟩,⟨i+1,_,rfl,rfl,by omega,xR,rN,nw⟩,by rw[h7];simp only[intOf];omega⟩
     ·have hy:=eZ rfl (by omega) (by omega);have ho5:Vc.Own w1.heap.size 3 1 aY we (.slice ua (bm p ps i).length uc) (bm p ps (i+1)):=by rw[hy];exact qQ
      exact⟨⟨by omega,by omega⟩,⟨i+1,_,rfl,rfl,by omega,xR,ho5,sg⟩,by rw[h7];simp only[intOf];omega⟩
     have hy:=yR (.inr (.inl (by omega)));refine cT bA rfl rfl (by omega) ?_;intro w6 bZ;have Mm:=bZ.size;push_cast -dsimp;refine aS (base:=w1.heap.size) [i] (enc:=aY) bA (qQ.new bZ) (by rfl) (λj u hu=>by simpa[aY] using bZ.cell hu) (by simp[aY,Value.oneCell']) (by simp only[List.length_cons,List.length_nil];omega) (by omega) ?_;intro v' w7 rN Vx hn7;have mP:Kept (λj=>(Value.slice ua (bm p ps i).length uc).ownBlock=some j) w6 w7:=Kept.grown Vx (λ_ h=>h);have nw:Below w1.heap.size w1 w7:=sg.trans ((bZ.below.mono O1).trans (mP.below (by omega) (λg h=>(qQ.block g h).1)));push_cast -dsimp;rw[<-hy]at rN;exact⟨⟨by omega,by omega⟩,⟨i+1,_,rfl,rfl,by omega,xR,rN,nw⟩,by rw[h7];simp only[intOf];omega⟩
   have eN:p.els=sb:=by rw[<-uS,Iw,Gj p ps i k fT]
   rw[eN]at h9;push_cast -dsimp[h44,h9];refine⟨λh=>absurd h (by omega),λ_=>?_⟩;have qQ:=oH.below (iD.mono (Nat.le_refl _));have sg:=aMF;have O1:=sg.size;cases sb with
   | true =>
    push_cast -dsimp[h44];have hy:=yR (.inl rfl);refine cT bA rfl rfl (by omega) ?_;intro w6 bZ;have Mm:=bZ.size;push_cast -dsimp;refine aS (base:=w1.heap.size) [i] (enc:=aY) bA (qQ.new bZ) (by rfl) (λj u hu=>by simpa[aY] using bZ.cell hu) (by simp[aY,Value.oneCell']) (by simp only[List.length_cons,List.length_nil];omega) (by omega) ?_;intro v' w7 rN Vx hn7;have mP:Kept (λj=>(Value.slice ua (bm p ps i).length uc).ownBlock=some j) w6 w7:=Kept.grown Vx (λ_ h=>h);have nw:Below w1.heap.size w1 w7:=sg.trans ((bZ.below.mono O1).trans (mP.below (by omega) (λg h=>(qQ.block g h).1)));push_cast -dsimp;rw[<-hy]at rN;exact⟨⟨by omega,by omega⟩,⟨i+1,_,rfl,rfl,by omega,xR,rN,nw⟩,by rw[h7];simp only[intOf];omega⟩
   | false =>
    push_cast -dsimp[h44];refine⟨λhi0=>⟨λHG=>?_,λHG=>?_⟩,λhi0=>?_⟩
    ·have hy:=yR (.inr (.inr (by omega)));refine cT bA rfl rfl (by omega) ?_;intro w6 bZ;have Mm:=bZ.size;push_cast -dsimp;refine aS (base:=w1.heap.size) [i] (enc:=aY) bA (qQ.new bZ) (by rfl) (λj u hu=>by simpa[aY] using bZ.cell hu) (by simp[aY,Value.oneCell']) (by simp only[List.length_cons,List.length_nil];omega) (by omega) ?_;intro v' w7 rN Vx hn7;have mP:Kept (λj=>(Value.slice ua (bm p ps i).length uc).ownBlock=some j) w6 w7:=Kept.grown Vx (λ_ h=>h);have nw:Below w1.heap.size w1 w7:=sg.trans ((bZ.below.mono O1).trans (mP.below (by omega) (λg h=>(qQ.block g h).1)));push_cast -dsimp;rw[<-hy]at rN;exact⟨⟨by omega,by omega⟩,⟨i+1,_,rfl,rfl,by omega,xR,rN,nw⟩,by rw[h7];simp only[intOf];omega⟩
    ·have hy:=eZ rfl (by omega) (by omega);have ho5:Vc.Own w1.heap.size 3 1 aY wy (.slice ua (bm p ps i).length uc) (bm p ps (i+1)):=by rw[hy];exact qQ
     exact⟨⟨by omega,by omega⟩,⟨i+1,_,rfl,rfl,by omega,xR,ho5,sg⟩,by rw[h7];simp only[intOf];omega⟩
    have hy:=yR (.inr (.inl (by omega)));refine cT bA rfl rfl (by omega) ?_;intro w6 bZ;have Mm:=bZ.size;push_cast -dsimp;refine aS (base:=w1.heap.size) [i] (enc:=aY) bA (qQ.new bZ) (by rfl) (λj u hu=>by simpa[aY] using bZ.cell hu) (by simp[aY,Value.oneCell']) (by simp only[List.length_cons,List.length_nil];omega) (by omega) ?_;intro v' w7 rN Vx hn7;have mP:Kept (λj=>(Value.slice ua (bm p ps i).length uc).ownBlock=some j) w6 w7:=Kept.grown Vx (λ_ h=>h);have nw:Below w1.heap.size w1 w7:=sg.trans ((bZ.below.mono O1).trans (mP.below (by omega) (λg h=>(qQ.block g h).1)));push_cast -dsimp;rw[<-hy]at rN;exact⟨⟨by omega,by omega⟩,⟨i+1,_,rfl,rfl,by omega,xR,rN,nw⟩,by rw[h7];simp only[intOf];omega⟩
  ·have h0:ps=[]:=List.eq_nil_of_length_eq_zero (by omega);rw[<-uJ (.inl h0)];exact⟨⟨_,rfl,ho.mono (by omega)⟩,hLx⟩
  rw[<-uJ (.inr (by omega))];exact⟨⟨_,rfl,ho.mono (by omega)⟩,hLx⟩
end Go.Proofs.YtledlfbbebodgaaGreatDoor
end
