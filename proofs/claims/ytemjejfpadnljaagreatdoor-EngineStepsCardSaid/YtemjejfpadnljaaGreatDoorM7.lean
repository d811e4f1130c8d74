/- Texts of this claim, merged: Rp6, Vr, Rp7, Rp8. -/
import Derived.Test.YtemjejfpadnljaaGreatDoorM6
set_option maxRecDepth 100000
set_option linter.unusedSimpArgs false
set_option linter.unusedVariables false
set_option maxHeartbeats 8000000
section
namespace Go.Proofs.YtemjejfpadnljaaGreatDoor
open Go.Vc Go.Proofs Go.RowKit Cae
attribute [local irreducible] cg aa ag aX runK ar Sl Vc.Own vc aQ br a7
theorem rU {w:World}{b:Nat}{e:TypeId}{u:Nat}{X:Nat->Prop}(h:aL w b e [bw u])(hb:¬X b):Sl X 1 (En fi) w (.slice (some ⟨b,0,none⟩) 1 1) [u]:=by
 unfold Sl;refine⟨_,1,rfl,by simp,λi x hx=>⟨b,0,fi u,rfl,hb,rfl,λj y hy=>?_,?_⟩⟩
 ·have hi:i=0:=by
   have:=(List.getElem?_eq_some_iff.1 hx).1;simp at this;exact this
  have hj:j=0:=by
   have:=(List.getElem?_eq_some_iff.1 hy).1;simp[fi]at this;exact this
  subst hi hj;simp[fi]at hy;subst hy;exact h.cell rfl
 have hi:i=0:=by
  have:=(List.getElem?_eq_some_iff.1 hx).1;simp at this;exact this
 subst hi;simp at hx;subst hx;rfl
theorem lg {d m c:Nat}{x:aG}{l:List Tok}{e:Nat×Nat}(hm:l.length<m)(h:eJ l=.error e):bW d m c x l=.error e:=by
 obtain⟨m',rfl⟩:∃m',m=m'+1:=⟨m-1,by omega⟩;rw[bW];unfold Cae.pb;rw[h]
theorem HX (d:Nat)(hu:NP d):T4 d:=by
 intro n vp hn pb B w l0 h0;have hle:=h0.le;have aj:=h0.lt;refine bG Tryz.func134 rfl (by kernel_rfl) [.tmp 4] rfl ?_;push_cast -dsimp(maxSteps:=4000000) [Tryz.ntmps134];refine aF (hu n vp hn pb B w l0 h0) ?_ ?_
 ·rintro v1 w1 ⟨x0,l1,e1,V1,P1,Nk⟩;have Lt:aY d (aq d) l0=bW d 1000 0 x0 l1:=by
   unfold aY;rw[aI e1]
  push_cast -dsimp;refine aK [4,5,6,7,12,13,14,15,16,17,18,19,20,21,22,23,24,25,26,27,28,29,30,31,32,33,34,35,36,37,38,39,40,41,42,43,44,45,46,47,48,49,50,51,52,53,54,55,56,57,58,59,60,61,62,63,64,65,66,67,68,69,70,71,72,73,74,75,76,77,78,79,80,81,82,83] (λz w'=>∃(m c:Nat) (x:aG) (l1:List Tok) (i:Int),bW d m c x l1=aY d (aq d) l0/\l1.length<m/\(z 6=.int .i64 i/\i=n+(c:Int)/\i<=9)/\bC (·<w.heap.size) w' (z 5) x/\PS pb B w' l1/\Kept (·=pb) w w') (λz w'=>xO w' pb) ?_ ?_
  ·have aj:l1.length<1000:=by have:=P1.tl.len;omega
   exact⟨1000,0,x0,l1,n,Lt.symm,aj,⟨rfl,by omega,by omega⟩,V1,P1,Nk⟩
  rintro z w' ⟨m,c,x,l1,i,eE,hm,⟨Nx,hi,hi9⟩,V1,nu,D1⟩;obtain⟨kb,HS,D0,hkX⟩:=V1.ptr;rw[HS]at V1;obtain⟨t1,r1,mZ⟩:=nu.tl.cons;have hzw:=D1.size;push_cast -dsimp[HS];refine cG fb rfl rfl (by omega) ?_;intro w2 bH;have BX0:aL w2 w'.heap.size 82 [.pointer (some ⟨kb,0,none⟩)]:=bH.aM;have P2:=nu.below bH.below;have z2:=bH.size;have k2:=D1.trans (Kept.new (X:=(·=pb)) bH) (λi _ h=>h);push_cast -dsimp;refine aR ?_;intro w3 cM;have BY0:aL w3 (w'.heap.size+1) 158 [.int .i64 6,.pointer none,.slice (some ⟨w'.heap.size,0,none⟩) 1 1,.int .i64 0,.int .i64 (-1)]:=by
   have:=cM.aM;rw[z2]at this;exact this
  have BX3:=BX0.below cM.below (by omega);have P3:=P2.below cM.below;have z3:=cM.size;have k3:=k2.trans (Kept.new (X:=(·=pb)) cM) (λi _ h=>h);have V3:bC (λb=>b<w.heap.size\/w'.heap.size<=b) w3 (.pointer (some ⟨kb,0,none⟩)) x:=(V1.top.below bH.below).below cM.below;push_cast -dsimp[z2];refine aA (gE [42] P3) ?_;rintro _ w4 hT;rcases hT with ⟨ft,rfl,t4,l2,Pn,xx,P4,kt,Lx⟩|⟨ft,rfl,qT⟩
  ·have kR:cK l1=.ok ((),l2):=by rw[Pn];exact dV xx
   have od:l1.length=l2.length+1:=by rw[Pn,List.length_cons]
   have vu:eJ l1=.ok (some (0,-1),l2):=by
    unfold eJ ax;rw[ft,if_pos rfl,aI kR];rfl
   have BY:=BY0.kept kt (by omega);have BX:=BX3.kept kt (by omega);have kS:=k3.trans kt (λi _ h=>h);have VX:=V3.mono (X':=(·<w.heap.size)) kt (λi h=>by omega) (λi h=>.inl h);push_cast -dsimp[Nx];have sE:∃m',m=m'+1:=⟨m-1,by omega⟩;obtain⟨m',vo⟩:=sE;have IW:aY d (aq d) l0=if d<=c+1 then dr 4 l2 else bW d m' (c+1) (.many x 0 (-1)) l2:=by
    rw[<-eE,vo,bW,aI vu];dsimp only;split<;>rfl
   refine⟨⟨by omega,by omega⟩,?_⟩;refine aF (mD (i+1) P4) ?_ ?_
   ·rintro _ w0 ⟨h8,rfl,yL⟩;obtain rfl:w4=w0:=yL.symm;have kF:=PS.len P4;have fJ:=nu.len;have hzS:=kS.size;push_cast -dsimp[HS];refine⟨⟨m',c+1,.many x 0 (-1),l2,i+1,?_,by omega,⟨rfl,by omega,by omega⟩,?_,P4,kS⟩,by rw[kF,fJ];omega⟩
    ·rw[IW,if_neg (by omega)]
    simp only[bC];exact⟨_,_,_,rfl,by omega,BY,rU BX (by omega),VX⟩
   rintro ce w0 ⟨h8,ht,hb⟩;push_cast -dsimp;refine⟨4,_,?_,ht.mono (by have:=kS.size;omega),kS.trans (Kept.aN hb (X:=(·=pb)) (λi h1 h2=>by omega)) (λi _ h=>h)⟩;rw[IW,if_pos (by omega)];rfl
  obtain rfl:w3=w4:=qT.symm;push_cast -dsimp;refine aA (gE [43] P3) ?_;rintro _ w4 hT;rcases hT with ⟨gY,rfl,t4,l2,Pn,xx,P4,kt,Lx⟩|⟨gY,rfl,qT⟩
  ·have kR:cK l1=.ok ((),l2):=by rw[Pn];exact dV xx
   have od:l1.length=l2.length+1:=by rw[Pn,List.length_cons]
   have vu:eJ l1=.ok (some (1,-1),l2):=by
    unfold eJ ax;rw[ft,gY,if_neg (by decide),if_pos rfl,aI kR];rfl
   have BY4:=BY0.kept kt (by omega);have BX4:=BX3.kept kt (by omega);have k4:=k3.trans kt (λi _ h=>h);have V4:=V3.mono (X':=λb=>b<w.heap.size\/w'.heap.size<=b) kt (λi h=>by omega) (λi h=>h);push_cast -dsimp;refine aC BY4 (by simp) rfl ?_;intro w5 cH;have BY:aL w5 (w'.heap.size+1) 158 [.int .i64 6,.pointer none,.slice (some ⟨w'.heap.size,0,none⟩) 1 1,.int .i64 1,.int .i64 (-1)]:=cH.aM;have BX:=BX4.kept cH.kept (by omega);have P5:=P4.kept cH.kept (λi h=>by omega);have kS:=k4.trans cH.kept (λi h1 h2=>by omega);have VX:=V4.mono (X':=(·<w.heap.size)) cH.kept (λi h=>by omega) (λi h=>.inl h);push_cast -dsimp[Nx];have sE:∃m',m=m'+1:=⟨m-1,by omega⟩;obtain⟨m',vo⟩:=sE;have IW:aY d (aq d) l0=if d<=c+1 then dr 4 l2 else bW d m' (c+1) (.many x 1 (-1)) l2:=by
    rw[<-eE,vo,bW,aI vu];dsimp only;split<;>rfl
   refine⟨⟨by omega,by omega⟩,?_⟩;refine aF (mD (i+1) P5) ?_ ?_
   ·rintro _ w0 ⟨h8,rfl,yL⟩;obtain rfl:w5=w0:=yL.symm;have kF:=PS.len P5;have fJ:=nu.len;have hzS:=kS.size;push_cast -dsimp[HS];refine⟨⟨m',c+1,.many x 1 (-1),l2,i+1,?_,by omega,⟨rfl,by omega,by omega⟩,?_,P5,kS⟩,by rw[kF,fJ];omega⟩
    ·rw[IW,if_neg (by omega)]
    simp only[bC];exact⟨_,_,_,rfl,by omega,BY,rU BX (by omega),VX⟩
   rintro ce w0 ⟨h8,ht,hb⟩;push_cast -dsimp;refine⟨4,_,?_,ht.mono (by have:=kS.size;omega),kS.trans (Kept.aN hb (X:=(·=pb)) (λi h1 h2=>by omega)) (λi _ h=>h)⟩;rw[IW,if_pos (by omega)];rfl
  obtain rfl:w3=w4:=qT.symm;push_cast -dsimp;refine aA (gE [63] P3) ?_;rintro _ w4 hT;rcases hT with ⟨lQ,rfl,t4,l2,Pn,xx,P4,kt,Lx⟩|⟨lQ,rfl,qT⟩
  ·have kR:cK l1=.ok ((),l2):=by rw[Pn];exact dV xx
   have od:l1.length=l2.length+1:=by rw[Pn,List.length_cons]
   have vu:eJ l1=.ok (some (0,1),l2):=by
    unfold eJ ax;rw[ft,gY,lQ,if_neg (by decide),if_neg (by decide),if_pos rfl,aI kR];rfl
   have BY4:=BY0.kept kt (by omega);have BX4:=BX3.kept kt (by omega);have k4:=k3.trans kt (λi _ h=>h);have V4:=V3.mono (X':=λb=>b<w.heap.size\/w'.heap.size<=b) kt (λi h=>by omega) (λi h=>h);push_cast -dsimp;refine aC BY4 (by simp) rfl ?_;intro w5 cH;have BY:aL w5 (w'.heap.size+1) 158 [.int .i64 6,.pointer none,.slice (some ⟨w'.heap.size,0,none⟩) 1 1,.int .i64 0,.int .i64 1]:=cH.aM;have BX:=BX4.kept cH.kept (by omega);have P5:=P4.kept cH.kept (λi h=>by omega);have kS:=k4.trans cH.kept (λi h1 h2=>by omega);have VX:=V4.mono (X':=(·<w.heap.size)) cH.kept (λi h=>by omega) (λi h=>.inl h);push_cast -dsimp[Nx];have sE:∃m',m=m'+1:=⟨m-1,by omega⟩;obtain⟨m',vo⟩:=sE;have IW:aY d (aq d) l0=if d<=c+1 then dr 4 l2 else bW d m' (c+1) (.many x 0 1) l2:=by
    rw[<-eE,vo,bW,aI vu];dsimp only;split<;>rfl
   refine⟨⟨by omega,by omega⟩,?_⟩;refine aF (mD (i+1) P5) ?_ ?_
   ·rintro _ w0 ⟨h8,rfl,yL⟩;obtain rfl:w5=w0:=yL.symm;have kF:=PS.len P5;have fJ:=nu.len;have hzS:=kS.size;push_cast -dsimp[HS];refine⟨⟨m',c+1,.many x 0 1,l2,i+1,?_,by omega,⟨rfl,by omega,by omega⟩,?_,P5,kS⟩,by rw[kF,fJ];omega⟩
    ·rw[IW,if_neg (by omega)]
    simp only[bC];exact⟨_,_,_,rfl,by omega,BY,rU BX (by omega),VX⟩
   rintro ce w0 ⟨h8,ht,hb⟩;push_cast -dsimp;refine⟨4,_,?_,ht.mono (by have:=kS.size;omega),kS.trans (Kept.aN hb (X:=(·=pb)) (λi h1 h2=>by omega)) (λi _ h=>h)⟩;rw[IW,if_pos (by omega)];rfl
  obtain rfl:w3=w4:=qT.symm;push_cast -dsimp;refine aA (gE [123] P3) ?_;rintro _ w4 hT;rcases hT with ⟨hs4,rfl,t4,l2,Pn,xx,P4,kt,Lx⟩|⟨hs4,rfl,qT⟩
  ·have kR:cK l1=.ok ((),l2):=by rw[Pn];exact dV xx
   have od:l1.length=l2.length+1:=by rw[Pn,List.length_cons]
   have ny:eJ l1=Cae.pb cf (λr=>pr (some r)) l2:=by
    unfold eJ ax;rw[ft,gY,lQ,hs4,if_neg (by decide),if_neg (by decide),if_neg (by decide),if_pos rfl,aI kR]
   have BY4:=BY0.kept kt (by omega);have BX4:=BX3.kept kt (by omega);have k4:=k3.trans kt (λi _ h=>h);have V4:=V3.mono (X':=λb=>b<w.heap.size\/w'.heap.size<=b) kt (λi h=>by omega) (λi h=>h);push_cast -dsimp;refine aF (Om P4) ?_ ?_
   ·rintro _ w5 ⟨n1,l3,e3,⟨rfl,hn1⟩,P5,kt5⟩;have BY5:=BY4.kept kt5 (by omega);have BX5:=BX4.kept kt5 (by omega);have k5:=k4.trans kt5 (λi _ h=>h);have V5:=V4.mono (X':=λb=>b<w.heap.size\/w'.heap.size<=b) kt5 (λi h=>by omega) (λi h=>h);push_cast -dsimp;refine aC BY5 (by simp) rfl ?_;intro w6 bQ;have BY6:aL w6 (w'.heap.size+1) 158 [.int .i64 6,.pointer none,.slice (some ⟨w'.heap.size,0,none⟩) 1 1,.int .i64 n1,.int .i64 (-1)]:=bQ.aM;have cy6:w6.cell? ⟨w'.heap.size+1,3,none⟩=some (.int .i64 n1):=BY6.cell rfl;push_cast -dsimp[cy6];refine aC BY6 (by simp) rfl ?_;intro w7 fK;have BY7:aL w7 (w'.heap.size+1) 158 [.int .i64 6,.pointer none,.slice (some ⟨w'.heap.size,0,none⟩) 1 1,.int .i64 n1,.int .i64 n1]:=fK.aM;have k57:Kept (·=w'.heap.size+1) w5 w7:=bQ.kept.trans fK.kept (λi _ h=>h);have BX7:=BX5.kept k57 (by omega);have P7:=P5.kept k57 (λi h=>by omega);have k7:=k5.trans k57 (λi h1 h2=>by omega);have V7:=V5.mono (X':=λb=>b<w.heap.size\/w'.heap.size<=b) k57 (λi h=>by omega) (λi h=>h);push_cast -dsimp;refine aA (gE [44] P7) ?_;rintro _ w8 hT;rcases hT with ⟨hs5,rfl,t8,l4,el8,h58,P8,kt8,hz8⟩|⟨hs5,rfl,qT⟩
    ·have aJt:cK l3=.ok ((),l4):=by rw[el8];exact dV h58
     have BY8:=BY7.kept kt8 (by omega);have BX8:=BX7.kept kt8 (by omega);have k8:=k7.trans kt8 (λi _ h=>h);have V8:=V7.mono (X':=λb=>b<w.heap.size\/w'.heap.size<=b) kt8 (λi h=>by omega) (λi h=>h);have aIC:cf l2=ax (isKind 2) (Cae.pb j4 λhi=>if hi<n1 then dr 2 else Cae.pb (cY [125]) λ_=>pr ((n1:Int),(hi:Int))) (Cae.pb (cY [125]) λ_=>pr ((n1:Int),-1)) l4:=by
      unfold cf;rw[aI e3]
      show (if dR [44] l3 then _ else _)=_
      rw[hs5,if_pos rfl,aI aJt]
     push_cast -dsimp;refine aC BY8 (by simp) rfl ?_;intro w9 Cn;have BY9:aL w9 (w'.heap.size+1) 158 [.int .i64 6,.pointer none,.slice (some ⟨w'.heap.size,0,none⟩) 1 1,.int .i64 n1,.int .i64 (-1)]:=Cn.aM;have BX9:=BX8.kept Cn.kept (by omega);have P9:=P8.kept Cn.kept (λi h=>by omega);have k9:=k8.trans Cn.kept (λi h1 h2=>by omega);have V9:=V8.mono (X':=λb=>b<w.heap.size\/w'.heap.size<=b) Cn.kept (λi h=>by omega) (λi h=>h);obtain⟨t9,r9,el9⟩:=P9.tl.cons;have P9':=P9;rw[el9]at P9';obtain⟨b9,o9,c9,Br,hc9,aTM,c90,_,_,_⟩:=P9'.hd;have cb9:w9.cell? ⟨pb,0,none⟩=some (.slice (some ⟨b9,o9,none⟩) (r9.length+1) c9):=Br.cell rfl;push_cast -dsimp[cb9,c90];refine⟨by omega,λjI=>?_,λjI=>?_⟩
     ·have WO:isKind 2 l4=true:=by
       have:t9.kind=2:=by omega
       rw[el9];simp[isKind,Cae.hd,this]
      have Fx:cf l2=Cae.pb j4 (λhi=>if hi<n1 then dr 2 else Cae.pb (cY [125]) λ_=>pr ((n1:Int),(hi:Int))) l4:=by
       rw[aIC];unfold ax;rw[WO,if_pos rfl]
      refine aF (Om P9) ?_ ?_
      ·rintro _ wa ⟨n2,l5,e5,⟨rfl,Yw⟩,Pa,uZ⟩;have BYa:=BY9.kept uZ (by omega);have BXa:=BX9.kept uZ (by omega);have ka:=k9.trans uZ (λi _ h=>h);have Va:=V9.mono (X':=λb=>b<w.heap.size\/w'.heap.size<=b) uZ (λi h=>by omega) (λi h=>h);push_cast -dsimp;refine aC BYa (by simp) rfl ?_;intro wb dE;have BYb:aL wb (w'.heap.size+1) 158 [.int .i64 6,.pointer none,.slice (some ⟨w'.heap.size,0,none⟩) 1 1,.int .i64 n1,.int .i64 n2]:=dE.aM;have BXb:=BXa.kept dE.kept (by omega);have Pb:=Pa.kept dE.kept (λi h=>by omega);have kb':=ka.trans dE.kept (λi h1 h2=>by omega);have VB':=Va.mono (X':=λb=>b<w.heap.size\/w'.heap.size<=b) dE.kept (λi h=>by omega) (λi h=>h);push_cast -dsimp;refine ba (λw'=>w'=wb.drew) mixed (by kernel_rfl) rfl ?_;have d3:wb.drew.cell? ⟨w'.heap.size+1,3,none⟩=some (.int .i64 n1):=BYb.drew.cell rfl;have d4:wb.drew.cell? ⟨w'.heap.size+1,4,none⟩=some (.int .i64 n2):=BYb.drew.cell rfl;have kd:Kept (λ_=>False) wb wb.drew:=(Kept.refl _ _).drew;have BYd:=BYb.kept kd (λh=>h);have BXd:=BXb.kept kd (λh=>h);have Pd:=Pb.kept kd (λi h=>h.elim);have uY:=kb'.trans kd (λi h1 h2=>h2.elim);have VB:=VB'.mono (X':=λb=>b<w.heap.size\/w'.heap.size<=b) kd (λi h=>h.elim) (λi h=>h);push_cast -dsimp[d3,d4];refine⟨λbE h=>by rw[h,d4];exact rfl,λbE h=>by rw[h,d3];exact rfl,λIe=>?_,λLj=>?_⟩
       ·refine aF (jR 2 Pd) (λ_ _ h=>h.elim) ?_;rintro ce we ⟨ht,hb⟩;push_cast -dsimp;have K6:cf l2=.error (2,(Cae.hd l5).pos):=by
         rw[Fx,aI e5,if_pos (by omega)];rfl
        refine⟨2,_,?_,ht.mono (by have:=uY.size;omega),uY.trans (Kept.aN hb (X:=(·=pb)) (λi h1 h2=>by omega)) (λi _ h=>h)⟩;rw[<-eE];refine lg hm ?_;rw[ny];unfold Cae.pb;rw[K6]
       have aID:cf l2=Cae.pb (cY [125]) (λ_=>pr ((n1:Int),(n2:Int))) l5:=by
        rw[Fx,aI e5,if_neg (by omega)]
       refine aF (fW [125] Pd) ?_ ?_
       ·rintro _ wm ⟨_,lm,em,rfl,Pm,km⟩;have K6:cf l2=.ok (((n1:Int),(n2:Int)),lm):=by rw[aID,aI em];rfl
        have vu:eJ l1=.ok (some ((n1:Int),(n2:Int)),lm):=by rw[ny,aI K6];rfl
        have hlm:lm.length<=l2.length:=by
         obtain⟨pre,_,e,_⟩:=rL _ _ _ K6;rw[e,List.length_append];omega
        have BY:=BYd.kept km (by omega);have BX:=BXd.kept km (by omega);have kS:=uY.trans km (λi _ h=>h);have VX:=VB.mono (X':=(·<w.heap.size)) km (λi h=>by omega) (λi h=>.inl h);push_cast -dsimp[Nx];have sE:∃m',m=m'+1:=⟨m-1,by omega⟩;obtain⟨m',vo⟩:=sE;have IW:aY d (aq d) l0=if d<=c+1 then dr 4 lm else bW d m' (c+1) (.many x (n1:Int) (n2:Int)) lm:=by
         rw[<-eE,vo,bW,aI vu];dsimp only;split<;>rfl
        refine⟨⟨by omega,by omega⟩,?_⟩;refine aF (mD (i+1) Pm) ?_ ?_
        ·rintro _ w0 ⟨h8,rfl,yL⟩;obtain rfl:wm=w0:=yL.symm;have kF:=PS.len Pm;have fJ:=nu.len;have hzS:=kS.size;push_cast -dsimp[HS];refine⟨⟨m',c+1,.many x (n1:Int) (n2:Int),lm,i+1,?_,by omega,⟨rfl,by omega,by omega⟩,?_,Pm,kS⟩,by rw[kF,fJ];omega⟩
         ·rw[IW,if_neg (by omega)]
         simp only[bC];exact⟨_,_,_,rfl,by omega,BY,rU BX (by omega),VX⟩
        rintro ce w0 ⟨h8,ht,hb⟩;push_cast -dsimp;refine⟨4,_,?_,ht.mono (by have:=kS.size;omega),kS.trans (Kept.aN hb (X:=(·=pb)) (λi h1 h2=>by omega)) (λi _ h=>h)⟩;rw[IW,if_pos (by omega)];rfl
       rintro ce we ⟨e,pos,he,ht,eQ⟩;push_cast -dsimp;refine⟨e,pos,?_,ht.mono (by have:=uY.size;omega),uY.trans eQ (λi _ h=>h)⟩;rw[<-eE];refine lg hm ?_;have K6:cf l2=.error (e,pos):=by rw[aID];unfold Cae.pb;rw[he]
       rw[ny];unfold Cae.pb;rw[K6]
      ·
       rintro ce we ⟨e,pos,he,ht,eQ⟩
       push_cast -dsimp
       refine⟨e,pos,?_,ht.mono (by have:=k9.size;omega),k9.trans eQ (λi _ h=>h)⟩
       rw[<-eE]
       refine lg hm ?_
       rw[ny]
       unfold Cae.pb
       rw[show cf l2=.error (e,pos) by rw[Fx];unfold Cae.pb;rw[he]]
     have WO:isKind 2 l4=false:=by
      have:t9.kind≠2:=λe=>jI (by omega);rw[el9];simp[isKind,Cae.hd,this]
     have Fx:cf l2=Cae.pb (cY [125]) (λ_=>pr ((n1:Int),-1)) l4:=by
      rw[aIC];unfold ax;rw[WO,if_neg (by decide)]
     have VB:=V9;refine aF (fW [125] P9) ?_ ?_
     ·rintro _ wm ⟨_,lm,em,rfl,Pm,km⟩;have K6:cf l2=.ok (((n1:Int),(-1)),lm):=by rw[Fx,aI em];rfl
      have vu:eJ l1=.ok (some ((n1:Int),(-1)),lm):=by rw[ny,aI K6];rfl
      have hlm:lm.length<=l2.length:=by
       obtain⟨pre,_,e,_⟩:=rL _ _ _ K6;rw[e,List.length_append];omega
      have BY:=BY9.kept km (by omega);have BX:=BX9.kept km (by omega);have kS:=k9.trans km (λi _ h=>h);have VX:=VB.mono (X':=(·<w.heap.size)) km (λi h=>by omega) (λi h=>.inl h);push_cast -dsimp[Nx];have sE:∃m',m=m'+1:=⟨m-1,by omega⟩;obtain⟨m',vo⟩:=sE;have IW:aY d (aq d) l0=if d<=c+1 then dr 4 lm else bW d m' (c+1) (.many x (n1:Int) (-1)) lm:=by
       rw[<-eE,vo,bW,aI vu];dsimp only;split<;>rfl
      refine⟨⟨by omega,by omega⟩,?_⟩;refine aF (mD (i+1) Pm) ?_ ?_
      ·rintro _ w0 ⟨h8,rfl,yL⟩;obtain rfl:wm=w0:=yL.symm;have kF:=PS.len Pm;have fJ:=nu.len;have hzS:=kS.size;push_cast -dsimp[HS];refine⟨⟨m',c+1,.many x (n1:Int) (-1),lm,i+1,?_,by omega,⟨rfl,by omega,by omega⟩,?_,Pm,kS⟩,by rw[kF,fJ];omega⟩
       ·rw[IW,if_neg (by omega)]
       simp only[bC];exact⟨_,_,_,rfl,by omega,BY,rU BX (by omega),VX⟩
      rintro ce w0 ⟨h8,ht,hb⟩;push_cast -dsimp;refine⟨4,_,?_,ht.mono (by have:=kS.size;omega),kS.trans (Kept.aN hb (X:=(·=pb)) (λi h1 h2=>by omega)) (λi _ h=>h)⟩;rw[IW,if_pos (by omega)];rfl
     rintro ce we ⟨e,pos,he,ht,eQ⟩;push_cast -dsimp;refine⟨e,pos,?_,ht.mono (by have:=k9.size;omega),k9.trans eQ (λi _ h=>h)⟩;rw[<-eE];refine lg hm ?_;have K6:cf l2=.error (e,pos):=by rw[Fx];unfold Cae.pb;rw[he]
     rw[ny];unfold Cae.pb;rw[K6]
    obtain rfl:w7=w8:=qT.symm;have Fx:cf l2=Cae.pb (cY [125]) (λ_=>pr ((n1:Int),(n1:Int))) l3:=by
     unfold cf;rw[aI e3]
     show (if dR [44] l3 then _ else _)=_
     rw[hs5,if_neg (by decide)]
    have VB:=V7;push_cast -dsimp;refine aF (fW [125] P7) ?_ ?_
    ·rintro _ wm ⟨_,lm,em,rfl,Pm,km⟩;have K6:cf l2=.ok (((n1:Int),(n1:Int)),lm):=by rw[Fx,aI em];rfl
     have vu:eJ l1=.ok (some ((n1:Int),(n1:Int)),lm):=by rw[ny,aI K6];rfl
     have hlm:lm.length<=l2.length:=by
      obtain⟨pre,_,e,_⟩:=rL _ _ _ K6;rw[e,List.length_append];omega
     have BY:=BY7.kept km (by omega);have BX:=BX7.kept km (by omega);have kS:=k7.trans km (λi _ h=>h);have VX:=VB.mono (X':=(·<w.heap.size)) km (λi h=>by omega) (λi h=>.inl h);push_cast -dsimp[Nx];have sE:∃m',m=m'+1:=⟨m-1,by omega⟩;obtain⟨m',vo⟩:=sE;have IW:aY d (aq d) l0=if d<=c+1 then dr 4 lm else bW d m' (c+1) (.many x (n1:Int) (n1:Int)) lm:=by
      rw[<-eE,vo,bW,aI vu];dsimp only;split<;>rfl
     refine⟨⟨by omega,by omega⟩,?_⟩;refine aF (mD (i+1) Pm) ?_ ?_
     ·rintro _ w0 ⟨h8,rfl,yL⟩;obtain rfl:wm=w0:=yL.symm;have kF:=PS.len Pm;have fJ:=nu.len;have hzS:=kS.size;push_cast -dsimp[HS];refine⟨⟨m',c+1,.many x (n1:Int) (n1:Int),lm,i+1,?_,by omega,⟨rfl,by omega,by omega⟩,?_,Pm,kS⟩,by rw[kF,fJ];omega⟩
      ·rw[IW,if_neg (by omega)]
      simp only[bC];exact⟨_,_,_,rfl,by omega,BY,rU BX (by omega),VX⟩
     rintro ce w0 ⟨h8,ht,hb⟩;push_cast -dsimp;refine⟨4,_,?_,ht.mono (by have:=kS.size;omega),kS.trans (Kept.aN hb (X:=(·=pb)) (λi h1 h2=>by omega)) (λi _ h=>h)⟩;rw[IW,if_pos (by omega)];rfl
    rintro ce we ⟨e,pos,he,ht,eQ⟩;push_cast -dsimp;refine⟨e,pos,?_,ht.mono (by have:=k7.size;omega),k7.trans eQ (λi _ h=>h)⟩;rw[<-eE];refine lg hm ?_;have K6:cf l2=.error (e,pos):=by rw[Fx];unfold Cae.pb;rw[he]
    rw[ny];unfold Cae.pb;rw[K6]
   ·
    rintro ce we ⟨e,pos,he,ht,eQ⟩
    push_cast -dsimp
    refine⟨e,pos,?_,ht.mono (by have:=k4.size;omega),k4.trans eQ (λi _ h=>h)⟩
    rw[<-eE]
    refine lg hm ?_
    rw[ny]
    unfold Cae.pb
    rw[show cf l2=.error (e,pos) by unfold cf Cae.pb;rw[he]]
  obtain rfl:w3=w4:=qT.symm;have vu:eJ l1=.ok (none,l1):=by
   unfold eJ ax;rw[ft,gY,lQ,hs4,if_neg (by decide),if_neg (by decide),if_neg (by decide),if_neg (by decide)];rfl
  push_cast -dsimp[HS];refine⟨x,l1,?_,V3.mono (X':=(·<w.heap.size)) (Kept.refl (λ_=>False) _) (λ_ h=>h.elim) (λi h=>.inl h),P3,k3⟩;rw[<-eE];obtain⟨m',rfl⟩:∃m',m=m'+1:=⟨m-1,by omega⟩;rw[bW,aI vu];rfl
 rintro c w3 ⟨e,pos,he,ht,Cj⟩;push_cast -dsimp;refine⟨e,pos,?_,ht,Cj⟩;unfold aY Cae.pb;rw[he]
end Go.Proofs.YtemjejfpadnljaaGreatDoor
end
section
end
section
namespace Go.Proofs.YtemjejfpadnljaaGreatDoor
open Go.Vc Go.Proofs Go.RowKit Cae
attribute [local irreducible] cg aa ag aX runK ar Sl Vc.Own vc aQ br a7
def Sh {α:Type}(p:Pa α):Prop:=∀l x l',p l=.ok (x,l')->l'.length<l.length
def Le {α:Type}(p:Pa α):Prop:=∀l x l',p l=.ok (x,l')->l'.length<=l.length
theorem Lo.le {α:Type}{R:α->α->Prop}{p:Pa α}(h:Lo R p p):Le p:=λl x l' e=>by
 obtain⟨pre,_,e,_⟩:=h l x l' e;rw[e,List.length_append];omega
theorem gQ.sh {α:Type}{R:α->α->Prop}{p:Pa α}(h:gQ R p p):Sh p:=λl x l' e=>by
 obtain⟨pre,cW,_,e,_⟩:=h l x l' e
 have:=List.length_pos_iff.2 cW;rw[e,List.length_append];omega
theorem Sh.le {α:Type}{p:Pa α}(h:Sh p):Le p:=λl x l' e=>Nat.le_of_lt (h l x l' e)
theorem Sh.pb {α β:Type}{p:Pa α}{q:α->Pa β}(h:Sh p)(k:∀x,Le (q x)):Sh (Cae.pb p q):=λl y l' e=>by
 obtain⟨x,l1,e1,e2⟩:=dq e;exact Nat.lt_of_le_of_lt (k x _ _ _ e2) (h _ _ _ e1)
theorem Sh.pbr {α β:Type}{p:Pa α}{q:α->Pa β}(h:Le p)(k:∀x,Sh (q x)):Sh (Cae.pb p q):=λl y l' e=>by
 obtain⟨x,l1,e1,e2⟩:=dq e;exact Nat.lt_of_lt_of_le (k x _ _ _ e2) (h _ _ _ e1)
theorem Le.pb {α β:Type}{p:Pa α}{q:α->Pa β}(h:Le p)(k:∀x,Le (q x)):Le (Cae.pb p q):=λl y l' e=>by
 obtain⟨x,l1,e1,e2⟩:=dq e;exact Nat.le_trans (k x _ _ _ e2) (h _ _ _ e1)
theorem Le.pr {α:Type}{x:α}:Le (pr x):=λl y l' e=>by cases e;exact Nat.le_refl _
theorem Sh.ax {α:Type}{c:List Tok->Bool}{p q:Pa α}(h:Sh p)(k:Sh q):Sh (Cae.ax c p q):=λl x l' e=>by
 unfold Cae.ax at e;split at e
 ·exact h _ _ _ e
 exact k _ _ _ e
theorem Sh.fail {α:Type}{n:Nat}:Sh (dr n:Pa α):=λl x l' e=>by cases e
theorem GO:Le dX:=Lo.le Lo.dX
theorem BQ:Sh cK:=gQ.sh fm
theorem aF7:∀d,Sh (kU d)
 | 0=>Sh.fail
 | d+1=>Sh.ax (gQ.sh Wx) (Sh.ax (Sh.pbr GO λ_=>Sh.pb BQ λ_=>Le.pb (Lo.le (ox d)) λ_=>Le.pr)
   (Sh.ax (Sh.pb BQ λ_=>Le.pb (Lo.le (A4 (ox d))) λ_=>Le.pb (gQ.sh (gw _)).le λ_=>Le.pr)
    (Sh.pbr GO λ_=>Sh.pb (gQ.sh GR) λ_=>Le.pr)))
theorem aBT:∀d,Sh (aq d)
 | 0=>Sh.fail
 | d+1=>Sh.ax (Sh.pb BQ λ_=>Le.pr) (Sh.ax (Sh.pb BQ λ_=>Le.pr) (Sh.ax (Sh.pb BQ λ_=>Le.pb (Lo.le (GS (yb d))) λ_=>Le.pb (gQ.sh (gw _)).le λ_=>Le.pr)
   (Sh.ax (Sh.pb (aF7 (d+1)) λ_=>Le.pr) Sh.fail)))
theorem Sq {d:Nat}{l l':List Tok}{x:aG}(h:aq d l=.ok (x,l')):l'.length<l.length:=aBT d _ _ _ h
theorem ly {d:Nat}{l l':List Tok}{x:aG}(h:aY d (aq d) l=.ok (x,l')):l'.length<l.length:=by
 obtain⟨y,l1,h1,h2⟩:=dq h;have a:=Sq h1;obtain⟨pre,_,e,_⟩:=ow d _ _ _ _ (show PE y y from λ_=>rfl) _ _ _ h2
 have:l1.length=pre.length+l'.length:=by rw[e,List.length_append]
 omega
theorem YH (d:Nat)(ha:T4 d):aHh d:=by
 intro n vp hn pb B w l0 h0;have hle:=h0.le;have aj:=h0.lt;refine bG Tryz.func109 rfl (by kernel_rfl) [.tmp 4] rfl ?_;push_cast -dsimp(maxSteps:=4000000) [Tryz.ntmps109];push_cast -dsimp;refine aR ?_;intro w1 aV;have B1:aL w1 w.heap.size 158 [.int .i64 4,.pointer none,.slice none 0 0,.int .i64 0,.int .i64 0]:=aV.aM;have P1:=h0.below aV.below;have z1:=aV.size;have k1:Kept (·=pb) w w1:=Kept.new aV;push_cast -dsimp;refine aK [8,9,10,11,12,13,14,15,16,17,18,19,20,21,22,23,24,25,26,27,28,29,30,31,32,33,34,35,36,37,38,39,40,41,42,43] (λz w'=>∃(m:Nat) (acc:List aG) (l1:List Tok) (sv:Value) (vs:List Nat),bD (aY d (aq d)) m acc l1=bD (aY d (aq d)) 1000 [] l0/\l1.length<m/\acc.length+m<=1000 /\
   aL w' w.heap.size 158 [.int .i64 4,.pointer none,sv,.int .i64 0,.int .i64 0]/\Go.Vc.Own (w.heap.size+1) 82 1 fi w' sv vs/\aP (λb=>b<w.heap.size\/b=w.heap.size\/sv.ownBlock=some b) w' vs acc/\PS pb B w' l1/\Kept (·=pb) w w') (λz w'=>xO w' pb) ?_ ?_
 ·have aj:l0.length<1000:=by have:=h0.tl.len;omega
  exact⟨1000,[],l0,_,[],rfl,aj,by simp,B1,Vc.Own.nil (enc:=fi) _ _ (λ_=>rfl) _,by simp only[aP],P1,k1⟩
 rintro z w' ⟨m,acc,l1,sv,vs,eE,hm,IV,hB,hO,hV,nu,D1⟩;obtain⟨t1,r1,mZ⟩:=nu.tl.cons;have aIa:=nu;rw[mZ]at aIa;obtain⟨b,o,c,hBp,hc,cW,c0,c1,c2,c3⟩:=aIa.hd;have cb:w'.cell? ⟨pb,0,none⟩=some (.slice (some ⟨b,o,none⟩) (r1.length+1) c):=hBp.cell rfl;have hzw:=D1.size;have fk:kV l1=(t1.kind == 3 || jY l1 || dR [46] l1 || dR [36] l1 || dR [40] l1):=by unfold kV isKind;rw[mZ];rfl
 push_cast -dsimp[cb,c0];refine⟨by omega,λh3=>?_,λh3=>?_⟩
 ·have Cj:(t1.kind == 3)=false:=by
   have:t1.kind≠3:=λe=>h3 (by omega);simpa using this
  rw[Cj,Bool.false_or]at fk;refine aA (G2 nu) ?_;rintro _ w2 ⟨rfl,b2⟩;have P2:=nu.below b2;have fx:=hB.below b2 hB.lt;have jS:=hO.below b2;have p5:=aP.mono (X':=λb=>b<w.heap.size\/b=w.heap.size\/sv.ownBlock=some b) (Kept.aN b2 (X:=λ_=>False) (λi h1 h2=>by omega)) (λ_ h=>h.elim) (λ_ h=>h) hV;have k2:=D1.trans (Kept.aN b2 (X:=(·=pb)) (λi h1 h2=>by omega)) (λi _ h=>h);cases qP:jY l1 with
  | true =>
   have cI:kV l1=true:=by rw[fk,qP];rfl
   push_cast -dsimp;have sE:∃m',m=m'+1:=⟨m-1,by omega⟩;obtain⟨m',vo⟩:=sE;have hz2:w.heap.size<w2.heap.size:=fx.lt;have kd:Kept (λ_=>False) w2 w2.drew:=(Kept.refl _ _).drew;have zn:=fx.kept kd (λh=>h);have Pd:=P2.kept kd (λi h=>h.elim);have uY:=k2.trans kd (λi h1 h2=>h2.elim);have d2:w2.drew.cell? ⟨w.heap.size,2,none⟩=some sv:=zn.cell rfl;have dC:bD (aY d (aq d)) m acc l1=Cae.pb (aY d (aq d)) (λx=>bD (aY d (aq d)) m' (acc++[x])) l1:=by
    rw[vo,bD];unfold ax;rw[cI,if_pos rfl]
   cases hp:aY d (aq d) l1 with
   | error e =>
    refine oO (E:=Kj pb w l0 (iH (aY d (aq d)))) [(),(),(),(),(),(),()] mixed (by kernel_rfl) (λce te we hE=>?_) ?_
    ·push_cast -dsimp;exact hE
    push_cast -dsimp[d2];refine⟨λbE h=>by rw[h,d2];exact rfl,?_⟩;refine ni (ha n vp hn pb B w2.drew l1 Pd) (λv we ⟨x,l',h1,_⟩=>by rw[hp]at h1;cases h1) ?_;rintro ce we ⟨en,pos,he,ht,eQ⟩;refine⟨en,pos,?_,ht.mono (by have:=uY.size;omega),uY.trans eQ (λi _ h=>h)⟩;have hl:bD (aY d (aq d)) 1000 [] l0=.error (en,pos):=by
     rw[<-eE,dC];unfold Cae.pb;rw[he]
    unfold iH Cae.pb;rw[hl]
   | ok q =>
    obtain⟨x,l2⟩:=q;have od:l2.length<l1.length:=ly hp;refine dU (λw'=>aL w' w.heap.size 158 [.int .i64 4,.pointer none,sv,.int .i64 0,.int .i64 0]) mixed (by kernel_rfl) (by simp) fx.drew ?_;push_cast -dsimp[d2];refine⟨λbE h=>by rw[aL.cell h (o:=2) rfl];exact rfl,?_⟩;refine aF (ha n vp hn pb B w2.drew l1 Pd) ?_ (λce we ⟨en,pos,he,_⟩=>by rw[hp]at he;cases he);rintro u w3 ⟨x',Wo,e3,V3,P3,k3⟩;obtain⟨rfl,rfl⟩:x=x'/\l2=Wo:=by rw[hp]at e3;cases e3;exact⟨rfl,rfl⟩
    obtain⟨ub,rfl,HR,Qu⟩:=V3.ptr;have B3:=zn.kept k3 (by omega);have z3:=k3.size;have hzd:w2.heap.size=w2.drew.heap.size:=rfl;have fS:∀g,sv.ownBlock=some g->g<w2.heap.size:=λg hg=>(jS.block g hg).2;have K3:=(jS.aJ kd (λg _ h=>h)).aJ k3 (λg hg h=>by have:=(jS.block g hg).1;omega);have IT:=aP.mono (X':=λb=>(b<w.heap.size\/b=w.heap.size\/sv.ownBlock=some b)\/w2.heap.size<=b) ((kd.weaken (Y:=(·=pb)) (λi _ h=>h.elim)).trans k3 (λi _ h=>h)) (λi h=>by omega) (λi h=>h) (aP.top p5);refine⟨B3,?_⟩;push_cast -dsimp;refine cG fb rfl rfl (by omega) ?_;intro w4 ae;have B4:=B3.below ae.below B3.lt;have z4:=ae.size;have yY:=K3.new ae;have P4:=P3.below ae.below;refine⟨B4,?_⟩;push_cast -dsimp;refine aW (base:=w.heap.size+1) [ub] (enc:=fi) fb yY (by rfl) (λj y hy=>by simpa[fi,bw] using ae.cell hy) mE (by rw[aP.len p5];simp only[List.length_cons,List.length_nil];omega) (by omega) ?_;intro sv5 w5 sC yD HO;have kg:Kept (λj=>sv.ownBlock=some j) w4 w5:=Kept.grown yD (λ_ h=>h);have xE:∀g,sv.ownBlock=some g->w.heap.size+1<=g:=λg hg=>(jS.block g hg).1;have B5:=B4.kept kg (λh=>by have:=xE _ h;omega);have P5:=P4.kept kg (λi h=>by have:=xE _ h;omega);have z5:=kg.size;refine⟨B5,?_⟩;obtain⟨a5,c5,rfl⟩:=sC.slice;push_cast -dsimp;refine aC B5 (by simp) rfl ?_;intro w6 bQ;have B6:aL w6 w.heap.size 158 [.int .i64 4,.pointer none,.slice a5 (vs++[ub]).length c5,.int .i64 0,.int .i64 0]:=bQ.aM;have P6:=P5.kept bQ.kept (λi h=>by omega);have z6:=bQ.size
    have Fo:=sC.aJ bQ.kept (λg hg h=>by have:=(sC.block g hg).1;omega);have k6:=(((uY.trans k3 (λi _ h=>h)).trans (Kept.new (X:=(·=pb)) ae) (λi _ h=>h)).trans kg (λi h1 h2=>by have:=xE _ h2;omega)).trans bQ.kept (λi h1 h2=>by omega);have kY:Kept (λi=>i=w.heap.size\/sv.ownBlock=some i) w3 w6:=((Kept.new (X:=λi=>i=w.heap.size\/sv.ownBlock=some i) ae).trans kg (λi _ h=>.inr h)).trans bQ.kept (λi _ h=>.inl h);have hX:∀i,(i<w.heap.size\/i=w.heap.size\/(Value.slice a5 (vs++[ub]).length c5).ownBlock=some i)->i<w.heap.size\/i=w.heap.size\/sv.ownBlock=some i\/w4.heap.size<=i:=λi h=>by
     rcases h with h|h|h
     ·exact .inl h
     ·exact .inr (.inl h)
     rcases HO i h with h|h
     ·exact .inr (.inr (.inl h))
     exact .inr (.inr (.inr h))
    have Vq:aP (λb=>b<w.heap.size\/b=w.heap.size\/(Value.slice a5 (vs++[ub]).length c5).ownBlock=some b) w6 (vs++[ub]) (acc++[x]):=by
     refine aP.snoc (aP.mono kY (λi h=>?_) (λi h=>?_) IT) (bC.mono kY (λi h=>?_) (λi h=>?_) V3.top)
     ·rcases h with h|h
      ·exact .inl (.inr (.inl h))
      exact .inl (.inr (.inr h))
     ·rcases hX i h with h|h|h|h
      ·exact .inl (.inl h)
      ·exact .inl (.inr (.inl h))
      ·exact .inl (.inr (.inr h))
      exact .inr (by omega)
     ·rcases h with h|h
      ·exact .inl (by omega)
      exact .inl (fS i h)
     rcases hX i h with h|h|h|h
     ·exact .inl (by omega)
     ·exact .inl (by omega)
     ·exact .inl (fS i h)
     exact .inr (by omega)
    have qN:=P6.len;have fJ:=nu.len;have jC:bD (aY d (aq d)) m' (acc++[x]) l2=bD (aY d (aq d)) 1000 [] l0:=by rw[<-eE,dC,aI hp]
    push_cast -dsimp;exact⟨⟨m',acc++[x],l2,_,vs++[ub],jC,by omega,by rw[List.length_append,List.length_singleton];omega,B6,Fo,Vq,P6,k6⟩,by rw[qN,fJ];exact od⟩
  | false =>
   rw[qP,Bool.false_or]at fk;push_cast -dsimp;refine aA (BG [46] P2) ?_;rintro _ w3 ⟨rfl,cM⟩;obtain rfl:w2=w3:=cM.symm;cases ft:dR [46] l1 with
   | true =>
    have cI:kV l1=true:=by rw[fk,ft];rfl
    push_cast -dsimp;have sE:∃m',m=m'+1:=⟨m-1,by omega⟩;obtain⟨m',vo⟩:=sE;have hz2:w.heap.size<w2.heap.size:=fx.lt;have kd:Kept (λ_=>False) w2 w2.drew:=(Kept.refl _ _).drew;have zn:=fx.kept kd (λh=>h);have Pd:=P2.kept kd (λi h=>h.elim);have uY:=k2.trans kd (λi h1 h2=>h2.elim);have d2:w2.drew.cell? ⟨w.heap.size,2,none⟩=some sv:=zn.cell rfl;have dC:bD (aY d (aq d)) m acc l1=Cae.pb (aY d (aq d)) (λx=>bD (aY d (aq d)) m' (acc++[x])) l1:=by
     rw[vo,bD];unfold ax;rw[cI,if_pos rfl]
    cases hp:aY d (aq d) l1 with
    | error e =>
     refine oO (E:=Kj pb w l0 (iH (aY d (aq d)))) [(),(),(),(),(),(),()] mixed (by kernel_rfl) (λce te we hE=>?_) ?_
     ·push_cast -dsimp;exact hE
     push_cast -dsimp[d2];refine⟨λbE h=>by rw[h,d2];exact rfl,?_⟩;refine ni (ha n vp hn pb B w2.drew l1 Pd) (λv we ⟨x,l',h1,_⟩=>by rw[hp]at h1;cases h1) ?_;rintro ce we ⟨en,pos,he,ht,eQ⟩;refine⟨en,pos,?_,ht.mono (by have:=uY.size;omega),uY.trans eQ (λi _ h=>h)⟩;have hl:bD (aY d (aq d)) 1000 [] l0=.error (en,pos):=by
      rw[<-eE,dC];unfold Cae.pb;rw[he]
     unfold iH Cae.pb;rw[hl]
    | ok q =>
     obtain⟨x,l2⟩:=q;have od:l2.length<l1.length:=ly hp;refine dU (λw'=>aL w' w.heap.size 158 [.int .i64 4,.pointer none,sv,.int .i64 0,.int .i64 0]) mixed (by kernel_rfl) (by simp) fx.drew ?_;push_cast -dsimp[d2];refine⟨λbE h=>by rw[aL.cell h (o:=2) rfl];exact rfl,?_⟩;refine aF (ha n vp hn pb B w2.drew l1 Pd) ?_ (λce we ⟨en,pos,he,_⟩=>by rw[hp]at he;cases he);rintro u w3 ⟨x',Wo,e3,V3,P3,k3⟩;obtain⟨rfl,rfl⟩:x=x'/\l2=Wo:=by rw[hp]at e3;cases e3;exact⟨rfl,rfl⟩
     obtain⟨ub,rfl,HR,Qu⟩:=V3.ptr;have B3:=zn.kept k3 (by omega);have z3:=k3.size;have hzd:w2.heap.size=w2.drew.heap.size:=rfl;have fS:∀g,sv.ownBlock=some g->g<w2.heap.size:=λg hg=>(jS.block g hg).2;have K3:=(jS.aJ kd (λg _ h=>h)).aJ k3 (λg hg h=>by have:=(jS.block g hg).1;omega);have IT:=aP.mono (X':=λb=>(b<w.heap.size\/b=w.heap.size\/sv.ownBlock=some b)\/w2.heap.size<=b) ((kd.weaken (Y:=(·=pb)) (λi _ h=>h.elim)).trans k3 (λi _ h=>h)) (λi h=>by omega) (λi h=>h) (aP.top p5);refine⟨B3,?_⟩;push_cast -dsimp;refine cG fb rfl rfl (by omega) ?_;intro w4 ae;have B4:=B3.below ae.below B3.lt;have z4:=ae.size;have yY:=K3.new ae;have P4:=P3.below ae.below;refine⟨B4,?_⟩;push_cast -dsimp;refine aW (base:=w.heap.size+1) [ub] (enc:=fi) fb yY (by rfl) (λj y hy=>by simpa[fi,bw] using ae.cell hy) mE (by rw[aP.len p5];simp only[List.length_cons,List.length_nil];omega) (by omega) ?_;intro sv5 w5 sC yD HO;have kg:Kept (λj=>sv.ownBlock=some j) w4 w5:=Kept.grown yD (λ_ h=>h);have xE:∀g,sv.ownBlock=some g->w.heap.size+1<=g:=λg hg=>(jS.block g hg).1;have B5:=B4.kept kg (λh=>by have:=xE _ h;omega);have P5:=P4.kept kg (λi h=>by have:=xE _ h;omega);have z5:=kg.size;refine⟨B5,?_⟩;obtain⟨a5,c5,rfl⟩:=sC.slice;push_cast -dsimp;refine aC B5 (by simp) rfl ?_;intro w6 bQ;have B6:aL w6 w.heap.size 158 [.int .i64 4,.pointer none,.slice a5 (vs++[ub]).length c5,.int .i64 0,.int .i64 0]:=bQ.aM;have P6:=P5.kept bQ.kept (λi h=>by omega);have z6:=bQ.size
     have Fo:=sC.aJ bQ.kept (λg hg h=>by have:=(sC.block g hg).1;omega);have k6:=(((uY.trans k3 (λi _ h=>h)).trans (Kept.new (X:=(·=pb)) ae) (λi _ h=>h)).trans kg (λi h1 h2=>by have:=xE _ h2;omega)).trans bQ.kept (λi h1 h2=>by omega);have kY:Kept (λi=>i=w.heap.size\/sv.ownBlock=some i) w3 w6:=((Kept.new (X:=λi=>i=w.heap.size\/sv.ownBlock=some i) ae).trans kg (λi _ h=>.inr h)).trans bQ.kept (λi _ h=>.inl h);have hX:∀i,(i<w.heap.size\/i=w.heap.size\/(Value.slice a5 (vs++[ub]).length c5).ownBlock=some i)->i<w.heap.size\/i=w.heap.size\/sv.ownBlock=some i\/w4.heap.size<=i:=λi h=>by
      rcases h with h|h|h
      ·exact .inl h
      ·exact .inr (.inl h)
      rcases HO i h with h|h
      ·exact .inr (.inr (.inl h))
      exact .inr (.inr (.inr h))
     have Vq:aP (λb=>b<w.heap.size\/b=w.heap.size\/(Value.slice a5 (vs++[ub]).length c5).ownBlock=some b) w6 (vs++[ub]) (acc++[x]):=by
      refine aP.snoc (aP.mono kY (λi h=>?_) (λi h=>?_) IT) (bC.mono kY (λi h=>?_) (λi h=>?_) V3.top)
      ·rcases h with h|h
       ·exact .inl (.inr (.inl h))
       exact .inl (.inr (.inr h))
      ·rcases hX i h with h|h|h|h
       ·exact .inl (.inl h)
       ·exact .inl (.inr (.inl h))
       ·exact .inl (.inr (.inr h))
       exact .inr (by omega)
      ·rcases h with h|h
       ·exact .inl (by omega)
       exact .inl (fS i h)
      rcases hX i h with h|h|h|h
      ·exact .inl (by omega)
      ·exact .inl (by omega)
      ·exact .inl (fS i h)
      exact .inr (by omega)
     have qN:=P6.len;have fJ:=nu.len;have jC:bD (aY d (aq d)) m' (acc++[x]) l2=bD (aY d (aq d)) 1000 [] l0:=by rw[<-eE,dC,aI hp]
     push_cast -dsimp;exact⟨⟨m',acc++[x],l2,_,vs++[ub],jC,by omega,by rw[List.length_append,List.length_singleton];omega,B6,Fo,Vq,P6,k6⟩,by rw[qN,fJ];exact od⟩
   | false =>
    rw[ft,Bool.false_or]at fk;push_cast -dsimp;refine aA (BG [36] P2) ?_;rintro _ w3 ⟨rfl,cM⟩;obtain rfl:w2=w3:=cM.symm;cases gY:dR [36] l1 with
    | true =>
     have cI:kV l1=true:=by rw[fk,gY];rfl
     push_cast -dsimp;have sE:∃m',m=m'+1:=⟨m-1,by omega⟩;obtain⟨m',vo⟩:=sE;have hz2:w.heap.size<w2.heap.size:=fx.lt;have kd:Kept (λ_=>False) w2 w2.drew:=(Kept.refl _ _).drew;have zn:=fx.kept kd (λh=>h);have Pd:=P2.kept kd (λi h=>h.elim);have uY:=k2.trans kd (λi h1 h2=>h2.elim);have d2:w2.drew.cell? ⟨w.heap.size,2,none⟩=some sv:=zn.cell rfl;have dC:bD (aY d (aq d)) m acc l1=Cae.pb (aY d (aq d)) (λx=>bD (aY d (aq d)) m' (acc++[x])) l1:=by
      rw[vo,bD];unfold ax;rw[cI,if_pos rfl]
     cases hp:aY d (aq d) l1 with
     | error e =>
      refine oO (E:=Kj pb w l0 (iH (aY d (aq d)))) [(),(),(),(),(),(),()] mixed (by kernel_rfl) (λce te we hE=>?_) ?_
      ·push_cast -dsimp;exact hE
      push_cast -dsimp[d2];refine⟨λbE h=>by rw[h,d2];exact rfl,?_⟩;refine ni (ha n vp hn pb B w2.drew l1 Pd) (λv we ⟨x,l',h1,_⟩=>by rw[hp]at h1;cases h1) ?_;rintro ce we ⟨en,pos,he,ht,eQ⟩;refine⟨en,pos,?_,ht.mono (by have:=uY.size;omega),uY.trans eQ (λi _ h=>h)⟩;have hl:bD (aY d (aq d)) 1000 [] l0=.error (en,pos):=by
       rw[<-eE,dC];unfold Cae.pb;rw[he]
      unfold iH Cae.pb;rw[hl]
     | ok q =>
      obtain⟨x,l2⟩:=q;have od:l2.length<l1.length:=ly hp;refine dU (λw'=>aL w' w.heap.size 158 [.int .i64 4,.pointer none,sv,.int .i64 0,.int .i64 0]) mixed (by kernel_rfl) (by simp) fx.drew ?_;push_cast -dsimp[d2];refine⟨λbE h=>by rw[aL.cell h (o:=2) rfl];exact rfl,?_⟩;refine aF (ha n vp hn pb B w2.drew l1 Pd) ?_ (λce we ⟨en,pos,he,_⟩=>by rw[hp]at he;cases he);rintro u w3 ⟨x',Wo,e3,V3,P3,k3⟩;obtain⟨rfl,rfl⟩:x=x'/\l2=Wo:=by rw[hp]at e3;cases e3;exact⟨rfl,rfl⟩
      obtain⟨ub,rfl,HR,Qu⟩:=V3.ptr;have B3:=zn.kept k3 (by omega);have z3:=k3.size;have hzd:w2.heap.size=w2.drew.heap.size:=rfl;have fS:∀g,sv.ownBlock=some g->g<w2.heap.size:=λg hg=>(jS.block g hg).2;have K3:=(jS.aJ kd (λg _ h=>h)).aJ k3 (λg hg h=>by have:=(jS.block g hg).1;omega);have IT:=aP.mono (X':=λb=>(b<w.heap.size\/b=w.heap.size\/sv.ownBlock=some b)\/w2.heap.size<=b) ((kd.weaken (Y:=(·=pb)) (λi _ h=>h.elim)).trans k3 (λi _ h=>h)) (λi h=>by omega) (λi h=>h) (aP.top p5);refine⟨B3,?_⟩;push_cast -dsimp;refine cG fb rfl rfl (by omega) ?_;intro w4 ae;have B4:=B3.below ae.below B3.lt;have z4:=ae.size;have yY:=K3.new ae;have P4:=P3.below ae.below;refine⟨B4,?_⟩;push_cast -dsimp;refine aW (base:=w.heap.size+1) [ub] (enc:=fi) fb yY (by rfl) (λj y hy=>by simpa[fi,bw] using ae.cell hy) mE (by rw[aP.len p5];simp only[List.length_cons,List.length_nil];omega) (by omega) ?_;intro sv5 w5 sC yD HO;have kg:Kept (λj=>sv.ownBlock=some j) w4 w5:=Kept.grown yD (λ_ h=>h);have xE:∀g,sv.ownBlock=some g->w.heap.size+1<=g:=λg hg=>(jS.block g hg).1;have B5:=B4.kept kg (λh=>by have:=xE _ h;omega);have P5:=P4.kept kg (λi h=>by have:=xE _ h;omega);have z5:=kg.size;refine⟨B5,?_⟩;obtain⟨a5,c5,rfl⟩:=sC.slice;push_cast -dsimp;refine aC B5 (by simp) rfl ?_;intro w6 bQ;have B6:aL w6 w.heap.size 158 [.int .i64 4,.pointer none,.slice a5 (vs++[ub]).length c5,.int .i64 0,.int .i64 0]:=bQ.aM;have P6:=P5.kept bQ.kept (λi h=>by omega);have z6:=bQ.size
      have Fo:=sC.aJ bQ.kept (λg hg h=>by have:=(sC.block g hg).1;omega);have k6:=(((uY.trans k3 (λi _ h=>h)).trans (Kept.new (X:=(·=pb)) ae) (λi _ h=>h)).trans kg (λi h1 h2=>by have:=xE _ h2;omega)).trans bQ.kept (λi h1 h2=>by omega);have kY:Kept (λi=>i=w.heap.size\/sv.ownBlock=some i) w3 w6:=((Kept.new (X:=λi=>i=w.heap.size\/sv.ownBlock=some i) ae).trans kg (λi _ h=>.inr h)).trans bQ.kept (λi _ h=>.inl h);have hX:∀i,(i<w.heap.size\/i=w.heap.size\/(Value.slice a5 (vs++[ub]).length c5).ownBlock=some i)->i<w.heap.size\/i=w.heap.size\/sv.ownBlock=some i\/w4.heap.size<=i:=λi h=>by
       rcases h with h|h|h
       ·exact .inl h
       ·exact .inr (.inl h)
       rcases HO i h with h|h
       ·exact .inr (.inr (.inl h))
       exact .inr (.inr (.inr h))
      have Vq:aP (λb=>b<w.heap.size\/b=w.heap.size\/(Value.slice a5 (vs++[ub]).length c5).ownBlock=some b) w6 (vs++[ub]) (acc++[x]):=by
       refine aP.snoc (aP.mono kY (λi h=>?_) (λi h=>?_) IT) (bC.mono kY (λi h=>?_) (λi h=>?_) V3.top)
       ·rcases h with h|h
        ·exact .inl (.inr (.inl h))
        exact .inl (.inr (.inr h))
       ·rcases hX i h with h|h|h|h
        ·exact .inl (.inl h)
        ·exact .inl (.inr (.inl h))
        ·exact .inl (.inr (.inr h))
        exact .inr (by omega)
       ·rcases h with h|h
        ·exact .inl (by omega)
        exact .inl (fS i h)
       rcases hX i h with h|h|h|h
       ·exact .inl (by omega)
       ·exact .inl (by omega)
       ·exact .inl (fS i h)
       exact .inr (by omega)
      have qN:=P6.len;have fJ:=nu.len;have jC:bD (aY d (aq d)) m' (acc++[x]) l2=bD (aY d (aq d)) 1000 [] l0:=by rw[<-eE,dC,aI hp]
      push_cast -dsimp;exact⟨⟨m',acc++[x],l2,_,vs++[ub],jC,by omega,by rw[List.length_append,List.length_singleton];omega,B6,Fo,Vq,P6,k6⟩,by rw[qN,fJ];exact od⟩
    | false =>
     rw[gY,Bool.false_or]at fk;push_cast -dsimp;refine aA (BG [40] P2) ?_;rintro _ w3 ⟨rfl,cM⟩;obtain rfl:w2=w3:=cM.symm;cases lQ:dR [40] l1 with
     | true =>
      have cI:kV l1=true:=by rw[fk,lQ]
      push_cast -dsimp;have sE:∃m',m=m'+1:=⟨m-1,by omega⟩;obtain⟨m',vo⟩:=sE;have hz2:w.heap.size<w2.heap.size:=fx.lt;have kd:Kept (λ_=>False) w2 w2.drew:=(Kept.refl _ _).drew;have zn:=fx.kept kd (λh=>h);have Pd:=P2.kept kd (λi h=>h.elim);have uY:=k2.trans kd (λi h1 h2=>h2.elim);have d2:w2.drew.cell? ⟨w.heap.size,2,none⟩=some sv:=zn.cell rfl;have dC:bD (aY d (aq d)) m acc l1=Cae.pb (aY d (aq d)) (λx=>bD (aY d (aq d)) m' (acc++[x])) l1:=by
       rw[vo,bD];unfold ax;rw[cI,if_pos rfl]
      cases hp:aY d (aq d) l1 with
      | error e =>
       refine oO (E:=Kj pb w l0 (iH (aY d (aq d)))) [(),(),(),(),(),(),()] mixed (by kernel_rfl) (λce te we hE=>?_) ?_
       ·push_cast -dsimp;exact hE
       push_cast -dsimp[d2];refine⟨λbE h=>by rw[h,d2];exact rfl,?_⟩;refine ni (ha n vp hn pb B w2.drew l1 Pd) (λv we ⟨x,l',h1,_⟩=>by rw[hp]at h1;cases h1) ?_;rintro ce we ⟨en,pos,he,ht,eQ⟩;refine⟨en,pos,?_,ht.mono (by have:=uY.size;omega),uY.trans eQ (λi _ h=>h)⟩;have hl:bD (aY d (aq d)) 1000 [] l0=.error (en,pos):=by
        rw[<-eE,dC];unfold Cae.pb;rw[he]
       unfold iH Cae.pb;rw[hl]
      | ok q =>
       obtain⟨x,l2⟩:=q;have od:l2.length<l1.length:=ly hp;refine dU (λw'=>aL w' w.heap.size 158 [.int .i64 4,.pointer none,sv,.int .i64 0,.int .i64 0]) mixed (by kernel_rfl) (by simp) fx.drew ?_;push_cast -dsimp[d2];refine⟨λbE h=>by rw[aL.cell h (o:=2) rfl];exact rfl,?_⟩;refine aF (ha n vp hn pb B w2.drew l1 Pd) ?_ (λce we ⟨en,pos,he,_⟩=>by rw[hp]at he;cases he);rintro u w3 ⟨x',Wo,e3,V3,P3,k3⟩;obtain⟨rfl,rfl⟩:x=x'/\l2=Wo:=by rw[hp]at e3;cases e3;exact⟨rfl,rfl⟩
       obtain⟨ub,rfl,HR,Qu⟩:=V3.ptr;have B3:=zn.kept k3 (by omega);have z3:=k3.size;have hzd:w2.heap.size=w2.drew.heap.size:=rfl;have fS:∀g,sv.ownBlock=some g->g<w2.heap.size:=λg hg=>(jS.block g hg).2;have K3:=(jS.aJ kd (λg _ h=>h)).aJ k3 (λg hg h=>by have:=(jS.block g hg).1;omega);have IT:=aP.mono (X':=λb=>(b<w.heap.size\/b=w.heap.size\/sv.ownBlock=some b)\/w2.heap.size<=b) ((kd.weaken (Y:=(·=pb)) (λi _ h=>h.elim)).trans k3 (λi _ h=>h)) (λi h=>by omega) (λi h=>h) (aP.top p5);refine⟨B3,?_⟩;push_cast -dsimp;refine cG fb rfl rfl (by omega) ?_;intro w4 ae;have B4:=B3.below ae.below B3.lt;have z4:=ae.size;have yY:=K3.new ae;have P4:=P3.below ae.below;refine⟨B4,?_⟩;push_cast -dsimp;refine aW (base:=w.heap.size+1) [ub] (enc:=fi) fb yY (by rfl) (λj y hy=>by simpa[fi,bw] using ae.cell hy) mE (by rw[aP.len p5];simp only[List.length_cons,List.length_nil];omega) (by omega) ?_;intro sv5 w5 sC yD HO;have kg:Kept (λj=>sv.ownBlock=some j) w4 w5:=Kept.grown yD (λ_ h=>h);have xE:∀g,sv.ownBlock=some g->w.heap.size+1<=g:=λg hg=>(jS.block g hg).1;have B5:=B4.kept kg (λh=>by have:=xE _ h;omega);have P5:=P4.kept kg (λi h=>by have:=xE _ h;omega);have z5:=kg.size;refine⟨B5,?_⟩;obtain⟨a5,c5,rfl⟩:=sC.slice;push_cast -dsimp;refine aC B5 (by simp) rfl ?_;intro w6 bQ;have B6:aL w6 w.heap.size 158 [.int .i64 4,.pointer none,.slice a5 (vs++[ub]).length c5,.int .i64 0,.int .i64 0]:=bQ.aM;have P6:=P5.kept bQ.kept (λi h=>by omega);have z6:=bQ.size
       have Fo:=sC.aJ bQ.kept (λg hg h=>by have:=(sC.block g hg).1;omega);have k6:=(((uY.trans k3 (λi _ h=>h)).trans (Kept.new (X:=(·=pb)) ae) (λi _ h=>h)).trans kg (λi h1 h2=>by have:=xE _ h2;omega)).trans bQ.kept (λi h1 h2=>by omega);have kY:Kept (λi=>i=w.heap.size\/sv.ownBlock=some i) w3 w6:=((Kept.new (X:=λi=>i=w.heap.size\/sv.ownBlock=some i) ae).trans kg (λi _ h=>.inr h)).trans bQ.kept (λi _ h=>.inl h);have hX:∀i,(i<w.heap.size\/i=w.heap.size\/(Value.slice a5 (vs++[ub]).length c5).ownBlock=some i)->i<w.heap.size\/i=w.heap.size\/sv.ownBlock=some i\/w4.heap.size<=i:=λi h=>by
        rcases h with h|h|h
        ·exact .inl h
        ·exact .inr (.inl h)
        rcases HO i h with h|h
        ·exact .inr (.inr (.inl h))
        exact .inr (.inr (.inr h))
       have Vq:aP (λb=>b<w.heap.size\/b=w.heap.size\/(Value.slice a5 (vs++[ub]).length c5).ownBlock=some b) w6 (vs++[ub]) (acc++[x]):=by
        refine aP.snoc (aP.mono kY (λi h=>?_) (λi h=>?_) IT) (bC.mono kY (λi h=>?_) (λi h=>?_) V3.top)
        ·rcases h with h|h
         ·exact .inl (.inr (.inl h))
         exact .inl (.inr (.inr h))
        ·rcases hX i h with h|h|h|h
         ·exact .inl (.inl h)
         ·exact .inl (.inr (.inl h))
         ·exact .inl (.inr (.inr h))
         exact .inr (by omega)
        ·rcases h with h|h
         ·exact .inl (by omega)
         exact .inl (fS i h)
        rcases hX i h with h|h|h|h
        ·exact .inl (by omega)
        ·exact .inl (by omega)
        ·exact .inl (fS i h)
        exact .inr (by omega)
       have qN:=P6.len;have fJ:=nu.len;have jC:bD (aY d (aq d)) m' (acc++[x]) l2=bD (aY d (aq d)) 1000 [] l0:=by rw[<-eE,dC,aI hp]
       push_cast -dsimp;exact⟨⟨m',acc++[x],l2,_,vs++[ub],jC,by omega,by rw[List.length_append,List.length_singleton];omega,B6,Fo,Vq,P6,k6⟩,by rw[qN,fJ];exact od⟩
     | false =>
      have cI:kV l1=false:=by rw[fk,lQ]
      have kE:iH (aY d (aq d)) l0=.ok (rowOf acc,l1):=by
       have hl:bD (aY d (aq d)) 1000 [] l0=.ok (acc,l1):=by
        rw[<-eE];obtain⟨m',vo⟩:∃m',m=m'+1:=⟨m-1,by omega⟩;rw[vo,bD];unfold ax;rw[cI];rfl
       unfold iH;rw[aI hl];rfl
      have aMj:=aP.len p5;have aEi:=jS.slice;obtain⟨va,vc,so⟩:=aEi;rw[so]at fx jS p5;have d2:w2.cell? ⟨w.heap.size,2,none⟩=some (.slice va vs.length vc):=fx.cell rfl;have oh:=jS.sl;have TW:=k2.size;push_cast -dsimp[d2];refine⟨λh1=>?_,λh1=>?_⟩
      ·obtain⟨u,GI⟩:∃u,vs=[u]:=List.length_eq_one_iff.1 (by omega);obtain⟨x,hac⟩:∃x,acc=[x]:=List.length_eq_one_iff.1 (by omega);rw[GI]at oh d2 p5;rw[hac]at p5 kE;simp only[aP,and_true]at p5;obtain⟨b5,o5,rfl,_,aU⟩:=oh.get (i:=0) (x:=u) rfl;have d5:w2.cell? ⟨b5,o5,none⟩=some (bw u):=by have:=aU 0 _ rfl;simpa using this
       simp only[List.length_cons,List.length_nil,Nat.zero_add]at d2;push_cast -dsimp[d2,Nat.zero_mul,Nat.add_zero,d5];refine⟨by omega,x,l1,kE,bC.mono (Kept.refl (λ_=>False) _) (λ_ h=>h.elim) (λi h=>.inl h) p5,P2,k2⟩
      have cW:acc.length≠1:=by omega
      have hro:rowOf acc=.cat acc:=by
       unfold rowOf;split
       ·rename_i x;exact absurd rfl cW
       rfl
      refine⟨.cat acc,l1,by rw[<-hro];exact kE,?_,P2,k2⟩;simp only[bC];exact⟨_,_,vs,rfl,by omega,fx,oh.weaken (λi h=>by omega),aP.mono (Kept.refl (λ_=>False) _) (λ_ h=>h.elim) (λi h=>.inl h) p5⟩
 have cI:kV l1=true:=by
  have:t1.kind=3:=by omega
  rw[fk,this];rfl
 have P2:=nu;have fx:=hB;have jS:=hO;have p5:=hV;have k2:=D1;have sE:∃m',m=m'+1:=⟨m-1,by omega⟩;obtain⟨m',vo⟩:=sE;have hz2:w.heap.size<w'.heap.size:=fx.lt;have kd:Kept (λ_=>False) w' w'.drew:=(Kept.refl _ _).drew;have zn:=fx.kept kd (λh=>h);have Pd:=P2.kept kd (λi h=>h.elim);have uY:=k2.trans kd (λi h1 h2=>h2.elim);have d2:w'.drew.cell? ⟨w.heap.size,2,none⟩=some sv:=zn.cell rfl;have dC:bD (aY d (aq d)) m acc l1=Cae.pb (aY d (aq d)) (λx=>bD (aY d (aq d)) m' (acc++[x])) l1:=by
  rw[vo,bD];unfold ax;rw[cI,if_pos rfl]
 cases hp:aY d (aq d) l1 with
 | error e =>
  refine oO (E:=Kj pb w l0 (iH (aY d (aq d)))) [(),(),(),(),(),(),()] mixed (by kernel_rfl) (λce te we hE=>?_) ?_
  ·push_cast -dsimp;exact hE
  push_cast -dsimp[d2];refine⟨λbE h=>by rw[h,d2];exact rfl,?_⟩;refine ni (ha n vp hn pb B w'.drew l1 Pd) (λv we ⟨x,l',h1,_⟩=>by rw[hp]at h1;cases h1) ?_;rintro ce we ⟨en,pos,he,ht,eQ⟩;refine⟨en,pos,?_,ht.mono (by have:=uY.size;omega),uY.trans eQ (λi _ h=>h)⟩;have hl:bD (aY d (aq d)) 1000 [] l0=.error (en,pos):=by
   rw[<-eE,dC];unfold Cae.pb;rw[he]
  unfold iH Cae.pb;rw[hl]
 | ok q =>
  obtain⟨x,l2⟩:=q;have od:l2.length<l1.length:=ly hp;refine dU (λw'=>aL w' w.heap.size 158 [.int .i64 4,.pointer none,sv,.int .i64 0,.int .i64 0]) mixed (by kernel_rfl) (by simp) fx.drew ?_;push_cast -dsimp[d2];refine⟨λbE h=>by rw[aL.cell h (o:=2) rfl];exact rfl,?_⟩;refine aF (ha n vp hn pb B w'.drew l1 Pd) ?_ (λce we ⟨en,pos,he,_⟩=>by rw[hp]at he;cases he);rintro u w3 ⟨x',Wo,e3,V3,P3,k3⟩;obtain⟨rfl,rfl⟩:x=x'/\l2=Wo:=by rw[hp]at e3;cases e3;exact⟨rfl,rfl⟩
  obtain⟨ub,rfl,HR,Qu⟩:=V3.ptr;have B3:=zn.kept k3 (by omega);have z3:=k3.size;have hzd:w'.heap.size=w'.drew.heap.size:=rfl;have fS:∀g,sv.ownBlock=some g->g<w'.heap.size:=λg hg=>(jS.block g hg).2;have K3:=(jS.aJ kd (λg _ h=>h)).aJ k3 (λg hg h=>by have:=(jS.block g hg).1;omega);have IT:=aP.mono (X':=λb=>(b<w.heap.size\/b=w.heap.size\/sv.ownBlock=some b)\/w'.heap.size<=b) ((kd.weaken (Y:=(·=pb)) (λi _ h=>h.elim)).trans k3 (λi _ h=>h)) (λi h=>by omega) (λi h=>h) (aP.top p5);refine⟨B3,?_⟩;push_cast -dsimp;refine cG fb rfl rfl (by omega) ?_;intro w4 ae;have B4:=B3.below ae.below B3.lt;have z4:=ae.size;have yY:=K3.new ae;have P4:=P3.below ae.below;refine⟨B4,?_⟩;push_cast -dsimp;refine aW (base:=w.heap.size+1) [ub] (enc:=fi) fb yY (by rfl) (λj y hy=>by simpa[fi,bw] using ae.cell hy) mE (by rw[aP.len p5];simp only[List.length_cons,List.length_nil];omega) (by omega) ?_;intro sv5 w5 sC yD HO;have kg:Kept (λj=>sv.ownBlock=some j) w4 w5:=Kept.grown yD (λ_ h=>h);have xE:∀g,sv.ownBlock=some g->w.heap.size+1<=g:=λg hg=>(jS.block g hg).1;have B5:=B4.kept kg (λh=>by have:=xE _ h;omega);have P5:=P4.kept kg (λi h=>by have:=xE _ h;omega);have z5:=kg.size;refine⟨B5,?_⟩;obtain⟨a5,c5,rfl⟩:=sC.slice;push_cast -dsimp;refine aC B5 (by simp) rfl ?_;intro w6 bQ;have B6:aL w6 w.heap.size 158 [.int .i64 4,.pointer none,.slice a5 (vs++[ub]).length c5,.int .i64 0,.int .i64 0]:=bQ.aM;have P6:=P5.kept bQ.kept (λi h=>by omega);have z6:=bQ.size
  have Fo:=sC.aJ bQ.kept (λg hg h=>by have:=(sC.block g hg).1;omega);have k6:=(((uY.trans k3 (λi _ h=>h)).trans (Kept.new (X:=(·=pb)) ae) (λi _ h=>h)).trans kg (λi h1 h2=>by have:=xE _ h2;omega)).trans bQ.kept (λi h1 h2=>by omega);have kY:Kept (λi=>i=w.heap.size\/sv.ownBlock=some i) w3 w6:=((Kept.new (X:=λi=>i=w.heap.size\/sv.ownBlock=some i) ae).trans kg (λi _ h=>.inr h)).trans bQ.kept (λi _ h=>.inl h);have hX:∀i,(i<w.heap.size\/i=w.heap.size\/(Value.slice a5 (vs++[ub]).length c5).ownBlock=some i)->i<w.heap.size\/i=w.heap.size\/sv.ownBlock=some i\/w4.heap.size<=i:=λi h=>by
   rcases h with h|h|h
   ·exact .inl h
   ·exact .inr (.inl h)
   rcases HO i h with h|h
   ·exact .inr (.inr (.inl h))
   exact .inr (.inr (.inr h))
  have Vq:aP (λb=>b<w.heap.size\/b=w.heap.size\/(Value.slice a5 (vs++[ub]).length c5).ownBlock=some b) w6 (vs++[ub]) (acc++[x]):=by
   refine aP.snoc (aP.mono kY (λi h=>?_) (λi h=>?_) IT) (bC.mono kY (λi h=>?_) (λi h=>?_) V3.top)
   ·rcases h with h|h
    ·exact .inl (.inr (.inl h))
    exact .inl (.inr (.inr h))
   ·rcases hX i h with h|h|h|h
    ·exact .inl (.inl h)
    ·exact .inl (.inr (.inl h))
    ·exact .inl (.inr (.inr h))
    exact .inr (by omega)
   ·rcases h with h|h
    ·exact .inl (by omega)
    exact .inl (fS i h)
   rcases hX i h with h|h|h|h
   ·exact .inl (by omega)
   ·exact .inl (by omega)
   ·exact .inl (fS i h)
   exact .inr (by omega)
  have qN:=P6.len;have fJ:=nu.len;have jC:bD (aY d (aq d)) m' (acc++[x]) l2=bD (aY d (aq d)) 1000 [] l0:=by rw[<-eE,dC,aI hp]
  push_cast -dsimp;exact⟨⟨m',acc++[x],l2,_,vs++[ub],jC,by omega,by rw[List.length_append,List.length_singleton];omega,B6,Fo,Vq,P6,k6⟩,by rw[qN,fJ];exact od⟩
theorem aF5 {d:Nat}{l l':List Tok}{x:aG}(h:iH (aY d (aq d)) l=.ok (x,l')):l'.length<=l.length:=Lo.le (OG (Dc (yb d))) _ _ _ h
theorem Xa (d:Nat)(Il:aHh d):aDA d:=by
 intro n vp hn pb B w l0 h0;have hle:=h0.le;have aj:=h0.lt;refine bG Tryz.func71 rfl (by kernel_rfl) [.tmp 4] rfl ?_;push_cast -dsimp(maxSteps:=4000000) [Tryz.ntmps71];refine aF (mD n h0) ?_ ?_;rotate_left
 ·rintro c w' ⟨h8,ht,hb⟩;have hd0:d=0:=by omega
  subst hd0;push_cast -dsimp;exact⟨4,_,rfl,ht,Kept.aN hb (λi h1 h2=>by omega)⟩
 rintro _ w0 ⟨h8,rfl,yL⟩;obtain rfl:w=w0:=yL.symm;have jJ:qk d l0=Cae.pb (iH (aY d (aq d))) (λx=>Cae.pb (eR (iH (aY d (aq d))) 1000 [x]) λps=>pr (jN ps)) l0:=by
  unfold qk Ap;rw[if_neg (by omega)];rfl
 push_cast -dsimp;refine aF (Il n vp hn pb B w l0 h0) ?_ ?_;rotate_left
 ·rintro c w' ⟨e,pos,he,ht,hk⟩;push_cast -dsimp;refine⟨e,pos,?_,ht,hk⟩;rw[jJ];unfold Cae.pb;rw[he]
 rintro v1 w1 ⟨x0,l1',e1,V1,P1,k1⟩;obtain⟨ub,rfl,HR,Qu⟩:=V1.ptr;have z1:=k1.size;push_cast -dsimp;refine cG fb rfl rfl (by omega) ?_;intro w2 bH;have z2:=bH.size;have O2:Go.Vc.Own w.heap.size 82 1 fi w2 (.slice (some ⟨w1.heap.size,0,none⟩) 1 1) [ub]:=bH.own (by rfl) rfl (λ_=>rfl) (by omega) (by omega);push_cast -dsimp;refine aR ?_;intro w3 cM;have B3:=cM.aM;have O3:=O2.new cM;have P3:=(P1.below bH.below).below cM.below;have k3:=(k1.trans (Kept.new (X:=(·=pb)) bH) (λi _ h=>h)).trans (Kept.new (X:=(·=pb)) cM) (λi _ h=>h);have V3:=(V1.top.below bH.below).below cM.below;have CI:∃xb,xb=w2.heap.size:=⟨_,rfl⟩;obtain⟨xb,CI⟩:=CI;have aUj:w.heap.size<=xb:=by omega
 rw[<-CI]at B3;push_cast -dsimp[<-CI];refine aK [15,16,17,18,19,20,21,22,23,24,25,26,27,28] (λz w'=>∃(m:Nat) (acc:List aG) (l1:List Tok) (sv:Value) (vs:List Nat),eR (iH (aY d (aq d))) m acc l1=eR (iH (aY d (aq d))) 1000 [x0] l1'/\l1.length<m/\acc.length+m<=1001 /\
   aL w' xb 158 [.int .i64 5,.pointer none,sv,.int .i64 0,.int .i64 0]/\Go.Vc.Own w.heap.size 82 1 fi w' sv vs/\(∀g,sv.ownBlock=some g->g≠xb)/\aP (λb=>b<w.heap.size\/b=xb\/sv.ownBlock=some b) w' vs acc/\PS pb B w' l1/\Kept (·=pb) w w') (λz w'=>xO w' pb) ?_ ?_
 ·have aj:l1'.length<1000:=by have:=P1.tl.len;omega
  have K4:aP (λb=>b<w.heap.size\/b=xb\/(Value.slice (some ⟨w1.heap.size,0,none⟩) 1 1).ownBlock=some b) w3 [ub] [x0]:=by
   simp only[aP,and_true];refine bC.mono (Kept.refl (λ_=>False) _) (λ_ h=>h.elim) (λi h=>?_) V3;rcases h with h|h|h
   ·exact .inl h
   ·exact .inr (by omega)
   have:w1.heap.size=i:=by simpa[Value.ownBlock] using h
   exact .inr (by omega)
  have aNI:∀g,(Value.slice (some ⟨w1.heap.size,0,none⟩) 1 1).ownBlock=some g->g≠xb:=λg hg=>by
   have:w1.heap.size=g:=by simpa[Value.ownBlock] using hg
   omega
  exact⟨1000,[x0],l1',_,[ub],rfl,aj,by simp,B3,O3,aNI,K4,P3,k3⟩
 rintro z w' ⟨m,acc,l1,sv,vs,eE,hm,IV,hBq,hOq,kN,hVq,nu,kq⟩;have hzw:=kq.size;push_cast -dsimp[<-CI];refine aA (gE [124] nu) ?_;rintro _ Ot hT;rcases hT with ⟨cI,rfl,t1,TX,mZ,xx,P2,kt,hz⟩|⟨cI,rfl,qT⟩
 ·have kR:cK l1=.ok ((),TX):=by rw[mZ];exact dV xx
  have xB:l1.length=TX.length+1:=by rw[mZ,List.length_cons]
  have fx:=hBq.kept kt (by omega);have jS:=hOq.aJ kt (λg hg h=>by have:=(hOq.block g hg).1;omega);have p5:aP (λb=>b<w.heap.size\/b=xb\/sv.ownBlock=some b) Ot vs acc:=aP.mono kt (λi h=>by omega) (λi h=>h) hVq;have k2:=kq.trans kt (λi _ h=>h);push_cast -dsimp[<-CI];have sE:∃m',m=m'+1:=⟨m-1,by omega⟩;obtain⟨m',vo⟩:=sE;have hz2:xb<Ot.heap.size:=fx.lt;have kd:Kept (λ_=>False) Ot Ot.drew:=(Kept.refl _ _).drew;have zn:=fx.kept kd (λh=>h);have Pd:=P2.kept kd (λi h=>h.elim);have uY:=k2.trans kd (λi h1 h2=>h2.elim);have d2:Ot.drew.cell? ⟨xb,2,none⟩=some sv:=zn.cell rfl;have dC:eR (iH (aY d (aq d))) m acc l1=Cae.pb (iH (aY d (aq d))) (λx=>eR (iH (aY d (aq d))) m' (acc++[x])) TX:=by
   rw[vo,eR];unfold ax;rw[cI,if_pos rfl,aI kR]
  cases hp:iH (aY d (aq d)) TX with
  | error e =>
   refine oO (E:=Kj pb w l0 (qk d)) [(),(),(),(),(),(),()] mixed (by kernel_rfl) (λce te we hE=>?_) ?_
   ·push_cast -dsimp;exact hE
   push_cast -dsimp[d2];refine⟨λbE h=>by rw[h,d2];exact rfl,?_⟩;refine ni (Il n vp hn pb B Ot.drew TX Pd) (λv we ⟨x,l',h1,_⟩=>by rw[hp]at h1;cases h1) ?_;rintro ce we ⟨en,pos,he,ht,eQ⟩;refine⟨en,pos,?_,ht.mono (by have:=uY.size;omega),uY.trans eQ (λi _ h=>h)⟩;have hl:eR (iH (aY d (aq d))) 1000 [x0] l1'=.error (en,pos):=by
    rw[<-eE,dC];unfold Cae.pb;rw[he]
   rw[jJ,aI e1];unfold Cae.pb;rw[hl]
  | ok q =>
   obtain⟨x,l2⟩:=q;have od:l2.length<l1.length:=by
    have:=aF5 hp;rw[xB];omega
   refine dU (λw'=>aL w' xb 158 [.int .i64 5,.pointer none,sv,.int .i64 0,.int .i64 0]) mixed (by kernel_rfl) (by simp) fx.drew ?_;push_cast -dsimp[d2];refine⟨λbE h=>by rw[aL.cell h (o:=2) rfl];exact rfl,?_⟩;refine aF (Il n vp hn pb B Ot.drew TX Pd) ?_ (λce we ⟨en,pos,he,_⟩=>by rw[hp]at he;cases he);rintro u w3 ⟨x',Wo,e3,V3,P3,k3⟩;obtain⟨rfl,rfl⟩:x=x'/\l2=Wo:=by rw[hp]at e3;cases e3;exact⟨rfl,rfl⟩
   obtain⟨ub,rfl,HR,Qu⟩:=V3.ptr;have B3:=zn.kept k3 (by omega);have z3:=k3.size;have hzd:Ot.heap.size=Ot.drew.heap.size:=rfl;have fS:∀g,sv.ownBlock=some g->g<Ot.heap.size:=λg hg=>(jS.block g hg).2;have K3:=(jS.aJ kd (λg _ h=>h)).aJ k3 (λg hg h=>by have:=(jS.block g hg).1;omega);have IT:=aP.mono (X':=λb=>(b<w.heap.size\/b=xb\/sv.ownBlock=some b)\/Ot.heap.size<=b) ((kd.weaken (Y:=(·=pb)) (λi _ h=>h.elim)).trans k3 (λi _ h=>h)) (λi h=>by omega) (λi h=>h) (aP.top p5);refine⟨B3,?_⟩;push_cast -dsimp;refine cG fb rfl rfl (by omega) ?_;intro w4 ae;have B4:=B3.below ae.below B3.lt;have z4:=ae.size;have yY:=K3.new ae;have P4:=P3.below ae.below;refine⟨B4,?_⟩;push_cast -dsimp;refine aW (base:=w.heap.size) [ub] (enc:=fi) fb yY (by rfl) (λj y hy=>by simpa[fi,bw] using ae.cell hy) mE (by rw[aP.len p5];simp only[List.length_cons,List.length_nil];omega) (by omega) ?_;intro sv5 w5 sC yD HO;have kg:Kept (λj=>sv.ownBlock=some j) w4 w5:=Kept.grown yD (λ_ h=>h);have xE:∀g,sv.ownBlock=some g->w.heap.size<=g/\g≠xb:=λg hg=>⟨(jS.block g hg).1,kN g hg⟩;have B5:=B4.kept kg (λh=>by have:=xE _ h;omega);have P5:=P4.kept kg (λi h=>by have:=xE _ h;omega);have z5:=kg.size;refine⟨B5,?_⟩;obtain⟨a5,c5,rfl⟩:=sC.slice;push_cast -dsimp;refine aC B5 (by simp) rfl ?_;intro w6 bQ;have B6:aL w6 xb 158 [.int .i64 5,.pointer none,.slice a5 (vs++[ub]).length c5,.int .i64 0,.int .i64 0]:=bQ.aM;have P6:=P5.kept bQ.kept (λi h=>by omega);have z6:=bQ.size
   have aJj:∀g,(Value.slice a5 (vs++[ub]).length c5).ownBlock=some g->g≠xb:=λg hg=>by
    rcases HO g hg with h|h
    ·exact(xE g h).2
    omega
   have Fo:=sC.aJ bQ.kept (λg hg h=>aJj g hg h);have k6:=(((uY.trans k3 (λi _ h=>h)).trans (Kept.new (X:=(·=pb)) ae) (λi _ h=>h)).trans kg (λi h1 h2=>by have:=xE _ h2;omega)).trans bQ.kept (λi h1 h2=>by omega);have kY:Kept (λi=>i=xb\/sv.ownBlock=some i) w3 w6:=((Kept.new (X:=λi=>i=xb\/sv.ownBlock=some i) ae).trans kg (λi _ h=>.inr h)).trans bQ.kept (λi _ h=>.inl h);have hX:∀i,(i<w.heap.size\/i=xb\/(Value.slice a5 (vs++[ub]).length c5).ownBlock=some i)->i<w.heap.size\/i=xb\/sv.ownBlock=some i\/w4.heap.size<=i:=λi h=>by
    rcases h with h|h|h
    ·exact .inl h
    ·exact .inr (.inl h)
    rcases HO i h with h|h
    ·exact .inr (.inr (.inl h))
    exact .inr (.inr (.inr h))
   have Vq:aP (λb=>b<w.heap.size\/b=xb\/(Value.slice a5 (vs++[ub]).length c5).ownBlock=some b) w6 (vs++[ub]) (acc++[x]):=by
    refine aP.snoc (aP.mono kY (λi h=>?_) (λi h=>?_) IT) (bC.mono kY (λi h=>?_) (λi h=>?_) V3.top)
    ·rcases h with h|h
     ·exact .inl (.inr (.inl h))
     exact .inl (.inr (.inr h))
    ·rcases hX i h with h|h|h|h
     ·exact .inl (.inl h)
     ·exact .inl (.inr (.inl h))
     ·exact .inl (.inr (.inr h))
     exact .inr (by omega)
    ·rcases h with h|h
     ·exact .inl (by omega)
     exact .inl (fS i h)
    rcases hX i h with h|h|h|h
    ·exact .inl (by omega)
    ·exact .inl (by omega)
    ·exact .inl (fS i h)
    exact .inr (by omega)
   have qN:=P6.len;have fJ:=nu.len;have jC:eR (iH (aY d (aq d))) m' (acc++[x]) l2=eR (iH (aY d (aq d))) 1000 [x0] l1':=by rw[<-eE,dC,aI hp]
   push_cast -dsimp;exact⟨⟨m',acc++[x],l2,_,vs++[ub],jC,by omega,by rw[List.length_append,List.length_singleton];omega,B6,Fo,aJj,Vq,P6,k6⟩,by rw[qN,fJ];exact od⟩
 obtain rfl:w'=Ot:=qT.symm;have kE:qk d l0=.ok (jN acc,l1):=by
  have hl:eR (iH (aY d (aq d))) 1000 [x0] l1'=.ok (acc,l1):=by
   rw[<-eE];obtain⟨m',vo⟩:∃m',m=m'+1:=⟨m-1,by omega⟩;rw[vo,eR];unfold ax;rw[cI];rfl
  rw[jJ,aI e1,aI hl];rfl
 have fx:=hBq;have jS:=hOq;have p5:=hVq;have P2:=nu;have k2:=kq;have aMj:=aP.len p5;have aEi:=jS.slice;obtain⟨va,vc,so⟩:=aEi;rw[so]at fx jS p5;have d2:w'.cell? ⟨xb,2,none⟩=some (.slice va vs.length vc):=fx.cell rfl;have oh:=jS.sl;have TW:=k2.size;push_cast -dsimp[d2];refine⟨λh1=>?_,λh1=>?_⟩
 ·obtain⟨u,GI⟩:∃u,vs=[u]:=List.length_eq_one_iff.1 (by omega);obtain⟨x,hac⟩:∃x,acc=[x]:=List.length_eq_one_iff.1 (by omega);rw[GI]at oh d2 p5;rw[hac]at p5 kE;simp only[aP,and_true]at p5;obtain⟨b5,o5,rfl,_,aU⟩:=oh.get (i:=0) (x:=u) rfl;have d5:w'.cell? ⟨b5,o5,none⟩=some (bw u):=by have:=aU 0 _ rfl;simpa using this
  simp only[List.length_cons,List.length_nil,Nat.zero_add]at d2;push_cast -dsimp[d2,Nat.zero_mul,Nat.add_zero,d5];refine⟨by omega,x,l1,kE,bC.mono (Kept.refl (λ_=>False) _) (λ_ h=>h.elim) (λi h=>.inl h) p5,P2,k2⟩
 have cW:acc.length≠1:=by omega
 have hro:jN acc=.alt acc:=by
  unfold jN;split
  ·rename_i x;exact absurd rfl cW
  rfl
 refine⟨.alt acc,l1,by rw[<-hro];exact kE,?_,P2,k2⟩;simp only[bC];exact⟨_,_,vs,rfl,by omega,fx,oh.weaken (λi h=>by omega),aP.mono (Kept.refl (λ_=>False) _) (λ_ h=>h.elim) (λi h=>.inl h) p5⟩
end Go.Proofs.YtemjejfpadnljaaGreatDoor
end
