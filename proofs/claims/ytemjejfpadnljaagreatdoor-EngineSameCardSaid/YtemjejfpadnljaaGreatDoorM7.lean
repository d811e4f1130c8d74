/- Part. -/
import Derived.Test.YtemjejfpadnljaaGreatDoorM6
set_option maxRecDepth 100000
set_option linter.unusedSimpArgs false
set_option linter.unusedVariables false
set_option maxHeartbeats 8000000
namespace Go.Proofs.YtemjejfpadnljaaGreatDoor
open Go.Vc Go.Proofs Go.RowKit Cae
attribute [local irreducible] dN ae ak aY runK aw Sl Vc.Own vc aV cJ a7
theorem tA {w:World}{b:Nat}{e:TypeId}{u:Nat}{X:Nat->Prop}(h:aN w b e [bx u])(hb:¬X b):Sl X 1 (En fU) w (.slice (some ⟨b,0,none⟩) 1 1) [u]:=by
 unfold Sl;refine⟨_,1,rfl,by simp,λi x hx=>⟨b,0,fU u,rfl,hb,rfl,λj y hy=>?_,?_⟩⟩
 ·have hi:i=0:=by
   have:=(List.getElem?_eq_some_iff.1 hx).1;simp at this;exact this
  have hj:j=0:=by
   have:=(List.getElem?_eq_some_iff.1 hy).1;simp[fU]at this;exact this
  subst hi hj;simp[fU]at hy;subst hy;exact h.cell rfl
 have hi:i=0:=by
  have:=(List.getElem?_eq_some_iff.1 hx).1;simp at this;exact this
 subst hi;simp at hx;subst hx;rfl
theorem mh {d m c:Nat}{x:aG}{l:List Tok}{e:Nat×Nat}(hm:l.length<m)(h:eY l=.error e):bl d m c x l=.error e:=by
 obtain⟨m',rfl⟩:∃m',m=m'+1:=⟨m-1,by omega⟩;rw[bl];unfold Cae.pb;rw[h]
theorem J3 (d:Nat)(hu:Pn d):Vr d:=by
 intro n yE hn pb B w l0 h0;have hle:=h0.le;have aq:=h0.lt;refine bR Tryz.func134 rfl (by kernel_rfl) [.tmp 4] rfl ?_;push_cast -dsimp(maxSteps:=9^7) [Tryz.ntmps134];refine aF (hu n yE hn pb B w l0 h0) ?_ ?_
 ·rintro v1 w1 ⟨x0,l1,e1,V1,P1,QU⟩;have OC:aZ d (ax d) l0=bl d 1000 0 x0 l1:=by
   unfold aZ;rw[aJ e1]
  push_cast -dsimp;refine aK [4,5,6,7,12,13,14,15,16,17,18,19,20,21,22,23,24,25,26,27,28,29,30,31,32,33,34,35,36,37,38,39,40,41,42,43,44,45,46,47,48,49,50,51,52,53,54,55,56,57,58,59,60,61,62,63,64,65,66,67,68,69,70,71,72,73,74,75,76,77,78,79,80,81,82,83] (λz w'=>∃(m c:Nat) (x:aG) (l1:List Tok) (i:Int),bl d m c x l1=aZ d (ax d) l0/\l1.length<m/\(z 6=.int .i64 i/\i=n+(c:Int)/\i<=9)/\au (·<w.heap.size) w' (z 5) x/\PS pb B w' l1/\Kept (·=pb) w w') (λz w'=>zJ w' pb) ?_ ?_
  ·have aq:l1.length<1000:=by have:=P1.tl.len;omega
   exact⟨1000,0,x0,l1,n,OC.symm,aq,⟨rfl,by omega,by omega⟩,V1,P1,QU⟩
  rintro z w' ⟨m,c,x,l1,i,dK,hm,⟨Q7,hi,hi9⟩,V1,pE,F0⟩;obtain⟨kb,JY,Ef,hkX⟩:=V1.ptr;rw[JY]at V1;obtain⟨t1,r1,n5⟩:=pE.tl.cons;have hzw:=F0.size;push_cast -dsimp[JY];refine cF gD rfl rfl (by omega) ?_;intro w2 bP;have BX0:aN w2 w'.heap.size 82 [.pointer (some ⟨kb,0,none⟩)]:=bP.aL;have P2:=pE.below bP.below;have z2:=bP.size;have k2:=F0.trans (Kept.new (X:=(·=pb)) bP) (λi _ h=>h);push_cast -dsimp;refine aS ?_;intro w3 dA;have BY0:aN w3 (w'.heap.size+1) 158 [.int .i64 6,.pointer none,.slice (some ⟨w'.heap.size,0,none⟩) 1 1,.int .i64 0,.int .i64 (-1)]:=by
   have:=dA.aL;rw[z2]at this;exact this
  have BX3:=BX0.below dA.below (by omega);have P3:=P2.below dA.below;have z3:=dA.size;have k3:=k2.trans (Kept.new (X:=(·=pb)) dA) (λi _ h=>h);have V3:au (λb=>b<w.heap.size\/w'.heap.size<=b) w3 (.pointer (some ⟨kb,0,none⟩)) x:=(V1.top.below bP.below).below dA.below;push_cast -dsimp[z2];refine aA (gZ [42] P3) ?_;rintro _ w4 hT;rcases hT with ⟨gE,rfl,t4,l2,SM,AM,P4,kt,OG⟩|⟨gE,rfl,r6⟩
  ·have lz:cZ l1=.ok ((),l2):=by rw[SM];exact dq AM
   have oX:l1.length=l2.length+1:=by rw[SM,List.length_cons]
   have yJ:eY l1=.ok (some (0,-1),l2):=by
    unfold eY bE;rw[gE,if_pos rfl,aJ lz];rfl
   have BY:=BY0.kept kt (by omega);have BX:=BX3.kept kt (by omega);have kS:=k3.trans kt (λi _ h=>h);have VX:=V3.mono (X':=(·<w.heap.size)) kt (λi h=>by omega) (λi h=>.inl h);push_cast -dsimp[Q7];have j6:∃m',m=m'+1:=⟨m-1,by omega⟩;obtain⟨m',yD⟩:=j6;have FU:aZ d (ax d) l0=if d<=c+1 then eJ 4 l2 else bl d m' (c+1) (.many x 0 (-1)) l2:=by
    rw[<-dK,yD,bl,aJ yJ];dsimp only;split<;>rfl
   refine⟨⟨by omega,by omega⟩,?_⟩;refine aF (nD (i+1) P4) ?_ ?_
   ·rintro _ w0 ⟨h8,rfl,AW⟩;obtain rfl:w4=w0:=AW.symm;have lf:=PS.len P4;have fg:=pE.len;have hzS:=kS.size;push_cast -dsimp[JY];refine⟨⟨m',c+1,.many x 0 (-1),l2,i+1,?_,by omega,⟨rfl,by omega,by omega⟩,?_,P4,kS⟩,by rw[lf,fg];omega⟩
    ·rw[FU,if_neg (by omega)]
    simp only[au];exact⟨_,_,_,rfl,by omega,BY,tA BX (by omega),VX⟩
   rintro ce w0 ⟨h8,ht,hb⟩;push_cast -dsimp;refine⟨4,_,?_,ht.mono (by have:=kS.size;omega),kS.trans (Kept.aQ hb (X:=(·=pb)) (λi h1 h2=>by omega)) (λi _ h=>h)⟩;rw[FU,if_pos (by omega)];rfl
  obtain rfl:w3=w4:=r6.symm;push_cast -dsimp;refine aA (gZ [43] P3) ?_;rintro _ w4 hT;rcases hT with ⟨iC,rfl,t4,l2,SM,AM,P4,kt,OG⟩|⟨iC,rfl,r6⟩
  ·have lz:cZ l1=.ok ((),l2):=by rw[SM];exact dq AM
   have oX:l1.length=l2.length+1:=by rw[SM,List.length_cons]
   have yJ:eY l1=.ok (some (1,-1),l2):=by
    unfold eY bE;rw[gE,iC,if_neg (by decide),if_pos rfl,aJ lz];rfl
   have BY4:=BY0.kept kt (by omega);have BX4:=BX3.kept kt (by omega);have k4:=k3.trans kt (λi _ h=>h);have V4:=V3.mono (X':=λb=>b<w.heap.size\/w'.heap.size<=b) kt (λi h=>by omega) (λi h=>h);push_cast -dsimp;refine aC BY4 (by simp) rfl ?_;intro w5 cG;have BY:aN w5 (w'.heap.size+1) 158 [.int .i64 6,.pointer none,.slice (some ⟨w'.heap.size,0,none⟩) 1 1,.int .i64 1,.int .i64 (-1)]:=cG.aL;have BX:=BX4.kept cG.kept (by omega);have P5:=P4.kept cG.kept (λi h=>by omega);have kS:=k4.trans cG.kept (λi h1 h2=>by omega);have VX:=V4.mono (X':=(·<w.heap.size)) cG.kept (λi h=>by omega) (λi h=>.inl h);push_cast -dsimp[Q7];have j6:∃m',m=m'+1:=⟨m-1,by omega⟩;obtain⟨m',yD⟩:=j6;have FU:aZ d (ax d) l0=if d<=c+1 then eJ 4 l2 else bl d m' (c+1) (.many x 1 (-1)) l2:=by
    rw[<-dK,yD,bl,aJ yJ];dsimp only;split<;>rfl
   refine⟨⟨by omega,by omega⟩,?_⟩;refine aF (nD (i+1) P5) ?_ ?_
   ·rintro _ w0 ⟨h8,rfl,AW⟩;obtain rfl:w5=w0:=AW.symm;have lf:=PS.len P5;have fg:=pE.len;have hzS:=kS.size;push_cast -dsimp[JY];refine⟨⟨m',c+1,.many x 1 (-1),l2,i+1,?_,by omega,⟨rfl,by omega,by omega⟩,?_,P5,kS⟩,by rw[lf,fg];omega⟩
    ·rw[FU,if_neg (by omega)]
    simp only[au];exact⟨_,_,_,rfl,by omega,BY,tA BX (by omega),VX⟩
   rintro ce w0 ⟨h8,ht,hb⟩;push_cast -dsimp;refine⟨4,_,?_,ht.mono (by have:=kS.size;omega),kS.trans (Kept.aQ hb (X:=(·=pb)) (λi h1 h2=>by omega)) (λi _ h=>h)⟩;rw[FU,if_pos (by omega)];rfl
  obtain rfl:w3=w4:=r6.symm;push_cast -dsimp;refine aA (gZ [63] P3) ?_;rintro _ w4 hT;rcases hT with ⟨mV,rfl,t4,l2,SM,AM,P4,kt,OG⟩|⟨mV,rfl,r6⟩
  ·have lz:cZ l1=.ok ((),l2):=by rw[SM];exact dq AM
   have oX:l1.length=l2.length+1:=by rw[SM,List.length_cons]
   have yJ:eY l1=.ok (some (0,1),l2):=by
    unfold eY bE;rw[gE,iC,mV,if_neg (by decide),if_neg (by decide),if_pos rfl,aJ lz];rfl
   have BY4:=BY0.kept kt (by omega);have BX4:=BX3.kept kt (by omega);have k4:=k3.trans kt (λi _ h=>h);have V4:=V3.mono (X':=λb=>b<w.heap.size\/w'.heap.size<=b) kt (λi h=>by omega) (λi h=>h);push_cast -dsimp;refine aC BY4 (by simp) rfl ?_;intro w5 cG;have BY:aN w5 (w'.heap.size+1) 158 [.int .i64 6,.pointer none,.slice (some ⟨w'.heap.size,0,none⟩) 1 1,.int .i64 0,.int .i64 1]:=cG.aL;have BX:=BX4.kept cG.kept (by omega);have P5:=P4.kept cG.kept (λi h=>by omega);have kS:=k4.trans cG.kept (λi h1 h2=>by omega);have VX:=V4.mono (X':=(·<w.heap.size)) cG.kept (λi h=>by omega) (λi h=>.inl h);push_cast -dsimp[Q7];have j6:∃m',m=m'+1:=⟨m-1,by omega⟩;obtain⟨m',yD⟩:=j6;have FU:aZ d (ax d) l0=if d<=c+1 then eJ 4 l2 else bl d m' (c+1) (.many x 0 1) l2:=by
    rw[<-dK,yD,bl,aJ yJ];dsimp only;split<;>rfl
   refine⟨⟨by omega,by omega⟩,?_⟩;refine aF (nD (i+1) P5) ?_ ?_
   ·rintro _ w0 ⟨h8,rfl,AW⟩;obtain rfl:w5=w0:=AW.symm;have lf:=PS.len P5;have fg:=pE.len;have hzS:=kS.size;push_cast -dsimp[JY];refine⟨⟨m',c+1,.many x 0 1,l2,i+1,?_,by omega,⟨rfl,by omega,by omega⟩,?_,P5,kS⟩,by rw[lf,fg];omega⟩
    ·rw[FU,if_neg (by omega)]
    simp only[au];exact⟨_,_,_,rfl,by omega,BY,tA BX (by omega),VX⟩
   rintro ce w0 ⟨h8,ht,hb⟩;push_cast -dsimp;refine⟨4,_,?_,ht.mono (by have:=kS.size;omega),kS.trans (Kept.aQ hb (X:=(·=pb)) (λi h1 h2=>by omega)) (λi _ h=>h)⟩;rw[FU,if_pos (by omega)];rfl
  obtain rfl:w3=w4:=r6.symm;push_cast -dsimp;refine aA (gZ [123] P3) ?_;rintro _ w4 hT;rcases hT with ⟨hs4,rfl,t4,l2,SM,AM,P4,kt,OG⟩|⟨hs4,rfl,r6⟩
  ·have lz:cZ l1=.ok ((),l2):=by rw[SM];exact dq AM
   have oX:l1.length=l2.length+1:=by rw[SM,List.length_cons]
   have pG:eY l1=Cae.pb dR (λr=>pr (some r)) l2:=by
    unfold eY bE;rw[gE,iC,mV,hs4,if_neg (by decide),if_neg (by decide),if_neg (by decide),if_pos rfl,aJ lz]
   have BY4:=BY0.kept kt (by omega);have BX4:=BX3.kept kt (by omega);have k4:=k3.trans kt (λi _ h=>h);have V4:=V3.mono (X':=λb=>b<w.heap.size\/w'.heap.size<=b) kt (λi h=>by omega) (λi h=>h);push_cast -dsimp;refine aF (RW P4) ?_ ?_
   ·rintro _ w5 ⟨n1,l3,e3,⟨rfl,hn1⟩,P5,kt5⟩;have BY5:=BY4.kept kt5 (by omega);have BX5:=BX4.kept kt5 (by omega);have k5:=k4.trans kt5 (λi _ h=>h);have V5:=V4.mono (X':=λb=>b<w.heap.size\/w'.heap.size<=b) kt5 (λi h=>by omega) (λi h=>h);push_cast -dsimp;refine aC BY5 (by simp) rfl ?_;intro w6 bW;have BY6:aN w6 (w'.heap.size+1) 158 [.int .i64 6,.pointer none,.slice (some ⟨w'.heap.size,0,none⟩) 1 1,.int .i64 n1,.int .i64 (-1)]:=bW.aL;have cy6:w6.cell? ⟨w'.heap.size+1,3,none⟩=some (.int .i64 n1):=BY6.cell rfl;push_cast -dsimp[cy6];refine aC BY6 (by simp) rfl ?_;intro w7 fQ;have BY7:aN w7 (w'.heap.size+1) 158 [.int .i64 6,.pointer none,.slice (some ⟨w'.heap.size,0,none⟩) 1 1,.int .i64 n1,.int .i64 n1]:=fQ.aL;have k57:Kept (·=w'.heap.size+1) w5 w7:=bW.kept.trans fQ.kept (λi _ h=>h);have BX7:=BX5.kept k57 (by omega);have P7:=P5.kept k57 (λi h=>by omega);have k7:=k5.trans k57 (λi h1 h2=>by omega);have V7:=V5.mono (X':=λb=>b<w.heap.size\/w'.heap.size<=b) k57 (λi h=>by omega) (λi h=>h);push_cast -dsimp;refine aA (gZ [44] P7) ?_;rintro _ w8 hT;rcases hT with ⟨hs5,rfl,t8,l4,el8,h58,P8,kt8,hz8⟩|⟨hs5,rfl,r6⟩
    ·have aMd:cZ l3=.ok ((),l4):=by rw[el8];exact dq h58
     have BY8:=BY7.kept kt8 (by omega);have BX8:=BX7.kept kt8 (by omega);have k8:=k7.trans kt8 (λi _ h=>h);have V8:=V7.mono (X':=λb=>b<w.heap.size\/w'.heap.size<=b) kt8 (λi h=>by omega) (λi h=>h);have aLk:dR l2=bE (isKind 2) (Cae.pb kD λhi=>if hi<n1 then eJ 2 else Cae.pb (dM [125]) λ_=>pr ((n1:Int),(hi:Int))) (Cae.pb (dM [125]) λ_=>pr ((n1:Int),-1)) l4:=by
      unfold dR;rw[aJ e3]
      show (if dm [44] l3 then _ else _)=_
      rw[hs5,if_pos rfl,aJ aMd]
     push_cast -dsimp;refine aC BY8 (by simp) rfl ?_;intro w9 El;have BY9:aN w9 (w'.heap.size+1) 158 [.int .i64 6,.pointer none,.slice (some ⟨w'.heap.size,0,none⟩) 1 1,.int .i64 n1,.int .i64 (-1)]:=El.aL;have BX9:=BX8.kept El.kept (by omega);have P9:=P8.kept El.kept (λi h=>by omega);have k9:=k8.trans El.kept (λi h1 h2=>by omega);have V9:=V8.mono (X':=λb=>b<w.heap.size\/w'.heap.size<=b) El.kept (λi h=>by omega) (λi h=>h);obtain⟨t9,r9,el9⟩:=P9.tl.cons;have P9':=P9;rw[el9]at P9';obtain⟨b9,o9,c9,Dq,hc9,aWA,c90,_,_,_⟩:=P9'.hd;have cb9:w9.cell? ⟨pb,0,none⟩=some (.slice (some ⟨b9,o9,none⟩) (r9.length+1) c9):=Dq.cell rfl;push_cast -dsimp[cb9,c90];refine⟨by omega,λnh=>?_,λnh=>?_⟩
     ·have Y0:isKind 2 l4=true:=by
       have:t9.kind=2:=by omega
       rw[el9];simp[isKind,Cae.hd,this]
      have Hk:dR l2=Cae.pb kD (λhi=>if hi<n1 then eJ 2 else Cae.pb (dM [125]) λ_=>pr ((n1:Int),(hi:Int))) l4:=by
       rw[aLk];unfold bE;rw[Y0,if_pos rfl]
      refine aF (RW P9) ?_ ?_
      ·rintro _ wa ⟨n2,l5,e5,⟨rfl,hn2⟩,Pa,wO⟩;have BYa:=BY9.kept wO (by omega);have BXa:=BX9.kept wO (by omega);have ka:=k9.trans wO (λi _ h=>h);have Va:=V9.mono (X':=λb=>b<w.heap.size\/w'.heap.size<=b) wO (λi h=>by omega) (λi h=>h);push_cast -dsimp;refine aC BYa (by simp) rfl ?_;intro wb cH;have BYb:aN wb (w'.heap.size+1) 158 [.int .i64 6,.pointer none,.slice (some ⟨w'.heap.size,0,none⟩) 1 1,.int .i64 n1,.int .i64 n2]:=cH.aL;have BXb:=BXa.kept cH.kept (by omega);have Pb:=Pa.kept cH.kept (λi h=>by omega);have kb':=ka.trans cH.kept (λi h1 h2=>by omega);have VB':=Va.mono (X':=λb=>b<w.heap.size\/w'.heap.size<=b) cH.kept (λi h=>by omega) (λi h=>h);push_cast -dsimp;refine bu (λw'=>w'=wb.drew) mixed (by kernel_rfl) rfl ?_;have d3:wb.drew.cell? ⟨w'.heap.size+1,3,none⟩=some (.int .i64 n1):=BYb.drew.cell rfl;have d4:wb.drew.cell? ⟨w'.heap.size+1,4,none⟩=some (.int .i64 n2):=BYb.drew.cell rfl;have kd:Kept (λ_=>False) wb wb.drew:=(Kept.refl _ _).drew;have BYd:=BYb.kept kd (λh=>h);have BXd:=BXb.kept kd (λh=>h);have Pd:=Pb.kept kd (λi h=>h.elim);have wN:=kb'.trans kd (λi h1 h2=>h2.elim);have VB:=VB'.mono (X':=λb=>b<w.heap.size\/w'.heap.size<=b) kd (λi h=>h.elim) (λi h=>h);push_cast -dsimp[d3,d4];refine⟨λbQ h=>by rw[h,d4];exact rfl,λbQ h=>by rw[h,d3];exact rfl,λBv=>?_,λEa=>?_⟩
       ·refine aF (jo 2 Pd) (λ_ _ h=>h.elim) ?_;rintro ce we ⟨ht,hb⟩;push_cast -dsimp;have JO:dR l2=.error (2,(Cae.hd l5).pos):=by
         rw[Hk,aJ e5,if_pos (by omega)];rfl
        refine⟨2,_,?_,ht.mono (by have:=wN.size;omega),wN.trans (Kept.aQ hb (X:=(·=pb)) (λi h1 h2=>by omega)) (λi _ h=>h)⟩;rw[<-dK];refine mh hm ?_;rw[pG];unfold Cae.pb;rw[JO]
       have aLl:dR l2=Cae.pb (dM [125]) (λ_=>pr ((n1:Int),(n2:Int))) l5:=by
        rw[Hk,aJ e5,if_neg (by omega)]
       refine aF (fy [125] Pd) ?_ ?_
       ·rintro _ wm ⟨_,lm,em,rfl,Pm,km⟩;have JO:dR l2=.ok (((n1:Int),(n2:Int)),lm):=by rw[aLl,aJ em];rfl
        have yJ:eY l1=.ok (some ((n1:Int),(n2:Int)),lm):=by rw[pG,aJ JO];rfl
        have hlm:lm.length<=l2.length:=by
         obtain⟨pre,_,e,_⟩:=se _ _ _ JO;rw[e,List.length_append];omega
        have BY:=BYd.kept km (by omega);have BX:=BXd.kept km (by omega);have kS:=wN.trans km (λi _ h=>h);have VX:=VB.mono (X':=(·<w.heap.size)) km (λi h=>by omega) (λi h=>.inl h);push_cast -dsimp[Q7];have j6:∃m',m=m'+1:=⟨m-1,by omega⟩;obtain⟨m',yD⟩:=j6;have FU:aZ d (ax d) l0=if d<=c+1 then eJ 4 lm else bl d m' (c+1) (.many x (n1:Int) (n2:Int)) lm:=by
         rw[<-dK,yD,bl,aJ yJ];dsimp only;split<;>rfl
        refine⟨⟨by omega,by omega⟩,?_⟩;refine aF (nD (i+1) Pm) ?_ ?_
        ·rintro _ w0 ⟨h8,rfl,AW⟩;obtain rfl:wm=w0:=AW.symm;have lf:=PS.len Pm;have fg:=pE.len;have hzS:=kS.size;push_cast -dsimp[JY];refine⟨⟨m',c+1,.many x (n1:Int) (n2:Int),lm,i+1,?_,by omega,⟨rfl,by omega,by omega⟩,?_,Pm,kS⟩,by rw[lf,fg];omega⟩
         ·rw[FU,if_neg (by omega)]
         simp only[au];exact⟨_,_,_,rfl,by omega,BY,tA BX (by omega),VX⟩
        rintro ce w0 ⟨h8,ht,hb⟩;push_cast -dsimp;refine⟨4,_,?_,ht.mono (by have:=kS.size;omega),kS.trans (Kept.aQ hb (X:=(·=pb)) (λi h1 h2=>by omega)) (λi _ h=>h)⟩;rw[FU,if_pos (by omega)];rfl
       rintro ce we ⟨e,pos,he,ht,eD⟩;push_cast -dsimp;refine⟨e,pos,?_,ht.mono (by have:=wN.size;omega),wN.trans eD (λi _ h=>h)⟩;rw[<-dK];refine mh hm ?_;have JO:dR l2=.error (e,pos):=by rw[aLl];unfold Cae.pb;rw[he]
       rw[pG];unfold Cae.pb;rw[JO]
      ·
       rintro ce we ⟨e,pos,he,ht,eD⟩
       push_cast -dsimp
       refine⟨e,pos,?_,ht.mono (by have:=k9.size;omega),k9.trans eD (λi _ h=>h)⟩
       rw[<-dK]
       refine mh hm ?_
       rw[pG]
       unfold Cae.pb
       rw[show dR l2=.error (e,pos) by rw[Hk];unfold Cae.pb;rw[he]]
     have Y0:isKind 2 l4=false:=by
      have:t9.kind≠2:=λe=>nh (by omega);rw[el9];simp[isKind,Cae.hd,this]
     have Hk:dR l2=Cae.pb (dM [125]) (λ_=>pr ((n1:Int),-1)) l4:=by
      rw[aLk];unfold bE;rw[Y0,if_neg (by decide)]
     have VB:=V9;refine aF (fy [125] P9) ?_ ?_
     ·rintro _ wm ⟨_,lm,em,rfl,Pm,km⟩;have JO:dR l2=.ok (((n1:Int),(-1)),lm):=by rw[Hk,aJ em];rfl
      have yJ:eY l1=.ok (some ((n1:Int),(-1)),lm):=by rw[pG,aJ JO];rfl
      have hlm:lm.length<=l2.length:=by
       obtain⟨pre,_,e,_⟩:=se _ _ _ JO;rw[e,List.length_append];omega
      have BY:=BY9.kept km (by omega);have BX:=BX9.kept km (by omega);have kS:=k9.trans km (λi _ h=>h);have VX:=VB.mono (X':=(·<w.heap.size)) km (λi h=>by omega) (λi h=>.inl h);push_cast -dsimp[Q7];have j6:∃m',m=m'+1:=⟨m-1,by omega⟩;obtain⟨m',yD⟩:=j6;have FU:aZ d (ax d) l0=if d<=c+1 then eJ 4 lm else bl d m' (c+1) (.many x (n1:Int) (-1)) lm:=by
       rw[<-dK,yD,bl,aJ yJ];dsimp only;split<;>rfl
      refine⟨⟨by omega,by omega⟩,?_⟩;refine aF (nD (i+1) Pm) ?_ ?_
      ·rintro _ w0 ⟨h8,rfl,AW⟩;obtain rfl:wm=w0:=AW.symm;have lf:=PS.len Pm;have fg:=pE.len;have hzS:=kS.size;push_cast -dsimp[JY];refine⟨⟨m',c+1,.many x (n1:Int) (-1),lm,i+1,?_,by omega,⟨rfl,by omega,by omega⟩,?_,Pm,kS⟩,by rw[lf,fg];omega⟩
       ·rw[FU,if_neg (by omega)]
       simp only[au];exact⟨_,_,_,rfl,by omega,BY,tA BX (by omega),VX⟩
      rintro ce w0 ⟨h8,ht,hb⟩;push_cast -dsimp;refine⟨4,_,?_,ht.mono (by have:=kS.size;omega),kS.trans (Kept.aQ hb (X:=(·=pb)) (λi h1 h2=>by omega)) (λi _ h=>h)⟩;rw[FU,if_pos (by omega)];rfl
     rintro ce we ⟨e,pos,he,ht,eD⟩;push_cast -dsimp;refine⟨e,pos,?_,ht.mono (by have:=k9.size;omega),k9.trans eD (λi _ h=>h)⟩;rw[<-dK];refine mh hm ?_;have JO:dR l2=.error (e,pos):=by rw[Hk];unfold Cae.pb;rw[he]
     rw[pG];unfold Cae.pb;rw[JO]
    obtain rfl:w7=w8:=r6.symm;have Hk:dR l2=Cae.pb (dM [125]) (λ_=>pr ((n1:Int),(n1:Int))) l3:=by
     unfold dR;rw[aJ e3]
     show (if dm [44] l3 then _ else _)=_
     rw[hs5,if_neg (by decide)]
    have VB:=V7;push_cast -dsimp;refine aF (fy [125] P7) ?_ ?_
    ·rintro _ wm ⟨_,lm,em,rfl,Pm,km⟩;have JO:dR l2=.ok (((n1:Int),(n1:Int)),lm):=by rw[Hk,aJ em];rfl
     have yJ:eY l1=.ok (some ((n1:Int),(n1:Int)),lm):=by rw[pG,aJ JO];rfl
     have hlm:lm.length<=l2.length:=by
      obtain⟨pre,_,e,_⟩:=se _ _ _ JO;rw[e,List.length_append];omega
     have BY:=BY7.kept km (by omega);have BX:=BX7.kept km (by omega);have kS:=k7.trans km (λi _ h=>h);have VX:=VB.mono (X':=(·<w.heap.size)) km (λi h=>by omega) (λi h=>.inl h);push_cast -dsimp[Q7];have j6:∃m',m=m'+1:=⟨m-1,by omega⟩;obtain⟨m',yD⟩:=j6;have FU:aZ d (ax d) l0=if d<=c+1 then eJ 4 lm else bl d m' (c+1) (.many x (n1:Int) (n1:Int)) lm:=by
      rw[<-dK,yD,bl,aJ yJ];dsimp only;split<;>rfl
     refine⟨⟨by omega,by omega⟩,?_⟩;refine aF (nD (i+1) Pm) ?_ ?_
     ·rintro _ w0 ⟨h8,rfl,AW⟩;obtain rfl:wm=w0:=AW.symm;have lf:=PS.len Pm;have fg:=pE.len;have hzS:=kS.size;push_cast -dsimp[JY];refine⟨⟨m',c+1,.many x (n1:Int) (n1:Int),lm,i+1,?_,by omega,⟨rfl,by omega,by omega⟩,?_,Pm,kS⟩,by rw[lf,fg];omega⟩
      ·rw[FU,if_neg (by omega)]
      simp only[au];exact⟨_,_,_,rfl,by omega,BY,tA BX (by omega),VX⟩
     rintro ce w0 ⟨h8,ht,hb⟩;push_cast -dsimp;refine⟨4,_,?_,ht.mono (by have:=kS.size;omega),kS.trans (Kept.aQ hb (X:=(·=pb)) (λi h1 h2=>by omega)) (λi _ h=>h)⟩;rw[FU,if_pos (by omega)];rfl
    rintro ce we ⟨e,pos,he,ht,eD⟩;push_cast -dsimp;refine⟨e,pos,?_,ht.mono (by have:=k7.size;omega),k7.trans eD (λi _ h=>h)⟩;rw[<-dK];refine mh hm ?_;have JO:dR l2=.error (e,pos):=by rw[Hk];unfold Cae.pb;rw[he]
    rw[pG];unfold Cae.pb;rw[JO]
   ·
    rintro ce we ⟨e,pos,he,ht,eD⟩
    push_cast -dsimp
    refine⟨e,pos,?_,ht.mono (by have:=k4.size;omega),k4.trans eD (λi _ h=>h)⟩
    rw[<-dK]
    refine mh hm ?_
    rw[pG]
    unfold Cae.pb
    rw[show dR l2=.error (e,pos) by unfold dR Cae.pb;rw[he]]
  obtain rfl:w3=w4:=r6.symm;have yJ:eY l1=.ok (none,l1):=by
   unfold eY bE;rw[gE,iC,mV,hs4,if_neg (by decide),if_neg (by decide),if_neg (by decide),if_neg (by decide)];rfl
  push_cast -dsimp[JY];refine⟨x,l1,?_,V3.mono (X':=(·<w.heap.size)) (Kept.refl (λ_=>False) _) (λ_ h=>h.elim) (λi h=>.inl h),P3,k3⟩;rw[<-dK];obtain⟨m',rfl⟩:∃m',m=m'+1:=⟨m-1,by omega⟩;rw[bl,aJ yJ];rfl
 rintro c w3 ⟨e,pos,he,ht,Bs⟩;push_cast -dsimp;refine⟨e,pos,?_,ht,Bs⟩;unfold aZ Cae.pb;rw[he]
def Sh {α:Type}(p:Pa α):Prop:=∀l x l',p l=.ok (x,l')->l'.length<l.length
def Le {α:Type}(p:Pa α):Prop:=∀l x l',p l=.ok (x,l')->l'.length<=l.length
theorem Lo.le {α:Type}{R:α->α->Prop}{p:Pa α}(h:Lo R p p):Le p:=λl x l' e=>by
 obtain⟨pre,_,e,_⟩:=h l x l' e;rw[e,List.length_append];omega
theorem gq.sh {α:Type}{R:α->α->Prop}{p:Pa α}(h:gq R p p):Sh p:=λl x l' e=>by
 obtain⟨pre,cf,_,e,_⟩:=h l x l' e
 have:=List.length_pos_iff.2 cf;rw[e,List.length_append];omega
theorem Sh.le {α:Type}{p:Pa α}(h:Sh p):Le p:=λl x l' e=>Nat.le_of_lt (h l x l' e)
theorem Sh.pb {α β:Type}{p:Pa α}{q:α->Pa β}(h:Sh p)(k:∀x,Le (q x)):Sh (Cae.pb p q):=λl y l' e=>by
 obtain⟨x,l1,e1,e2⟩:=eI e;exact Nat.lt_of_le_of_lt (k x _ _ _ e2) (h _ _ _ e1)
theorem Sh.pbr {α β:Type}{p:Pa α}{q:α->Pa β}(h:Le p)(k:∀x,Sh (q x)):Sh (Cae.pb p q):=λl y l' e=>by
 obtain⟨x,l1,e1,e2⟩:=eI e;exact Nat.lt_of_lt_of_le (k x _ _ _ e2) (h _ _ _ e1)
theorem Le.pb {α β:Type}{p:Pa α}{q:α->Pa β}(h:Le p)(k:∀x,Le (q x)):Le (Cae.pb p q):=λl y l' e=>by
 obtain⟨x,l1,e1,e2⟩:=eI e;exact Nat.le_trans (k x _ _ _ e2) (h _ _ _ e1)
theorem Le.pr {α:Type}{x:α}:Le (pr x):=λl y l' e=>by cases e;exact Nat.le_refl _
theorem Sh.bE {α:Type}{c:List Tok->Bool}{p q:Pa α}(h:Sh p)(k:Sh q):Sh (Cae.bE c p q):=λl x l' e=>by
 unfold Cae.bE at e;split at e
 ·exact h _ _ _ e
 exact k _ _ _ e
theorem Sh.fail {α:Type}{n:Nat}:Sh (eJ n:Pa α):=λl x l' e=>by cases e
theorem IJ:Le dr:=Lo.le Lo.dr
theorem D3:Sh cZ:=gq.sh gN
theorem aIH:∀d,Sh (mA d)
 | 0=>Sh.fail
 | d+1=>Sh.bE (gq.sh ZL) (Sh.bE (Sh.pbr IJ λ_=>Sh.pb D3 λ_=>Le.pb (Lo.le (qH d)) λ_=>Le.pr)
   (Sh.bE (Sh.pb D3 λ_=>Le.pb (Lo.le (CX (qH d))) λ_=>Le.pb (gq.sh (iX _)).le λ_=>Le.pr)
    (Sh.pbr IJ λ_=>Sh.pb (gq.sh IM) λ_=>Le.pr)))
theorem aEi:∀d,Sh (ax d)
 | 0=>Sh.fail
 | d+1=>Sh.bE (Sh.pb D3 λ_=>Le.pr) (Sh.bE (Sh.pb D3 λ_=>Le.pr) (Sh.bE (Sh.pb D3 λ_=>Le.pb (Lo.le (IP (Ak d))) λ_=>Le.pb (gq.sh (iX _)).le λ_=>Le.pr)
   (Sh.bE (Sh.pb (aIH (d+1)) λ_=>Le.pr) Sh.fail)))
theorem VE {d:Nat}{l l':List Tok}{x:aG}(h:ax d l=.ok (x,l')):l'.length<l.length:=aEi d _ _ _ h
theorem my {d:Nat}{l l':List Tok}{x:aG}(h:aZ d (ax d) l=.ok (x,l')):l'.length<l.length:=by
 obtain⟨y,l1,h1,h2⟩:=eI h;have a:=VE h1;obtain⟨pre,_,e,_⟩:=qG d _ _ _ _ (show PE y y from λ_=>rfl) _ _ _ h2
 have:l1.length=pre.length+l'.length:=by rw[e,List.length_append]
 omega
theorem aAw (d:Nat)(ha:Vr d):aJU d:=by
 intro n yE hn pb B w l0 h0;have hle:=h0.le;have aq:=h0.lt;refine bR Tryz.func109 rfl (by kernel_rfl) [.tmp 4] rfl ?_;push_cast -dsimp(maxSteps:=9^7) [Tryz.ntmps109];push_cast -dsimp;refine aS ?_;intro w1 aU;have B1:aN w1 w.heap.size 158 [.int .i64 4,.pointer none,.slice none 0 0,.int .i64 0,.int .i64 0]:=aU.aL;have P1:=h0.below aU.below;have z1:=aU.size;have k1:Kept (·=pb) w w1:=Kept.new aU;push_cast -dsimp;refine aK [8,9,10,11,12,13,14,15,16,17,18,19,20,21,22,23,24,25,26,27,28,29,30,31,32,33,34,35,36,37,38,39,40,41,42,43] (λz w'=>∃(m:Nat) (acc:List aG) (l1:List Tok) (sv:Value) (vs:List Nat),bN (aZ d (ax d)) m acc l1=bN (aZ d (ax d)) 1000 [] l0/\l1.length<m/\acc.length+m<=1000 /\
   aN w' w.heap.size 158 [.int .i64 4,.pointer none,sv,.int .i64 0,.int .i64 0]/\Go.Vc.Own (w.heap.size+1) 82 1 fU w' sv vs/\aR (λb=>b<w.heap.size\/b=w.heap.size\/sv.ownBlock=some b) w' vs acc/\PS pb B w' l1/\Kept (·=pb) w w') (λz w'=>zJ w' pb) ?_ ?_
 ·have aq:l0.length<1000:=by have:=h0.tl.len;omega
  exact⟨1000,[],l0,_,[],rfl,aq,by simp,B1,Vc.Own.nil (enc:=fU) _ _ (λ_=>rfl) _,by simp only[aR],P1,k1⟩
 rintro z w' ⟨m,acc,l1,sv,vs,dK,hm,KX,hB,hO,hV,pE,F0⟩;obtain⟨t1,r1,n5⟩:=pE.tl.cons;have aKR:=pE;rw[n5]at aKR;obtain⟨b,o,c,hBp,hc,cf,c0,c1,c2,c3⟩:=aKR.hd;have cb:w'.cell? ⟨pb,0,none⟩=some (.slice (some ⟨b,o,none⟩) (r1.length+1) c):=hBp.cell rfl;have hzw:=F0.size;have gL:mB l1=(t1.kind == 3 || jw l1 || dm [46] l1 || dm [36] l1 || dm [40] l1):=by unfold mB isKind;rw[n5];rfl
 push_cast -dsimp[cb,c0];refine⟨by omega,λh3=>?_,λh3=>?_⟩
 ·have Bs:(t1.kind == 3)=false:=by
   have:t1.kind≠3:=λe=>h3 (by omega);simpa using this
  rw[Bs,Bool.false_or]at gL;refine aA (IY pE) ?_;rintro _ w2 ⟨rfl,b2⟩;have P2:=pE.below b2;have gy:=hB.below b2 hB.lt;have ff:=hO.below b2;have qn:=aR.mono (X':=λb=>b<w.heap.size\/b=w.heap.size\/sv.ownBlock=some b) (Kept.aQ b2 (X:=λ_=>False) (λi h1 h2=>by omega)) (λ_ h=>h.elim) (λ_ h=>h) hV;have k2:=F0.trans (Kept.aQ b2 (X:=(·=pb)) (λi h1 h2=>by omega)) (λi _ h=>h);cases oo:jw l1 with
  | true =>
   have bm:mB l1=true:=by rw[gL,oo];rfl
   push_cast -dsimp;have j6:∃m',m=m'+1:=⟨m-1,by omega⟩;obtain⟨m',yD⟩:=j6;have hz2:w.heap.size<w2.heap.size:=gy.lt;have kd:Kept (λ_=>False) w2 w2.drew:=(Kept.refl _ _).drew;have Bl:=gy.kept kd (λh=>h);have Pd:=P2.kept kd (λi h=>h.elim);have wN:=k2.trans kd (λi h1 h2=>h2.elim);have d2:w2.drew.cell? ⟨w.heap.size,2,none⟩=some sv:=Bl.cell rfl;have dW:bN (aZ d (ax d)) m acc l1=Cae.pb (aZ d (ax d)) (λx=>bN (aZ d (ax d)) m' (acc++[x])) l1:=by
    rw[yD,bN];unfold bE;rw[bm,if_pos rfl]
   cases hp:aZ d (ax d) l1 with
   | error e =>
    refine p5 (E:=Mt pb w l0 (iw (aZ d (ax d)))) [(),(),(),(),(),(),()] mixed (by kernel_rfl) (λce te we hE=>?_) ?_
    ·push_cast -dsimp;exact hE
    push_cast -dsimp[d2];refine⟨λbQ h=>by rw[h,d2];exact rfl,?_⟩;refine ou (ha n yE hn pb B w2.drew l1 Pd) (λv we ⟨x,l',h1,_⟩=>by rw[hp]at h1;cases h1) ?_;rintro ce we ⟨en,pos,he,ht,eD⟩;refine⟨en,pos,?_,ht.mono (by have:=wN.size;omega),wN.trans eD (λi _ h=>h)⟩;have hl:bN (aZ d (ax d)) 1000 [] l0=.error (en,pos):=by
     rw[<-dK,dW];unfold Cae.pb;rw[he]
    unfold iw Cae.pb;rw[hl]
   | ok q =>
    obtain⟨x,l2⟩:=q;have oX:l2.length<l1.length:=my hp;refine eC (λw'=>aN w' w.heap.size 158 [.int .i64 4,.pointer none,sv,.int .i64 0,.int .i64 0]) mixed (by kernel_rfl) (by simp) gy.drew ?_;push_cast -dsimp[d2];refine⟨λbQ h=>by rw[aN.cell h (o:=2) rfl];exact rfl,?_⟩;refine aF (ha n yE hn pb B w2.drew l1 Pd) ?_ (λce we ⟨en,pos,he,_⟩=>by rw[hp]at he;cases he);rintro u w3 ⟨x',ZD,e3,V3,P3,k3⟩;obtain⟨rfl,rfl⟩:x=x'/\l2=ZD:=by rw[hp]at e3;cases e3;exact⟨rfl,rfl⟩
    obtain⟨ub,rfl,JW,TZ⟩:=V3.ptr;have B3:=Bl.kept k3 (by omega);have z3:=k3.size;have hzd:w2.heap.size=w2.drew.heap.size:=rfl;have fq:∀g,sv.ownBlock=some g->g<w2.heap.size:=λg hg=>(ff.block g hg).2;have Mf:=(ff.aH kd (λg _ h=>h)).aH k3 (λg hg h=>by have:=(ff.block g hg).1;omega);have KW:=aR.mono (X':=λb=>(b<w.heap.size\/b=w.heap.size\/sv.ownBlock=some b)\/w2.heap.size<=b) ((kd.weaken (Y:=(·=pb)) (λi _ h=>h.elim)).trans k3 (λi _ h=>h)) (λi h=>by omega) (λi h=>h) (aR.top qn);refine⟨B3,?_⟩;push_cast -dsimp;refine cF gD rfl rfl (by omega) ?_;intro w4 aj;have B4:=B3.below aj.below B3.lt;have z4:=aj.size;have xw:=Mf.new aj;have P4:=P3.below aj.below;refine⟨B4,?_⟩;push_cast -dsimp;refine aP (base:=w.heap.size+1) [ub] (enc:=fU) gD xw (by rfl) (λj y hy=>by simpa[fU,bx] using aj.cell hy) nF (by rw[aR.len qn];simp only[List.length_cons,List.length_nil];omega) (by omega) ?_;intro sv5 w5 kF tM yr;have kg:Kept (λj=>sv.ownBlock=some j) w4 w5:=Kept.grown tM (λ_ h=>h);have yx:∀g,sv.ownBlock=some g->w.heap.size+1<=g:=λg hg=>(ff.block g hg).1;have B5:=B4.kept kg (λh=>by have:=yx _ h;omega);have P5:=P4.kept kg (λi h=>by have:=yx _ h;omega);have z5:=kg.size;refine⟨B5,?_⟩;obtain⟨a5,c5,rfl⟩:=kF.slice;push_cast -dsimp;refine aC B5 (by simp) rfl ?_;intro w6 bW;have B6:aN w6 w.heap.size 158 [.int .i64 4,.pointer none,.slice a5 (vs++[ub]).length c5,.int .i64 0,.int .i64 0]:=bW.aL;have P6:=P5.kept bW.kept (λi h=>by omega);have z6:=bW.size
    have tI:=kF.aH bW.kept (λg hg h=>by have:=(kF.block g hg).1;omega);have k6:=(((wN.trans k3 (λi _ h=>h)).trans (Kept.new (X:=(·=pb)) aj) (λi _ h=>h)).trans kg (λi h1 h2=>by have:=yx _ h2;omega)).trans bW.kept (λi h1 h2=>by omega);have kY:Kept (λi=>i=w.heap.size\/sv.ownBlock=some i) w3 w6:=((Kept.new (X:=λi=>i=w.heap.size\/sv.ownBlock=some i) aj).trans kg (λi _ h=>.inr h)).trans bW.kept (λi _ h=>.inl h);have hX:∀i,(i<w.heap.size\/i=w.heap.size\/(Value.slice a5 (vs++[ub]).length c5).ownBlock=some i)->i<w.heap.size\/i=w.heap.size\/sv.ownBlock=some i\/w4.heap.size<=i:=λi h=>by
     rcases h with h|h|h
     ·exact .inl h
     ·exact .inr (.inl h)
     rcases yr i h with h|h
     ·exact .inr (.inr (.inl h))
     exact .inr (.inr (.inr h))
    have Sr:aR (λb=>b<w.heap.size\/b=w.heap.size\/(Value.slice a5 (vs++[ub]).length c5).ownBlock=some b) w6 (vs++[ub]) (acc++[x]):=by
     refine aR.snoc (aR.mono kY (λi h=>?_) (λi h=>?_) KW) (au.mono kY (λi h=>?_) (λi h=>?_) V3.top)
     ·rcases h with h|h
      ·exact .inl (.inr (.inl h))
      exact .inl (.inr (.inr h))
     ·rcases hX i h with h|h|h|h
      ·exact .inl (.inl h)
      ·exact .inl (.inr (.inl h))
      ·exact .inl (.inr (.inr h))
      exact .inr (by omega)
     ·rcases h with h|h
      ·exact .inl (by omega)
      exact .inl (fq i h)
     rcases hX i h with h|h|h|h
     ·exact .inl (by omega)
     ·exact .inl (by omega)
     ·exact .inl (fq i h)
     exact .inr (by omega)
    have rV:=P6.len;have fg:=pE.len;have j7:bN (aZ d (ax d)) m' (acc++[x]) l2=bN (aZ d (ax d)) 1000 [] l0:=by rw[<-dK,dW,aJ hp]
    push_cast -dsimp;exact⟨⟨m',acc++[x],l2,_,vs++[ub],j7,by omega,by rw[List.length_append,List.length_singleton];omega,B6,tI,Sr,P6,k6⟩,by rw[rV,fg];exact oX⟩
  | false =>
   rw[oo,Bool.false_or]at gL;push_cast -dsimp;refine aA (DT [46] P2) ?_;rintro _ w3 ⟨rfl,dA⟩;obtain rfl:w2=w3:=dA.symm;cases gE:dm [46] l1 with
   | true =>
    have bm:mB l1=true:=by rw[gL,gE];rfl
    push_cast -dsimp;have j6:∃m',m=m'+1:=⟨m-1,by omega⟩;obtain⟨m',yD⟩:=j6;have hz2:w.heap.size<w2.heap.size:=gy.lt;have kd:Kept (λ_=>False) w2 w2.drew:=(Kept.refl _ _).drew;have Bl:=gy.kept kd (λh=>h);have Pd:=P2.kept kd (λi h=>h.elim);have wN:=k2.trans kd (λi h1 h2=>h2.elim);have d2:w2.drew.cell? ⟨w.heap.size,2,none⟩=some sv:=Bl.cell rfl;have dW:bN (aZ d (ax d)) m acc l1=Cae.pb (aZ d (ax d)) (λx=>bN (aZ d (ax d)) m' (acc++[x])) l1:=by
     rw[yD,bN];unfold bE;rw[bm,if_pos rfl]
    cases hp:aZ d (ax d) l1 with
    | error e =>
     refine p5 (E:=Mt pb w l0 (iw (aZ d (ax d)))) [(),(),(),(),(),(),()] mixed (by kernel_rfl) (λce te we hE=>?_) ?_
     ·push_cast -dsimp;exact hE
     push_cast -dsimp[d2];refine⟨λbQ h=>by rw[h,d2];exact rfl,?_⟩;refine ou (ha n yE hn pb B w2.drew l1 Pd) (λv we ⟨x,l',h1,_⟩=>by rw[hp]at h1;cases h1) ?_;rintro ce we ⟨en,pos,he,ht,eD⟩;refine⟨en,pos,?_,ht.mono (by have:=wN.size;omega),wN.trans eD (λi _ h=>h)⟩;have hl:bN (aZ d (ax d)) 1000 [] l0=.error (en,pos):=by
      rw[<-dK,dW];unfold Cae.pb;rw[he]
     unfold iw Cae.pb;rw[hl]
    | ok q =>
     obtain⟨x,l2⟩:=q;have oX:l2.length<l1.length:=my hp;refine eC (λw'=>aN w' w.heap.size 158 [.int .i64 4,.pointer none,sv,.int .i64 0,.int .i64 0]) mixed (by kernel_rfl) (by simp) gy.drew ?_;push_cast -dsimp[d2];refine⟨λbQ h=>by rw[aN.cell h (o:=2) rfl];exact rfl,?_⟩;refine aF (ha n yE hn pb B w2.drew l1 Pd) ?_ (λce we ⟨en,pos,he,_⟩=>by rw[hp]at he;cases he);rintro u w3 ⟨x',ZD,e3,V3,P3,k3⟩;obtain⟨rfl,rfl⟩:x=x'/\l2=ZD:=by rw[hp]at e3;cases e3;exact⟨rfl,rfl⟩
     obtain⟨ub,rfl,JW,TZ⟩:=V3.ptr;have B3:=Bl.kept k3 (by omega);have z3:=k3.size;have hzd:w2.heap.size=w2.drew.heap.size:=rfl;have fq:∀g,sv.ownBlock=some g->g<w2.heap.size:=λg hg=>(ff.block g hg).2;have Mf:=(ff.aH kd (λg _ h=>h)).aH k3 (λg hg h=>by have:=(ff.block g hg).1;omega);have KW:=aR.mono (X':=λb=>(b<w.heap.size\/b=w.heap.size\/sv.ownBlock=some b)\/w2.heap.size<=b) ((kd.weaken (Y:=(·=pb)) (λi _ h=>h.elim)).trans k3 (λi _ h=>h)) (λi h=>by omega) (λi h=>h) (aR.top qn);refine⟨B3,?_⟩;push_cast -dsimp;refine cF gD rfl rfl (by omega) ?_;intro w4 aj;have B4:=B3.below aj.below B3.lt;have z4:=aj.size;have xw:=Mf.new aj;have P4:=P3.below aj.below;refine⟨B4,?_⟩;push_cast -dsimp;refine aP (base:=w.heap.size+1) [ub] (enc:=fU) gD xw (by rfl) (λj y hy=>by simpa[fU,bx] using aj.cell hy) nF (by rw[aR.len qn];simp only[List.length_cons,List.length_nil];omega) (by omega) ?_;intro sv5 w5 kF tM yr;have kg:Kept (λj=>sv.ownBlock=some j) w4 w5:=Kept.grown tM (λ_ h=>h);have yx:∀g,sv.ownBlock=some g->w.heap.size+1<=g:=λg hg=>(ff.block g hg).1;have B5:=B4.kept kg (λh=>by have:=yx _ h;omega);have P5:=P4.kept kg (λi h=>by have:=yx _ h;omega);have z5:=kg.size;refine⟨B5,?_⟩;obtain⟨a5,c5,rfl⟩:=kF.slice;push_cast -dsimp;refine aC B5 (by simp) rfl ?_;intro w6 bW;have B6:aN w6 w.heap.size 158 [.int .i64 4,.pointer none,.slice a5 (vs++[ub]).length c5,.int .i64 0,.int .i64 0]:=bW.aL;have P6:=P5.kept bW.kept (λi h=>by omega);have z6:=bW.size
     have tI:=kF.aH bW.kept (λg hg h=>by have:=(kF.block g hg).1;omega);have k6:=(((wN.trans k3 (λi _ h=>h)).trans (Kept.new (X:=(·=pb)) aj) (λi _ h=>h)).trans kg (λi h1 h2=>by have:=yx _ h2;omega)).trans bW.kept (λi h1 h2=>by omega);have kY:Kept (λi=>i=w.heap.size\/sv.ownBlock=some i) w3 w6:=((Kept.new (X:=λi=>i=w.heap.size\/sv.ownBlock=some i) aj).trans kg (λi _ h=>.inr h)).trans bW.kept (λi _ h=>.inl h);have hX:∀i,(i<w.heap.size\/i=w.heap.size\/(Value.slice a5 (vs++[ub]).length c5).ownBlock=some i)->i<w.heap.size\/i=w.heap.size\/sv.ownBlock=some i\/w4.heap.size<=i:=λi h=>by
      rcases h with h|h|h
      ·exact .inl h
      ·exact .inr (.inl h)
      rcases yr i h with h|h
      ·exact .inr (.inr (.inl h))
      exact .inr (.inr (.inr h))
     have Sr:aR (λb=>b<w.heap.size\/b=w.heap.size\/(Value.slice a5 (vs++[ub]).length c5).ownBlock=some b) w6 (vs++[ub]) (acc++[x]):=by
      refine aR.snoc (aR.mono kY (λi h=>?_) (λi h=>?_) KW) (au.mono kY (λi h=>?_) (λi h=>?_) V3.top)
      ·rcases h with h|h
       ·exact .inl (.inr (.inl h))
       exact .inl (.inr (.inr h))
      ·rcases hX i h with h|h|h|h
       ·exact .inl (.inl h)
       ·exact .inl (.inr (.inl h))
       ·exact .inl (.inr (.inr h))
       exact .inr (by omega)
      ·rcases h with h|h
       ·exact .inl (by omega)
       exact .inl (fq i h)
      rcases hX i h with h|h|h|h
      ·exact .inl (by omega)
      ·exact .inl (by omega)
      ·exact .inl (fq i h)
      exact .inr (by omega)
     have rV:=P6.len;have fg:=pE.len;have j7:bN (aZ d (ax d)) m' (acc++[x]) l2=bN (aZ d (ax d)) 1000 [] l0:=by rw[<-dK,dW,aJ hp]
     push_cast -dsimp;exact⟨⟨m',acc++[x],l2,_,vs++[ub],j7,by omega,by rw[List.length_append,List.length_singleton];omega,B6,tI,Sr,P6,k6⟩,by rw[rV,fg];exact oX⟩
   | false =>
    rw[gE,Bool.false_or]at gL;push_cast -dsimp;refine aA (DT [36] P2) ?_;rintro _ w3 ⟨rfl,dA⟩;obtain rfl:w2=w3:=dA.symm;cases iC:dm [36] l1 with
    | true =>
     have bm:mB l1=true:=by rw[gL,iC];rfl
     push_cast -dsimp;have j6:∃m',m=m'+1:=⟨m-1,by omega⟩;obtain⟨m',yD⟩:=j6;have hz2:w.heap.size<w2.heap.size:=gy.lt;have kd:Kept (λ_=>False) w2 w2.drew:=(Kept.refl _ _).drew;have Bl:=gy.kept kd (λh=>h);have Pd:=P2.kept kd (λi h=>h.elim);have wN:=k2.trans kd (λi h1 h2=>h2.elim);have d2:w2.drew.cell? ⟨w.heap.size,2,none⟩=some sv:=Bl.cell rfl;have dW:bN (aZ d (ax d)) m acc l1=Cae.pb (aZ d (ax d)) (λx=>bN (aZ d (ax d)) m' (acc++[x])) l1:=by
      rw[yD,bN];unfold bE;rw[bm,if_pos rfl]
     cases hp:aZ d (ax d) l1 with
     | error e =>
      refine p5 (E:=Mt pb w l0 (iw (aZ d (ax d)))) [(),(),(),(),(),(),()] mixed (by kernel_rfl) (λce te we hE=>?_) ?_
      ·push_cast -dsimp;exact hE
      push_cast -dsimp[d2];refine⟨λbQ h=>by rw[h,d2];exact rfl,?_⟩;refine ou (ha n yE hn pb B w2.drew l1 Pd) (λv we ⟨x,l',h1,_⟩=>by rw[hp]at h1;cases h1) ?_;rintro ce we ⟨en,pos,he,ht,eD⟩;refine⟨en,pos,?_,ht.mono (by have:=wN.size;omega),wN.trans eD (λi _ h=>h)⟩;have hl:bN (aZ d (ax d)) 1000 [] l0=.error (en,pos):=by
       rw[<-dK,dW];unfold Cae.pb;rw[he]
      unfold iw Cae.pb;rw[hl]
     | ok q =>
      obtain⟨x,l2⟩:=q;have oX:l2.length<l1.length:=my hp;refine eC (λw'=>aN w' w.heap.size 158 [.int .i64 4,.pointer none,sv,.int .i64 0,.int .i64 0]) mixed (by kernel_rfl) (by simp) gy.drew ?_;push_cast -dsimp[d2];refine⟨λbQ h=>by rw[aN.cell h (o:=2) rfl];exact rfl,?_⟩;refine aF (ha n yE hn pb B w2.drew l1 Pd) ?_ (λce we ⟨en,pos,he,_⟩=>by rw[hp]at he;cases he);rintro u w3 ⟨x',ZD,e3,V3,P3,k3⟩;obtain⟨rfl,rfl⟩:x=x'/\l2=ZD:=by rw[hp]at e3;cases e3;exact⟨rfl,rfl⟩
      obtain⟨ub,rfl,JW,TZ⟩:=V3.ptr;have B3:=Bl.kept k3 (by omega);have z3:=k3.size;have hzd:w2.heap.size=w2.drew.heap.size:=rfl;have fq:∀g,sv.ownBlock=some g->g<w2.heap.size:=λg hg=>(ff.block g hg).2;have Mf:=(ff.aH kd (λg _ h=>h)).aH k3 (λg hg h=>by have:=(ff.block g hg).1;omega);have KW:=aR.mono (X':=λb=>(b<w.heap.size\/b=w.heap.size\/sv.ownBlock=some b)\/w2.heap.size<=b) ((kd.weaken (Y:=(·=pb)) (λi _ h=>h.elim)).trans k3 (λi _ h=>h)) (λi h=>by omega) (λi h=>h) (aR.top qn);refine⟨B3,?_⟩;push_cast -dsimp;refine cF gD rfl rfl (by omega) ?_;intro w4 aj;have B4:=B3.below aj.below B3.lt;have z4:=aj.size;have xw:=Mf.new aj;have P4:=P3.below aj.below;refine⟨B4,?_⟩;push_cast -dsimp;refine aP (base:=w.heap.size+1) [ub] (enc:=fU) gD xw (by rfl) (λj y hy=>by simpa[fU,bx] using aj.cell hy) nF (by rw[aR.len qn];simp only[List.length_cons,List.length_nil];omega) (by omega) ?_;intro sv5 w5 kF tM yr;have kg:Kept (λj=>sv.ownBlock=some j) w4 w5:=Kept.grown tM (λ_ h=>h);have yx:∀g,sv.ownBlock=some g->w.heap.size+1<=g:=λg hg=>(ff.block g hg).1;have B5:=B4.kept kg (λh=>by have:=yx _ h;omega);have P5:=P4.kept kg (λi h=>by have:=yx _ h;omega);have z5:=kg.size;refine⟨B5,?_⟩;obtain⟨a5,c5,rfl⟩:=kF.slice;push_cast -dsimp;refine aC B5 (by simp) rfl ?_;intro w6 bW;have B6:aN w6 w.heap.size 158 [.int .i64 4,.pointer none,.slice a5 (vs++[ub]).length c5,.int .i64 0,.int .i64 0]:=bW.aL;have P6:=P5.kept bW.kept (λi h=>by omega);have z6:=bW.size
      have tI:=kF.aH bW.kept (λg hg h=>by have:=(kF.block g hg).1;omega);have k6:=(((wN.trans k3 (λi _ h=>h)).trans (Kept.new (X:=(·=pb)) aj) (λi _ h=>h)).trans kg (λi h1 h2=>by have:=yx _ h2;omega)).trans bW.kept (λi h1 h2=>by omega);have kY:Kept (λi=>i=w.heap.size\/sv.ownBlock=some i) w3 w6:=((Kept.new (X:=λi=>i=w.heap.size\/sv.ownBlock=some i) aj).trans kg (λi _ h=>.inr h)).trans bW.kept (λi _ h=>.inl h);have hX:∀i,(i<w.heap.size\/i=w.heap.size\/(Value.slice a5 (vs++[ub]).length c5).ownBlock=some i)->i<w.heap.size\/i=w.heap.size\/sv.ownBlock=some i\/w4.heap.size<=i:=λi h=>by
       rcases h with h|h|h
       ·exact .inl h
       ·exact .inr (.inl h)
       rcases yr i h with h|h
       ·exact .inr (.inr (.inl h))
       exact .inr (.inr (.inr h))
      have Sr:aR (λb=>b<w.heap.size\/b=w.heap.size\/(Value.slice a5 (vs++[ub]).length c5).ownBlock=some b) w6 (vs++[ub]) (acc++[x]):=by
       refine aR.snoc (aR.mono kY (λi h=>?_) (λi h=>?_) KW) (au.mono kY (λi h=>?_) (λi h=>?_) V3.top)
       ·rcases h with h|h
        ·exact .inl (.inr (.inl h))
        exact .inl (.inr (.inr h))
       ·rcases hX i h with h|h|h|h
        ·exact .inl (.inl h)
        ·exact .inl (.inr (.inl h))
        ·exact .inl (.inr (.inr h))
        exact .inr (by omega)
       ·rcases h with h|h
        ·exact .inl (by omega)
        exact .inl (fq i h)
       rcases hX i h with h|h|h|h
       ·exact .inl (by omega)
       ·exact .inl (by omega)
       ·exact .inl (fq i h)
       exact .inr (by omega)
      have rV:=P6.len;have fg:=pE.len;have j7:bN (aZ d (ax d)) m' (acc++[x]) l2=bN (aZ d (ax d)) 1000 [] l0:=by rw[<-dK,dW,aJ hp]
      push_cast -dsimp;exact⟨⟨m',acc++[x],l2,_,vs++[ub],j7,by omega,by rw[List.length_append,List.length_singleton];omega,B6,tI,Sr,P6,k6⟩,by rw[rV,fg];exact oX⟩
    | false =>
     rw[iC,Bool.false_or]at gL;push_cast -dsimp;refine aA (DT [40] P2) ?_;rintro _ w3 ⟨rfl,dA⟩;obtain rfl:w2=w3:=dA.symm;cases mV:dm [40] l1 with
     | true =>
      have bm:mB l1=true:=by rw[gL,mV]
      push_cast -dsimp;have j6:∃m',m=m'+1:=⟨m-1,by omega⟩;obtain⟨m',yD⟩:=j6;have hz2:w.heap.size<w2.heap.size:=gy.lt;have kd:Kept (λ_=>False) w2 w2.drew:=(Kept.refl _ _).drew;have Bl:=gy.kept kd (λh=>h);have Pd:=P2.kept kd (λi h=>h.elim);have wN:=k2.trans kd (λi h1 h2=>h2.elim);have d2:w2.drew.cell? ⟨w.heap.size,2,none⟩=some sv:=Bl.cell rfl;have dW:bN (aZ d (ax d)) m acc l1=Cae.pb (aZ d (ax d)) (λx=>bN (aZ d (ax d)) m' (acc++[x])) l1:=by
       rw[yD,bN];unfold bE;rw[bm,if_pos rfl]
      cases hp:aZ d (ax d) l1 with
      | error e =>
       refine p5 (E:=Mt pb w l0 (iw (aZ d (ax d)))) [(),(),(),(),(),(),()] mixed (by kernel_rfl) (λce te we hE=>?_) ?_
       ·push_cast -dsimp;exact hE
       push_cast -dsimp[d2];refine⟨λbQ h=>by rw[h,d2];exact rfl,?_⟩;refine ou (ha n yE hn pb B w2.drew l1 Pd) (λv we ⟨x,l',h1,_⟩=>by rw[hp]at h1;cases h1) ?_;rintro ce we ⟨en,pos,he,ht,eD⟩;refine⟨en,pos,?_,ht.mono (by have:=wN.size;omega),wN.trans eD (λi _ h=>h)⟩;have hl:bN (aZ d (ax d)) 1000 [] l0=.error (en,pos):=by
        rw[<-dK,dW];unfold Cae.pb;rw[he]
       unfold iw Cae.pb;rw[hl]
      | ok q =>
       obtain⟨x,l2⟩:=q;have oX:l2.length<l1.length:=my hp;refine eC (λw'=>aN w' w.heap.size 158 [.int .i64 4,.pointer none,sv,.int .i64 0,.int .i64 0]) mixed (by kernel_rfl) (by simp) gy.drew ?_;push_cast -dsimp[d2];refine⟨λbQ h=>by rw[aN.cell h (o:=2) rfl];exact rfl,?_⟩;refine aF (ha n yE hn pb B w2.drew l1 Pd) ?_ (λce we ⟨en,pos,he,_⟩=>by rw[hp]at he;cases he);rintro u w3 ⟨x',ZD,e3,V3,P3,k3⟩;obtain⟨rfl,rfl⟩:x=x'/\l2=ZD:=by rw[hp]at e3;cases e3;exact⟨rfl,rfl⟩
       obtain⟨ub,rfl,JW,TZ⟩:=V3.ptr;have B3:=Bl.kept k3 (by omega);have z3:=k3.size;have hzd:w2.heap.size=w2.drew.heap.size:=rfl;have fq:∀g,sv.ownBlock=some g->g<w2.heap.size:=λg hg=>(ff.block g hg).2;have Mf:=(ff.aH kd (λg _ h=>h)).aH k3 (λg hg h=>by have:=(ff.block g hg).1;omega);have KW:=aR.mono (X':=λb=>(b<w.heap.size\/b=w.heap.size\/sv.ownBlock=some b)\/w2.heap.size<=b) ((kd.weaken (Y:=(·=pb)) (λi _ h=>h.elim)).trans k3 (λi _ h=>h)) (λi h=>by omega) (λi h=>h) (aR.top qn);refine⟨B3,?_⟩;push_cast -dsimp;refine cF gD rfl rfl (by omega) ?_;intro w4 aj;have B4:=B3.below aj.below B3.lt;have z4:=aj.size;have xw:=Mf.new aj;have P4:=P3.below aj.below;refine⟨B4,?_⟩;push_cast -dsimp;refine aP (base:=w.heap.size+1) [ub] (enc:=fU) gD xw (by rfl) (λj y hy=>by simpa[fU,bx] using aj.cell hy) nF (by rw[aR.len qn];simp only[List.length_cons,List.length_nil];omega) (by omega) ?_;intro sv5 w5 kF tM yr;have kg:Kept (λj=>sv.ownBlock=some j) w4 w5:=Kept.grown tM (λ_ h=>h);have yx:∀g,sv.ownBlock=some g->w.heap.size+1<=g:=λg hg=>(ff.block g hg).1;have B5:=B4.kept kg (λh=>by have:=yx _ h;omega);have P5:=P4.kept kg (λi h=>by have:=yx _ h;omega);have z5:=kg.size;refine⟨B5,?_⟩;obtain⟨a5,c5,rfl⟩:=kF.slice;push_cast -dsimp;refine aC B5 (by simp) rfl ?_;intro w6 bW;have B6:aN w6 w.heap.size 158 [.int .i64 4,.pointer none,.slice a5 (vs++[ub]).length c5,.int .i64 0,.int .i64 0]:=bW.aL;have P6:=P5.kept bW.kept (λi h=>by omega);have z6:=bW.size
       have tI:=kF.aH bW.kept (λg hg h=>by have:=(kF.block g hg).1;omega);have k6:=(((wN.trans k3 (λi _ h=>h)).trans (Kept.new (X:=(·=pb)) aj) (λi _ h=>h)).trans kg (λi h1 h2=>by have:=yx _ h2;omega)).trans bW.kept (λi h1 h2=>by omega);have kY:Kept (λi=>i=w.heap.size\/sv.ownBlock=some i) w3 w6:=((Kept.new (X:=λi=>i=w.heap.size\/sv.ownBlock=some i) aj).trans kg (λi _ h=>.inr h)).trans bW.kept (λi _ h=>.inl h);have hX:∀i,(i<w.heap.size\/i=w.heap.size\/(Value.slice a5 (vs++[ub]).length c5).ownBlock=some i)->i<w.heap.size\/i=w.heap.size\/sv.ownBlock=some i\/w4.heap.size<=i:=λi h=>by
        rcases h with h|h|h
        ·exact .inl h
        ·exact .inr (.inl h)
        rcases yr i h with h|h
        ·exact .inr (.inr (.inl h))
        exact .inr (.inr (.inr h))
       have Sr:aR (λb=>b<w.heap.size\/b=w.heap.size\/(Value.slice a5 (vs++[ub]).length c5).ownBlock=some b) w6 (vs++[ub]) (acc++[x]):=by
        refine aR.snoc (aR.mono kY (λi h=>?_) (λi h=>?_) KW) (au.mono kY (λi h=>?_) (λi h=>?_) V3.top)
        ·rcases h with h|h
         ·exact .inl (.inr (.inl h))
         exact .inl (.inr (.inr h))
        ·rcases hX i h with h|h|h|h
         ·exact .inl (.inl h)
         ·exact .inl (.inr (.inl h))
         ·exact .inl (.inr (.inr h))
         exact .inr (by omega)
        ·rcases h with h|h
         ·exact .inl (by omega)
         exact .inl (fq i h)
        rcases hX i h with h|h|h|h
        ·exact .inl (by omega)
        ·exact .inl (by omega)
        ·exact .inl (fq i h)
        exact .inr (by omega)
       have rV:=P6.len;have fg:=pE.len;have j7:bN (aZ d (ax d)) m' (acc++[x]) l2=bN (aZ d (ax d)) 1000 [] l0:=by rw[<-dK,dW,aJ hp]
       push_cast -dsimp;exact⟨⟨m',acc++[x],l2,_,vs++[ub],j7,by omega,by rw[List.length_append,List.length_singleton];omega,B6,tI,Sr,P6,k6⟩,by rw[rV,fg];exact oX⟩
     | false =>
      have bm:mB l1=false:=by rw[gL,mV]
      have l9:iw (aZ d (ax d)) l0=.ok (rowOf acc,l1):=by
       have hl:bN (aZ d (ax d)) 1000 [] l0=.ok (acc,l1):=by
        rw[<-dK];obtain⟨m',yD⟩:∃m',m=m'+1:=⟨m-1,by omega⟩;rw[yD,bN];unfold bE;rw[bm];rfl
       unfold iw;rw[aJ hl];rfl
      have aPe:=aR.len qn;have aGH:=ff.slice;obtain⟨va,vc,uU⟩:=aGH;rw[uU]at gy ff qn;have d2:w2.cell? ⟨w.heap.size,2,none⟩=some (.slice va vs.length vc):=gy.cell rfl;have oY:=ff.sl;have OH:=k2.size;push_cast -dsimp[d2];refine⟨λh1=>?_,λh1=>?_⟩
      ·obtain⟨u,IB⟩:∃u,vs=[u]:=List.length_eq_one_iff.1 (by omega);obtain⟨x,hac⟩:∃x,acc=[x]:=List.length_eq_one_iff.1 (by omega);rw[IB]at oY d2 qn;rw[hac]at qn l9;simp only[aR,and_true]at qn;obtain⟨b5,o5,rfl,_,aM⟩:=oY.get (i:=0) (x:=u) rfl;have d5:w2.cell? ⟨b5,o5,none⟩=some (bx u):=by have:=aM 0 _ rfl;simpa using this
       simp only[List.length_cons,List.length_nil,Nat.zero_add]at d2;push_cast -dsimp[d2,Nat.zero_mul,Nat.add_zero,d5];refine⟨by omega,x,l1,l9,au.mono (Kept.refl (λ_=>False) _) (λ_ h=>h.elim) (λi h=>.inl h) qn,P2,k2⟩
      have cf:acc.length≠1:=by omega
      have hro:rowOf acc=.cat acc:=by
       unfold rowOf;split
       ·rename_i x;exact absurd rfl cf
       rfl
      refine⟨.cat acc,l1,by rw[<-hro];exact l9,?_,P2,k2⟩;simp only[au];exact⟨_,_,vs,rfl,by omega,gy,oY.weaken (λi h=>by omega),aR.mono (Kept.refl (λ_=>False) _) (λ_ h=>h.elim) (λi h=>.inl h) qn⟩
 have bm:mB l1=true:=by
  have:t1.kind=3:=by omega
  rw[gL,this];rfl
 have P2:=pE;have gy:=hB;have ff:=hO;have qn:=hV;have k2:=F0;have j6:∃m',m=m'+1:=⟨m-1,by omega⟩;obtain⟨m',yD⟩:=j6;have hz2:w.heap.size<w'.heap.size:=gy.lt;have kd:Kept (λ_=>False) w' w'.drew:=(Kept.refl _ _).drew;have Bl:=gy.kept kd (λh=>h);have Pd:=P2.kept kd (λi h=>h.elim);have wN:=k2.trans kd (λi h1 h2=>h2.elim);have d2:w'.drew.cell? ⟨w.heap.size,2,none⟩=some sv:=Bl.cell rfl;have dW:bN (aZ d (ax d)) m acc l1=Cae.pb (aZ d (ax d)) (λx=>bN (aZ d (ax d)) m' (acc++[x])) l1:=by
  rw[yD,bN];unfold bE;rw[bm,if_pos rfl]
 cases hp:aZ d (ax d) l1 with
 | error e =>
  refine p5 (E:=Mt pb w l0 (iw (aZ d (ax d)))) [(),(),(),(),(),(),()] mixed (by kernel_rfl) (λce te we hE=>?_) ?_
  ·push_cast -dsimp;exact hE
  push_cast -dsimp[d2];refine⟨λbQ h=>by rw[h,d2];exact rfl,?_⟩;refine ou (ha n yE hn pb B w'.drew l1 Pd) (λv we ⟨x,l',h1,_⟩=>by rw[hp]at h1;cases h1) ?_;rintro ce we ⟨en,pos,he,ht,eD⟩;refine⟨en,pos,?_,ht.mono (by have:=wN.size;omega),wN.trans eD (λi _ h=>h)⟩;have hl:bN (aZ d (ax d)) 1000 [] l0=.error (en,pos):=by
   rw[<-dK,dW];unfold Cae.pb;rw[he]
  unfold iw Cae.pb;rw[hl]
 | ok q =>
  obtain⟨x,l2⟩:=q;have oX:l2.length<l1.length:=my hp;refine eC (λw'=>aN w' w.heap.size 158 [.int .i64 4,.pointer none,sv,.int .i64 0,.int .i64 0]) mixed (by kernel_rfl) (by simp) gy.drew ?_;push_cast -dsimp[d2];refine⟨λbQ h=>by rw[aN.cell h (o:=2) rfl];exact rfl,?_⟩;refine aF (ha n yE hn pb B w'.drew l1 Pd) ?_ (λce we ⟨en,pos,he,_⟩=>by rw[hp]at he;cases he);rintro u w3 ⟨x',ZD,e3,V3,P3,k3⟩;obtain⟨rfl,rfl⟩:x=x'/\l2=ZD:=by rw[hp]at e3;cases e3;exact⟨rfl,rfl⟩
  obtain⟨ub,rfl,JW,TZ⟩:=V3.ptr;have B3:=Bl.kept k3 (by omega);have z3:=k3.size;have hzd:w'.heap.size=w'.drew.heap.size:=rfl;have fq:∀g,sv.ownBlock=some g->g<w'.heap.size:=λg hg=>(ff.block g hg).2;have Mf:=(ff.aH kd (λg _ h=>h)).aH k3 (λg hg h=>by have:=(ff.block g hg).1;omega);have KW:=aR.mono (X':=λb=>(b<w.heap.size\/b=w.heap.size\/sv.ownBlock=some b)\/w'.heap.size<=b) ((kd.weaken (Y:=(·=pb)) (λi _ h=>h.elim)).trans k3 (λi _ h=>h)) (λi h=>by omega) (λi h=>h) (aR.top qn);refine⟨B3,?_⟩;push_cast -dsimp;refine cF gD rfl rfl (by omega) ?_;intro w4 aj;have B4:=B3.below aj.below B3.lt;have z4:=aj.size;have xw:=Mf.new aj;have P4:=P3.below aj.below;refine⟨B4,?_⟩;push_cast -dsimp;refine aP (base:=w.heap.size+1) [ub] (enc:=fU) gD xw (by rfl) (λj y hy=>by simpa[fU,bx] using aj.cell hy) nF (by rw[aR.len qn];simp only[List.length_cons,List.length_nil];omega) (by omega) ?_;intro sv5 w5 kF tM yr;have kg:Kept (λj=>sv.ownBlock=some j) w4 w5:=Kept.grown tM (λ_ h=>h);have yx:∀g,sv.ownBlock=some g->w.heap.size+1<=g:=λg hg=>(ff.block g hg).1;have B5:=B4.kept kg (λh=>by have:=yx _ h;omega);have P5:=P4.kept kg (λi h=>by have:=yx _ h;omega);have z5:=kg.size;refine⟨B5,?_⟩;obtain⟨a5,c5,rfl⟩:=kF.slice;push_cast -dsimp;refine aC B5 (by simp) rfl ?_;intro w6 bW;have B6:aN w6 w.heap.size 158 [.int .i64 4,.pointer none,.slice a5 (vs++[ub]).length c5,.int .i64 0,.int .i64 0]:=bW.aL;have P6:=P5.kept bW.kept (λi h=>by omega);have z6:=bW.size
  have tI:=kF.aH bW.kept (λg hg h=>by have:=(kF.block g hg).1;omega);have k6:=(((wN.trans k3 (λi _ h=>h)).trans (Kept.new (X:=(·=pb)) aj) (λi _ h=>h)).trans kg (λi h1 h2=>by have:=yx _ h2;omega)).trans bW.kept (λi h1 h2=>by omega);have kY:Kept (λi=>i=w.heap.size\/sv.ownBlock=some i) w3 w6:=((Kept.new (X:=λi=>i=w.heap.size\/sv.ownBlock=some i) aj).trans kg (λi _ h=>.inr h)).trans bW.kept (λi _ h=>.inl h);have hX:∀i,(i<w.heap.size\/i=w.heap.size\/(Value.slice a5 (vs++[ub]).length c5).ownBlock=some i)->i<w.heap.size\/i=w.heap.size\/sv.ownBlock=some i\/w4.heap.size<=i:=λi h=>by
   rcases h with h|h|h
   ·exact .inl h
   ·exact .inr (.inl h)
   rcases yr i h with h|h
   ·exact .inr (.inr (.inl h))
   exact .inr (.inr (.inr h))
  have Sr:aR (λb=>b<w.heap.size\/b=w.heap.size\/(Value.slice a5 (vs++[ub]).length c5).ownBlock=some b) w6 (vs++[ub]) (acc++[x]):=by
   refine aR.snoc (aR.mono kY (λi h=>?_) (λi h=>?_) KW) (au.mono kY (λi h=>?_) (λi h=>?_) V3.top)
   ·rcases h with h|h
    ·exact .inl (.inr (.inl h))
    exact .inl (.inr (.inr h))
   ·rcases hX i h with h|h|h|h
    ·exact .inl (.inl h)
    ·exact .inl (.inr (.inl h))
    ·exact .inl (.inr (.inr h))
    exact .inr (by omega)
   ·rcases h with h|h
    ·exact .inl (by omega)
    exact .inl (fq i h)
   rcases hX i h with h|h|h|h
   ·exact .inl (by omega)
   ·exact .inl (by omega)
   ·exact .inl (fq i h)
   exact .inr (by omega)
  have rV:=P6.len;have fg:=pE.len;have j7:bN (aZ d (ax d)) m' (acc++[x]) l2=bN (aZ d (ax d)) 1000 [] l0:=by rw[<-dK,dW,aJ hp]
  push_cast -dsimp;exact⟨⟨m',acc++[x],l2,_,vs++[ub],j7,by omega,by rw[List.length_append,List.length_singleton];omega,B6,tI,Sr,P6,k6⟩,by rw[rV,fg];exact oX⟩
theorem aIF {d:Nat}{l l':List Tok}{x:aG}(h:iw (aZ d (ax d)) l=.ok (x,l')):l'.length<=l.length:=Lo.le (Qh (Fi (Ak d))) _ _ _ h
theorem Zq (d:Nat)(Ko:aJU d):aF1 d:=by
 intro n yE hn pb B w l0 h0;have hle:=h0.le;have aq:=h0.lt;refine bR Tryz.func71 rfl (by kernel_rfl) [.tmp 4] rfl ?_;push_cast -dsimp(maxSteps:=9^7) [Tryz.ntmps71];refine aF (nD n h0) ?_ ?_;rotate_left
 ·rintro c w' ⟨h8,ht,hb⟩;have hd0:d=0:=by omega
  subst hd0;push_cast -dsimp;exact⟨4,_,rfl,ht,Kept.aQ hb (λi h1 h2=>by omega)⟩
 rintro _ w0 ⟨h8,rfl,AW⟩;obtain rfl:w=w0:=AW.symm;have jg:ry d l0=Cae.pb (iw (aZ d (ax d))) (λx=>Cae.pb (fB (iw (aZ d (ax d))) 1000 [x]) λps=>pr (jj ps)) l0:=by
  unfold ry DD;rw[if_neg (by omega)];rfl
 push_cast -dsimp;refine aF (Ko n yE hn pb B w l0 h0) ?_ ?_;rotate_left
 ·rintro c w' ⟨e,pos,he,ht,hk⟩;push_cast -dsimp;refine⟨e,pos,?_,ht,hk⟩;rw[jg];unfold Cae.pb;rw[he]
 rintro v1 w1 ⟨x0,l1',e1,V1,P1,k1⟩;obtain⟨ub,rfl,JW,TZ⟩:=V1.ptr;have z1:=k1.size;push_cast -dsimp;refine cF gD rfl rfl (by omega) ?_;intro w2 bP;have z2:=bP.size;have O2:Go.Vc.Own w.heap.size 82 1 fU w2 (.slice (some ⟨w1.heap.size,0,none⟩) 1 1) [ub]:=bP.own (by rfl) rfl (λ_=>rfl) (by omega) (by omega);push_cast -dsimp;refine aS ?_;intro w3 dA;have B3:=dA.aL;have O3:=O2.new dA;have P3:=(P1.below bP.below).below dA.below;have k3:=(k1.trans (Kept.new (X:=(·=pb)) bP) (λi _ h=>h)).trans (Kept.new (X:=(·=pb)) dA) (λi _ h=>h);have V3:=(V1.top.below bP.below).below dA.below;have xa:∃xb,xb=w2.heap.size:=⟨_,rfl⟩;obtain⟨xb,xa⟩:=xa;have aW6:w.heap.size<=xb:=by omega
 rw[<-xa]at B3;push_cast -dsimp[<-xa];refine aK [15,16,17,18,19,20,21,22,23,24,25,26,27,28] (λz w'=>∃(m:Nat) (acc:List aG) (l1:List Tok) (sv:Value) (vs:List Nat),fB (iw (aZ d (ax d))) m acc l1=fB (iw (aZ d (ax d))) 1000 [x0] l1'/\l1.length<m/\acc.length+m<=1001 /\
   aN w' xb 158 [.int .i64 5,.pointer none,sv,.int .i64 0,.int .i64 0]/\Go.Vc.Own w.heap.size 82 1 fU w' sv vs/\(∀g,sv.ownBlock=some g->g≠xb)/\aR (λb=>b<w.heap.size\/b=xb\/sv.ownBlock=some b) w' vs acc/\PS pb B w' l1/\Kept (·=pb) w w') (λz w'=>zJ w' pb) ?_ ?_
 ·have aq:l1'.length<1000:=by have:=P1.tl.len;omega
  have JL:aR (λb=>b<w.heap.size\/b=xb\/(Value.slice (some ⟨w1.heap.size,0,none⟩) 1 1).ownBlock=some b) w3 [ub] [x0]:=by
   simp only[aR,and_true];refine au.mono (Kept.refl (λ_=>False) _) (λ_ h=>h.elim) (λi h=>?_) V3;rcases h with h|h|h
   ·exact .inl h
   ·exact .inr (by omega)
   have:w1.heap.size=i:=by simpa[Value.ownBlock] using h
   exact .inr (by omega)
  have Eh:∀g,(Value.slice (some ⟨w1.heap.size,0,none⟩) 1 1).ownBlock=some g->g≠xb:=λg hg=>by
   have:w1.heap.size=g:=by simpa[Value.ownBlock] using hg
   omega
  exact⟨1000,[x0],l1',_,[ub],rfl,aq,by simp,B3,O3,Eh,JL,P3,k3⟩
 rintro z w' ⟨m,acc,l1,sv,vs,dK,hm,KX,hBq,AO,lx,hVq,pE,kq⟩;have hzw:=kq.size;push_cast -dsimp[<-xa];refine aA (gZ [124] pE) ?_;rintro _ Ra hT;rcases hT with ⟨bm,rfl,t1,Vm,n5,AM,P2,kt,hz⟩|⟨bm,rfl,r6⟩
 ·have lz:cZ l1=.ok ((),Vm):=by rw[n5];exact dq AM
  have yq:l1.length=Vm.length+1:=by rw[n5,List.length_cons]
  have gy:=hBq.kept kt (by omega);have ff:=AO.aH kt (λg hg h=>by have:=(AO.block g hg).1;omega);have qn:aR (λb=>b<w.heap.size\/b=xb\/sv.ownBlock=some b) Ra vs acc:=aR.mono kt (λi h=>by omega) (λi h=>h) hVq;have k2:=kq.trans kt (λi _ h=>h);push_cast -dsimp[<-xa];have j6:∃m',m=m'+1:=⟨m-1,by omega⟩;obtain⟨m',yD⟩:=j6;have hz2:xb<Ra.heap.size:=gy.lt;have kd:Kept (λ_=>False) Ra Ra.drew:=(Kept.refl _ _).drew;have Bl:=gy.kept kd (λh=>h);have Pd:=P2.kept kd (λi h=>h.elim);have wN:=k2.trans kd (λi h1 h2=>h2.elim);have d2:Ra.drew.cell? ⟨xb,2,none⟩=some sv:=Bl.cell rfl;have dW:fB (iw (aZ d (ax d))) m acc l1=Cae.pb (iw (aZ d (ax d))) (λx=>fB (iw (aZ d (ax d))) m' (acc++[x])) Vm:=by
   rw[yD,fB];unfold bE;rw[bm,if_pos rfl,aJ lz]
  cases hp:iw (aZ d (ax d)) Vm with
  | error e =>
   refine p5 (E:=Mt pb w l0 (ry d)) [(),(),(),(),(),(),()] mixed (by kernel_rfl) (λce te we hE=>?_) ?_
   ·push_cast -dsimp;exact hE
   push_cast -dsimp[d2];refine⟨λbQ h=>by rw[h,d2];exact rfl,?_⟩;refine ou (Ko n yE hn pb B Ra.drew Vm Pd) (λv we ⟨x,l',h1,_⟩=>by rw[hp]at h1;cases h1) ?_;rintro ce we ⟨en,pos,he,ht,eD⟩;refine⟨en,pos,?_,ht.mono (by have:=wN.size;omega),wN.trans eD (λi _ h=>h)⟩;have hl:fB (iw (aZ d (ax d))) 1000 [x0] l1'=.error (en,pos):=by
    rw[<-dK,dW];unfold Cae.pb;rw[he]
   rw[jg,aJ e1];unfold Cae.pb;rw[hl]
  | ok q =>
   obtain⟨x,l2⟩:=q;have oX:l2.length<l1.length:=by
    have:=aIF hp;rw[yq];omega
   refine eC (λw'=>aN w' xb 158 [.int .i64 5,.pointer none,sv,.int .i64 0,.int .i64 0]) mixed (by kernel_rfl) (by simp) gy.drew ?_;push_cast -dsimp[d2];refine⟨λbQ h=>by rw[aN.cell h (o:=2) rfl];exact rfl,?_⟩;refine aF (Ko n yE hn pb B Ra.drew Vm Pd) ?_ (λce we ⟨en,pos,he,_⟩=>by rw[hp]at he;cases he);rintro u w3 ⟨x',ZD,e3,V3,P3,k3⟩;obtain⟨rfl,rfl⟩:x=x'/\l2=ZD:=by rw[hp]at e3;cases e3;exact⟨rfl,rfl⟩
   obtain⟨ub,rfl,JW,TZ⟩:=V3.ptr;have B3:=Bl.kept k3 (by omega);have z3:=k3.size;have hzd:Ra.heap.size=Ra.drew.heap.size:=rfl;have fq:∀g,sv.ownBlock=some g->g<Ra.heap.size:=λg hg=>(ff.block g hg).2;have Mf:=(ff.aH kd (λg _ h=>h)).aH k3 (λg hg h=>by have:=(ff.block g hg).1;omega);have KW:=aR.mono (X':=λb=>(b<w.heap.size\/b=xb\/sv.ownBlock=some b)\/Ra.heap.size<=b) ((kd.weaken (Y:=(·=pb)) (λi _ h=>h.elim)).trans k3 (λi _ h=>h)) (λi h=>by omega) (λi h=>h) (aR.top qn);refine⟨B3,?_⟩;push_cast -dsimp;refine cF gD rfl rfl (by omega) ?_;intro w4 aj;have B4:=B3.below aj.below B3.lt;have z4:=aj.size;have xw:=Mf.new aj;have P4:=P3.below aj.below;refine⟨B4,?_⟩;push_cast -dsimp;refine aP (base:=w.heap.size) [ub] (enc:=fU) gD xw (by rfl) (λj y hy=>by simpa[fU,bx] using aj.cell hy) nF (by rw[aR.len qn];simp only[List.length_cons,List.length_nil];omega) (by omega) ?_;intro sv5 w5 kF tM yr;have kg:Kept (λj=>sv.ownBlock=some j) w4 w5:=Kept.grown tM (λ_ h=>h);have yx:∀g,sv.ownBlock=some g->w.heap.size<=g/\g≠xb:=λg hg=>⟨(ff.block g hg).1,lx g hg⟩;have B5:=B4.kept kg (λh=>by have:=yx _ h;omega);have P5:=P4.kept kg (λi h=>by have:=yx _ h;omega);have z5:=kg.size;refine⟨B5,?_⟩;obtain⟨a5,c5,rfl⟩:=kF.slice;push_cast -dsimp;refine aC B5 (by simp) rfl ?_;intro w6 bW;have B6:aN w6 xb 158 [.int .i64 5,.pointer none,.slice a5 (vs++[ub]).length c5,.int .i64 0,.int .i64 0]:=bW.aL;have P6:=P5.kept bW.kept (λi h=>by omega);have z6:=bW.size
   have aL3:∀g,(Value.slice a5 (vs++[ub]).length c5).ownBlock=some g->g≠xb:=λg hg=>by
    rcases yr g hg with h|h
    ·exact(yx g h).2
    omega
   have tI:=kF.aH bW.kept (λg hg h=>aL3 g hg h);have k6:=(((wN.trans k3 (λi _ h=>h)).trans (Kept.new (X:=(·=pb)) aj) (λi _ h=>h)).trans kg (λi h1 h2=>by have:=yx _ h2;omega)).trans bW.kept (λi h1 h2=>by omega);have kY:Kept (λi=>i=xb\/sv.ownBlock=some i) w3 w6:=((Kept.new (X:=λi=>i=xb\/sv.ownBlock=some i) aj).trans kg (λi _ h=>.inr h)).trans bW.kept (λi _ h=>.inl h);have hX:∀i,(i<w.heap.size\/i=xb\/(Value.slice a5 (vs++[ub]).length c5).ownBlock=some i)->i<w.heap.size\/i=xb\/sv.ownBlock=some i\/w4.heap.size<=i:=λi h=>by
    rcases h with h|h|h
    ·exact .inl h
    ·exact .inr (.inl h)
    rcases yr i h with h|h
    ·exact .inr (.inr (.inl h))
    exact .inr (.inr (.inr h))
   have Sr:aR (λb=>b<w.heap.size\/b=xb\/(Value.slice a5 (vs++[ub]).length c5).ownBlock=some b) w6 (vs++[ub]) (acc++[x]):=by
    refine aR.snoc (aR.mono kY (λi h=>?_) (λi h=>?_) KW) (au.mono kY (λi h=>?_) (λi h=>?_) V3.top)
    ·rcases h with h|h
     ·exact .inl (.inr (.inl h))
     exact .inl (.inr (.inr h))
    ·rcases hX i h with h|h|h|h
     ·exact .inl (.inl h)
     ·exact .inl (.inr (.inl h))
     ·exact .inl (.inr (.inr h))
     exact .inr (by omega)
    ·rcases h with h|h
     ·exact .inl (by omega)
     exact .inl (fq i h)
    rcases hX i h with h|h|h|h
    ·exact .inl (by omega)
    ·exact .inl (by omega)
    ·exact .inl (fq i h)
    exact .inr (by omega)
   have rV:=P6.len;have fg:=pE.len;have j7:fB (iw (aZ d (ax d))) m' (acc++[x]) l2=fB (iw (aZ d (ax d))) 1000 [x0] l1':=by rw[<-dK,dW,aJ hp]
   push_cast -dsimp;exact⟨⟨m',acc++[x],l2,_,vs++[ub],j7,by omega,by rw[List.length_append,List.length_singleton];omega,B6,tI,aL3,Sr,P6,k6⟩,by rw[rV,fg];exact oX⟩
 obtain rfl:w'=Ra:=r6.symm;have l9:ry d l0=.ok (jj acc,l1):=by
  have hl:fB (iw (aZ d (ax d))) 1000 [x0] l1'=.ok (acc,l1):=by
   rw[<-dK];obtain⟨m',yD⟩:∃m',m=m'+1:=⟨m-1,by omega⟩;rw[yD,fB];unfold bE;rw[bm];rfl
  rw[jg,aJ e1,aJ hl];rfl
 have gy:=hBq;have ff:=AO;have qn:=hVq;have P2:=pE;have k2:=kq;have aPe:=aR.len qn;have aGH:=ff.slice;obtain⟨va,vc,uU⟩:=aGH;rw[uU]at gy ff qn;have d2:w'.cell? ⟨xb,2,none⟩=some (.slice va vs.length vc):=gy.cell rfl;have oY:=ff.sl;have OH:=k2.size;push_cast -dsimp[d2];refine⟨λh1=>?_,λh1=>?_⟩
 ·obtain⟨u,IB⟩:∃u,vs=[u]:=List.length_eq_one_iff.1 (by omega);obtain⟨x,hac⟩:∃x,acc=[x]:=List.length_eq_one_iff.1 (by omega);rw[IB]at oY d2 qn;rw[hac]at qn l9;simp only[aR,and_true]at qn;obtain⟨b5,o5,rfl,_,aM⟩:=oY.get (i:=0) (x:=u) rfl;have d5:w'.cell? ⟨b5,o5,none⟩=some (bx u):=by have:=aM 0 _ rfl;simpa using this
  simp only[List.length_cons,List.length_nil,Nat.zero_add]at d2;push_cast -dsimp[d2,Nat.zero_mul,Nat.add_zero,d5];refine⟨by omega,x,l1,l9,au.mono (Kept.refl (λ_=>False) _) (λ_ h=>h.elim) (λi h=>.inl h) qn,P2,k2⟩
 have cf:acc.length≠1:=by omega
 have hro:jj acc=.alt acc:=by
  unfold jj;split
  ·rename_i x;exact absurd rfl cf
  rfl
 refine⟨.alt acc,l1,by rw[<-hro];exact l9,?_,P2,k2⟩;simp only[au];exact⟨_,_,vs,rfl,by omega,gy,oY.weaken (λi h=>by omega),aR.mono (Kept.refl (λ_=>False) _) (λ_ h=>h.elim) (λi h=>.inl h) qn⟩
end Go.Proofs.YtemjejfpadnljaaGreatDoor
