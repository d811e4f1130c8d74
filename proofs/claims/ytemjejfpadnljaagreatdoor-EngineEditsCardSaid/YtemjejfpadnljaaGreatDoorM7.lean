/- Texts of this claim, merged: Rp6, Vr, Rp7, Rp8. -/
import Derived.Test.YtemjejfpadnljaaGreatDoorM6
set_option maxRecDepth 100000
set_option linter.unusedSimpArgs false
set_option linter.unusedVariables false
set_option maxHeartbeats 8000000
namespace Go.Proofs.YtemjejfpadnljaaGreatDoor
open Go.Vc Go.Proofs Go.RowKit Cae
attribute [local irreducible] cZ ab ai aX runK ar Sl Vc.Own vc aS bu aZ
theorem r5 {w:World}{b:Nat}{e:TypeId}{u:Nat}{X:Nat->Prop}(h:aM w b e [bx u])(hb:¬X b):Sl X 1 (En fm) w (.slice (some ⟨b,0,none⟩) 1 1) [u]:=by
 unfold Sl;refine⟨_,1,rfl,by simp,λi x hx=>⟨b,0,fm u,rfl,hb,rfl,λj y hy=>?_,?_⟩⟩
 ·have hi:i=0:=by
   have:=(List.getElem?_eq_some_iff.1 hx).1;simp at this;exact this
  have hj:j=0:=by
   have:=(List.getElem?_eq_some_iff.1 hy).1;simp[fm]at this;exact this
  subst hi hj;simp[fm]at hy;subst hy;exact h.cell rfl
 have hi:i=0:=by
  have:=(List.getElem?_eq_some_iff.1 hx).1;simp at this;exact this
 subst hi;simp at hx;subst hx;rfl
theorem ln {d m c:Nat}{x:aG}{l:List Tok}{e:Nat×Nat}(hm:l.length<m)(h:eJ l=.error e):bX d m c x l=.error e:=by
 obtain⟨m',rfl⟩:∃m',m=m'+1:=⟨m-1,by omega⟩;rw[bX];unfold Cae.pb;rw[h]
theorem Hh (d:Nat)(hu:Nd d):UB d:=by
 intro n wI hn pb B w l0 h0;have hle:=h0.le;have ao:=h0.lt;refine bI Tryz.func134 rfl (by kernel_rfl) [.tmp 4] rfl ?_;push_cast -dsimp(maxSteps:=9^7) [Tryz.ntmps134];refine aF (hu n wI hn pb B w l0 h0) ?_ ?_
 ·rintro v1 w1 ⟨x0,l1,e1,V1,P1,OK⟩;have MT:aY d (aw d) l0=bX d 1000 0 x0 l1:=by
   unfold aY;rw[aI e1]
  push_cast -dsimp;refine aK [4,5,6,7,12,13,14,15,16,17,18,19,20,21,22,23,24,25,26,27,28,29,30,31,32,33,34,35,36,37,38,39,40,41,42,43,44,45,46,47,48,49,50,51,52,53,54,55,56,57,58,59,60,61,62,63,64,65,66,67,68,69,70,71,72,73,74,75,76,77,78,79,80,81,82,83] (λz w'=>∃(m c:Nat) (x:aG) (l1:List Tok) (i:Int),bX d m c x l1=aY d (aw d) l0/\l1.length<m/\(z 6=.int .i64 i/\i=n+(c:Int)/\i<=9)/\bE (·<w.heap.size) w' (z 5) x/\PS pb B w' l1/\Kept (·=pb) w w') (λz w'=>xa w' pb) ?_ ?_
  ·have ao:l1.length<1000:=by have:=P1.tl.len;omega
   exact⟨1000,0,x0,l1,n,MT.symm,ao,⟨rfl,by omega,by omega⟩,V1,P1,OK⟩
  rintro z w' ⟨m,c,x,l1,i,eE,hm,⟨OW,hi,hi9⟩,V1,oG,Dj⟩;obtain⟨kb,Hc,Di,hkX⟩:=V1.ptr;rw[Hc]at V1;obtain⟨t1,r1,mg⟩:=oG.tl.cons;have hzw:=Dj.size;push_cast -dsimp[Hc];refine cH fc rfl rfl (by omega) ?_;intro w2 bJ;have BX0:aM w2 w'.heap.size 82 [.pointer (some ⟨kb,0,none⟩)]:=bJ.aL;have P2:=oG.below bJ.below;have z2:=bJ.size;have k2:=Dj.trans (Kept.new (X:=(·=pb)) bJ) (λi _ h=>h);push_cast -dsimp;refine aR ?_;intro w3 cN;have BY0:aM w3 (w'.heap.size+1) 158 [.int .i64 6,.pointer none,.slice (some ⟨w'.heap.size,0,none⟩) 1 1,.int .i64 0,.int .i64 (-1)]:=by
   have:=cN.aL;rw[z2]at this;exact this
  have BX3:=BX0.below cN.below (by omega);have P3:=P2.below cN.below;have z3:=cN.size;have k3:=k2.trans (Kept.new (X:=(·=pb)) cN) (λi _ h=>h);have V3:bE (λb=>b<w.heap.size\/w'.heap.size<=b) w3 (.pointer (some ⟨kb,0,none⟩)) x:=(V1.top.below bJ.below).below cN.below;push_cast -dsimp[z2];refine aA (gF [42] P3) ?_;rintro _ w4 hT;rcases hT with ⟨fx,rfl,t4,l2,QS,yM,P4,kt,MX⟩|⟨fx,rfl,q9⟩
  ·have kV:cL l1=.ok ((),l2):=by rw[QS];exact dW yM
   have oy:l1.length=l2.length+1:=by rw[QS,List.length_cons]
   have wL:eJ l1=.ok (some (0,-1),l2):=by
    unfold eJ ay;rw[fx,if_pos rfl,aI kV];rfl
   have BY:=BY0.kept kt (by omega);have BX:=BX3.kept kt (by omega);have kS:=k3.trans kt (λi _ h=>h);have VX:=V3.mono (X':=(·<w.heap.size)) kt (λi h=>by omega) (λi h=>.inl h);push_cast -dsimp[OW];have sJ:∃m',m=m'+1:=⟨m-1,by omega⟩;obtain⟨m',wH⟩:=sJ;have Ij:aY d (aw d) l0=if d<=c+1 then dt 4 l2 else bX d m' (c+1) (.many x 0 (-1)) l2:=by
    rw[<-eE,wH,bX,aI wL];dsimp only;split<;>rfl
   refine⟨⟨by omega,by omega⟩,?_⟩;refine aF (mJ (i+1) P4) ?_ ?_
   ·rintro _ w0 ⟨h8,rfl,uZ⟩;obtain rfl:w4=w0:=uZ.symm;have kG:=PS.len P4;have fM:=oG.len;have hzS:=kS.size;push_cast -dsimp[Hc];refine⟨⟨m',c+1,.many x 0 (-1),l2,i+1,?_,by omega,⟨rfl,by omega,by omega⟩,?_,P4,kS⟩,by rw[kG,fM];omega⟩
    ·rw[Ij,if_neg (by omega)]
    simp only[bE];exact⟨_,_,_,rfl,by omega,BY,r5 BX (by omega),VX⟩
   rintro ce w0 ⟨h8,ht,hb⟩;push_cast -dsimp;refine⟨4,_,?_,ht.mono (by have:=kS.size;omega),kS.trans (Kept.aN hb (X:=(·=pb)) (λi h1 h2=>by omega)) (λi _ h=>h)⟩;rw[Ij,if_pos (by omega)];rfl
  obtain rfl:w3=w4:=q9.symm;push_cast -dsimp;refine aA (gF [43] P3) ?_;rintro _ w4 hT;rcases hT with ⟨gZ,rfl,t4,l2,QS,yM,P4,kt,MX⟩|⟨gZ,rfl,q9⟩
  ·have kV:cL l1=.ok ((),l2):=by rw[QS];exact dW yM
   have oy:l1.length=l2.length+1:=by rw[QS,List.length_cons]
   have wL:eJ l1=.ok (some (1,-1),l2):=by
    unfold eJ ay;rw[fx,gZ,if_neg (by decide),if_pos rfl,aI kV];rfl
   have BY4:=BY0.kept kt (by omega);have BX4:=BX3.kept kt (by omega);have k4:=k3.trans kt (λi _ h=>h);have V4:=V3.mono (X':=λb=>b<w.heap.size\/w'.heap.size<=b) kt (λi h=>by omega) (λi h=>h);push_cast -dsimp;refine aC BY4 (by simp) rfl ?_;intro w5 cI;have BY:aM w5 (w'.heap.size+1) 158 [.int .i64 6,.pointer none,.slice (some ⟨w'.heap.size,0,none⟩) 1 1,.int .i64 1,.int .i64 (-1)]:=cI.aL;have BX:=BX4.kept cI.kept (by omega);have P5:=P4.kept cI.kept (λi h=>by omega);have kS:=k4.trans cI.kept (λi h1 h2=>by omega);have VX:=V4.mono (X':=(·<w.heap.size)) cI.kept (λi h=>by omega) (λi h=>.inl h);push_cast -dsimp[OW];have sJ:∃m',m=m'+1:=⟨m-1,by omega⟩;obtain⟨m',wH⟩:=sJ;have Ij:aY d (aw d) l0=if d<=c+1 then dt 4 l2 else bX d m' (c+1) (.many x 1 (-1)) l2:=by
    rw[<-eE,wH,bX,aI wL];dsimp only;split<;>rfl
   refine⟨⟨by omega,by omega⟩,?_⟩;refine aF (mJ (i+1) P5) ?_ ?_
   ·rintro _ w0 ⟨h8,rfl,uZ⟩;obtain rfl:w5=w0:=uZ.symm;have kG:=PS.len P5;have fM:=oG.len;have hzS:=kS.size;push_cast -dsimp[Hc];refine⟨⟨m',c+1,.many x 1 (-1),l2,i+1,?_,by omega,⟨rfl,by omega,by omega⟩,?_,P5,kS⟩,by rw[kG,fM];omega⟩
    ·rw[Ij,if_neg (by omega)]
    simp only[bE];exact⟨_,_,_,rfl,by omega,BY,r5 BX (by omega),VX⟩
   rintro ce w0 ⟨h8,ht,hb⟩;push_cast -dsimp;refine⟨4,_,?_,ht.mono (by have:=kS.size;omega),kS.trans (Kept.aN hb (X:=(·=pb)) (λi h1 h2=>by omega)) (λi _ h=>h)⟩;rw[Ij,if_pos (by omega)];rfl
  obtain rfl:w3=w4:=q9.symm;push_cast -dsimp;refine aA (gF [63] P3) ?_;rintro _ w4 hT;rcases hT with ⟨lW,rfl,t4,l2,QS,yM,P4,kt,MX⟩|⟨lW,rfl,q9⟩
  ·have kV:cL l1=.ok ((),l2):=by rw[QS];exact dW yM
   have oy:l1.length=l2.length+1:=by rw[QS,List.length_cons]
   have wL:eJ l1=.ok (some (0,1),l2):=by
    unfold eJ ay;rw[fx,gZ,lW,if_neg (by decide),if_neg (by decide),if_pos rfl,aI kV];rfl
   have BY4:=BY0.kept kt (by omega);have BX4:=BX3.kept kt (by omega);have k4:=k3.trans kt (λi _ h=>h);have V4:=V3.mono (X':=λb=>b<w.heap.size\/w'.heap.size<=b) kt (λi h=>by omega) (λi h=>h);push_cast -dsimp;refine aC BY4 (by simp) rfl ?_;intro w5 cI;have BY:aM w5 (w'.heap.size+1) 158 [.int .i64 6,.pointer none,.slice (some ⟨w'.heap.size,0,none⟩) 1 1,.int .i64 0,.int .i64 1]:=cI.aL;have BX:=BX4.kept cI.kept (by omega);have P5:=P4.kept cI.kept (λi h=>by omega);have kS:=k4.trans cI.kept (λi h1 h2=>by omega);have VX:=V4.mono (X':=(·<w.heap.size)) cI.kept (λi h=>by omega) (λi h=>.inl h);push_cast -dsimp[OW];have sJ:∃m',m=m'+1:=⟨m-1,by omega⟩;obtain⟨m',wH⟩:=sJ;have Ij:aY d (aw d) l0=if d<=c+1 then dt 4 l2 else bX d m' (c+1) (.many x 0 1) l2:=by
    rw[<-eE,wH,bX,aI wL];dsimp only;split<;>rfl
   refine⟨⟨by omega,by omega⟩,?_⟩;refine aF (mJ (i+1) P5) ?_ ?_
   ·rintro _ w0 ⟨h8,rfl,uZ⟩;obtain rfl:w5=w0:=uZ.symm;have kG:=PS.len P5;have fM:=oG.len;have hzS:=kS.size;push_cast -dsimp[Hc];refine⟨⟨m',c+1,.many x 0 1,l2,i+1,?_,by omega,⟨rfl,by omega,by omega⟩,?_,P5,kS⟩,by rw[kG,fM];omega⟩
    ·rw[Ij,if_neg (by omega)]
    simp only[bE];exact⟨_,_,_,rfl,by omega,BY,r5 BX (by omega),VX⟩
   rintro ce w0 ⟨h8,ht,hb⟩;push_cast -dsimp;refine⟨4,_,?_,ht.mono (by have:=kS.size;omega),kS.trans (Kept.aN hb (X:=(·=pb)) (λi h1 h2=>by omega)) (λi _ h=>h)⟩;rw[Ij,if_pos (by omega)];rfl
  obtain rfl:w3=w4:=q9.symm;push_cast -dsimp;refine aA (gF [123] P3) ?_;rintro _ w4 hT;rcases hT with ⟨hs4,rfl,t4,l2,QS,yM,P4,kt,MX⟩|⟨hs4,rfl,q9⟩
  ·have kV:cL l1=.ok ((),l2):=by rw[QS];exact dW yM
   have oy:l1.length=l2.length+1:=by rw[QS,List.length_cons]
   have oI:eJ l1=Cae.pb dA (λr=>pr (some r)) l2:=by
    unfold eJ ay;rw[fx,gZ,lW,hs4,if_neg (by decide),if_neg (by decide),if_neg (by decide),if_pos rfl,aI kV]
   have BY4:=BY0.kept kt (by omega);have BX4:=BX3.kept kt (by omega);have k4:=k3.trans kt (λi _ h=>h);have V4:=V3.mono (X':=λb=>b<w.heap.size\/w'.heap.size<=b) kt (λi h=>by omega) (λi h=>h);push_cast -dsimp;refine aF (PR P4) ?_ ?_
   ·rintro _ w5 ⟨n1,l3,e3,⟨rfl,hn1⟩,P5,kt5⟩;have BY5:=BY4.kept kt5 (by omega);have BX5:=BX4.kept kt5 (by omega);have k5:=k4.trans kt5 (λi _ h=>h);have V5:=V4.mono (X':=λb=>b<w.heap.size\/w'.heap.size<=b) kt5 (λi h=>by omega) (λi h=>h);push_cast -dsimp;refine aC BY5 (by simp) rfl ?_;intro w6 bQ;have BY6:aM w6 (w'.heap.size+1) 158 [.int .i64 6,.pointer none,.slice (some ⟨w'.heap.size,0,none⟩) 1 1,.int .i64 n1,.int .i64 (-1)]:=bQ.aL;have cy6:w6.cell? ⟨w'.heap.size+1,3,none⟩=some (.int .i64 n1):=BY6.cell rfl;push_cast -dsimp[cy6];refine aC BY6 (by simp) rfl ?_;intro w7 fB;have BY7:aM w7 (w'.heap.size+1) 158 [.int .i64 6,.pointer none,.slice (some ⟨w'.heap.size,0,none⟩) 1 1,.int .i64 n1,.int .i64 n1]:=fB.aL;have k57:Kept (·=w'.heap.size+1) w5 w7:=bQ.kept.trans fB.kept (λi _ h=>h);have BX7:=BX5.kept k57 (by omega);have P7:=P5.kept k57 (λi h=>by omega);have k7:=k5.trans k57 (λi h1 h2=>by omega);have V7:=V5.mono (X':=λb=>b<w.heap.size\/w'.heap.size<=b) k57 (λi h=>by omega) (λi h=>h);push_cast -dsimp;refine aA (gF [44] P7) ?_;rintro _ w8 hT;rcases hT with ⟨hs5,rfl,t8,l4,el8,h58,P8,kt8,hz8⟩|⟨hs5,rfl,q9⟩
    ·have aKd:cL l3=.ok ((),l4):=by rw[el8];exact dW h58
     have BY8:=BY7.kept kt8 (by omega);have BX8:=BX7.kept kt8 (by omega);have k8:=k7.trans kt8 (λi _ h=>h);have V8:=V7.mono (X':=λb=>b<w.heap.size\/w'.heap.size<=b) kt8 (λi h=>by omega) (λi h=>h);have aJj:dA l2=ay (isKind 2) (Cae.pb j5 λhi=>if hi<n1 then dt 2 else Cae.pb (cg [125]) λ_=>pr ((n1:Int),(hi:Int))) (Cae.pb (cg [125]) λ_=>pr ((n1:Int),-1)) l4:=by
      unfold dA;rw[aI e3]
      show (if dT [44] l3 then _ else _)=_
      rw[hs5,if_pos rfl,aI aKd]
     push_cast -dsimp;refine aC BY8 (by simp) rfl ?_;intro w9 DH;have BY9:aM w9 (w'.heap.size+1) 158 [.int .i64 6,.pointer none,.slice (some ⟨w'.heap.size,0,none⟩) 1 1,.int .i64 n1,.int .i64 (-1)]:=DH.aL;have BX9:=BX8.kept DH.kept (by omega);have P9:=P8.kept DH.kept (λi h=>by omega);have k9:=k8.trans DH.kept (λi h1 h2=>by omega);have V9:=V8.mono (X':=λb=>b<w.heap.size\/w'.heap.size<=b) DH.kept (λi h=>by omega) (λi h=>h);obtain⟨t9,r9,el9⟩:=P9.tl.cons;have P9':=P9;rw[el9]at P9';obtain⟨b9,o9,c9,CJ,hc9,aUu,c90,_,_,_⟩:=P9'.hd;have cb9:w9.cell? ⟨pb,0,none⟩=some (.slice (some ⟨b9,o9,none⟩) (r9.length+1) c9):=CJ.cell rfl;push_cast -dsimp[cb9,c90];refine⟨by omega,λlV=>?_,λlV=>?_⟩
     ·have Wo:isKind 2 l4=true:=by
       have:t9.kind=2:=by omega
       rw[el9];simp[isKind,Cae.hd,this]
      have GQ:dA l2=Cae.pb j5 (λhi=>if hi<n1 then dt 2 else Cae.pb (cg [125]) λ_=>pr ((n1:Int),(hi:Int))) l4:=by
       rw[aJj];unfold ay;rw[Wo,if_pos rfl]
      refine aF (PR P9) ?_ ?_
      ·rintro _ wa ⟨n2,l5,e5,⟨rfl,Z6⟩,Pa,uh⟩;have BYa:=BY9.kept uh (by omega);have BXa:=BX9.kept uh (by omega);have ka:=k9.trans uh (λi _ h=>h);have Va:=V9.mono (X':=λb=>b<w.heap.size\/w'.heap.size<=b) uh (λi h=>by omega) (λi h=>h);push_cast -dsimp;refine aC BYa (by simp) rfl ?_;intro wb dH;have BYb:aM wb (w'.heap.size+1) 158 [.int .i64 6,.pointer none,.slice (some ⟨w'.heap.size,0,none⟩) 1 1,.int .i64 n1,.int .i64 n2]:=dH.aL;have BXb:=BXa.kept dH.kept (by omega);have Pb:=Pa.kept dH.kept (λi h=>by omega);have kb':=ka.trans dH.kept (λi h1 h2=>by omega);have VB':=Va.mono (X':=λb=>b<w.heap.size\/w'.heap.size<=b) dH.kept (λi h=>by omega) (λi h=>h);push_cast -dsimp;refine b8 (λw'=>w'=wb.drew) mixed (by kernel_rfl) rfl ?_;have d3:wb.drew.cell? ⟨w'.heap.size+1,3,none⟩=some (.int .i64 n1):=BYb.drew.cell rfl;have d4:wb.drew.cell? ⟨w'.heap.size+1,4,none⟩=some (.int .i64 n2):=BYb.drew.cell rfl;have kd:Kept (λ_=>False) wb wb.drew:=(Kept.refl _ _).drew;have BYd:=BYb.kept kd (λh=>h);have BXd:=BXb.kept kd (λh=>h);have Pd:=Pb.kept kd (λi h=>h.elim);have ug:=kb'.trans kd (λi h1 h2=>h2.elim);have VB:=VB'.mono (X':=λb=>b<w.heap.size\/w'.heap.size<=b) kd (λi h=>h.elim) (λi h=>h);push_cast -dsimp[d3,d4];refine⟨λbB h=>by rw[h,d4];exact rfl,λbB h=>by rw[h,d3];exact rfl,λJG=>?_,λMM=>?_⟩
       ·refine aF (jS 2 Pd) (λ_ _ h=>h.elim) ?_;rintro ce we ⟨ht,hb⟩;push_cast -dsimp;have Ku:dA l2=.error (2,(Cae.hd l5).pos):=by
         rw[GQ,aI e5,if_pos (by omega)];rfl
        refine⟨2,_,?_,ht.mono (by have:=ug.size;omega),ug.trans (Kept.aN hb (X:=(·=pb)) (λi h1 h2=>by omega)) (λi _ h=>h)⟩;rw[<-eE];refine ln hm ?_;rw[oI];unfold Cae.pb;rw[Ku]
       have aJk:dA l2=Cae.pb (cg [125]) (λ_=>pr ((n1:Int),(n2:Int))) l5:=by
        rw[GQ,aI e5,if_neg (by omega)]
       refine aF (fY [125] Pd) ?_ ?_
       ·rintro _ wm ⟨_,lm,em,rfl,Pm,km⟩;have Ku:dA l2=.ok (((n1:Int),(n2:Int)),lm):=by rw[aJk,aI em];rfl
        have wL:eJ l1=.ok (some ((n1:Int),(n2:Int)),lm):=by rw[oI,aI Ku];rfl
        have hlm:lm.length<=l2.length:=by
         obtain⟨pre,_,e,_⟩:=rR _ _ _ Ku;rw[e,List.length_append];omega
        have BY:=BYd.kept km (by omega);have BX:=BXd.kept km (by omega);have kS:=ug.trans km (λi _ h=>h);have VX:=VB.mono (X':=(·<w.heap.size)) km (λi h=>by omega) (λi h=>.inl h);push_cast -dsimp[OW];have sJ:∃m',m=m'+1:=⟨m-1,by omega⟩;obtain⟨m',wH⟩:=sJ;have Ij:aY d (aw d) l0=if d<=c+1 then dt 4 lm else bX d m' (c+1) (.many x (n1:Int) (n2:Int)) lm:=by
         rw[<-eE,wH,bX,aI wL];dsimp only;split<;>rfl
        refine⟨⟨by omega,by omega⟩,?_⟩;refine aF (mJ (i+1) Pm) ?_ ?_
        ·rintro _ w0 ⟨h8,rfl,uZ⟩;obtain rfl:wm=w0:=uZ.symm;have kG:=PS.len Pm;have fM:=oG.len;have hzS:=kS.size;push_cast -dsimp[Hc];refine⟨⟨m',c+1,.many x (n1:Int) (n2:Int),lm,i+1,?_,by omega,⟨rfl,by omega,by omega⟩,?_,Pm,kS⟩,by rw[kG,fM];omega⟩
         ·rw[Ij,if_neg (by omega)]
         simp only[bE];exact⟨_,_,_,rfl,by omega,BY,r5 BX (by omega),VX⟩
        rintro ce w0 ⟨h8,ht,hb⟩;push_cast -dsimp;refine⟨4,_,?_,ht.mono (by have:=kS.size;omega),kS.trans (Kept.aN hb (X:=(·=pb)) (λi h1 h2=>by omega)) (λi _ h=>h)⟩;rw[Ij,if_pos (by omega)];rfl
       rintro ce we ⟨e,pos,he,ht,eR⟩;push_cast -dsimp;refine⟨e,pos,?_,ht.mono (by have:=ug.size;omega),ug.trans eR (λi _ h=>h)⟩;rw[<-eE];refine ln hm ?_;have Ku:dA l2=.error (e,pos):=by rw[aJk];unfold Cae.pb;rw[he]
       rw[oI];unfold Cae.pb;rw[Ku]
      ·
       rintro ce we ⟨e,pos,he,ht,eR⟩
       push_cast -dsimp
       refine⟨e,pos,?_,ht.mono (by have:=k9.size;omega),k9.trans eR (λi _ h=>h)⟩
       rw[<-eE]
       refine ln hm ?_
       rw[oI]
       unfold Cae.pb
       rw[show dA l2=.error (e,pos) by rw[GQ];unfold Cae.pb;rw[he]]
     have Wo:isKind 2 l4=false:=by
      have:t9.kind≠2:=λe=>lV (by omega);rw[el9];simp[isKind,Cae.hd,this]
     have GQ:dA l2=Cae.pb (cg [125]) (λ_=>pr ((n1:Int),-1)) l4:=by
      rw[aJj];unfold ay;rw[Wo,if_neg (by decide)]
     have VB:=V9;refine aF (fY [125] P9) ?_ ?_
     ·rintro _ wm ⟨_,lm,em,rfl,Pm,km⟩;have Ku:dA l2=.ok (((n1:Int),(-1)),lm):=by rw[GQ,aI em];rfl
      have wL:eJ l1=.ok (some ((n1:Int),(-1)),lm):=by rw[oI,aI Ku];rfl
      have hlm:lm.length<=l2.length:=by
       obtain⟨pre,_,e,_⟩:=rR _ _ _ Ku;rw[e,List.length_append];omega
      have BY:=BY9.kept km (by omega);have BX:=BX9.kept km (by omega);have kS:=k9.trans km (λi _ h=>h);have VX:=VB.mono (X':=(·<w.heap.size)) km (λi h=>by omega) (λi h=>.inl h);push_cast -dsimp[OW];have sJ:∃m',m=m'+1:=⟨m-1,by omega⟩;obtain⟨m',wH⟩:=sJ;have Ij:aY d (aw d) l0=if d<=c+1 then dt 4 lm else bX d m' (c+1) (.many x (n1:Int) (-1)) lm:=by
       rw[<-eE,wH,bX,aI wL];dsimp only;split<;>rfl
      refine⟨⟨by omega,by omega⟩,?_⟩;refine aF (mJ (i+1) Pm) ?_ ?_
      ·rintro _ w0 ⟨h8,rfl,uZ⟩;obtain rfl:wm=w0:=uZ.symm;have kG:=PS.len Pm;have fM:=oG.len;have hzS:=kS.size;push_cast -dsimp[Hc];refine⟨⟨m',c+1,.many x (n1:Int) (-1),lm,i+1,?_,by omega,⟨rfl,by omega,by omega⟩,?_,Pm,kS⟩,by rw[kG,fM];omega⟩
       ·rw[Ij,if_neg (by omega)]
       simp only[bE];exact⟨_,_,_,rfl,by omega,BY,r5 BX (by omega),VX⟩
      rintro ce w0 ⟨h8,ht,hb⟩;push_cast -dsimp;refine⟨4,_,?_,ht.mono (by have:=kS.size;omega),kS.trans (Kept.aN hb (X:=(·=pb)) (λi h1 h2=>by omega)) (λi _ h=>h)⟩;rw[Ij,if_pos (by omega)];rfl
     rintro ce we ⟨e,pos,he,ht,eR⟩;push_cast -dsimp;refine⟨e,pos,?_,ht.mono (by have:=k9.size;omega),k9.trans eR (λi _ h=>h)⟩;rw[<-eE];refine ln hm ?_;have Ku:dA l2=.error (e,pos):=by rw[GQ];unfold Cae.pb;rw[he]
     rw[oI];unfold Cae.pb;rw[Ku]
    obtain rfl:w7=w8:=q9.symm;have GQ:dA l2=Cae.pb (cg [125]) (λ_=>pr ((n1:Int),(n1:Int))) l3:=by
     unfold dA;rw[aI e3]
     show (if dT [44] l3 then _ else _)=_
     rw[hs5,if_neg (by decide)]
    have VB:=V7;push_cast -dsimp;refine aF (fY [125] P7) ?_ ?_
    ·rintro _ wm ⟨_,lm,em,rfl,Pm,km⟩;have Ku:dA l2=.ok (((n1:Int),(n1:Int)),lm):=by rw[GQ,aI em];rfl
     have wL:eJ l1=.ok (some ((n1:Int),(n1:Int)),lm):=by rw[oI,aI Ku];rfl
     have hlm:lm.length<=l2.length:=by
      obtain⟨pre,_,e,_⟩:=rR _ _ _ Ku;rw[e,List.length_append];omega
     have BY:=BY7.kept km (by omega);have BX:=BX7.kept km (by omega);have kS:=k7.trans km (λi _ h=>h);have VX:=VB.mono (X':=(·<w.heap.size)) km (λi h=>by omega) (λi h=>.inl h);push_cast -dsimp[OW];have sJ:∃m',m=m'+1:=⟨m-1,by omega⟩;obtain⟨m',wH⟩:=sJ;have Ij:aY d (aw d) l0=if d<=c+1 then dt 4 lm else bX d m' (c+1) (.many x (n1:Int) (n1:Int)) lm:=by
      rw[<-eE,wH,bX,aI wL];dsimp only;split<;>rfl
     refine⟨⟨by omega,by omega⟩,?_⟩;refine aF (mJ (i+1) Pm) ?_ ?_
     ·rintro _ w0 ⟨h8,rfl,uZ⟩;obtain rfl:wm=w0:=uZ.symm;have kG:=PS.len Pm;have fM:=oG.len;have hzS:=kS.size;push_cast -dsimp[Hc];refine⟨⟨m',c+1,.many x (n1:Int) (n1:Int),lm,i+1,?_,by omega,⟨rfl,by omega,by omega⟩,?_,Pm,kS⟩,by rw[kG,fM];omega⟩
      ·rw[Ij,if_neg (by omega)]
      simp only[bE];exact⟨_,_,_,rfl,by omega,BY,r5 BX (by omega),VX⟩
     rintro ce w0 ⟨h8,ht,hb⟩;push_cast -dsimp;refine⟨4,_,?_,ht.mono (by have:=kS.size;omega),kS.trans (Kept.aN hb (X:=(·=pb)) (λi h1 h2=>by omega)) (λi _ h=>h)⟩;rw[Ij,if_pos (by omega)];rfl
    rintro ce we ⟨e,pos,he,ht,eR⟩;push_cast -dsimp;refine⟨e,pos,?_,ht.mono (by have:=k7.size;omega),k7.trans eR (λi _ h=>h)⟩;rw[<-eE];refine ln hm ?_;have Ku:dA l2=.error (e,pos):=by rw[GQ];unfold Cae.pb;rw[he]
    rw[oI];unfold Cae.pb;rw[Ku]
   ·
    rintro ce we ⟨e,pos,he,ht,eR⟩
    push_cast -dsimp
    refine⟨e,pos,?_,ht.mono (by have:=k4.size;omega),k4.trans eR (λi _ h=>h)⟩
    rw[<-eE]
    refine ln hm ?_
    rw[oI]
    unfold Cae.pb
    rw[show dA l2=.error (e,pos) by unfold dA Cae.pb;rw[he]]
  obtain rfl:w3=w4:=q9.symm;have wL:eJ l1=.ok (none,l1):=by
   unfold eJ ay;rw[fx,gZ,lW,hs4,if_neg (by decide),if_neg (by decide),if_neg (by decide),if_neg (by decide)];rfl
  push_cast -dsimp[Hc];refine⟨x,l1,?_,V3.mono (X':=(·<w.heap.size)) (Kept.refl (λ_=>False) _) (λ_ h=>h.elim) (λi h=>.inl h),P3,k3⟩;rw[<-eE];obtain⟨m',rfl⟩:∃m',m=m'+1:=⟨m-1,by omega⟩;rw[bX,aI wL];rfl
 rintro c w3 ⟨e,pos,he,ht,DD⟩;push_cast -dsimp;refine⟨e,pos,?_,ht,DD⟩;unfold aY Cae.pb;rw[he]
def Sh {α:Type}(p:Pa α):Prop:=∀l x l',p l=.ok (x,l')->l'.length<l.length
def Le {α:Type}(p:Pa α):Prop:=∀l x l',p l=.ok (x,l')->l'.length<=l.length
theorem Lo.le {α:Type}{R:α->α->Prop}{p:Pa α}(h:Lo R p p):Le p:=λl x l' e=>by
 obtain⟨pre,_,e,_⟩:=h l x l' e;rw[e,List.length_append];omega
theorem gR.sh {α:Type}{R:α->α->Prop}{p:Pa α}(h:gR R p p):Sh p:=λl x l' e=>by
 obtain⟨pre,cY,_,e,_⟩:=h l x l' e
 have:=List.length_pos_iff.2 cY;rw[e,List.length_append];omega
theorem Sh.le {α:Type}{p:Pa α}(h:Sh p):Le p:=λl x l' e=>Nat.le_of_lt (h l x l' e)
theorem Sh.pb {α β:Type}{p:Pa α}{q:α->Pa β}(h:Sh p)(k:∀x,Le (q x)):Sh (Cae.pb p q):=λl y l' e=>by
 obtain⟨x,l1,e1,e2⟩:=dr e;exact Nat.lt_of_le_of_lt (k x _ _ _ e2) (h _ _ _ e1)
theorem Sh.pbr {α β:Type}{p:Pa α}{q:α->Pa β}(h:Le p)(k:∀x,Sh (q x)):Sh (Cae.pb p q):=λl y l' e=>by
 obtain⟨x,l1,e1,e2⟩:=dr e;exact Nat.lt_of_lt_of_le (k x _ _ _ e2) (h _ _ _ e1)
theorem Le.pb {α β:Type}{p:Pa α}{q:α->Pa β}(h:Le p)(k:∀x,Le (q x)):Le (Cae.pb p q):=λl y l' e=>by
 obtain⟨x,l1,e1,e2⟩:=dr e;exact Nat.le_trans (k x _ _ _ e2) (h _ _ _ e1)
theorem Le.pr {α:Type}{x:α}:Le (pr x):=λl y l' e=>by cases e;exact Nat.le_refl _
theorem Sh.ay {α:Type}{c:List Tok->Bool}{p q:Pa α}(h:Sh p)(k:Sh q):Sh (Cae.ay c p q):=λl x l' e=>by
 unfold Cae.ay at e;split at e
 ·exact h _ _ _ e
 exact k _ _ _ e
theorem Sh.fail {α:Type}{n:Nat}:Sh (dt n:Pa α):=λl x l' e=>by cases e
theorem G7:Le dY:=Lo.le Lo.dY
theorem Bj:Sh cL:=gR.sh fq
theorem aGK:∀d,Sh (kZ d)
 | 0=>Sh.fail
 | d+1=>Sh.ay (gR.sh X3) (Sh.ay (Sh.pbr G7 λ_=>Sh.pb Bj λ_=>Le.pb (Lo.le (pI d)) λ_=>Le.pr)
   (Sh.ay (Sh.pb Bj λ_=>Le.pb (Lo.le (Aj (pI d))) λ_=>Le.pb (gR.sh (gx _)).le λ_=>Le.pr)
    (Sh.pbr G7 λ_=>Sh.pb (gR.sh Ga) λ_=>Le.pr)))
theorem aCu:∀d,Sh (aw d)
 | 0=>Sh.fail
 | d+1=>Sh.ay (Sh.pb Bj λ_=>Le.pr) (Sh.ay (Sh.pb Bj λ_=>Le.pr) (Sh.ay (Sh.pb Bj λ_=>Le.pb (Lo.le (Gb (ym d))) λ_=>Le.pb (gR.sh (gx _)).le λ_=>Le.pr)
   (Sh.ay (Sh.pb (aGK (d+1)) λ_=>Le.pr) Sh.fail)))
theorem TY {d:Nat}{l l':List Tok}{x:aG}(h:aw d l=.ok (x,l')):l'.length<l.length:=aCu d _ _ _ h
theorem mE {d:Nat}{l l':List Tok}{x:aG}(h:aY d (aw d) l=.ok (x,l')):l'.length<l.length:=by
 obtain⟨y,l1,h1,h2⟩:=dr h;have a:=TY h1;obtain⟨pre,_,e,_⟩:=pH d _ _ _ _ (show PE y y from λ_=>rfl) _ _ _ h2
 have:l1.length=pre.length+l'.length:=by rw[e,List.length_append]
 omega
theorem Ye (d:Nat)(ha:UB d):aHY d:=by
 intro n wI hn pb B w l0 h0;have hle:=h0.le;have ao:=h0.lt;refine bI Tryz.func109 rfl (by kernel_rfl) [.tmp 4] rfl ?_;push_cast -dsimp(maxSteps:=9^7) [Tryz.ntmps109];push_cast -dsimp;refine aR ?_;intro w1 aU;have B1:aM w1 w.heap.size 158 [.int .i64 4,.pointer none,.slice none 0 0,.int .i64 0,.int .i64 0]:=aU.aL;have P1:=h0.below aU.below;have z1:=aU.size;have k1:Kept (·=pb) w w1:=Kept.new aU;push_cast -dsimp;refine aK [8,9,10,11,12,13,14,15,16,17,18,19,20,21,22,23,24,25,26,27,28,29,30,31,32,33,34,35,36,37,38,39,40,41,42,43] (λz w'=>∃(m:Nat) (acc:List aG) (l1:List Tok) (sv:Value) (vs:List Nat),bF (aY d (aw d)) m acc l1=bF (aY d (aw d)) 1000 [] l0/\l1.length<m/\acc.length+m<=1000 /\
   aM w' w.heap.size 158 [.int .i64 4,.pointer none,sv,.int .i64 0,.int .i64 0]/\Go.Vc.Own (w.heap.size+1) 82 1 fm w' sv vs/\aQ (λb=>b<w.heap.size\/b=w.heap.size\/sv.ownBlock=some b) w' vs acc/\PS pb B w' l1/\Kept (·=pb) w w') (λz w'=>xa w' pb) ?_ ?_
 ·have ao:l0.length<1000:=by have:=h0.tl.len;omega
  exact⟨1000,[],l0,_,[],rfl,ao,by simp,B1,Vc.Own.nil (enc:=fm) _ _ (λ_=>rfl) _,by simp only[aQ],P1,k1⟩
 rintro z w' ⟨m,acc,l1,sv,vs,eE,hm,Ii,hB,hO,hV,oG,Dj⟩;obtain⟨t1,r1,mg⟩:=oG.tl.cons;have aIR:=oG;rw[mg]at aIR;obtain⟨b,o,c,hBp,hc,cY,c0,c1,c2,c3⟩:=aIR.hd;have cb:w'.cell? ⟨pb,0,none⟩=some (.slice (some ⟨b,o,none⟩) (r1.length+1) c):=hBp.cell rfl;have hzw:=Dj.size;have fp:kj l1=(t1.kind == 3 || jZ l1 || dT [46] l1 || dT [36] l1 || dT [40] l1):=by unfold kj isKind;rw[mg];rfl
 push_cast -dsimp[cb,c0];refine⟨by omega,λh3=>?_,λh3=>?_⟩
 ·have DD:(t1.kind == 3)=false:=by
   have:t1.kind≠3:=λe=>h3 (by omega);simpa using this
  rw[DD,Bool.false_or]at fp;refine aA (Gj oG) ?_;rintro _ w2 ⟨rfl,b2⟩;have P2:=oG.below b2;have fL:=hB.below b2 hB.lt;have jT:=hO.below b2;have pw:=aQ.mono (X':=λb=>b<w.heap.size\/b=w.heap.size\/sv.ownBlock=some b) (Kept.aN b2 (X:=λ_=>False) (λi h1 h2=>by omega)) (λ_ h=>h.elim) (λ_ h=>h) hV;have k2:=Dj.trans (Kept.aN b2 (X:=(·=pb)) (λi h1 h2=>by omega)) (λi _ h=>h);cases qY:jZ l1 with
  | true =>
   have cJ:kj l1=true:=by rw[fp,qY];rfl
   push_cast -dsimp;have sJ:∃m',m=m'+1:=⟨m-1,by omega⟩;obtain⟨m',wH⟩:=sJ;have hz2:w.heap.size<w2.heap.size:=fL.lt;have kd:Kept (λ_=>False) w2 w2.drew:=(Kept.refl _ _).drew;have AM:=fL.kept kd (λh=>h);have Pd:=P2.kept kd (λi h=>h.elim);have ug:=k2.trans kd (λi h1 h2=>h2.elim);have d2:w2.drew.cell? ⟨w.heap.size,2,none⟩=some sv:=AM.cell rfl;have dF:bF (aY d (aw d)) m acc l1=Cae.pb (aY d (aw d)) (λx=>bF (aY d (aw d)) m' (acc++[x])) l1:=by
    rw[wH,bF];unfold ay;rw[cJ,if_pos rfl]
   cases hp:aY d (aw d) l1 with
   | error e =>
    refine oZ (E:=LJ pb w l0 (iI (aY d (aw d)))) [(),(),(),(),(),(),()] mixed (by kernel_rfl) (λce te we hE=>?_) ?_
    ·push_cast -dsimp;exact hE
    push_cast -dsimp[d2];refine⟨λbB h=>by rw[h,d2];exact rfl,?_⟩;refine ns (ha n wI hn pb B w2.drew l1 Pd) (λv we ⟨x,l',h1,_⟩=>by rw[hp]at h1;cases h1) ?_;rintro ce we ⟨en,pos,he,ht,eR⟩;refine⟨en,pos,?_,ht.mono (by have:=ug.size;omega),ug.trans eR (λi _ h=>h)⟩;have hl:bF (aY d (aw d)) 1000 [] l0=.error (en,pos):=by
     rw[<-eE,dF];unfold Cae.pb;rw[he]
    unfold iI Cae.pb;rw[hl]
   | ok q =>
    obtain⟨x,l2⟩:=q;have oy:l2.length<l1.length:=mE hp;refine dV (λw'=>aM w' w.heap.size 158 [.int .i64 4,.pointer none,sv,.int .i64 0,.int .i64 0]) mixed (by kernel_rfl) (by simp) fL.drew ?_;push_cast -dsimp[d2];refine⟨λbB h=>by rw[aM.cell h (o:=2) rfl];exact rfl,?_⟩;refine aF (ha n wI hn pb B w2.drew l1 Pd) ?_ (λce we ⟨en,pos,he,_⟩=>by rw[hp]at he;cases he);rintro u w3 ⟨x',XU,e3,V3,P3,k3⟩;obtain⟨rfl,rfl⟩:x=x'/\l2=XU:=by rw[hp]at e3;cases e3;exact⟨rfl,rfl⟩
    obtain⟨ub,rfl,Hb,RZ⟩:=V3.ptr;have B3:=AM.kept k3 (by omega);have z3:=k3.size;have hzd:w2.heap.size=w2.drew.heap.size:=rfl;have fU:∀g,sv.ownBlock=some g->g<w2.heap.size:=λg hg=>(jT.block g hg).2;have Ks:=(jT.aJ kd (λg _ h=>h)).aJ k3 (λg hg h=>by have:=(jT.block g hg).1;omega);have Ih:=aQ.mono (X':=λb=>(b<w.heap.size\/b=w.heap.size\/sv.ownBlock=some b)\/w2.heap.size<=b) ((kd.weaken (Y:=(·=pb)) (λi _ h=>h.elim)).trans k3 (λi _ h=>h)) (λi h=>by omega) (λi h=>h) (aQ.top pw);refine⟨B3,?_⟩;push_cast -dsimp;refine cH fc rfl rfl (by omega) ?_;intro w4 ah;have B4:=B3.below ah.below B3.lt;have z4:=ah.size;have yg:=Ks.new ah;have P4:=P3.below ah.below;refine⟨B4,?_⟩;push_cast -dsimp;refine aW (base:=w.heap.size+1) [ub] (enc:=fm) fc yg (by rfl) (λj y hy=>by simpa[fm,bx] using ah.cell hy) mK (by rw[aQ.len pw];simp only[List.length_cons,List.length_nil];omega) (by omega) ?_;intro sv5 w5 sH yR H8;have kg:Kept (λj=>sv.ownBlock=some j) w4 w5:=Kept.grown yR (λ_ h=>h);have xU:∀g,sv.ownBlock=some g->w.heap.size+1<=g:=λg hg=>(jT.block g hg).1;have B5:=B4.kept kg (λh=>by have:=xU _ h;omega);have P5:=P4.kept kg (λi h=>by have:=xU _ h;omega);have z5:=kg.size;refine⟨B5,?_⟩;obtain⟨a5,c5,rfl⟩:=sH.slice;push_cast -dsimp;refine aC B5 (by simp) rfl ?_;intro w6 bQ;have B6:aM w6 w.heap.size 158 [.int .i64 4,.pointer none,.slice a5 (vs++[ub]).length c5,.int .i64 0,.int .i64 0]:=bQ.aL;have P6:=P5.kept bQ.kept (λi h=>by omega);have z6:=bQ.size
    have GJ:=sH.aJ bQ.kept (λg hg h=>by have:=(sH.block g hg).1;omega);have k6:=(((ug.trans k3 (λi _ h=>h)).trans (Kept.new (X:=(·=pb)) ah) (λi _ h=>h)).trans kg (λi h1 h2=>by have:=xU _ h2;omega)).trans bQ.kept (λi h1 h2=>by omega);have kY:Kept (λi=>i=w.heap.size\/sv.ownBlock=some i) w3 w6:=((Kept.new (X:=λi=>i=w.heap.size\/sv.ownBlock=some i) ah).trans kg (λi _ h=>.inr h)).trans bQ.kept (λi _ h=>.inl h);have hX:∀i,(i<w.heap.size\/i=w.heap.size\/(Value.slice a5 (vs++[ub]).length c5).ownBlock=some i)->i<w.heap.size\/i=w.heap.size\/sv.ownBlock=some i\/w4.heap.size<=i:=λi h=>by
     rcases h with h|h|h
     ·exact .inl h
     ·exact .inr (.inl h)
     rcases H8 i h with h|h
     ·exact .inr (.inr (.inl h))
     exact .inr (.inr (.inr h))
    have WZ:aQ (λb=>b<w.heap.size\/b=w.heap.size\/(Value.slice a5 (vs++[ub]).length c5).ownBlock=some b) w6 (vs++[ub]) (acc++[x]):=by
     refine aQ.snoc (aQ.mono kY (λi h=>?_) (λi h=>?_) Ih) (bE.mono kY (λi h=>?_) (λi h=>?_) V3.top)
     ·rcases h with h|h
      ·exact .inl (.inr (.inl h))
      exact .inl (.inr (.inr h))
     ·rcases hX i h with h|h|h|h
      ·exact .inl (.inl h)
      ·exact .inl (.inr (.inl h))
      ·exact .inl (.inr (.inr h))
      exact .inr (by omega)
     ·rcases h with h|h
      ·exact .inl (by omega)
      exact .inl (fU i h)
     rcases hX i h with h|h|h|h
     ·exact .inl (by omega)
     ·exact .inl (by omega)
     ·exact .inl (fU i h)
     exact .inr (by omega)
    have qW:=P6.len;have fM:=oG.len;have jD:bF (aY d (aw d)) m' (acc++[x]) l2=bF (aY d (aw d)) 1000 [] l0:=by rw[<-eE,dF,aI hp]
    push_cast -dsimp;exact⟨⟨m',acc++[x],l2,_,vs++[ub],jD,by omega,by rw[List.length_append,List.length_singleton];omega,B6,GJ,WZ,P6,k6⟩,by rw[qW,fM];exact oy⟩
  | false =>
   rw[qY,Bool.false_or]at fp;push_cast -dsimp;refine aA (BV [46] P2) ?_;rintro _ w3 ⟨rfl,cN⟩;obtain rfl:w2=w3:=cN.symm;cases fx:dT [46] l1 with
   | true =>
    have cJ:kj l1=true:=by rw[fp,fx];rfl
    push_cast -dsimp;have sJ:∃m',m=m'+1:=⟨m-1,by omega⟩;obtain⟨m',wH⟩:=sJ;have hz2:w.heap.size<w2.heap.size:=fL.lt;have kd:Kept (λ_=>False) w2 w2.drew:=(Kept.refl _ _).drew;have AM:=fL.kept kd (λh=>h);have Pd:=P2.kept kd (λi h=>h.elim);have ug:=k2.trans kd (λi h1 h2=>h2.elim);have d2:w2.drew.cell? ⟨w.heap.size,2,none⟩=some sv:=AM.cell rfl;have dF:bF (aY d (aw d)) m acc l1=Cae.pb (aY d (aw d)) (λx=>bF (aY d (aw d)) m' (acc++[x])) l1:=by
     rw[wH,bF];unfold ay;rw[cJ,if_pos rfl]
    cases hp:aY d (aw d) l1 with
    | error e =>
     refine oZ (E:=LJ pb w l0 (iI (aY d (aw d)))) [(),(),(),(),(),(),()] mixed (by kernel_rfl) (λce te we hE=>?_) ?_
     ·push_cast -dsimp;exact hE
     push_cast -dsimp[d2];refine⟨λbB h=>by rw[h,d2];exact rfl,?_⟩;refine ns (ha n wI hn pb B w2.drew l1 Pd) (λv we ⟨x,l',h1,_⟩=>by rw[hp]at h1;cases h1) ?_;rintro ce we ⟨en,pos,he,ht,eR⟩;refine⟨en,pos,?_,ht.mono (by have:=ug.size;omega),ug.trans eR (λi _ h=>h)⟩;have hl:bF (aY d (aw d)) 1000 [] l0=.error (en,pos):=by
      rw[<-eE,dF];unfold Cae.pb;rw[he]
     unfold iI Cae.pb;rw[hl]
    | ok q =>
     obtain⟨x,l2⟩:=q;have oy:l2.length<l1.length:=mE hp;refine dV (λw'=>aM w' w.heap.size 158 [.int .i64 4,.pointer none,sv,.int .i64 0,.int .i64 0]) mixed (by kernel_rfl) (by simp) fL.drew ?_;push_cast -dsimp[d2];refine⟨λbB h=>by rw[aM.cell h (o:=2) rfl];exact rfl,?_⟩;refine aF (ha n wI hn pb B w2.drew l1 Pd) ?_ (λce we ⟨en,pos,he,_⟩=>by rw[hp]at he;cases he);rintro u w3 ⟨x',XU,e3,V3,P3,k3⟩;obtain⟨rfl,rfl⟩:x=x'/\l2=XU:=by rw[hp]at e3;cases e3;exact⟨rfl,rfl⟩
     obtain⟨ub,rfl,Hb,RZ⟩:=V3.ptr;have B3:=AM.kept k3 (by omega);have z3:=k3.size;have hzd:w2.heap.size=w2.drew.heap.size:=rfl;have fU:∀g,sv.ownBlock=some g->g<w2.heap.size:=λg hg=>(jT.block g hg).2;have Ks:=(jT.aJ kd (λg _ h=>h)).aJ k3 (λg hg h=>by have:=(jT.block g hg).1;omega);have Ih:=aQ.mono (X':=λb=>(b<w.heap.size\/b=w.heap.size\/sv.ownBlock=some b)\/w2.heap.size<=b) ((kd.weaken (Y:=(·=pb)) (λi _ h=>h.elim)).trans k3 (λi _ h=>h)) (λi h=>by omega) (λi h=>h) (aQ.top pw);refine⟨B3,?_⟩;push_cast -dsimp;refine cH fc rfl rfl (by omega) ?_;intro w4 ah;have B4:=B3.below ah.below B3.lt;have z4:=ah.size;have yg:=Ks.new ah;have P4:=P3.below ah.below;refine⟨B4,?_⟩;push_cast -dsimp;refine aW (base:=w.heap.size+1) [ub] (enc:=fm) fc yg (by rfl) (λj y hy=>by simpa[fm,bx] using ah.cell hy) mK (by rw[aQ.len pw];simp only[List.length_cons,List.length_nil];omega) (by omega) ?_;intro sv5 w5 sH yR H8;have kg:Kept (λj=>sv.ownBlock=some j) w4 w5:=Kept.grown yR (λ_ h=>h);have xU:∀g,sv.ownBlock=some g->w.heap.size+1<=g:=λg hg=>(jT.block g hg).1;have B5:=B4.kept kg (λh=>by have:=xU _ h;omega);have P5:=P4.kept kg (λi h=>by have:=xU _ h;omega);have z5:=kg.size;refine⟨B5,?_⟩;obtain⟨a5,c5,rfl⟩:=sH.slice;push_cast -dsimp;refine aC B5 (by simp) rfl ?_;intro w6 bQ;have B6:aM w6 w.heap.size 158 [.int .i64 4,.pointer none,.slice a5 (vs++[ub]).length c5,.int .i64 0,.int .i64 0]:=bQ.aL;have P6:=P5.kept bQ.kept (λi h=>by omega);have z6:=bQ.size
     have GJ:=sH.aJ bQ.kept (λg hg h=>by have:=(sH.block g hg).1;omega);have k6:=(((ug.trans k3 (λi _ h=>h)).trans (Kept.new (X:=(·=pb)) ah) (λi _ h=>h)).trans kg (λi h1 h2=>by have:=xU _ h2;omega)).trans bQ.kept (λi h1 h2=>by omega);have kY:Kept (λi=>i=w.heap.size\/sv.ownBlock=some i) w3 w6:=((Kept.new (X:=λi=>i=w.heap.size\/sv.ownBlock=some i) ah).trans kg (λi _ h=>.inr h)).trans bQ.kept (λi _ h=>.inl h);have hX:∀i,(i<w.heap.size\/i=w.heap.size\/(Value.slice a5 (vs++[ub]).length c5).ownBlock=some i)->i<w.heap.size\/i=w.heap.size\/sv.ownBlock=some i\/w4.heap.size<=i:=λi h=>by
      rcases h with h|h|h
      ·exact .inl h
      ·exact .inr (.inl h)
      rcases H8 i h with h|h
      ·exact .inr (.inr (.inl h))
      exact .inr (.inr (.inr h))
     have WZ:aQ (λb=>b<w.heap.size\/b=w.heap.size\/(Value.slice a5 (vs++[ub]).length c5).ownBlock=some b) w6 (vs++[ub]) (acc++[x]):=by
      refine aQ.snoc (aQ.mono kY (λi h=>?_) (λi h=>?_) Ih) (bE.mono kY (λi h=>?_) (λi h=>?_) V3.top)
      ·rcases h with h|h
       ·exact .inl (.inr (.inl h))
       exact .inl (.inr (.inr h))
      ·rcases hX i h with h|h|h|h
       ·exact .inl (.inl h)
       ·exact .inl (.inr (.inl h))
       ·exact .inl (.inr (.inr h))
       exact .inr (by omega)
      ·rcases h with h|h
       ·exact .inl (by omega)
       exact .inl (fU i h)
      rcases hX i h with h|h|h|h
      ·exact .inl (by omega)
      ·exact .inl (by omega)
      ·exact .inl (fU i h)
      exact .inr (by omega)
     have qW:=P6.len;have fM:=oG.len;have jD:bF (aY d (aw d)) m' (acc++[x]) l2=bF (aY d (aw d)) 1000 [] l0:=by rw[<-eE,dF,aI hp]
     push_cast -dsimp;exact⟨⟨m',acc++[x],l2,_,vs++[ub],jD,by omega,by rw[List.length_append,List.length_singleton];omega,B6,GJ,WZ,P6,k6⟩,by rw[qW,fM];exact oy⟩
   | false =>
    rw[fx,Bool.false_or]at fp;push_cast -dsimp;refine aA (BV [36] P2) ?_;rintro _ w3 ⟨rfl,cN⟩;obtain rfl:w2=w3:=cN.symm;cases gZ:dT [36] l1 with
    | true =>
     have cJ:kj l1=true:=by rw[fp,gZ];rfl
     push_cast -dsimp;have sJ:∃m',m=m'+1:=⟨m-1,by omega⟩;obtain⟨m',wH⟩:=sJ;have hz2:w.heap.size<w2.heap.size:=fL.lt;have kd:Kept (λ_=>False) w2 w2.drew:=(Kept.refl _ _).drew;have AM:=fL.kept kd (λh=>h);have Pd:=P2.kept kd (λi h=>h.elim);have ug:=k2.trans kd (λi h1 h2=>h2.elim);have d2:w2.drew.cell? ⟨w.heap.size,2,none⟩=some sv:=AM.cell rfl;have dF:bF (aY d (aw d)) m acc l1=Cae.pb (aY d (aw d)) (λx=>bF (aY d (aw d)) m' (acc++[x])) l1:=by
      rw[wH,bF];unfold ay;rw[cJ,if_pos rfl]
     cases hp:aY d (aw d) l1 with
     | error e =>
      refine oZ (E:=LJ pb w l0 (iI (aY d (aw d)))) [(),(),(),(),(),(),()] mixed (by kernel_rfl) (λce te we hE=>?_) ?_
      ·push_cast -dsimp;exact hE
      push_cast -dsimp[d2];refine⟨λbB h=>by rw[h,d2];exact rfl,?_⟩;refine ns (ha n wI hn pb B w2.drew l1 Pd) (λv we ⟨x,l',h1,_⟩=>by rw[hp]at h1;cases h1) ?_;rintro ce we ⟨en,pos,he,ht,eR⟩;refine⟨en,pos,?_,ht.mono (by have:=ug.size;omega),ug.trans eR (λi _ h=>h)⟩;have hl:bF (aY d (aw d)) 1000 [] l0=.error (en,pos):=by
       rw[<-eE,dF];unfold Cae.pb;rw[he]
      unfold iI Cae.pb;rw[hl]
     | ok q =>
      obtain⟨x,l2⟩:=q;have oy:l2.length<l1.length:=mE hp;refine dV (λw'=>aM w' w.heap.size 158 [.int .i64 4,.pointer none,sv,.int .i64 0,.int .i64 0]) mixed (by kernel_rfl) (by simp) fL.drew ?_;push_cast -dsimp[d2];refine⟨λbB h=>by rw[aM.cell h (o:=2) rfl];exact rfl,?_⟩;refine aF (ha n wI hn pb B w2.drew l1 Pd) ?_ (λce we ⟨en,pos,he,_⟩=>by rw[hp]at he;cases he);rintro u w3 ⟨x',XU,e3,V3,P3,k3⟩;obtain⟨rfl,rfl⟩:x=x'/\l2=XU:=by rw[hp]at e3;cases e3;exact⟨rfl,rfl⟩
      obtain⟨ub,rfl,Hb,RZ⟩:=V3.ptr;have B3:=AM.kept k3 (by omega);have z3:=k3.size;have hzd:w2.heap.size=w2.drew.heap.size:=rfl;have fU:∀g,sv.ownBlock=some g->g<w2.heap.size:=λg hg=>(jT.block g hg).2;have Ks:=(jT.aJ kd (λg _ h=>h)).aJ k3 (λg hg h=>by have:=(jT.block g hg).1;omega);have Ih:=aQ.mono (X':=λb=>(b<w.heap.size\/b=w.heap.size\/sv.ownBlock=some b)\/w2.heap.size<=b) ((kd.weaken (Y:=(·=pb)) (λi _ h=>h.elim)).trans k3 (λi _ h=>h)) (λi h=>by omega) (λi h=>h) (aQ.top pw);refine⟨B3,?_⟩;push_cast -dsimp;refine cH fc rfl rfl (by omega) ?_;intro w4 ah;have B4:=B3.below ah.below B3.lt;have z4:=ah.size;have yg:=Ks.new ah;have P4:=P3.below ah.below;refine⟨B4,?_⟩;push_cast -dsimp;refine aW (base:=w.heap.size+1) [ub] (enc:=fm) fc yg (by rfl) (λj y hy=>by simpa[fm,bx] using ah.cell hy) mK (by rw[aQ.len pw];simp only[List.length_cons,List.length_nil];omega) (by omega) ?_;intro sv5 w5 sH yR H8;have kg:Kept (λj=>sv.ownBlock=some j) w4 w5:=Kept.grown yR (λ_ h=>h);have xU:∀g,sv.ownBlock=some g->w.heap.size+1<=g:=λg hg=>(jT.block g hg).1;have B5:=B4.kept kg (λh=>by have:=xU _ h;omega);have P5:=P4.kept kg (λi h=>by have:=xU _ h;omega);have z5:=kg.size;refine⟨B5,?_⟩;obtain⟨a5,c5,rfl⟩:=sH.slice;push_cast -dsimp;refine aC B5 (by simp) rfl ?_;intro w6 bQ;have B6:aM w6 w.heap.size 158 [.int .i64 4,.pointer none,.slice a5 (vs++[ub]).length c5,.int .i64 0,.int .i64 0]:=bQ.aL;have P6:=P5.kept bQ.kept (λi h=>by omega);have z6:=bQ.size
      have GJ:=sH.aJ bQ.kept (λg hg h=>by have:=(sH.block g hg).1;omega);have k6:=(((ug.trans k3 (λi _ h=>h)).trans (Kept.new (X:=(·=pb)) ah) (λi _ h=>h)).trans kg (λi h1 h2=>by have:=xU _ h2;omega)).trans bQ.kept (λi h1 h2=>by omega);have kY:Kept (λi=>i=w.heap.size\/sv.ownBlock=some i) w3 w6:=((Kept.new (X:=λi=>i=w.heap.size\/sv.ownBlock=some i) ah).trans kg (λi _ h=>.inr h)).trans bQ.kept (λi _ h=>.inl h);have hX:∀i,(i<w.heap.size\/i=w.heap.size\/(Value.slice a5 (vs++[ub]).length c5).ownBlock=some i)->i<w.heap.size\/i=w.heap.size\/sv.ownBlock=some i\/w4.heap.size<=i:=λi h=>by
       rcases h with h|h|h
       ·exact .inl h
       ·exact .inr (.inl h)
       rcases H8 i h with h|h
       ·exact .inr (.inr (.inl h))
       exact .inr (.inr (.inr h))
      have WZ:aQ (λb=>b<w.heap.size\/b=w.heap.size\/(Value.slice a5 (vs++[ub]).length c5).ownBlock=some b) w6 (vs++[ub]) (acc++[x]):=by
       refine aQ.snoc (aQ.mono kY (λi h=>?_) (λi h=>?_) Ih) (bE.mono kY (λi h=>?_) (λi h=>?_) V3.top)
       ·rcases h with h|h
        ·exact .inl (.inr (.inl h))
        exact .inl (.inr (.inr h))
       ·rcases hX i h with h|h|h|h
        ·exact .inl (.inl h)
        ·exact .inl (.inr (.inl h))
        ·exact .inl (.inr (.inr h))
        exact .inr (by omega)
       ·rcases h with h|h
        ·exact .inl (by omega)
        exact .inl (fU i h)
       rcases hX i h with h|h|h|h
       ·exact .inl (by omega)
       ·exact .inl (by omega)
       ·exact .inl (fU i h)
       exact .inr (by omega)
      have qW:=P6.len;have fM:=oG.len;have jD:bF (aY d (aw d)) m' (acc++[x]) l2=bF (aY d (aw d)) 1000 [] l0:=by rw[<-eE,dF,aI hp]
      push_cast -dsimp;exact⟨⟨m',acc++[x],l2,_,vs++[ub],jD,by omega,by rw[List.length_append,List.length_singleton];omega,B6,GJ,WZ,P6,k6⟩,by rw[qW,fM];exact oy⟩
    | false =>
     rw[gZ,Bool.false_or]at fp;push_cast -dsimp;refine aA (BV [40] P2) ?_;rintro _ w3 ⟨rfl,cN⟩;obtain rfl:w2=w3:=cN.symm;cases lW:dT [40] l1 with
     | true =>
      have cJ:kj l1=true:=by rw[fp,lW]
      push_cast -dsimp;have sJ:∃m',m=m'+1:=⟨m-1,by omega⟩;obtain⟨m',wH⟩:=sJ;have hz2:w.heap.size<w2.heap.size:=fL.lt;have kd:Kept (λ_=>False) w2 w2.drew:=(Kept.refl _ _).drew;have AM:=fL.kept kd (λh=>h);have Pd:=P2.kept kd (λi h=>h.elim);have ug:=k2.trans kd (λi h1 h2=>h2.elim);have d2:w2.drew.cell? ⟨w.heap.size,2,none⟩=some sv:=AM.cell rfl;have dF:bF (aY d (aw d)) m acc l1=Cae.pb (aY d (aw d)) (λx=>bF (aY d (aw d)) m' (acc++[x])) l1:=by
       rw[wH,bF];unfold ay;rw[cJ,if_pos rfl]
      cases hp:aY d (aw d) l1 with
      | error e =>
       refine oZ (E:=LJ pb w l0 (iI (aY d (aw d)))) [(),(),(),(),(),(),()] mixed (by kernel_rfl) (λce te we hE=>?_) ?_
       ·push_cast -dsimp;exact hE
       push_cast -dsimp[d2];refine⟨λbB h=>by rw[h,d2];exact rfl,?_⟩;refine ns (ha n wI hn pb B w2.drew l1 Pd) (λv we ⟨x,l',h1,_⟩=>by rw[hp]at h1;cases h1) ?_;rintro ce we ⟨en,pos,he,ht,eR⟩;refine⟨en,pos,?_,ht.mono (by have:=ug.size;omega),ug.trans eR (λi _ h=>h)⟩;have hl:bF (aY d (aw d)) 1000 [] l0=.error (en,pos):=by
        rw[<-eE,dF];unfold Cae.pb;rw[he]
       unfold iI Cae.pb;rw[hl]
      | ok q =>
       obtain⟨x,l2⟩:=q;have oy:l2.length<l1.length:=mE hp;refine dV (λw'=>aM w' w.heap.size 158 [.int .i64 4,.pointer none,sv,.int .i64 0,.int .i64 0]) mixed (by kernel_rfl) (by simp) fL.drew ?_;push_cast -dsimp[d2];refine⟨λbB h=>by rw[aM.cell h (o:=2) rfl];exact rfl,?_⟩;refine aF (ha n wI hn pb B w2.drew l1 Pd) ?_ (λce we ⟨en,pos,he,_⟩=>by rw[hp]at he;cases he);rintro u w3 ⟨x',XU,e3,V3,P3,k3⟩;obtain⟨rfl,rfl⟩:x=x'/\l2=XU:=by rw[hp]at e3;cases e3;exact⟨rfl,rfl⟩
       obtain⟨ub,rfl,Hb,RZ⟩:=V3.ptr;have B3:=AM.kept k3 (by omega);have z3:=k3.size;have hzd:w2.heap.size=w2.drew.heap.size:=rfl;have fU:∀g,sv.ownBlock=some g->g<w2.heap.size:=λg hg=>(jT.block g hg).2;have Ks:=(jT.aJ kd (λg _ h=>h)).aJ k3 (λg hg h=>by have:=(jT.block g hg).1;omega);have Ih:=aQ.mono (X':=λb=>(b<w.heap.size\/b=w.heap.size\/sv.ownBlock=some b)\/w2.heap.size<=b) ((kd.weaken (Y:=(·=pb)) (λi _ h=>h.elim)).trans k3 (λi _ h=>h)) (λi h=>by omega) (λi h=>h) (aQ.top pw);refine⟨B3,?_⟩;push_cast -dsimp;refine cH fc rfl rfl (by omega) ?_;intro w4 ah;have B4:=B3.below ah.below B3.lt;have z4:=ah.size;have yg:=Ks.new ah;have P4:=P3.below ah.below;refine⟨B4,?_⟩;push_cast -dsimp;refine aW (base:=w.heap.size+1) [ub] (enc:=fm) fc yg (by rfl) (λj y hy=>by simpa[fm,bx] using ah.cell hy) mK (by rw[aQ.len pw];simp only[List.length_cons,List.length_nil];omega) (by omega) ?_;intro sv5 w5 sH yR H8;have kg:Kept (λj=>sv.ownBlock=some j) w4 w5:=Kept.grown yR (λ_ h=>h);have xU:∀g,sv.ownBlock=some g->w.heap.size+1<=g:=λg hg=>(jT.block g hg).1;have B5:=B4.kept kg (λh=>by have:=xU _ h;omega);have P5:=P4.kept kg (λi h=>by have:=xU _ h;omega);have z5:=kg.size;refine⟨B5,?_⟩;obtain⟨a5,c5,rfl⟩:=sH.slice;push_cast -dsimp;refine aC B5 (by simp) rfl ?_;intro w6 bQ;have B6:aM w6 w.heap.size 158 [.int .i64 4,.pointer none,.slice a5 (vs++[ub]).length c5,.int .i64 0,.int .i64 0]:=bQ.aL;have P6:=P5.kept bQ.kept (λi h=>by omega);have z6:=bQ.size
       have GJ:=sH.aJ bQ.kept (λg hg h=>by have:=(sH.block g hg).1;omega);have k6:=(((ug.trans k3 (λi _ h=>h)).trans (Kept.new (X:=(·=pb)) ah) (λi _ h=>h)).trans kg (λi h1 h2=>by have:=xU _ h2;omega)).trans bQ.kept (λi h1 h2=>by omega);have kY:Kept (λi=>i=w.heap.size\/sv.ownBlock=some i) w3 w6:=((Kept.new (X:=λi=>i=w.heap.size\/sv.ownBlock=some i) ah).trans kg (λi _ h=>.inr h)).trans bQ.kept (λi _ h=>.inl h);have hX:∀i,(i<w.heap.size\/i=w.heap.size\/(Value.slice a5 (vs++[ub]).length c5).ownBlock=some i)->i<w.heap.size\/i=w.heap.size\/sv.ownBlock=some i\/w4.heap.size<=i:=λi h=>by
        rcases h with h|h|h
        ·exact .inl h
        ·exact .inr (.inl h)
        rcases H8 i h with h|h
        ·exact .inr (.inr (.inl h))
        exact .inr (.inr (.inr h))
       have WZ:aQ (λb=>b<w.heap.size\/b=w.heap.size\/(Value.slice a5 (vs++[ub]).length c5).ownBlock=some b) w6 (vs++[ub]) (acc++[x]):=by
        refine aQ.snoc (aQ.mono kY (λi h=>?_) (λi h=>?_) Ih) (bE.mono kY (λi h=>?_) (λi h=>?_) V3.top)
        ·rcases h with h|h
         ·exact .inl (.inr (.inl h))
         exact .inl (.inr (.inr h))
        ·rcases hX i h with h|h|h|h
         ·exact .inl (.inl h)
         ·exact .inl (.inr (.inl h))
         ·exact .inl (.inr (.inr h))
         exact .inr (by omega)
        ·rcases h with h|h
         ·exact .inl (by omega)
         exact .inl (fU i h)
        rcases hX i h with h|h|h|h
        ·exact .inl (by omega)
        ·exact .inl (by omega)
        ·exact .inl (fU i h)
        exact .inr (by omega)
       have qW:=P6.len;have fM:=oG.len;have jD:bF (aY d (aw d)) m' (acc++[x]) l2=bF (aY d (aw d)) 1000 [] l0:=by rw[<-eE,dF,aI hp]
       push_cast -dsimp;exact⟨⟨m',acc++[x],l2,_,vs++[ub],jD,by omega,by rw[List.length_append,List.length_singleton];omega,B6,GJ,WZ,P6,k6⟩,by rw[qW,fM];exact oy⟩
     | false =>
      have cJ:kj l1=false:=by rw[fp,lW]
      have kF:iI (aY d (aw d)) l0=.ok (rowOf acc,l1):=by
       have hl:bF (aY d (aw d)) 1000 [] l0=.ok (acc,l1):=by
        rw[<-eE];obtain⟨m',wH⟩:∃m',m=m'+1:=⟨m-1,by omega⟩;rw[wH,bF];unfold ay;rw[cJ];rfl
       unfold iI;rw[aI hl];rfl
      have aM2:=aQ.len pw;have aES:=jT.slice;obtain⟨va,vc,tE⟩:=aES;rw[tE]at fL jT pw;have d2:w2.cell? ⟨w.heap.size,2,none⟩=some (.slice va vs.length vc):=fL.cell rfl;have pD:=jT.sl;have Ts:=k2.size;push_cast -dsimp[d2];refine⟨λh1=>?_,λh1=>?_⟩
      ·obtain⟨u,G1⟩:∃u,vs=[u]:=List.length_eq_one_iff.1 (by omega);obtain⟨x,ZZ⟩:∃x,acc=[x]:=List.length_eq_one_iff.1 (by omega);rw[G1]at pD d2 pw;rw[ZZ]at pw kF;simp only[aQ,and_true]at pw;obtain⟨b5,o5,rfl,_,aP⟩:=pD.get (i:=0) (x:=u) rfl;have d5:w2.cell? ⟨b5,o5,none⟩=some (bx u):=by have:=aP 0 _ rfl;simpa using this
       simp only[List.length_cons,List.length_nil,Nat.zero_add]at d2;push_cast -dsimp[d2,Nat.zero_mul,Nat.add_zero,d5];refine⟨by omega,x,l1,kF,bE.mono (Kept.refl (λ_=>False) _) (λ_ h=>h.elim) (λi h=>.inl h) pw,P2,k2⟩
      have cY:acc.length≠1:=by omega
      have hro:rowOf acc=.cat acc:=by
       unfold rowOf;split
       ·rename_i x;exact absurd rfl cY
       rfl
      refine⟨.cat acc,l1,by rw[<-hro];exact kF,?_,P2,k2⟩;simp only[bE];exact⟨_,_,vs,rfl,by omega,fL,pD.weaken (λi h=>by omega),aQ.mono (Kept.refl (λ_=>False) _) (λ_ h=>h.elim) (λi h=>.inl h) pw⟩
 have cJ:kj l1=true:=by
  have:t1.kind=3:=by omega
  rw[fp,this];rfl
 have P2:=oG;have fL:=hB;have jT:=hO;have pw:=hV;have k2:=Dj;have sJ:∃m',m=m'+1:=⟨m-1,by omega⟩;obtain⟨m',wH⟩:=sJ;have hz2:w.heap.size<w'.heap.size:=fL.lt;have kd:Kept (λ_=>False) w' w'.drew:=(Kept.refl _ _).drew;have AM:=fL.kept kd (λh=>h);have Pd:=P2.kept kd (λi h=>h.elim);have ug:=k2.trans kd (λi h1 h2=>h2.elim);have d2:w'.drew.cell? ⟨w.heap.size,2,none⟩=some sv:=AM.cell rfl;have dF:bF (aY d (aw d)) m acc l1=Cae.pb (aY d (aw d)) (λx=>bF (aY d (aw d)) m' (acc++[x])) l1:=by
  rw[wH,bF];unfold ay;rw[cJ,if_pos rfl]
 cases hp:aY d (aw d) l1 with
 | error e =>
  refine oZ (E:=LJ pb w l0 (iI (aY d (aw d)))) [(),(),(),(),(),(),()] mixed (by kernel_rfl) (λce te we hE=>?_) ?_
  ·push_cast -dsimp;exact hE
  push_cast -dsimp[d2];refine⟨λbB h=>by rw[h,d2];exact rfl,?_⟩;refine ns (ha n wI hn pb B w'.drew l1 Pd) (λv we ⟨x,l',h1,_⟩=>by rw[hp]at h1;cases h1) ?_;rintro ce we ⟨en,pos,he,ht,eR⟩;refine⟨en,pos,?_,ht.mono (by have:=ug.size;omega),ug.trans eR (λi _ h=>h)⟩;have hl:bF (aY d (aw d)) 1000 [] l0=.error (en,pos):=by
   rw[<-eE,dF];unfold Cae.pb;rw[he]
  unfold iI Cae.pb;rw[hl]
 | ok q =>
  obtain⟨x,l2⟩:=q;have oy:l2.length<l1.length:=mE hp;refine dV (λw'=>aM w' w.heap.size 158 [.int .i64 4,.pointer none,sv,.int .i64 0,.int .i64 0]) mixed (by kernel_rfl) (by simp) fL.drew ?_;push_cast -dsimp[d2];refine⟨λbB h=>by rw[aM.cell h (o:=2) rfl];exact rfl,?_⟩;refine aF (ha n wI hn pb B w'.drew l1 Pd) ?_ (λce we ⟨en,pos,he,_⟩=>by rw[hp]at he;cases he);rintro u w3 ⟨x',XU,e3,V3,P3,k3⟩;obtain⟨rfl,rfl⟩:x=x'/\l2=XU:=by rw[hp]at e3;cases e3;exact⟨rfl,rfl⟩
  obtain⟨ub,rfl,Hb,RZ⟩:=V3.ptr;have B3:=AM.kept k3 (by omega);have z3:=k3.size;have hzd:w'.heap.size=w'.drew.heap.size:=rfl;have fU:∀g,sv.ownBlock=some g->g<w'.heap.size:=λg hg=>(jT.block g hg).2;have Ks:=(jT.aJ kd (λg _ h=>h)).aJ k3 (λg hg h=>by have:=(jT.block g hg).1;omega);have Ih:=aQ.mono (X':=λb=>(b<w.heap.size\/b=w.heap.size\/sv.ownBlock=some b)\/w'.heap.size<=b) ((kd.weaken (Y:=(·=pb)) (λi _ h=>h.elim)).trans k3 (λi _ h=>h)) (λi h=>by omega) (λi h=>h) (aQ.top pw);refine⟨B3,?_⟩;push_cast -dsimp;refine cH fc rfl rfl (by omega) ?_;intro w4 ah;have B4:=B3.below ah.below B3.lt;have z4:=ah.size;have yg:=Ks.new ah;have P4:=P3.below ah.below;refine⟨B4,?_⟩;push_cast -dsimp;refine aW (base:=w.heap.size+1) [ub] (enc:=fm) fc yg (by rfl) (λj y hy=>by simpa[fm,bx] using ah.cell hy) mK (by rw[aQ.len pw];simp only[List.length_cons,List.length_nil];omega) (by omega) ?_;intro sv5 w5 sH yR H8;have kg:Kept (λj=>sv.ownBlock=some j) w4 w5:=Kept.grown yR (λ_ h=>h);have xU:∀g,sv.ownBlock=some g->w.heap.size+1<=g:=λg hg=>(jT.block g hg).1;have B5:=B4.kept kg (λh=>by have:=xU _ h;omega);have P5:=P4.kept kg (λi h=>by have:=xU _ h;omega);have z5:=kg.size;refine⟨B5,?_⟩;obtain⟨a5,c5,rfl⟩:=sH.slice;push_cast -dsimp;refine aC B5 (by simp) rfl ?_;intro w6 bQ;have B6:aM w6 w.heap.size 158 [.int .i64 4,.pointer none,.slice a5 (vs++[ub]).length c5,.int .i64 0,.int .i64 0]:=bQ.aL;have P6:=P5.kept bQ.kept (λi h=>by omega);have z6:=bQ.size
  have GJ:=sH.aJ bQ.kept (λg hg h=>by have:=(sH.block g hg).1;omega);have k6:=(((ug.trans k3 (λi _ h=>h)).trans (Kept.new (X:=(·=pb)) ah) (λi _ h=>h)).trans kg (λi h1 h2=>by have:=xU _ h2;omega)).trans bQ.kept (λi h1 h2=>by omega);have kY:Kept (λi=>i=w.heap.size\/sv.ownBlock=some i) w3 w6:=((Kept.new (X:=λi=>i=w.heap.size\/sv.ownBlock=some i) ah).trans kg (λi _ h=>.inr h)).trans bQ.kept (λi _ h=>.inl h);have hX:∀i,(i<w.heap.size\/i=w.heap.size\/(Value.slice a5 (vs++[ub]).length c5).ownBlock=some i)->i<w.heap.size\/i=w.heap.size\/sv.ownBlock=some i\/w4.heap.size<=i:=λi h=>by
   rcases h with h|h|h
   ·exact .inl h
   ·exact .inr (.inl h)
   rcases H8 i h with h|h
   ·exact .inr (.inr (.inl h))
   exact .inr (.inr (.inr h))
  have WZ:aQ (λb=>b<w.heap.size\/b=w.heap.size\/(Value.slice a5 (vs++[ub]).length c5).ownBlock=some b) w6 (vs++[ub]) (acc++[x]):=by
   refine aQ.snoc (aQ.mono kY (λi h=>?_) (λi h=>?_) Ih) (bE.mono kY (λi h=>?_) (λi h=>?_) V3.top)
   ·rcases h with h|h
    ·exact .inl (.inr (.inl h))
    exact .inl (.inr (.inr h))
   ·rcases hX i h with h|h|h|h
    ·exact .inl (.inl h)
    ·exact .inl (.inr (.inl h))
    ·exact .inl (.inr (.inr h))
    exact .inr (by omega)
   ·rcases h with h|h
    ·exact .inl (by omega)
    exact .inl (fU i h)
   rcases hX i h with h|h|h|h
   ·exact .inl (by omega)
   ·exact .inl (by omega)
   ·exact .inl (fU i h)
   exact .inr (by omega)
  have qW:=P6.len;have fM:=oG.len;have jD:bF (aY d (aw d)) m' (acc++[x]) l2=bF (aY d (aw d)) 1000 [] l0:=by rw[<-eE,dF,aI hp]
  push_cast -dsimp;exact⟨⟨m',acc++[x],l2,_,vs++[ub],jD,by omega,by rw[List.length_append,List.length_singleton];omega,B6,GJ,WZ,P6,k6⟩,by rw[qW,fM];exact oy⟩
theorem aGI {d:Nat}{l l':List Tok}{x:aG}(h:iI (aY d (aw d)) l=.ok (x,l')):l'.length<=l.length:=Lo.le (O7 (Dw (ym d))) _ _ _ h
theorem YL (d:Nat)(JM:aHY d):aD8 d:=by
 intro n wI hn pb B w l0 h0;have hle:=h0.le;have ao:=h0.lt;refine bI Tryz.func71 rfl (by kernel_rfl) [.tmp 4] rfl ?_;push_cast -dsimp(maxSteps:=9^7) [Tryz.ntmps71];refine aF (mJ n h0) ?_ ?_;rotate_left
 ·rintro c w' ⟨h8,ht,hb⟩;have hd0:d=0:=by omega
  subst hd0;push_cast -dsimp;exact⟨4,_,rfl,ht,Kept.aN hb (λi h1 h2=>by omega)⟩
 rintro _ w0 ⟨h8,rfl,uZ⟩;obtain rfl:w=w0:=uZ.symm;have jJ:qu d l0=Cae.pb (iI (aY d (aw d))) (λx=>Cae.pb (eS (iI (aY d (aw d))) 1000 [x]) λps=>pr (jO ps)) l0:=by
  unfold qu BF;rw[if_neg (by omega)];rfl
 push_cast -dsimp;refine aF (JM n wI hn pb B w l0 h0) ?_ ?_;rotate_left
 ·rintro c w' ⟨e,pos,he,ht,hk⟩;push_cast -dsimp;refine⟨e,pos,?_,ht,hk⟩;rw[jJ];unfold Cae.pb;rw[he]
 rintro v1 w1 ⟨x0,l1',e1,V1,P1,k1⟩;obtain⟨ub,rfl,Hb,RZ⟩:=V1.ptr;have z1:=k1.size;push_cast -dsimp;refine cH fc rfl rfl (by omega) ?_;intro w2 bJ;have z2:=bJ.size;have O2:Go.Vc.Own w.heap.size 82 1 fm w2 (.slice (some ⟨w1.heap.size,0,none⟩) 1 1) [ub]:=bJ.own (by rfl) rfl (λ_=>rfl) (by omega) (by omega);push_cast -dsimp;refine aR ?_;intro w3 cN;have B3:=cN.aL;have O3:=O2.new cN;have P3:=(P1.below bJ.below).below cN.below;have k3:=(k1.trans (Kept.new (X:=(·=pb)) bJ) (λi _ h=>h)).trans (Kept.new (X:=(·=pb)) cN) (λi _ h=>h);have V3:=(V1.top.below bJ.below).below cN.below;have C0:∃xb,xb=w2.heap.size:=⟨_,rfl⟩;obtain⟨xb,C0⟩:=C0;have aU1:w.heap.size<=xb:=by omega
 rw[<-C0]at B3;push_cast -dsimp[<-C0];refine aK [15,16,17,18,19,20,21,22,23,24,25,26,27,28] (λz w'=>∃(m:Nat) (acc:List aG) (l1:List Tok) (sv:Value) (vs:List Nat),eS (iI (aY d (aw d))) m acc l1=eS (iI (aY d (aw d))) 1000 [x0] l1'/\l1.length<m/\acc.length+m<=1001 /\
   aM w' xb 158 [.int .i64 5,.pointer none,sv,.int .i64 0,.int .i64 0]/\Go.Vc.Own w.heap.size 82 1 fm w' sv vs/\(∀g,sv.ownBlock=some g->g≠xb)/\aQ (λb=>b<w.heap.size\/b=xb\/sv.ownBlock=some b) w' vs acc/\PS pb B w' l1/\Kept (·=pb) w w') (λz w'=>xa w' pb) ?_ ?_
 ·have ao:l1'.length<1000:=by have:=P1.tl.len;omega
  have Kt:aQ (λb=>b<w.heap.size\/b=xb\/(Value.slice (some ⟨w1.heap.size,0,none⟩) 1 1).ownBlock=some b) w3 [ub] [x0]:=by
   simp only[aQ,and_true];refine bE.mono (Kept.refl (λ_=>False) _) (λ_ h=>h.elim) (λi h=>?_) V3;rcases h with h|h|h
   ·exact .inl h
   ·exact .inr (by omega)
   have:w1.heap.size=i:=by simpa[Value.ownBlock] using h
   exact .inr (by omega)
  have aOt:∀g,(Value.slice (some ⟨w1.heap.size,0,none⟩) 1 1).ownBlock=some g->g≠xb:=λg hg=>by
   have:w1.heap.size=g:=by simpa[Value.ownBlock] using hg
   omega
  exact⟨1000,[x0],l1',_,[ub],rfl,ao,by simp,B3,O3,aOt,Kt,P3,k3⟩
 rintro z w' ⟨m,acc,l1,sv,vs,eE,hm,Ii,hBq,hOq,kT,hVq,oG,kq⟩;have hzw:=kq.size;push_cast -dsimp[<-C0];refine aA (gF [124] oG) ?_;rintro _ PX hT;rcases hT with ⟨cJ,rfl,t1,Tt,mg,yM,P2,kt,hz⟩|⟨cJ,rfl,q9⟩
 ·have kV:cL l1=.ok ((),Tt):=by rw[mg];exact dW yM
  have vX:l1.length=Tt.length+1:=by rw[mg,List.length_cons]
  have fL:=hBq.kept kt (by omega);have jT:=hOq.aJ kt (λg hg h=>by have:=(hOq.block g hg).1;omega);have pw:aQ (λb=>b<w.heap.size\/b=xb\/sv.ownBlock=some b) PX vs acc:=aQ.mono kt (λi h=>by omega) (λi h=>h) hVq;have k2:=kq.trans kt (λi _ h=>h);push_cast -dsimp[<-C0];have sJ:∃m',m=m'+1:=⟨m-1,by omega⟩;obtain⟨m',wH⟩:=sJ;have hz2:xb<PX.heap.size:=fL.lt;have kd:Kept (λ_=>False) PX PX.drew:=(Kept.refl _ _).drew;have AM:=fL.kept kd (λh=>h);have Pd:=P2.kept kd (λi h=>h.elim);have ug:=k2.trans kd (λi h1 h2=>h2.elim);have d2:PX.drew.cell? ⟨xb,2,none⟩=some sv:=AM.cell rfl;have dF:eS (iI (aY d (aw d))) m acc l1=Cae.pb (iI (aY d (aw d))) (λx=>eS (iI (aY d (aw d))) m' (acc++[x])) Tt:=by
   rw[wH,eS];unfold ay;rw[cJ,if_pos rfl,aI kV]
  cases hp:iI (aY d (aw d)) Tt with
  | error e =>
   refine oZ (E:=LJ pb w l0 (qu d)) [(),(),(),(),(),(),()] mixed (by kernel_rfl) (λce te we hE=>?_) ?_
   ·push_cast -dsimp;exact hE
   push_cast -dsimp[d2];refine⟨λbB h=>by rw[h,d2];exact rfl,?_⟩;refine ns (JM n wI hn pb B PX.drew Tt Pd) (λv we ⟨x,l',h1,_⟩=>by rw[hp]at h1;cases h1) ?_;rintro ce we ⟨en,pos,he,ht,eR⟩;refine⟨en,pos,?_,ht.mono (by have:=ug.size;omega),ug.trans eR (λi _ h=>h)⟩;have hl:eS (iI (aY d (aw d))) 1000 [x0] l1'=.error (en,pos):=by
    rw[<-eE,dF];unfold Cae.pb;rw[he]
   rw[jJ,aI e1];unfold Cae.pb;rw[hl]
  | ok q =>
   obtain⟨x,l2⟩:=q;have oy:l2.length<l1.length:=by
    have:=aGI hp;rw[vX];omega
   refine dV (λw'=>aM w' xb 158 [.int .i64 5,.pointer none,sv,.int .i64 0,.int .i64 0]) mixed (by kernel_rfl) (by simp) fL.drew ?_;push_cast -dsimp[d2];refine⟨λbB h=>by rw[aM.cell h (o:=2) rfl];exact rfl,?_⟩;refine aF (JM n wI hn pb B PX.drew Tt Pd) ?_ (λce we ⟨en,pos,he,_⟩=>by rw[hp]at he;cases he);rintro u w3 ⟨x',XU,e3,V3,P3,k3⟩;obtain⟨rfl,rfl⟩:x=x'/\l2=XU:=by rw[hp]at e3;cases e3;exact⟨rfl,rfl⟩
   obtain⟨ub,rfl,Hb,RZ⟩:=V3.ptr;have B3:=AM.kept k3 (by omega);have z3:=k3.size;have hzd:PX.heap.size=PX.drew.heap.size:=rfl;have fU:∀g,sv.ownBlock=some g->g<PX.heap.size:=λg hg=>(jT.block g hg).2;have Ks:=(jT.aJ kd (λg _ h=>h)).aJ k3 (λg hg h=>by have:=(jT.block g hg).1;omega);have Ih:=aQ.mono (X':=λb=>(b<w.heap.size\/b=xb\/sv.ownBlock=some b)\/PX.heap.size<=b) ((kd.weaken (Y:=(·=pb)) (λi _ h=>h.elim)).trans k3 (λi _ h=>h)) (λi h=>by omega) (λi h=>h) (aQ.top pw);refine⟨B3,?_⟩;push_cast -dsimp;refine cH fc rfl rfl (by omega) ?_;intro w4 ah;have B4:=B3.below ah.below B3.lt;have z4:=ah.size;have yg:=Ks.new ah;have P4:=P3.below ah.below;refine⟨B4,?_⟩;push_cast -dsimp;refine aW (base:=w.heap.size) [ub] (enc:=fm) fc yg (by rfl) (λj y hy=>by simpa[fm,bx] using ah.cell hy) mK (by rw[aQ.len pw];simp only[List.length_cons,List.length_nil];omega) (by omega) ?_;intro sv5 w5 sH yR H8;have kg:Kept (λj=>sv.ownBlock=some j) w4 w5:=Kept.grown yR (λ_ h=>h);have xU:∀g,sv.ownBlock=some g->w.heap.size<=g/\g≠xb:=λg hg=>⟨(jT.block g hg).1,kT g hg⟩;have B5:=B4.kept kg (λh=>by have:=xU _ h;omega);have P5:=P4.kept kg (λi h=>by have:=xU _ h;omega);have z5:=kg.size;refine⟨B5,?_⟩;obtain⟨a5,c5,rfl⟩:=sH.slice;push_cast -dsimp;refine aC B5 (by simp) rfl ?_;intro w6 bQ;have B6:aM w6 xb 158 [.int .i64 5,.pointer none,.slice a5 (vs++[ub]).length c5,.int .i64 0,.int .i64 0]:=bQ.aL;have P6:=P5.kept bQ.kept (λi h=>by omega);have z6:=bQ.size
   have aJ3:∀g,(Value.slice a5 (vs++[ub]).length c5).ownBlock=some g->g≠xb:=λg hg=>by
    rcases H8 g hg with h|h
    ·exact(xU g h).2
    omega
   have GJ:=sH.aJ bQ.kept (λg hg h=>aJ3 g hg h);have k6:=(((ug.trans k3 (λi _ h=>h)).trans (Kept.new (X:=(·=pb)) ah) (λi _ h=>h)).trans kg (λi h1 h2=>by have:=xU _ h2;omega)).trans bQ.kept (λi h1 h2=>by omega);have kY:Kept (λi=>i=xb\/sv.ownBlock=some i) w3 w6:=((Kept.new (X:=λi=>i=xb\/sv.ownBlock=some i) ah).trans kg (λi _ h=>.inr h)).trans bQ.kept (λi _ h=>.inl h);have hX:∀i,(i<w.heap.size\/i=xb\/(Value.slice a5 (vs++[ub]).length c5).ownBlock=some i)->i<w.heap.size\/i=xb\/sv.ownBlock=some i\/w4.heap.size<=i:=λi h=>by
    rcases h with h|h|h
    ·exact .inl h
    ·exact .inr (.inl h)
    rcases H8 i h with h|h
    ·exact .inr (.inr (.inl h))
    exact .inr (.inr (.inr h))
   have WZ:aQ (λb=>b<w.heap.size\/b=xb\/(Value.slice a5 (vs++[ub]).length c5).ownBlock=some b) w6 (vs++[ub]) (acc++[x]):=by
    refine aQ.snoc (aQ.mono kY (λi h=>?_) (λi h=>?_) Ih) (bE.mono kY (λi h=>?_) (λi h=>?_) V3.top)
    ·rcases h with h|h
     ·exact .inl (.inr (.inl h))
     exact .inl (.inr (.inr h))
    ·rcases hX i h with h|h|h|h
     ·exact .inl (.inl h)
     ·exact .inl (.inr (.inl h))
     ·exact .inl (.inr (.inr h))
     exact .inr (by omega)
    ·rcases h with h|h
     ·exact .inl (by omega)
     exact .inl (fU i h)
    rcases hX i h with h|h|h|h
    ·exact .inl (by omega)
    ·exact .inl (by omega)
    ·exact .inl (fU i h)
    exact .inr (by omega)
   have qW:=P6.len;have fM:=oG.len;have jD:eS (iI (aY d (aw d))) m' (acc++[x]) l2=eS (iI (aY d (aw d))) 1000 [x0] l1':=by rw[<-eE,dF,aI hp]
   push_cast -dsimp;exact⟨⟨m',acc++[x],l2,_,vs++[ub],jD,by omega,by rw[List.length_append,List.length_singleton];omega,B6,GJ,aJ3,WZ,P6,k6⟩,by rw[qW,fM];exact oy⟩
 obtain rfl:w'=PX:=q9.symm;have kF:qu d l0=.ok (jO acc,l1):=by
  have hl:eS (iI (aY d (aw d))) 1000 [x0] l1'=.ok (acc,l1):=by
   rw[<-eE];obtain⟨m',wH⟩:∃m',m=m'+1:=⟨m-1,by omega⟩;rw[wH,eS];unfold ay;rw[cJ];rfl
  rw[jJ,aI e1,aI hl];rfl
 have fL:=hBq;have jT:=hOq;have pw:=hVq;have P2:=oG;have k2:=kq;have aM2:=aQ.len pw;have aES:=jT.slice;obtain⟨va,vc,tE⟩:=aES;rw[tE]at fL jT pw;have d2:w'.cell? ⟨xb,2,none⟩=some (.slice va vs.length vc):=fL.cell rfl;have pD:=jT.sl;have Ts:=k2.size;push_cast -dsimp[d2];refine⟨λh1=>?_,λh1=>?_⟩
 ·obtain⟨u,G1⟩:∃u,vs=[u]:=List.length_eq_one_iff.1 (by omega);obtain⟨x,ZZ⟩:∃x,acc=[x]:=List.length_eq_one_iff.1 (by omega);rw[G1]at pD d2 pw;rw[ZZ]at pw kF;simp only[aQ,and_true]at pw;obtain⟨b5,o5,rfl,_,aP⟩:=pD.get (i:=0) (x:=u) rfl;have d5:w'.cell? ⟨b5,o5,none⟩=some (bx u):=by have:=aP 0 _ rfl;simpa using this
  simp only[List.length_cons,List.length_nil,Nat.zero_add]at d2;push_cast -dsimp[d2,Nat.zero_mul,Nat.add_zero,d5];refine⟨by omega,x,l1,kF,bE.mono (Kept.refl (λ_=>False) _) (λ_ h=>h.elim) (λi h=>.inl h) pw,P2,k2⟩
 have cY:acc.length≠1:=by omega
 have hro:jO acc=.alt acc:=by
  unfold jO;split
  ·rename_i x;exact absurd rfl cY
  rfl
 refine⟨.alt acc,l1,by rw[<-hro];exact kF,?_,P2,k2⟩;simp only[bE];exact⟨_,_,vs,rfl,by omega,fL,pD.weaken (λi h=>by omega),aQ.mono (Kept.refl (λ_=>False) _) (λ_ h=>h.elim) (λi h=>.inl h) pw⟩
end Go.Proofs.YtemjejfpadnljaaGreatDoor
