/- Texts of this claim, merged: Rp6, Vr, Rp7, Rp8. -/
import Derived.Test.YtledlfbbebodgaaGreatDoorM6
set_option maxRecDepth 100000
set_option linter.unusedSimpArgs false
set_option linter.unusedVariables false
set_option maxHeartbeats 8000000
section
namespace Go.Proofs.YtledlfbbebodgaaGreatDoor
open Go.Vc Go.Proofs Go.RowKit Cae
attribute [local irreducible] dd ae ak a7 runK bE Sl Vc.Own vc aU cJ a8
theorem rZ {w:World}{b:Nat}{e:TypeId}{u:Nat}{X:Nat->Prop}(h:aM w b e [bd u])(hb:¬X b):Sl X 1 (En fB) w (.slice (some ⟨b,0,none⟩) 1 1) [u]:=by
 unfold Sl;refine⟨_,1,rfl,by simp,λi x hx=>⟨b,0,fB u,rfl,hb,rfl,λj y hy=>?_,?_⟩⟩
 ·have hi:i=0:=by
   have:=(List.getElem?_eq_some_iff.1 hx).1;simp at this;exact this
  have hj:j=0:=by
   have:=(List.getElem?_eq_some_iff.1 hy).1;simp[fB]at this;exact this
  subst hi hj;simp[fB]at hy;subst hy;exact h.cell rfl
 have hi:i=0:=by
  have:=(List.getElem?_eq_some_iff.1 hx).1;simp at this;exact this
 subst hi;simp at hx;subst hx;rfl
theorem ll {d m c:Nat}{x:aF}{l:List Tok}{e:Nat×Nat}(hm:l.length<m)(h:eK l=.error e):bW d m c x l=.error e:=by
 obtain⟨m',rfl⟩:∃m',m=m'+1:=⟨m-1,by omega⟩;rw[bW];unfold Cae.pb;rw[h]
theorem HW (d:Nat)(hu:NI d):TM d:=by
 intro n vt hn pb B w l0 h0;have hle:=h0.le;have aw:=h0.lt;refine bM Tryz.func161 rfl (by kernel_rfl) [.tmp 4] rfl ?_;push_cast -dsimp(maxSteps:=4000000) [Tryz.ntmps161];refine aG (hu n vt hn pb B w l0 h0) ?_ ?_
 ·rintro v1 w1 ⟨x0,l1,e1,V1,P1,N9⟩;have Lm:aV d (aq d) l0=bW d 1000 0 x0 l1:=by
   unfold aV;rw[aH e1]
  push_cast -dsimp;refine aL [4,5,6,7,12,13,14,15,16,17,18,19,20,21,22,23,24,25,26,27,28,29,30,31,32,33,34,35,36,37,38,39,40,41,42,43,44,45,46,47,48,49,50,51,52,53,54,55,56,57,58,59,60,61,62,63,64,65,66,67,68,69,70,71,72,73,74,75,76,77,78,79,80,81,82,83] (λz w'=>∃(m c:Nat) (x:aF) (l1:List Tok) (i:Int),bW d m c x l1=aV d (aq d) l0/\l1.length<m/\(z 6=.int .i64 i/\i=n+(c:Int)/\i<=9)/\ai (·<w.heap.size) w' (z 5) x/\PS pb B w' l1/\Kept (·=pb) w w') (λz w'=>xc w' pb) ?_ ?_
  ·have aw:l1.length<1000:=by have:=P1.tl.len;omega
   exact⟨1000,0,x0,l1,n,Lm.symm,aw,⟨rfl,by omega,by omega⟩,V1,P1,N9⟩
  rintro z w' ⟨m,c,x,l1,i,dG,hm,⟨Ni,hi,hi9⟩,V1,nG,Df⟩;obtain⟨kb,HP,Cv,hkX⟩:=V1.ptr;rw[HP]at V1;obtain⟨t1,r1,mj⟩:=nG.tl.cons;have hzw:=Df.size;push_cast -dsimp[HP];refine cT iM rfl rfl (by omega) ?_;intro w2 bw;have BX0:aM w2 w'.heap.size 35 [.pointer (some ⟨kb,0,none⟩)]:=bw.aN;have P2:=nG.below bw.below;have z2:=bw.size;have k2:=Df.trans (Kept.new (X:=(·=pb)) bw) (λi _ h=>h);push_cast -dsimp;refine aR ?_;intro w3 dZ;have BY0:aM w3 (w'.heap.size+1) 39 [.int .i64 6,.pointer none,.slice (some ⟨w'.heap.size,0,none⟩) 1 1,.int .i64 0,.int .i64 (-1)]:=by
   have:=dZ.aN;rw[z2]at this;exact this
  have BX3:=BX0.below dZ.below (by omega);have P3:=P2.below dZ.below;have z3:=dZ.size;have k3:=k2.trans (Kept.new (X:=(·=pb)) dZ) (λi _ h=>h);have V3:ai (λb=>b<w.heap.size\/w'.heap.size<=b) w3 (.pointer (some ⟨kb,0,none⟩)) x:=(V1.top.below bw.below).below dZ.below;push_cast -dsimp[z2];refine aA (gG [42] P3) ?_;rintro _ w4 hT;rcases hT with ⟨gA,rfl,t4,l2,PI,yH,P4,kt,Lt⟩|⟨gA,rfl,qU⟩
  ·have lF:cM l1=.ok ((),l2):=by rw[PI];exact dV yH
   have mn:l1.length=l2.length+1:=by rw[PI,List.length_cons]
   have wE:eK l1=.ok (some (0,-1),l2):=by
    unfold eK ay;rw[gA,if_pos rfl,aH lF];rfl
   have BY:=BY0.kept kt (by omega);have BX:=BX3.kept kt (by omega);have kS:=k3.trans kt (λi _ h=>h);have VX:=V3.mono (X':=(·<w.heap.size)) kt (λi h=>by omega) (λi h=>.inl h);push_cast -dsimp[Ni];have jC:∃m',m=m'+1:=⟨m-1,by omega⟩;obtain⟨m',vp⟩:=jC;have D6:aV d (aq d) l0=if d<=c+1 then dr 4 l2 else bW d m' (c+1) (.many x 0 (-1)) l2:=by
    rw[<-dG,vp,bW,aH wE];dsimp only;split<;>rfl
   refine⟨⟨by omega,by omega⟩,?_⟩;refine aG (mI (i+1) P4) ?_ ?_
   ·rintro _ w0 ⟨h8,rfl,yQ⟩;obtain rfl:w4=w0:=yQ.symm;have kU:=PS.len P4;have fM:=nG.len;have hzS:=kS.size;push_cast -dsimp[HP];refine⟨⟨m',c+1,.many x 0 (-1),l2,i+1,?_,by omega,⟨rfl,by omega,by omega⟩,?_,P4,kS⟩,by rw[kU,fM];omega⟩
    ·rw[D6,if_neg (by omega)]
    simp only[ai];exact⟨_,_,_,rfl,by omega,BY,rZ BX (by omega),VX⟩
   rintro ce w0 ⟨h8,ht,hb⟩;push_cast -dsimp;refine⟨4,_,?_,ht.mono (by have:=kS.size;omega),kS.trans (Kept.aO hb (X:=(·=pb)) (λi h1 h2=>by omega)) (λi _ h=>h)⟩;rw[D6,if_pos (by omega)];rfl
  obtain rfl:w3=w4:=qU.symm;push_cast -dsimp;refine aA (gG [43] P3) ?_;rintro _ w4 hT;rcases hT with ⟨gd,rfl,t4,l2,PI,yH,P4,kt,Lt⟩|⟨gd,rfl,qU⟩
  ·have lF:cM l1=.ok ((),l2):=by rw[PI];exact dV yH
   have mn:l1.length=l2.length+1:=by rw[PI,List.length_cons]
   have wE:eK l1=.ok (some (1,-1),l2):=by
    unfold eK ay;rw[gA,gd,if_neg (by decide),if_pos rfl,aH lF];rfl
   have BY4:=BY0.kept kt (by omega);have BX4:=BX3.kept kt (by omega);have k4:=k3.trans kt (λi _ h=>h);have V4:=V3.mono (X':=λb=>b<w.heap.size\/w'.heap.size<=b) kt (λi h=>by omega) (λi h=>h);push_cast -dsimp;refine aC BY4 (by simp) rfl ?_;intro w5 cO;have BY:aM w5 (w'.heap.size+1) 39 [.int .i64 6,.pointer none,.slice (some ⟨w'.heap.size,0,none⟩) 1 1,.int .i64 1,.int .i64 (-1)]:=cO.aN;have BX:=BX4.kept cO.kept (by omega);have P5:=P4.kept cO.kept (λi h=>by omega);have kS:=k4.trans cO.kept (λi h1 h2=>by omega);have VX:=V4.mono (X':=(·<w.heap.size)) cO.kept (λi h=>by omega) (λi h=>.inl h);push_cast -dsimp[Ni];have jC:∃m',m=m'+1:=⟨m-1,by omega⟩;obtain⟨m',vp⟩:=jC;have D6:aV d (aq d) l0=if d<=c+1 then dr 4 l2 else bW d m' (c+1) (.many x 1 (-1)) l2:=by
    rw[<-dG,vp,bW,aH wE];dsimp only;split<;>rfl
   refine⟨⟨by omega,by omega⟩,?_⟩;refine aG (mI (i+1) P5) ?_ ?_
   ·rintro _ w0 ⟨h8,rfl,yQ⟩;obtain rfl:w5=w0:=yQ.symm;have kU:=PS.len P5;have fM:=nG.len;have hzS:=kS.size;push_cast -dsimp[HP];refine⟨⟨m',c+1,.many x 1 (-1),l2,i+1,?_,by omega,⟨rfl,by omega,by omega⟩,?_,P5,kS⟩,by rw[kU,fM];omega⟩
    ·rw[D6,if_neg (by omega)]
    simp only[ai];exact⟨_,_,_,rfl,by omega,BY,rZ BX (by omega),VX⟩
   rintro ce w0 ⟨h8,ht,hb⟩;push_cast -dsimp;refine⟨4,_,?_,ht.mono (by have:=kS.size;omega),kS.trans (Kept.aO hb (X:=(·=pb)) (λi h1 h2=>by omega)) (λi _ h=>h)⟩;rw[D6,if_pos (by omega)];rfl
  obtain rfl:w3=w4:=qU.symm;push_cast -dsimp;refine aA (gG [63] P3) ?_;rintro _ w4 hT;rcases hT with ⟨lW,rfl,t4,l2,PI,yH,P4,kt,Lt⟩|⟨lW,rfl,qU⟩
  ·have lF:cM l1=.ok ((),l2):=by rw[PI];exact dV yH
   have mn:l1.length=l2.length+1:=by rw[PI,List.length_cons]
   have wE:eK l1=.ok (some (0,1),l2):=by
    unfold eK ay;rw[gA,gd,lW,if_neg (by decide),if_neg (by decide),if_pos rfl,aH lF];rfl
   have BY4:=BY0.kept kt (by omega);have BX4:=BX3.kept kt (by omega);have k4:=k3.trans kt (λi _ h=>h);have V4:=V3.mono (X':=λb=>b<w.heap.size\/w'.heap.size<=b) kt (λi h=>by omega) (λi h=>h);push_cast -dsimp;refine aC BY4 (by simp) rfl ?_;intro w5 cO;have BY:aM w5 (w'.heap.size+1) 39 [.int .i64 6,.pointer none,.slice (some ⟨w'.heap.size,0,none⟩) 1 1,.int .i64 0,.int .i64 1]:=cO.aN;have BX:=BX4.kept cO.kept (by omega);have P5:=P4.kept cO.kept (λi h=>by omega);have kS:=k4.trans cO.kept (λi h1 h2=>by omega);have VX:=V4.mono (X':=(·<w.heap.size)) cO.kept (λi h=>by omega) (λi h=>.inl h);push_cast -dsimp[Ni];have jC:∃m',m=m'+1:=⟨m-1,by omega⟩;obtain⟨m',vp⟩:=jC;have D6:aV d (aq d) l0=if d<=c+1 then dr 4 l2 else bW d m' (c+1) (.many x 0 1) l2:=by
    rw[<-dG,vp,bW,aH wE];dsimp only;split<;>rfl
   refine⟨⟨by omega,by omega⟩,?_⟩;refine aG (mI (i+1) P5) ?_ ?_
   ·rintro _ w0 ⟨h8,rfl,yQ⟩;obtain rfl:w5=w0:=yQ.symm;have kU:=PS.len P5;have fM:=nG.len;have hzS:=kS.size;push_cast -dsimp[HP];refine⟨⟨m',c+1,.many x 0 1,l2,i+1,?_,by omega,⟨rfl,by omega,by omega⟩,?_,P5,kS⟩,by rw[kU,fM];omega⟩
    ·rw[D6,if_neg (by omega)]
    simp only[ai];exact⟨_,_,_,rfl,by omega,BY,rZ BX (by omega),VX⟩
   rintro ce w0 ⟨h8,ht,hb⟩;push_cast -dsimp;refine⟨4,_,?_,ht.mono (by have:=kS.size;omega),kS.trans (Kept.aO hb (X:=(·=pb)) (λi h1 h2=>by omega)) (λi _ h=>h)⟩;rw[D6,if_pos (by omega)];rfl
  obtain rfl:w3=w4:=qU.symm;push_cast -dsimp;refine aA (gG [123] P3) ?_;rintro _ w4 hT;rcases hT with ⟨hs4,rfl,t4,l2,PI,yH,P4,kt,Lt⟩|⟨hs4,rfl,qU⟩
  ·have lF:cM l1=.ok ((),l2):=by rw[PI];exact dV yH
   have mn:l1.length=l2.length+1:=by rw[PI,List.length_cons]
   have od:eK l1=Cae.pb dC (λr=>pr (some r)) l2:=by
    unfold eK ay;rw[gA,gd,lW,hs4,if_neg (by decide),if_neg (by decide),if_neg (by decide),if_pos rfl,aH lF]
   have BY4:=BY0.kept kt (by omega);have BX4:=BX3.kept kt (by omega);have k4:=k3.trans kt (λi _ h=>h);have V4:=V3.mono (X':=λb=>b<w.heap.size\/w'.heap.size<=b) kt (λi h=>by omega) (λi h=>h);push_cast -dsimp;refine aG (O4 P4) ?_ ?_
   ·rintro _ w5 ⟨n1,l3,e3,⟨rfl,Yl⟩,P5,kt5⟩;have BY5:=BY4.kept kt5 (by omega);have BX5:=BX4.kept kt5 (by omega);have k5:=k4.trans kt5 (λi _ h=>h);have V5:=V4.mono (X':=λb=>b<w.heap.size\/w'.heap.size<=b) kt5 (λi h=>by omega) (λi h=>h);push_cast -dsimp;refine aC BY5 (by simp) rfl ?_;intro w6 bZ;have BY6:aM w6 (w'.heap.size+1) 39 [.int .i64 6,.pointer none,.slice (some ⟨w'.heap.size,0,none⟩) 1 1,.int .i64 n1,.int .i64 (-1)]:=bZ.aN;have cy6:w6.cell? ⟨w'.heap.size+1,3,none⟩=some (.int .i64 n1):=BY6.cell rfl;push_cast -dsimp[cy6];refine aC BY6 (by simp) rfl ?_;intro w7 fh;have BY7:aM w7 (w'.heap.size+1) 39 [.int .i64 6,.pointer none,.slice (some ⟨w'.heap.size,0,none⟩) 1 1,.int .i64 n1,.int .i64 n1]:=fh.aN;have k57:Kept (·=w'.heap.size+1) w5 w7:=bZ.kept.trans fh.kept (λi _ h=>h);have BX7:=BX5.kept k57 (by omega);have P7:=P5.kept k57 (λi h=>by omega);have k7:=k5.trans k57 (λi h1 h2=>by omega);have V7:=V5.mono (X':=λb=>b<w.heap.size\/w'.heap.size<=b) k57 (λi h=>by omega) (λi h=>h);push_cast -dsimp;refine aA (gG [44] P7) ?_;rintro _ w8 hT;rcases hT with ⟨hs5,rfl,t8,l4,el8,h58,P8,kt8,hz8⟩|⟨hs5,rfl,qU⟩
    ·have aJz:cM l3=.ok ((),l4):=by rw[el8];exact dV h58
     have BY8:=BY7.kept kt8 (by omega);have BX8:=BX7.kept kt8 (by omega);have k8:=k7.trans kt8 (λi _ h=>h);have V8:=V7.mono (X':=λb=>b<w.heap.size\/w'.heap.size<=b) kt8 (λi h=>by omega) (λi h=>h);have aIH:dC l2=ay (isKind 2) (Cae.pb j8 λhi=>if hi<n1 then dr 2 else Cae.pb (dB [125]) λ_=>pr ((n1:Int),(hi:Int))) (Cae.pb (dB [125]) λ_=>pr ((n1:Int),-1)) l4:=by
      unfold dC;rw[aH e3]
      show (if dT [44] l3 then _ else _)=_
      rw[hs5,if_pos rfl,aH aJz]
     push_cast -dsimp;refine aC BY8 (by simp) rfl ?_;intro w9 Ng;have BY9:aM w9 (w'.heap.size+1) 39 [.int .i64 6,.pointer none,.slice (some ⟨w'.heap.size,0,none⟩) 1 1,.int .i64 n1,.int .i64 (-1)]:=Ng.aN;have BX9:=BX8.kept Ng.kept (by omega);have P9:=P8.kept Ng.kept (λi h=>by omega);have k9:=k8.trans Ng.kept (λi h1 h2=>by omega);have V9:=V8.mono (X':=λb=>b<w.heap.size\/w'.heap.size<=b) Ng.kept (λi h=>by omega) (λi h=>h);obtain⟨t9,r9,el9⟩:=P9.tl.cons;have P9':=P9;rw[el9]at P9';obtain⟨b9,o9,c9,CI,hc9,aTs,c90,_,_,_⟩:=P9'.hd;have cb9:w9.cell? ⟨pb,0,none⟩=some (.slice (some ⟨b9,o9,none⟩) (r9.length+1) c9):=CI.cell rfl;push_cast -dsimp[cb9,c90];refine⟨by omega,λnj=>?_,λnj=>?_⟩
     ·have WA:isKind 2 l4=true:=by
       have:t9.kind=2:=by omega
       rw[el9];simp[isKind,Cae.hd,this]
      have Fl:dC l2=Cae.pb j8 (λhi=>if hi<n1 then dr 2 else Cae.pb (dB [125]) λ_=>pr ((n1:Int),(hi:Int))) l4:=by
       rw[aIH];unfold ay;rw[WA,if_pos rfl]
      refine aG (O4 P9) ?_ ?_
      ·rintro _ wa ⟨n2,l5,e5,⟨rfl,hn2⟩,Pa,u7⟩;have BYa:=BY9.kept u7 (by omega);have BXa:=BX9.kept u7 (by omega);have ka:=k9.trans u7 (λi _ h=>h);have Va:=V9.mono (X':=λb=>b<w.heap.size\/w'.heap.size<=b) u7 (λi h=>by omega) (λi h=>h);push_cast -dsimp;refine aC BYa (by simp) rfl ?_;intro wb cL;have BYb:aM wb (w'.heap.size+1) 39 [.int .i64 6,.pointer none,.slice (some ⟨w'.heap.size,0,none⟩) 1 1,.int .i64 n1,.int .i64 n2]:=cL.aN;have BXb:=BXa.kept cL.kept (by omega);have Pb:=Pa.kept cL.kept (λi h=>by omega);have kb':=ka.trans cL.kept (λi h1 h2=>by omega);have VB':=Va.mono (X':=λb=>b<w.heap.size\/w'.heap.size<=b) cL.kept (λi h=>by omega) (λi h=>h);push_cast -dsimp;refine bx (λw'=>w'=wb.drew) mixed (by kernel_rfl) rfl ?_;have d3:wb.drew.cell? ⟨w'.heap.size+1,3,none⟩=some (.int .i64 n1):=BYb.drew.cell rfl;have d4:wb.drew.cell? ⟨w'.heap.size+1,4,none⟩=some (.int .i64 n2):=BYb.drew.cell rfl;have kd:Kept (λ_=>False) wb wb.drew:=(Kept.refl _ _).drew;have BYd:=BYb.kept kd (λh=>h);have BXd:=BXb.kept kd (λh=>h);have Pd:=Pb.kept kd (λi h=>h.elim);have u6:=kb'.trans kd (λi h1 h2=>h2.elim);have VB:=VB'.mono (X':=λb=>b<w.heap.size\/w'.heap.size<=b) kd (λi h=>h.elim) (λi h=>h);push_cast -dsimp[d3,d4];refine⟨λbU h=>by rw[h,d4];exact rfl,λbU h=>by rw[h,d3];exact rfl,λQ0=>?_,λVy=>?_⟩
       ·refine aG (jZ 2 Pd) (λ_ _ h=>h.elim) ?_;rintro ce we ⟨ht,hb⟩;push_cast -dsimp;have Kc:dC l2=.error (2,(Cae.hd l5).pos):=by
         rw[Fl,aH e5,if_pos (by omega)];rfl
        refine⟨2,_,?_,ht.mono (by have:=u6.size;omega),u6.trans (Kept.aO hb (X:=(·=pb)) (λi h1 h2=>by omega)) (λi _ h=>h)⟩;rw[<-dG];refine ll hm ?_;rw[od];unfold Cae.pb;rw[Kc]
       have aII:dC l2=Cae.pb (dB [125]) (λ_=>pr ((n1:Int),(n2:Int))) l5:=by
        rw[Fl,aH e5,if_neg (by omega)]
       refine aG (fb [125] Pd) ?_ ?_
       ·rintro _ wm ⟨_,lm,em,rfl,Pm,km⟩;have Kc:dC l2=.ok (((n1:Int),(n2:Int)),lm):=by rw[aII,aH em];rfl
        have wE:eK l1=.ok (some ((n1:Int),(n2:Int)),lm):=by rw[od,aH Kc];rfl
        have hlm:lm.length<=l2.length:=by
         obtain⟨pre,_,e,_⟩:=rQ _ _ _ Kc;rw[e,List.length_append];omega
        have BY:=BYd.kept km (by omega);have BX:=BXd.kept km (by omega);have kS:=u6.trans km (λi _ h=>h);have VX:=VB.mono (X':=(·<w.heap.size)) km (λi h=>by omega) (λi h=>.inl h);push_cast -dsimp[Ni];have jC:∃m',m=m'+1:=⟨m-1,by omega⟩;obtain⟨m',vp⟩:=jC;have D6:aV d (aq d) l0=if d<=c+1 then dr 4 lm else bW d m' (c+1) (.many x (n1:Int) (n2:Int)) lm:=by
         rw[<-dG,vp,bW,aH wE];dsimp only;split<;>rfl
        refine⟨⟨by omega,by omega⟩,?_⟩;refine aG (mI (i+1) Pm) ?_ ?_
        ·rintro _ w0 ⟨h8,rfl,yQ⟩;obtain rfl:wm=w0:=yQ.symm;have kU:=PS.len Pm;have fM:=nG.len;have hzS:=kS.size;push_cast -dsimp[HP];refine⟨⟨m',c+1,.many x (n1:Int) (n2:Int),lm,i+1,?_,by omega,⟨rfl,by omega,by omega⟩,?_,Pm,kS⟩,by rw[kU,fM];omega⟩
         ·rw[D6,if_neg (by omega)]
         simp only[ai];exact⟨_,_,_,rfl,by omega,BY,rZ BX (by omega),VX⟩
        rintro ce w0 ⟨h8,ht,hb⟩;push_cast -dsimp;refine⟨4,_,?_,ht.mono (by have:=kS.size;omega),kS.trans (Kept.aO hb (X:=(·=pb)) (λi h1 h2=>by omega)) (λi _ h=>h)⟩;rw[D6,if_pos (by omega)];rfl
       rintro ce we ⟨e,pos,he,ht,eN⟩;push_cast -dsimp;refine⟨e,pos,?_,ht.mono (by have:=u6.size;omega),u6.trans eN (λi _ h=>h)⟩;rw[<-dG];refine ll hm ?_;have Kc:dC l2=.error (e,pos):=by rw[aII];unfold Cae.pb;rw[he]
       rw[od];unfold Cae.pb;rw[Kc]
      ·
       rintro ce we ⟨e,pos,he,ht,eN⟩
       push_cast -dsimp
       refine⟨e,pos,?_,ht.mono (by have:=k9.size;omega),k9.trans eN (λi _ h=>h)⟩
       rw[<-dG]
       refine ll hm ?_
       rw[od]
       unfold Cae.pb
       rw[show dC l2=.error (e,pos) by rw[Fl];unfold Cae.pb;rw[he]]
     have WA:isKind 2 l4=false:=by
      have:t9.kind≠2:=λe=>nj (by omega);rw[el9];simp[isKind,Cae.hd,this]
     have Fl:dC l2=Cae.pb (dB [125]) (λ_=>pr ((n1:Int),-1)) l4:=by
      rw[aIH];unfold ay;rw[WA,if_neg (by decide)]
     have VB:=V9;refine aG (fb [125] P9) ?_ ?_
     ·rintro _ wm ⟨_,lm,em,rfl,Pm,km⟩;have Kc:dC l2=.ok (((n1:Int),(-1)),lm):=by rw[Fl,aH em];rfl
      have wE:eK l1=.ok (some ((n1:Int),(-1)),lm):=by rw[od,aH Kc];rfl
      have hlm:lm.length<=l2.length:=by
       obtain⟨pre,_,e,_⟩:=rQ _ _ _ Kc;rw[e,List.length_append];omega
      have BY:=BY9.kept km (by omega);have BX:=BX9.kept km (by omega);have kS:=k9.trans km (λi _ h=>h);have VX:=VB.mono (X':=(·<w.heap.size)) km (λi h=>by omega) (λi h=>.inl h);push_cast -dsimp[Ni];have jC:∃m',m=m'+1:=⟨m-1,by omega⟩;obtain⟨m',vp⟩:=jC;have D6:aV d (aq d) l0=if d<=c+1 then dr 4 lm else bW d m' (c+1) (.many x (n1:Int) (-1)) lm:=by
       rw[<-dG,vp,bW,aH wE];dsimp only;split<;>rfl
      refine⟨⟨by omega,by omega⟩,?_⟩;refine aG (mI (i+1) Pm) ?_ ?_
      ·rintro _ w0 ⟨h8,rfl,yQ⟩;obtain rfl:wm=w0:=yQ.symm;have kU:=PS.len Pm;have fM:=nG.len;have hzS:=kS.size;push_cast -dsimp[HP];refine⟨⟨m',c+1,.many x (n1:Int) (-1),lm,i+1,?_,by omega,⟨rfl,by omega,by omega⟩,?_,Pm,kS⟩,by rw[kU,fM];omega⟩
       ·rw[D6,if_neg (by omega)]
       simp only[ai];exact⟨_,_,_,rfl,by omega,BY,rZ BX (by omega),VX⟩
      rintro ce w0 ⟨h8,ht,hb⟩;push_cast -dsimp;refine⟨4,_,?_,ht.mono (by have:=kS.size;omega),kS.trans (Kept.aO hb (X:=(·=pb)) (λi h1 h2=>by omega)) (λi _ h=>h)⟩;rw[D6,if_pos (by omega)];rfl
     rintro ce we ⟨e,pos,he,ht,eN⟩;push_cast -dsimp;refine⟨e,pos,?_,ht.mono (by have:=k9.size;omega),k9.trans eN (λi _ h=>h)⟩;rw[<-dG];refine ll hm ?_;have Kc:dC l2=.error (e,pos):=by rw[Fl];unfold Cae.pb;rw[he]
     rw[od];unfold Cae.pb;rw[Kc]
    obtain rfl:w7=w8:=qU.symm;have Fl:dC l2=Cae.pb (dB [125]) (λ_=>pr ((n1:Int),(n1:Int))) l3:=by
     unfold dC;rw[aH e3]
     show (if dT [44] l3 then _ else _)=_
     rw[hs5,if_neg (by decide)]
    have VB:=V7;push_cast -dsimp;refine aG (fb [125] P7) ?_ ?_
    ·rintro _ wm ⟨_,lm,em,rfl,Pm,km⟩;have Kc:dC l2=.ok (((n1:Int),(n1:Int)),lm):=by rw[Fl,aH em];rfl
     have wE:eK l1=.ok (some ((n1:Int),(n1:Int)),lm):=by rw[od,aH Kc];rfl
     have hlm:lm.length<=l2.length:=by
      obtain⟨pre,_,e,_⟩:=rQ _ _ _ Kc;rw[e,List.length_append];omega
     have BY:=BY7.kept km (by omega);have BX:=BX7.kept km (by omega);have kS:=k7.trans km (λi _ h=>h);have VX:=VB.mono (X':=(·<w.heap.size)) km (λi h=>by omega) (λi h=>.inl h);push_cast -dsimp[Ni];have jC:∃m',m=m'+1:=⟨m-1,by omega⟩;obtain⟨m',vp⟩:=jC;have D6:aV d (aq d) l0=if d<=c+1 then dr 4 lm else bW d m' (c+1) (.many x (n1:Int) (n1:Int)) lm:=by
      rw[<-dG,vp,bW,aH wE];dsimp only;split<;>rfl
     refine⟨⟨by omega,by omega⟩,?_⟩;refine aG (mI (i+1) Pm) ?_ ?_
     ·rintro _ w0 ⟨h8,rfl,yQ⟩;obtain rfl:wm=w0:=yQ.symm;have kU:=PS.len Pm;have fM:=nG.len;have hzS:=kS.size;push_cast -dsimp[HP];refine⟨⟨m',c+1,.many x (n1:Int) (n1:Int),lm,i+1,?_,by omega,⟨rfl,by omega,by omega⟩,?_,Pm,kS⟩,by rw[kU,fM];omega⟩
      ·rw[D6,if_neg (by omega)]
      simp only[ai];exact⟨_,_,_,rfl,by omega,BY,rZ BX (by omega),VX⟩
     rintro ce w0 ⟨h8,ht,hb⟩;push_cast -dsimp;refine⟨4,_,?_,ht.mono (by have:=kS.size;omega),kS.trans (Kept.aO hb (X:=(·=pb)) (λi h1 h2=>by omega)) (λi _ h=>h)⟩;rw[D6,if_pos (by omega)];rfl
    rintro ce we ⟨e,pos,he,ht,eN⟩;push_cast -dsimp;refine⟨e,pos,?_,ht.mono (by have:=k7.size;omega),k7.trans eN (λi _ h=>h)⟩;rw[<-dG];refine ll hm ?_;have Kc:dC l2=.error (e,pos):=by rw[Fl];unfold Cae.pb;rw[he]
    rw[od];unfold Cae.pb;rw[Kc]
   ·
    rintro ce we ⟨e,pos,he,ht,eN⟩
    push_cast -dsimp
    refine⟨e,pos,?_,ht.mono (by have:=k4.size;omega),k4.trans eN (λi _ h=>h)⟩
    rw[<-dG]
    refine ll hm ?_
    rw[od]
    unfold Cae.pb
    rw[show dC l2=.error (e,pos) by unfold dC Cae.pb;rw[he]]
  obtain rfl:w3=w4:=qU.symm;have wE:eK l1=.ok (none,l1):=by
   unfold eK ay;rw[gA,gd,lW,hs4,if_neg (by decide),if_neg (by decide),if_neg (by decide),if_neg (by decide)];rfl
  push_cast -dsimp[HP];refine⟨x,l1,?_,V3.mono (X':=(·<w.heap.size)) (Kept.refl (λ_=>False) _) (λ_ h=>h.elim) (λi h=>.inl h),P3,k3⟩;rw[<-dG];obtain⟨m',rfl⟩:∃m',m=m'+1:=⟨m-1,by omega⟩;rw[bW,aH wE];rfl
 rintro c w3 ⟨e,pos,he,ht,AX⟩;push_cast -dsimp;refine⟨e,pos,?_,ht,AX⟩;unfold aV Cae.pb;rw[he]
end Go.Proofs.YtledlfbbebodgaaGreatDoor
end
section
end
section
namespace Go.Proofs.YtledlfbbebodgaaGreatDoor
open Go.Vc Go.Proofs Go.RowKit Cae
attribute [local irreducible] dd ae ak a7 runK bE Sl Vc.Own vc aU cJ a8
def Sh {α:Type}(p:Pa α):Prop:=∀l x l',p l=.ok (x,l')->l'.length<l.length
def Le {α:Type}(p:Pa α):Prop:=∀l x l',p l=.ok (x,l')->l'.length<=l.length
theorem Lo.le {α:Type}{R:α->α->Prop}{p:Pa α}(h:Lo R p p):Le p:=λl x l' e=>by
 obtain⟨pre,_,e,_⟩:=h l x l' e;rw[e,List.length_append];omega
theorem gS.sh {α:Type}{R:α->α->Prop}{p:Pa α}(h:gS R p p):Sh p:=λl x l' e=>by
 obtain⟨pre,dD,_,e,_⟩:=h l x l' e
 have:=List.length_pos_iff.2 dD;rw[e,List.length_append];omega
theorem Sh.le {α:Type}{p:Pa α}(h:Sh p):Le p:=λl x l' e=>Nat.le_of_lt (h l x l' e)
theorem Sh.pb {α β:Type}{p:Pa α}{q:α->Pa β}(h:Sh p)(k:∀x,Le (q x)):Sh (Cae.pb p q):=λl y l' e=>by
 obtain⟨x,l1,e1,e2⟩:=dq e;exact Nat.lt_of_le_of_lt (k x _ _ _ e2) (h _ _ _ e1)
theorem Sh.pbr {α β:Type}{p:Pa α}{q:α->Pa β}(h:Le p)(k:∀x,Sh (q x)):Sh (Cae.pb p q):=λl y l' e=>by
 obtain⟨x,l1,e1,e2⟩:=dq e;exact Nat.lt_of_lt_of_le (k x _ _ _ e2) (h _ _ _ e1)
theorem Le.pb {α β:Type}{p:Pa α}{q:α->Pa β}(h:Le p)(k:∀x,Le (q x)):Le (Cae.pb p q):=λl y l' e=>by
 obtain⟨x,l1,e1,e2⟩:=dq e;exact Nat.le_trans (k x _ _ _ e2) (h _ _ _ e1)
theorem Le.pr {α:Type}{x:α}:Le (pr x):=λl y l' e=>by cases e;exact Nat.le_refl _
theorem Sh.ay {α:Type}{c:List Tok->Bool}{p q:Pa α}(h:Sh p)(k:Sh q):Sh (Cae.ay c p q):=λl x l' e=>by
 unfold Cae.ay at e;split at e
 ·exact h _ _ _ e
 exact k _ _ _ e
theorem Sh.fail {α:Type}{n:Nat}:Sh (dr n:Pa α):=λl x l' e=>by cases e
theorem GL:Le dW:=Lo.le Lo.dW
theorem Bm:Sh cM:=gS.sh ft
theorem aF3:∀d,Sh (lH d)
 | 0=>Sh.fail
 | d+1=>Sh.ay (gS.sh Wl) (Sh.ay (Sh.pbr GL λ_=>Sh.pb Bm λ_=>Le.pb (Lo.le (pI d)) λ_=>Le.pr)
   (Sh.ay (Sh.pb Bm λ_=>Le.pb (Lo.le (Au (pI d))) λ_=>Le.pb (gS.sh (iE _)).le λ_=>Le.pr)
    (Sh.pbr GL λ_=>Sh.pb (gS.sh GQ) λ_=>Le.pr)))
theorem aBO:∀d,Sh (aq d)
 | 0=>Sh.fail
 | d+1=>Sh.ay (Sh.pb Bm λ_=>Le.pr) (Sh.ay (Sh.pb Bm λ_=>Le.pr) (Sh.ay (Sh.pb Bm λ_=>Le.pb (Lo.le (GR (yw d))) λ_=>Le.pb (gS.sh (iE _)).le λ_=>Le.pr)
   (Sh.ay (Sh.pb (aF3 (d+1)) λ_=>Le.pr) Sh.fail)))
theorem S6 {d:Nat}{l l':List Tok}{x:aF}(h:aq d l=.ok (x,l')):l'.length<l.length:=aBO d _ _ _ h
theorem mD {d:Nat}{l l':List Tok}{x:aF}(h:aV d (aq d) l=.ok (x,l')):l'.length<l.length:=by
 obtain⟨y,l1,h1,h2⟩:=dq h;have a:=S6 h1;obtain⟨pre,_,e,_⟩:=pH d _ _ _ _ (show PE y y from λ_=>rfl) _ _ _ h2
 have:l1.length=pre.length+l'.length:=by rw[e,List.length_append]
 omega
theorem Xz (d:Nat)(ha:TM d):aHj d:=by
 intro n vt hn pb B w l0 h0;have hle:=h0.le;have aw:=h0.lt;refine bM Tryz.func134 rfl (by kernel_rfl) [.tmp 4] rfl ?_;push_cast -dsimp(maxSteps:=4000000) [Tryz.ntmps134];push_cast -dsimp;refine aR ?_;intro w1 aZ;have B1:aM w1 w.heap.size 39 [.int .i64 4,.pointer none,.slice none 0 0,.int .i64 0,.int .i64 0]:=aZ.aN;have P1:=h0.below aZ.below;have z1:=aZ.size;have k1:Kept (·=pb) w w1:=Kept.new aZ;push_cast -dsimp;refine aL [8,9,10,11,12,13,14,15,16,17,18,19,20,21,22,23,24,25,26,27,28,29,30,31,32,33,34,35,36,37,38,39,40,41,42,43] (λz w'=>∃(m:Nat) (acc:List aF) (l1:List Tok) (sv:Value) (vs:List Nat),bI (aV d (aq d)) m acc l1=bI (aV d (aq d)) 1000 [] l0/\l1.length<m/\acc.length+m<=1000 /\
   aM w' w.heap.size 39 [.int .i64 4,.pointer none,sv,.int .i64 0,.int .i64 0]/\Go.Vc.Own (w.heap.size+1) 35 1 fB w' sv vs/\aQ (λb=>b<w.heap.size\/b=w.heap.size\/sv.ownBlock=some b) w' vs acc/\PS pb B w' l1/\Kept (·=pb) w w') (λz w'=>xc w' pb) ?_ ?_
 ·have aw:l0.length<1000:=by have:=h0.tl.len;omega
  exact⟨1000,[],l0,_,[],rfl,aw,by simp,B1,Vc.Own.nil (enc:=fB) _ _ (λ_=>rfl) _,by simp only[aQ],P1,k1⟩
 rintro z w' ⟨m,acc,l1,sv,vs,dG,hm,I1,hB,hO,hV,nG,Df⟩;obtain⟨t1,r1,mj⟩:=nG.tl.cons;have aIf:=nG;rw[mj]at aIf;obtain⟨b,o,c,hBp,hc,dD,c0,c1,c2,c3⟩:=aIf.hd;have cb:w'.cell? ⟨pb,0,none⟩=some (.slice (some ⟨b,o,none⟩) (r1.length+1) c):=hBp.cell rfl;have hzw:=Df.size;have fq:lJ l1=(t1.kind == 3 || j5 l1 || dT [46] l1 || dT [36] l1 || dT [40] l1):=by unfold lJ isKind;rw[mj];rfl
 push_cast -dsimp[cb,c0];refine⟨by omega,λh3=>?_,λh3=>?_⟩
 ·have AX:(t1.kind == 3)=false:=by
   have:t1.kind≠3:=λe=>h3 (by omega);simpa using this
  rw[AX,Bool.false_or]at fq;refine aA (G0 nG) ?_;rintro _ w2 ⟨rfl,b2⟩;have P2:=nG.below b2;have iL:=hB.below b2 hB.lt;have fJ:=hO.below b2;have p8:=aQ.mono (X':=λb=>b<w.heap.size\/b=w.heap.size\/sv.ownBlock=some b) (Kept.aO b2 (X:=λ_=>False) (λi h1 h2=>by omega)) (λ_ h=>h.elim) (λ_ h=>h) hV;have k2:=Df.trans (Kept.aO b2 (X:=(·=pb)) (λi h1 h2=>by omega)) (λi _ h=>h);cases o8:j5 l1 with
  | true =>
   have ba:lJ l1=true:=by rw[fq,o8];rfl
   push_cast -dsimp;have jC:∃m',m=m'+1:=⟨m-1,by omega⟩;obtain⟨m',vp⟩:=jC;have hz2:w.heap.size<w2.heap.size:=iL.lt;have kd:Kept (λ_=>False) w2 w2.drew:=(Kept.refl _ _).drew;have Cj:=iL.kept kd (λh=>h);have Pd:=P2.kept kd (λi h=>h.elim);have u6:=k2.trans kd (λi h1 h2=>h2.elim);have d2:w2.drew.cell? ⟨w.heap.size,2,none⟩=some sv:=Cj.cell rfl;have dE:bI (aV d (aq d)) m acc l1=Cae.pb (aV d (aq d)) (λx=>bI (aV d (aq d)) m' (acc++[x])) l1:=by
    rw[vp,bI];unfold ay;rw[ba,if_pos rfl]
   cases hp:aV d (aq d) l1 with
   | error e =>
    refine oZ (E:=Kl pb w l0 (iR (aV d (aq d)))) [(),(),(),(),(),(),()] mixed (by kernel_rfl) (λce te we hE=>?_) ?_
    ·push_cast -dsimp;exact hE
    push_cast -dsimp[d2];refine⟨λbU h=>by rw[h,d2];exact rfl,?_⟩;refine oA (ha n vt hn pb B w2.drew l1 Pd) (λv we ⟨x,l',h1,_⟩=>by rw[hp]at h1;cases h1) ?_;rintro ce we ⟨en,pos,he,ht,eN⟩;refine⟨en,pos,?_,ht.mono (by have:=u6.size;omega),u6.trans eN (λi _ h=>h)⟩;have hl:bI (aV d (aq d)) 1000 [] l0=.error (en,pos):=by
     rw[<-dG,dE];unfold Cae.pb;rw[he]
    unfold iR Cae.pb;rw[hl]
   | ok q =>
    obtain⟨x,l2⟩:=q;have mn:l2.length<l1.length:=mD hp;refine eE (λw'=>aM w' w.heap.size 39 [.int .i64 4,.pointer none,sv,.int .i64 0,.int .i64 0]) mixed (by kernel_rfl) (by simp) iL.drew ?_;push_cast -dsimp[d2];refine⟨λbU h=>by rw[aM.cell h (o:=2) rfl];exact rfl,?_⟩;refine aG (ha n vt hn pb B w2.drew l1 Pd) ?_ (λce we ⟨en,pos,he,_⟩=>by rw[hp]at he;cases he);rintro u w3 ⟨x',Wd,e3,V3,P3,k3⟩;obtain⟨rfl,rfl⟩:x=x'/\l2=Wd:=by rw[hp]at e3;cases e3;exact⟨rfl,rfl⟩
    obtain⟨ub,rfl,HL,Qi⟩:=V3.ptr;have B3:=Cj.kept k3 (by omega);have z3:=k3.size;have hzd:w2.heap.size=w2.drew.heap.size:=rfl;have fg:∀g,sv.ownBlock=some g->g<w2.heap.size:=λg hg=>(fJ.block g hg).2;have NV:=(fJ.aI kd (λg _ h=>h)).aI k3 (λg hg h=>by have:=(fJ.block g hg).1;omega);have L5:=aQ.mono (X':=λb=>(b<w.heap.size\/b=w.heap.size\/sv.ownBlock=some b)\/w2.heap.size<=b) ((kd.weaken (Y:=(·=pb)) (λi _ h=>h.elim)).trans k3 (λi _ h=>h)) (λi h=>by omega) (λi h=>h) (aQ.top p8);refine⟨B3,?_⟩;push_cast -dsimp;refine cT iM rfl rfl (by omega) ?_;intro w4 az;have B4:=B3.below az.below B3.lt;have z4:=az.size;have vZ:=NV.new az;have P4:=P3.below az.below;refine⟨B4,?_⟩;push_cast -dsimp;refine aS (base:=w.heap.size+1) [ub] (enc:=fB) iM vZ (by rfl) (λj y hy=>by simpa[fB,bd] using az.cell hy) mK (by rw[aQ.len p8];simp only[List.length_cons,List.length_nil];omega) (by omega) ?_;intro sv5 w5 ja yO xP;have kg:Kept (λj=>sv.ownBlock=some j) w4 w5:=Kept.grown yO (λ_ h=>h);have yo:∀g,sv.ownBlock=some g->w.heap.size+1<=g:=λg hg=>(fJ.block g hg).1;have B5:=B4.kept kg (λh=>by have:=yo _ h;omega);have P5:=P4.kept kg (λi h=>by have:=yo _ h;omega);have z5:=kg.size;refine⟨B5,?_⟩;obtain⟨a5,c5,rfl⟩:=ja.slice;push_cast -dsimp;refine aC B5 (by simp) rfl ?_;intro w6 bZ;have B6:aM w6 w.heap.size 39 [.int .i64 4,.pointer none,.slice a5 (vs++[ub]).length c5,.int .i64 0,.int .i64 0]:=bZ.aN;have P6:=P5.kept bZ.kept (λi h=>by omega);have z6:=bZ.size
    have se:=ja.aI bZ.kept (λg hg h=>by have:=(ja.block g hg).1;omega);have k6:=(((u6.trans k3 (λi _ h=>h)).trans (Kept.new (X:=(·=pb)) az) (λi _ h=>h)).trans kg (λi h1 h2=>by have:=yo _ h2;omega)).trans bZ.kept (λi h1 h2=>by omega);have kY:Kept (λi=>i=w.heap.size\/sv.ownBlock=some i) w3 w6:=((Kept.new (X:=λi=>i=w.heap.size\/sv.ownBlock=some i) az).trans kg (λi _ h=>.inr h)).trans bZ.kept (λi _ h=>.inl h);have hX:∀i,(i<w.heap.size\/i=w.heap.size\/(Value.slice a5 (vs++[ub]).length c5).ownBlock=some i)->i<w.heap.size\/i=w.heap.size\/sv.ownBlock=some i\/w4.heap.size<=i:=λi h=>by
     rcases h with h|h|h
     ·exact .inl h
     ·exact .inr (.inl h)
     rcases xP i h with h|h
     ·exact .inr (.inr (.inl h))
     exact .inr (.inr (.inr h))
    have VZ:aQ (λb=>b<w.heap.size\/b=w.heap.size\/(Value.slice a5 (vs++[ub]).length c5).ownBlock=some b) w6 (vs++[ub]) (acc++[x]):=by
     refine aQ.snoc (aQ.mono kY (λi h=>?_) (λi h=>?_) L5) (ai.mono kY (λi h=>?_) (λi h=>?_) V3.top)
     ·rcases h with h|h
      ·exact .inl (.inr (.inl h))
      exact .inl (.inr (.inr h))
     ·rcases hX i h with h|h|h|h
      ·exact .inl (.inl h)
      ·exact .inl (.inr (.inl h))
      ·exact .inl (.inr (.inr h))
      exact .inr (by omega)
     ·rcases h with h|h
      ·exact .inl (by omega)
      exact .inl (fg i h)
     rcases hX i h with h|h|h|h
     ·exact .inl (by omega)
     ·exact .inl (by omega)
     ·exact .inl (fg i h)
     exact .inr (by omega)
    have qP:=P6.len;have fM:=nG.len;have jD:bI (aV d (aq d)) m' (acc++[x]) l2=bI (aV d (aq d)) 1000 [] l0:=by rw[<-dG,dE,aH hp]
    push_cast -dsimp;exact⟨⟨m',acc++[x],l2,_,vs++[ub],jD,by omega,by rw[List.length_append,List.length_singleton];omega,B6,se,VZ,P6,k6⟩,by rw[qP,fM];exact mn⟩
  | false =>
   rw[o8,Bool.false_or]at fq;push_cast -dsimp;refine aA (B9 [46] P2) ?_;rintro _ w3 ⟨rfl,dZ⟩;obtain rfl:w2=w3:=dZ.symm;cases gA:dT [46] l1 with
   | true =>
    have ba:lJ l1=true:=by rw[fq,gA];rfl
    push_cast -dsimp;have jC:∃m',m=m'+1:=⟨m-1,by omega⟩;obtain⟨m',vp⟩:=jC;have hz2:w.heap.size<w2.heap.size:=iL.lt;have kd:Kept (λ_=>False) w2 w2.drew:=(Kept.refl _ _).drew;have Cj:=iL.kept kd (λh=>h);have Pd:=P2.kept kd (λi h=>h.elim);have u6:=k2.trans kd (λi h1 h2=>h2.elim);have d2:w2.drew.cell? ⟨w.heap.size,2,none⟩=some sv:=Cj.cell rfl;have dE:bI (aV d (aq d)) m acc l1=Cae.pb (aV d (aq d)) (λx=>bI (aV d (aq d)) m' (acc++[x])) l1:=by
     rw[vp,bI];unfold ay;rw[ba,if_pos rfl]
    cases hp:aV d (aq d) l1 with
    | error e =>
     refine oZ (E:=Kl pb w l0 (iR (aV d (aq d)))) [(),(),(),(),(),(),()] mixed (by kernel_rfl) (λce te we hE=>?_) ?_
     ·push_cast -dsimp;exact hE
     push_cast -dsimp[d2];refine⟨λbU h=>by rw[h,d2];exact rfl,?_⟩;refine oA (ha n vt hn pb B w2.drew l1 Pd) (λv we ⟨x,l',h1,_⟩=>by rw[hp]at h1;cases h1) ?_;rintro ce we ⟨en,pos,he,ht,eN⟩;refine⟨en,pos,?_,ht.mono (by have:=u6.size;omega),u6.trans eN (λi _ h=>h)⟩;have hl:bI (aV d (aq d)) 1000 [] l0=.error (en,pos):=by
      rw[<-dG,dE];unfold Cae.pb;rw[he]
     unfold iR Cae.pb;rw[hl]
    | ok q =>
     obtain⟨x,l2⟩:=q;have mn:l2.length<l1.length:=mD hp;refine eE (λw'=>aM w' w.heap.size 39 [.int .i64 4,.pointer none,sv,.int .i64 0,.int .i64 0]) mixed (by kernel_rfl) (by simp) iL.drew ?_;push_cast -dsimp[d2];refine⟨λbU h=>by rw[aM.cell h (o:=2) rfl];exact rfl,?_⟩;refine aG (ha n vt hn pb B w2.drew l1 Pd) ?_ (λce we ⟨en,pos,he,_⟩=>by rw[hp]at he;cases he);rintro u w3 ⟨x',Wd,e3,V3,P3,k3⟩;obtain⟨rfl,rfl⟩:x=x'/\l2=Wd:=by rw[hp]at e3;cases e3;exact⟨rfl,rfl⟩
     obtain⟨ub,rfl,HL,Qi⟩:=V3.ptr;have B3:=Cj.kept k3 (by omega);have z3:=k3.size;have hzd:w2.heap.size=w2.drew.heap.size:=rfl;have fg:∀g,sv.ownBlock=some g->g<w2.heap.size:=λg hg=>(fJ.block g hg).2;have NV:=(fJ.aI kd (λg _ h=>h)).aI k3 (λg hg h=>by have:=(fJ.block g hg).1;omega);have L5:=aQ.mono (X':=λb=>(b<w.heap.size\/b=w.heap.size\/sv.ownBlock=some b)\/w2.heap.size<=b) ((kd.weaken (Y:=(·=pb)) (λi _ h=>h.elim)).trans k3 (λi _ h=>h)) (λi h=>by omega) (λi h=>h) (aQ.top p8);refine⟨B3,?_⟩;push_cast -dsimp;refine cT iM rfl rfl (by omega) ?_;intro w4 az;have B4:=B3.below az.below B3.lt;have z4:=az.size;have vZ:=NV.new az;have P4:=P3.below az.below;refine⟨B4,?_⟩;push_cast -dsimp;refine aS (base:=w.heap.size+1) [ub] (enc:=fB) iM vZ (by rfl) (λj y hy=>by simpa[fB,bd] using az.cell hy) mK (by rw[aQ.len p8];simp only[List.length_cons,List.length_nil];omega) (by omega) ?_;intro sv5 w5 ja yO xP;have kg:Kept (λj=>sv.ownBlock=some j) w4 w5:=Kept.grown yO (λ_ h=>h);have yo:∀g,sv.ownBlock=some g->w.heap.size+1<=g:=λg hg=>(fJ.block g hg).1;have B5:=B4.kept kg (λh=>by have:=yo _ h;omega);have P5:=P4.kept kg (λi h=>by have:=yo _ h;omega);have z5:=kg.size;refine⟨B5,?_⟩;obtain⟨a5,c5,rfl⟩:=ja.slice;push_cast -dsimp;refine aC B5 (by simp) rfl ?_;intro w6 bZ;have B6:aM w6 w.heap.size 39 [.int .i64 4,.pointer none,.slice a5 (vs++[ub]).length c5,.int .i64 0,.int .i64 0]:=bZ.aN;have P6:=P5.kept bZ.kept (λi h=>by omega);have z6:=bZ.size
     have se:=ja.aI bZ.kept (λg hg h=>by have:=(ja.block g hg).1;omega);have k6:=(((u6.trans k3 (λi _ h=>h)).trans (Kept.new (X:=(·=pb)) az) (λi _ h=>h)).trans kg (λi h1 h2=>by have:=yo _ h2;omega)).trans bZ.kept (λi h1 h2=>by omega);have kY:Kept (λi=>i=w.heap.size\/sv.ownBlock=some i) w3 w6:=((Kept.new (X:=λi=>i=w.heap.size\/sv.ownBlock=some i) az).trans kg (λi _ h=>.inr h)).trans bZ.kept (λi _ h=>.inl h);have hX:∀i,(i<w.heap.size\/i=w.heap.size\/(Value.slice a5 (vs++[ub]).length c5).ownBlock=some i)->i<w.heap.size\/i=w.heap.size\/sv.ownBlock=some i\/w4.heap.size<=i:=λi h=>by
      rcases h with h|h|h
      ·exact .inl h
      ·exact .inr (.inl h)
      rcases xP i h with h|h
      ·exact .inr (.inr (.inl h))
      exact .inr (.inr (.inr h))
     have VZ:aQ (λb=>b<w.heap.size\/b=w.heap.size\/(Value.slice a5 (vs++[ub]).length c5).ownBlock=some b) w6 (vs++[ub]) (acc++[x]):=by
      refine aQ.snoc (aQ.mono kY (λi h=>?_) (λi h=>?_) L5) (ai.mono kY (λi h=>?_) (λi h=>?_) V3.top)
      ·rcases h with h|h
       ·exact .inl (.inr (.inl h))
       exact .inl (.inr (.inr h))
      ·rcases hX i h with h|h|h|h
       ·exact .inl (.inl h)
       ·exact .inl (.inr (.inl h))
       ·exact .inl (.inr (.inr h))
       exact .inr (by omega)
      ·rcases h with h|h
       ·exact .inl (by omega)
       exact .inl (fg i h)
      rcases hX i h with h|h|h|h
      ·exact .inl (by omega)
      ·exact .inl (by omega)
      ·exact .inl (fg i h)
      exact .inr (by omega)
     have qP:=P6.len;have fM:=nG.len;have jD:bI (aV d (aq d)) m' (acc++[x]) l2=bI (aV d (aq d)) 1000 [] l0:=by rw[<-dG,dE,aH hp]
     push_cast -dsimp;exact⟨⟨m',acc++[x],l2,_,vs++[ub],jD,by omega,by rw[List.length_append,List.length_singleton];omega,B6,se,VZ,P6,k6⟩,by rw[qP,fM];exact mn⟩
   | false =>
    rw[gA,Bool.false_or]at fq;push_cast -dsimp;refine aA (B9 [36] P2) ?_;rintro _ w3 ⟨rfl,dZ⟩;obtain rfl:w2=w3:=dZ.symm;cases gd:dT [36] l1 with
    | true =>
     have ba:lJ l1=true:=by rw[fq,gd];rfl
     push_cast -dsimp;have jC:∃m',m=m'+1:=⟨m-1,by omega⟩;obtain⟨m',vp⟩:=jC;have hz2:w.heap.size<w2.heap.size:=iL.lt;have kd:Kept (λ_=>False) w2 w2.drew:=(Kept.refl _ _).drew;have Cj:=iL.kept kd (λh=>h);have Pd:=P2.kept kd (λi h=>h.elim);have u6:=k2.trans kd (λi h1 h2=>h2.elim);have d2:w2.drew.cell? ⟨w.heap.size,2,none⟩=some sv:=Cj.cell rfl;have dE:bI (aV d (aq d)) m acc l1=Cae.pb (aV d (aq d)) (λx=>bI (aV d (aq d)) m' (acc++[x])) l1:=by
      rw[vp,bI];unfold ay;rw[ba,if_pos rfl]
     cases hp:aV d (aq d) l1 with
     | error e =>
      refine oZ (E:=Kl pb w l0 (iR (aV d (aq d)))) [(),(),(),(),(),(),()] mixed (by kernel_rfl) (λce te we hE=>?_) ?_
      ·push_cast -dsimp;exact hE
      push_cast -dsimp[d2];refine⟨λbU h=>by rw[h,d2];exact rfl,?_⟩;refine oA (ha n vt hn pb B w2.drew l1 Pd) (λv we ⟨x,l',h1,_⟩=>by rw[hp]at h1;cases h1) ?_;rintro ce we ⟨en,pos,he,ht,eN⟩;refine⟨en,pos,?_,ht.mono (by have:=u6.size;omega),u6.trans eN (λi _ h=>h)⟩;have hl:bI (aV d (aq d)) 1000 [] l0=.error (en,pos):=by
       rw[<-dG,dE];unfold Cae.pb;rw[he]
      unfold iR Cae.pb;rw[hl]
     | ok q =>
      obtain⟨x,l2⟩:=q;have mn:l2.length<l1.length:=mD hp;refine eE (λw'=>aM w' w.heap.size 39 [.int .i64 4,.pointer none,sv,.int .i64 0,.int .i64 0]) mixed (by kernel_rfl) (by simp) iL.drew ?_;push_cast -dsimp[d2];refine⟨λbU h=>by rw[aM.cell h (o:=2) rfl];exact rfl,?_⟩;refine aG (ha n vt hn pb B w2.drew l1 Pd) ?_ (λce we ⟨en,pos,he,_⟩=>by rw[hp]at he;cases he);rintro u w3 ⟨x',Wd,e3,V3,P3,k3⟩;obtain⟨rfl,rfl⟩:x=x'/\l2=Wd:=by rw[hp]at e3;cases e3;exact⟨rfl,rfl⟩
      obtain⟨ub,rfl,HL,Qi⟩:=V3.ptr;have B3:=Cj.kept k3 (by omega);have z3:=k3.size;have hzd:w2.heap.size=w2.drew.heap.size:=rfl;have fg:∀g,sv.ownBlock=some g->g<w2.heap.size:=λg hg=>(fJ.block g hg).2;have NV:=(fJ.aI kd (λg _ h=>h)).aI k3 (λg hg h=>by have:=(fJ.block g hg).1;omega);have L5:=aQ.mono (X':=λb=>(b<w.heap.size\/b=w.heap.size\/sv.ownBlock=some b)\/w2.heap.size<=b) ((kd.weaken (Y:=(·=pb)) (λi _ h=>h.elim)).trans k3 (λi _ h=>h)) (λi h=>by omega) (λi h=>h) (aQ.top p8);refine⟨B3,?_⟩;push_cast -dsimp;refine cT iM rfl rfl (by omega) ?_;intro w4 az;have B4:=B3.below az.below B3.lt;have z4:=az.size;have vZ:=NV.new az;have P4:=P3.below az.below;refine⟨B4,?_⟩;push_cast -dsimp;refine aS (base:=w.heap.size+1) [ub] (enc:=fB) iM vZ (by rfl) (λj y hy=>by simpa[fB,bd] using az.cell hy) mK (by rw[aQ.len p8];simp only[List.length_cons,List.length_nil];omega) (by omega) ?_;intro sv5 w5 ja yO xP;have kg:Kept (λj=>sv.ownBlock=some j) w4 w5:=Kept.grown yO (λ_ h=>h);have yo:∀g,sv.ownBlock=some g->w.heap.size+1<=g:=λg hg=>(fJ.block g hg).1;have B5:=B4.kept kg (λh=>by have:=yo _ h;omega);have P5:=P4.kept kg (λi h=>by have:=yo _ h;omega);have z5:=kg.size;refine⟨B5,?_⟩;obtain⟨a5,c5,rfl⟩:=ja.slice;push_cast -dsimp;refine aC B5 (by simp) rfl ?_;intro w6 bZ;have B6:aM w6 w.heap.size 39 [.int .i64 4,.pointer none,.slice a5 (vs++[ub]).length c5,.int .i64 0,.int .i64 0]:=bZ.aN;have P6:=P5.kept bZ.kept (λi h=>by omega);have z6:=bZ.size
      have se:=ja.aI bZ.kept (λg hg h=>by have:=(ja.block g hg).1;omega);have k6:=(((u6.trans k3 (λi _ h=>h)).trans (Kept.new (X:=(·=pb)) az) (λi _ h=>h)).trans kg (λi h1 h2=>by have:=yo _ h2;omega)).trans bZ.kept (λi h1 h2=>by omega);have kY:Kept (λi=>i=w.heap.size\/sv.ownBlock=some i) w3 w6:=((Kept.new (X:=λi=>i=w.heap.size\/sv.ownBlock=some i) az).trans kg (λi _ h=>.inr h)).trans bZ.kept (λi _ h=>.inl h);have hX:∀i,(i<w.heap.size\/i=w.heap.size\/(Value.slice a5 (vs++[ub]).length c5).ownBlock=some i)->i<w.heap.size\/i=w.heap.size\/sv.ownBlock=some i\/w4.heap.size<=i:=λi h=>by
       rcases h with h|h|h
       ·exact .inl h
       ·exact .inr (.inl h)
       rcases xP i h with h|h
       ·exact .inr (.inr (.inl h))
       exact .inr (.inr (.inr h))
      have VZ:aQ (λb=>b<w.heap.size\/b=w.heap.size\/(Value.slice a5 (vs++[ub]).length c5).ownBlock=some b) w6 (vs++[ub]) (acc++[x]):=by
       refine aQ.snoc (aQ.mono kY (λi h=>?_) (λi h=>?_) L5) (ai.mono kY (λi h=>?_) (λi h=>?_) V3.top)
       ·rcases h with h|h
        ·exact .inl (.inr (.inl h))
        exact .inl (.inr (.inr h))
       ·rcases hX i h with h|h|h|h
        ·exact .inl (.inl h)
        ·exact .inl (.inr (.inl h))
        ·exact .inl (.inr (.inr h))
        exact .inr (by omega)
       ·rcases h with h|h
        ·exact .inl (by omega)
        exact .inl (fg i h)
       rcases hX i h with h|h|h|h
       ·exact .inl (by omega)
       ·exact .inl (by omega)
       ·exact .inl (fg i h)
       exact .inr (by omega)
      have qP:=P6.len;have fM:=nG.len;have jD:bI (aV d (aq d)) m' (acc++[x]) l2=bI (aV d (aq d)) 1000 [] l0:=by rw[<-dG,dE,aH hp]
      push_cast -dsimp;exact⟨⟨m',acc++[x],l2,_,vs++[ub],jD,by omega,by rw[List.length_append,List.length_singleton];omega,B6,se,VZ,P6,k6⟩,by rw[qP,fM];exact mn⟩
    | false =>
     rw[gd,Bool.false_or]at fq;push_cast -dsimp;refine aA (B9 [40] P2) ?_;rintro _ w3 ⟨rfl,dZ⟩;obtain rfl:w2=w3:=dZ.symm;cases lW:dT [40] l1 with
     | true =>
      have ba:lJ l1=true:=by rw[fq,lW]
      push_cast -dsimp;have jC:∃m',m=m'+1:=⟨m-1,by omega⟩;obtain⟨m',vp⟩:=jC;have hz2:w.heap.size<w2.heap.size:=iL.lt;have kd:Kept (λ_=>False) w2 w2.drew:=(Kept.refl _ _).drew;have Cj:=iL.kept kd (λh=>h);have Pd:=P2.kept kd (λi h=>h.elim);have u6:=k2.trans kd (λi h1 h2=>h2.elim);have d2:w2.drew.cell? ⟨w.heap.size,2,none⟩=some sv:=Cj.cell rfl;have dE:bI (aV d (aq d)) m acc l1=Cae.pb (aV d (aq d)) (λx=>bI (aV d (aq d)) m' (acc++[x])) l1:=by
       rw[vp,bI];unfold ay;rw[ba,if_pos rfl]
      cases hp:aV d (aq d) l1 with
      | error e =>
       refine oZ (E:=Kl pb w l0 (iR (aV d (aq d)))) [(),(),(),(),(),(),()] mixed (by kernel_rfl) (λce te we hE=>?_) ?_
       ·push_cast -dsimp;exact hE
       push_cast -dsimp[d2];refine⟨λbU h=>by rw[h,d2];exact rfl,?_⟩;refine oA (ha n vt hn pb B w2.drew l1 Pd) (λv we ⟨x,l',h1,_⟩=>by rw[hp]at h1;cases h1) ?_;rintro ce we ⟨en,pos,he,ht,eN⟩;refine⟨en,pos,?_,ht.mono (by have:=u6.size;omega),u6.trans eN (λi _ h=>h)⟩;have hl:bI (aV d (aq d)) 1000 [] l0=.error (en,pos):=by
        rw[<-dG,dE];unfold Cae.pb;rw[he]
       unfold iR Cae.pb;rw[hl]
      | ok q =>
       obtain⟨x,l2⟩:=q;have mn:l2.length<l1.length:=mD hp;refine eE (λw'=>aM w' w.heap.size 39 [.int .i64 4,.pointer none,sv,.int .i64 0,.int .i64 0]) mixed (by kernel_rfl) (by simp) iL.drew ?_;push_cast -dsimp[d2];refine⟨λbU h=>by rw[aM.cell h (o:=2) rfl];exact rfl,?_⟩;refine aG (ha n vt hn pb B w2.drew l1 Pd) ?_ (λce we ⟨en,pos,he,_⟩=>by rw[hp]at he;cases he);rintro u w3 ⟨x',Wd,e3,V3,P3,k3⟩;obtain⟨rfl,rfl⟩:x=x'/\l2=Wd:=by rw[hp]at e3;cases e3;exact⟨rfl,rfl⟩
       obtain⟨ub,rfl,HL,Qi⟩:=V3.ptr;have B3:=Cj.kept k3 (by omega);have z3:=k3.size;have hzd:w2.heap.size=w2.drew.heap.size:=rfl;have fg:∀g,sv.ownBlock=some g->g<w2.heap.size:=λg hg=>(fJ.block g hg).2;have NV:=(fJ.aI kd (λg _ h=>h)).aI k3 (λg hg h=>by have:=(fJ.block g hg).1;omega);have L5:=aQ.mono (X':=λb=>(b<w.heap.size\/b=w.heap.size\/sv.ownBlock=some b)\/w2.heap.size<=b) ((kd.weaken (Y:=(·=pb)) (λi _ h=>h.elim)).trans k3 (λi _ h=>h)) (λi h=>by omega) (λi h=>h) (aQ.top p8);refine⟨B3,?_⟩;push_cast -dsimp;refine cT iM rfl rfl (by omega) ?_;intro w4 az;have B4:=B3.below az.below B3.lt;have z4:=az.size;have vZ:=NV.new az;have P4:=P3.below az.below;refine⟨B4,?_⟩;push_cast -dsimp;refine aS (base:=w.heap.size+1) [ub] (enc:=fB) iM vZ (by rfl) (λj y hy=>by simpa[fB,bd] using az.cell hy) mK (by rw[aQ.len p8];simp only[List.length_cons,List.length_nil];omega) (by omega) ?_;intro sv5 w5 ja yO xP;have kg:Kept (λj=>sv.ownBlock=some j) w4 w5:=Kept.grown yO (λ_ h=>h);have yo:∀g,sv.ownBlock=some g->w.heap.size+1<=g:=λg hg=>(fJ.block g hg).1;have B5:=B4.kept kg (λh=>by have:=yo _ h;omega);have P5:=P4.kept kg (λi h=>by have:=yo _ h;omega);have z5:=kg.size;refine⟨B5,?_⟩;obtain⟨a5,c5,rfl⟩:=ja.slice;push_cast -dsimp;refine aC B5 (by simp) rfl ?_;intro w6 bZ;have B6:aM w6 w.heap.size 39 [.int .i64 4,.pointer none,.slice a5 (vs++[ub]).length c5,.int .i64 0,.int .i64 0]:=bZ.aN;have P6:=P5.kept bZ.kept (λi h=>by omega);have z6:=bZ.size
       have se:=ja.aI bZ.kept (λg hg h=>by have:=(ja.block g hg).1;omega);have k6:=(((u6.trans k3 (λi _ h=>h)).trans (Kept.new (X:=(·=pb)) az) (λi _ h=>h)).trans kg (λi h1 h2=>by have:=yo _ h2;omega)).trans bZ.kept (λi h1 h2=>by omega);have kY:Kept (λi=>i=w.heap.size\/sv.ownBlock=some i) w3 w6:=((Kept.new (X:=λi=>i=w.heap.size\/sv.ownBlock=some i) az).trans kg (λi _ h=>.inr h)).trans bZ.kept (λi _ h=>.inl h);have hX:∀i,(i<w.heap.size\/i=w.heap.size\/(Value.slice a5 (vs++[ub]).length c5).ownBlock=some i)->i<w.heap.size\/i=w.heap.size\/sv.ownBlock=some i\/w4.heap.size<=i:=λi h=>by
        rcases h with h|h|h
        ·exact .inl h
        ·exact .inr (.inl h)
        rcases xP i h with h|h
        ·exact .inr (.inr (.inl h))
        exact .inr (.inr (.inr h))
       have VZ:aQ (λb=>b<w.heap.size\/b=w.heap.size\/(Value.slice a5 (vs++[ub]).length c5).ownBlock=some b) w6 (vs++[ub]) (acc++[x]):=by
        refine aQ.snoc (aQ.mono kY (λi h=>?_) (λi h=>?_) L5) (ai.mono kY (λi h=>?_) (λi h=>?_) V3.top)
        ·rcases h with h|h
         ·exact .inl (.inr (.inl h))
         exact .inl (.inr (.inr h))
        ·rcases hX i h with h|h|h|h
         ·exact .inl (.inl h)
         ·exact .inl (.inr (.inl h))
         ·exact .inl (.inr (.inr h))
         exact .inr (by omega)
        ·rcases h with h|h
         ·exact .inl (by omega)
         exact .inl (fg i h)
        rcases hX i h with h|h|h|h
        ·exact .inl (by omega)
        ·exact .inl (by omega)
        ·exact .inl (fg i h)
        exact .inr (by omega)
       have qP:=P6.len;have fM:=nG.len;have jD:bI (aV d (aq d)) m' (acc++[x]) l2=bI (aV d (aq d)) 1000 [] l0:=by rw[<-dG,dE,aH hp]
       push_cast -dsimp;exact⟨⟨m',acc++[x],l2,_,vs++[ub],jD,by omega,by rw[List.length_append,List.length_singleton];omega,B6,se,VZ,P6,k6⟩,by rw[qP,fM];exact mn⟩
     | false =>
      have ba:lJ l1=false:=by rw[fq,lW]
      have ni:iR (aV d (aq d)) l0=.ok (rowOf acc,l1):=by
       have hl:bI (aV d (aq d)) 1000 [] l0=.ok (acc,l1):=by
        rw[<-dG];obtain⟨m',vp⟩:∃m',m=m'+1:=⟨m-1,by omega⟩;rw[vp,bI];unfold ay;rw[ba];rfl
       unfold iR;rw[aH hl];rfl
      have aMr:=aQ.len p8;have aD1:=fJ.slice;obtain⟨va,vc,vP⟩:=aD1;rw[vP]at iL fJ p8;have d2:w2.cell? ⟨w.heap.size,2,none⟩=some (.slice va vs.length vc):=iL.cell rfl;have qS:=fJ.sl;have Lu:=k2.size;push_cast -dsimp[d2];refine⟨λh1=>?_,λh1=>?_⟩
      ·obtain⟨u,Ln⟩:∃u,vs=[u]:=List.length_eq_one_iff.1 (by omega);obtain⟨x,hac⟩:∃x,acc=[x]:=List.length_eq_one_iff.1 (by omega);rw[Ln]at qS d2 p8;rw[hac]at p8 ni;simp only[aQ,and_true]at p8;obtain⟨b5,o5,rfl,_,aK⟩:=qS.get (i:=0) (x:=u) rfl;have d5:w2.cell? ⟨b5,o5,none⟩=some (bd u):=by have:=aK 0 _ rfl;simpa using this
       simp only[List.length_cons,List.length_nil,Nat.zero_add]at d2;push_cast -dsimp[d2,Nat.zero_mul,Nat.add_zero,d5];refine⟨by omega,x,l1,ni,ai.mono (Kept.refl (λ_=>False) _) (λ_ h=>h.elim) (λi h=>.inl h) p8,P2,k2⟩
      have dD:acc.length≠1:=by omega
      have hro:rowOf acc=.cat acc:=by
       unfold rowOf;split
       ·rename_i x;exact absurd rfl dD
       rfl
      refine⟨.cat acc,l1,by rw[<-hro];exact ni,?_,P2,k2⟩;simp only[ai];exact⟨_,_,vs,rfl,by omega,iL,qS.weaken (λi h=>by omega),aQ.mono (Kept.refl (λ_=>False) _) (λ_ h=>h.elim) (λi h=>.inl h) p8⟩
 have ba:lJ l1=true:=by
  have:t1.kind=3:=by omega
  rw[fq,this];rfl
 have P2:=nG;have iL:=hB;have fJ:=hO;have p8:=hV;have k2:=Df;have jC:∃m',m=m'+1:=⟨m-1,by omega⟩;obtain⟨m',vp⟩:=jC;have hz2:w.heap.size<w'.heap.size:=iL.lt;have kd:Kept (λ_=>False) w' w'.drew:=(Kept.refl _ _).drew;have Cj:=iL.kept kd (λh=>h);have Pd:=P2.kept kd (λi h=>h.elim);have u6:=k2.trans kd (λi h1 h2=>h2.elim);have d2:w'.drew.cell? ⟨w.heap.size,2,none⟩=some sv:=Cj.cell rfl;have dE:bI (aV d (aq d)) m acc l1=Cae.pb (aV d (aq d)) (λx=>bI (aV d (aq d)) m' (acc++[x])) l1:=by
  rw[vp,bI];unfold ay;rw[ba,if_pos rfl]
 cases hp:aV d (aq d) l1 with
 | error e =>
  refine oZ (E:=Kl pb w l0 (iR (aV d (aq d)))) [(),(),(),(),(),(),()] mixed (by kernel_rfl) (λce te we hE=>?_) ?_
  ·push_cast -dsimp;exact hE
  push_cast -dsimp[d2];refine⟨λbU h=>by rw[h,d2];exact rfl,?_⟩;refine oA (ha n vt hn pb B w'.drew l1 Pd) (λv we ⟨x,l',h1,_⟩=>by rw[hp]at h1;cases h1) ?_;rintro ce we ⟨en,pos,he,ht,eN⟩;refine⟨en,pos,?_,ht.mono (by have:=u6.size;omega),u6.trans eN (λi _ h=>h)⟩;have hl:bI (aV d (aq d)) 1000 [] l0=.error (en,pos):=by
   rw[<-dG,dE];unfold Cae.pb;rw[he]
  unfold iR Cae.pb;rw[hl]
 | ok q =>
  obtain⟨x,l2⟩:=q;have mn:l2.length<l1.length:=mD hp;refine eE (λw'=>aM w' w.heap.size 39 [.int .i64 4,.pointer none,sv,.int .i64 0,.int .i64 0]) mixed (by kernel_rfl) (by simp) iL.drew ?_;push_cast -dsimp[d2];refine⟨λbU h=>by rw[aM.cell h (o:=2) rfl];exact rfl,?_⟩;refine aG (ha n vt hn pb B w'.drew l1 Pd) ?_ (λce we ⟨en,pos,he,_⟩=>by rw[hp]at he;cases he);rintro u w3 ⟨x',Wd,e3,V3,P3,k3⟩;obtain⟨rfl,rfl⟩:x=x'/\l2=Wd:=by rw[hp]at e3;cases e3;exact⟨rfl,rfl⟩
  obtain⟨ub,rfl,HL,Qi⟩:=V3.ptr;have B3:=Cj.kept k3 (by omega);have z3:=k3.size;have hzd:w'.heap.size=w'.drew.heap.size:=rfl;have fg:∀g,sv.ownBlock=some g->g<w'.heap.size:=λg hg=>(fJ.block g hg).2;have NV:=(fJ.aI kd (λg _ h=>h)).aI k3 (λg hg h=>by have:=(fJ.block g hg).1;omega);have L5:=aQ.mono (X':=λb=>(b<w.heap.size\/b=w.heap.size\/sv.ownBlock=some b)\/w'.heap.size<=b) ((kd.weaken (Y:=(·=pb)) (λi _ h=>h.elim)).trans k3 (λi _ h=>h)) (λi h=>by omega) (λi h=>h) (aQ.top p8);refine⟨B3,?_⟩;push_cast -dsimp;refine cT iM rfl rfl (by omega) ?_;intro w4 az;have B4:=B3.below az.below B3.lt;have z4:=az.size;have vZ:=NV.new az;have P4:=P3.below az.below;refine⟨B4,?_⟩;push_cast -dsimp;refine aS (base:=w.heap.size+1) [ub] (enc:=fB) iM vZ (by rfl) (λj y hy=>by simpa[fB,bd] using az.cell hy) mK (by rw[aQ.len p8];simp only[List.length_cons,List.length_nil];omega) (by omega) ?_;intro sv5 w5 ja yO xP;have kg:Kept (λj=>sv.ownBlock=some j) w4 w5:=Kept.grown yO (λ_ h=>h);have yo:∀g,sv.ownBlock=some g->w.heap.size+1<=g:=λg hg=>(fJ.block g hg).1;have B5:=B4.kept kg (λh=>by have:=yo _ h;omega);have P5:=P4.kept kg (λi h=>by have:=yo _ h;omega);have z5:=kg.size;refine⟨B5,?_⟩;obtain⟨a5,c5,rfl⟩:=ja.slice;push_cast -dsimp;refine aC B5 (by simp) rfl ?_;intro w6 bZ;have B6:aM w6 w.heap.size 39 [.int .i64 4,.pointer none,.slice a5 (vs++[ub]).length c5,.int .i64 0,.int .i64 0]:=bZ.aN;have P6:=P5.kept bZ.kept (λi h=>by omega);have z6:=bZ.size
  have se:=ja.aI bZ.kept (λg hg h=>by have:=(ja.block g hg).1;omega);have k6:=(((u6.trans k3 (λi _ h=>h)).trans (Kept.new (X:=(·=pb)) az) (λi _ h=>h)).trans kg (λi h1 h2=>by have:=yo _ h2;omega)).trans bZ.kept (λi h1 h2=>by omega);have kY:Kept (λi=>i=w.heap.size\/sv.ownBlock=some i) w3 w6:=((Kept.new (X:=λi=>i=w.heap.size\/sv.ownBlock=some i) az).trans kg (λi _ h=>.inr h)).trans bZ.kept (λi _ h=>.inl h);have hX:∀i,(i<w.heap.size\/i=w.heap.size\/(Value.slice a5 (vs++[ub]).length c5).ownBlock=some i)->i<w.heap.size\/i=w.heap.size\/sv.ownBlock=some i\/w4.heap.size<=i:=λi h=>by
   rcases h with h|h|h
   ·exact .inl h
   ·exact .inr (.inl h)
   rcases xP i h with h|h
   ·exact .inr (.inr (.inl h))
   exact .inr (.inr (.inr h))
  have VZ:aQ (λb=>b<w.heap.size\/b=w.heap.size\/(Value.slice a5 (vs++[ub]).length c5).ownBlock=some b) w6 (vs++[ub]) (acc++[x]):=by
   refine aQ.snoc (aQ.mono kY (λi h=>?_) (λi h=>?_) L5) (ai.mono kY (λi h=>?_) (λi h=>?_) V3.top)
   ·rcases h with h|h
    ·exact .inl (.inr (.inl h))
    exact .inl (.inr (.inr h))
   ·rcases hX i h with h|h|h|h
    ·exact .inl (.inl h)
    ·exact .inl (.inr (.inl h))
    ·exact .inl (.inr (.inr h))
    exact .inr (by omega)
   ·rcases h with h|h
    ·exact .inl (by omega)
    exact .inl (fg i h)
   rcases hX i h with h|h|h|h
   ·exact .inl (by omega)
   ·exact .inl (by omega)
   ·exact .inl (fg i h)
   exact .inr (by omega)
  have qP:=P6.len;have fM:=nG.len;have jD:bI (aV d (aq d)) m' (acc++[x]) l2=bI (aV d (aq d)) 1000 [] l0:=by rw[<-dG,dE,aH hp]
  push_cast -dsimp;exact⟨⟨m',acc++[x],l2,_,vs++[ub],jD,by omega,by rw[List.length_append,List.length_singleton];omega,B6,se,VZ,P6,k6⟩,by rw[qP,fM];exact mn⟩
theorem aF1 {d:Nat}{l l':List Tok}{x:aF}(h:iR (aV d (aq d)) l=.ok (x,l')):l'.length<=l.length:=Lo.le (Ns (Ds (yw d))) _ _ _ h
theorem X0 (d:Nat)(Qe:aHj d):aDk d:=by
 intro n vt hn pb B w l0 h0;have hle:=h0.le;have aw:=h0.lt;refine bM Tryz.func99 rfl (by kernel_rfl) [.tmp 4] rfl ?_;push_cast -dsimp(maxSteps:=4000000) [Tryz.ntmps99];refine aG (mI n h0) ?_ ?_;rotate_left
 ·rintro c w' ⟨h8,ht,hb⟩;have hd0:d=0:=by omega
  subst hd0;push_cast -dsimp;exact⟨4,_,rfl,ht,Kept.aO hb (λi h1 h2=>by omega)⟩
 rintro _ w0 ⟨h8,rfl,yQ⟩;obtain rfl:w=w0:=yQ.symm;have jM:qh d l0=Cae.pb (iR (aV d (aq d))) (λx=>Cae.pb (eV (iR (aV d (aq d))) 1000 [x]) λps=>pr (jT ps)) l0:=by
  unfold qh BQ;rw[if_neg (by omega)];rfl
 push_cast -dsimp;refine aG (Qe n vt hn pb B w l0 h0) ?_ ?_;rotate_left
 ·rintro c w' ⟨e,pos,he,ht,hk⟩;push_cast -dsimp;refine⟨e,pos,?_,ht,hk⟩;rw[jM];unfold Cae.pb;rw[he]
 rintro v1 w1 ⟨x0,l1',e1,V1,P1,k1⟩;obtain⟨ub,rfl,HL,Qi⟩:=V1.ptr;have z1:=k1.size;push_cast -dsimp;refine cT iM rfl rfl (by omega) ?_;intro w2 bw;have z2:=bw.size;have O2:Go.Vc.Own w.heap.size 35 1 fB w2 (.slice (some ⟨w1.heap.size,0,none⟩) 1 1) [ub]:=bw.own (by rfl) rfl (λ_=>rfl) (by omega) (by omega);push_cast -dsimp;refine aR ?_;intro w3 dZ;have B3:=dZ.aN;have O3:=O2.new dZ;have P3:=(P1.below bw.below).below dZ.below;have k3:=(k1.trans (Kept.new (X:=(·=pb)) bw) (λi _ h=>h)).trans (Kept.new (X:=(·=pb)) dZ) (λi _ h=>h);have V3:=(V1.top.below bw.below).below dZ.below;have xW:∃xb,xb=w2.heap.size:=⟨_,rfl⟩;obtain⟨xb,xW⟩:=xW;have aTV:w.heap.size<=xb:=by omega
 rw[<-xW]at B3;push_cast -dsimp[<-xW];refine aL [15,16,17,18,19,20,21,22,23,24,25,26,27,28] (λz w'=>∃(m:Nat) (acc:List aF) (l1:List Tok) (sv:Value) (vs:List Nat),eV (iR (aV d (aq d))) m acc l1=eV (iR (aV d (aq d))) 1000 [x0] l1'/\l1.length<m/\acc.length+m<=1001 /\
   aM w' xb 39 [.int .i64 5,.pointer none,sv,.int .i64 0,.int .i64 0]/\Go.Vc.Own w.heap.size 35 1 fB w' sv vs/\(∀g,sv.ownBlock=some g->g≠xb)/\aQ (λb=>b<w.heap.size\/b=xb\/sv.ownBlock=some b) w' vs acc/\PS pb B w' l1/\Kept (·=pb) w w') (λz w'=>xc w' pb) ?_ ?_
 ·have aw:l1'.length<1000:=by have:=P1.tl.len;omega
  have N0:aQ (λb=>b<w.heap.size\/b=xb\/(Value.slice (some ⟨w1.heap.size,0,none⟩) 1 1).ownBlock=some b) w3 [ub] [x0]:=by
   simp only[aQ,and_true];refine ai.mono (Kept.refl (λ_=>False) _) (λ_ h=>h.elim) (λi h=>?_) V3;rcases h with h|h|h
   ·exact .inl h
   ·exact .inr (by omega)
   have:w1.heap.size=i:=by simpa[Value.ownBlock] using h
   exact .inr (by omega)
  have Cz:∀g,(Value.slice (some ⟨w1.heap.size,0,none⟩) 1 1).ownBlock=some g->g≠xb:=λg hg=>by
   have:w1.heap.size=g:=by simpa[Value.ownBlock] using hg
   omega
  exact⟨1000,[x0],l1',_,[ub],rfl,aw,by simp,B3,O3,Cz,N0,P3,k3⟩
 rintro z w' ⟨m,acc,l1,sv,vs,dG,hm,I1,hBq,yK,lE,hVq,nG,kq⟩;have hzw:=kq.size;push_cast -dsimp[<-xW];refine aA (gG [124] nG) ?_;rintro _ O8 hT;rcases hT with ⟨ba,rfl,t1,TI,mj,yH,P2,kt,hz⟩|⟨ba,rfl,qU⟩
 ·have lF:cM l1=.ok ((),TI):=by rw[mj];exact dV yH
  have vn:l1.length=TI.length+1:=by rw[mj,List.length_cons]
  have iL:=hBq.kept kt (by omega);have fJ:=yK.aI kt (λg hg h=>by have:=(yK.block g hg).1;omega);have p8:aQ (λb=>b<w.heap.size\/b=xb\/sv.ownBlock=some b) O8 vs acc:=aQ.mono kt (λi h=>by omega) (λi h=>h) hVq;have k2:=kq.trans kt (λi _ h=>h);push_cast -dsimp[<-xW];have jC:∃m',m=m'+1:=⟨m-1,by omega⟩;obtain⟨m',vp⟩:=jC;have hz2:xb<O8.heap.size:=iL.lt;have kd:Kept (λ_=>False) O8 O8.drew:=(Kept.refl _ _).drew;have Cj:=iL.kept kd (λh=>h);have Pd:=P2.kept kd (λi h=>h.elim);have u6:=k2.trans kd (λi h1 h2=>h2.elim);have d2:O8.drew.cell? ⟨xb,2,none⟩=some sv:=Cj.cell rfl;have dE:eV (iR (aV d (aq d))) m acc l1=Cae.pb (iR (aV d (aq d))) (λx=>eV (iR (aV d (aq d))) m' (acc++[x])) TI:=by
   rw[vp,eV];unfold ay;rw[ba,if_pos rfl,aH lF]
  cases hp:iR (aV d (aq d)) TI with
  | error e =>
   refine oZ (E:=Kl pb w l0 (qh d)) [(),(),(),(),(),(),()] mixed (by kernel_rfl) (λce te we hE=>?_) ?_
   ·push_cast -dsimp;exact hE
   push_cast -dsimp[d2];refine⟨λbU h=>by rw[h,d2];exact rfl,?_⟩;refine oA (Qe n vt hn pb B O8.drew TI Pd) (λv we ⟨x,l',h1,_⟩=>by rw[hp]at h1;cases h1) ?_;rintro ce we ⟨en,pos,he,ht,eN⟩;refine⟨en,pos,?_,ht.mono (by have:=u6.size;omega),u6.trans eN (λi _ h=>h)⟩;have hl:eV (iR (aV d (aq d))) 1000 [x0] l1'=.error (en,pos):=by
    rw[<-dG,dE];unfold Cae.pb;rw[he]
   rw[jM,aH e1];unfold Cae.pb;rw[hl]
  | ok q =>
   obtain⟨x,l2⟩:=q;have mn:l2.length<l1.length:=by
    have:=aF1 hp;rw[vn];omega
   refine eE (λw'=>aM w' xb 39 [.int .i64 5,.pointer none,sv,.int .i64 0,.int .i64 0]) mixed (by kernel_rfl) (by simp) iL.drew ?_;push_cast -dsimp[d2];refine⟨λbU h=>by rw[aM.cell h (o:=2) rfl];exact rfl,?_⟩;refine aG (Qe n vt hn pb B O8.drew TI Pd) ?_ (λce we ⟨en,pos,he,_⟩=>by rw[hp]at he;cases he);rintro u w3 ⟨x',Wd,e3,V3,P3,k3⟩;obtain⟨rfl,rfl⟩:x=x'/\l2=Wd:=by rw[hp]at e3;cases e3;exact⟨rfl,rfl⟩
   obtain⟨ub,rfl,HL,Qi⟩:=V3.ptr;have B3:=Cj.kept k3 (by omega);have z3:=k3.size;have hzd:O8.heap.size=O8.drew.heap.size:=rfl;have fg:∀g,sv.ownBlock=some g->g<O8.heap.size:=λg hg=>(fJ.block g hg).2;have NV:=(fJ.aI kd (λg _ h=>h)).aI k3 (λg hg h=>by have:=(fJ.block g hg).1;omega);have L5:=aQ.mono (X':=λb=>(b<w.heap.size\/b=xb\/sv.ownBlock=some b)\/O8.heap.size<=b) ((kd.weaken (Y:=(·=pb)) (λi _ h=>h.elim)).trans k3 (λi _ h=>h)) (λi h=>by omega) (λi h=>h) (aQ.top p8);refine⟨B3,?_⟩;push_cast -dsimp;refine cT iM rfl rfl (by omega) ?_;intro w4 az;have B4:=B3.below az.below B3.lt;have z4:=az.size;have vZ:=NV.new az;have P4:=P3.below az.below;refine⟨B4,?_⟩;push_cast -dsimp;refine aS (base:=w.heap.size) [ub] (enc:=fB) iM vZ (by rfl) (λj y hy=>by simpa[fB,bd] using az.cell hy) mK (by rw[aQ.len p8];simp only[List.length_cons,List.length_nil];omega) (by omega) ?_;intro sv5 w5 ja yO xP;have kg:Kept (λj=>sv.ownBlock=some j) w4 w5:=Kept.grown yO (λ_ h=>h);have yo:∀g,sv.ownBlock=some g->w.heap.size<=g/\g≠xb:=λg hg=>⟨(fJ.block g hg).1,lE g hg⟩;have B5:=B4.kept kg (λh=>by have:=yo _ h;omega);have P5:=P4.kept kg (λi h=>by have:=yo _ h;omega);have z5:=kg.size;refine⟨B5,?_⟩;obtain⟨a5,c5,rfl⟩:=ja.slice;push_cast -dsimp;refine aC B5 (by simp) rfl ?_;intro w6 bZ;have B6:aM w6 xb 39 [.int .i64 5,.pointer none,.slice a5 (vs++[ub]).length c5,.int .i64 0,.int .i64 0]:=bZ.aN;have P6:=P5.kept bZ.kept (λi h=>by omega);have z6:=bZ.size
   have aJn:∀g,(Value.slice a5 (vs++[ub]).length c5).ownBlock=some g->g≠xb:=λg hg=>by
    rcases xP g hg with h|h
    ·exact(yo g h).2
    omega
   have se:=ja.aI bZ.kept (λg hg h=>aJn g hg h);have k6:=(((u6.trans k3 (λi _ h=>h)).trans (Kept.new (X:=(·=pb)) az) (λi _ h=>h)).trans kg (λi h1 h2=>by have:=yo _ h2;omega)).trans bZ.kept (λi h1 h2=>by omega);have kY:Kept (λi=>i=xb\/sv.ownBlock=some i) w3 w6:=((Kept.new (X:=λi=>i=xb\/sv.ownBlock=some i) az).trans kg (λi _ h=>.inr h)).trans bZ.kept (λi _ h=>.inl h);have hX:∀i,(i<w.heap.size\/i=xb\/(Value.slice a5 (vs++[ub]).length c5).ownBlock=some i)->i<w.heap.size\/i=xb\/sv.ownBlock=some i\/w4.heap.size<=i:=λi h=>by
    rcases h with h|h|h
    ·exact .inl h
    ·exact .inr (.inl h)
    rcases xP i h with h|h
    ·exact .inr (.inr (.inl h))
    exact .inr (.inr (.inr h))
   have VZ:aQ (λb=>b<w.heap.size\/b=xb\/(Value.slice a5 (vs++[ub]).length c5).ownBlock=some b) w6 (vs++[ub]) (acc++[x]):=by
    refine aQ.snoc (aQ.mono kY (λi h=>?_) (λi h=>?_) L5) (ai.mono kY (λi h=>?_) (λi h=>?_) V3.top)
    ·rcases h with h|h
     ·exact .inl (.inr (.inl h))
     exact .inl (.inr (.inr h))
    ·rcases hX i h with h|h|h|h
     ·exact .inl (.inl h)
     ·exact .inl (.inr (.inl h))
     ·exact .inl (.inr (.inr h))
     exact .inr (by omega)
    ·rcases h with h|h
     ·exact .inl (by omega)
     exact .inl (fg i h)
    rcases hX i h with h|h|h|h
    ·exact .inl (by omega)
    ·exact .inl (by omega)
    ·exact .inl (fg i h)
    exact .inr (by omega)
   have qP:=P6.len;have fM:=nG.len;have jD:eV (iR (aV d (aq d))) m' (acc++[x]) l2=eV (iR (aV d (aq d))) 1000 [x0] l1':=by rw[<-dG,dE,aH hp]
   push_cast -dsimp;exact⟨⟨m',acc++[x],l2,_,vs++[ub],jD,by omega,by rw[List.length_append,List.length_singleton];omega,B6,se,aJn,VZ,P6,k6⟩,by rw[qP,fM];exact mn⟩
 obtain rfl:w'=O8:=qU.symm;have ni:qh d l0=.ok (jT acc,l1):=by
  have hl:eV (iR (aV d (aq d))) 1000 [x0] l1'=.ok (acc,l1):=by
   rw[<-dG];obtain⟨m',vp⟩:∃m',m=m'+1:=⟨m-1,by omega⟩;rw[vp,eV];unfold ay;rw[ba];rfl
  rw[jM,aH e1,aH hl];rfl
 have iL:=hBq;have fJ:=yK;have p8:=hVq;have P2:=nG;have k2:=kq;have aMr:=aQ.len p8;have aD1:=fJ.slice;obtain⟨va,vc,vP⟩:=aD1;rw[vP]at iL fJ p8;have d2:w'.cell? ⟨xb,2,none⟩=some (.slice va vs.length vc):=iL.cell rfl;have qS:=fJ.sl;have Lu:=k2.size;push_cast -dsimp[d2];refine⟨λh1=>?_,λh1=>?_⟩
 ·obtain⟨u,Ln⟩:∃u,vs=[u]:=List.length_eq_one_iff.1 (by omega);obtain⟨x,hac⟩:∃x,acc=[x]:=List.length_eq_one_iff.1 (by omega);rw[Ln]at qS d2 p8;rw[hac]at p8 ni;simp only[aQ,and_true]at p8;obtain⟨b5,o5,rfl,_,aK⟩:=qS.get (i:=0) (x:=u) rfl;have d5:w'.cell? ⟨b5,o5,none⟩=some (bd u):=by have:=aK 0 _ rfl;simpa using this
  simp only[List.length_cons,List.length_nil,Nat.zero_add]at d2;push_cast -dsimp[d2,Nat.zero_mul,Nat.add_zero,d5];refine⟨by omega,x,l1,ni,ai.mono (Kept.refl (λ_=>False) _) (λ_ h=>h.elim) (λi h=>.inl h) p8,P2,k2⟩
 have dD:acc.length≠1:=by omega
 have hro:jT acc=.alt acc:=by
  unfold jT;split
  ·rename_i x;exact absurd rfl dD
  rfl
 refine⟨.alt acc,l1,by rw[<-hro];exact ni,?_,P2,k2⟩;simp only[ai];exact⟨_,_,vs,rfl,by omega,iL,qS.weaken (λi h=>by omega),aQ.mono (Kept.refl (λ_=>False) _) (λ_ h=>h.elim) (λi h=>.inl h) p8⟩
end Go.Proofs.YtledlfbbebodgaaGreatDoor
end
