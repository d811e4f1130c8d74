/- Texts of this claim, merged: Rp6, Vr, Rp7, Rp8. -/
import Derived.Test.YtodeeahdhnjpkaaGreatDoorM7
set_option maxRecDepth 100000
set_option linter.unusedSimpArgs false
set_option linter.unusedVariables false
set_option maxHeartbeats 8000000
section
namespace Go.Proofs.YtodeeahdhnjpkaaGreatDoor
open Go.Vc Go.Proofs Go.RowKit Cae
attribute [local irreducible] cw ag aq a8 runK bD Sl Vc.Own vc aW cN ai
theorem iz {w:World}{b:Nat}{e:TypeId}{u:Nat}{X:Nat->Prop}(h:aO w b e [bF u])(hb:¬X b):Sl X 1 (En gg) w (.slice (some ⟨b,0,none⟩) 1 1) [u]:=by
 unfold Sl;refine⟨_,1,rfl,by simp,λi x hx=>⟨b,0,gg u,rfl,hb,rfl,λj y hy=>?_,?_⟩⟩
 ·have hi:i=0:=by
   have:=(List.getElem?_eq_some_iff.1 hx).1;simp at this;exact this
  have hj:j=0:=by
   have:=(List.getElem?_eq_some_iff.1 hy).1;simp[gg]at this;exact this
  subst hi hj;simp[gg]at hy;subst hy;exact h.cell rfl
 have hi:i=0:=by
  have:=(List.getElem?_eq_some_iff.1 hx).1;simp at this;exact this
 subst hi;simp at hx;subst hx;rfl
theorem gX {d m c:Nat}{x:aI}{l:List Cae.Tok}{e:Nat×Nat}(hm:l.length<m)(h:cF l=.error e):aw d m c x l=.error e:=by
 obtain⟨m',rfl⟩:∃m',m=m'+1:=⟨m-1,by omega⟩;rw[aw];unfold Cae.pb;rw[h]
theorem ER (d:Nat)(hu:Kf d):QA d:=by
 intro n oK hn pb B w l0 h0;have hle:=h0.le;have bZ:=h0.lt;refine dm Tryz.func120 rfl (by kernel_rfl) [.tmp 4] rfl ?_;push_cast -dsimp(maxSteps:=4000000) [Tryz.ntmps120];refine aK (hu n oK hn pb B w l0 h0) ?_ ?_
 ·rintro v1 w1 ⟨x0,l1,e1,V1,P1,Ps⟩;have JR:aQ d (aY d) l0=aw d 1000 0 x0 l1:=by
   unfold aQ;rw[aG e1]
  push_cast -dsimp;refine aM [4,5,6,7,12,13,14,15,16,17,18,19,20,21,22,23,24,25,26,27,28,29,30,31,32,33,34,35,36,37,38,39,40,41,42,43,44,45,46,47,48,49,50,51,52,53,54,55,56,57,58,59,60,61,62,63,64,65,66,67,68,69,70,71,72,73,74,75,76,77,78,79,80,81,82,83] (λz w'=>∃(m c:Nat) (x:aI) (l1:List Cae.Tok) (i:Int),aw d m c x l1=aQ d (aY d) l0/\l1.length<m/\(z 6=.int .i64 i/\i=n+(c:Int)/\i<=9)/\aV (·<w.heap.size) w' (z 5) x/\PS pb B w' l1/\Kept (·=pb) w w') (λz w'=>rP w' pb) ?_ ?_
  ·have bZ:l1.length<1000:=by have:=P1.tl.len;omega
   exact⟨1000,0,x0,l1,n,JR.symm,bZ,⟨rfl,by omega,by omega⟩,V1,P1,Ps⟩
  rintro z w' ⟨m,c,x,l1,i,dB,hm,⟨ig,hi,hi9⟩,V1,pD,uJ⟩;obtain⟨kb,rr,vi,hkX⟩:=V1.ptr;rw[rr]at V1;obtain⟨t1,r1,gy⟩:=pD.tl.cons;have hzw:=uJ.size;push_cast -dsimp[rr];refine cY dj rfl rfl (by omega) ?_;intro w2 bT;have BX0:aO w2 w'.heap.size 58 [.pointer (some ⟨kb,0,none⟩)]:=bT.aN;have P2:=pD.below bT.below;have z2:=bT.size;have k2:=uJ.trans (Kept.new (X:=(·=pb)) bT) (λi _ h=>h);push_cast -dsimp;refine ah ?_;intro w3 bO;have BY0:aO w3 (w'.heap.size+1) 129 [.int .i64 6,.pointer none,.slice (some ⟨w'.heap.size,0,none⟩) 1 1,.int .i64 0,.int .i64 (-1)]:=by
   have:=bO.aN;rw[z2]at this;exact this
  have ZQ:=BX0.below bO.below (by omega);have P3:=P2.below bO.below;have z3:=bO.size;have k3:=k2.trans (Kept.new (X:=(·=pb)) bO) (λi _ h=>h);have V3:aV (λb=>b<w.heap.size\/w'.heap.size<=b) w3 (.pointer (some ⟨kb,0,none⟩)) x:=(V1.top.below bT.below).below bO.below;push_cast -dsimp[z2];refine aA (gQ [42] P3) ?_;rintro _ w4 hT;rcases hT with ⟨eY,rfl,t4,l2,tz,lx,P4,kt,xq⟩|⟨eY,rfl,pg⟩
  ·have ew:bV l1=.ok ((),l2):=by rw[tz];exact bB lx
   have p7:l1.length=l2.length+1:=by rw[tz,List.length_cons]
   have kp:cF l1=.ok (some (0,-1),l2):=by
    unfold cF bE;rw[eY,if_pos rfl,aG ew];rfl
   have BY:=BY0.kept kt (by omega);have BX:=ZQ.kept kt (by omega);have kS:=k3.trans kt (λi _ h=>h);have VX:=V3.mono (X':=(·<w.heap.size)) kt (λi h=>by omega) (λi h=>.inl h);push_cast -dsimp[ig];have gi:∃m',m=m'+1:=⟨m-1,by omega⟩;obtain⟨m',nY⟩:=gi;have pV:aQ d (aY d) l0=if d<=c+1 then ck 4 l2 else aw d m' (c+1) (.many x 0 (-1)) l2:=by
    rw[<-dB,nY,aw,aG kp];dsimp only;split<;>rfl
   refine⟨⟨by omega,by omega⟩,?_⟩;refine aK (lk (i+1) P4) ?_ ?_
   ·rintro _ w0 ⟨h8,rfl,GQ⟩;obtain rfl:w4=w0:=GQ.symm;have kN:=PS.len P4;have fS:=pD.len;have TN:=kS.size;push_cast -dsimp[rr];refine⟨⟨m',c+1,.many x 0 (-1),l2,i+1,?_,by omega,⟨rfl,by omega,by omega⟩,?_,P4,kS⟩,by rw[kN,fS];omega⟩
    ·rw[pV,if_neg (by omega)]
    simp only[aV];exact⟨_,_,_,rfl,by omega,BY,iz BX (by omega),VX⟩
   rintro ce w0 ⟨h8,ht,hb⟩;push_cast -dsimp;refine⟨4,_,?_,ht.mono (by have:=kS.size;omega),kS.trans (Kept.aJ hb (X:=(·=pb)) (λi h1 h2=>by omega)) (λi _ h=>h)⟩;rw[pV,if_pos (by omega)];rfl
  obtain rfl:w3=w4:=pg.symm;push_cast -dsimp;refine aA (gQ [43] P3) ?_;rintro _ w4 hT;rcases hT with ⟨iP,rfl,t4,l2,tz,lx,P4,kt,xq⟩|⟨iP,rfl,pg⟩
  ·have ew:bV l1=.ok ((),l2):=by rw[tz];exact bB lx
   have p7:l1.length=l2.length+1:=by rw[tz,List.length_cons]
   have kp:cF l1=.ok (some (1,-1),l2):=by
    unfold cF bE;rw[eY,iP,if_neg (by decide),if_pos rfl,aG ew];rfl
   have WH:=BY0.kept kt (by omega);have WG:=ZQ.kept kt (by omega);have k4:=k3.trans kt (λi _ h=>h);have V4:=V3.mono (X':=λb=>b<w.heap.size\/w'.heap.size<=b) kt (λi h=>by omega) (λi h=>h);push_cast -dsimp;refine aC WH (by simp) rfl ?_;intro w5 bW;have BY:aO w5 (w'.heap.size+1) 129 [.int .i64 6,.pointer none,.slice (some ⟨w'.heap.size,0,none⟩) 1 1,.int .i64 1,.int .i64 (-1)]:=bW.aN;have BX:=WG.kept bW.kept (by omega);have P5:=P4.kept bW.kept (λi h=>by omega);have kS:=k4.trans bW.kept (λi h1 h2=>by omega);have VX:=V4.mono (X':=(·<w.heap.size)) bW.kept (λi h=>by omega) (λi h=>.inl h);push_cast -dsimp[ig];have gi:∃m',m=m'+1:=⟨m-1,by omega⟩;obtain⟨m',nY⟩:=gi;have pV:aQ d (aY d) l0=if d<=c+1 then ck 4 l2 else aw d m' (c+1) (.many x 1 (-1)) l2:=by
    rw[<-dB,nY,aw,aG kp];dsimp only;split<;>rfl
   refine⟨⟨by omega,by omega⟩,?_⟩;refine aK (lk (i+1) P5) ?_ ?_
   ·rintro _ w0 ⟨h8,rfl,GQ⟩;obtain rfl:w5=w0:=GQ.symm;have kN:=PS.len P5;have fS:=pD.len;have TN:=kS.size;push_cast -dsimp[rr];refine⟨⟨m',c+1,.many x 1 (-1),l2,i+1,?_,by omega,⟨rfl,by omega,by omega⟩,?_,P5,kS⟩,by rw[kN,fS];omega⟩
    ·rw[pV,if_neg (by omega)]
    simp only[aV];exact⟨_,_,_,rfl,by omega,BY,iz BX (by omega),VX⟩
   rintro ce w0 ⟨h8,ht,hb⟩;push_cast -dsimp;refine⟨4,_,?_,ht.mono (by have:=kS.size;omega),kS.trans (Kept.aJ hb (X:=(·=pb)) (λi h1 h2=>by omega)) (λi _ h=>h)⟩;rw[pV,if_pos (by omega)];rfl
  obtain rfl:w3=w4:=pg.symm;push_cast -dsimp;refine aA (gQ [63] P3) ?_;rintro _ w4 hT;rcases hT with ⟨nZ,rfl,t4,l2,tz,lx,P4,kt,xq⟩|⟨nZ,rfl,pg⟩
  ·have ew:bV l1=.ok ((),l2):=by rw[tz];exact bB lx
   have p7:l1.length=l2.length+1:=by rw[tz,List.length_cons]
   have kp:cF l1=.ok (some (0,1),l2):=by
    unfold cF bE;rw[eY,iP,nZ,if_neg (by decide),if_neg (by decide),if_pos rfl,aG ew];rfl
   have WH:=BY0.kept kt (by omega);have WG:=ZQ.kept kt (by omega);have k4:=k3.trans kt (λi _ h=>h);have V4:=V3.mono (X':=λb=>b<w.heap.size\/w'.heap.size<=b) kt (λi h=>by omega) (λi h=>h);push_cast -dsimp;refine aC WH (by simp) rfl ?_;intro w5 bW;have BY:aO w5 (w'.heap.size+1) 129 [.int .i64 6,.pointer none,.slice (some ⟨w'.heap.size,0,none⟩) 1 1,.int .i64 0,.int .i64 1]:=bW.aN;have BX:=WG.kept bW.kept (by omega);have P5:=P4.kept bW.kept (λi h=>by omega);have kS:=k4.trans bW.kept (λi h1 h2=>by omega);have VX:=V4.mono (X':=(·<w.heap.size)) bW.kept (λi h=>by omega) (λi h=>.inl h);push_cast -dsimp[ig];have gi:∃m',m=m'+1:=⟨m-1,by omega⟩;obtain⟨m',nY⟩:=gi;have pV:aQ d (aY d) l0=if d<=c+1 then ck 4 l2 else aw d m' (c+1) (.many x 0 1) l2:=by
    rw[<-dB,nY,aw,aG kp];dsimp only;split<;>rfl
   refine⟨⟨by omega,by omega⟩,?_⟩;refine aK (lk (i+1) P5) ?_ ?_
   ·rintro _ w0 ⟨h8,rfl,GQ⟩;obtain rfl:w5=w0:=GQ.symm;have kN:=PS.len P5;have fS:=pD.len;have TN:=kS.size;push_cast -dsimp[rr];refine⟨⟨m',c+1,.many x 0 1,l2,i+1,?_,by omega,⟨rfl,by omega,by omega⟩,?_,P5,kS⟩,by rw[kN,fS];omega⟩
    ·rw[pV,if_neg (by omega)]
    simp only[aV];exact⟨_,_,_,rfl,by omega,BY,iz BX (by omega),VX⟩
   rintro ce w0 ⟨h8,ht,hb⟩;push_cast -dsimp;refine⟨4,_,?_,ht.mono (by have:=kS.size;omega),kS.trans (Kept.aJ hb (X:=(·=pb)) (λi h1 h2=>by omega)) (λi _ h=>h)⟩;rw[pV,if_pos (by omega)];rfl
  obtain rfl:w3=w4:=pg.symm;push_cast -dsimp;refine aA (gQ [123] P3) ?_;rintro _ w4 hT;rcases hT with ⟨hs4,rfl,t4,l2,tz,lx,P4,kt,xq⟩|⟨hs4,rfl,pg⟩
  ·have ew:bV l1=.ok ((),l2):=by rw[tz];exact bB lx
   have p7:l1.length=l2.length+1:=by rw[tz,List.length_cons]
   have zL:cF l1=Cae.pb bR (λr=>pr (some r)) l2:=by
    unfold cF bE;rw[eY,iP,nZ,hs4,if_neg (by decide),if_neg (by decide),if_neg (by decide),if_pos rfl,aG ew]
   have WH:=BY0.kept kt (by omega);have WG:=ZQ.kept kt (by omega);have k4:=k3.trans kt (λi _ h=>h);have V4:=V3.mono (X':=λb=>b<w.heap.size\/w'.heap.size<=b) kt (λi h=>by omega) (λi h=>h);push_cast -dsimp;refine aK (Lj P4) ?_ ?_
   ·rintro _ w5 ⟨n1,l3,e3,⟨rfl,wH⟩,P5,kt5⟩;have BY5:=WH.kept kt5 (by omega);have BX5:=WG.kept kt5 (by omega);have k5:=k4.trans kt5 (λi _ h=>h);have V5:=V4.mono (X':=λb=>b<w.heap.size\/w'.heap.size<=b) kt5 (λi h=>by omega) (λi h=>h);push_cast -dsimp;refine aC BY5 (by simp) rfl ?_;intro w6 cB;have ZR:aO w6 (w'.heap.size+1) 129 [.int .i64 6,.pointer none,.slice (some ⟨w'.heap.size,0,none⟩) 1 1,.int .i64 n1,.int .i64 (-1)]:=cB.aN;have cy6:w6.cell? ⟨w'.heap.size+1,3,none⟩=some (.int .i64 n1):=ZR.cell rfl;push_cast -dsimp[cy6];refine aC ZR (by simp) rfl ?_;intro w7 dN;have BY7:aO w7 (w'.heap.size+1) 129 [.int .i64 6,.pointer none,.slice (some ⟨w'.heap.size,0,none⟩) 1 1,.int .i64 n1,.int .i64 n1]:=dN.aN;have k57:Kept (·=w'.heap.size+1) w5 w7:=cB.kept.trans dN.kept (λi _ h=>h);have BX7:=BX5.kept k57 (by omega);have P7:=P5.kept k57 (λi h=>by omega);have k7:=k5.trans k57 (λi h1 h2=>by omega);have V7:=V5.mono (X':=λb=>b<w.heap.size\/w'.heap.size<=b) k57 (λi h=>by omega) (λi h=>h);push_cast -dsimp;refine aA (gQ [44] P7) ?_;rintro _ w8 hT;rcases hT with ⟨hs5,rfl,t8,l4,el8,h58,P8,kt8,hz8⟩|⟨hs5,rfl,pg⟩
    ·have TE:bV l3=.ok ((),l4):=by rw[el8];exact bB h58
     have BY8:=BY7.kept kt8 (by omega);have BX8:=BX7.kept kt8 (by omega);have k8:=k7.trans kt8 (λi _ h=>h);have V8:=V7.mono (X':=λb=>b<w.heap.size\/w'.heap.size<=b) kt8 (λi h=>by omega) (λi h=>h);have SX:bR l2=bE (isKind 2) (Cae.pb eF λhi=>if hi<n1 then ck 2 else Cae.pb (a7 [125]) λ_=>pr ((n1:Int),(hi:Int))) (Cae.pb (a7 [125]) λ_=>pr ((n1:Int),-1)) l4:=by
      unfold bR;rw[aG e3]
      show (if bI [44] l3 then _ else _)=_
      rw[hs5,if_pos rfl,aG TE]
     push_cast -dsimp;refine aC BY8 (by simp) rfl ?_;intro w9 mC;have BY9:aO w9 (w'.heap.size+1) 129 [.int .i64 6,.pointer none,.slice (some ⟨w'.heap.size,0,none⟩) 1 1,.int .i64 n1,.int .i64 (-1)]:=mC.aN;have BX9:=BX8.kept mC.kept (by omega);have P9:=P8.kept mC.kept (λi h=>by omega);have k9:=k8.trans mC.kept (λi h1 h2=>by omega);have V9:=V8.mono (X':=λb=>b<w.heap.size\/w'.heap.size<=b) mC.kept (λi h=>by omega) (λi h=>h);obtain⟨t9,r9,el9⟩:=P9.tl.cons;have ZT:=P9;rw[el9]at ZT;obtain⟨b9,o9,c9,hB9,hc9,aKY,c90,_,_,_⟩:=ZT.hd;have cb9:w9.cell? ⟨pb,0,none⟩=some (.slice (some ⟨b9,o9,none⟩) (r9.length+1) c9):=hB9.cell rfl;push_cast -dsimp[cb9,c90];refine⟨by omega,λiY=>?_,λiY=>?_⟩
     ·have Kw:isKind 2 l4=true:=by
       have:t9.kind=2:=by omega
       rw[el9];simp[isKind,Cae.hd,this]
      have nA:bR l2=Cae.pb eF (λhi=>if hi<n1 then ck 2 else Cae.pb (a7 [125]) λ_=>pr ((n1:Int),(hi:Int))) l4:=by
       rw[SX];unfold bE;rw[Kw,if_pos rfl]
      refine aK (Lj P9) ?_ ?_
      ·rintro _ wa ⟨n2,l5,e5,⟨rfl,AJ⟩,Pa,tI⟩;have BYa:=BY9.kept tI (by omega);have BXa:=BX9.kept tI (by omega);have ka:=k9.trans tI (λi _ h=>h);have Va:=V9.mono (X':=λb=>b<w.heap.size\/w'.heap.size<=b) tI (λi h=>by omega) (λi h=>h);push_cast -dsimp;refine aC BYa (by simp) rfl ?_;intro wb cX;have BYb:aO wb (w'.heap.size+1) 129 [.int .i64 6,.pointer none,.slice (some ⟨w'.heap.size,0,none⟩) 1 1,.int .i64 n1,.int .i64 n2]:=cX.aN;have BXb:=BXa.kept cX.kept (by omega);have Pb:=Pa.kept cX.kept (λi h=>by omega);have kb':=ka.trans cX.kept (λi h1 h2=>by omega);have VB':=Va.mono (X':=λb=>b<w.heap.size\/w'.heap.size<=b) cX.kept (λi h=>by omega) (λi h=>h);push_cast -dsimp;refine aX (λw'=>w'=wb.drew) mixed (by kernel_rfl) rfl ?_;have d3:wb.drew.cell? ⟨w'.heap.size+1,3,none⟩=some (.int .i64 n1):=BYb.drew.cell rfl;have d4:wb.drew.cell? ⟨w'.heap.size+1,4,none⟩=some (.int .i64 n2):=BYb.drew.cell rfl;have kd:Kept (λ_=>False) wb wb.drew:=(Kept.refl _ _).drew;have BYd:=BYb.kept kd (λh=>h);have BXd:=BXb.kept kd (λh=>h);have Pd:=Pb.kept kd (λi h=>h.elim);have rM:=kb'.trans kd (λi h1 h2=>h2.elim);have VB:=VB'.mono (X':=λb=>b<w.heap.size\/w'.heap.size<=b) kd (λi h=>h.elim) (λi h=>h);push_cast -dsimp[d3,d4];refine⟨λar h=>by rw[h,d4];exact rfl,λar h=>by rw[h,d3];exact rfl,λJL=>?_,λSg=>?_⟩
       ·refine aK (j2 2 Pd) (λ_ _ h=>h.elim) ?_;rintro ce we ⟨ht,hb⟩;push_cast -dsimp;have oG:bR l2=.error (2,(Cae.hd l5).pos):=by
         rw[nA,aG e5,if_pos (by omega)];rfl
        refine⟨2,_,?_,ht.mono (by have:=rM.size;omega),rM.trans (Kept.aJ hb (X:=(·=pb)) (λi h1 h2=>by omega)) (λi _ h=>h)⟩;rw[<-dB];refine gX hm ?_;rw[zL];unfold Cae.pb;rw[oG]
       have NC:bR l2=Cae.pb (a7 [125]) (λ_=>pr ((n1:Int),(n2:Int))) l5:=by
        rw[nA,aG e5,if_neg (by omega)]
       refine aK (fj [125] Pd) ?_ ?_
       ·rintro _ wm ⟨_,lm,em,rfl,Pm,km⟩;have oG:bR l2=.ok (((n1:Int),(n2:Int)),lm):=by rw[NC,aG em];rfl
        have kp:cF l1=.ok (some ((n1:Int),(n2:Int)),lm):=by rw[zL,aG oG];rfl
        have hlm:lm.length<=l2.length:=by
         obtain⟨pre,_,e,_⟩:=jn _ _ _ oG;rw[e,List.length_append];omega
        have BY:=BYd.kept km (by omega);have BX:=BXd.kept km (by omega);have kS:=rM.trans km (λi _ h=>h);have VX:=VB.mono (X':=(·<w.heap.size)) km (λi h=>by omega) (λi h=>.inl h);push_cast -dsimp[ig];have gi:∃m',m=m'+1:=⟨m-1,by omega⟩;obtain⟨m',nY⟩:=gi;have pV:aQ d (aY d) l0=if d<=c+1 then ck 4 lm else aw d m' (c+1) (.many x (n1:Int) (n2:Int)) lm:=by
         rw[<-dB,nY,aw,aG kp];dsimp only;split<;>rfl
        refine⟨⟨by omega,by omega⟩,?_⟩;refine aK (lk (i+1) Pm) ?_ ?_
        ·rintro _ w0 ⟨h8,rfl,GQ⟩;obtain rfl:wm=w0:=GQ.symm;have kN:=PS.len Pm;have fS:=pD.len;have TN:=kS.size;push_cast -dsimp[rr];refine⟨⟨m',c+1,.many x (n1:Int) (n2:Int),lm,i+1,?_,by omega,⟨rfl,by omega,by omega⟩,?_,Pm,kS⟩,by rw[kN,fS];omega⟩
         ·rw[pV,if_neg (by omega)]
         simp only[aV];exact⟨_,_,_,rfl,by omega,BY,iz BX (by omega),VX⟩
        rintro ce w0 ⟨h8,ht,hb⟩;push_cast -dsimp;refine⟨4,_,?_,ht.mono (by have:=kS.size;omega),kS.trans (Kept.aJ hb (X:=(·=pb)) (λi h1 h2=>by omega)) (λi _ h=>h)⟩;rw[pV,if_pos (by omega)];rfl
       rintro ce we ⟨e,pos,he,ht,fL⟩;push_cast -dsimp;refine⟨e,pos,?_,ht.mono (by have:=rM.size;omega),rM.trans fL (λi _ h=>h)⟩;rw[<-dB];refine gX hm ?_;have oG:bR l2=.error (e,pos):=by rw[NC];unfold Cae.pb;rw[he]
       rw[zL];unfold Cae.pb;rw[oG]
      ·
       rintro ce we ⟨e,pos,he,ht,fL⟩
       push_cast -dsimp
       refine⟨e,pos,?_,ht.mono (by have:=k9.size;omega),k9.trans fL (λi _ h=>h)⟩
       rw[<-dB]
       refine gX hm ?_
       rw[zL]
       unfold Cae.pb
       rw[show bR l2=.error (e,pos) by rw[nA];unfold Cae.pb;rw[he]]
     have Kw:isKind 2 l4=false:=by
      have:t9.kind≠2:=λe=>iY (by omega);rw[el9];simp[isKind,Cae.hd,this]
     have nA:bR l2=Cae.pb (a7 [125]) (λ_=>pr ((n1:Int),-1)) l4:=by
      rw[SX];unfold bE;rw[Kw,if_neg (by decide)]
     have VB:=V9;refine aK (fj [125] P9) ?_ ?_
     ·rintro _ wm ⟨_,lm,em,rfl,Pm,km⟩;have oG:bR l2=.ok (((n1:Int),(-1)),lm):=by rw[nA,aG em];rfl
      have kp:cF l1=.ok (some ((n1:Int),(-1)),lm):=by rw[zL,aG oG];rfl
      have hlm:lm.length<=l2.length:=by
       obtain⟨pre,_,e,_⟩:=jn _ _ _ oG;rw[e,List.length_append];omega
      have BY:=BY9.kept km (by omega);have BX:=BX9.kept km (by omega);have kS:=k9.trans km (λi _ h=>h);have VX:=VB.mono (X':=(·<w.heap.size)) km (λi h=>by omega) (λi h=>.inl h);push_cast -dsimp[ig];have gi:∃m',m=m'+1:=⟨m-1,by omega⟩;obtain⟨m',nY⟩:=gi;have pV:aQ d (aY d) l0=if d<=c+1 then ck 4 lm else aw d m' (c+1) (.many x (n1:Int) (-1)) lm:=by
       rw[<-dB,nY,aw,aG kp];dsimp only;split<;>rfl
      refine⟨⟨by omega,by omega⟩,?_⟩;refine aK (lk (i+1) Pm) ?_ ?_
      ·rintro _ w0 ⟨h8,rfl,GQ⟩;obtain rfl:wm=w0:=GQ.symm;have kN:=PS.len Pm;have fS:=pD.len;have TN:=kS.size;push_cast -dsimp[rr];refine⟨⟨m',c+1,.many x (n1:Int) (-1),lm,i+1,?_,by omega,⟨rfl,by omega,by omega⟩,?_,Pm,kS⟩,by rw[kN,fS];omega⟩
       ·rw[pV,if_neg (by omega)]
       simp only[aV];exact⟨_,_,_,rfl,by omega,BY,iz BX (by omega),VX⟩
      rintro ce w0 ⟨h8,ht,hb⟩;push_cast -dsimp;refine⟨4,_,?_,ht.mono (by have:=kS.size;omega),kS.trans (Kept.aJ hb (X:=(·=pb)) (λi h1 h2=>by omega)) (λi _ h=>h)⟩;rw[pV,if_pos (by omega)];rfl
     rintro ce we ⟨e,pos,he,ht,fL⟩;push_cast -dsimp;refine⟨e,pos,?_,ht.mono (by have:=k9.size;omega),k9.trans fL (λi _ h=>h)⟩;rw[<-dB];refine gX hm ?_;have oG:bR l2=.error (e,pos):=by rw[nA];unfold Cae.pb;rw[he]
     rw[zL];unfold Cae.pb;rw[oG]
    obtain rfl:w7=w8:=pg.symm;have nA:bR l2=Cae.pb (a7 [125]) (λ_=>pr ((n1:Int),(n1:Int))) l3:=by
     unfold bR;rw[aG e3]
     show (if bI [44] l3 then _ else _)=_
     rw[hs5,if_neg (by decide)]
    have VB:=V7;push_cast -dsimp;refine aK (fj [125] P7) ?_ ?_
    ·rintro _ wm ⟨_,lm,em,rfl,Pm,km⟩;have oG:bR l2=.ok (((n1:Int),(n1:Int)),lm):=by rw[nA,aG em];rfl
     have kp:cF l1=.ok (some ((n1:Int),(n1:Int)),lm):=by rw[zL,aG oG];rfl
     have hlm:lm.length<=l2.length:=by
      obtain⟨pre,_,e,_⟩:=jn _ _ _ oG;rw[e,List.length_append];omega
     have BY:=BY7.kept km (by omega);have BX:=BX7.kept km (by omega);have kS:=k7.trans km (λi _ h=>h);have VX:=VB.mono (X':=(·<w.heap.size)) km (λi h=>by omega) (λi h=>.inl h);push_cast -dsimp[ig];have gi:∃m',m=m'+1:=⟨m-1,by omega⟩;obtain⟨m',nY⟩:=gi;have pV:aQ d (aY d) l0=if d<=c+1 then ck 4 lm else aw d m' (c+1) (.many x (n1:Int) (n1:Int)) lm:=by
      rw[<-dB,nY,aw,aG kp];dsimp only;split<;>rfl
     refine⟨⟨by omega,by omega⟩,?_⟩;refine aK (lk (i+1) Pm) ?_ ?_
     ·rintro _ w0 ⟨h8,rfl,GQ⟩;obtain rfl:wm=w0:=GQ.symm;have kN:=PS.len Pm;have fS:=pD.len;have TN:=kS.size;push_cast -dsimp[rr];refine⟨⟨m',c+1,.many x (n1:Int) (n1:Int),lm,i+1,?_,by omega,⟨rfl,by omega,by omega⟩,?_,Pm,kS⟩,by rw[kN,fS];omega⟩
      ·rw[pV,if_neg (by omega)]
      simp only[aV];exact⟨_,_,_,rfl,by omega,BY,iz BX (by omega),VX⟩
     rintro ce w0 ⟨h8,ht,hb⟩;push_cast -dsimp;refine⟨4,_,?_,ht.mono (by have:=kS.size;omega),kS.trans (Kept.aJ hb (X:=(·=pb)) (λi h1 h2=>by omega)) (λi _ h=>h)⟩;rw[pV,if_pos (by omega)];rfl
    rintro ce we ⟨e,pos,he,ht,fL⟩;push_cast -dsimp;refine⟨e,pos,?_,ht.mono (by have:=k7.size;omega),k7.trans fL (λi _ h=>h)⟩;rw[<-dB];refine gX hm ?_;have oG:bR l2=.error (e,pos):=by rw[nA];unfold Cae.pb;rw[he]
    rw[zL];unfold Cae.pb;rw[oG]
   ·
    rintro ce we ⟨e,pos,he,ht,fL⟩
    push_cast -dsimp
    refine⟨e,pos,?_,ht.mono (by have:=k4.size;omega),k4.trans fL (λi _ h=>h)⟩
    rw[<-dB]
    refine gX hm ?_
    rw[zL]
    unfold Cae.pb
    rw[show bR l2=.error (e,pos) by unfold bR Cae.pb;rw[he]]
  obtain rfl:w3=w4:=pg.symm;have kp:cF l1=.ok (none,l1):=by
   unfold cF bE;rw[eY,iP,nZ,hs4,if_neg (by decide),if_neg (by decide),if_neg (by decide),if_neg (by decide)];rfl
  push_cast -dsimp[rr];refine⟨x,l1,?_,V3.mono (X':=(·<w.heap.size)) (Kept.refl (λ_=>False) _) (λ_ h=>h.elim) (λi h=>.inl h),P3,k3⟩;rw[<-dB];obtain⟨m',rfl⟩:∃m',m=m'+1:=⟨m-1,by omega⟩;rw[aw,aG kp];rfl
 rintro c w3 ⟨e,pos,he,ht,qq⟩;push_cast -dsimp;refine⟨e,pos,?_,ht,qq⟩;unfold aQ Cae.pb;rw[he]
end Go.Proofs.YtodeeahdhnjpkaaGreatDoor
end
section
end
section
namespace Go.Proofs.YtodeeahdhnjpkaaGreatDoor
open Go.Vc Go.Proofs Go.RowKit Cae
attribute [local irreducible] cw ag aq a8 runK bD Sl Vc.Own vc aW cN ai
def Sh {α:Type}(p:Pa α):Prop:=∀l x l',p l=.ok (x,l')->l'.length<l.length
def Le {α:Type}(p:Pa α):Prop:=∀l x l',p l=.ok (x,l')->l'.length<=l.length
theorem Lo.le {α:Type}{R:α->α->Prop}{p:Pa α}(h:Lo R p p):Le p:=λl x l' e=>by
 obtain⟨pre,_,e,_⟩:=h l x l' e;rw[e,List.length_append];omega
theorem gZ.sh {α:Type}{R:α->α->Prop}{p:Pa α}(h:gZ R p p):Sh p:=λl x l' e=>by
 obtain⟨pre,dA,_,e,_⟩:=h l x l' e
 have:=List.length_pos_iff.2 dA;rw[e,List.length_append];omega
theorem Sh.le {α:Type}{p:Pa α}(h:Sh p):Le p:=λl x l' e=>Nat.le_of_lt (h l x l' e)
theorem Sh.pb {α β:Type}{p:Pa α}{q:α->Pa β}(h:Sh p)(k:∀x,Le (q x)):Sh (Cae.pb p q):=λl y l' e=>by
 obtain⟨x,l1,e1,e2⟩:=eo e;exact Nat.lt_of_le_of_lt (k x _ _ _ e2) (h _ _ _ e1)
theorem Sh.pbr {α β:Type}{p:Pa α}{q:α->Pa β}(h:Le p)(k:∀x,Sh (q x)):Sh (Cae.pb p q):=λl y l' e=>by
 obtain⟨x,l1,e1,e2⟩:=eo e;exact Nat.lt_of_lt_of_le (k x _ _ _ e2) (h _ _ _ e1)
theorem Le.pb {α β:Type}{p:Pa α}{q:α->Pa β}(h:Le p)(k:∀x,Le (q x)):Le (Cae.pb p q):=λl y l' e=>by
 obtain⟨x,l1,e1,e2⟩:=eo e;exact Nat.le_trans (k x _ _ _ e2) (h _ _ _ e1)
theorem Le.pr {α:Type}{x:α}:Le (pr x):=λl y l' e=>by cases e;exact Nat.le_refl _
theorem Sh.bE {α:Type}{c:List Cae.Tok->Bool}{p q:Pa α}(h:Sh p)(k:Sh q):Sh (Cae.bE c p q):=λl x l' e=>by
 unfold Cae.bE at e;split at e
 ·exact h _ _ _ e
 exact k _ _ _ e
theorem Sh.fail {α:Type}{n:Nat}:Sh (ck n:Pa α):=λl x l' e=>by cases e
theorem DK:Le eA:=Lo.le Lo.eA
theorem yl:Sh bV:=gZ.sh fy
theorem aDd:∀d,Sh (dI d)
 | 0=>Sh.fail
 | d+1=>Sh.bE (gZ.sh Te) (Sh.bE (Sh.pbr DK λ_=>Sh.pb yl λ_=>Le.pb (Lo.le (nE d)) λ_=>Le.pr)
   (Sh.bE (Sh.pb yl λ_=>Le.pb (Lo.le (yE (nE d))) λ_=>Le.pb (gZ.sh (iQ _)).le λ_=>Le.pr)
    (Sh.pbr DK λ_=>Sh.pb (gZ.sh DL) λ_=>Le.pr)))
theorem Ye:∀d,Sh (aY d)
 | 0=>Sh.fail
 | d+1=>Sh.bE (Sh.pb yl λ_=>Le.pr) (Sh.bE (Sh.pb yl λ_=>Le.pr) (Sh.bE (Sh.pb yl λ_=>Le.pb (Lo.le (DM (wM d))) λ_=>Le.pb (gZ.sh (iQ _)).le λ_=>Le.pr)
   (Sh.bE (Sh.pb (aDd (d+1)) λ_=>Le.pr) Sh.fail)))
theorem PL {d:Nat}{l l':List Cae.Tok}{x:aI}(h:aY d l=.ok (x,l')):l'.length<l.length:=Ye d _ _ _ h
theorem jg {d:Nat}{l l':List Cae.Tok}{x:aI}(h:aQ d (aY d) l=.ok (x,l')):l'.length<l.length:=by
 obtain⟨y,l1,h1,h2⟩:=eo h;have a:=PL h1;obtain⟨pre,_,e,_⟩:=oQ d _ _ _ _ (show PE y y from λ_=>rfl) _ _ _ h2
 have:l1.length=pre.length+l'.length:=by rw[e,List.length_append]
 omega
theorem Uq (d:Nat)(ha:QA d):aEI d:=by
 intro n oK hn pb B w l0 h0;have hle:=h0.le;have bZ:=h0.lt;refine dm Tryz.func93 rfl (by kernel_rfl) [.tmp 4] rfl ?_;push_cast -dsimp(maxSteps:=4000000) [Tryz.ntmps93];push_cast -dsimp;refine ah ?_;intro w1 au;have B1:aO w1 w.heap.size 129 [.int .i64 4,.pointer none,.slice none 0 0,.int .i64 0,.int .i64 0]:=au.aN;have P1:=h0.below au.below;have z1:=au.size;have k1:Kept (·=pb) w w1:=Kept.new au;push_cast -dsimp;refine aM [8,9,10,11,12,13,14,15,16,17,18,19,20,21,22,23,24,25,26,27,28,29,30,31,32,33,34,35,36,37,38,39,40,41,42,43] (λz w'=>∃(m:Nat) (acc:List aI) (l1:List Cae.Tok) (sv:Value) (vs:List Nat),bG (aQ d (aY d)) m acc l1=bG (aQ d (aY d)) 1000 [] l0/\l1.length<m/\acc.length+m<=1000 /\
   aO w' w.heap.size 129 [.int .i64 4,.pointer none,sv,.int .i64 0,.int .i64 0]/\Go.Vc.Own (w.heap.size+1) 58 1 gg w' sv vs/\aU (λb=>b<w.heap.size\/b=w.heap.size\/sv.ownBlock=some b) w' vs acc/\PS pb B w' l1/\Kept (·=pb) w w') (λz w'=>rP w' pb) ?_ ?_
 ·have bZ:l0.length<1000:=by have:=h0.tl.len;omega
  exact⟨1000,[],l0,_,[],rfl,bZ,by simp,B1,Vc.Own.nil (enc:=gg) _ _ (λ_=>rfl) _,by simp only[aU],P1,k1⟩
 rintro z w' ⟨m,acc,l1,sv,vs,dB,hm,r8,hB,hO,hV,pD,uJ⟩;obtain⟨t1,r1,gy⟩:=pD.tl.cons;have aFG:=pD;rw[gy]at aFG;obtain⟨b,o,c,Cv,hc,dA,c0,c1,c2,c3⟩:=aFG.hd;have cb:w'.cell? ⟨pb,0,none⟩=some (.slice (some ⟨b,o,none⟩) (r1.length+1) c):=Cv.cell rfl;have hzw:=uJ.size;have n5:gB l1=(t1.kind == 3 || fI l1 || bI [46] l1 || bI [36] l1 || bI [40] l1):=by unfold gB isKind;rw[gy];rfl
 push_cast -dsimp[cb,c0];refine⟨by omega,λh3=>?_,λh3=>?_⟩
 ·have qq:(t1.kind == 3)=false:=by
   have:t1.kind≠3:=λe=>h3 (by omega);simpa using this
  rw[qq,Bool.false_or]at n5;refine aA (DV pD) ?_;rintro _ w2 ⟨rfl,b2⟩;have P2:=pD.below b2;have jK:=hB.below b2 hB.lt;have jC:=hO.below b2;have qX:=aU.mono (X':=λb=>b<w.heap.size\/b=w.heap.size\/sv.ownBlock=some b) (Kept.aJ b2 (X:=λ_=>False) (λi h1 h2=>by omega)) (λ_ h=>h.elim) (λ_ h=>h) hV;have k2:=uJ.trans (Kept.aJ b2 (X:=(·=pb)) (λi h1 h2=>by omega)) (λi _ h=>h);cases jR:fI l1 with
  | true =>
   have cO:gB l1=true:=by rw[n5,jR];rfl
   push_cast -dsimp;have gi:∃m',m=m'+1:=⟨m-1,by omega⟩;obtain⟨m',nY⟩:=gi;have hz2:w.heap.size<w2.heap.size:=jK.lt;have kd:Kept (λ_=>False) w2 w2.drew:=(Kept.refl _ _).drew;have wD:=jK.kept kd (λh=>h);have Pd:=P2.kept kd (λi h=>h.elim);have rM:=k2.trans kd (λi h1 h2=>h2.elim);have d2:w2.drew.cell? ⟨w.heap.size,2,none⟩=some sv:=wD.cell rfl;have bN:bG (aQ d (aY d)) m acc l1=Cae.pb (aQ d (aY d)) (λx=>bG (aQ d (aY d)) m' (acc++[x])) l1:=by
    rw[nY,bG];unfold bE;rw[cO,if_pos rfl]
   cases hp:aQ d (aY d) l1 with
   | error e =>
    refine nu (E:=II pb w l0 (gV (aQ d (aY d)))) [(),(),(),(),(),(),()] mixed (by kernel_rfl) (λce te we hE=>?_) ?_
    ·push_cast -dsimp;exact hE
    push_cast -dsimp[d2];refine⟨λar h=>by rw[h,d2];exact rfl,?_⟩;refine nO (ha n oK hn pb B w2.drew l1 Pd) (λv we ⟨x,l',h1,_⟩=>by rw[hp]at h1;cases h1) ?_;rintro ce we ⟨en,pos,he,ht,fL⟩;refine⟨en,pos,?_,ht.mono (by have:=rM.size;omega),rM.trans fL (λi _ h=>h)⟩;have hl:bG (aQ d (aY d)) 1000 [] l0=.error (en,pos):=by
     rw[<-dB,bN];unfold Cae.pb;rw[he]
    unfold gV Cae.pb;rw[hl]
   | ok q =>
    obtain⟨x,l2⟩:=q;have p7:l2.length<l1.length:=jg hp;refine kT (λw'=>aO w' w.heap.size 129 [.int .i64 4,.pointer none,sv,.int .i64 0,.int .i64 0]) mixed (by kernel_rfl) (by simp) jK.drew ?_;push_cast -dsimp[d2];refine⟨λar h=>by rw[aO.cell h (o:=2) rfl];exact rfl,?_⟩;refine aK (ha n oK hn pb B w2.drew l1 Pd) ?_ (λce we ⟨en,pos,he,_⟩=>by rw[hp]at he;cases he);rintro u w3 ⟨x',TZ,e3,V3,P3,k3⟩;obtain⟨rfl,rfl⟩:x=x'/\l2=TZ:=by rw[hp]at e3;cases e3;exact⟨rfl,rfl⟩
    obtain⟨ub,rfl,zM,NU⟩:=V3.ptr;have B3:=wD.kept k3 (by omega);have z3:=k3.size;have hzd:w2.heap.size=w2.drew.heap.size:=rfl;have gw:∀g,sv.ownBlock=some g->g<w2.heap.size:=λg hg=>(jC.block g hg).2;have SP:=(jC.ak kd (λg _ h=>h)).ak k3 (λg hg h=>by have:=(jC.block g hg).1;omega);have Mx:=aU.mono (X':=λb=>(b<w.heap.size\/b=w.heap.size\/sv.ownBlock=some b)\/w2.heap.size<=b) ((kd.weaken (Y:=(·=pb)) (λi _ h=>h.elim)).trans k3 (λi _ h=>h)) (λi h=>by omega) (λi h=>h) (aU.top qX);refine⟨B3,?_⟩;push_cast -dsimp;refine cY dj rfl rfl (by omega) ?_;intro w4 aj;have B4:=B3.below aj.below B3.lt;have z4:=aj.size;have uk:=SP.new aj;have P4:=P3.below aj.below;refine⟨B4,?_⟩;push_cast -dsimp;refine ae (base:=w.heap.size+1) [ub] (enc:=gg) dj uk (by rfl) (λj y hy=>by simpa[gg,bF] using aj.cell hy) nR (by rw[aU.len qX];simp only[List.length_cons,List.length_nil];omega) (by omega) ?_;intro IB w5 gR rh mT;have kg:Kept (λj=>sv.ownBlock=some j) w4 w5:=Kept.grown rh (λ_ h=>h);have oL:∀g,sv.ownBlock=some g->w.heap.size+1<=g:=λg hg=>(jC.block g hg).1;have B5:=B4.kept kg (λh=>by have:=oL _ h;omega);have P5:=P4.kept kg (λi h=>by have:=oL _ h;omega);have z5:=kg.size;refine⟨B5,?_⟩;obtain⟨a5,c5,rfl⟩:=gR.slice;push_cast -dsimp;refine aC B5 (by simp) rfl ?_;intro w6 cB;have B6:aO w6 w.heap.size 129 [.int .i64 4,.pointer none,.slice a5 (vs++[ub]).length c5,.int .i64 0,.int .i64 0]:=cB.aN;have P6:=P5.kept cB.kept (λi h=>by omega);have z6:=cB.size
    have mR:=gR.ak cB.kept (λg hg h=>by have:=(gR.block g hg).1;omega);have k6:=(((rM.trans k3 (λi _ h=>h)).trans (Kept.new (X:=(·=pb)) aj) (λi _ h=>h)).trans kg (λi h1 h2=>by have:=oL _ h2;omega)).trans cB.kept (λi h1 h2=>by omega);have kY:Kept (λi=>i=w.heap.size\/sv.ownBlock=some i) w3 w6:=((Kept.new (X:=λi=>i=w.heap.size\/sv.ownBlock=some i) aj).trans kg (λi _ h=>.inr h)).trans cB.kept (λi _ h=>.inl h);have hX:∀i,(i<w.heap.size\/i=w.heap.size\/(Value.slice a5 (vs++[ub]).length c5).ownBlock=some i)->i<w.heap.size\/i=w.heap.size\/sv.ownBlock=some i\/w4.heap.size<=i:=λi h=>by
     rcases h with h|h|h
     ·exact .inl h
     ·exact .inr (.inl h)
     rcases mT i h with h|h
     ·exact .inr (.inr (.inl h))
     exact .inr (.inr (.inr h))
    have SS:aU (λb=>b<w.heap.size\/b=w.heap.size\/(Value.slice a5 (vs++[ub]).length c5).ownBlock=some b) w6 (vs++[ub]) (acc++[x]):=by
     refine aU.snoc (aU.mono kY (λi h=>?_) (λi h=>?_) Mx) (aV.mono kY (λi h=>?_) (λi h=>?_) V3.top)
     ·rcases h with h|h
      ·exact .inl (.inr (.inl h))
      exact .inl (.inr (.inr h))
     ·rcases hX i h with h|h|h|h
      ·exact .inl (.inl h)
      ·exact .inl (.inr (.inl h))
      ·exact .inl (.inr (.inr h))
      exact .inr (by omega)
     ·rcases h with h|h
      ·exact .inl (by omega)
      exact .inl (gw i h)
     rcases hX i h with h|h|h|h
     ·exact .inl (by omega)
     ·exact .inl (by omega)
     ·exact .inl (gw i h)
     exact .inr (by omega)
    have p8:=P6.len;have fS:=pD.len;have qt:bG (aQ d (aY d)) m' (acc++[x]) l2=bG (aQ d (aY d)) 1000 [] l0:=by rw[<-dB,bN,aG hp]
    push_cast -dsimp;exact⟨⟨m',acc++[x],l2,_,vs++[ub],qt,by omega,by rw[List.length_append,List.length_singleton];omega,B6,mR,SS,P6,k6⟩,by rw[p8,fS];exact p7⟩
  | false =>
   rw[jR,Bool.false_or]at n5;push_cast -dsimp;refine aA (yg [46] P2) ?_;rintro _ w3 ⟨rfl,bO⟩;obtain rfl:w2=w3:=bO.symm;cases eY:bI [46] l1 with
   | true =>
    have cO:gB l1=true:=by rw[n5,eY];rfl
    push_cast -dsimp;have gi:∃m',m=m'+1:=⟨m-1,by omega⟩;obtain⟨m',nY⟩:=gi;have hz2:w.heap.size<w2.heap.size:=jK.lt;have kd:Kept (λ_=>False) w2 w2.drew:=(Kept.refl _ _).drew;have wD:=jK.kept kd (λh=>h);have Pd:=P2.kept kd (λi h=>h.elim);have rM:=k2.trans kd (λi h1 h2=>h2.elim);have d2:w2.drew.cell? ⟨w.heap.size,2,none⟩=some sv:=wD.cell rfl;have bN:bG (aQ d (aY d)) m acc l1=Cae.pb (aQ d (aY d)) (λx=>bG (aQ d (aY d)) m' (acc++[x])) l1:=by
     rw[nY,bG];unfold bE;rw[cO,if_pos rfl]
    cases hp:aQ d (aY d) l1 with
    | error e =>
     refine nu (E:=II pb w l0 (gV (aQ d (aY d)))) [(),(),(),(),(),(),()] mixed (by kernel_rfl) (λce te we hE=>?_) ?_
     ·push_cast -dsimp;exact hE
     push_cast -dsimp[d2];refine⟨λar h=>by rw[h,d2];exact rfl,?_⟩;refine nO (ha n oK hn pb B w2.drew l1 Pd) (λv we ⟨x,l',h1,_⟩=>by rw[hp]at h1;cases h1) ?_;rintro ce we ⟨en,pos,he,ht,fL⟩;refine⟨en,pos,?_,ht.mono (by have:=rM.size;omega),rM.trans fL (λi _ h=>h)⟩;have hl:bG (aQ d (aY d)) 1000 [] l0=.error (en,pos):=by
      rw[<-dB,bN];unfold Cae.pb;rw[he]
     unfold gV Cae.pb;rw[hl]
    | ok q =>
     obtain⟨x,l2⟩:=q;have p7:l2.length<l1.length:=jg hp;refine kT (λw'=>aO w' w.heap.size 129 [.int .i64 4,.pointer none,sv,.int .i64 0,.int .i64 0]) mixed (by kernel_rfl) (by simp) jK.drew ?_;push_cast -dsimp[d2];refine⟨λar h=>by rw[aO.cell h (o:=2) rfl];exact rfl,?_⟩;refine aK (ha n oK hn pb B w2.drew l1 Pd) ?_ (λce we ⟨en,pos,he,_⟩=>by rw[hp]at he;cases he);rintro u w3 ⟨x',TZ,e3,V3,P3,k3⟩;obtain⟨rfl,rfl⟩:x=x'/\l2=TZ:=by rw[hp]at e3;cases e3;exact⟨rfl,rfl⟩
     obtain⟨ub,rfl,zM,NU⟩:=V3.ptr;have B3:=wD.kept k3 (by omega);have z3:=k3.size;have hzd:w2.heap.size=w2.drew.heap.size:=rfl;have gw:∀g,sv.ownBlock=some g->g<w2.heap.size:=λg hg=>(jC.block g hg).2;have SP:=(jC.ak kd (λg _ h=>h)).ak k3 (λg hg h=>by have:=(jC.block g hg).1;omega);have Mx:=aU.mono (X':=λb=>(b<w.heap.size\/b=w.heap.size\/sv.ownBlock=some b)\/w2.heap.size<=b) ((kd.weaken (Y:=(·=pb)) (λi _ h=>h.elim)).trans k3 (λi _ h=>h)) (λi h=>by omega) (λi h=>h) (aU.top qX);refine⟨B3,?_⟩;push_cast -dsimp;refine cY dj rfl rfl (by omega) ?_;intro w4 aj;have B4:=B3.below aj.below B3.lt;have z4:=aj.size;have uk:=SP.new aj;have P4:=P3.below aj.below;refine⟨B4,?_⟩;push_cast -dsimp;refine ae (base:=w.heap.size+1) [ub] (enc:=gg) dj uk (by rfl) (λj y hy=>by simpa[gg,bF] using aj.cell hy) nR (by rw[aU.len qX];simp only[List.length_cons,List.length_nil];omega) (by omega) ?_;intro IB w5 gR rh mT;have kg:Kept (λj=>sv.ownBlock=some j) w4 w5:=Kept.grown rh (λ_ h=>h);have oL:∀g,sv.ownBlock=some g->w.heap.size+1<=g:=λg hg=>(jC.block g hg).1;have B5:=B4.kept kg (λh=>by have:=oL _ h;omega);have P5:=P4.kept kg (λi h=>by have:=oL _ h;omega);have z5:=kg.size;refine⟨B5,?_⟩;obtain⟨a5,c5,rfl⟩:=gR.slice;push_cast -dsimp;refine aC B5 (by simp) rfl ?_;intro w6 cB;have B6:aO w6 w.heap.size 129 [.int .i64 4,.pointer none,.slice a5 (vs++[ub]).length c5,.int .i64 0,.int .i64 0]:=cB.aN;have P6:=P5.kept cB.kept (λi h=>by omega);have z6:=cB.size
     have mR:=gR.ak cB.kept (λg hg h=>by have:=(gR.block g hg).1;omega);have k6:=(((rM.trans k3 (λi _ h=>h)).trans (Kept.new (X:=(·=pb)) aj) (λi _ h=>h)).trans kg (λi h1 h2=>by have:=oL _ h2;omega)).trans cB.kept (λi h1 h2=>by omega);have kY:Kept (λi=>i=w.heap.size\/sv.ownBlock=some i) w3 w6:=((Kept.new (X:=λi=>i=w.heap.size\/sv.ownBlock=some i) aj).trans kg (λi _ h=>.inr h)).trans cB.kept (λi _ h=>.inl h);have hX:∀i,(i<w.heap.size\/i=w.heap.size\/(Value.slice a5 (vs++[ub]).length c5).ownBlock=some i)->i<w.heap.size\/i=w.heap.size\/sv.ownBlock=some i\/w4.heap.size<=i:=λi h=>by
      rcases h with h|h|h
      ·exact .inl h
      ·exact .inr (.inl h)
      rcases mT i h with h|h
      ·exact .inr (.inr (.inl h))
      exact .inr (.inr (.inr h))
     have SS:aU (λb=>b<w.heap.size\/b=w.heap.size\/(Value.slice a5 (vs++[ub]).length c5).ownBlock=some b) w6 (vs++[ub]) (acc++[x]):=by
      refine aU.snoc (aU.mono kY (λi h=>?_) (λi h=>?_) Mx) (aV.mono kY (λi h=>?_) (λi h=>?_) V3.top)
      ·rcases h with h|h
       ·exact .inl (.inr (.inl h))
       exact .inl (.inr (.inr h))
      ·rcases hX i h with h|h|h|h
       ·exact .inl (.inl h)
       ·exact .inl (.inr (.inl h))
       ·exact .inl (.inr (.inr h))
       exact .inr (by omega)
      ·rcases h with h|h
       ·exact .inl (by omega)
       exact .inl (gw i h)
      rcases hX i h with h|h|h|h
      ·exact .inl (by omega)
      ·exact .inl (by omega)
      ·exact .inl (gw i h)
      exact .inr (by omega)
     have p8:=P6.len;have fS:=pD.len;have qt:bG (aQ d (aY d)) m' (acc++[x]) l2=bG (aQ d (aY d)) 1000 [] l0:=by rw[<-dB,bN,aG hp]
     push_cast -dsimp;exact⟨⟨m',acc++[x],l2,_,vs++[ub],qt,by omega,by rw[List.length_append,List.length_singleton];omega,B6,mR,SS,P6,k6⟩,by rw[p8,fS];exact p7⟩
   | false =>
    rw[eY,Bool.false_or]at n5;push_cast -dsimp;refine aA (yg [36] P2) ?_;rintro _ w3 ⟨rfl,bO⟩;obtain rfl:w2=w3:=bO.symm;cases iP:bI [36] l1 with
    | true =>
     have cO:gB l1=true:=by rw[n5,iP];rfl
     push_cast -dsimp;have gi:∃m',m=m'+1:=⟨m-1,by omega⟩;obtain⟨m',nY⟩:=gi;have hz2:w.heap.size<w2.heap.size:=jK.lt;have kd:Kept (λ_=>False) w2 w2.drew:=(Kept.refl _ _).drew;have wD:=jK.kept kd (λh=>h);have Pd:=P2.kept kd (λi h=>h.elim);have rM:=k2.trans kd (λi h1 h2=>h2.elim);have d2:w2.drew.cell? ⟨w.heap.size,2,none⟩=some sv:=wD.cell rfl;have bN:bG (aQ d (aY d)) m acc l1=Cae.pb (aQ d (aY d)) (λx=>bG (aQ d (aY d)) m' (acc++[x])) l1:=by
      rw[nY,bG];unfold bE;rw[cO,if_pos rfl]
     cases hp:aQ d (aY d) l1 with
     | error e =>
      refine nu (E:=II pb w l0 (gV (aQ d (aY d)))) [(),(),(),(),(),(),()] mixed (by kernel_rfl) (λce te we hE=>?_) ?_
      ·push_cast -dsimp;exact hE
      push_cast -dsimp[d2];refine⟨λar h=>by rw[h,d2];exact rfl,?_⟩;refine nO (ha n oK hn pb B w2.drew l1 Pd) (λv we ⟨x,l',h1,_⟩=>by rw[hp]at h1;cases h1) ?_;rintro ce we ⟨en,pos,he,ht,fL⟩;refine⟨en,pos,?_,ht.mono (by have:=rM.size;omega),rM.trans fL (λi _ h=>h)⟩;have hl:bG (aQ d (aY d)) 1000 [] l0=.error (en,pos):=by
       rw[<-dB,bN];unfold Cae.pb;rw[he]
      unfold gV Cae.pb;rw[hl]
     | ok q =>
      obtain⟨x,l2⟩:=q;have p7:l2.length<l1.length:=jg hp;refine kT (λw'=>aO w' w.heap.size 129 [.int .i64 4,.pointer none,sv,.int .i64 0,.int .i64 0]) mixed (by kernel_rfl) (by simp) jK.drew ?_;push_cast -dsimp[d2];refine⟨λar h=>by rw[aO.cell h (o:=2) rfl];exact rfl,?_⟩;refine aK (ha n oK hn pb B w2.drew l1 Pd) ?_ (λce we ⟨en,pos,he,_⟩=>by rw[hp]at he;cases he);rintro u w3 ⟨x',TZ,e3,V3,P3,k3⟩;obtain⟨rfl,rfl⟩:x=x'/\l2=TZ:=by rw[hp]at e3;cases e3;exact⟨rfl,rfl⟩
      obtain⟨ub,rfl,zM,NU⟩:=V3.ptr;have B3:=wD.kept k3 (by omega);have z3:=k3.size;have hzd:w2.heap.size=w2.drew.heap.size:=rfl;have gw:∀g,sv.ownBlock=some g->g<w2.heap.size:=λg hg=>(jC.block g hg).2;have SP:=(jC.ak kd (λg _ h=>h)).ak k3 (λg hg h=>by have:=(jC.block g hg).1;omega);have Mx:=aU.mono (X':=λb=>(b<w.heap.size\/b=w.heap.size\/sv.ownBlock=some b)\/w2.heap.size<=b) ((kd.weaken (Y:=(·=pb)) (λi _ h=>h.elim)).trans k3 (λi _ h=>h)) (λi h=>by omega) (λi h=>h) (aU.top qX);refine⟨B3,?_⟩;push_cast -dsimp;refine cY dj rfl rfl (by omega) ?_;intro w4 aj;have B4:=B3.below aj.below B3.lt;have z4:=aj.size;have uk:=SP.new aj;have P4:=P3.below aj.below;refine⟨B4,?_⟩;push_cast -dsimp;refine ae (base:=w.heap.size+1) [ub] (enc:=gg) dj uk (by rfl) (λj y hy=>by simpa[gg,bF] using aj.cell hy) nR (by rw[aU.len qX];simp only[List.length_cons,List.length_nil];omega) (by omega) ?_;intro IB w5 gR rh mT;have kg:Kept (λj=>sv.ownBlock=some j) w4 w5:=Kept.grown rh (λ_ h=>h);have oL:∀g,sv.ownBlock=some g->w.heap.size+1<=g:=λg hg=>(jC.block g hg).1;have B5:=B4.kept kg (λh=>by have:=oL _ h;omega);have P5:=P4.kept kg (λi h=>by have:=oL _ h;omega);have z5:=kg.size;refine⟨B5,?_⟩;obtain⟨a5,c5,rfl⟩:=gR.slice;push_cast -dsimp;refine aC B5 (by simp) rfl ?_;intro w6 cB;have B6:aO w6 w.heap.size 129 [.int .i64 4,.pointer none,.slice a5 (vs++[ub]).length c5,.int .i64 0,.int .i64 0]:=cB.aN;have P6:=P5.kept cB.kept (λi h=>by omega);have z6:=cB.size
      have mR:=gR.ak cB.kept (λg hg h=>by have:=(gR.block g hg).1;omega);have k6:=(((rM.trans k3 (λi _ h=>h)).trans (Kept.new (X:=(·=pb)) aj) (λi _ h=>h)).trans kg (λi h1 h2=>by have:=oL _ h2;omega)).trans cB.kept (λi h1 h2=>by omega);have kY:Kept (λi=>i=w.heap.size\/sv.ownBlock=some i) w3 w6:=((Kept.new (X:=λi=>i=w.heap.size\/sv.ownBlock=some i) aj).trans kg (λi _ h=>.inr h)).trans cB.kept (λi _ h=>.inl h);have hX:∀i,(i<w.heap.size\/i=w.heap.size\/(Value.slice a5 (vs++[ub]).length c5).ownBlock=some i)->i<w.heap.size\/i=w.heap.size\/sv.ownBlock=some i\/w4.heap.size<=i:=λi h=>by
       rcases h with h|h|h
       ·exact .inl h
       ·exact .inr (.inl h)
       rcases mT i h with h|h
       ·exact .inr (.inr (.inl h))
       exact .inr (.inr (.inr h))
      have SS:aU (λb=>b<w.heap.size\/b=w.heap.size\/(Value.slice a5 (vs++[ub]).length c5).ownBlock=some b) w6 (vs++[ub]) (acc++[x]):=by
       refine aU.snoc (aU.mono kY (λi h=>?_) (λi h=>?_) Mx) (aV.mono kY (λi h=>?_) (λi h=>?_) V3.top)
       ·rcases h with h|h
        ·exact .inl (.inr (.inl h))
        exact .inl (.inr (.inr h))
       ·rcases hX i h with h|h|h|h
        ·exact .inl (.inl h)
        ·exact .inl (.inr (.inl h))
        ·exact .inl (.inr (.inr h))
        exact .inr (by omega)
       ·rcases h with h|h
        ·exact .inl (by omega)
        exact .inl (gw i h)
       rcases hX i h with h|h|h|h
       ·exact .inl (by omega)
       ·exact .inl (by omega)
       ·exact .inl (gw i h)
       exact .inr (by omega)
      have p8:=P6.len;have fS:=pD.len;have qt:bG (aQ d (aY d)) m' (acc++[x]) l2=bG (aQ d (aY d)) 1000 [] l0:=by rw[<-dB,bN,aG hp]
      push_cast -dsimp;exact⟨⟨m',acc++[x],l2,_,vs++[ub],qt,by omega,by rw[List.length_append,List.length_singleton];omega,B6,mR,SS,P6,k6⟩,by rw[p8,fS];exact p7⟩
    | false =>
     rw[iP,Bool.false_or]at n5;push_cast -dsimp;refine aA (yg [40] P2) ?_;rintro _ w3 ⟨rfl,bO⟩;obtain rfl:w2=w3:=bO.symm;cases nZ:bI [40] l1 with
     | true =>
      have cO:gB l1=true:=by rw[n5,nZ]
      push_cast -dsimp;have gi:∃m',m=m'+1:=⟨m-1,by omega⟩;obtain⟨m',nY⟩:=gi;have hz2:w.heap.size<w2.heap.size:=jK.lt;have kd:Kept (λ_=>False) w2 w2.drew:=(Kept.refl _ _).drew;have wD:=jK.kept kd (λh=>h);have Pd:=P2.kept kd (λi h=>h.elim);have rM:=k2.trans kd (λi h1 h2=>h2.elim);have d2:w2.drew.cell? ⟨w.heap.size,2,none⟩=some sv:=wD.cell rfl;have bN:bG (aQ d (aY d)) m acc l1=Cae.pb (aQ d (aY d)) (λx=>bG (aQ d (aY d)) m' (acc++[x])) l1:=by
       rw[nY,bG];unfold bE;rw[cO,if_pos rfl]
      cases hp:aQ d (aY d) l1 with
      | error e =>
       refine nu (E:=II pb w l0 (gV (aQ d (aY d)))) [(),(),(),(),(),(),()] mixed (by kernel_rfl) (λce te we hE=>?_) ?_
       ·push_cast -dsimp;exact hE
       push_cast -dsimp[d2];refine⟨λar h=>by rw[h,d2];exact rfl,?_⟩;refine nO (ha n oK hn pb B w2.drew l1 Pd) (λv we ⟨x,l',h1,_⟩=>by rw[hp]at h1;cases h1) ?_;rintro ce we ⟨en,pos,he,ht,fL⟩;refine⟨en,pos,?_,ht.mono (by have:=rM.size;omega),rM.trans fL (λi _ h=>h)⟩;have hl:bG (aQ d (aY d)) 1000 [] l0=.error (en,pos):=by
        rw[<-dB,bN];unfold Cae.pb;rw[he]
       unfold gV Cae.pb;rw[hl]
      | ok q =>
       obtain⟨x,l2⟩:=q;have p7:l2.length<l1.length:=jg hp;refine kT (λw'=>aO w' w.heap.size 129 [.int .i64 4,.pointer none,sv,.int .i64 0,.int .i64 0]) mixed (by kernel_rfl) (by simp) jK.drew ?_;push_cast -dsimp[d2];refine⟨λar h=>by rw[aO.cell h (o:=2) rfl];exact rfl,?_⟩;refine aK (ha n oK hn pb B w2.drew l1 Pd) ?_ (λce we ⟨en,pos,he,_⟩=>by rw[hp]at he;cases he);rintro u w3 ⟨x',TZ,e3,V3,P3,k3⟩;obtain⟨rfl,rfl⟩:x=x'/\l2=TZ:=by rw[hp]at e3;cases e3;exact⟨rfl,rfl⟩
       obtain⟨ub,rfl,zM,NU⟩:=V3.ptr;have B3:=wD.kept k3 (by omega);have z3:=k3.size;have hzd:w2.heap.size=w2.drew.heap.size:=rfl;have gw:∀g,sv.ownBlock=some g->g<w2.heap.size:=λg hg=>(jC.block g hg).2;have SP:=(jC.ak kd (λg _ h=>h)).ak k3 (λg hg h=>by have:=(jC.block g hg).1;omega);have Mx:=aU.mono (X':=λb=>(b<w.heap.size\/b=w.heap.size\/sv.ownBlock=some b)\/w2.heap.size<=b) ((kd.weaken (Y:=(·=pb)) (λi _ h=>h.elim)).trans k3 (λi _ h=>h)) (λi h=>by omega) (λi h=>h) (aU.top qX);refine⟨B3,?_⟩;push_cast -dsimp;refine cY dj rfl rfl (by omega) ?_;intro w4 aj;have B4:=B3.below aj.below B3.lt;have z4:=aj.size;have uk:=SP.new aj;have P4:=P3.below aj.below;refine⟨B4,?_⟩;push_cast -dsimp;refine ae (base:=w.heap.size+1) [ub] (enc:=gg) dj uk (by rfl) (λj y hy=>by simpa[gg,bF] using aj.cell hy) nR (by rw[aU.len qX];simp only[List.length_cons,List.length_nil];omega) (by omega) ?_;intro IB w5 gR rh mT;have kg:Kept (λj=>sv.ownBlock=some j) w4 w5:=Kept.grown rh (λ_ h=>h);have oL:∀g,sv.ownBlock=some g->w.heap.size+1<=g:=λg hg=>(jC.block g hg).1;have B5:=B4.kept kg (λh=>by have:=oL _ h;omega);have P5:=P4.kept kg (λi h=>by have:=oL _ h;omega);have z5:=kg.size;refine⟨B5,?_⟩;obtain⟨a5,c5,rfl⟩:=gR.slice;push_cast -dsimp;refine aC B5 (by simp) rfl ?_;intro w6 cB;have B6:aO w6 w.heap.size 129 [.int .i64 4,.pointer none,.slice a5 (vs++[ub]).length c5,.int .i64 0,.int .i64 0]:=cB.aN;have P6:=P5.kept cB.kept (λi h=>by omega);have z6:=cB.size
       have mR:=gR.ak cB.kept (λg hg h=>by have:=(gR.block g hg).1;omega);have k6:=(((rM.trans k3 (λi _ h=>h)).trans (Kept.new (X:=(·=pb)) aj) (λi _ h=>h)).trans kg (λi h1 h2=>by have:=oL _ h2;omega)).trans cB.kept (λi h1 h2=>by omega);have kY:Kept (λi=>i=w.heap.size\/sv.ownBlock=some i) w3 w6:=((Kept.new (X:=λi=>i=w.heap.size\/sv.ownBlock=some i) aj).trans kg (λi _ h=>.inr h)).trans cB.kept (λi _ h=>.inl h);have hX:∀i,(i<w.heap.size\/i=w.heap.size\/(Value.slice a5 (vs++[ub]).length c5).ownBlock=some i)->i<w.heap.size\/i=w.heap.size\/sv.ownBlock=some i\/w4.heap.size<=i:=λi h=>by
        rcases h with h|h|h
        ·exact .inl h
        ·exact .inr (.inl h)
        rcases mT i h with h|h
        ·exact .inr (.inr (.inl h))
        exact .inr (.inr (.inr h))
       have SS:aU (λb=>b<w.heap.size\/b=w.heap.size\/(Value.slice a5 (vs++[ub]).length c5).ownBlock=some b) w6 (vs++[ub]) (acc++[x]):=by
        refine aU.snoc (aU.mono kY (λi h=>?_) (λi h=>?_) Mx) (aV.mono kY (λi h=>?_) (λi h=>?_) V3.top)
        ·rcases h with h|h
         ·exact .inl (.inr (.inl h))
         exact .inl (.inr (.inr h))
        ·rcases hX i h with h|h|h|h
         ·exact .inl (.inl h)
         ·exact .inl (.inr (.inl h))
         ·exact .inl (.inr (.inr h))
         exact .inr (by omega)
        ·rcases h with h|h
         ·exact .inl (by omega)
         exact .inl (gw i h)
        rcases hX i h with h|h|h|h
        ·exact .inl (by omega)
        ·exact .inl (by omega)
        ·exact .inl (gw i h)
        exact .inr (by omega)
       have p8:=P6.len;have fS:=pD.len;have qt:bG (aQ d (aY d)) m' (acc++[x]) l2=bG (aQ d (aY d)) 1000 [] l0:=by rw[<-dB,bN,aG hp]
       push_cast -dsimp;exact⟨⟨m',acc++[x],l2,_,vs++[ub],qt,by omega,by rw[List.length_append,List.length_singleton];omega,B6,mR,SS,P6,k6⟩,by rw[p8,fS];exact p7⟩
     | false =>
      have cO:gB l1=false:=by rw[n5,nZ]
      have rf:gV (aQ d (aY d)) l0=.ok (rowOf acc,l1):=by
       have hl:bG (aQ d (aY d)) 1000 [] l0=.ok (acc,l1):=by
        rw[<-dB];obtain⟨m',nY⟩:∃m',m=m'+1:=⟨m-1,by omega⟩;rw[nY,bG];unfold bE;rw[cO];rfl
       unfold gV;rw[aG hl];rfl
      have aJZ:=aU.len qX;have aBm:=jC.slice;obtain⟨va,vc,hsv⟩:=aBm;rw[hsv]at jK jC qX;have d2:w2.cell? ⟨w.heap.size,2,none⟩=some (.slice va vs.length vc):=jK.cell rfl;have rL:=jC.sl;have JV:=k2.size;push_cast -dsimp[d2];refine⟨λh1=>?_,λh1=>?_⟩
      ·obtain⟨u,hvs⟩:∃u,vs=[u]:=List.length_eq_one_iff.1 (by omega);obtain⟨x,hac⟩:∃x,acc=[x]:=List.length_eq_one_iff.1 (by omega);rw[hvs]at rL d2 qX;rw[hac]at qX rf;simp only[aU,and_true]at qX;obtain⟨b5,o5,rfl,_,aP⟩:=rL.get (i:=0) (x:=u) rfl;have d5:w2.cell? ⟨b5,o5,none⟩=some (bF u):=by have:=aP 0 _ rfl;simpa using this
       simp only[List.length_cons,List.length_nil,Nat.zero_add]at d2;push_cast -dsimp[d2,Nat.zero_mul,Nat.add_zero,d5];refine⟨by omega,x,l1,rf,aV.mono (Kept.refl (λ_=>False) _) (λ_ h=>h.elim) (λi h=>.inl h) qX,P2,k2⟩
      have dA:acc.length≠1:=by omega
      have hro:rowOf acc=.cat acc:=by
       unfold rowOf;split
       ·rename_i x;exact absurd rfl dA
       rfl
      refine⟨.cat acc,l1,by rw[<-hro];exact rf,?_,P2,k2⟩;simp only[aV];exact⟨_,_,vs,rfl,by omega,jK,rL.weaken (λi h=>by omega),aU.mono (Kept.refl (λ_=>False) _) (λ_ h=>h.elim) (λi h=>.inl h) qX⟩
 have cO:gB l1=true:=by
  have:t1.kind=3:=by omega
  rw[n5,this];rfl
 have P2:=pD;have jK:=hB;have jC:=hO;have qX:=hV;have k2:=uJ;have gi:∃m',m=m'+1:=⟨m-1,by omega⟩;obtain⟨m',nY⟩:=gi;have hz2:w.heap.size<w'.heap.size:=jK.lt;have kd:Kept (λ_=>False) w' w'.drew:=(Kept.refl _ _).drew;have wD:=jK.kept kd (λh=>h);have Pd:=P2.kept kd (λi h=>h.elim);have rM:=k2.trans kd (λi h1 h2=>h2.elim);have d2:w'.drew.cell? ⟨w.heap.size,2,none⟩=some sv:=wD.cell rfl;have bN:bG (aQ d (aY d)) m acc l1=Cae.pb (aQ d (aY d)) (λx=>bG (aQ d (aY d)) m' (acc++[x])) l1:=by
  rw[nY,bG];unfold bE;rw[cO,if_pos rfl]
 cases hp:aQ d (aY d) l1 with
 | error e =>
  refine nu (E:=II pb w l0 (gV (aQ d (aY d)))) [(),(),(),(),(),(),()] mixed (by kernel_rfl) (λce te we hE=>?_) ?_
  ·push_cast -dsimp;exact hE
  push_cast -dsimp[d2];refine⟨λar h=>by rw[h,d2];exact rfl,?_⟩;refine nO (ha n oK hn pb B w'.drew l1 Pd) (λv we ⟨x,l',h1,_⟩=>by rw[hp]at h1;cases h1) ?_;rintro ce we ⟨en,pos,he,ht,fL⟩;refine⟨en,pos,?_,ht.mono (by have:=rM.size;omega),rM.trans fL (λi _ h=>h)⟩;have hl:bG (aQ d (aY d)) 1000 [] l0=.error (en,pos):=by
   rw[<-dB,bN];unfold Cae.pb;rw[he]
  unfold gV Cae.pb;rw[hl]
 | ok q =>
  obtain⟨x,l2⟩:=q;have p7:l2.length<l1.length:=jg hp;refine kT (λw'=>aO w' w.heap.size 129 [.int .i64 4,.pointer none,sv,.int .i64 0,.int .i64 0]) mixed (by kernel_rfl) (by simp) jK.drew ?_;push_cast -dsimp[d2];refine⟨λar h=>by rw[aO.cell h (o:=2) rfl];exact rfl,?_⟩;refine aK (ha n oK hn pb B w'.drew l1 Pd) ?_ (λce we ⟨en,pos,he,_⟩=>by rw[hp]at he;cases he);rintro u w3 ⟨x',TZ,e3,V3,P3,k3⟩;obtain⟨rfl,rfl⟩:x=x'/\l2=TZ:=by rw[hp]at e3;cases e3;exact⟨rfl,rfl⟩
  obtain⟨ub,rfl,zM,NU⟩:=V3.ptr;have B3:=wD.kept k3 (by omega);have z3:=k3.size;have hzd:w'.heap.size=w'.drew.heap.size:=rfl;have gw:∀g,sv.ownBlock=some g->g<w'.heap.size:=λg hg=>(jC.block g hg).2;have SP:=(jC.ak kd (λg _ h=>h)).ak k3 (λg hg h=>by have:=(jC.block g hg).1;omega);have Mx:=aU.mono (X':=λb=>(b<w.heap.size\/b=w.heap.size\/sv.ownBlock=some b)\/w'.heap.size<=b) ((kd.weaken (Y:=(·=pb)) (λi _ h=>h.elim)).trans k3 (λi _ h=>h)) (λi h=>by omega) (λi h=>h) (aU.top qX);refine⟨B3,?_⟩;push_cast -dsimp;refine cY dj rfl rfl (by omega) ?_;intro w4 aj;have B4:=B3.below aj.below B3.lt;have z4:=aj.size;have uk:=SP.new aj;have P4:=P3.below aj.below;refine⟨B4,?_⟩;push_cast -dsimp;refine ae (base:=w.heap.size+1) [ub] (enc:=gg) dj uk (by rfl) (λj y hy=>by simpa[gg,bF] using aj.cell hy) nR (by rw[aU.len qX];simp only[List.length_cons,List.length_nil];omega) (by omega) ?_;intro IB w5 gR rh mT;have kg:Kept (λj=>sv.ownBlock=some j) w4 w5:=Kept.grown rh (λ_ h=>h);have oL:∀g,sv.ownBlock=some g->w.heap.size+1<=g:=λg hg=>(jC.block g hg).1;have B5:=B4.kept kg (λh=>by have:=oL _ h;omega);have P5:=P4.kept kg (λi h=>by have:=oL _ h;omega);have z5:=kg.size;refine⟨B5,?_⟩;obtain⟨a5,c5,rfl⟩:=gR.slice;push_cast -dsimp;refine aC B5 (by simp) rfl ?_;intro w6 cB;have B6:aO w6 w.heap.size 129 [.int .i64 4,.pointer none,.slice a5 (vs++[ub]).length c5,.int .i64 0,.int .i64 0]:=cB.aN;have P6:=P5.kept cB.kept (λi h=>by omega);have z6:=cB.size
  have mR:=gR.ak cB.kept (λg hg h=>by have:=(gR.block g hg).1;omega);have k6:=(((rM.trans k3 (λi _ h=>h)).trans (Kept.new (X:=(·=pb)) aj) (λi _ h=>h)).trans kg (λi h1 h2=>by have:=oL _ h2;omega)).trans cB.kept (λi h1 h2=>by omega);have kY:Kept (λi=>i=w.heap.size\/sv.ownBlock=some i) w3 w6:=((Kept.new (X:=λi=>i=w.heap.size\/sv.ownBlock=some i) aj).trans kg (λi _ h=>.inr h)).trans cB.kept (λi _ h=>.inl h);have hX:∀i,(i<w.heap.size\/i=w.heap.size\/(Value.slice a5 (vs++[ub]).length c5).ownBlock=some i)->i<w.heap.size\/i=w.heap.size\/sv.ownBlock=some i\/w4.heap.size<=i:=λi h=>by
   rcases h with h|h|h
   ·exact .inl h
   ·exact .inr (.inl h)
   rcases mT i h with h|h
   ·exact .inr (.inr (.inl h))
   exact .inr (.inr (.inr h))
  have SS:aU (λb=>b<w.heap.size\/b=w.heap.size\/(Value.slice a5 (vs++[ub]).length c5).ownBlock=some b) w6 (vs++[ub]) (acc++[x]):=by
   refine aU.snoc (aU.mono kY (λi h=>?_) (λi h=>?_) Mx) (aV.mono kY (λi h=>?_) (λi h=>?_) V3.top)
   ·rcases h with h|h
    ·exact .inl (.inr (.inl h))
    exact .inl (.inr (.inr h))
   ·rcases hX i h with h|h|h|h
    ·exact .inl (.inl h)
    ·exact .inl (.inr (.inl h))
    ·exact .inl (.inr (.inr h))
    exact .inr (by omega)
   ·rcases h with h|h
    ·exact .inl (by omega)
    exact .inl (gw i h)
   rcases hX i h with h|h|h|h
   ·exact .inl (by omega)
   ·exact .inl (by omega)
   ·exact .inl (gw i h)
   exact .inr (by omega)
  have p8:=P6.len;have fS:=pD.len;have qt:bG (aQ d (aY d)) m' (acc++[x]) l2=bG (aQ d (aY d)) 1000 [] l0:=by rw[<-dB,bN,aG hp]
  push_cast -dsimp;exact⟨⟨m',acc++[x],l2,_,vs++[ub],qt,by omega,by rw[List.length_append,List.length_singleton];omega,B6,mR,SS,P6,k6⟩,by rw[p8,fS];exact p7⟩
theorem Up {d:Nat}{l l':List Cae.Tok}{x:aI}(h:gV (aQ d (aY d)) l=.ok (x,l')):l'.length<=l.length:=Lo.le (LK (Ay (wM d))) _ _ _ h
theorem US (d:Nat)(NS:aEI d):aAB d:=by
 intro n oK hn pb B w l0 h0;have hle:=h0.le;have bZ:=h0.lt;refine dm Tryz.func61 rfl (by kernel_rfl) [.tmp 4] rfl ?_;push_cast -dsimp(maxSteps:=4000000) [Tryz.ntmps61];refine aK (lk n h0) ?_ ?_;rotate_left
 ·rintro c w' ⟨h8,ht,hb⟩;have hd0:d=0:=by omega
  subst hd0;push_cast -dsimp;exact⟨4,_,rfl,ht,Kept.aJ hb (λi h1 h2=>by omega)⟩
 rintro _ w0 ⟨h8,rfl,GQ⟩;obtain rfl:w=w0:=GQ.symm;have aB1:j8 d l0=Cae.pb (gV (aQ d (aY d))) (λx=>Cae.pb (eH (gV (aQ d (aY d))) 1000 [x]) λps=>pr (jW ps)) l0:=by
  unfold j8 AX;rw[if_neg (by omega)];rfl
 push_cast -dsimp;refine aK (NS n oK hn pb B w l0 h0) ?_ ?_;rotate_left
 ·rintro c w' ⟨e,pos,he,ht,hk⟩;push_cast -dsimp;refine⟨e,pos,?_,ht,hk⟩;rw[aB1];unfold Cae.pb;rw[he]
 rintro v1 w1 ⟨x0,l1',e1,V1,P1,k1⟩;obtain⟨ub,rfl,zM,NU⟩:=V1.ptr;have z1:=k1.size;push_cast -dsimp;refine cY dj rfl rfl (by omega) ?_;intro w2 bT;have z2:=bT.size;have O2:Go.Vc.Own w.heap.size 58 1 gg w2 (.slice (some ⟨w1.heap.size,0,none⟩) 1 1) [ub]:=bT.own (by rfl) rfl (λ_=>rfl) (by omega) (by omega);push_cast -dsimp;refine ah ?_;intro w3 bO;have B3:=bO.aN;have O3:=O2.new bO;have P3:=(P1.below bT.below).below bO.below;have k3:=(k1.trans (Kept.new (X:=(·=pb)) bT) (λi _ h=>h)).trans (Kept.new (X:=(·=pb)) bO) (λi _ h=>h);have V3:=(V1.top.below bT.below).below bO.below;have tD:∃xb,xb=w2.heap.size:=⟨_,rfl⟩;obtain⟨xb,tD⟩:=tD;have aQ1:w.heap.size<=xb:=by omega
 rw[<-tD]at B3;push_cast -dsimp[<-tD];refine aM [15,16,17,18,19,20,21,22,23,24,25,26,27,28] (λz w'=>∃(m:Nat) (acc:List aI) (l1:List Cae.Tok) (sv:Value) (vs:List Nat),eH (gV (aQ d (aY d))) m acc l1=eH (gV (aQ d (aY d))) 1000 [x0] l1'/\l1.length<m/\acc.length+m<=1001 /\
   aO w' xb 129 [.int .i64 5,.pointer none,sv,.int .i64 0,.int .i64 0]/\Go.Vc.Own w.heap.size 58 1 gg w' sv vs/\(∀g,sv.ownBlock=some g->g≠xb)/\aU (λb=>b<w.heap.size\/b=xb\/sv.ownBlock=some b) w' vs acc/\PS pb B w' l1/\Kept (·=pb) w w') (λz w'=>rP w' pb) ?_ ?_
 ·have bZ:l1'.length<1000:=by have:=P1.tl.len;omega
  have XP:aU (λb=>b<w.heap.size\/b=xb\/(Value.slice (some ⟨w1.heap.size,0,none⟩) 1 1).ownBlock=some b) w3 [ub] [x0]:=by
   simp only[aU,and_true];refine aV.mono (Kept.refl (λ_=>False) _) (λ_ h=>h.elim) (λi h=>?_) V3;rcases h with h|h|h
   ·exact .inl h
   ·exact .inr (by omega)
   have:w1.heap.size=i:=by simpa[Value.ownBlock] using h
   exact .inr (by omega)
  have AK:∀g,(Value.slice (some ⟨w1.heap.size,0,none⟩) 1 1).ownBlock=some g->g≠xb:=λg hg=>by
   have:w1.heap.size=g:=by simpa[Value.ownBlock] using hg
   omega
  exact⟨1000,[x0],l1',_,[ub],rfl,bZ,by simp,B3,O3,AK,XP,P3,k3⟩
 rintro z w' ⟨m,acc,l1,sv,vs,dB,hm,r8,hBq,sP,ie,hVq,pD,kq⟩;have hzw:=kq.size;push_cast -dsimp[<-tD];refine aA (gQ [124] pD) ?_;rintro _ Lp hT;rcases hT with ⟨cO,rfl,t1,Py,gy,lx,P2,kt,hz⟩|⟨cO,rfl,pg⟩
 ·have ew:bV l1=.ok ((),Py):=by rw[gy];exact bB lx
  have Hs:l1.length=Py.length+1:=by rw[gy,List.length_cons]
  have jK:=hBq.kept kt (by omega);have jC:=sP.ak kt (λg hg h=>by have:=(sP.block g hg).1;omega);have qX:aU (λb=>b<w.heap.size\/b=xb\/sv.ownBlock=some b) Lp vs acc:=aU.mono kt (λi h=>by omega) (λi h=>h) hVq;have k2:=kq.trans kt (λi _ h=>h);push_cast -dsimp[<-tD];have gi:∃m',m=m'+1:=⟨m-1,by omega⟩;obtain⟨m',nY⟩:=gi;have hz2:xb<Lp.heap.size:=jK.lt;have kd:Kept (λ_=>False) Lp Lp.drew:=(Kept.refl _ _).drew;have wD:=jK.kept kd (λh=>h);have Pd:=P2.kept kd (λi h=>h.elim);have rM:=k2.trans kd (λi h1 h2=>h2.elim);have d2:Lp.drew.cell? ⟨xb,2,none⟩=some sv:=wD.cell rfl;have bN:eH (gV (aQ d (aY d))) m acc l1=Cae.pb (gV (aQ d (aY d))) (λx=>eH (gV (aQ d (aY d))) m' (acc++[x])) Py:=by
   rw[nY,eH];unfold bE;rw[cO,if_pos rfl,aG ew]
  cases hp:gV (aQ d (aY d)) Py with
  | error e =>
   refine nu (E:=II pb w l0 (j8 d)) [(),(),(),(),(),(),()] mixed (by kernel_rfl) (λce te we hE=>?_) ?_
   ·push_cast -dsimp;exact hE
   push_cast -dsimp[d2];refine⟨λar h=>by rw[h,d2];exact rfl,?_⟩;refine nO (NS n oK hn pb B Lp.drew Py Pd) (λv we ⟨x,l',h1,_⟩=>by rw[hp]at h1;cases h1) ?_;rintro ce we ⟨en,pos,he,ht,fL⟩;refine⟨en,pos,?_,ht.mono (by have:=rM.size;omega),rM.trans fL (λi _ h=>h)⟩;have hl:eH (gV (aQ d (aY d))) 1000 [x0] l1'=.error (en,pos):=by
    rw[<-dB,bN];unfold Cae.pb;rw[he]
   rw[aB1,aG e1];unfold Cae.pb;rw[hl]
  | ok q =>
   obtain⟨x,l2⟩:=q;have p7:l2.length<l1.length:=by
    have:=Up hp;rw[Hs];omega
   refine kT (λw'=>aO w' xb 129 [.int .i64 5,.pointer none,sv,.int .i64 0,.int .i64 0]) mixed (by kernel_rfl) (by simp) jK.drew ?_;push_cast -dsimp[d2];refine⟨λar h=>by rw[aO.cell h (o:=2) rfl];exact rfl,?_⟩;refine aK (NS n oK hn pb B Lp.drew Py Pd) ?_ (λce we ⟨en,pos,he,_⟩=>by rw[hp]at he;cases he);rintro u w3 ⟨x',TZ,e3,V3,P3,k3⟩;obtain⟨rfl,rfl⟩:x=x'/\l2=TZ:=by rw[hp]at e3;cases e3;exact⟨rfl,rfl⟩
   obtain⟨ub,rfl,zM,NU⟩:=V3.ptr;have B3:=wD.kept k3 (by omega);have z3:=k3.size;have hzd:Lp.heap.size=Lp.drew.heap.size:=rfl;have gw:∀g,sv.ownBlock=some g->g<Lp.heap.size:=λg hg=>(jC.block g hg).2;have SP:=(jC.ak kd (λg _ h=>h)).ak k3 (λg hg h=>by have:=(jC.block g hg).1;omega);have Mx:=aU.mono (X':=λb=>(b<w.heap.size\/b=xb\/sv.ownBlock=some b)\/Lp.heap.size<=b) ((kd.weaken (Y:=(·=pb)) (λi _ h=>h.elim)).trans k3 (λi _ h=>h)) (λi h=>by omega) (λi h=>h) (aU.top qX);refine⟨B3,?_⟩;push_cast -dsimp;refine cY dj rfl rfl (by omega) ?_;intro w4 aj;have B4:=B3.below aj.below B3.lt;have z4:=aj.size;have uk:=SP.new aj;have P4:=P3.below aj.below;refine⟨B4,?_⟩;push_cast -dsimp;refine ae (base:=w.heap.size) [ub] (enc:=gg) dj uk (by rfl) (λj y hy=>by simpa[gg,bF] using aj.cell hy) nR (by rw[aU.len qX];simp only[List.length_cons,List.length_nil];omega) (by omega) ?_;intro IB w5 gR rh mT;have kg:Kept (λj=>sv.ownBlock=some j) w4 w5:=Kept.grown rh (λ_ h=>h);have oL:∀g,sv.ownBlock=some g->w.heap.size<=g/\g≠xb:=λg hg=>⟨(jC.block g hg).1,ie g hg⟩;have B5:=B4.kept kg (λh=>by have:=oL _ h;omega);have P5:=P4.kept kg (λi h=>by have:=oL _ h;omega);have z5:=kg.size;refine⟨B5,?_⟩;obtain⟨a5,c5,rfl⟩:=gR.slice;push_cast -dsimp;refine aC B5 (by simp) rfl ?_;intro w6 cB;have B6:aO w6 xb 129 [.int .i64 5,.pointer none,.slice a5 (vs++[ub]).length c5,.int .i64 0,.int .i64 0]:=cB.aN;have P6:=P5.kept cB.kept (λi h=>by omega);have z6:=cB.size
   have JP:∀g,(Value.slice a5 (vs++[ub]).length c5).ownBlock=some g->g≠xb:=λg hg=>by
    rcases mT g hg with h|h
    ·exact(oL g h).2
    omega
   have mR:=gR.ak cB.kept (λg hg h=>JP g hg h);have k6:=(((rM.trans k3 (λi _ h=>h)).trans (Kept.new (X:=(·=pb)) aj) (λi _ h=>h)).trans kg (λi h1 h2=>by have:=oL _ h2;omega)).trans cB.kept (λi h1 h2=>by omega);have kY:Kept (λi=>i=xb\/sv.ownBlock=some i) w3 w6:=((Kept.new (X:=λi=>i=xb\/sv.ownBlock=some i) aj).trans kg (λi _ h=>.inr h)).trans cB.kept (λi _ h=>.inl h);have hX:∀i,(i<w.heap.size\/i=xb\/(Value.slice a5 (vs++[ub]).length c5).ownBlock=some i)->i<w.heap.size\/i=xb\/sv.ownBlock=some i\/w4.heap.size<=i:=λi h=>by
    rcases h with h|h|h
    ·exact .inl h
    ·exact .inr (.inl h)
    rcases mT i h with h|h
    ·exact .inr (.inr (.inl h))
    exact .inr (.inr (.inr h))
   have SS:aU (λb=>b<w.heap.size\/b=xb\/(Value.slice a5 (vs++[ub]).length c5).ownBlock=some b) w6 (vs++[ub]) (acc++[x]):=by
    refine aU.snoc (aU.mono kY (λi h=>?_) (λi h=>?_) Mx) (aV.mono kY (λi h=>?_) (λi h=>?_) V3.top)
    ·rcases h with h|h
     ·exact .inl (.inr (.inl h))
     exact .inl (.inr (.inr h))
    ·rcases hX i h with h|h|h|h
     ·exact .inl (.inl h)
     ·exact .inl (.inr (.inl h))
     ·exact .inl (.inr (.inr h))
     exact .inr (by omega)
    ·rcases h with h|h
     ·exact .inl (by omega)
     exact .inl (gw i h)
    rcases hX i h with h|h|h|h
    ·exact .inl (by omega)
    ·exact .inl (by omega)
    ·exact .inl (gw i h)
    exact .inr (by omega)
   have p8:=P6.len;have fS:=pD.len;have qt:eH (gV (aQ d (aY d))) m' (acc++[x]) l2=eH (gV (aQ d (aY d))) 1000 [x0] l1':=by rw[<-dB,bN,aG hp]
   push_cast -dsimp;exact⟨⟨m',acc++[x],l2,_,vs++[ub],qt,by omega,by rw[List.length_append,List.length_singleton];omega,B6,mR,JP,SS,P6,k6⟩,by rw[p8,fS];exact p7⟩
 obtain rfl:w'=Lp:=pg.symm;have rf:j8 d l0=.ok (jW acc,l1):=by
  have hl:eH (gV (aQ d (aY d))) 1000 [x0] l1'=.ok (acc,l1):=by
   rw[<-dB];obtain⟨m',nY⟩:∃m',m=m'+1:=⟨m-1,by omega⟩;rw[nY,eH];unfold bE;rw[cO];rfl
  rw[aB1,aG e1,aG hl];rfl
 have jK:=hBq;have jC:=sP;have qX:=hVq;have P2:=pD;have k2:=kq;have aJZ:=aU.len qX;have aBm:=jC.slice;obtain⟨va,vc,hsv⟩:=aBm;rw[hsv]at jK jC qX;have d2:w'.cell? ⟨xb,2,none⟩=some (.slice va vs.length vc):=jK.cell rfl;have rL:=jC.sl;have JV:=k2.size;push_cast -dsimp[d2];refine⟨λh1=>?_,λh1=>?_⟩
 ·obtain⟨u,hvs⟩:∃u,vs=[u]:=List.length_eq_one_iff.1 (by omega);obtain⟨x,hac⟩:∃x,acc=[x]:=List.length_eq_one_iff.1 (by omega);rw[hvs]at rL d2 qX;rw[hac]at qX rf;simp only[aU,and_true]at qX;obtain⟨b5,o5,rfl,_,aP⟩:=rL.get (i:=0) (x:=u) rfl;have d5:w'.cell? ⟨b5,o5,none⟩=some (bF u):=by have:=aP 0 _ rfl;simpa using this
  simp only[List.length_cons,List.length_nil,Nat.zero_add]at d2;push_cast -dsimp[d2,Nat.zero_mul,Nat.add_zero,d5];refine⟨by omega,x,l1,rf,aV.mono (Kept.refl (λ_=>False) _) (λ_ h=>h.elim) (λi h=>.inl h) qX,P2,k2⟩
 have dA:acc.length≠1:=by omega
 have hro:jW acc=.alt acc:=by
  unfold jW;split
  ·rename_i x;exact absurd rfl dA
  rfl
 refine⟨.alt acc,l1,by rw[<-hro];exact rf,?_,P2,k2⟩;simp only[aV];exact⟨_,_,vs,rfl,by omega,jK,rL.weaken (λi h=>by omega),aU.mono (Kept.refl (λ_=>False) _) (λ_ h=>h.elim) (λi h=>.inl h) qX⟩
end Go.Proofs.YtodeeahdhnjpkaaGreatDoor
end
