/- Texts of this claim, merged: Rp6, Vr, Rp7, Rp8. -/
import Derived.Test.YtodeeahdhnjpkaaGreatDoorM7
set_option maxRecDepth 100000
set_option linter.unusedSimpArgs false
set_option linter.unusedVariables false
set_option maxHeartbeats 8000000
section
namespace Go.Proofs.YtodeeahdhnjpkaaGreatDoor
open Go.Vc Go.Proofs Go.RowKit Cae
attribute [local irreducible] wpL callK valK unitK runK Fun Sl Vc.Own vc vcOps opK pureK
theorem sl_blk1 {w:World}{b:Nat}{e:TypeId}{u:Nat}{X:Nat→Prop}(h:Blk w b e [ptrP u])(hb:¬X b):Sl X 1 (En encP) w (.slice (some ⟨b,0,none⟩) 1 1) [u]:=by
 unfold Sl;refine⟨_,1,rfl,by simp,fun i x hx=>⟨b,0,encP u,rfl,hb,rfl,fun j y hy=>?_,?_⟩⟩
 ·have hi:i=0:=by
   have:=(List.getElem?_eq_some_iff.1 hx).1;simp at this;exact this
  have hj:j=0:=by
   have:=(List.getElem?_eq_some_iff.1 hy).1;simp[encP]at this;exact this
  subst hi hj;simp[encP]at hy;subst hy;exact h.cell rfl
 ·have hi:i=0:=by
   have:=(List.getElem?_eq_some_iff.1 hx).1;simp at this;exact this
  subst hi;simp at hx;subst hx;rfl
theorem again_err {d m c:Nat}{x:PatP}{l:List Cae.Tok}{e:Nat×Nat}(hm:l.length<m)(h:suffixP l=.error e):againLoop d m c x l=.error e:=by
 obtain⟨m',rfl⟩:∃m',m=m'+1:=⟨m-1,by omega⟩;rw[againLoop];unfold Cae.pb;rw[h]
theorem again_of (d:Nat)(hu:UnitC d):AgainC d:=by
 intro n hn0 hn pb B w l0 h0;have hle:=h0.le;have hlt:=h0.lt;refine fun2_of_vc Tryz.func120 rfl (by kernel_rfl) [.tmp 4] rfl ?_;push_cast -dsimp(maxSteps:=4000000) [Tryz.ntmps120];refine callP_of (hu n hn0 hn pb B w l0 h0) ?_ ?_
 ·rintro v1 w1 ⟨x0,l1,e1,V1,P1,hk1⟩;have hstart:againW d (unitP d) l0=againLoop d 1000 0 x0 l1:=by
   unfold againW;rw[pb_of e1]
  push_cast -dsimp;refine wpL_loop [4,5,6,7,12,13,14,15,16,17,18,19,20,21,22,23,24,25,26,27,28,29,30,31,32,33,34,35,36,37,38,39,40,41,42,43,44,45,46,47,48,49,50,51,52,53,54,55,56,57,58,59,60,61,62,63,64,65,66,67,68,69,70,71,72,73,74,75,76,77,78,79,80,81,82,83] (fun z w'=>∃(m c:Nat) (x:PatP) (l1:List Cae.Tok) (i:Int),againLoop d m c x l1=againW d (unitP d) l0∧l1.length<m∧(z 6=.int .i64 i∧i=n+(c:Int)∧i≤9)∧PatV (·<w.heap.size) w' (z 5) x∧PS pb B w' l1∧Kept (·=pb) w w') (fun z w'=>lenAt w' pb) ?_ ?_
  ·have hlt:l1.length<1000:=by have:=P1.tl.len;omega
   exact⟨1000,0,x0,l1,n,hstart.symm,hlt,⟨rfl,by omega,by omega⟩,V1,P1,hk1⟩
  rintro z w' ⟨m,c,x,l1,i,hm2,hm,⟨hz6,hi,hi9⟩,V1,hP1,hkw⟩;obtain⟨kb,hz5,hkb,hkX⟩:=V1.ptr;rw[hz5]at V1;obtain⟨t1,r1,el1⟩:=hP1.tl.cons;have hzw:=hkw.size;push_cast -dsimp[hz5];refine rowK elI_127 rfl rfl (by omega) ?_;intro w2 hw2;have BX0:Blk w2 w'.heap.size 58 [.pointer (some ⟨kb,0,none⟩)]:=hw2.blk;have P2:=hP1.below hw2.below;have z2:=hw2.size;have k2:=hkw.trans (Kept.new (X:=(·=pb)) hw2) (fun i _ h=>h);push_cast -dsimp;refine boxK_of ?_;intro w3 hw3;have BY0:Blk w3 (w'.heap.size+1) 129 [.int .i64 6,.pointer none,.slice (some ⟨w'.heap.size,0,none⟩) 1 1,.int .i64 0,.int .i64 (-1)]:=by
   have:=hw3.blk;rw[z2]at this;exact this
  have BX3:=BX0.below hw3.below (by omega);have P3:=P2.below hw3.below;have z3:=hw3.size;have k3:=k2.trans (Kept.new (X:=(·=pb)) hw3) (fun i _ h=>h);have V3:PatV (fun b=>b<w.heap.size∨w'.heap.size≤b) w3 (.pointer (some ⟨kb,0,none⟩)) x:=(V1.top.below hw2.below).below hw3.below;push_cast -dsimp[z2];refine callK_of (take_c [42] P3) ?_;rintro _ w4 hT;rcases hT with ⟨hs1,rfl,t4,l2,el4,h51,P4,kt,hz4⟩|⟨hs1,rfl,hww⟩
  ·have hpop:popP l1=.ok ((),l2):=by rw[el4];exact popP_cons h51
   have hl2:l1.length=l2.length+1:=by rw[el4,List.length_cons]
   have hsuf:suffixP l1=.ok (some (0,-1),l2):=by
    unfold suffixP pif;rw[hs1,if_pos rfl,pb_of hpop];rfl
   have BY:=BY0.kept kt (by omega);have BX:=BX3.kept kt (by omega);have kS:=k3.trans kt (fun i _ h=>h);have VX:=V3.mono (X':=(·<w.heap.size)) kt (fun i h=>by omega) (fun i h=>.inl h);push_cast -dsimp[hz6];have hm1:∃m',m=m'+1:=⟨m-1,by omega⟩;obtain⟨m',hmm⟩:=hm1;have hag:againW d (unitP d) l0=if d≤c+1 then pfail 4 l2 else againLoop d m' (c+1) (.many x 0 (-1)) l2:=by
    rw[←hm2,hmm,againLoop,pb_of hsuf];dsimp only;split<;>rfl
   refine⟨⟨by omega,by omega⟩,?_⟩;refine callP_of (deep_c (i+1) P4) ?_ ?_
   ·rintro _ w0 ⟨h8,rfl,hw0⟩;obtain rfl:w4=w0:=hw0.symm;have hlen4:=PS.len P4;have hlen1:=hP1.len;have hzS:=kS.size;push_cast -dsimp[hz5];refine⟨⟨m',c+1,.many x 0 (-1),l2,i+1,?_,by omega,⟨rfl,by omega,by omega⟩,?_,P4,kS⟩,by rw[hlen4,hlen1];omega⟩
    ·rw[hag,if_neg (by omega)]
    ·simp only[PatV];exact⟨_,_,_,rfl,by omega,BY,sl_blk1 BX (by omega),VX⟩
   ·rintro ce w0 ⟨h8,ht,hb⟩;push_cast -dsimp;refine⟨4,_,?_,ht.mono (by have:=kS.size;omega),kS.trans (Kept.of_below hb (X:=(·=pb)) (fun i h1 h2=>by omega)) (fun i _ h=>h)⟩;rw[hag,if_pos (by omega)];rfl
  ·obtain rfl:w3=w4:=hww.symm;push_cast -dsimp;refine callK_of (take_c [43] P3) ?_;rintro _ w4 hT;rcases hT with ⟨hs2,rfl,t4,l2,el4,h51,P4,kt,hz4⟩|⟨hs2,rfl,hww⟩
   ·have hpop:popP l1=.ok ((),l2):=by rw[el4];exact popP_cons h51
    have hl2:l1.length=l2.length+1:=by rw[el4,List.length_cons]
    have hsuf:suffixP l1=.ok (some (1,-1),l2):=by
     unfold suffixP pif;rw[hs1,hs2,if_neg (by decide),if_pos rfl,pb_of hpop];rfl
    have BY4:=BY0.kept kt (by omega);have BX4:=BX3.kept kt (by omega);have k4:=k3.trans kt (fun i _ h=>h);have V4:=V3.mono (X':=fun b=>b<w.heap.size∨w'.heap.size≤b) kt (fun i h=>by omega) (fun i h=>h);push_cast -dsimp;refine storeK_of BY4 (by simp) rfl ?_;intro w5 hw5;have BY:Blk w5 (w'.heap.size+1) 129 [.int .i64 6,.pointer none,.slice (some ⟨w'.heap.size,0,none⟩) 1 1,.int .i64 1,.int .i64 (-1)]:=hw5.blk;have BX:=BX4.kept hw5.kept (by omega);have P5:=P4.kept hw5.kept (fun i h=>by omega);have kS:=k4.trans hw5.kept (fun i h1 h2=>by omega);have VX:=V4.mono (X':=(·<w.heap.size)) hw5.kept (fun i h=>by omega) (fun i h=>.inl h);push_cast -dsimp[hz6];have hm1:∃m',m=m'+1:=⟨m-1,by omega⟩;obtain⟨m',hmm⟩:=hm1;have hag:againW d (unitP d) l0=if d≤c+1 then pfail 4 l2 else againLoop d m' (c+1) (.many x 1 (-1)) l2:=by
     rw[←hm2,hmm,againLoop,pb_of hsuf];dsimp only;split<;>rfl
    refine⟨⟨by omega,by omega⟩,?_⟩;refine callP_of (deep_c (i+1) P5) ?_ ?_
    ·rintro _ w0 ⟨h8,rfl,hw0⟩;obtain rfl:w5=w0:=hw0.symm;have hlen4:=PS.len P5;have hlen1:=hP1.len;have hzS:=kS.size;push_cast -dsimp[hz5];refine⟨⟨m',c+1,.many x 1 (-1),l2,i+1,?_,by omega,⟨rfl,by omega,by omega⟩,?_,P5,kS⟩,by rw[hlen4,hlen1];omega⟩
     ·rw[hag,if_neg (by omega)]
     ·simp only[PatV];exact⟨_,_,_,rfl,by omega,BY,sl_blk1 BX (by omega),VX⟩
    ·rintro ce w0 ⟨h8,ht,hb⟩;push_cast -dsimp;refine⟨4,_,?_,ht.mono (by have:=kS.size;omega),kS.trans (Kept.of_below hb (X:=(·=pb)) (fun i h1 h2=>by omega)) (fun i _ h=>h)⟩;rw[hag,if_pos (by omega)];rfl
   ·obtain rfl:w3=w4:=hww.symm;push_cast -dsimp;refine callK_of (take_c [63] P3) ?_;rintro _ w4 hT;rcases hT with ⟨hs3,rfl,t4,l2,el4,h51,P4,kt,hz4⟩|⟨hs3,rfl,hww⟩
    ·have hpop:popP l1=.ok ((),l2):=by rw[el4];exact popP_cons h51
     have hl2:l1.length=l2.length+1:=by rw[el4,List.length_cons]
     have hsuf:suffixP l1=.ok (some (0,1),l2):=by
      unfold suffixP pif;rw[hs1,hs2,hs3,if_neg (by decide),if_neg (by decide),if_pos rfl,pb_of hpop];rfl
     have BY4:=BY0.kept kt (by omega);have BX4:=BX3.kept kt (by omega);have k4:=k3.trans kt (fun i _ h=>h);have V4:=V3.mono (X':=fun b=>b<w.heap.size∨w'.heap.size≤b) kt (fun i h=>by omega) (fun i h=>h);push_cast -dsimp;refine storeK_of BY4 (by simp) rfl ?_;intro w5 hw5;have BY:Blk w5 (w'.heap.size+1) 129 [.int .i64 6,.pointer none,.slice (some ⟨w'.heap.size,0,none⟩) 1 1,.int .i64 0,.int .i64 1]:=hw5.blk;have BX:=BX4.kept hw5.kept (by omega);have P5:=P4.kept hw5.kept (fun i h=>by omega);have kS:=k4.trans hw5.kept (fun i h1 h2=>by omega);have VX:=V4.mono (X':=(·<w.heap.size)) hw5.kept (fun i h=>by omega) (fun i h=>.inl h);push_cast -dsimp[hz6];have hm1:∃m',m=m'+1:=⟨m-1,by omega⟩;obtain⟨m',hmm⟩:=hm1;have hag:againW d (unitP d) l0=if d≤c+1 then pfail 4 l2 else againLoop d m' (c+1) (.many x 0 1) l2:=by
      rw[←hm2,hmm,againLoop,pb_of hsuf];dsimp only;split<;>rfl
     refine⟨⟨by omega,by omega⟩,?_⟩;refine callP_of (deep_c (i+1) P5) ?_ ?_
     ·rintro _ w0 ⟨h8,rfl,hw0⟩;obtain rfl:w5=w0:=hw0.symm;have hlen4:=PS.len P5;have hlen1:=hP1.len;have hzS:=kS.size;push_cast -dsimp[hz5];refine⟨⟨m',c+1,.many x 0 1,l2,i+1,?_,by omega,⟨rfl,by omega,by omega⟩,?_,P5,kS⟩,by rw[hlen4,hlen1];omega⟩
      ·rw[hag,if_neg (by omega)]
      ·simp only[PatV];exact⟨_,_,_,rfl,by omega,BY,sl_blk1 BX (by omega),VX⟩
     ·rintro ce w0 ⟨h8,ht,hb⟩;push_cast -dsimp;refine⟨4,_,?_,ht.mono (by have:=kS.size;omega),kS.trans (Kept.of_below hb (X:=(·=pb)) (fun i h1 h2=>by omega)) (fun i _ h=>h)⟩;rw[hag,if_pos (by omega)];rfl
    ·obtain rfl:w3=w4:=hww.symm;push_cast -dsimp;refine callK_of (take_c [123] P3) ?_;rintro _ w4 hT;rcases hT with ⟨hs4,rfl,t4,l2,el4,h51,P4,kt,hz4⟩|⟨hs4,rfl,hww⟩
     ·have hpop:popP l1=.ok ((),l2):=by rw[el4];exact popP_cons h51
      have hl2:l1.length=l2.length+1:=by rw[el4,List.length_cons]
      have hsx:suffixP l1=Cae.pb bracesP (fun r=>pr (some r)) l2:=by
       unfold suffixP pif;rw[hs1,hs2,hs3,hs4,if_neg (by decide),if_neg (by decide),if_neg (by decide),if_pos rfl,pb_of hpop]
      have BY4:=BY0.kept kt (by omega);have BX4:=BX3.kept kt (by omega);have k4:=k3.trans kt (fun i _ h=>h);have V4:=V3.mono (X':=fun b=>b<w.heap.size∨w'.heap.size≤b) kt (fun i h=>by omega) (fun i h=>h);push_cast -dsimp;refine callP_of (times_c P4) ?_ ?_
      ·rintro _ w5 ⟨n1,l3,e3,⟨rfl,hn1⟩,P5,kt5⟩;have BY5:=BY4.kept kt5 (by omega);have BX5:=BX4.kept kt5 (by omega);have k5:=k4.trans kt5 (fun i _ h=>h);have V5:=V4.mono (X':=fun b=>b<w.heap.size∨w'.heap.size≤b) kt5 (fun i h=>by omega) (fun i h=>h);push_cast -dsimp;refine storeK_of BY5 (by simp) rfl ?_;intro w6 hw6;have BY6:Blk w6 (w'.heap.size+1) 129 [.int .i64 6,.pointer none,.slice (some ⟨w'.heap.size,0,none⟩) 1 1,.int .i64 n1,.int .i64 (-1)]:=hw6.blk;have cy6:w6.cell? ⟨w'.heap.size+1,3,none⟩=some (.int .i64 n1):=BY6.cell rfl;push_cast -dsimp[cy6];refine storeK_of BY6 (by simp) rfl ?_;intro w7 hw7;have BY7:Blk w7 (w'.heap.size+1) 129 [.int .i64 6,.pointer none,.slice (some ⟨w'.heap.size,0,none⟩) 1 1,.int .i64 n1,.int .i64 n1]:=hw7.blk;have k57:Kept (·=w'.heap.size+1) w5 w7:=hw6.kept.trans hw7.kept (fun i _ h=>h);have BX7:=BX5.kept k57 (by omega);have P7:=P5.kept k57 (fun i h=>by omega);have k7:=k5.trans k57 (fun i h1 h2=>by omega);have V7:=V5.mono (X':=fun b=>b<w.heap.size∨w'.heap.size≤b) k57 (fun i h=>by omega) (fun i h=>h);push_cast -dsimp;refine callK_of (take_c [44] P7) ?_;rintro _ w8 hT;rcases hT with ⟨hs5,rfl,t8,l4,el8,h58,P8,kt8,hz8⟩|⟨hs5,rfl,hww⟩
       ·have hpop8:popP l3=.ok ((),l4):=by rw[el8];exact popP_cons h58
        have BY8:=BY7.kept kt8 (by omega);have BX8:=BX7.kept kt8 (by omega);have k8:=k7.trans kt8 (fun i _ h=>h);have V8:=V7.mono (X':=fun b=>b<w.heap.size∨w'.heap.size≤b) kt8 (fun i h=>by omega) (fun i h=>h);have hbr1:bracesP l2=pif (isKind 2) (Cae.pb timesP fun hi=>if hi<n1 then pfail 2 else Cae.pb (mustP [125]) fun _=>pr ((n1:Int),(hi:Int))) (Cae.pb (mustP [125]) fun _=>pr ((n1:Int),-1)) l4:=by
         unfold bracesP;rw[pb_of e3]
         show (if seeP [44] l3 then _ else _)=_
         rw[hs5,if_pos rfl,pb_of hpop8]
        push_cast -dsimp;refine storeK_of BY8 (by simp) rfl ?_;intro w9 hw9;have BY9:Blk w9 (w'.heap.size+1) 129 [.int .i64 6,.pointer none,.slice (some ⟨w'.heap.size,0,none⟩) 1 1,.int .i64 n1,.int .i64 (-1)]:=hw9.blk;have BX9:=BX8.kept hw9.kept (by omega);have P9:=P8.kept hw9.kept (fun i h=>by omega);have k9:=k8.trans hw9.kept (fun i h1 h2=>by omega);have V9:=V8.mono (X':=fun b=>b<w.heap.size∨w'.heap.size≤b) hw9.kept (fun i h=>by omega) (fun i h=>h);obtain⟨t9,r9,el9⟩:=P9.tl.cons;have P9':=P9;rw[el9]at P9';obtain⟨b9,o9,c9,hB9,hc9,hne9,c90,_,_,_⟩:=P9'.hd;have cb9:w9.cell? ⟨pb,0,none⟩=some (.slice (some ⟨b9,o9,none⟩) (r9.length+1) c9):=hB9.cell rfl;push_cast -dsimp[cb9,c90];refine⟨by omega,fun hk2=>?_,fun hk2=>?_⟩
        ·have hik:isKind 2 l4=true:=by
          have:t9.kind=2:=by omega
          rw[el9];simp[isKind,Cae.hd,this]
         have hbr2:bracesP l2=Cae.pb timesP (fun hi=>if hi<n1 then pfail 2 else Cae.pb (mustP [125]) fun _=>pr ((n1:Int),(hi:Int))) l4:=by
          rw[hbr1];unfold pif;rw[hik,if_pos rfl]
         refine callP_of (times_c P9) ?_ ?_
         ·rintro _ wa ⟨n2,l5,e5,⟨rfl,hn2⟩,Pa,kta⟩;have BYa:=BY9.kept kta (by omega);have BXa:=BX9.kept kta (by omega);have ka:=k9.trans kta (fun i _ h=>h);have Va:=V9.mono (X':=fun b=>b<w.heap.size∨w'.heap.size≤b) kta (fun i h=>by omega) (fun i h=>h);push_cast -dsimp;refine storeK_of BYa (by simp) rfl ?_;intro wb hwb;have BYb:Blk wb (w'.heap.size+1) 129 [.int .i64 6,.pointer none,.slice (some ⟨w'.heap.size,0,none⟩) 1 1,.int .i64 n1,.int .i64 n2]:=hwb.blk;have BXb:=BXa.kept hwb.kept (by omega);have Pb:=Pa.kept hwb.kept (fun i h=>by omega);have kb':=ka.trans hwb.kept (fun i h1 h2=>by omega);have VB':=Va.mono (X':=fun b=>b<w.heap.size∨w'.heap.size≤b) hwb.kept (fun i h=>by omega) (fun i h=>h);push_cast -dsimp;refine wpL_draw (fun w'=>w'=wb.drew) mixed (by kernel_rfl) rfl ?_;have d3:wb.drew.cell? ⟨w'.heap.size+1,3,none⟩=some (.int .i64 n1):=BYb.drew.cell rfl;have d4:wb.drew.cell? ⟨w'.heap.size+1,4,none⟩=some (.int .i64 n2):=BYb.drew.cell rfl;have kd:Kept (fun _=>False) wb wb.drew:=(Kept.refl _ _).drew;have BYd:=BYb.kept kd (fun h=>h);have BXd:=BXb.kept kd (fun h=>h);have Pd:=Pb.kept kd (fun i h=>h.elim);have kdd:=kb'.trans kd (fun i h1 h2=>h2.elim);have VB:=VB'.mono (X':=fun b=>b<w.heap.size∨w'.heap.size≤b) kd (fun i h=>h.elim) (fun i h=>h);push_cast -dsimp[d3,d4];refine⟨fun w'' h=>by rw[h,d4];exact rfl,fun w'' h=>by rw[h,d3];exact rfl,fun hlt2=>?_,fun hge2=>?_⟩
          ·refine callP_of (fail_c 2 Pd) (fun _ _ h=>h.elim) ?_;rintro ce we ⟨ht,hb⟩;push_cast -dsimp;have hbr:bracesP l2=.error (2,(Cae.hd l5).pos):=by
            rw[hbr2,pb_of e5,if_pos (by omega)];rfl
           refine⟨2,_,?_,ht.mono (by have:=kdd.size;omega),kdd.trans (Kept.of_below hb (X:=(·=pb)) (fun i h1 h2=>by omega)) (fun i _ h=>h)⟩;rw[←hm2];refine again_err hm ?_;rw[hsx];unfold Cae.pb;rw[hbr]
          ·have hbr3:bracesP l2=Cae.pb (mustP [125]) (fun _=>pr ((n1:Int),(n2:Int))) l5:=by
            rw[hbr2,pb_of e5,if_neg (by omega)]
           refine callP_of (must_c [125] Pd) ?_ ?_
           ·rintro _ wm ⟨_,lm,em,rfl,Pm,km⟩;have hbr:bracesP l2=.ok (((n1:Int),(n2:Int)),lm):=by rw[hbr3,pb_of em];rfl
            have hsuf:suffixP l1=.ok (some ((n1:Int),(n2:Int)),lm):=by rw[hsx,pb_of hbr];rfl
            have hlm:lm.length≤l2.length:=by
             obtain⟨pre,_,e,_⟩:=lo_braces _ _ _ hbr;rw[e,List.length_append];omega
            have BY:=BYd.kept km (by omega);have BX:=BXd.kept km (by omega);have kS:=kdd.trans km (fun i _ h=>h);have VX:=VB.mono (X':=(·<w.heap.size)) km (fun i h=>by omega) (fun i h=>.inl h);push_cast -dsimp[hz6];have hm1:∃m',m=m'+1:=⟨m-1,by omega⟩;obtain⟨m',hmm⟩:=hm1;have hag:againW d (unitP d) l0=if d≤c+1 then pfail 4 lm else againLoop d m' (c+1) (.many x (n1:Int) (n2:Int)) lm:=by
             rw[←hm2,hmm,againLoop,pb_of hsuf];dsimp only;split<;>rfl
            refine⟨⟨by omega,by omega⟩,?_⟩;refine callP_of (deep_c (i+1) Pm) ?_ ?_
            ·rintro _ w0 ⟨h8,rfl,hw0⟩;obtain rfl:wm=w0:=hw0.symm;have hlen4:=PS.len Pm;have hlen1:=hP1.len;have hzS:=kS.size;push_cast -dsimp[hz5];refine⟨⟨m',c+1,.many x (n1:Int) (n2:Int),lm,i+1,?_,by omega,⟨rfl,by omega,by omega⟩,?_,Pm,kS⟩,by rw[hlen4,hlen1];omega⟩
             ·rw[hag,if_neg (by omega)]
             ·simp only[PatV];exact⟨_,_,_,rfl,by omega,BY,sl_blk1 BX (by omega),VX⟩
            ·rintro ce w0 ⟨h8,ht,hb⟩;push_cast -dsimp;refine⟨4,_,?_,ht.mono (by have:=kS.size;omega),kS.trans (Kept.of_below hb (X:=(·=pb)) (fun i h1 h2=>by omega)) (fun i _ h=>h)⟩;rw[hag,if_pos (by omega)];rfl
           ·rintro ce we ⟨e,pos,he,ht,hke⟩;push_cast -dsimp;refine⟨e,pos,?_,ht.mono (by have:=kdd.size;omega),kdd.trans hke (fun i _ h=>h)⟩;rw[←hm2];refine again_err hm ?_;have hbr:bracesP l2=.error (e,pos):=by rw[hbr3];unfold Cae.pb;rw[he]
            rw[hsx];unfold Cae.pb;rw[hbr]
         ·
          rintro ce we ⟨e,pos,he,ht,hke⟩
          push_cast -dsimp
          refine⟨e,pos,?_,ht.mono (by have:=k9.size;omega),k9.trans hke (fun i _ h=>h)⟩
          rw[←hm2]
          refine again_err hm ?_
          rw[hsx]
          unfold Cae.pb
          rw[show bracesP l2=.error (e,pos) by rw[hbr2];unfold Cae.pb;rw[he]]
        ·have hik:isKind 2 l4=false:=by
          have:t9.kind≠2:=fun e=>hk2 (by omega);rw[el9];simp[isKind,Cae.hd,this]
         have hbr2:bracesP l2=Cae.pb (mustP [125]) (fun _=>pr ((n1:Int),-1)) l4:=by
          rw[hbr1];unfold pif;rw[hik,if_neg (by decide)]
         have VB:=V9;refine callP_of (must_c [125] P9) ?_ ?_
         ·rintro _ wm ⟨_,lm,em,rfl,Pm,km⟩;have hbr:bracesP l2=.ok (((n1:Int),(-1)),lm):=by rw[hbr2,pb_of em];rfl
          have hsuf:suffixP l1=.ok (some ((n1:Int),(-1)),lm):=by rw[hsx,pb_of hbr];rfl
          have hlm:lm.length≤l2.length:=by
           obtain⟨pre,_,e,_⟩:=lo_braces _ _ _ hbr;rw[e,List.length_append];omega
          have BY:=BY9.kept km (by omega);have BX:=BX9.kept km (by omega);have kS:=k9.trans km (fun i _ h=>h);have VX:=VB.mono (X':=(·<w.heap.size)) km (fun i h=>by omega) (fun i h=>.inl h);push_cast -dsimp[hz6];have hm1:∃m',m=m'+1:=⟨m-1,by omega⟩;obtain⟨m',hmm⟩:=hm1;have hag:againW d (unitP d) l0=if d≤c+1 then pfail 4 lm else againLoop d m' (c+1) (.many x (n1:Int) (-1)) lm:=by
           rw[←hm2,hmm,againLoop,pb_of hsuf];dsimp only;split<;>rfl
          refine⟨⟨by omega,by omega⟩,?_⟩;refine callP_of (deep_c (i+1) Pm) ?_ ?_
          ·rintro _ w0 ⟨h8,rfl,hw0⟩;obtain rfl:wm=w0:=hw0.symm;have hlen4:=PS.len Pm;have hlen1:=hP1.len;have hzS:=kS.size;push_cast -dsimp[hz5];refine⟨⟨m',c+1,.many x (n1:Int) (-1),lm,i+1,?_,by omega,⟨rfl,by omega,by omega⟩,?_,Pm,kS⟩,by rw[hlen4,hlen1];omega⟩
           ·rw[hag,if_neg (by omega)]
           ·simp only[PatV];exact⟨_,_,_,rfl,by omega,BY,sl_blk1 BX (by omega),VX⟩
          ·rintro ce w0 ⟨h8,ht,hb⟩;push_cast -dsimp;refine⟨4,_,?_,ht.mono (by have:=kS.size;omega),kS.trans (Kept.of_below hb (X:=(·=pb)) (fun i h1 h2=>by omega)) (fun i _ h=>h)⟩;rw[hag,if_pos (by omega)];rfl
         ·rintro ce we ⟨e,pos,he,ht,hke⟩;push_cast -dsimp;refine⟨e,pos,?_,ht.mono (by have:=k9.size;omega),k9.trans hke (fun i _ h=>h)⟩;rw[←hm2];refine again_err hm ?_;have hbr:bracesP l2=.error (e,pos):=by rw[hbr2];unfold Cae.pb;rw[he]
          rw[hsx];unfold Cae.pb;rw[hbr]
       ·obtain rfl:w7=w8:=hww.symm;have hbr2:bracesP l2=Cae.pb (mustP [125]) (fun _=>pr ((n1:Int),(n1:Int))) l3:=by
         unfold bracesP;rw[pb_of e3]
         show (if seeP [44] l3 then _ else _)=_
         rw[hs5,if_neg (by decide)]
        have VB:=V7;push_cast -dsimp;refine callP_of (must_c [125] P7) ?_ ?_
        ·rintro _ wm ⟨_,lm,em,rfl,Pm,km⟩;have hbr:bracesP l2=.ok (((n1:Int),(n1:Int)),lm):=by rw[hbr2,pb_of em];rfl
         have hsuf:suffixP l1=.ok (some ((n1:Int),(n1:Int)),lm):=by rw[hsx,pb_of hbr];rfl
         have hlm:lm.length≤l2.length:=by
          obtain⟨pre,_,e,_⟩:=lo_braces _ _ _ hbr;rw[e,List.length_append];omega
         have BY:=BY7.kept km (by omega);have BX:=BX7.kept km (by omega);have kS:=k7.trans km (fun i _ h=>h);have VX:=VB.mono (X':=(·<w.heap.size)) km (fun i h=>by omega) (fun i h=>.inl h);push_cast -dsimp[hz6];have hm1:∃m',m=m'+1:=⟨m-1,by omega⟩;obtain⟨m',hmm⟩:=hm1;have hag:againW d (unitP d) l0=if d≤c+1 then pfail 4 lm else againLoop d m' (c+1) (.many x (n1:Int) (n1:Int)) lm:=by
          rw[←hm2,hmm,againLoop,pb_of hsuf];dsimp only;split<;>rfl
         refine⟨⟨by omega,by omega⟩,?_⟩;refine callP_of (deep_c (i+1) Pm) ?_ ?_
         ·rintro _ w0 ⟨h8,rfl,hw0⟩;obtain rfl:wm=w0:=hw0.symm;have hlen4:=PS.len Pm;have hlen1:=hP1.len;have hzS:=kS.size;push_cast -dsimp[hz5];refine⟨⟨m',c+1,.many x (n1:Int) (n1:Int),lm,i+1,?_,by omega,⟨rfl,by omega,by omega⟩,?_,Pm,kS⟩,by rw[hlen4,hlen1];omega⟩
          ·rw[hag,if_neg (by omega)]
          ·simp only[PatV];exact⟨_,_,_,rfl,by omega,BY,sl_blk1 BX (by omega),VX⟩
         ·rintro ce w0 ⟨h8,ht,hb⟩;push_cast -dsimp;refine⟨4,_,?_,ht.mono (by have:=kS.size;omega),kS.trans (Kept.of_below hb (X:=(·=pb)) (fun i h1 h2=>by omega)) (fun i _ h=>h)⟩;rw[hag,if_pos (by omega)];rfl
        ·rintro ce we ⟨e,pos,he,ht,hke⟩;push_cast -dsimp;refine⟨e,pos,?_,ht.mono (by have:=k7.size;omega),k7.trans hke (fun i _ h=>h)⟩;rw[←hm2];refine again_err hm ?_;have hbr:bracesP l2=.error (e,pos):=by rw[hbr2];unfold Cae.pb;rw[he]
         rw[hsx];unfold Cae.pb;rw[hbr]
      ·
       rintro ce we ⟨e,pos,he,ht,hke⟩
       push_cast -dsimp
       refine⟨e,pos,?_,ht.mono (by have:=k4.size;omega),k4.trans hke (fun i _ h=>h)⟩
       rw[←hm2]
       refine again_err hm ?_
       rw[hsx]
       unfold Cae.pb
       rw[show bracesP l2=.error (e,pos) by unfold bracesP Cae.pb;rw[he]]
     ·obtain rfl:w3=w4:=hww.symm;have hsuf:suffixP l1=.ok (none,l1):=by
       unfold suffixP pif;rw[hs1,hs2,hs3,hs4,if_neg (by decide),if_neg (by decide),if_neg (by decide),if_neg (by decide)];rfl
      push_cast -dsimp[hz5];refine⟨x,l1,?_,V3.mono (X':=(·<w.heap.size)) (Kept.refl (fun _=>False) _) (fun _ h=>h.elim) (fun i h=>.inl h),P3,k3⟩;rw[←hm2];obtain⟨m',rfl⟩:∃m',m=m'+1:=⟨m-1,by omega⟩;rw[againLoop,pb_of hsuf];rfl
 ·rintro c w3 ⟨e,pos,he,ht,hk3⟩;push_cast -dsimp;refine⟨e,pos,?_,ht,hk3⟩;unfold againW Cae.pb;rw[he]
end Go.Proofs.YtodeeahdhnjpkaaGreatDoor
end
section
end
section
namespace Go.Proofs.YtodeeahdhnjpkaaGreatDoor
open Go.Vc Go.Proofs Go.RowKit Cae
attribute [local irreducible] wpL callK valK unitK runK Fun Sl Vc.Own vc vcOps opK pureK
def Sh {α:Type}(p:Pa α):Prop:=∀l x l',p l=.ok (x,l')→l'.length<l.length
def Le {α:Type}(p:Pa α):Prop:=∀l x l',p l=.ok (x,l')→l'.length≤l.length
theorem Lo.le {α:Type}{R:α→α→Prop}{p:Pa α}(h:Lo R p p):Le p:=fun l x l' e=>by
 obtain⟨pre,_,e,_⟩:=h l x l' e;rw[e,List.length_append];omega
theorem LoS.sh {α:Type}{R:α→α→Prop}{p:Pa α}(h:LoS R p p):Sh p:=fun l x l' e=>by
 obtain⟨pre,hne,_,e,_⟩:=h l x l' e
 have:=List.length_pos_iff.2 hne;rw[e,List.length_append];omega
theorem Sh.le {α:Type}{p:Pa α}(h:Sh p):Le p:=fun l x l' e=>Nat.le_of_lt (h l x l' e)
theorem Sh.pb {α β:Type}{p:Pa α}{q:α→Pa β}(h:Sh p)(k:∀x,Le (q x)):Sh (Cae.pb p q):=fun l y l' e=>by
 obtain⟨x,l1,e1,e2⟩:=pb_ok e;exact Nat.lt_of_le_of_lt (k x _ _ _ e2) (h _ _ _ e1)
theorem Sh.pbr {α β:Type}{p:Pa α}{q:α→Pa β}(h:Le p)(k:∀x,Sh (q x)):Sh (Cae.pb p q):=fun l y l' e=>by
 obtain⟨x,l1,e1,e2⟩:=pb_ok e;exact Nat.lt_of_lt_of_le (k x _ _ _ e2) (h _ _ _ e1)
theorem Le.pb {α β:Type}{p:Pa α}{q:α→Pa β}(h:Le p)(k:∀x,Le (q x)):Le (Cae.pb p q):=fun l y l' e=>by
 obtain⟨x,l1,e1,e2⟩:=pb_ok e;exact Nat.le_trans (k x _ _ _ e2) (h _ _ _ e1)
theorem Le.pr {α:Type}{x:α}:Le (pr x):=fun l y l' e=>by cases e;exact Nat.le_refl _
theorem Sh.pif {α:Type}{c:List Cae.Tok→Bool}{p q:Pa α}(h:Sh p)(k:Sh q):Sh (Cae.pif c p q):=fun l x l' e=>by
 unfold Cae.pif at e;split at e
 ·exact h _ _ _ e
 ·exact k _ _ _ e
theorem Sh.fail {α:Type}{n:Nat}:Sh (pfail n:Pa α):=fun l x l' e=>by cases e
theorem le_peek:Le peek:=Lo.le Lo.peek
theorem sh_pop:Sh popP:=LoS.sh lo_pop
theorem sh_one:∀d,Sh (oneP d)
 | 0=>Sh.fail
 | d+1=>Sh.pif (LoS.sh lo_lit) (Sh.pif (Sh.pbr le_peek fun _=>Sh.pb sh_pop fun _=>Le.pb (Lo.le (lo_one d)) fun _=>Le.pr)
   (Sh.pif (Sh.pb sh_pop fun _=>Le.pb (Lo.le (lo_kindW (lo_one d))) fun _=>Le.pb (LoS.sh (lo_must _)).le fun _=>Le.pr)
    (Sh.pbr le_peek fun _=>Sh.pb (LoS.sh lo_name) fun _=>Le.pr)))
theorem sh_unit:∀d,Sh (unitP d)
 | 0=>Sh.fail
 | d+1=>Sh.pif (Sh.pb sh_pop fun _=>Le.pr) (Sh.pif (Sh.pb sh_pop fun _=>Le.pr) (Sh.pif (Sh.pb sh_pop fun _=>Le.pb (Lo.le (lo_patW (lo_unit d))) fun _=>Le.pb (LoS.sh (lo_must _)).le fun _=>Le.pr)
   (Sh.pif (Sh.pb (sh_one (d+1)) fun _=>Le.pr) Sh.fail)))
theorem unit_less {d:Nat}{l l':List Cae.Tok}{x:PatP}(h:unitP d l=.ok (x,l')):l'.length<l.length:=sh_unit d _ _ _ h
theorem again_less {d:Nat}{l l':List Cae.Tok}{x:PatP}(h:againW d (unitP d) l=.ok (x,l')):l'.length<l.length:=by
 obtain⟨y,l1,h1,h2⟩:=pb_ok h;have a:=unit_less h1;obtain⟨pre,_,e,_⟩:=lo_againLoop d _ _ _ _ (show PE y y from fun _=>rfl) _ _ _ h2
 have:l1.length=pre.length+l'.length:=by rw[e,List.length_append]
 omega
theorem row_of (d:Nat)(ha:AgainC d):RowC d:=by
 intro n hn0 hn pb B w l0 h0;have hle:=h0.le;have hlt:=h0.lt;refine fun2_of_vc Tryz.func93 rfl (by kernel_rfl) [.tmp 4] rfl ?_;push_cast -dsimp(maxSteps:=4000000) [Tryz.ntmps93];push_cast -dsimp;refine boxK_of ?_;intro w1 hw1;have B1:Blk w1 w.heap.size 129 [.int .i64 4,.pointer none,.slice none 0 0,.int .i64 0,.int .i64 0]:=hw1.blk;have P1:=h0.below hw1.below;have z1:=hw1.size;have k1:Kept (·=pb) w w1:=Kept.new hw1;push_cast -dsimp;refine wpL_loop [8,9,10,11,12,13,14,15,16,17,18,19,20,21,22,23,24,25,26,27,28,29,30,31,32,33,34,35,36,37,38,39,40,41,42,43] (fun z w'=>∃(m:Nat) (acc:List PatP) (l1:List Cae.Tok) (sv:Value) (vs:List Nat),rowLoop (againW d (unitP d)) m acc l1=rowLoop (againW d (unitP d)) 1000 [] l0∧l1.length<m∧acc.length+m≤1000 ∧
   Blk w' w.heap.size 129 [.int .i64 4,.pointer none,sv,.int .i64 0,.int .i64 0]∧Go.Vc.Own (w.heap.size+1) 58 1 encP w' sv vs∧PatsV (fun b=>b<w.heap.size∨b=w.heap.size∨sv.ownBlock=some b) w' vs acc∧PS pb B w' l1∧Kept (·=pb) w w') (fun z w'=>lenAt w' pb) ?_ ?_
 ·have hlt:l0.length<1000:=by have:=h0.tl.len;omega
  exact⟨1000,[],l0,_,[],rfl,hlt,by simp,B1,Vc.Own.nil (enc:=encP) _ _ (fun _=>rfl) _,by simp only[PatsV],P1,k1⟩
 rintro z w' ⟨m,acc,l1,sv,vs,hm2,hm,hacc,hB,hO,hV,hP1,hkw⟩;obtain⟨t1,r1,el1⟩:=hP1.tl.cons;have hP1':=hP1;rw[el1]at hP1';obtain⟨b,o,c,hBp,hc,hne,c0,c1,c2,c3⟩:=hP1'.hd;have cb:w'.cell? ⟨pb,0,none⟩=some (.slice (some ⟨b,o,none⟩) (r1.length+1) c):=hBp.cell rfl;have hzw:=hkw.size;have hstP:startP l1=(t1.kind == 3 || namedP l1 || seeP [46] l1 || seeP [36] l1 || seeP [40] l1):=by unfold startP isKind;rw[el1];rfl
 push_cast -dsimp[cb,c0];refine⟨by omega,fun h3=>?_,fun h3=>?_⟩
 ·have hk3:(t1.kind == 3)=false:=by
   have:t1.kind≠3:=fun e=>h3 (by omega);simpa using this
  rw[hk3,Bool.false_or]at hstP;refine callK_of (named_c hP1) ?_;rintro _ w2 ⟨rfl,b2⟩;have P2:=hP1.below b2;have hB2:=hB.below b2 hB.lt;have hO2:=hO.below b2;have hV2:=PatsV.mono (X':=fun b=>b<w.heap.size∨b=w.heap.size∨sv.ownBlock=some b) (Kept.of_below b2 (X:=fun _=>False) (fun i h1 h2=>by omega)) (fun _ h=>h.elim) (fun _ h=>h) hV;have k2:=hkw.trans (Kept.of_below b2 (X:=(·=pb)) (fun i h1 h2=>by omega)) (fun i _ h=>h);cases hnm:namedP l1 with
  | true =>
   have hst:startP l1=true:=by rw[hstP,hnm];rfl
   push_cast -dsimp;have hm1:∃m',m=m'+1:=⟨m-1,by omega⟩;obtain⟨m',hmm⟩:=hm1;have hz2:w.heap.size<w2.heap.size:=hB2.lt;have kd:Kept (fun _=>False) w2 w2.drew:=(Kept.refl _ _).drew;have hBd:=hB2.kept kd (fun h=>h);have Pd:=P2.kept kd (fun i h=>h.elim);have kdd:=k2.trans kd (fun i h1 h2=>h2.elim);have d2:w2.drew.cell? ⟨w.heap.size,2,none⟩=some sv:=hBd.cell rfl;have hstep:rowLoop (againW d (unitP d)) m acc l1=Cae.pb (againW d (unitP d)) (fun x=>rowLoop (againW d (unitP d)) m' (acc++[x])) l1:=by
    rw[hmm,rowLoop];unfold pif;rw[hst,if_pos rfl]
   cases hp:againW d (unitP d) l1 with
   | error e =>
    refine wpL_boom (E:=PThr pb w l0 (rowW (againW d (unitP d)))) [(),(),(),(),(),(),()] mixed (by kernel_rfl) (fun ce te we hE=>?_) ?_
    ·push_cast -dsimp;exact hE
    ·push_cast -dsimp[d2];refine⟨fun w'' h=>by rw[h,d2];exact rfl,?_⟩;refine callB_of (ha n hn0 hn pb B w2.drew l1 Pd) (fun v we ⟨x,l',h1,_⟩=>by rw[hp]at h1;cases h1) ?_;rintro ce we ⟨en,pos,he,ht,hke⟩;refine⟨en,pos,?_,ht.mono (by have:=kdd.size;omega),kdd.trans hke (fun i _ h=>h)⟩;have hl:rowLoop (againW d (unitP d)) 1000 [] l0=.error (en,pos):=by
      rw[←hm2,hstep];unfold Cae.pb;rw[he]
     unfold rowW Cae.pb;rw[hl]
   | ok q =>
    obtain⟨x,l2⟩:=q;have hl2:l2.length<l1.length:=again_less hp;refine wpL_last (fun w'=>Blk w' w.heap.size 129 [.int .i64 4,.pointer none,sv,.int .i64 0,.int .i64 0]) mixed (by kernel_rfl) (by simp) hB2.drew ?_;push_cast -dsimp[d2];refine⟨fun w'' h=>by rw[Blk.cell h (o:=2) rfl];exact rfl,?_⟩;refine callP_of (ha n hn0 hn pb B w2.drew l1 Pd) ?_ (fun ce we ⟨en,pos,he,_⟩=>by rw[hp]at he;cases he);rintro u w3 ⟨x',l2',e3,V3,P3,k3⟩;obtain⟨rfl,rfl⟩:x=x'∧l2=l2':=by rw[hp]at e3;cases e3;exact⟨rfl,rfl⟩
    obtain⟨ub,rfl,hub,hubX⟩:=V3.ptr;have B3:=hBd.kept k3 (by omega);have z3:=k3.size;have hzd:w2.heap.size=w2.drew.heap.size:=rfl;have hob:∀g,sv.ownBlock=some g→g<w2.heap.size:=fun g hg=>(hO2.block g hg).2;have hO3:=(hO2.keptX kd (fun g _ h=>h)).keptX k3 (fun g hg h=>by have:=(hO2.block g hg).1;omega);have hV3:=PatsV.mono (X':=fun b=>(b<w.heap.size∨b=w.heap.size∨sv.ownBlock=some b)∨w2.heap.size≤b) ((kd.weaken (Y:=(·=pb)) (fun i _ h=>h.elim)).trans k3 (fun i _ h=>h)) (fun i h=>by omega) (fun i h=>h) (PatsV.top hV2);refine⟨B3,?_⟩;push_cast -dsimp;refine rowK elI_127 rfl rfl (by omega) ?_;intro w4 hw4;have B4:=B3.below hw4.below B3.lt;have z4:=hw4.size;have hO4:=hO3.new hw4;have P4:=P3.below hw4.below;refine⟨B4,?_⟩;push_cast -dsimp;refine appendK2 (base:=w.heap.size+1) [ub] (enc:=encP) elI_127 hO4 (by rfl) (fun j y hy=>by simpa[encP,ptrP] using hw4.cell hy) encP_one (by rw[PatsV.len hV2];simp only[List.length_cons,List.length_nil];omega) (by omega) ?_;intro sv5 w5 hO5 hg5 hn5;have kg:Kept (fun j=>sv.ownBlock=some j) w4 w5:=Kept.grown hg5 (fun _ h=>h);have hog:∀g,sv.ownBlock=some g→w.heap.size+1≤g:=fun g hg=>(hO2.block g hg).1;have B5:=B4.kept kg (fun h=>by have:=hog _ h;omega);have P5:=P4.kept kg (fun i h=>by have:=hog _ h;omega);have z5:=kg.size;refine⟨B5,?_⟩;obtain⟨a5,c5,rfl⟩:=hO5.slice;push_cast -dsimp;refine storeK_of B5 (by simp) rfl ?_;intro w6 hw6
    have B6:Blk w6 w.heap.size 129 [.int .i64 4,.pointer none,.slice a5 (vs++[ub]).length c5,.int .i64 0,.int .i64 0]:=hw6.blk;have P6:=P5.kept hw6.kept (fun i h=>by omega);have z6:=hw6.size;have hO6:=hO5.keptX hw6.kept (fun g hg h=>by have:=(hO5.block g hg).1;omega);have k6:=(((kdd.trans k3 (fun i _ h=>h)).trans (Kept.new (X:=(·=pb)) hw4) (fun i _ h=>h)).trans kg (fun i h1 h2=>by have:=hog _ h2;omega)).trans hw6.kept (fun i h1 h2=>by omega);have kY:Kept (fun i=>i=w.heap.size∨sv.ownBlock=some i) w3 w6:=((Kept.new (X:=fun i=>i=w.heap.size∨sv.ownBlock=some i) hw4).trans kg (fun i _ h=>.inr h)).trans hw6.kept (fun i _ h=>.inl h);have hX:∀i,(i<w.heap.size∨i=w.heap.size∨(Value.slice a5 (vs++[ub]).length c5).ownBlock=some i)→i<w.heap.size∨i=w.heap.size∨sv.ownBlock=some i∨w4.heap.size≤i:=fun i h=>by
     rcases h with h|h|h
     ·exact .inl h
     ·exact .inr (.inl h)
     ·rcases hn5 i h with h|h
      ·exact .inr (.inr (.inl h))
      ·exact .inr (.inr (.inr h))
    have hV6:PatsV (fun b=>b<w.heap.size∨b=w.heap.size∨(Value.slice a5 (vs++[ub]).length c5).ownBlock=some b) w6 (vs++[ub]) (acc++[x]):=by
     refine PatsV.snoc (PatsV.mono kY (fun i h=>?_) (fun i h=>?_) hV3) (PatV.mono kY (fun i h=>?_) (fun i h=>?_) V3.top)
     ·rcases h with h|h
      ·exact .inl (.inr (.inl h))
      ·exact .inl (.inr (.inr h))
     ·rcases hX i h with h|h|h|h
      ·exact .inl (.inl h)
      ·exact .inl (.inr (.inl h))
      ·exact .inl (.inr (.inr h))
      ·exact .inr (by omega)
     ·rcases h with h|h
      ·exact .inl (by omega)
      ·exact .inl (hob i h)
     ·rcases hX i h with h|h|h|h
      ·exact .inl (by omega)
      ·exact .inl (by omega)
      ·exact .inl (hob i h)
      ·exact .inr (by omega)
    have hlen6:=P6.len;have hlen1:=hP1.len;have hnx:rowLoop (againW d (unitP d)) m' (acc++[x]) l2=rowLoop (againW d (unitP d)) 1000 [] l0:=by rw[←hm2,hstep,pb_of hp]
    push_cast -dsimp;exact⟨⟨m',acc++[x],l2,_,vs++[ub],hnx,by omega,by rw[List.length_append,List.length_singleton];omega,B6,hO6,hV6,P6,k6⟩,by rw[hlen6,hlen1];exact hl2⟩
  | false =>
   rw[hnm,Bool.false_or]at hstP;push_cast -dsimp;refine callK_of (see_c [46] P2) ?_;rintro _ w3 ⟨rfl,hw3⟩;obtain rfl:w2=w3:=hw3.symm;cases hs1:seeP [46] l1 with
   | true =>
    have hst:startP l1=true:=by rw[hstP,hs1];rfl
    push_cast -dsimp;have hm1:∃m',m=m'+1:=⟨m-1,by omega⟩;obtain⟨m',hmm⟩:=hm1;have hz2:w.heap.size<w2.heap.size:=hB2.lt;have kd:Kept (fun _=>False) w2 w2.drew:=(Kept.refl _ _).drew;have hBd:=hB2.kept kd (fun h=>h);have Pd:=P2.kept kd (fun i h=>h.elim);have kdd:=k2.trans kd (fun i h1 h2=>h2.elim);have d2:w2.drew.cell? ⟨w.heap.size,2,none⟩=some sv:=hBd.cell rfl;have hstep:rowLoop (againW d (unitP d)) m acc l1=Cae.pb (againW d (unitP d)) (fun x=>rowLoop (againW d (unitP d)) m' (acc++[x])) l1:=by
     rw[hmm,rowLoop];unfold pif;rw[hst,if_pos rfl]
    cases hp:againW d (unitP d) l1 with
    | error e =>
     refine wpL_boom (E:=PThr pb w l0 (rowW (againW d (unitP d)))) [(),(),(),(),(),(),()] mixed (by kernel_rfl) (fun ce te we hE=>?_) ?_
     ·push_cast -dsimp;exact hE
     ·push_cast -dsimp[d2];refine⟨fun w'' h=>by rw[h,d2];exact rfl,?_⟩;refine callB_of (ha n hn0 hn pb B w2.drew l1 Pd) (fun v we ⟨x,l',h1,_⟩=>by rw[hp]at h1;cases h1) ?_;rintro ce we ⟨en,pos,he,ht,hke⟩;refine⟨en,pos,?_,ht.mono (by have:=kdd.size;omega),kdd.trans hke (fun i _ h=>h)⟩;have hl:rowLoop (againW d (unitP d)) 1000 [] l0=.error (en,pos):=by
       rw[←hm2,hstep];unfold Cae.pb;rw[he]
      unfold rowW Cae.pb;rw[hl]
    | ok q =>
     obtain⟨x,l2⟩:=q;have hl2:l2.length<l1.length:=again_less hp;refine wpL_last (fun w'=>Blk w' w.heap.size 129 [.int .i64 4,.pointer none,sv,.int .i64 0,.int .i64 0]) mixed (by kernel_rfl) (by simp) hB2.drew ?_;push_cast -dsimp[d2];refine⟨fun w'' h=>by rw[Blk.cell h (o:=2) rfl];exact rfl,?_⟩;refine callP_of (ha n hn0 hn pb B w2.drew l1 Pd) ?_ (fun ce we ⟨en,pos,he,_⟩=>by rw[hp]at he;cases he);rintro u w3 ⟨x',l2',e3,V3,P3,k3⟩;obtain⟨rfl,rfl⟩:x=x'∧l2=l2':=by rw[hp]at e3;cases e3;exact⟨rfl,rfl⟩
     obtain⟨ub,rfl,hub,hubX⟩:=V3.ptr;have B3:=hBd.kept k3 (by omega);have z3:=k3.size;have hzd:w2.heap.size=w2.drew.heap.size:=rfl;have hob:∀g,sv.ownBlock=some g→g<w2.heap.size:=fun g hg=>(hO2.block g hg).2;have hO3:=(hO2.keptX kd (fun g _ h=>h)).keptX k3 (fun g hg h=>by have:=(hO2.block g hg).1;omega);have hV3:=PatsV.mono (X':=fun b=>(b<w.heap.size∨b=w.heap.size∨sv.ownBlock=some b)∨w2.heap.size≤b) ((kd.weaken (Y:=(·=pb)) (fun i _ h=>h.elim)).trans k3 (fun i _ h=>h)) (fun i h=>by omega) (fun i h=>h) (PatsV.top hV2);refine⟨B3,?_⟩;push_cast -dsimp;refine rowK elI_127 rfl rfl (by omega) ?_;intro w4 hw4;have B4:=B3.below hw4.below B3.lt;have z4:=hw4.size;have hO4:=hO3.new hw4;have P4:=P3.below hw4.below;refine⟨B4,?_⟩;push_cast -dsimp;refine appendK2 (base:=w.heap.size+1) [ub] (enc:=encP) elI_127 hO4 (by rfl) (fun j y hy=>by simpa[encP,ptrP] using hw4.cell hy) encP_one (by rw[PatsV.len hV2];simp only[List.length_cons,List.length_nil];omega) (by omega) ?_;intro sv5 w5 hO5 hg5 hn5;have kg:Kept (fun j=>sv.ownBlock=some j) w4 w5:=Kept.grown hg5 (fun _ h=>h);have hog:∀g,sv.ownBlock=some g→w.heap.size+1≤g:=fun g hg=>(hO2.block g hg).1;have B5:=B4.kept kg (fun h=>by have:=hog _ h;omega);have P5:=P4.kept kg (fun i h=>by have:=hog _ h;omega);have z5:=kg.size;refine⟨B5,?_⟩;obtain⟨a5,c5,rfl⟩:=hO5.slice;push_cast -dsimp;refine storeK_of B5 (by simp) rfl ?_;intro w6 hw6
     have B6:Blk w6 w.heap.size 129 [.int .i64 4,.pointer none,.slice a5 (vs++[ub]).length c5,.int .i64 0,.int .i64 0]:=hw6.blk;have P6:=P5.kept hw6.kept (fun i h=>by omega);have z6:=hw6.size;have hO6:=hO5.keptX hw6.kept (fun g hg h=>by have:=(hO5.block g hg).1;omega);have k6:=(((kdd.trans k3 (fun i _ h=>h)).trans (Kept.new (X:=(·=pb)) hw4) (fun i _ h=>h)).trans kg (fun i h1 h2=>by have:=hog _ h2;omega)).trans hw6.kept (fun i h1 h2=>by omega);have kY:Kept (fun i=>i=w.heap.size∨sv.ownBlock=some i) w3 w6:=((Kept.new (X:=fun i=>i=w.heap.size∨sv.ownBlock=some i) hw4).trans kg (fun i _ h=>.inr h)).trans hw6.kept (fun i _ h=>.inl h);have hX:∀i,(i<w.heap.size∨i=w.heap.size∨(Value.slice a5 (vs++[ub]).length c5).ownBlock=some i)→i<w.heap.size∨i=w.heap.size∨sv.ownBlock=some i∨w4.heap.size≤i:=fun i h=>by
      rcases h with h|h|h
      ·exact .inl h
      ·exact .inr (.inl h)
      ·rcases hn5 i h with h|h
       ·exact .inr (.inr (.inl h))
       ·exact .inr (.inr (.inr h))
     have hV6:PatsV (fun b=>b<w.heap.size∨b=w.heap.size∨(Value.slice a5 (vs++[ub]).length c5).ownBlock=some b) w6 (vs++[ub]) (acc++[x]):=by
      refine PatsV.snoc (PatsV.mono kY (fun i h=>?_) (fun i h=>?_) hV3) (PatV.mono kY (fun i h=>?_) (fun i h=>?_) V3.top)
      ·rcases h with h|h
       ·exact .inl (.inr (.inl h))
       ·exact .inl (.inr (.inr h))
      ·rcases hX i h with h|h|h|h
       ·exact .inl (.inl h)
       ·exact .inl (.inr (.inl h))
       ·exact .inl (.inr (.inr h))
       ·exact .inr (by omega)
      ·rcases h with h|h
       ·exact .inl (by omega)
       ·exact .inl (hob i h)
      ·rcases hX i h with h|h|h|h
       ·exact .inl (by omega)
       ·exact .inl (by omega)
       ·exact .inl (hob i h)
       ·exact .inr (by omega)
     have hlen6:=P6.len;have hlen1:=hP1.len;have hnx:rowLoop (againW d (unitP d)) m' (acc++[x]) l2=rowLoop (againW d (unitP d)) 1000 [] l0:=by rw[←hm2,hstep,pb_of hp]
     push_cast -dsimp;exact⟨⟨m',acc++[x],l2,_,vs++[ub],hnx,by omega,by rw[List.length_append,List.length_singleton];omega,B6,hO6,hV6,P6,k6⟩,by rw[hlen6,hlen1];exact hl2⟩
   | false =>
    rw[hs1,Bool.false_or]at hstP;push_cast -dsimp;refine callK_of (see_c [36] P2) ?_;rintro _ w3 ⟨rfl,hw3⟩;obtain rfl:w2=w3:=hw3.symm;cases hs2:seeP [36] l1 with
    | true =>
     have hst:startP l1=true:=by rw[hstP,hs2];rfl
     push_cast -dsimp;have hm1:∃m',m=m'+1:=⟨m-1,by omega⟩;obtain⟨m',hmm⟩:=hm1;have hz2:w.heap.size<w2.heap.size:=hB2.lt;have kd:Kept (fun _=>False) w2 w2.drew:=(Kept.refl _ _).drew;have hBd:=hB2.kept kd (fun h=>h);have Pd:=P2.kept kd (fun i h=>h.elim);have kdd:=k2.trans kd (fun i h1 h2=>h2.elim);have d2:w2.drew.cell? ⟨w.heap.size,2,none⟩=some sv:=hBd.cell rfl;have hstep:rowLoop (againW d (unitP d)) m acc l1=Cae.pb (againW d (unitP d)) (fun x=>rowLoop (againW d (unitP d)) m' (acc++[x])) l1:=by
      rw[hmm,rowLoop];unfold pif;rw[hst,if_pos rfl]
     cases hp:againW d (unitP d) l1 with
     | error e =>
      refine wpL_boom (E:=PThr pb w l0 (rowW (againW d (unitP d)))) [(),(),(),(),(),(),()] mixed (by kernel_rfl) (fun ce te we hE=>?_) ?_
      ·push_cast -dsimp;exact hE
      ·push_cast -dsimp[d2];refine⟨fun w'' h=>by rw[h,d2];exact rfl,?_⟩;refine callB_of (ha n hn0 hn pb B w2.drew l1 Pd) (fun v we ⟨x,l',h1,_⟩=>by rw[hp]at h1;cases h1) ?_;rintro ce we ⟨en,pos,he,ht,hke⟩;refine⟨en,pos,?_,ht.mono (by have:=kdd.size;omega),kdd.trans hke (fun i _ h=>h)⟩;have hl:rowLoop (againW d (unitP d)) 1000 [] l0=.error (en,pos):=by
        rw[←hm2,hstep];unfold Cae.pb;rw[he]
       unfold rowW Cae.pb;rw[hl]
     | ok q =>
      obtain⟨x,l2⟩:=q;have hl2:l2.length<l1.length:=again_less hp;refine wpL_last (fun w'=>Blk w' w.heap.size 129 [.int .i64 4,.pointer none,sv,.int .i64 0,.int .i64 0]) mixed (by kernel_rfl) (by simp) hB2.drew ?_;push_cast -dsimp[d2];refine⟨fun w'' h=>by rw[Blk.cell h (o:=2) rfl];exact rfl,?_⟩;refine callP_of (ha n hn0 hn pb B w2.drew l1 Pd) ?_ (fun ce we ⟨en,pos,he,_⟩=>by rw[hp]at he;cases he);rintro u w3 ⟨x',l2',e3,V3,P3,k3⟩;obtain⟨rfl,rfl⟩:x=x'∧l2=l2':=by rw[hp]at e3;cases e3;exact⟨rfl,rfl⟩
      obtain⟨ub,rfl,hub,hubX⟩:=V3.ptr;have B3:=hBd.kept k3 (by omega);have z3:=k3.size;have hzd:w2.heap.size=w2.drew.heap.size:=rfl;have hob:∀g,sv.ownBlock=some g→g<w2.heap.size:=fun g hg=>(hO2.block g hg).2;have hO3:=(hO2.keptX kd (fun g _ h=>h)).keptX k3 (fun g hg h=>by have:=(hO2.block g hg).1;omega);have hV3:=PatsV.mono (X':=fun b=>(b<w.heap.size∨b=w.heap.size∨sv.ownBlock=some b)∨w2.heap.size≤b) ((kd.weaken (Y:=(·=pb)) (fun i _ h=>h.elim)).trans k3 (fun i _ h=>h)) (fun i h=>by omega) (fun i h=>h) (PatsV.top hV2);refine⟨B3,?_⟩;push_cast -dsimp;refine rowK elI_127 rfl rfl (by omega) ?_;intro w4 hw4;have B4:=B3.below hw4.below B3.lt;have z4:=hw4.size;have hO4:=hO3.new hw4;have P4:=P3.below hw4.below;refine⟨B4,?_⟩;push_cast -dsimp;refine appendK2 (base:=w.heap.size+1) [ub] (enc:=encP) elI_127 hO4 (by rfl) (fun j y hy=>by simpa[encP,ptrP] using hw4.cell hy) encP_one (by rw[PatsV.len hV2];simp only[List.length_cons,List.length_nil];omega) (by omega) ?_;intro sv5 w5 hO5 hg5 hn5;have kg:Kept (fun j=>sv.ownBlock=some j) w4 w5:=Kept.grown hg5 (fun _ h=>h);have hog:∀g,sv.ownBlock=some g→w.heap.size+1≤g:=fun g hg=>(hO2.block g hg).1;have B5:=B4.kept kg (fun h=>by have:=hog _ h;omega);have P5:=P4.kept kg (fun i h=>by have:=hog _ h;omega);have z5:=kg.size;refine⟨B5,?_⟩;obtain⟨a5,c5,rfl⟩:=hO5.slice;push_cast -dsimp;refine storeK_of B5 (by simp) rfl ?_;intro w6 hw6
      have B6:Blk w6 w.heap.size 129 [.int .i64 4,.pointer none,.slice a5 (vs++[ub]).length c5,.int .i64 0,.int .i64 0]:=hw6.blk;have P6:=P5.kept hw6.kept (fun i h=>by omega);have z6:=hw6.size;have hO6:=hO5.keptX hw6.kept (fun g hg h=>by have:=(hO5.block g hg).1;omega);have k6:=(((kdd.trans k3 (fun i _ h=>h)).trans (Kept.new (X:=(·=pb)) hw4) (fun i _ h=>h)).trans kg (fun i h1 h2=>by have:=hog _ h2;omega)).trans hw6.kept (fun i h1 h2=>by omega);have kY:Kept (fun i=>i=w.heap.size∨sv.ownBlock=some i) w3 w6:=((Kept.new (X:=fun i=>i=w.heap.size∨sv.ownBlock=some i) hw4).trans kg (fun i _ h=>.inr h)).trans hw6.kept (fun i _ h=>.inl h);have hX:∀i,(i<w.heap.size∨i=w.heap.size∨(Value.slice a5 (vs++[ub]).length c5).ownBlock=some i)→i<w.heap.size∨i=w.heap.size∨sv.ownBlock=some i∨w4.heap.size≤i:=fun i h=>by
       rcases h with h|h|h
       ·exact .inl h
       ·exact .inr (.inl h)
       ·rcases hn5 i h with h|h
        ·exact .inr (.inr (.inl h))
        ·exact .inr (.inr (.inr h))
      have hV6:PatsV (fun b=>b<w.heap.size∨b=w.heap.size∨(Value.slice a5 (vs++[ub]).length c5).ownBlock=some b) w6 (vs++[ub]) (acc++[x]):=by
       refine PatsV.snoc (PatsV.mono kY (fun i h=>?_) (fun i h=>?_) hV3) (PatV.mono kY (fun i h=>?_) (fun i h=>?_) V3.top)
       ·rcases h with h|h
        ·exact .inl (.inr (.inl h))
        ·exact .inl (.inr (.inr h))
       ·rcases hX i h with h|h|h|h
        ·exact .inl (.inl h)
        ·exact .inl (.inr (.inl h))
        ·exact .inl (.inr (.inr h))
        ·exact .inr (by omega)
       ·rcases h with h|h
        ·exact .inl (by omega)
        ·exact .inl (hob i h)
       ·rcases hX i h with h|h|h|h
        ·exact .inl (by omega)
        ·exact .inl (by omega)
        ·exact .inl (hob i h)
        ·exact .inr (by omega)
      have hlen6:=P6.len;have hlen1:=hP1.len;have hnx:rowLoop (againW d (unitP d)) m' (acc++[x]) l2=rowLoop (againW d (unitP d)) 1000 [] l0:=by rw[←hm2,hstep,pb_of hp]
      push_cast -dsimp;exact⟨⟨m',acc++[x],l2,_,vs++[ub],hnx,by omega,by rw[List.length_append,List.length_singleton];omega,B6,hO6,hV6,P6,k6⟩,by rw[hlen6,hlen1];exact hl2⟩
    | false =>
     rw[hs2,Bool.false_or]at hstP;push_cast -dsimp;refine callK_of (see_c [40] P2) ?_;rintro _ w3 ⟨rfl,hw3⟩;obtain rfl:w2=w3:=hw3.symm;cases hs3:seeP [40] l1 with
     | true =>
      have hst:startP l1=true:=by rw[hstP,hs3]
      push_cast -dsimp;have hm1:∃m',m=m'+1:=⟨m-1,by omega⟩;obtain⟨m',hmm⟩:=hm1;have hz2:w.heap.size<w2.heap.size:=hB2.lt;have kd:Kept (fun _=>False) w2 w2.drew:=(Kept.refl _ _).drew;have hBd:=hB2.kept kd (fun h=>h);have Pd:=P2.kept kd (fun i h=>h.elim);have kdd:=k2.trans kd (fun i h1 h2=>h2.elim);have d2:w2.drew.cell? ⟨w.heap.size,2,none⟩=some sv:=hBd.cell rfl;have hstep:rowLoop (againW d (unitP d)) m acc l1=Cae.pb (againW d (unitP d)) (fun x=>rowLoop (againW d (unitP d)) m' (acc++[x])) l1:=by
       rw[hmm,rowLoop];unfold pif;rw[hst,if_pos rfl]
      cases hp:againW d (unitP d) l1 with
      | error e =>
       refine wpL_boom (E:=PThr pb w l0 (rowW (againW d (unitP d)))) [(),(),(),(),(),(),()] mixed (by kernel_rfl) (fun ce te we hE=>?_) ?_
       ·push_cast -dsimp;exact hE
       ·push_cast -dsimp[d2];refine⟨fun w'' h=>by rw[h,d2];exact rfl,?_⟩;refine callB_of (ha n hn0 hn pb B w2.drew l1 Pd) (fun v we ⟨x,l',h1,_⟩=>by rw[hp]at h1;cases h1) ?_;rintro ce we ⟨en,pos,he,ht,hke⟩;refine⟨en,pos,?_,ht.mono (by have:=kdd.size;omega),kdd.trans hke (fun i _ h=>h)⟩;have hl:rowLoop (againW d (unitP d)) 1000 [] l0=.error (en,pos):=by
         rw[←hm2,hstep];unfold Cae.pb;rw[he]
        unfold rowW Cae.pb;rw[hl]
      | ok q =>
       obtain⟨x,l2⟩:=q;have hl2:l2.length<l1.length:=again_less hp;refine wpL_last (fun w'=>Blk w' w.heap.size 129 [.int .i64 4,.pointer none,sv,.int .i64 0,.int .i64 0]) mixed (by kernel_rfl) (by simp) hB2.drew ?_;push_cast -dsimp[d2];refine⟨fun w'' h=>by rw[Blk.cell h (o:=2) rfl];exact rfl,?_⟩;refine callP_of (ha n hn0 hn pb B w2.drew l1 Pd) ?_ (fun ce we ⟨en,pos,he,_⟩=>by rw[hp]at he;cases he);rintro u w3 ⟨x',l2',e3,V3,P3,k3⟩;obtain⟨rfl,rfl⟩:x=x'∧l2=l2':=by rw[hp]at e3;cases e3;exact⟨rfl,rfl⟩
       obtain⟨ub,rfl,hub,hubX⟩:=V3.ptr;have B3:=hBd.kept k3 (by omega);have z3:=k3.size;have hzd:w2.heap.size=w2.drew.heap.size:=rfl;have hob:∀g,sv.ownBlock=some g→g<w2.heap.size:=fun g hg=>(hO2.block g hg).2;have hO3:=(hO2.keptX kd (fun g _ h=>h)).keptX k3 (fun g hg h=>by have:=(hO2.block g hg).1;omega);have hV3:=PatsV.mono (X':=fun b=>(b<w.heap.size∨b=w.heap.size∨sv.ownBlock=some b)∨w2.heap.size≤b) ((kd.weaken (Y:=(·=pb)) (fun i _ h=>h.elim)).trans k3 (fun i _ h=>h)) (fun i h=>by omega) (fun i h=>h) (PatsV.top hV2);refine⟨B3,?_⟩;push_cast -dsimp;refine rowK elI_127 rfl rfl (by omega) ?_;intro w4 hw4;have B4:=B3.below hw4.below B3.lt;have z4:=hw4.size;have hO4:=hO3.new hw4;have P4:=P3.below hw4.below;refine⟨B4,?_⟩;push_cast -dsimp;refine appendK2 (base:=w.heap.size+1) [ub] (enc:=encP) elI_127 hO4 (by rfl) (fun j y hy=>by simpa[encP,ptrP] using hw4.cell hy) encP_one (by rw[PatsV.len hV2];simp only[List.length_cons,List.length_nil];omega) (by omega) ?_;intro sv5 w5 hO5 hg5 hn5;have kg:Kept (fun j=>sv.ownBlock=some j) w4 w5:=Kept.grown hg5 (fun _ h=>h);have hog:∀g,sv.ownBlock=some g→w.heap.size+1≤g:=fun g hg=>(hO2.block g hg).1;have B5:=B4.kept kg (fun h=>by have:=hog _ h;omega);have P5:=P4.kept kg (fun i h=>by have:=hog _ h;omega);have z5:=kg.size;refine⟨B5,?_⟩;obtain⟨a5,c5,rfl⟩:=hO5.slice;push_cast -dsimp;refine storeK_of B5 (by simp) rfl ?_;intro w6 hw6
       have B6:Blk w6 w.heap.size 129 [.int .i64 4,.pointer none,.slice a5 (vs++[ub]).length c5,.int .i64 0,.int .i64 0]:=hw6.blk;have P6:=P5.kept hw6.kept (fun i h=>by omega);have z6:=hw6.size;have hO6:=hO5.keptX hw6.kept (fun g hg h=>by have:=(hO5.block g hg).1;omega);have k6:=(((kdd.trans k3 (fun i _ h=>h)).trans (Kept.new (X:=(·=pb)) hw4) (fun i _ h=>h)).trans kg (fun i h1 h2=>by have:=hog _ h2;omega)).trans hw6.kept (fun i h1 h2=>by omega);have kY:Kept (fun i=>i=w.heap.size∨sv.ownBlock=some i) w3 w6:=((Kept.new (X:=fun i=>i=w.heap.size∨sv.ownBlock=some i) hw4).trans kg (fun i _ h=>.inr h)).trans hw6.kept (fun i _ h=>.inl h);have hX:∀i,(i<w.heap.size∨i=w.heap.size∨(Value.slice a5 (vs++[ub]).length c5).ownBlock=some i)→i<w.heap.size∨i=w.heap.size∨sv.ownBlock=some i∨w4.heap.size≤i:=fun i h=>by
        rcases h with h|h|h
        ·exact .inl h
        ·exact .inr (.inl h)
        ·rcases hn5 i h with h|h
         ·exact .inr (.inr (.inl h))
         ·exact .inr (.inr (.inr h))
       have hV6:PatsV (fun b=>b<w.heap.size∨b=w.heap.size∨(Value.slice a5 (vs++[ub]).length c5).ownBlock=some b) w6 (vs++[ub]) (acc++[x]):=by
        refine PatsV.snoc (PatsV.mono kY (fun i h=>?_) (fun i h=>?_) hV3) (PatV.mono kY (fun i h=>?_) (fun i h=>?_) V3.top)
        ·rcases h with h|h
         ·exact .inl (.inr (.inl h))
         ·exact .inl (.inr (.inr h))
        ·rcases hX i h with h|h|h|h
         ·exact .inl (.inl h)
         ·exact .inl (.inr (.inl h))
         ·exact .inl (.inr (.inr h))
         ·exact .inr (by omega)
        ·rcases h with h|h
         ·exact .inl (by omega)
         ·exact .inl (hob i h)
        ·rcases hX i h with h|h|h|h
         ·exact .inl (by omega)
         ·exact .inl (by omega)
         ·exact .inl (hob i h)
         ·exact .inr (by omega)
       have hlen6:=P6.len;have hlen1:=hP1.len;have hnx:rowLoop (againW d (unitP d)) m' (acc++[x]) l2=rowLoop (againW d (unitP d)) 1000 [] l0:=by rw[←hm2,hstep,pb_of hp]
       push_cast -dsimp;exact⟨⟨m',acc++[x],l2,_,vs++[ub],hnx,by omega,by rw[List.length_append,List.length_singleton];omega,B6,hO6,hV6,P6,k6⟩,by rw[hlen6,hlen1];exact hl2⟩
     | false =>
      have hst:startP l1=false:=by rw[hstP,hs3]
      have hfin:rowW (againW d (unitP d)) l0=.ok (rowOf acc,l1):=by
       have hl:rowLoop (againW d (unitP d)) 1000 [] l0=.ok (acc,l1):=by
        rw[←hm2];obtain⟨m',hmm⟩:∃m',m=m'+1:=⟨m-1,by omega⟩;rw[hmm,rowLoop];unfold pif;rw[hst];rfl
       unfold rowW;rw[pb_of hl];rfl
      have hV2l:=PatsV.len hV2;have hO2s:=hO2.slice;obtain⟨va,vc,hsv⟩:=hO2s;rw[hsv]at hB2 hO2 hV2;have d2:w2.cell? ⟨w.heap.size,2,none⟩=some (.slice va vs.length vc):=hB2.cell rfl;have hsl:=hO2.sl;have hzs:=k2.size;push_cast -dsimp[d2];refine⟨fun h1=>?_,fun h1=>?_⟩
      ·obtain⟨u,hvs⟩:∃u,vs=[u]:=List.length_eq_one_iff.1 (by omega);obtain⟨x,hac⟩:∃x,acc=[x]:=List.length_eq_one_iff.1 (by omega);rw[hvs]at hsl d2 hV2;rw[hac]at hV2 hfin;simp only[PatsV,and_true]at hV2;obtain⟨b5,o5,rfl,_,hcell⟩:=hsl.get (i:=0) (x:=u) rfl;have d5:w2.cell? ⟨b5,o5,none⟩=some (ptrP u):=by have:=hcell 0 _ rfl;simpa using this
       simp only[List.length_cons,List.length_nil,Nat.zero_add]at d2;push_cast -dsimp[d2,Nat.zero_mul,Nat.add_zero,d5];refine⟨by omega,x,l1,hfin,PatV.mono (Kept.refl (fun _=>False) _) (fun _ h=>h.elim) (fun i h=>.inl h) hV2,P2,k2⟩
      ·have hne:acc.length≠1:=by omega
       have hro:rowOf acc=.cat acc:=by
        unfold rowOf;split
        ·rename_i x;exact absurd rfl hne
        ·rfl
       refine⟨.cat acc,l1,by rw[←hro];exact hfin,?_,P2,k2⟩;simp only[PatV];exact⟨_,_,vs,rfl,by omega,hB2,hsl.weaken (fun i h=>by omega),PatsV.mono (Kept.refl (fun _=>False) _) (fun _ h=>h.elim) (fun i h=>.inl h) hV2⟩
 ·have hst:startP l1=true:=by
   have:t1.kind=3:=by omega
   rw[hstP,this];rfl
  have P2:=hP1;have hB2:=hB;have hO2:=hO;have hV2:=hV;have k2:=hkw;have hm1:∃m',m=m'+1:=⟨m-1,by omega⟩;obtain⟨m',hmm⟩:=hm1;have hz2:w.heap.size<w'.heap.size:=hB2.lt;have kd:Kept (fun _=>False) w' w'.drew:=(Kept.refl _ _).drew;have hBd:=hB2.kept kd (fun h=>h);have Pd:=P2.kept kd (fun i h=>h.elim);have kdd:=k2.trans kd (fun i h1 h2=>h2.elim);have d2:w'.drew.cell? ⟨w.heap.size,2,none⟩=some sv:=hBd.cell rfl;have hstep:rowLoop (againW d (unitP d)) m acc l1=Cae.pb (againW d (unitP d)) (fun x=>rowLoop (againW d (unitP d)) m' (acc++[x])) l1:=by
   rw[hmm,rowLoop];unfold pif;rw[hst,if_pos rfl]
  cases hp:againW d (unitP d) l1 with
  | error e =>
   refine wpL_boom (E:=PThr pb w l0 (rowW (againW d (unitP d)))) [(),(),(),(),(),(),()] mixed (by kernel_rfl) (fun ce te we hE=>?_) ?_
   ·push_cast -dsimp;exact hE
   ·push_cast -dsimp[d2];refine⟨fun w'' h=>by rw[h,d2];exact rfl,?_⟩;refine callB_of (ha n hn0 hn pb B w'.drew l1 Pd) (fun v we ⟨x,l',h1,_⟩=>by rw[hp]at h1;cases h1) ?_;rintro ce we ⟨en,pos,he,ht,hke⟩;refine⟨en,pos,?_,ht.mono (by have:=kdd.size;omega),kdd.trans hke (fun i _ h=>h)⟩;have hl:rowLoop (againW d (unitP d)) 1000 [] l0=.error (en,pos):=by
     rw[←hm2,hstep];unfold Cae.pb;rw[he]
    unfold rowW Cae.pb;rw[hl]
  | ok q =>
   obtain⟨x,l2⟩:=q;have hl2:l2.length<l1.length:=again_less hp;refine wpL_last (fun w'=>Blk w' w.heap.size 129 [.int .i64 4,.pointer none,sv,.int .i64 0,.int .i64 0]) mixed (by kernel_rfl) (by simp) hB2.drew ?_;push_cast -dsimp[d2];refine⟨fun w'' h=>by rw[Blk.cell h (o:=2) rfl];exact rfl,?_⟩;refine callP_of (ha n hn0 hn pb B w'.drew l1 Pd) ?_ (fun ce we ⟨en,pos,he,_⟩=>by rw[hp]at he;cases he);rintro u w3 ⟨x',l2',e3,V3,P3,k3⟩;obtain⟨rfl,rfl⟩:x=x'∧l2=l2':=by rw[hp]at e3;cases e3;exact⟨rfl,rfl⟩
   obtain⟨ub,rfl,hub,hubX⟩:=V3.ptr;have B3:=hBd.kept k3 (by omega);have z3:=k3.size;have hzd:w'.heap.size=w'.drew.heap.size:=rfl;have hob:∀g,sv.ownBlock=some g→g<w'.heap.size:=fun g hg=>(hO2.block g hg).2;have hO3:=(hO2.keptX kd (fun g _ h=>h)).keptX k3 (fun g hg h=>by have:=(hO2.block g hg).1;omega);have hV3:=PatsV.mono (X':=fun b=>(b<w.heap.size∨b=w.heap.size∨sv.ownBlock=some b)∨w'.heap.size≤b) ((kd.weaken (Y:=(·=pb)) (fun i _ h=>h.elim)).trans k3 (fun i _ h=>h)) (fun i h=>by omega) (fun i h=>h) (PatsV.top hV2);refine⟨B3,?_⟩;push_cast -dsimp;refine rowK elI_127 rfl rfl (by omega) ?_;intro w4 hw4;have B4:=B3.below hw4.below B3.lt;have z4:=hw4.size;have hO4:=hO3.new hw4;have P4:=P3.below hw4.below;refine⟨B4,?_⟩;push_cast -dsimp;refine appendK2 (base:=w.heap.size+1) [ub] (enc:=encP) elI_127 hO4 (by rfl) (fun j y hy=>by simpa[encP,ptrP] using hw4.cell hy) encP_one (by rw[PatsV.len hV2];simp only[List.length_cons,List.length_nil];omega) (by omega) ?_;intro sv5 w5 hO5 hg5 hn5;have kg:Kept (fun j=>sv.ownBlock=some j) w4 w5:=Kept.grown hg5 (fun _ h=>h);have hog:∀g,sv.ownBlock=some g→w.heap.size+1≤g:=fun g hg=>(hO2.block g hg).1;have B5:=B4.kept kg (fun h=>by have:=hog _ h;omega);have P5:=P4.kept kg (fun i h=>by have:=hog _ h;omega);have z5:=kg.size;refine⟨B5,?_⟩;obtain⟨a5,c5,rfl⟩:=hO5.slice;push_cast -dsimp;refine storeK_of B5 (by simp) rfl ?_;intro w6 hw6
   have B6:Blk w6 w.heap.size 129 [.int .i64 4,.pointer none,.slice a5 (vs++[ub]).length c5,.int .i64 0,.int .i64 0]:=hw6.blk;have P6:=P5.kept hw6.kept (fun i h=>by omega);have z6:=hw6.size;have hO6:=hO5.keptX hw6.kept (fun g hg h=>by have:=(hO5.block g hg).1;omega);have k6:=(((kdd.trans k3 (fun i _ h=>h)).trans (Kept.new (X:=(·=pb)) hw4) (fun i _ h=>h)).trans kg (fun i h1 h2=>by have:=hog _ h2;omega)).trans hw6.kept (fun i h1 h2=>by omega);have kY:Kept (fun i=>i=w.heap.size∨sv.ownBlock=some i) w3 w6:=((Kept.new (X:=fun i=>i=w.heap.size∨sv.ownBlock=some i) hw4).trans kg (fun i _ h=>.inr h)).trans hw6.kept (fun i _ h=>.inl h);have hX:∀i,(i<w.heap.size∨i=w.heap.size∨(Value.slice a5 (vs++[ub]).length c5).ownBlock=some i)→i<w.heap.size∨i=w.heap.size∨sv.ownBlock=some i∨w4.heap.size≤i:=fun i h=>by
    rcases h with h|h|h
    ·exact .inl h
    ·exact .inr (.inl h)
    ·rcases hn5 i h with h|h
     ·exact .inr (.inr (.inl h))
     ·exact .inr (.inr (.inr h))
   have hV6:PatsV (fun b=>b<w.heap.size∨b=w.heap.size∨(Value.slice a5 (vs++[ub]).length c5).ownBlock=some b) w6 (vs++[ub]) (acc++[x]):=by
    refine PatsV.snoc (PatsV.mono kY (fun i h=>?_) (fun i h=>?_) hV3) (PatV.mono kY (fun i h=>?_) (fun i h=>?_) V3.top)
    ·rcases h with h|h
     ·exact .inl (.inr (.inl h))
     ·exact .inl (.inr (.inr h))
    ·rcases hX i h with h|h|h|h
     ·exact .inl (.inl h)
     ·exact .inl (.inr (.inl h))
     ·exact .inl (.inr (.inr h))
     ·exact .inr (by omega)
    ·rcases h with h|h
     ·exact .inl (by omega)
     ·exact .inl (hob i h)
    ·rcases hX i h with h|h|h|h
     ·exact .inl (by omega)
     ·exact .inl (by omega)
     ·exact .inl (hob i h)
     ·exact .inr (by omega)
   have hlen6:=P6.len;have hlen1:=hP1.len;have hnx:rowLoop (againW d (unitP d)) m' (acc++[x]) l2=rowLoop (againW d (unitP d)) 1000 [] l0:=by rw[←hm2,hstep,pb_of hp]
   push_cast -dsimp;exact⟨⟨m',acc++[x],l2,_,vs++[ub],hnx,by omega,by rw[List.length_append,List.length_singleton];omega,B6,hO6,hV6,P6,k6⟩,by rw[hlen6,hlen1];exact hl2⟩
theorem row_le {d:Nat}{l l':List Cae.Tok}{x:PatP}(h:rowW (againW d (unitP d)) l=.ok (x,l')):l'.length≤l.length:=Lo.le (lo_rowW (lo_againW (lo_unit d))) _ _ _ h
theorem pat_of (d:Nat)(hrow:RowC d):PatC d:=by
 intro n hn0 hn pb B w l0 h0;have hle:=h0.le;have hlt:=h0.lt;refine fun2_of_vc Tryz.func61 rfl (by kernel_rfl) [.tmp 4] rfl ?_;push_cast -dsimp(maxSteps:=4000000) [Tryz.ntmps61];refine callP_of (deep_c n h0) ?_ ?_;rotate_left
 ·rintro c w' ⟨h8,ht,hb⟩;have hd0:d=0:=by omega
  subst hd0;push_cast -dsimp;exact⟨4,_,rfl,ht,Kept.of_below hb (fun i h1 h2=>by omega)⟩
 rintro _ w0 ⟨h8,rfl,hw0⟩;obtain rfl:w=w0:=hw0.symm;have hpat:patP d l0=Cae.pb (rowW (againW d (unitP d))) (fun x=>Cae.pb (altLoop (rowW (againW d (unitP d))) 1000 [x]) fun ps=>pr (altOf ps)) l0:=by
  unfold patP patW;rw[if_neg (by omega)];rfl
 push_cast -dsimp;refine callP_of (hrow n hn0 hn pb B w l0 h0) ?_ ?_;rotate_left
 ·rintro c w' ⟨e,pos,he,ht,hk⟩;push_cast -dsimp;refine⟨e,pos,?_,ht,hk⟩;rw[hpat];unfold Cae.pb;rw[he]
 rintro v1 w1 ⟨x0,l1',e1,V1,P1,k1⟩;obtain⟨ub,rfl,hub,hubX⟩:=V1.ptr;have z1:=k1.size;push_cast -dsimp;refine rowK elI_127 rfl rfl (by omega) ?_;intro w2 hw2;have z2:=hw2.size;have O2:Go.Vc.Own w.heap.size 58 1 encP w2 (.slice (some ⟨w1.heap.size,0,none⟩) 1 1) [ub]:=hw2.own (by rfl) rfl (fun _=>rfl) (by omega) (by omega);push_cast -dsimp;refine boxK_of ?_;intro w3 hw3;have B3:=hw3.blk;have O3:=O2.new hw3;have P3:=(P1.below hw2.below).below hw3.below;have k3:=(k1.trans (Kept.new (X:=(·=pb)) hw2) (fun i _ h=>h)).trans (Kept.new (X:=(·=pb)) hw3) (fun i _ h=>h);have V3:=(V1.top.below hw2.below).below hw3.below;have hxb:∃xb,xb=w2.heap.size:=⟨_,rfl⟩;obtain⟨xb,hxb⟩:=hxb;have hxb0:w.heap.size≤xb:=by omega
 rw[←hxb]at B3;push_cast -dsimp[←hxb];refine wpL_loop [15,16,17,18,19,20,21,22,23,24,25,26,27,28] (fun z w'=>∃(m:Nat) (acc:List PatP) (l1:List Cae.Tok) (sv:Value) (vs:List Nat),altLoop (rowW (againW d (unitP d))) m acc l1=altLoop (rowW (againW d (unitP d))) 1000 [x0] l1'∧l1.length<m∧acc.length+m≤1001 ∧
   Blk w' xb 129 [.int .i64 5,.pointer none,sv,.int .i64 0,.int .i64 0]∧Go.Vc.Own w.heap.size 58 1 encP w' sv vs∧(∀g,sv.ownBlock=some g→g≠xb)∧PatsV (fun b=>b<w.heap.size∨b=xb∨sv.ownBlock=some b) w' vs acc∧PS pb B w' l1∧Kept (·=pb) w w') (fun z w'=>lenAt w' pb) ?_ ?_
 ·have hlt:l1'.length<1000:=by have:=P1.tl.len;omega
  have hV0:PatsV (fun b=>b<w.heap.size∨b=xb∨(Value.slice (some ⟨w1.heap.size,0,none⟩) 1 1).ownBlock=some b) w3 [ub] [x0]:=by
   simp only[PatsV,and_true];refine PatV.mono (Kept.refl (fun _=>False) _) (fun _ h=>h.elim) (fun i h=>?_) V3;rcases h with h|h|h
   ·exact .inl h
   ·exact .inr (by omega)
   ·have:w1.heap.size=i:=by simpa[Value.ownBlock] using h
    exact .inr (by omega)
  have hne0:∀g,(Value.slice (some ⟨w1.heap.size,0,none⟩) 1 1).ownBlock=some g→g≠xb:=fun g hg=>by
   have:w1.heap.size=g:=by simpa[Value.ownBlock] using hg
   omega
  exact⟨1000,[x0],l1',_,[ub],rfl,hlt,by simp,B3,O3,hne0,hV0,P3,k3⟩
 rintro z w' ⟨m,acc,l1,sv,vs,hm2,hm,hacc,hBq,hOq,hne2,hVq,hP1,kq⟩;have hzw:=kq.size;push_cast -dsimp[←hxb];refine callK_of (take_c [124] hP1) ?_;rintro _ w2' hT;rcases hT with ⟨hst,rfl,t1,r1',el1,h51,P2,kt,hz⟩|⟨hst,rfl,hww⟩
 ·have hpop:popP l1=.ok ((),r1'):=by rw[el1];exact popP_cons h51
  have hl1:l1.length=r1'.length+1:=by rw[el1,List.length_cons]
  have hB2:=hBq.kept kt (by omega);have hO2:=hOq.keptX kt (fun g hg h=>by have:=(hOq.block g hg).1;omega);have hV2:PatsV (fun b=>b<w.heap.size∨b=xb∨sv.ownBlock=some b) w2' vs acc:=PatsV.mono kt (fun i h=>by omega) (fun i h=>h) hVq;have k2:=kq.trans kt (fun i _ h=>h);push_cast -dsimp[←hxb];have hm1:∃m',m=m'+1:=⟨m-1,by omega⟩;obtain⟨m',hmm⟩:=hm1;have hz2:xb<w2'.heap.size:=hB2.lt;have kd:Kept (fun _=>False) w2' w2'.drew:=(Kept.refl _ _).drew;have hBd:=hB2.kept kd (fun h=>h);have Pd:=P2.kept kd (fun i h=>h.elim);have kdd:=k2.trans kd (fun i h1 h2=>h2.elim);have d2:w2'.drew.cell? ⟨xb,2,none⟩=some sv:=hBd.cell rfl;have hstep:altLoop (rowW (againW d (unitP d))) m acc l1=Cae.pb (rowW (againW d (unitP d))) (fun x=>altLoop (rowW (againW d (unitP d))) m' (acc++[x])) r1':=by
   rw[hmm,altLoop];unfold pif;rw[hst,if_pos rfl,pb_of hpop]
  cases hp:rowW (againW d (unitP d)) r1' with
  | error e =>
   refine wpL_boom (E:=PThr pb w l0 (patP d)) [(),(),(),(),(),(),()] mixed (by kernel_rfl) (fun ce te we hE=>?_) ?_
   ·push_cast -dsimp;exact hE
   ·push_cast -dsimp[d2];refine⟨fun w'' h=>by rw[h,d2];exact rfl,?_⟩;refine callB_of (hrow n hn0 hn pb B w2'.drew r1' Pd) (fun v we ⟨x,l',h1,_⟩=>by rw[hp]at h1;cases h1) ?_;rintro ce we ⟨en,pos,he,ht,hke⟩;refine⟨en,pos,?_,ht.mono (by have:=kdd.size;omega),kdd.trans hke (fun i _ h=>h)⟩;have hl:altLoop (rowW (againW d (unitP d))) 1000 [x0] l1'=.error (en,pos):=by
     rw[←hm2,hstep];unfold Cae.pb;rw[he]
    rw[hpat,pb_of e1];unfold Cae.pb;rw[hl]
  | ok q =>
   obtain⟨x,l2⟩:=q;have hl2:l2.length<l1.length:=by
    have:=row_le hp;rw[hl1];omega
   refine wpL_last (fun w'=>Blk w' xb 129 [.int .i64 5,.pointer none,sv,.int .i64 0,.int .i64 0]) mixed (by kernel_rfl) (by simp) hB2.drew ?_;push_cast -dsimp[d2];refine⟨fun w'' h=>by rw[Blk.cell h (o:=2) rfl];exact rfl,?_⟩;refine callP_of (hrow n hn0 hn pb B w2'.drew r1' Pd) ?_ (fun ce we ⟨en,pos,he,_⟩=>by rw[hp]at he;cases he);rintro u w3 ⟨x',l2',e3,V3,P3,k3⟩;obtain⟨rfl,rfl⟩:x=x'∧l2=l2':=by rw[hp]at e3;cases e3;exact⟨rfl,rfl⟩
   obtain⟨ub,rfl,hub,hubX⟩:=V3.ptr;have B3:=hBd.kept k3 (by omega);have z3:=k3.size;have hzd:w2'.heap.size=w2'.drew.heap.size:=rfl;have hob:∀g,sv.ownBlock=some g→g<w2'.heap.size:=fun g hg=>(hO2.block g hg).2;have hO3:=(hO2.keptX kd (fun g _ h=>h)).keptX k3 (fun g hg h=>by have:=(hO2.block g hg).1;omega);have hV3:=PatsV.mono (X':=fun b=>(b<w.heap.size∨b=xb∨sv.ownBlock=some b)∨w2'.heap.size≤b) ((kd.weaken (Y:=(·=pb)) (fun i _ h=>h.elim)).trans k3 (fun i _ h=>h)) (fun i h=>by omega) (fun i h=>h) (PatsV.top hV2);refine⟨B3,?_⟩;push_cast -dsimp;refine rowK elI_127 rfl rfl (by omega) ?_;intro w4 hw4;have B4:=B3.below hw4.below B3.lt;have z4:=hw4.size;have hO4:=hO3.new hw4;have P4:=P3.below hw4.below;refine⟨B4,?_⟩;push_cast -dsimp;refine appendK2 (base:=w.heap.size) [ub] (enc:=encP) elI_127 hO4 (by rfl) (fun j y hy=>by simpa[encP,ptrP] using hw4.cell hy) encP_one (by rw[PatsV.len hV2];simp only[List.length_cons,List.length_nil];omega) (by omega) ?_;intro sv5 w5 hO5 hg5 hn5;have kg:Kept (fun j=>sv.ownBlock=some j) w4 w5:=Kept.grown hg5 (fun _ h=>h);have hog:∀g,sv.ownBlock=some g→w.heap.size≤g∧g≠xb:=fun g hg=>⟨(hO2.block g hg).1,hne2 g hg⟩;have B5:=B4.kept kg (fun h=>by have:=hog _ h;omega);have P5:=P4.kept kg (fun i h=>by have:=hog _ h;omega);have z5:=kg.size;refine⟨B5,?_⟩;obtain⟨a5,c5,rfl⟩:=hO5.slice;push_cast -dsimp;refine storeK_of B5 (by simp) rfl ?_;intro w6 hw6
   have B6:Blk w6 xb 129 [.int .i64 5,.pointer none,.slice a5 (vs++[ub]).length c5,.int .i64 0,.int .i64 0]:=hw6.blk;have P6:=P5.kept hw6.kept (fun i h=>by omega);have z6:=hw6.size;have hne6:∀g,(Value.slice a5 (vs++[ub]).length c5).ownBlock=some g→g≠xb:=fun g hg=>by
    rcases hn5 g hg with h|h
    ·exact(hog g h).2
    ·omega
   have hO6:=hO5.keptX hw6.kept (fun g hg h=>hne6 g hg h);have k6:=(((kdd.trans k3 (fun i _ h=>h)).trans (Kept.new (X:=(·=pb)) hw4) (fun i _ h=>h)).trans kg (fun i h1 h2=>by have:=hog _ h2;omega)).trans hw6.kept (fun i h1 h2=>by omega);have kY:Kept (fun i=>i=xb∨sv.ownBlock=some i) w3 w6:=((Kept.new (X:=fun i=>i=xb∨sv.ownBlock=some i) hw4).trans kg (fun i _ h=>.inr h)).trans hw6.kept (fun i _ h=>.inl h);have hX:∀i,(i<w.heap.size∨i=xb∨(Value.slice a5 (vs++[ub]).length c5).ownBlock=some i)→i<w.heap.size∨i=xb∨sv.ownBlock=some i∨w4.heap.size≤i:=fun i h=>by
    rcases h with h|h|h
    ·exact .inl h
    ·exact .inr (.inl h)
    ·rcases hn5 i h with h|h
     ·exact .inr (.inr (.inl h))
     ·exact .inr (.inr (.inr h))
   have hV6:PatsV (fun b=>b<w.heap.size∨b=xb∨(Value.slice a5 (vs++[ub]).length c5).ownBlock=some b) w6 (vs++[ub]) (acc++[x]):=by
    refine PatsV.snoc (PatsV.mono kY (fun i h=>?_) (fun i h=>?_) hV3) (PatV.mono kY (fun i h=>?_) (fun i h=>?_) V3.top)
    ·rcases h with h|h
     ·exact .inl (.inr (.inl h))
     ·exact .inl (.inr (.inr h))
    ·rcases hX i h with h|h|h|h
     ·exact .inl (.inl h)
     ·exact .inl (.inr (.inl h))
     ·exact .inl (.inr (.inr h))
     ·exact .inr (by omega)
    ·rcases h with h|h
     ·exact .inl (by omega)
     ·exact .inl (hob i h)
    ·rcases hX i h with h|h|h|h
     ·exact .inl (by omega)
     ·exact .inl (by omega)
     ·exact .inl (hob i h)
     ·exact .inr (by omega)
   have hlen6:=P6.len;have hlen1:=hP1.len;have hnx:altLoop (rowW (againW d (unitP d))) m' (acc++[x]) l2=altLoop (rowW (againW d (unitP d))) 1000 [x0] l1':=by rw[←hm2,hstep,pb_of hp]
   push_cast -dsimp;exact⟨⟨m',acc++[x],l2,_,vs++[ub],hnx,by omega,by rw[List.length_append,List.length_singleton];omega,B6,hO6,hne6,hV6,P6,k6⟩,by rw[hlen6,hlen1];exact hl2⟩
 ·obtain rfl:w'=w2':=hww.symm;have hfin:patP d l0=.ok (altOf acc,l1):=by
   have hl:altLoop (rowW (againW d (unitP d))) 1000 [x0] l1'=.ok (acc,l1):=by
    rw[←hm2];obtain⟨m',hmm⟩:∃m',m=m'+1:=⟨m-1,by omega⟩;rw[hmm,altLoop];unfold pif;rw[hst];rfl
   rw[hpat,pb_of e1,pb_of hl];rfl
  have hB2:=hBq;have hO2:=hOq;have hV2:=hVq;have P2:=hP1;have k2:=kq;have hV2l:=PatsV.len hV2;have hO2s:=hO2.slice;obtain⟨va,vc,hsv⟩:=hO2s;rw[hsv]at hB2 hO2 hV2;have d2:w'.cell? ⟨xb,2,none⟩=some (.slice va vs.length vc):=hB2.cell rfl;have hsl:=hO2.sl;have hzs:=k2.size;push_cast -dsimp[d2];refine⟨fun h1=>?_,fun h1=>?_⟩
  ·obtain⟨u,hvs⟩:∃u,vs=[u]:=List.length_eq_one_iff.1 (by omega);obtain⟨x,hac⟩:∃x,acc=[x]:=List.length_eq_one_iff.1 (by omega);rw[hvs]at hsl d2 hV2;rw[hac]at hV2 hfin;simp only[PatsV,and_true]at hV2;obtain⟨b5,o5,rfl,_,hcell⟩:=hsl.get (i:=0) (x:=u) rfl;have d5:w'.cell? ⟨b5,o5,none⟩=some (ptrP u):=by have:=hcell 0 _ rfl;simpa using this
   simp only[List.length_cons,List.length_nil,Nat.zero_add]at d2;push_cast -dsimp[d2,Nat.zero_mul,Nat.add_zero,d5];refine⟨by omega,x,l1,hfin,PatV.mono (Kept.refl (fun _=>False) _) (fun _ h=>h.elim) (fun i h=>.inl h) hV2,P2,k2⟩
  ·have hne:acc.length≠1:=by omega
   have hro:altOf acc=.alt acc:=by
    unfold altOf;split
    ·rename_i x;exact absurd rfl hne
    ·rfl
   refine⟨.alt acc,l1,by rw[←hro];exact hfin,?_,P2,k2⟩;simp only[PatV];exact⟨_,_,vs,rfl,by omega,hB2,hsl.weaken (fun i h=>by omega),PatsV.mono (Kept.refl (fun _=>False) _) (fun _ h=>h.elim) (fun i h=>.inl h) hV2⟩
end Go.Proofs.YtodeeahdhnjpkaaGreatDoor
end
