/- Texts of this claim, merged: Rck, Rr2, Rr3, Rr4, Rr5, Rr6, Rr7. -/
import Derived.Test.YtodeeahdhnjpkaaGreatDoorM11
set_option maxRecDepth 100000
set_option linter.unusedSimpArgs false
set_option linter.unusedVariables false
set_option maxHeartbeats 8000000
section
namespace Go.Proofs.YtodeeahdhnjpkaaGreatDoor
open Go.Vc Go.Proofs Go.RowKit Cae
attribute [local irreducible] wpL callK valK unitK runK Fun Sl Vc.Own vc vcOps opK pureK
def LkS (nm:NamesP)(c:RuleP)(j:Nat):Prop:=(1≤j→patS nm c.before=none)∧(2≤j→patS nm c.after=none)
theorem rcheck_c (f:FileP)(hok:FileOk f)(hpn:PnOk f)(hlc:f.classes.length≤1000000)(hlr:f.rules.length≤1000000)(X:Nat→Prop)(v:Value)(w:World)(hg:Gr w)(hv:FileV X w v f) :
  Fun Tryz.prog 11 [v] w fun r w'=>RErr (chkS f) r∧Below w.heap.size w w':=by
 have hv0:=hv;obtain⟨cv,rv,cs,rs,rfl,hcs,hrs,hC,hR⟩:=hv;have hrl:=All2.len hR;obtain⟨ca,cc,rfl,hcc⟩:=hcs.shape;obtain⟨ra,rc,rfl,hrc⟩:=hrs.shape;refine fun_of_wLC Tryz.func11 rfl (by kernel_rfl) [.cell 2 28] rfl ?_;push_cast -dsimp(maxSteps:=4000000) [Tryz.ntmps11];refine wpL_seqV ?_;push_cast -dsimp;refine boxK_of ?_;intro w1 hw1;have hw1:New w w1 25 [.slice ca cs.length cc,.slice ra rs.length rc,.bool f.els]:=hw1;have z1:=hw1.size;push_cast -dsimp;refine allocK (z:=[.int .i64 0,.int .i64 0]) (by kernel_rfl) ?_;intro w2 hw2;have z2:=hw2.size;have B2:=hw1.blk.below hw2.below (by omega);have E2:Blk w2 w1.heap.size 28 [.int .i64 0,.int .i64 0]:=hw2.blk;have c2:=hw1.below.trans (hw2.below.mono (by omega));have d0:cellsAt w2 ⟨w.heap.size,0,none⟩ 0 3=some [.slice ca cs.length cc,.slice ra rs.length rc,.bool f.els]:=B2.cellsAt;push_cast -dsimp;refine wpL_seqV ?_;push_cast -dsimp[d0];refine callK_of (rnames_c f hok.1 hlc X _ w2 (hg.below c2) (hv0.below c2)) ?_;rintro r w3 ⟨hN,b3⟩;have z3:=b3.size;have cw3:=c2.trans (b3.mono (by omega));unfold RNames at hN;cases hnm:namesS [] f.classes with
 | error e =>
  rw[hnm]at hN;have hN:r=_:=hN;obtain⟨q,hq⟩:∃q,q=errN e:=⟨_,rfl⟩;have h97:q.1=9∨q.1=7:=by rw[hq];unfold errN;dsimp only;split<;>simp
  rw[←hq]at hN;obtain⟨c,p⟩:=q;have hck:chkS f=some (c,p):=by unfold chkS;rw[hnm,hq]
  subst hN;dsimp only at h97 ⊢
  rcases h97 with rfl|rfl;·
   push_cast -dsimp
   refine allocK (z:=[.int .i64 0,.int .i64 0]) (by kernel_rfl) ?_
   intro w4 hw4
   have z4:=hw4.size
   push_cast -dsimp
   refine storeAgg (xt:=28) (n:=2) (by kernel_rfl) hw4.blk rfl (by decide) (by simp;exact⟨rfl,rfl⟩) ?_
   intro w5 hw5
   have F5:Blk w5 w3.heap.size 28 [.int .i64 9,.int .i64 p]:=hw5.blk
   have z5:=hw5.size
   have c35:Below w3.heap.size w3 w5:=hw4.below.trans (hw5.kept.below (B:=w3.heap.size) (by omega) (fun i h=>by omega))
   have cw5:=cw3.trans (c35.mono (by omega))
   have E5:=(E2.below b3 (by omega)).below c35 (by omega)
   have f5:cellsAt w5 ⟨w3.heap.size,0,none⟩ 0 2=some [.int .i64 9,.int .i64 p]:=F5.cellsAt
   have g5:=fault_agg (hg.below cw5)
   push_cast -dsimp
   refine wpL_seqV ?_
   push_cast -dsimp[f5,g5]
   refine storeAgg (xt:=28) (n:=2) (by kernel_rfl) E5 rfl (by decide) (by simp;exact⟨rfl,rfl⟩) ?_
   intro w6 hw6
   have E6:Blk w6 w1.heap.size 28 [.int .i64 9,.int .i64 p]:=hw6.blk
   have dE:cellsAt w6 ⟨w1.heap.size,0,none⟩ 0 2=some [.int .i64 9,.int .i64 p]:=E6.cellsAt
   have cw6:=cw5.trans (hw6.kept.below (B:=w.heap.size) cw5.size (fun i h=>by omega))
   push_cast -dsimp[dE]
   refine⟨?_,cw6⟩
   rw[hck]
   rfl
  ·
   push_cast -dsimp
   refine allocK (z:=[.int .i64 0,.int .i64 0]) (by kernel_rfl) ?_
   intro w4 hw4
   have z4:=hw4.size
   push_cast -dsimp
   refine storeAgg (xt:=28) (n:=2) (by kernel_rfl) hw4.blk rfl (by decide) (by simp;exact⟨rfl,rfl⟩) ?_
   intro w5 hw5
   have F5:Blk w5 w3.heap.size 28 [.int .i64 7,.int .i64 p]:=hw5.blk
   have z5:=hw5.size
   have c35:Below w3.heap.size w3 w5:=hw4.below.trans (hw5.kept.below (B:=w3.heap.size) (by omega) (fun i h=>by omega))
   have cw5:=cw3.trans (c35.mono (by omega))
   have E5:=(E2.below b3 (by omega)).below c35 (by omega)
   have f5:cellsAt w5 ⟨w3.heap.size,0,none⟩ 0 2=some [.int .i64 7,.int .i64 p]:=F5.cellsAt
   have g5:=fault_agg (hg.below cw5)
   push_cast -dsimp
   refine wpL_seqV ?_
   push_cast -dsimp[f5,g5]
   refine storeAgg (xt:=28) (n:=2) (by kernel_rfl) E5 rfl (by decide) (by simp;exact⟨rfl,rfl⟩) ?_
   intro w6 hw6
   have E6:Blk w6 w1.heap.size 28 [.int .i64 7,.int .i64 p]:=hw6.blk
   have dE:cellsAt w6 ⟨w1.heap.size,0,none⟩ 0 2=some [.int .i64 7,.int .i64 p]:=E6.cellsAt
   have cw6:=cw5.trans (hw6.kept.below (B:=w.heap.size) cw5.size (fun i h=>by omega))
   push_cast -dsimp[dE]
   refine⟨?_,cw6⟩
   rw[hck]
   rfl
 | ok nm =>
  rw[hnm]at hN;obtain⟨mb,hmb,rfl,hNV,hRN⟩:=hN;push_cast -dsimp;refine allocK (z:=[.int .i64 0,.int .i64 0]) (by kernel_rfl) ?_;intro w4 hw4;have z4:=hw4.size;push_cast -dsimp;refine storeAgg (xt:=28) (n:=2) (by kernel_rfl) hw4.blk rfl (by decide) (by simp;exact⟨rfl,rfl⟩) ?_;intro w5 hw5;have F5:Blk w5 w3.heap.size 28 [.int .i64 0,.int .i64 (-1)]:=hw5.blk;have z5:=hw5.size;have b35:Below w3.heap.size w3 w5:=hw4.below.trans (hw5.kept.below (B:=w3.heap.size) (by omega) (fun i h=>by omega));have cw5:=cw3.trans (b35.mono (by omega));have E5:=(E2.below b3 (by omega)).below b35 (by omega);have B5:=(B2.below b3 (by omega)).below b35 (by omega);have f5:cellsAt w5 ⟨w3.heap.size,0,none⟩ 0 2=some [.int .i64 0,.int .i64 (-1)]:=F5.cellsAt;have g5:=fault_agg (hg.below cw5);have d1:w5.cell? ⟨w.heap.size,1,none⟩=some (.slice ra rs.length rc):=B5.cell rfl;push_cast -dsimp;refine wpL_seqV ?_;push_cast -dsimp[f5,g5];refine wpL_seqV ?_;push_cast -dsimp[d1];refine wpL_loopW [6,8,9,22,23,24,25,26,27,28,29,30,31,32,33,34,35,36,37,38,39,40,41,42] (fun z wx=>∃(i:Nat),z 22=.int .i64 i∧i≤f.rules.length∧rulesS nm (f.rules.take i)=none∧Below w5.heap.size w5 wx) (fun z _=>f.rules.length-(intOf (z 22)).toNat) ?_ ?_
  ·exact⟨0,rfl,Nat.zero_le _,by simp[rulesS],Below.refl _ _⟩
  ·intro z wx hI;obtain⟨i,h22,hi,hno,hbx5⟩:=hI;have zx:=hbx5.size;have hbx:=cw5.trans (hbx5.mono (by omega));have Ex:=E5.below hbx5 (by omega);refine wpL_seqV ?_;push_cast -dsimp[h22];refine wpL_seqV ?_;push_cast -dsimp;refine⟨fun hlt=>?_,fun hge=>?_⟩
   ·obtain⟨c,hc,hcm,_,ht⟩:=lt_get (l:=f.rules) (i:=i) (by omega);obtain⟨x,hx,hxp,hxb,hx1,hx2⟩:=all2_nth hR hc;obtain⟨xp,xb,x1,x2⟩:=x;simp only at hxp hxb hx1 hx2;subst hxp;subst hxb;obtain⟨b1,o,rfl,hnb,hcell⟩:=(hrs.below hbx).get hx;have c4:cellsAt wx ⟨b1,o+i*4,none⟩ 0 4=some [.int .i64 c.pos,.bool c.brk,.pointer (some ⟨x1,0,none⟩),.pointer (some ⟨x2,0,none⟩)]:=cellsAt_of _ 0 (fun j u hu=>by simpa[encRu,ptrP] using hcell j u hu);refine wpL_seqW (wpL_blockW (wpL_seqV ?_));push_cast -dsimp[c4];refine⟨⟨by omega,by omega⟩,?_⟩;refine allocK (z:=[.int .i64 0,.bool false,.pointer none,.pointer none]) (by kernel_rfl) ?_;intro wa hwa;have za:=hwa.size;push_cast -dsimp;refine storeAgg (n:=4) (by kernel_rfl) hwa.blk rfl (by simp) (by simp[Value.oneCell']) ?_;intro wb hwb;have zb:=hwb.size;have hbb:Below wx.heap.size wx wb:=hwa.below.trans (hwb.kept.below (by omega) (fun i h=>by omega));have hb5b:=hbx5.trans (hbb.mono (by omega));have hbwb:=hbx.trans (hbb.mono (by omega));have Rb:Blk wb wx.heap.size 60 [.int .i64 c.pos,.bool c.brk,.pointer (some ⟨x1,0,none⟩),.pointer (some ⟨x2,0,none⟩)]:=hwb.blk;have e2:wb.cell? ⟨wx.heap.size,2,none⟩=some (.pointer (some ⟨x1,0,none⟩)):=Rb.cell rfl;have e3:wb.cell? ⟨wx.heap.size,3,none⟩=some (.pointer (some ⟨x2,0,none⟩)):=Rb.cell rfl;have hsp:f.rules=f.rules.take (i+1)++f.rules.drop (i+1):=(List.take_append_drop _ _).symm;push_cast -dsimp;refine wpL_seqW (wpL_build (l1:=[_,_,_,_]) rfl rfl ?_);push_cast -dsimp[e2,e3]
    refine runK_value (w':=wb) (v:=.agg #[.pointer (some ⟨x1,0,none⟩),.pointer (some ⟨x2,0,none⟩)]) (by kernel_rfl) ?_;push_cast -dsimp;refine wpL_blockW ?_;refine wpL_loop [8,9,31,32,33,34,35,36,37,38,39,40,41] (fun z wy=>∃(j:Nat),z 31=.int .i64 j∧j≤2∧LkS nm c j∧Below wb.heap.size wb wy) (fun z _=>2-(intOf (z 31)).toNat) ?_ ?_
    ·exact⟨0,rfl,Nat.zero_le _,⟨fun h=>by omega,fun h=>by omega⟩,Below.refl _ _⟩
    ·intro z wy hI;obtain⟨j,h31,hj,⟨hn1,hn2⟩,hby⟩:=hI;have zy:=hby.size;have bwy:=hbwb.trans (hby.mono hbwb.size);have hb5y:=hb5b.trans (hby.mono hb5b.size);rcases(show j=0∨j=1∨j=2 by omega) with rfl|rfl|rfl
     ·push_cast -dsimp[h31];refine indexArr (n:=2) (e:=58) (by kernel_rfl) ?_;refine runK_value (w':=wy) (v:=ptrP x1) (by kernel_rfl) ?_;push_cast -dsimp;refine callK_of (loo_c c.before (hok.2 c hcm).1 (by have:=(hpn c hcm).1;omega) nm hRN _ _ mb wy (hg.below bwy) (PatV.weak (PatV.below hx1 bwy) (fun b h=>h.1)) (hNV.below (b35.trans (hb5y.mono (by omega))))) ?_;rintro r wz ⟨hE,hbz⟩;have zz:=hbz.size;have bwz:=bwy.trans (hbz.mono bwy.size);unfold PatE at hE;cases hp:patS nm c.before with
      | none =>
       rw[hp]at hE;have hE:r=_:=hE;subst hE;push_cast -dsimp;refine allocK (z:=[.int .i64 0,.int .i64 0]) (by kernel_rfl) ?_;intro wp hwp;have zp:=hwp.size;push_cast -dsimp;refine storeAgg (xt:=28) (n:=2) (by kernel_rfl) hwp.blk rfl (by decide) (by simp;exact⟨rfl,rfl⟩) ?_;intro wq hwq;have Fq:Blk wq wz.heap.size 28 [.int .i64 0,.int .i64 (-1)]:=hwq.blk;have zq:=hwq.size;have c4:Below wz.heap.size wz wq:=hwp.below.trans (hwq.kept.below (B:=wz.heap.size) (by omega) (fun i h=>by omega));have cwq:=bwz.trans (c4.mono bwz.size);have f4:cellsAt wq ⟨wz.heap.size,0,none⟩ 0 2=some [.int .i64 0,.int .i64 (-1)]:=Fq.cellsAt;have g4:=fault_agg (hg.below cwq);push_cast -dsimp[f4,g4];exact⟨⟨1,rfl,by omega,⟨fun _=>hp,fun h=>by omega⟩,hby.trans ((hbz.mono hby.size).trans (c4.mono (by omega)))⟩,by rw[h31];simp only[intOf];omega⟩
      | some e =>
       rw[hp]at hE;have hE:r=_:=hE;subst hE;push_cast -dsimp;refine allocK (z:=[.int .i64 0,.int .i64 0]) (by kernel_rfl) ?_;intro wp hwp;have zp:=hwp.size;push_cast -dsimp;refine storeAgg (xt:=28) (n:=2) (by kernel_rfl) hwp.blk rfl (by decide) (by simp;exact⟨rfl,rfl⟩) ?_;intro wq hwq;have Fq:Blk wq wz.heap.size 28 [.int .i64 7,.int .i64 e]:=hwq.blk;have zq:=hwq.size;have c4:Below wz.heap.size wz wq:=hwp.below.trans (hwq.kept.below (B:=wz.heap.size) (by omega) (fun i h=>by omega));have cwq:=bwz.trans (c4.mono bwz.size);have f4:cellsAt wq ⟨wz.heap.size,0,none⟩ 0 2=some [.int .i64 7,.int .i64 e]:=Fq.cellsAt;have g4:=fault_agg (hg.below cwq);have Eq:=Ex.below (hbb.trans (hby.trans ((hbz.mono hby.size).trans (c4.mono (by omega))) |>.mono (by omega))) Ex.lt;push_cast -dsimp[f4,g4];refine storeAgg (xt:=28) (n:=2) (by kernel_rfl) Eq rfl (by decide) (by simp;exact⟨rfl,rfl⟩) ?_;intro w9 hw9;have E9:Blk w9 w1.heap.size 28 [.int .i64 7,.int .i64 e]:=hw9.blk;have dE:cellsAt w9 ⟨w1.heap.size,0,none⟩ 0 2=some [.int .i64 7,.int .i64 e]:=E9.cellsAt;have cw9:=cwq.trans (hw9.kept.below (B:=w.heap.size) cwq.size (fun i h=>by omega));push_cast -dsimp[dE];refine⟨?_,cw9⟩;have hall:rulesS nm f.rules=some e:=by
        rw[hsp,rulesS_app,ht,rulesS_app,hno];simp only[rulesS,ruleS,hp]
       unfold chkS;rw[hnm];dsimp only;rw[hall];rfl
     ·push_cast -dsimp[h31];refine indexArr (n:=2) (e:=58) (by kernel_rfl) ?_;refine runK_value (w':=wy) (v:=ptrP x2) (by kernel_rfl) ?_;push_cast -dsimp;refine callK_of (loo_c c.after (hok.2 c hcm).2 (by have:=(hpn c hcm).2;omega) nm hRN _ _ mb wy (hg.below bwy) (PatV.weak (PatV.below hx2 bwy) (fun b h=>h.1)) (hNV.below (b35.trans (hb5y.mono (by omega))))) ?_;rintro r wz ⟨hE,hbz⟩;have zz:=hbz.size;have bwz:=bwy.trans (hbz.mono bwy.size);unfold PatE at hE;cases hp:patS nm c.after with
      | none =>
       rw[hp]at hE;have hE:r=_:=hE;subst hE;push_cast -dsimp;refine allocK (z:=[.int .i64 0,.int .i64 0]) (by kernel_rfl) ?_;intro wp hwp;have zp:=hwp.size;push_cast -dsimp;refine storeAgg (xt:=28) (n:=2) (by kernel_rfl) hwp.blk rfl (by decide) (by simp;exact⟨rfl,rfl⟩) ?_;intro wq hwq;have Fq:Blk wq wz.heap.size 28 [.int .i64 0,.int .i64 (-1)]:=hwq.blk;have zq:=hwq.size;have c4:Below wz.heap.size wz wq:=hwp.below.trans (hwq.kept.below (B:=wz.heap.size) (by omega) (fun i h=>by omega));have cwq:=bwz.trans (c4.mono bwz.size);have f4:cellsAt wq ⟨wz.heap.size,0,none⟩ 0 2=some [.int .i64 0,.int .i64 (-1)]:=Fq.cellsAt;have g4:=fault_agg (hg.below cwq);push_cast -dsimp[f4,g4];exact⟨⟨2,rfl,by omega,⟨fun _=>hn1 (by omega),fun _=>hp⟩,hby.trans ((hbz.mono hby.size).trans (c4.mono (by omega)))⟩,by rw[h31];simp only[intOf];omega⟩
      | some e =>
       rw[hp]at hE;have hE:r=_:=hE;subst hE;push_cast -dsimp;refine allocK (z:=[.int .i64 0,.int .i64 0]) (by kernel_rfl) ?_;intro wp hwp;have zp:=hwp.size;push_cast -dsimp;refine storeAgg (xt:=28) (n:=2) (by kernel_rfl) hwp.blk rfl (by decide) (by simp;exact⟨rfl,rfl⟩) ?_;intro wq hwq;have Fq:Blk wq wz.heap.size 28 [.int .i64 7,.int .i64 e]:=hwq.blk;have zq:=hwq.size;have c4:Below wz.heap.size wz wq:=hwp.below.trans (hwq.kept.below (B:=wz.heap.size) (by omega) (fun i h=>by omega));have cwq:=bwz.trans (c4.mono bwz.size);have f4:cellsAt wq ⟨wz.heap.size,0,none⟩ 0 2=some [.int .i64 7,.int .i64 e]:=Fq.cellsAt;have g4:=fault_agg (hg.below cwq);have Eq:=Ex.below (hbb.trans (hby.trans ((hbz.mono hby.size).trans (c4.mono (by omega))) |>.mono (by omega))) Ex.lt;push_cast -dsimp[f4,g4];refine storeAgg (xt:=28) (n:=2) (by kernel_rfl) Eq rfl (by decide) (by simp;exact⟨rfl,rfl⟩) ?_;intro w9 hw9;have E9:Blk w9 w1.heap.size 28 [.int .i64 7,.int .i64 e]:=hw9.blk;have dE:cellsAt w9 ⟨w1.heap.size,0,none⟩ 0 2=some [.int .i64 7,.int .i64 e]:=E9.cellsAt;have cw9:=cwq.trans (hw9.kept.below (B:=w.heap.size) cwq.size (fun i h=>by omega));push_cast -dsimp[dE];refine⟨?_,cw9⟩;have hall:rulesS nm f.rules=some e:=by
        rw[hsp,rulesS_app,ht,rulesS_app,hno];simp only[rulesS,ruleS,hn1 (by omega),hp]
       unfold chkS;rw[hnm];dsimp only;rw[hall];rfl
     ·push_cast -dsimp[h31];have zb5:=hb5b.size;refine wpL_of ?_;push_cast -dsimp[h22];refine⟨⟨by omega,by omega⟩,⟨i+1,rfl,by omega,?_,hb5b.trans (hby.mono (by omega))⟩,by simp only[intOf];omega⟩;rw[ht,rulesS_app,hno];simp only[rulesS,ruleS,hn1 (by omega),hn2 (by omega)]
   ·have gx:=fault_agg (hg.below hbx);refine wpL_seqV ?_;push_cast -dsimp[gx];refine storeAgg (xt:=28) (n:=2) (by kernel_rfl) Ex rfl (by decide) (by simp;exact⟨rfl,rfl⟩) ?_;intro w7 hw7;have E7:Blk w7 w1.heap.size 28 [.int .i64 0,.int .i64 (-1)]:=hw7.blk;have dE:cellsAt w7 ⟨w1.heap.size,0,none⟩ 0 2=some [.int .i64 0,.int .i64 (-1)]:=E7.cellsAt;have cw7:=hbx.trans (hw7.kept.below (B:=w.heap.size) hbx.size (fun i h=>by omega));push_cast -dsimp[dE];refine wpL_of ?_;push_cast -dsimp[dE];refine⟨?_,cw7⟩;rw[List.take_of_length_le (by omega)]at hno;unfold chkS;rw[hnm];dsimp only;rw[hno];rfl
theorem Kept.rb {rb B:Nat}{w w':World}(hl:B≤w.heap.size)(hr:rb<B)(hb:Below w.heap.size w w'):Kept (·=rb) w w':=Kept.of_below hb (fun i h1 h2=>by omega)
section
variable {rb B:Nat} {w:World} {l:List Cae.Tok} {bad:Option (Nat×Nat)} (h:RS rb B w l bad)
include h
theorem rname_c:Rc 25 [.pointer (some ⟨rb,0,none⟩)] rb B w l bad nameP (fun _ r n=>r=str n) (fun r=>∃n,r=str n):=by
 obtain⟨t,r,rfl⟩:=h.cons;obtain⟨b,o,c,hB,hc,hne,c0,c1,c2,c3⟩:=h.hd;have cb:w.cell? ⟨rb,0,none⟩=some (.slice (some ⟨b,o,none⟩) (r.length+1) c):=hB.cell rfl;have hle:=h.le;have hlt:=h.lt;refine fun_of_vc Tryz.func25 rfl (by kernel_rfl) [2] rfl ?_;push_cast -dsimp(maxSteps:=4000000) [Tryz.ntmps25];push_cast -dsimp[cb,Nat.zero_mul,Nat.add_zero,c3];refine⟨by omega,?_⟩;refine allocK (z:=[.int .i64 0,str [],.int .i64 0]) (by kernel_rfl) ?_;intro w1 hw1;have z1:=hw1.size;have P1:=h.below hw1.below;push_cast -dsimp;refine storeAgg (xt:=71) (n:=3) (by kernel_rfl) hw1.blk rfl (by decide) (by simp;exact⟨rfl,rfl,rfl⟩) ?_;intro w2 hw2;have z2:=hw2.size;have B2:Blk w2 w.heap.size 71 [.int .i64 t.kind,str t.text,.int .i64 t.pos]:=hw2.blk;have P2:=P1.keptB hw2.kept (fun i hi=>by omega);have b2:=hw1.below.trans (hw2.kept.below (B:=w.heap.size) (by omega) (fun i h=>by omega));push_cast -dsimp;refine callK_of (risName_c P2) ?_;rintro _ w3 ⟨rfl,hb3⟩;have P3:=P2.below hb3;have B3:=B2.below hb3 (by omega);have k3:Kept (·=rb) w w3:=Kept.rb hle hlt (b2.trans (hb3.mono (by omega)));unfold RRes;cases hnm:namedP (t::r) with
 | false =>
  have heo:outP bad nameP (t::r)=.error (bad.getD (3,(Cae.hd (t::r)).pos)):=by
   cases bad with
   | none=>unfold outP nameP pif;rw[hnm];rfl
   | some e=>rfl
  push_cast -dsimp;refine callK_of (rfails_c P3 3 (by decide)) ?_;rintro _ w4 ⟨rfl,P4,k4⟩;have B4:=B3.kept k4 (by omega);have d4:w4.cell? ⟨w.heap.size,1,none⟩=some (str t.text):=B4.cell rfl;have k4':=k3.trans k4 (fun i _ h=>h);push_cast -dsimp[d4];refine⟨fun hl=>?_,fun hl=>?_⟩
  ·refine callK_of (rfails_c P4 4 (by decide)) ?_;rintro _ w5 ⟨rfl,P5,k5⟩;have B5:=B4.kept k5 (by omega);have k5':=k4'.trans k5 (fun i _ h=>h);push_cast -dsimp;refine callK_of (rok_c P5) ?_;rintro _ wo ⟨rfl,hbo⟩;have do1:wo.cell? ⟨w.heap.size,1,none⟩=some (str t.text):=(Blk.below B5 hbo (Blk.lt B5)).cell rfl;have Po:=(P5).below hbo;have ko2:Kept (·=rb) w wo:=Kept.trans k5' (Kept.rb (P5).le (P5).lt hbo) (fun i _ h=>h);push_cast -dsimp[do1];refine⟨ko2,?_⟩;rw[heo];exact⟨⟨_,rfl⟩,_,Po⟩
  ·
   refine callK_of (rok_c P4) ?_
   rintro _ wo ⟨rfl,hbo⟩
   have do1:wo.cell? ⟨w.heap.size,1,none⟩=some (str t.text):=(Blk.below B4 hbo (Blk.lt B4)).cell rfl
   have Po:=(P4).below hbo
   have ko2:Kept (·=rb) w wo:=Kept.trans k4' (Kept.rb (P4).le (P4).lt hbo) (fun i _ h=>h)
   push_cast -dsimp[do1]
   refine⟨ko2,?_⟩
   rw[heo]
   exact⟨⟨_,rfl⟩,_,Po⟩
 | true =>
  have d3:w3.cell? ⟨w.heap.size,1,none⟩=some (str t.text):=B3.cell rfl;push_cast -dsimp[d3];refine⟨fun hl=>?_,fun hl=>?_⟩
  ·have hlo:longP (t::r)=true:=decide_eq_true (show 10<t.text.length by omega)
   have heo:outP bad nameP (t::r)=.error (bad.getD (4,(Cae.hd (t::r)).pos)):=by
    cases bad with
    | none=>unfold outP nameP pif;rw[hnm,hlo];rfl
    | some e=>rfl
   refine callK_of (rfails_c P3 4 (by decide)) ?_;rintro _ w5 ⟨rfl,P5,k5⟩;have B5:=B3.kept k5 (by omega);have k5':=k3.trans k5 (fun i _ h=>h);push_cast -dsimp;refine callK_of (rok_c P5) ?_;rintro _ wo ⟨rfl,hbo⟩;have do1:wo.cell? ⟨w.heap.size,1,none⟩=some (str t.text):=(Blk.below B5 hbo (Blk.lt B5)).cell rfl;have Po:=(P5).below hbo;have ko2:Kept (·=rb) w wo:=Kept.trans k5' (Kept.rb (P5).le (P5).lt hbo) (fun i _ h=>h);push_cast -dsimp[do1];refine⟨ko2,?_⟩;rw[heo];exact⟨⟨_,rfl⟩,_,Po⟩
  ·have hlo:longP (t::r)=false:=decide_eq_false (show ¬10<t.text.length by omega)
   cases bad with
   | some e =>
    have heo:outP (some e) nameP (t::r)=.error e:=rfl;refine callK_of (rok_c P3) ?_;rintro _ wo ⟨rfl,hbo⟩;have do1:wo.cell? ⟨w.heap.size,1,none⟩=some (str t.text):=(Blk.below B3 hbo (Blk.lt B3)).cell rfl;have Po:=(P3).below hbo;have ko2:Kept (·=rb) w wo:=Kept.trans k3 (Kept.rb (P3).le (P3).lt hbo) (fun i _ h=>h);push_cast -dsimp[do1];refine⟨ko2,?_⟩;rw[heo];exact⟨⟨_,rfl⟩,_,Po⟩
   | none =>
    have h5:t.kind≠5:=by
     have hn:namedP (t::r)=(t.kind == 1 && !keptP t.text):=rfl;rw[hn]at hnm;simp at hnm;omega
    refine callK_of (rok_c P3) ?_;rintro _ w4 ⟨rfl,hb4⟩;have P4:=P3.below hb4;have B4:=B3.below hb4 (by have:=B3.lt;omega);obtain⟨b',o',c',hB4,hc4,_⟩:=P4.hd;have cb4:w4.cell? ⟨rb,0,none⟩=some (.slice (some ⟨b',o',none⟩) (r.length+1) c'):=hB4.cell rfl;push_cast -dsimp[cb4,slice1];refine⟨by omega,?_⟩;refine storeK_of hB4 (by simp) rfl ?_;intro w5 hw5;have P5:=P4.pop hB4 h5 hw5;have B5:=B4.kept hw5.kept (by omega);have d5:w5.cell? ⟨w.heap.size,1,none⟩=some (str t.text):=B5.cell rfl;have k5:=(k3.trans (Kept.rb P3.le P3.lt hb4) (fun i _ h=>h)).trans hw5.kept (fun i _ h=>h);push_cast -dsimp[d5];refine⟨k5,?_⟩;have heo:outP none nameP (t::r)=.ok (t.text,r):=by unfold outP;simp[nameP,pif,hnm,hlo,Cae.pb,peek,popP,pr,h5,Cae.hd]
    rw[heo];exact⟨rfl,P5⟩
theorem rnumber_c:Rc 85 [.pointer (some ⟨rb,0,none⟩)] rb B w l bad timesP (fun _ r n=>r=.int .i64 (n:Int)∧n≤12) (fun r=>r=.int .i64 0):=by
 obtain⟨t,r,rfl⟩:=h.cons;obtain⟨b,o,c,hB,hc,hne,c0,c1,c2,c3⟩:=h.hd;have cb:w.cell? ⟨rb,0,none⟩=some (.slice (some ⟨b,o,none⟩) (r.length+1) c):=hB.cell rfl;have hle:=h.le;have hlt:=h.lt;refine fun_of_vc Tryz.func85 rfl (by kernel_rfl) [2] rfl ?_;push_cast -dsimp(maxSteps:=4000000) [Tryz.ntmps85];push_cast -dsimp[cb,Nat.zero_mul,Nat.add_zero,c3];refine⟨by omega,?_⟩;refine allocK (z:=[.int .i64 0,str [],.int .i64 0]) (by kernel_rfl) ?_;intro w1 hw1;have z1:=hw1.size;have P1:=h.below hw1.below;push_cast -dsimp;refine storeAgg (xt:=71) (n:=3) (by kernel_rfl) hw1.blk rfl (by decide) (by simp;exact⟨rfl,rfl,rfl⟩) ?_;intro w2 hw2;have z2:=hw2.size;have B2:Blk w2 w.heap.size 71 [.int .i64 t.kind,str t.text,.int .i64 t.pos]:=hw2.blk;have P2:=P1.keptB hw2.kept (fun i hi=>by omega);have b2:=hw1.below.trans (hw2.kept.below (B:=w.heap.size) (by omega) (fun i h=>by omega));have k2:Kept (·=rb) w w2:=Kept.rb hle hlt b2;push_cast -dsimp;refine callK_of (rok_c P2) ?_;rintro _ w3 ⟨rfl,hb3⟩;have P3:=P2.below hb3;have B3:=B2.below hb3 (by omega);have k3:=k2.trans (Kept.rb P2.le P2.lt hb3) (fun i _ h=>h);have d0:w3.cell? ⟨w.heap.size,0,none⟩=some (.int .i64 t.kind):=B3.cell rfl;have d1:w3.cell? ⟨w.heap.size,1,none⟩=some (str t.text):=B3.cell rfl;unfold RRes;cases bad with
 | some e =>
  push_cast -dsimp;refine callK_of (rfails_c P3 3 (by decide)) ?_;rintro _ w4 ⟨rfl,P4,k4⟩;push_cast -dsimp;exact⟨k3.trans k4 (fun i _ h=>h),_,P4⟩
 | none =>
  push_cast -dsimp[d0];refine⟨fun hk=>?_,fun hk=>?_⟩
  ·have hk2:isKind 2 (t::r)=false:=by
    have:t.kind≠2:=fun e=>hk (by omega);simp[isKind,Cae.hd,this]
   have heo:outP none timesP (t::r)=.error (3,(Cae.hd (t::r)).pos):=by unfold outP timesP pif;rw[hk2];rfl
   refine callK_of (rfails_c P3 3 (by decide)) ?_;rintro _ w4 ⟨rfl,P4,k4⟩;push_cast -dsimp;rw[heo];exact⟨k3.trans k4 (fun i _ h=>h),_,P4⟩
  ·have hkk:t.kind=2:=by omega
   have hk2:isKind 2 (t::r)=true:=by simp[isKind,Cae.hd,hkk]
   have hnum:=h.tl.num t (by simp) hkk;have hlong:12<decV t.text→outP none timesP (t::r)=.error (4,(Cae.hd (t::r)).pos):=fun h12=>by
    unfold outP timesP pif;rw[hk2];simp[Cae.pb,peek,Cae.hd,h12,pfail]
   push_cast -dsimp[d1];refine callK_of (atoi_c t.text (h.tl.txt t (by simp)) hnum.1 hnum.2 w3 P3.gr.e) ?_;rintro rv w4 ⟨hr,hb4⟩;have P4:=P3.below hb4;have k4:=k3.trans (Kept.rb P3.le P3.lt hb4) (fun i _ h=>h);rcases hr with rfl|⟨h12,v,t',p,rfl⟩
   ·push_cast -dsimp;refine⟨fun hh=>?_,fun hh=>?_⟩
    ·have heo:=hlong (by omega);refine callK_of (rfails_c P4 4 (by decide)) ?_;rintro _ w5 ⟨rfl,P5,k5⟩;push_cast -dsimp;rw[heo];exact⟨k4.trans k5 (fun i _ h=>h),_,P5⟩
    ·have h5:t.kind≠5:=by omega
     obtain⟨b',o',c',hB4,hc4,_⟩:=P4.hd;have cb4:w4.cell? ⟨rb,0,none⟩=some (.slice (some ⟨b',o',none⟩) (r.length+1) c'):=hB4.cell rfl;push_cast -dsimp[cb4,slice1];refine⟨by omega,?_⟩;refine storeK_of hB4 (by simp) rfl ?_;intro w5 hw5;have P5:=P4.pop hB4 h5 hw5;have h12:¬12<decV t.text:=by omega
     have heo:outP none timesP (t::r)=.ok (decV t.text,r):=by unfold outP timesP pif;rw[hk2];simp[Cae.pb,peek,Cae.hd,h12,popP,h5,pr]
     push_cast -dsimp;rw[heo];exact⟨k4.trans hw5.kept (fun i _ h=>h),⟨rfl,by omega⟩,P5⟩
   ·have heo:=hlong h12;push_cast -dsimp;refine callK_of (rfails_c P4 4 (by decide)) ?_;rintro _ w5 ⟨rfl,P5,k5⟩;push_cast -dsimp;rw[heo];exact⟨k4.trans k5 (fun i _ h=>h),_,P5⟩
end
end Go.Proofs.YtodeeahdhnjpkaaGreatDoor
end
section
namespace Cae
def binCode (s:List UInt8):Nat:=if s=[124] then 3 else if s=[38] then 4 else if s=[45] then 5 else 0
theorem binCode_none {t:Cae.Tok}{r:List Cae.Tok}(h:binCode t.text=0):binP (t::r)=.ok (0,t::r):=by
 have h1:t.text≠[124]:=fun e=>by rw[e]at h;cases h
 have h2:t.text≠[38]:=fun e=>by rw[e]at h;cases h
 have h3:t.text≠[45]:=fun e=>by rw[e]at h;cases h
 simp[binP,pif,seeP,Cae.hd,h1,h2,h3,pr]
theorem binCode_some {t:Cae.Tok}{r:List Cae.Tok}(h:binCode t.text≠0)(h4:t.kind=4):binP (t::r)=.ok (binCode t.text,r)∧seeP t.text (t::r)=true:=by
 have h5:t.kind≠5:=by omega
 refine⟨?_,by simp[seeP,Cae.hd,h5]⟩;unfold binCode at h ⊢
 by_cases h1:t.text=[124]
 ·rw[if_pos h1];simp[binP,pif,seeP,Cae.hd,h1,h5,pr,Cae.pb,popP]
 ·rw[if_neg h1]at h ⊢
  by_cases h2:t.text=[38]
  ·rw[if_pos h2];simp[binP,pif,seeP,Cae.hd,h2,h5,pr,Cae.pb,popP]
  ·rw[if_neg h2]at h ⊢
   by_cases h3:t.text=[45]
   ·rw[if_pos h3];simp[binP,pif,seeP,Cae.hd,h3,h5,pr,Cae.pb,popP]
   ·rw[if_neg h3]at h;exact absurd rfl h
theorem binCode_mark {s:List UInt8}(h:binCode s≠0)(hn:noMark s):False:=by
 unfold binCode at h;obtain⟨h1,h2,h3⟩:=hn;rw[if_neg h1,if_neg h2,if_neg h3]at h;exact h rfl
end Cae
namespace Go.Proofs.YtodeeahdhnjpkaaGreatDoor
open Go.Vc Go.Proofs Go.RowKit Cae
attribute [local irreducible] wpL callK valK unitK runK Fun Sl Vc.Own vc vcOps opK pureK
def binL:List (List UInt8×Value):=[([124],.int .i64 3),([38],.int .i64 4),([45],.int .i64 5)]
theorem binL_get (s:List UInt8):(assocG s binL).getD (.int .i64 0)=.int .i64 (binCode s:Nat):=by
 unfold binCode;by_cases h1:s=[124]
 ·subst h1;rfl
 ·by_cases h2:s=[38]
  ·subst h2;rfl
  ·by_cases h3:s=[45]
   ·subst h3;rfl
   ·rw[if_neg h1,if_neg h2,if_neg h3];simp[binL,assocG,h1,h2,h3]
def muR (rb:Nat)(w:World):Nat:=match w.cell? ⟨rb,1,none⟩ with
 | some (.int _ 0)=>lenAt w rb+1
 | _=>0
theorem RS.mu {rb B:Nat}{w:World}{l:List Cae.Tok}(h:RS rb B w l none):muR rb w=l.length+1:=by
 obtain⟨v,h1,h2⟩:=h.st;obtain⟨a,c,rfl,_⟩:=h2.shape;unfold muR lenAt;rw[h1.cell (o:=0) rfl,h1.cell (o:=1) rfl];rfl
theorem RS.mu0 {rb B:Nat}{w:World}{l:List Cae.Tok}{e:Nat×Nat}(h:RS rb B w l (some e)):muR rb w=0:=by
 obtain⟨v,h1,h2⟩:=h.st;have hne:=h.ne e rfl;unfold muR;rw[h1.cell (o:=1) (show (v::badV (some e))[1]?=some (.int .i64 (e.1:Int)) from rfl)]
 obtain⟨c,p⟩:=e;cases c with
 | zero=>exact absurd rfl hne
 | succ c=>rfl
def KoneR (d:Nat):Prop:=∀(n:Int),0≤n→n+(d:Int)=9→∀(rb B:Nat) (w:World) (l:List Cae.Tok) (bad:Option (Nat×Nat)),RS rb B w l bad→Rc 51 [.pointer (some ⟨rb,0,none⟩),.int .i64 n] rb B w l bad (oneP d) (fun w' r k=>KindV (·<w.heap.size) w' r k) (fun r=>∃a,r=.pointer a)
def KindR (d:Nat):Prop:=∀(n:Int),0≤n→n+(d:Int)=9→∀(rb B:Nat) (w:World) (l:List Cae.Tok) (bad:Option (Nat×Nat)),RS rb B w l bad→Rc 27 [.pointer (some ⟨rb,0,none⟩),.int .i64 n] rb B w l bad (kindP d) (fun w' r k=>KindV (·<w.heap.size) w' r k) (fun r=>∃a,r=.pointer a)
theorem kind_ofR (d:Nat)(hone:KoneR d):KindR d:=by
 intro n hn0 hn rb B w l0 bad h0;obtain⟨t,r,hl0⟩:=h0.cons;have hhd:Cae.hd l0=t:=by rw[hl0];rfl
 have h0':=h0;rw[hl0]at h0';obtain⟨b,o,c,hB,hc,hne,c0,c1,c2,c3⟩:=h0'.hd;have cb:w.cell? ⟨rb,0,none⟩=some (.slice (some ⟨b,o,none⟩) (r.length+1) c):=hB.cell rfl;have hle:=h0.le;have hlt:=h0.lt;refine fun_of_vc Tryz.func27 rfl (by kernel_rfl) [4] rfl ?_;push_cast -dsimp(maxSteps:=4000000) [Tryz.ntmps27];push_cast -dsimp[cb,c2];refine⟨by omega,?_⟩;refine callK_of (hone n hn0 hn rb B w l0 bad h0) ?_;rintro v1 w1 ⟨k1,hO⟩;have hinv:(∃(m:Nat) (kk:KindP) (l1:List Cae.Tok),kindLoop (oneP d) t.pos m kk l1=outP bad (kindP d) l0∧l1.length<m∧KindV (·<w.heap.size) w1 v1 kk∧RS rb B w1 l1 none)∨(∃(e:Nat×Nat) (l1:List Cae.Tok) (a:Option Addr),outP bad (kindP d) l0=.error e∧v1=.pointer a∧RS rb B w1 l1 (some e)):=by
  cases ho:outP bad (oneP d) l0 with
  | ok q =>
   obtain⟨kk,l1⟩:=q;rw[ho]at hO;obtain⟨hV,hR⟩:=hO;cases bad with
   | some e=>cases ho
   | none =>
    refine .inl ⟨1000,kk,l1,?_,by have:=hR.tl.len;omega,hV,hR⟩;have ho':oneP d l0=.ok (kk,l1):=ho
    show _=kindP d l0
    unfold kindP kindW;rw[pb_of (p:=peek) (x:=Cae.hd l0) (l1:=l0) rfl,pb_of ho',hhd]
  | error e =>
   rw[ho]at hO;obtain⟨⟨a,hJ⟩,l1,hR⟩:=hO;refine .inr ⟨e,l1,a,?_,hJ,hR⟩;cases bad with
   | some e'=>exact ho
   | none =>
    have ho':oneP d l0=.error e:=ho
    show kindP d l0=_
    unfold kindP kindW;rw[pb_of (p:=peek) (x:=Cae.hd l0) (l1:=l0) rfl];unfold Cae.pb;rw[ho']
 have hptr:∃a,v1=.pointer a:=by
  rcases hinv with ⟨_,_,_,_,_,hV,_⟩|⟨_,_,a,_,e,_⟩
  ·obtain⟨kb,e,_⟩:=hV.ptr;exact⟨_,e⟩
  ·exact⟨a,e⟩
 obtain⟨a1,ha1⟩:=hptr;subst ha1;have hgo:∃out,outP bad (kindP d) l0=out:=⟨_,rfl⟩;obtain⟨out,hout⟩:=hgo;unfold RRes;rw[hout]at hinv ⊢
 push_cast -dsimp;refine wpL_loop [6,7,8,19,20,21,22,23,24,25,26,27,28,29,30,31,32,33,34,35,36,37,38,39,40,41,42,43,44,45,46,47,48,49,50,51,52,53,54] (fun z w'=>∃a:Option Addr,z 6=.pointer a∧Kept (·=rb) w w'∧((∃(m:Nat) (kk:KindP) (l1:List Cae.Tok),kindLoop (oneP d) t.pos m kk l1=out∧l1.length<m∧KindV (·<w.heap.size) w' (.pointer a) kk∧RS rb B w' l1 none)∨(∃(e:Nat×Nat) (l1:List Cae.Tok),out=.error e∧RS rb B w' l1 (some e)))) (fun z w'=>muR rb w') ?_ ?_
 ·refine⟨a1,rfl,k1,?_⟩;rcases hinv with h|⟨e,l1,a,h1,_,h3⟩
  ·exact .inl h
  ·exact .inr ⟨e,l1,h1,h3⟩
 ·rintro z w' ⟨a,hz6,hkw,hcase⟩;rcases hcase with ⟨m,kk,l1,hm2,hm,V1,P1⟩|⟨e,l1,hoe,P1⟩
  ·have hmu:=P1.mu;obtain⟨t1,r1,hl1⟩:=P1.cons;push_cast -dsimp[hz6];refine callK_of (rok_c P1) ?_;rintro _ w2 ⟨rfl,hb2⟩;have P2:=P1.below hb2;rw[hl1]at P2;obtain⟨b',o',c',hB2,hc2,hne2,d0,d1,d2,d3⟩:=P2.hd;have cb2:w2.cell? ⟨rb,0,none⟩=some (.slice (some ⟨b',o',none⟩) (r1.length+1) c'):=hB2.cell rfl;have kw2:=hkw.trans (Kept.rb P1.le P1.lt hb2) (fun i _ h=>h);push_cast -dsimp[hz6,cb2,d1];refine⟨by omega,?_⟩;refine makeMapG (key:=fun l:List UInt8=>str l) ?_;intro w3 m3 b3 z3;push_cast -dsimp;refine updateG_new (kt:=9) (et:=3) (k:=[124]) (by kernel_rfl) (keyStr (by kernel_rfl)) m3 rfl rfl ?_;intro w4 m4 k4 z4;push_cast -dsimp;refine updateG_new (kt:=9) (et:=3) (k:=[38]) (by kernel_rfl) (keyStr (by kernel_rfl)) m4 rfl (by decide) ?_;intro w5 m5 k5 z5;push_cast -dsimp;refine updateG_new (kt:=9) (et:=3) (k:=[45]) (by kernel_rfl) (keyStr (by kernel_rfl)) m5 rfl (by decide) ?_;intro w6 m6 k6 z6;have m7:MapG (fun l:List UInt8=>str l) w6 w2.heap.size binL:=m6;have hb6:Below w2.heap.size w2 w6:=b3.trans (((k4.trans k5 (fun _ _ h=>h)).trans k6 (fun _ _ h=>h)).below (by omega) (fun i h=>by omega));have P6:=P2.below hb6;have kw6:=kw2.trans (Kept.rb P2.le P2.lt hb6) (fun i _ h=>h);obtain⟨b6,o6,c6,hB6,hc6,hne6,e0,e1,e2,e3⟩:=P6.hd;have cb6:w6.cell? ⟨rb,0,none⟩=some (.slice (some ⟨b6,o6,none⟩) (r1.length+1) c6):=hB6.cell rfl;push_cast -dsimp;refine lookupG (kt:=9) (et:=3) (z:=.int .i64 0) (c:=false) (k:=t1.text) (by kernel_rfl) (keyStr (by kernel_rfl)) (by kernel_rfl) m7 ?_
   rw[if_neg (by decide),binL_get];obtain⟨m',rfl⟩:∃m',m=m'+1:=⟨m-1,by omega⟩;by_cases hb0:binCode t1.text=0
   ·have i0:((binCode t1.text:Nat):Int)=0:=by omega
    have hbin:=binCode_none (r:=r1) hb0;rw[←hl1]at hbin;have hend:out=.ok (kk,l1):=by
     rw[←hm2,kindLoop,pb_of hbin,if_pos rfl];rfl
    rw[hend];push_cast -dsimp[i0,hz6];rw[←hl1]at P6;exact⟨kw6,(V1.mono (Kept.rb P1.le P1.lt hb2) (fun i h=>by have:=h0.lt;omega) (fun _ h=>h)).mono (Kept.rb P2.le P2.lt hb6) (fun i h=>by have:=h0.lt;omega) (fun _ h=>h),P6⟩
   ·have i0:¬((binCode t1.text:Nat):Int)=0:=by omega
    have h4:t1.kind=4:=Classical.byContradiction fun hk=>binCode_mark hb0 (P6.tm t1 (by simp) hk);have i4:((t1.kind:Nat):Int)=4:=by omega
    have hbs:=binCode_some (r:=r1) hb0 h4;obtain⟨hbin,hsee⟩:=hbs;rw[←hl1]at hbin;push_cast -dsimp[i0,cb6,e0,i4];refine⟨by omega,?_⟩;refine callK_of (rmust_c P6 t1.text) ?_;rintro _ w7 ⟨k7,hM⟩;have hmo:outP none (mustP t1.text) (t1::r1)=.ok ((),r1):=by unfold outP mustP pif;rw[hsee];exact popP_cons (by omega)
    rw[hmo]at hM;obtain⟨rfl,P7⟩:=hM;have kw7:=kw6.trans k7 (fun i _ h=>h);push_cast -dsimp;refine callK_of (hone n hn0 hn rb B w7 r1 none P7) ?_;rintro v8 w8 ⟨k8,hO8⟩;have kw8:=kw7.trans k8 (fun i _ h=>h);have hV8:KindV (·<w.heap.size) w8 (.pointer a) kk:=V1.mono (((Kept.rb P1.le P1.lt hb2).trans (Kept.rb P2.le P2.lt hb6) (fun i _ h=>h)).trans (k7.trans k8 (fun i _ h=>h)) (fun i _ h=>h)) (fun i h=>by omega) (fun _ h=>h);have h8:∃u,v8=.pointer u:=by
     cases ho:outP none (oneP d) r1 with
     | ok q =>
      rw[ho]at hO8;obtain⟨ub,e,_⟩:=hO8.1.ptr;exact⟨_,e⟩
     | error e =>
      rw[ho]at hO8;exact hO8.1
    obtain⟨u,rfl⟩:=h8;have hwz:=kw8.size;have hwz7:=kw7.size;have z8:=k8.size;push_cast -dsimp[hz6];refine boxK_of ?_;intro w9 hw9;have B9:Blk w9 w8.heap.size 126 [.int .i64 (binCode t1.text:Nat),.int .i64 t.pos,.slice none 0 0,str [],.pointer a,.pointer u]:=hw9.blk;have b9:=hw9.below;have kw9:=kw8.trans (Kept.of_below b9 (X:=(·=rb)) (fun i h1 h2=>by omega)) (fun i _ h=>h);cases ho:outP none (oneP d) r1 with
    | ok q =>
     obtain⟨k2,l2⟩:=q;rw[ho]at hO8;obtain⟨V8,P8⟩:=hO8;have P9:=P8.below b9;have hmu9:=P9.mu;have hl2:l2.length≤r1.length:=by
      obtain⟨pre,_,e,_⟩:=lo_one d _ _ _ (show oneP d r1=.ok (k2,l2) from ho)
      rw[e,List.length_append];omega
     have hll:l1.length=r1.length+1:=by rw[hl1,List.length_cons]
     push_cast -dsimp;refine⟨⟨_,rfl,kw9,.inl ⟨m',.bin (binCode t1.text) t.pos kk k2,l2,?_,by omega,?_,P9⟩⟩,by rw[hmu,hmu9];omega⟩
     ·rw[←hm2,kindLoop,pb_of hbin,if_neg hb0,pb_of (show oneP d r1=.ok (k2,l2) from ho)]
     ·exact⟨w8.heap.size,_,_,rfl,by omega,B9,hV8.below b9,(V8.mono (X:=(·<w7.heap.size)) (Kept.refl (fun _=>False) w8) (fun _ h=>h.elim) (fun i h=>by omega)).below b9⟩
    | error e =>
     rw[ho]at hO8;obtain⟨_,l2,P8⟩:=hO8;have P9:=P8.below b9;have hmu9:=P9.mu0;push_cast -dsimp;refine⟨⟨_,rfl,kw9,.inr ⟨e,l2,?_,P9⟩⟩,by rw[hmu,hmu9];omega⟩;rw[←hm2,kindLoop,pb_of hbin,if_neg hb0];unfold Cae.pb;rw[show oneP d r1=.error e from ho]
  ·push_cast -dsimp[hz6];refine callK_of (rok_c P1) ?_;rintro _ w2 ⟨rfl,hb2⟩;have P2:=P1.below hb2;have kw2:=hkw.trans (Kept.rb P1.le P1.lt hb2) (fun i _ h=>h);push_cast -dsimp[hz6];rw[hoe];exact⟨kw2,⟨_,rfl⟩,_,P2⟩
end Go.Proofs.YtodeeahdhnjpkaaGreatDoor
end
section
namespace Go.Proofs.YtodeeahdhnjpkaaGreatDoor
open Go.Vc Go.Proofs Go.RowKit Cae
attribute [local irreducible] wpL callK valK unitK runK Fun Sl Vc.Own vc vcOps opK pureK
theorem kone_zero:KoneR 0:=by
 intro n hn0 hn rb B w l bad h;have heo:outP bad (oneP 0) l=.error (bad.getD (4,(Cae.hd l).pos)):=by cases bad<;>rfl
 refine fun_of_vc Tryz.func51 rfl (by kernel_rfl) [4] rfl ?_;push_cast -dsimp(maxSteps:=4000000) [Tryz.ntmps51];refine⟨fun h8=>?_,fun h8=>by omega⟩;refine callK_of (rfails_c h 4 (by decide)) ?_;rintro _ w1 ⟨rfl,P1,k1⟩;push_cast -dsimp;refine callK_of (rok_c P1) ?_;rintro _ w2 ⟨rfl,hb2⟩;unfold RRes;rw[heo];push_cast -dsimp;exact⟨k1.trans (Kept.rb P1.le P1.lt hb2) (fun i _ h=>h),⟨_,rfl⟩,_,P1.below hb2⟩
theorem kone_succ (d:Nat)(ih:KoneR d):KoneR (d+1):=by
 have ihk:=kind_ofR d ih;intro n hn0 hn rb B w l0 bad h0;have hle:=h0.le;have hlt:=h0.lt;refine fun_of_vc Tryz.func51 rfl (by kernel_rfl) [4] rfl ?_;push_cast -dsimp(maxSteps:=4000000) [Tryz.ntmps51];refine⟨fun h8=>by omega,fun h8=>?_⟩;refine callK_of (rok_c h0) ?_;rintro _ w1 ⟨rfl,hb1⟩;have P1:=h0.below hb1;have k1:Kept (·=rb) w w1:=Kept.rb hle hlt hb1;have z1:=hb1.size;unfold RRes;cases bad with
 | some e =>
  push_cast -dsimp;exact⟨k1,⟨_,rfl⟩,_,P1⟩
 | none =>
  obtain⟨t,r,hl0⟩:=h0.cons;have hhd:Cae.hd l0=t:=by rw[hl0];rfl
  have hunf:oneP (d+1) l0=pif (isKind 3) litP (pif (seeP [126]) (Cae.pb peek fun t=>Cae.pb popP fun _=>Cae.pb (oneP d) fun k=>pr (.not t.pos k))
   (pif (seeP [40]) (Cae.pb popP fun _=>Cae.pb (kindW (oneP d)) fun k=>Cae.pb (mustP [41]) fun _=>pr k)
    (Cae.pb peek fun t=>Cae.pb nameP fun n=>pr (.ref t.pos n)))) l0:=rfl
  have hpk:∀{β:Type} (q:Cae.Tok→Pa β),Cae.pb peek q l0=q t l0:=fun q=>by rw[pb_of (p:=peek) (x:=Cae.hd l0) (l1:=l0) rfl,hhd]
  have P1':=P1;rw[hl0]at P1';obtain⟨b,o,c,hB,hc,hne,c0,c1,c2,c3⟩:=P1'.hd;have cb:w1.cell? ⟨rb,0,none⟩=some (.slice (some ⟨b,o,none⟩) (r.length+1) c):=hB.cell rfl;push_cast -dsimp[cb,Nat.zero_mul,Nat.add_zero,c3];refine⟨by omega,?_⟩;refine allocK (z:=[.int .i64 0,str [],.int .i64 0]) (by kernel_rfl) ?_;intro w2 hw2;have z2:=hw2.size;push_cast -dsimp;refine storeAgg (xt:=71) (n:=3) (by kernel_rfl) hw2.blk rfl (by decide) (by simp;exact⟨rfl,rfl,rfl⟩) ?_;intro w3 hw3;have z3:=hw3.size;have B3:Blk w3 w1.heap.size 71 [.int .i64 t.kind,str t.text,.int .i64 t.pos]:=hw3.blk;have b13:Below w1.heap.size w1 w3:=hw2.below.trans (hw3.kept.below (by omega) (fun i h=>by omega));have P3:=P1.below b13;have P3':=P1'.below b13;have k3:=k1.trans (Kept.rb P1.le P1.lt b13) (fun i _ h=>h);have e0:w3.cell? ⟨w1.heap.size,0,none⟩=some (.int .i64 t.kind):=B3.cell rfl;have e1:w3.cell? ⟨w1.heap.size,1,none⟩=some (str t.text):=B3.cell rfl;have hrw:rb<w1.heap.size:=by omega
  have hout:outP none (oneP (d+1)) l0=oneP (d+1) l0:=rfl;rw[hout];push_cast -dsimp[e0];refine⟨fun h3=>?_,fun h3=>?_⟩
  ·have hk3:isKind 3 l0=true:=by
    have:t.kind=3:=by omega
    simp[isKind,hhd,this]
   have h5:t.kind≠5:=by omega
   push_cast -dsimp[e1];refine callK_of (parseSetR_c t.text (P3'.tl.txt t (by simp)) w3 P3.gr.d P3.gr.e P3.gr.t) ?_;rintro rv w4 ⟨hR,b4⟩;have z4:=b4.size;have P4:=P3.below b4;have P4':=P3'.below b4;have B4:=B3.below b4 (by omega);have k4:=k3.trans (Kept.rb P3.le P3.lt b4) (fun i _ h=>h);unfold ParseRR at hR;rcases hR with ⟨v,s,rfl,ho,hpr⟩|⟨rfl,hno⟩
   ·have hset:=setP_of hpr;have hs0:=ho.sl;have ha0:Arg v:=ho.nilArg;have hsh:=hs0.shape;obtain⟨va,vc,rfl,_⟩:=hsh;have hex:oneP (d+1) l0=.ok (.lit t.pos s,r):=by
     rw[hunf];unfold pif;rw[hk3,if_pos rfl];unfold litP;rw[hpk,hset,hl0];simp[Cae.pb,popP,h5,pr]
    rw[hex];obtain⟨b5,o5,c5,hB5,hc5,_⟩:=P4'.hd;have cb5:w4.cell? ⟨rb,0,none⟩=some (.slice (some ⟨b5,o5,none⟩) (r.length+1) c5):=hB5.cell rfl;push_cast -dsimp[cb5,slice1];refine⟨by omega,?_⟩;refine storeK_of hB5 (by simp) rfl ?_;intro w5 hw5;have P5:=P4'.pop hB5 h5 hw5;have z5:w5.heap.size=w4.heap.size:=hw5.size;have B5:=B4.kept hw5.kept (by omega);have e5:w5.cell? ⟨w1.heap.size,2,none⟩=some (.int .i64 t.pos):=B5.cell rfl;have k5:=k4.trans hw5.kept (fun i _ h=>h);push_cast -dsimp[e5];refine boxK_of ?_;intro w6 hw6;have B6:Blk w6 w5.heap.size 126 [.int .i64 1,.int .i64 t.pos,.slice va s.length vc,str [],.pointer none,.pointer none]:=hw6.blk;have s6:Sl (·<w.heap.size) 2 (En encR) w6 (.slice va s.length vc) s:=((hs0.kept hw5.kept (fun i h=>by omega)).below hw6.below).weaken (fun i h=>by omega);push_cast -dsimp;exact⟨k5.trans (Kept.of_below hw6.below (X:=(·=rb)) (fun i h1 h2=>by omega)) (fun i _ h=>h),⟨_,_,rfl,by omega,B6,s6,ha0⟩,P5.below hw6.below⟩
   ·have hset:=setP_no hno;have hex:oneP (d+1) l0=.error (3,(Cae.hd l0).pos):=by
     rw[hunf];unfold pif;rw[hk3,if_pos rfl];unfold litP;rw[hpk,hset];rfl
    rw[hex];push_cast -dsimp;refine callK_of (rfails_c P4 3 (by decide)) ?_;rintro _ w5 ⟨rfl,P5,k5⟩;push_cast -dsimp;exact⟨k4.trans k5 (fun i _ h=>h),⟨_,rfl⟩,_,P5⟩
  ·have hk3:isKind 3 l0=false:=by
    have:t.kind≠3:=fun e=>h3 (by omega);simp[isKind,hhd,this]
   refine callK_of (rtake_c P3 [126]) ?_;rintro _ w4 hT;rcases hT with ⟨_,hs1,rfl,t1,r1,el1,h51,P4,kt⟩|⟨hs1,rfl,P4,b4⟩
   ·obtain⟨rfl,rfl⟩:t=t1∧r=r1:=by rw[hl0]at el1;exact List.cons.inj el1
    have hpop:popP l0=.ok ((),r):=by rw[hl0];exact popP_cons h51
    have hred:oneP (d+1) l0=Cae.pb (oneP d) (fun k=>pr (.not t.pos k)) r:=by
     rw[hunf];unfold pif;rw[hk3,hs1,if_neg (by decide),if_pos rfl,hpk,pb_of hpop]
    rw[hred];have B4:=B3.kept kt (by omega);have k4:=k3.trans kt (fun i _ h=>h);have z4:=kt.size;push_cast -dsimp;have ga:∀w'':World,Blk w'' w1.heap.size 71 [.int .i64 t.kind,str t.text,.int .i64 t.pos]→w''.cell? ⟨w1.heap.size,2,none⟩=some (.int .i64 t.pos):=fun w'' h=>h.cell rfl;refine wpL_draw (fun w'=>Blk w' w1.heap.size 71 [.int .i64 t.kind,str t.text,.int .i64 t.pos]) mixed (by kernel_rfl) B4.drew ?_;have ea:=ga _ B4.drew;push_cast -dsimp[ea];refine⟨fun w'' h=>by rw[ga w'' h];exact rfl,by omega,?_⟩;have P4d:=P4.below (below_drewR w4);have zd:w4.drew.heap.size=w4.heap.size:=rfl;have k4d:=k4.trans (Kept.rb P4.le P4.lt (below_drewR w4)) (fun i _ h=>h);refine callK_of (ih (n+1) (by omega) (by omega) rb B w4.drew r none P4d) ?_;rintro v5 w5 ⟨k5,hO5⟩;have z5:=k5.size;have B5:=B4.drew.kept k5 (by omega);refine⟨B5,?_⟩;have k5':=k4d.trans k5 (fun i _ h=>h);rw[show outP none (oneP d) r=oneP d r from rfl]at hO5
    cases ho:oneP d r with
    | ok q =>
     obtain⟨kk,l2⟩:=q;rw[ho]at hO5;obtain⟨V5,P5⟩:=hO5;have hp:=V5.ptr;obtain⟨ub,rfl,hub⟩:=hp;rw[pb_of ho];push_cast -dsimp;refine boxK_of ?_;intro w6 hw6;have B6:Blk w6 w5.heap.size 126 [.int .i64 6,.int .i64 t.pos,.slice none 0 0,str [],.pointer (some ⟨ub,0,none⟩),.pointer none]:=hw6.blk;refine⟨B5.below hw6.below (by omega),?_⟩;push_cast -dsimp;exact⟨k5'.trans (Kept.of_below hw6.below (X:=(·=rb)) (fun i h1 h2=>by omega)) (fun i _ h=>h),⟨_,_,rfl,by omega,B6,(V5.mono (X:=(·<w4.drew.heap.size)) (Kept.refl (fun _=>False) w5) (fun _ h=>h.elim) (fun i h=>by omega)).below hw6.below⟩,P5.below hw6.below⟩
    | error e =>
     rw[ho]at hO5;obtain⟨⟨u,rfl⟩,l2,P5⟩:=hO5;have heo:Cae.pb (oneP d) (fun k=>pr (KindP.not t.pos k)) r=.error e:=by unfold Cae.pb;rw[ho]
     rw[heo];push_cast -dsimp;refine boxK_of ?_;intro w6 hw6;refine⟨B5.below hw6.below (by omega),?_⟩;push_cast -dsimp;exact⟨k5'.trans (Kept.of_below hw6.below (X:=(·=rb)) (fun i h1 h2=>by omega)) (fun i _ h=>h),⟨_,rfl⟩,_,P5.below hw6.below⟩
   ·have k4:=k3.trans (Kept.rb P3.le P3.lt b4) (fun i _ h=>h);have B4:=B3.below b4 (by omega);have z4:=b4.size;push_cast -dsimp;refine callK_of (rtake_c P4 [40]) ?_;rintro _ w5 hT;rcases hT with ⟨_,hs2,rfl,t1,r1,el1,h51,P5,kt⟩|⟨hs2,rfl,P5,b5⟩
    ·obtain⟨rfl,rfl⟩:t=t1∧r=r1:=by rw[hl0]at el1;exact List.cons.inj el1
     have hpop:popP l0=.ok ((),r):=by rw[hl0];exact popP_cons h51
     have hred:oneP (d+1) l0=Cae.pb (kindW (oneP d)) (fun k=>Cae.pb (mustP [41]) fun _=>pr k) r:=by
      rw[hunf];unfold pif;rw[hk3,show seeP [126] l0=false from hs1,hs2,if_neg (by decide),if_neg (by decide),if_pos rfl,pb_of hpop]
     rw[hred];have k5:=k4.trans kt (fun i _ h=>h);have z5:=kt.size;push_cast -dsimp;refine⟨by omega,?_⟩;refine callK_of (ihk (n+1) (by omega) (by omega) rb B w5 r none P5) ?_;rintro v6 w6 ⟨k6,hO6⟩;have k6':=k5.trans k6 (fun i _ h=>h);rw[show outP none (kindP d) r=kindW (oneP d) r from rfl]at hO6
     cases ho:kindW (oneP d) r with
     | ok q =>
      obtain⟨kk,l2⟩:=q;rw[ho]at hO6;obtain⟨V6,P6⟩:=hO6;have hp:=V6.ptr;obtain⟨ub,rfl,hub⟩:=hp;rw[pb_of ho];push_cast -dsimp;refine callK_of (rmust_c P6 [41]) ?_;rintro _ w7 ⟨k7,hM⟩;have k7':=k6'.trans k7 (fun i _ h=>h);rw[show outP none (mustP [41]) l2=mustP [41] l2 from rfl]at hM
      cases hm:mustP [41] l2 with
      | ok q =>
       obtain⟨_,l3⟩:=q;rw[hm]at hM;obtain⟨rfl,P7⟩:=hM;rw[pb_of hm];push_cast -dsimp;exact⟨k7',V6.mono k7 (fun i h=>by omega) (fun i h=>by omega),P7⟩
      | error e =>
       rw[hm]at hM;obtain⟨rfl,l3,P7⟩:=hM;have heo:Cae.pb (mustP [41]) (fun _=>pr kk) l2=.error e:=by unfold Cae.pb;rw[hm]
       rw[heo];push_cast -dsimp;exact⟨k7',⟨_,rfl⟩,_,P7⟩
     | error e =>
      rw[ho]at hO6;obtain⟨⟨u,rfl⟩,l2,P6⟩:=hO6;have heo:Cae.pb (kindW (oneP d)) (fun k=>Cae.pb (mustP [41]) fun _=>pr k) r=.error e:=by unfold Cae.pb;rw[ho]
      rw[heo];push_cast -dsimp;refine callK_of (rmust_c P6 [41]) ?_;rintro _ w7 ⟨k7,hM⟩;rw[show outP (some e) (mustP [41]) l2=.error e from rfl]at hM
      obtain⟨rfl,l3,P7⟩:=hM;push_cast -dsimp;exact⟨k6'.trans k7 (fun i _ h=>h),⟨_,rfl⟩,_,P7⟩
    ·have k5:=k4.trans (Kept.rb P4.le P4.lt b5) (fun i _ h=>h);have B5:=B4.below b5 (by omega);have z5:=b5.size;have hred:oneP (d+1) l0=Cae.pb nameP (fun n=>pr (KindP.ref t.pos n)) l0:=by
      rw[hunf];unfold pif;rw[hk3,show seeP [126] l0=false from hs1,show seeP [40] l0=false from hs2,if_neg (by decide),if_neg (by decide),if_neg (by decide),hpk]
     rw[hred];push_cast -dsimp;have ga:∀w'':World,Blk w'' w1.heap.size 71 [.int .i64 t.kind,str t.text,.int .i64 t.pos]→w''.cell? ⟨w1.heap.size,2,none⟩=some (.int .i64 t.pos):=fun w'' h=>h.cell rfl;refine wpL_draw (fun w'=>Blk w' w1.heap.size 71 [.int .i64 t.kind,str t.text,.int .i64 t.pos]) mixed (by kernel_rfl) B5.drew ?_;have ea:=ga _ B5.drew;push_cast -dsimp[ea];refine⟨fun w'' h=>by rw[ga w'' h];exact rfl,?_⟩;have P5d:=P5.below (below_drewR w5);have zd:w5.drew.heap.size=w5.heap.size:=rfl;have k5d:=k5.trans (Kept.rb P5.le P5.lt (below_drewR w5)) (fun i _ h=>h);refine callK_of (rname_c P5d) ?_;rintro v6 w6 ⟨k6,hO6⟩;have z6:=k6.size;have B6:=B5.drew.kept k6 (by omega);refine⟨B6,?_⟩;have k6':=k5d.trans k6 (fun i _ h=>h);rw[show outP none nameP l0=nameP l0 from rfl]at hO6
     cases ho:nameP l0 with
     | ok q =>
      obtain⟨nm,l2⟩:=q;rw[ho]at hO6;obtain⟨rfl,P6⟩:=hO6;rw[pb_of ho];push_cast -dsimp;refine boxK_of ?_;intro w7 hw7;have B7:Blk w7 w6.heap.size 126 [.int .i64 2,.int .i64 t.pos,.slice none 0 0,str nm,.pointer none,.pointer none]:=hw7.blk;refine⟨B6.below hw7.below (by omega),?_⟩;push_cast -dsimp;exact⟨k6'.trans (Kept.of_below hw7.below (X:=(·=rb)) (fun i h1 h2=>by omega)) (fun i _ h=>h),⟨_,rfl,by omega,B7⟩,P6.below hw7.below⟩
     | error e =>
      rw[ho]at hO6;obtain⟨⟨nm,rfl⟩,l2,P6⟩:=hO6;have heo:Cae.pb nameP (fun n=>pr (KindP.ref t.pos n)) l0=.error e:=by unfold Cae.pb;rw[ho]
      rw[heo];push_cast -dsimp;refine boxK_of ?_;intro w7 hw7;refine⟨B6.below hw7.below (by omega),?_⟩;push_cast -dsimp;exact⟨k6'.trans (Kept.of_below hw7.below (X:=(·=rb)) (fun i h1 h2=>by omega)) (fun i _ h=>h),⟨_,rfl⟩,_,P6.below hw7.below⟩
theorem kone_all:∀d,KoneR d
 | 0=>kone_zero
 | d+1=>kone_succ d (kone_all d)
def UnitR (d:Nat):Prop:=∀(n:Int),0≤n→n+(d:Int)=9→∀(rb B:Nat) (w:World) (l:List Cae.Tok) (bad:Option (Nat×Nat)),RS rb B w l bad→Rc 84 [.pointer (some ⟨rb,0,none⟩),.int .i64 n] rb B w l bad (unitP d) (fun w' r x=>PatV (·<w.heap.size) w' r x) (fun r=>∃a,r=.pointer a)
def PartR (d:Nat):Prop:=∀(n:Int),0≤n→n+(d:Int)=9→∀(rb B:Nat) (w:World) (l:List Cae.Tok) (bad:Option (Nat×Nat)),RS rb B w l bad→Rc 52 [.pointer (some ⟨rb,0,none⟩),.int .i64 n] rb B w l bad (againW d (unitP d)) (fun w' r x=>PatV (·<w.heap.size) w' r x) (fun r=>∃a,r=.pointer a)
def PatR (d:Nat):Prop:=∀(n:Int),0≤n→n+(d:Int)=9→∀(rb B:Nat) (w:World) (l:List Cae.Tok) (bad:Option (Nat×Nat)),RS rb B w l bad→Rc 28 [.pointer (some ⟨rb,0,none⟩),.int .i64 n] rb B w l bad (patP d) (fun w' r x=>PatV (·<w.heap.size) w' r x) (fun r=>∃a,r=.pointer a)
theorem runit_zero:UnitR 0:=by
 intro n hn0 hn rb B w l bad h;have heo:outP bad (unitP 0) l=.error (bad.getD (4,(Cae.hd l).pos)):=by cases bad<;>rfl
 refine fun_of_vc Tryz.func84 rfl (by kernel_rfl) [4] rfl ?_;push_cast -dsimp(maxSteps:=4000000) [Tryz.ntmps84];refine⟨fun h8=>?_,fun h8=>by omega⟩;refine callK_of (rfails_c h 4 (by decide)) ?_;rintro _ w1 ⟨rfl,P1,k1⟩;push_cast -dsimp;refine callK_of (rok_c P1) ?_;rintro _ w2 ⟨rfl,hb2⟩;unfold RRes;rw[heo];push_cast -dsimp;exact⟨k1.trans (Kept.rb P1.le P1.lt hb2) (fun i _ h=>h),⟨_,rfl⟩,_,P1.below hb2⟩
theorem runit_succ (d:Nat)(ihp:PatR d):UnitR (d+1):=by
 intro n hn0 hn rb B w l0 bad h0;have hle:=h0.le;have hlt:=h0.lt;refine fun_of_vc Tryz.func84 rfl (by kernel_rfl) [4] rfl ?_;push_cast -dsimp(maxSteps:=4000000) [Tryz.ntmps84];refine⟨fun h8=>by omega,fun h8=>?_⟩;refine callK_of (rok_c h0) ?_;rintro _ w1 ⟨rfl,hb1⟩;have P1:=h0.below hb1;have k1:Kept (·=rb) w w1:=Kept.rb hle hlt hb1;have z1:=hb1.size;unfold RRes;cases bad with
 | some e =>
  push_cast -dsimp;exact⟨k1,⟨_,rfl⟩,_,P1⟩
 | none =>
  obtain⟨t,r,hl0⟩:=h0.cons;have hhd:Cae.hd l0=t:=by rw[hl0];rfl
  have hunf:unitP (d+1) l0=pif (seeP [46]) (Cae.pb popP fun _=>pr .any)
   (pif (seeP [36]) (Cae.pb popP fun _=>pr .edge)
   (pif (seeP [40]) (Cae.pb popP fun _=>Cae.pb (patP d) fun x=>Cae.pb (mustP [41]) fun _=>pr x)
   (pif unitStart (Cae.pb (oneP (d+1)) fun k=>pr (.one k)) (pfail 3)))) l0:=rfl
  have hout:outP none (unitP (d+1)) l0=unitP (d+1) l0:=rfl;rw[hout];push_cast -dsimp;refine callK_of (rtake_c P1 [46]) ?_;rintro _ w2 hT;rcases hT with ⟨_,hs1,rfl,t1,r1,el1,h51,P2,kt⟩|⟨hs1,rfl,P2,b2⟩
  ·have hpop:popP l0=.ok ((),r1):=by rw[el1];exact popP_cons h51
   have hex:unitP (d+1) l0=.ok (.any,r1):=by
    rw[hunf];unfold pif;rw[hs1,if_pos rfl,pb_of hpop];rfl
   rw[hex];have k2:=k1.trans kt (fun i _ h=>h);have z2:=k2.size;push_cast -dsimp;refine boxK_of ?_;intro w3 hw3;have B3:Blk w3 w2.heap.size 129 [.int .i64 2,.pointer none,.slice none 0 0,.int .i64 0,.int .i64 0]:=hw3.blk;push_cast -dsimp;refine⟨k2.trans (Kept.of_below hw3.below (X:=(·=rb)) (fun i h1 h2=>by omega)) (fun i _ h=>h),?_,P2.below hw3.below⟩;simp only[PatV];exact⟨_,rfl,by omega,B3⟩
  ·have k2:=k1.trans (Kept.rb P1.le P1.lt b2) (fun i _ h=>h);push_cast -dsimp;refine callK_of (rtake_c P2 [36]) ?_;rintro _ w3 hT;rcases hT with ⟨_,hs2,rfl,t1,r1,el1,h51,P3,kt⟩|⟨hs2,rfl,P3,b3⟩
   ·have hpop:popP l0=.ok ((),r1):=by rw[el1];exact popP_cons h51
    have hex:unitP (d+1) l0=.ok (.edge,r1):=by
     rw[hunf];unfold pif;rw[show seeP [46] l0=false from hs1,hs2,if_neg (by decide),if_pos rfl,pb_of hpop]
     rfl
    rw[hex];have k3:=k2.trans kt (fun i _ h=>h);have z3:=k3.size;push_cast -dsimp;refine boxK_of ?_;intro w4 hw4;have B4:Blk w4 w3.heap.size 129 [.int .i64 3,.pointer none,.slice none 0 0,.int .i64 0,.int .i64 0]:=hw4.blk;push_cast -dsimp;refine⟨k3.trans (Kept.of_below hw4.below (X:=(·=rb)) (fun i h1 h2=>by omega)) (fun i _ h=>h),?_,P3.below hw4.below⟩;simp only[PatV];exact⟨_,rfl,by omega,B4⟩
   ·have k3:=k2.trans (Kept.rb P2.le P2.lt b3) (fun i _ h=>h);push_cast -dsimp;refine callK_of (rtake_c P3 [40]) ?_;rintro _ w4 hT;rcases hT with ⟨_,hs3,rfl,t1,r1,el1,h51,P4,kt⟩|⟨hs3,rfl,P4,b4⟩
    ·have hpop:popP l0=.ok ((),r1):=by rw[el1];exact popP_cons h51
     have hred:unitP (d+1) l0=Cae.pb (patP d) (fun x=>Cae.pb (mustP [41]) fun _=>pr x) r1:=by
      rw[hunf];unfold pif;rw[show seeP [46] l0=false from hs1,show seeP [36] l0=false from hs2,hs3,if_neg (by decide),if_neg (by decide),if_pos rfl,pb_of hpop]
     rw[hred];have k4:=k3.trans kt (fun i _ h=>h);have z4:=k4.size;push_cast -dsimp;refine⟨by omega,?_⟩;refine callK_of (ihp (n+1) (by omega) (by omega) rb B w4 r1 none P4) ?_;rintro v5 w5 ⟨k5,hO5⟩;have k5':=k4.trans k5 (fun i _ h=>h);rw[show outP none (patP d) r1=patP d r1 from rfl]at hO5
     cases ho:patP d r1 with
     | ok q =>
      obtain⟨x,l2⟩:=q;rw[ho]at hO5;obtain⟨V5,P5⟩:=hO5;have hp:=V5.ptr;obtain⟨ub,rfl,hub,_⟩:=hp;rw[pb_of ho];push_cast -dsimp;refine callK_of (rmust_c P5 [41]) ?_;rintro _ w6 ⟨k6,hM⟩;have k6':=k5'.trans k6 (fun i _ h=>h);rw[show outP none (mustP [41]) l2=mustP [41] l2 from rfl]at hM
      cases hm:mustP [41] l2 with
      | ok q =>
       obtain⟨_,l3⟩:=q;rw[hm]at hM;obtain⟨rfl,P6⟩:=hM;rw[pb_of hm];push_cast -dsimp;exact⟨k6',V5.mono k6 (fun i h=>by have:=P4.le;have:=P4.lt;omega) (fun i h=>by omega),P6⟩
      | error e =>
       rw[hm]at hM;obtain⟨rfl,l3,P6⟩:=hM;have heo:Cae.pb (mustP [41]) (fun _=>pr x) l2=.error e:=by unfold Cae.pb;rw[hm]
       rw[heo];push_cast -dsimp;exact⟨k6',⟨_,rfl⟩,_,P6⟩
     | error e =>
      rw[ho]at hO5;obtain⟨⟨u,rfl⟩,l2,P5⟩:=hO5;have heo:Cae.pb (patP d) (fun x=>Cae.pb (mustP [41]) fun _=>pr x) r1=.error e:=by unfold Cae.pb;rw[ho]
      rw[heo];push_cast -dsimp;refine callK_of (rmust_c P5 [41]) ?_;rintro _ w6 ⟨k6,hM⟩;rw[show outP (some e) (mustP [41]) l2=.error e from rfl]at hM
      obtain⟨rfl,l3,P6⟩:=hM;push_cast -dsimp;exact⟨k5'.trans k6 (fun i _ h=>h),⟨_,rfl⟩,_,P6⟩
    ·have k4:=k3.trans (Kept.rb P3.le P3.lt b4) (fun i _ h=>h);have z4:=k4.size;have P4':=P4;rw[hl0]at P4';obtain⟨b,o,c,hB,hc,hne,c0,c1,c2,c3⟩:=P4'.hd;have cb:w4.cell? ⟨rb,0,none⟩=some (.slice (some ⟨b,o,none⟩) (r.length+1) c):=hB.cell rfl;have hred:unitP (d+1) l0=if unitStart l0=true then Cae.pb (oneP (d+1)) (fun k=>pr (.one k)) l0 else pfail 3 l0:=by
      rw[hunf];unfold pif;rw[show seeP [46] l0=false from hs1,show seeP [36] l0=false from hs2,show seeP [40] l0=false from hs3,if_neg (by decide),if_neg (by decide),if_neg (by decide)]
     push_cast -dsimp[cb,c0];refine⟨by omega,fun h3=>?_,fun h3=>?_⟩;rotate_left
     ·have hst:unitStart l0=true:=by
       have:t.kind=3:=by omega
       simp[unitStart,isKind,hhd,this]
      rw[if_pos hst]at hred;refine callK_of (kone_all (d+1) n (by omega) (by omega) rb B w4 l0 none P4) ?_;rintro v9 w9 ⟨k9,hO9⟩;have k9':=Kept.trans k4 k9 (fun i _ h=>h);have zk9:=(k4).size;have z9:=k9.size;rw[show outP none (oneP (d+1)) l0=oneP (d+1) l0 from rfl]at hO9
      rw[hred];cases ho:oneP (d+1) l0 with
      | ok q =>
       obtain⟨kk,l2⟩:=q;rw[ho]at hO9;obtain⟨V9,P9⟩:=hO9;have hp:=V9.ptr;obtain⟨ub,rfl,hub⟩:=hp;rw[pb_of ho];push_cast -dsimp;refine boxK_of ?_;intro w10 hw10;have B10:Blk w10 w9.heap.size 129 [.int .i64 1,.pointer (some ⟨ub,0,none⟩),.slice none 0 0,.int .i64 0,.int .i64 0]:=hw10.blk;push_cast -dsimp;refine⟨k9'.trans (Kept.of_below hw10.below (X:=(·=rb)) (fun i h1 h2=>by omega)) (fun i _ h=>h),?_,P9.below hw10.below⟩;simp only[PatV];exact⟨_,_,rfl,by omega,B10,(V9.mono (Kept.refl (fun _=>False) w9) (fun _ h=>h.elim) (fun i h=>by omega)).below hw10.below⟩
      | error e =>
       rw[ho]at hO9;obtain⟨⟨u,rfl⟩,l2,P9⟩:=hO9;have heo:Cae.pb (oneP (d+1)) (fun k=>pr (PatP.one k)) l0=.error e:=by unfold Cae.pb;rw[ho]
       rw[heo];push_cast -dsimp;refine boxK_of ?_;intro w10 hw10;push_cast -dsimp;exact⟨k9'.trans (Kept.of_below hw10.below (X:=(·=rb)) (fun i h1 h2=>by omega)) (fun i _ h=>h),⟨_,rfl⟩,_,P9.below hw10.below⟩
     ·have hk3:isKind 3 l0=false:=by
       have:t.kind≠3:=fun e=>h3 (by omega);simp[isKind,hhd,this]
      refine callK_of (risName_c P4) ?_;rintro _ w5 ⟨rfl,hb5⟩;have P5:=P4.below hb5;have k5:=k4.trans (Kept.rb P4.le P4.lt hb5) (fun i _ h=>h);cases hnm:namedP l0 with
      | true =>
       have hst:unitStart l0=true:=by simp[unitStart,hnm]
       rw[if_pos hst]at hred;push_cast -dsimp;refine callK_of (kone_all (d+1) n (by omega) (by omega) rb B w5 l0 none P5) ?_;rintro v9 w9 ⟨k9,hO9⟩;have k9':=Kept.trans k5 k9 (fun i _ h=>h);have zk9:=(k5).size;have z9:=k9.size;rw[show outP none (oneP (d+1)) l0=oneP (d+1) l0 from rfl]at hO9
       rw[hred];cases ho:oneP (d+1) l0 with
       | ok q =>
        obtain⟨kk,l2⟩:=q;rw[ho]at hO9;obtain⟨V9,P9⟩:=hO9;have hp:=V9.ptr;obtain⟨ub,rfl,hub⟩:=hp;rw[pb_of ho];push_cast -dsimp;refine boxK_of ?_;intro w10 hw10;have B10:Blk w10 w9.heap.size 129 [.int .i64 1,.pointer (some ⟨ub,0,none⟩),.slice none 0 0,.int .i64 0,.int .i64 0]:=hw10.blk;push_cast -dsimp;refine⟨k9'.trans (Kept.of_below hw10.below (X:=(·=rb)) (fun i h1 h2=>by omega)) (fun i _ h=>h),?_,P9.below hw10.below⟩;simp only[PatV];exact⟨_,_,rfl,by omega,B10,(V9.mono (Kept.refl (fun _=>False) w9) (fun _ h=>h.elim) (fun i h=>by omega)).below hw10.below⟩
       | error e =>
        rw[ho]at hO9;obtain⟨⟨u,rfl⟩,l2,P9⟩:=hO9;have heo:Cae.pb (oneP (d+1)) (fun k=>pr (PatP.one k)) l0=.error e:=by unfold Cae.pb;rw[ho]
        rw[heo];push_cast -dsimp;refine boxK_of ?_;intro w10 hw10;push_cast -dsimp;exact⟨k9'.trans (Kept.of_below hw10.below (X:=(·=rb)) (fun i h1 h2=>by omega)) (fun i _ h=>h),⟨_,rfl⟩,_,P9.below hw10.below⟩
      | false =>
       have hst:¬unitStart l0=true:=by simp[unitStart,hnm,hk3]
       rw[if_neg hst]at hred;have heo:unitP (d+1) l0=.error (3,(Cae.hd l0).pos):=hred;rw[heo];push_cast -dsimp;refine callK_of (rfails_c P5 3 (by decide)) ?_;rintro _ w6 ⟨rfl,P6,k6⟩;push_cast -dsimp;exact⟨k5.trans k6 (fun i _ h=>h),⟨_,rfl⟩,_,P6⟩
def PartI (d:Nat)(rb B:Nat)(w w':World)(i:Nat)(v:Value)(out:Except (Nat×Nat) (PatP×List Cae.Tok)):Prop :=
 (∃(m c:Nat) (x:PatP) (l1:List Cae.Tok),againLoop d m c x l1=out∧l1.length<m∧i=c+1∧c≤9∧PatV (·<w.heap.size) w' v x∧RS rb B w' l1 none)∨(∃(e:Nat×Nat) (l1:List Cae.Tok),out=.error e∧i≤12∧RS rb B w' l1 (some e))
theorem rpart_of (d:Nat)(hu:UnitR d):PartR d:=by
 intro n hn0 hn rb B w l0 bad h0;have hle:=h0.le;have hlt:=h0.lt;refine fun_of_vc Tryz.func52 rfl (by kernel_rfl) [4] rfl ?_;push_cast -dsimp(maxSteps:=4000000) [Tryz.ntmps52];refine callK_of (hu n hn0 hn rb B w l0 bad h0) ?_;rintro v1 w1 ⟨k1,hO⟩;have hgo:∃out,outP bad (againW d (unitP d)) l0=out:=⟨_,rfl⟩;obtain⟨out,hout⟩:=hgo;have hinv:(∃a,v1=.pointer a)∧PartI d rb B w w1 1 v1 out:=by
  unfold PartI;rw[←hout];cases ho:outP bad (unitP d) l0 with
  | ok q =>
   obtain⟨x,l1⟩:=q;rw[ho]at hO;obtain⟨hV,hR⟩:=hO;have hp:=hV.ptr;obtain⟨kb,e,_⟩:=hp;cases bad with
   | some e=>cases ho
   | none =>
    refine⟨⟨_,e⟩,.inl ⟨1000,0,x,l1,?_,by have:=hR.tl.len;omega,rfl,by omega,hV,hR⟩⟩
    show _=againW d (unitP d) l0
    unfold againW;rw[pb_of (show unitP d l0=.ok (x,l1) from ho)]
  | error e =>
   rw[ho]at hO;obtain⟨hJ,l1,hR⟩:=hO;refine⟨hJ,.inr ⟨e,l1,?_,by omega,hR⟩⟩;cases bad with
   | some e'=>exact ho
   | none =>
    show againW d (unitP d) l0=_
    unfold againW Cae.pb;rw[show unitP d l0=.error e from ho]
 obtain⟨⟨a1,rfl⟩,hI0⟩:=hinv;unfold RRes;rw[hout];push_cast -dsimp;refine wpL_loop [4,5,6,7,11,12,13,14,15,16,17,18,19,20,21,22,23,24,25,26,27,28,29,30,31,32,33,34,35,36,37,38,39,40,41,42,43,44,45,46,47,48,49,50,51,52,53,54,55,56,57,58,59,60,61,62,63,64,65,66,67,68,69,70,71,72,73,74,75,76,77,78,79,80,81,82,83,84,85,86,87] (fun z w'=>∃(i:Nat) (a:Option Addr),z 6=.int .i64 i∧z 5=.pointer a∧1≤i∧Kept (·=rb) w w'∧PartI d rb B w w' i (.pointer a) out) (fun z w'=>muR rb w') ?_ ?_
 ·exact⟨1,a1,rfl,rfl,by omega,k1,hI0⟩
 ·rintro z w' ⟨i,a,hz6,hz5,hi1,hkw,hI⟩;unfold PartI at hI;rcases hI with ⟨m,c,x,l1,hm2,hm,hic,hc9,V1,P1⟩|⟨e,l1,hoe,hi12,P1⟩
  ·have hmu:=P1.mu;have hzw:=hkw.size;push_cast -dsimp[hz6,hz5];refine callK_of (rok_c P1) ?_;rintro _ w0 ⟨rfl,hb0⟩;have P0:=P1.below hb0;have k0:=hkw.trans (Kept.rb P1.le P1.lt hb0) (fun i _ h=>h);have V0:=V1.below hb0;have z0:=hb0.size;push_cast -dsimp[hz5];refine rowK elI_127 rfl rfl (by omega) ?_;intro w2 hw2;have BX0:Blk w2 w0.heap.size 58 [.pointer a]:=hw2.blk;have P2:=P0.below hw2.below;have z2:=hw2.size;have k2:=k0.trans (Kept.new (X:=(·=rb)) hw2) (fun i _ h=>h);push_cast -dsimp;refine boxK_of ?_;intro w3 hw3;have hp:=V0.ptr;obtain⟨kb,ha,hkb,_⟩:=hp;cases ha;have BY3:Blk w3 (w0.heap.size+1) 129 [.int .i64 6,.pointer none,.slice (some ⟨w0.heap.size,0,none⟩) 1 1,.int .i64 0,.int .i64 (-1)]:=by
    have:=hw3.blk;rw[z2]at this;exact this
   have BX3:Blk w3 w0.heap.size 58 [ptrP kb]:=BX0.below hw3.below (by omega);have P3:=P2.below hw3.below;have z3:=hw3.size;have k3:=k2.trans (Kept.new (X:=(·=rb)) hw3) (fun i _ h=>h);have V3:PatV (fun b=>b<w.heap.size∨w0.heap.size≤b) w3 (.pointer (some ⟨kb,0,none⟩)) x:=(V0.top.below hw2.below).below hw3.below;push_cast -dsimp[z2];refine callK_of (rtake_c P3 [42]) ?_;rintro _ w4 hT;rcases hT with ⟨_,hs1,rfl,t4,l2,el4,h51,P4,kt⟩|⟨hs1,rfl,P4,b4⟩
   ·have hpop:popP l1=.ok ((),l2):=by rw[el4];exact popP_cons h51
    have hl2:l1.length=l2.length+1:=by rw[el4,List.length_cons]
    have hsuf:suffixP l1=.ok (some (0,-1),l2):=by
     unfold suffixP pif;rw[hs1,if_pos rfl,pb_of hpop];rfl
    have BY:=BY3.kept kt (by omega);have BX:=BX3.kept kt (by omega);have kS:=k3.trans kt (fun i _ h=>h);have VX:=V3.mono (X':=(·<w.heap.size)) kt (fun i h=>by omega) (fun i h=>.inl h);push_cast -dsimp[hz6];have hm1:∃m',m=m'+1:=⟨m-1,by omega⟩;obtain⟨m',hmm⟩:=hm1;have hag:out=if d≤c+1 then pfail 4 l2 else againLoop d m' (c+1) (.many x 0 (-1)) l2:=by
     rw[←hm2,hmm,againLoop,pb_of hsuf];dsimp only;split<;>rfl
    refine⟨by omega,fun h8=>?_,fun h8=>?_⟩
    ·refine callK_of (rfails_c P4 4 (by decide)) ?_;rintro _ we ⟨rfl,Pe,ke⟩;have hmue:=Pe.mu0;push_cast -dsimp[hz6];refine⟨by omega,⟨i+1,_,rfl,rfl,by omega,kS.trans ke (fun i _ h=>h),.inr ⟨_,_,?_,by omega,Pe⟩⟩,by rw[hmu,hmue];omega⟩;rw[hag,if_pos (by omega)];rfl
    ·have hmue:=RS.mu P4;have hzS:=kS.size;push_cast -dsimp[hz6];refine⟨by omega,⟨i+1,_,rfl,rfl,by omega,kS,.inl ⟨m',c+1,.many x 0 (-1),l2,?_,by omega,by omega,by omega,?_,P4⟩⟩,by rw[hmu,hmue];omega⟩
     ·rw[hag,if_neg (by omega)]
     ·simp only[PatV];exact⟨_,_,_,rfl,by omega,BY,sl_blk1 BX (by omega),VX⟩
   ·skip;have BY4:=BY3.below b4 BY3.lt;have BX4:=BX3.below b4 BX3.lt;have k4:=k3.trans (Kept.rb P3.le P3.lt b4) (fun i _ h=>h);have V4:=V3.below b4;push_cast -dsimp;refine callK_of (rtake_c P4 [43]) ?_;rintro _ w5 hT;rcases hT with ⟨_,hs2,rfl,t4,l2,el4,h51,P5,kt⟩|⟨hs2,rfl,P5,b5⟩
    ·have hpop:popP l1=.ok ((),l2):=by rw[el4];exact popP_cons h51
     have hl2:l1.length=l2.length+1:=by rw[el4,List.length_cons]
     have hsuf:suffixP l1=.ok (some (1,-1),l2):=by
      unfold suffixP pif;rw[show seeP [42] l1=false from hs1,hs2,if_neg (by decide),if_pos rfl,pb_of hpop]
      rfl
     have BY5:=BY4.kept kt (by omega);have BX5:=BX4.kept kt (by omega);have k5:=k4.trans kt (fun i _ h=>h);have V5:=V4.mono (X':=fun b=>b<w.heap.size∨w0.heap.size≤b) kt (fun i h=>by omega) (fun i h=>h);push_cast -dsimp;refine storeK_of BY5 (by simp) rfl ?_;intro w6 hw6;have BY:Blk w6 (w0.heap.size+1) 129 [.int .i64 6,.pointer none,.slice (some ⟨w0.heap.size,0,none⟩) 1 1,.int .i64 1,.int .i64 (-1)]:=hw6.blk;have BX:=BX5.kept hw6.kept (by omega);have P6:=P5.keptB hw6.kept (fun i h=>by omega);have kS:=k5.trans hw6.kept (fun i h1 h2=>by omega);have VX:=V5.mono (X':=(·<w.heap.size)) hw6.kept (fun i h=>by omega) (fun i h=>.inl h);push_cast -dsimp;have hm1:∃m',m=m'+1:=⟨m-1,by omega⟩;obtain⟨m',hmm⟩:=hm1;have hag:out=if d≤c+1 then pfail 4 l2 else againLoop d m' (c+1) (.many x 1 (-1)) l2:=by
      rw[←hm2,hmm,againLoop,pb_of hsuf];dsimp only;split<;>rfl
     refine⟨by omega,fun h8=>?_,fun h8=>?_⟩
     ·refine callK_of (rfails_c P6 4 (by decide)) ?_;rintro _ we ⟨rfl,Pe,ke⟩;have hmue:=Pe.mu0;push_cast -dsimp[hz6];refine⟨by omega,⟨i+1,_,rfl,rfl,by omega,kS.trans ke (fun i _ h=>h),.inr ⟨_,_,?_,by omega,Pe⟩⟩,by rw[hmu,hmue];omega⟩;rw[hag,if_pos (by omega)];rfl
     ·have hmue:=RS.mu P6;have hzS:=kS.size;push_cast -dsimp[hz6];refine⟨by omega,⟨i+1,_,rfl,rfl,by omega,kS,.inl ⟨m',c+1,.many x 1 (-1),l2,?_,by omega,by omega,by omega,?_,P6⟩⟩,by rw[hmu,hmue];omega⟩
      ·rw[hag,if_neg (by omega)]
      ·simp only[PatV];exact⟨_,_,_,rfl,by omega,BY,sl_blk1 BX (by omega),VX⟩
    ·skip;have BY5:=BY4.below b5 BY4.lt;have BX5:=BX4.below b5 BX4.lt;have k5:=k4.trans (Kept.rb P4.le P4.lt b5) (fun i _ h=>h);have V5:=V4.below b5;push_cast -dsimp;refine callK_of (rtake_c P5 [63]) ?_;rintro _ w6 hT;rcases hT with ⟨_,hs3,rfl,t4,l2,el4,h51,P6,kt⟩|⟨hs3,rfl,P6,b6⟩
     ·have hpop:popP l1=.ok ((),l2):=by rw[el4];exact popP_cons h51
      have hl2:l1.length=l2.length+1:=by rw[el4,List.length_cons]
      have hsuf:suffixP l1=.ok (some (0,1),l2):=by
       unfold suffixP pif;rw[show seeP [42] l1=false from hs1,show seeP [43] l1=false from hs2,hs3,if_neg (by decide),if_neg (by decide),if_pos rfl,pb_of hpop]
       rfl
      have BY6:=BY5.kept kt (by omega);have BX6:=BX5.kept kt (by omega);have k6:=k5.trans kt (fun i _ h=>h);have V6:=V5.mono (X':=fun b=>b<w.heap.size∨w0.heap.size≤b) kt (fun i h=>by omega) (fun i h=>h);push_cast -dsimp;refine storeK_of BY6 (by simp) rfl ?_;intro w7 hw7;have hw6:=hw7;have BY:Blk w7 (w0.heap.size+1) 129 [.int .i64 6,.pointer none,.slice (some ⟨w0.heap.size,0,none⟩) 1 1,.int .i64 0,.int .i64 1]:=hw7.blk;have BX:=BX6.kept hw6.kept (by omega);have P7:=P6.keptB hw6.kept (fun i h=>by omega);have kS:=k6.trans hw6.kept (fun i h1 h2=>by omega);have VX:=V6.mono (X':=(·<w.heap.size)) hw6.kept (fun i h=>by omega) (fun i h=>.inl h);push_cast -dsimp;have hm1:∃m',m=m'+1:=⟨m-1,by omega⟩;obtain⟨m',hmm⟩:=hm1;have hag:out=if d≤c+1 then pfail 4 l2 else againLoop d m' (c+1) (.many x 0 1) l2:=by
       rw[←hm2,hmm,againLoop,pb_of hsuf];dsimp only;split<;>rfl
      refine⟨by omega,fun h8=>?_,fun h8=>?_⟩
      ·refine callK_of (rfails_c P7 4 (by decide)) ?_;rintro _ we ⟨rfl,Pe,ke⟩;have hmue:=Pe.mu0;push_cast -dsimp[hz6];refine⟨by omega,⟨i+1,_,rfl,rfl,by omega,kS.trans ke (fun i _ h=>h),.inr ⟨_,_,?_,by omega,Pe⟩⟩,by rw[hmu,hmue];omega⟩;rw[hag,if_pos (by omega)];rfl
      ·have hmue:=RS.mu P7;have hzS:=kS.size;push_cast -dsimp[hz6];refine⟨by omega,⟨i+1,_,rfl,rfl,by omega,kS,.inl ⟨m',c+1,.many x 0 1,l2,?_,by omega,by omega,by omega,?_,P7⟩⟩,by rw[hmu,hmue];omega⟩
       ·rw[hag,if_neg (by omega)]
       ·simp only[PatV];exact⟨_,_,_,rfl,by omega,BY,sl_blk1 BX (by omega),VX⟩
     ·skip;have BY6:=BY5.below b6 BY5.lt;have BX6:=BX5.below b6 BX5.lt;have k6:=k5.trans (Kept.rb P5.le P5.lt b6) (fun i _ h=>h);have V6:=V5.below b6;push_cast -dsimp;refine callK_of (rtake_c P6 [123]) ?_;rintro _ w7 hT;rcases hT with ⟨_,hs4,rfl,t4,l2,el4,h51,P7,kt⟩|⟨hs4,rfl,P7,b7⟩
      ·have hpop:popP l1=.ok ((),l2):=by rw[el4];exact popP_cons h51
       have hl2:l1.length=l2.length+1:=by rw[el4,List.length_cons]
       have hsx:suffixP l1=Cae.pb bracesP (fun r=>pr (some r)) l2:=by
        unfold suffixP pif;rw[show seeP [42] l1=false from hs1,show seeP [43] l1=false from hs2,show seeP [63] l1=false from hs3,hs4,if_neg (by decide),if_neg (by decide),if_neg (by decide),if_pos rfl,pb_of hpop]
       have hbe:∀e,bracesP l2=.error e→out=.error e:=fun e he=>by
        rw[←hm2];refine again_err hm ?_;rw[hsx];unfold Cae.pb;rw[he]
       have BY7:=BY6.kept kt (by omega);have BX7:=BX6.kept kt (by omega);have k7:=k6.trans kt (fun i _ h=>h);have V7:=V6.mono (X':=fun b=>b<w.heap.size∨w0.heap.size≤b) kt (fun i h=>by omega) (fun i h=>h);push_cast -dsimp;refine callK_of (rnumber_c P7) ?_;rintro _ w8 ⟨k8,hN⟩;rw[show outP none timesP l2=timesP l2 from rfl]at hN
       have BY8:=BY7.kept k8 (by omega);have BX8:=BX7.kept k8 (by omega);have k8':=k7.trans k8 (fun i _ h=>h);have V8:=V7.mono (X':=fun b=>b<w.heap.size∨w0.heap.size≤b) k8 (fun i h=>by omega) (fun i h=>h);cases hn1:timesP l2 with
       | error e =>
        rw[hn1]at hN;obtain⟨rfl,l3,P8⟩:=hN;have hoe:=hbe e (by unfold bracesP Cae.pb;rw[hn1]);push_cast -dsimp;refine storeK_of BY8 (by simp) rfl ?_;intro w9 hw9;have B9:Blk w9 (w0.heap.size+1) 129 [.int .i64 6,.pointer none,.slice (some ⟨w0.heap.size,0,none⟩) 1 1,.int .i64 0,.int .i64 (-1)]:=hw9.blk;have c9:w9.cell? ⟨w0.heap.size+1,3,none⟩=some (.int .i64 0):=B9.cell rfl;push_cast -dsimp[c9];refine storeK_of B9 (by simp) rfl ?_;intro w10 hw10;have k10:Kept (·=w0.heap.size+1) w8 w10:=hw9.kept.trans hw10.kept (fun i _ h=>h);have P10:=P8.keptB k10 (fun i h=>by omega);have k10':=k8'.trans k10 (fun i h1 h2=>by omega);push_cast -dsimp;refine callK_of (rtake_c P10 [44]) ?_;rintro _ w11 hT;rcases hT with ⟨h0e,_⟩|⟨_,rfl,P11,b11⟩
        ·cases h0e
        ·have k11:=k10'.trans (Kept.rb P10.le P10.lt b11) (fun i _ h=>h);push_cast -dsimp;refine callK_of (rmust_c P11 [125]) ?_;rintro _ wm ⟨km,hM⟩;have kS:=Kept.trans k11 km (fun i _ h=>h);rw[show ∀(e:Nat×Nat) l,outP (some e) (mustP [125]) l=.error e from fun _ _=>rfl]at hM
         obtain⟨rfl,lm,Pm⟩:=hM;push_cast -dsimp;refine⟨by omega,fun h8=>?_,fun h8=>?_⟩
         ·refine callK_of (rfails_c Pm 4 (by decide)) ?_;rintro _ we ⟨rfl,Pe,ke⟩;have hmue:=Pe.mu0;push_cast -dsimp[hz6];exact⟨by omega,⟨i+1,_,rfl,rfl,by omega,Kept.trans kS ke (fun i _ h=>h),.inr ⟨_,_,hoe,by omega,Pe⟩⟩,by rw[hmu,hmue];omega⟩
         ·have hmue:=RS.mu0 Pm;push_cast -dsimp[hz6];exact⟨by omega,⟨i+1,_,rfl,rfl,by omega,kS,.inr ⟨_,_,hoe,by omega,Pm⟩⟩,by rw[hmu,hmue];omega⟩
       | ok q =>
        obtain⟨n1,l3⟩:=q;rw[hn1]at hN;obtain⟨⟨rfl,hn12⟩,P8⟩:=hN;push_cast -dsimp;refine storeK_of BY8 (by simp) rfl ?_;intro w9 hw9;have B9:Blk w9 (w0.heap.size+1) 129 [.int .i64 6,.pointer none,.slice (some ⟨w0.heap.size,0,none⟩) 1 1,.int .i64 n1,.int .i64 (-1)]:=hw9.blk;have c9:w9.cell? ⟨w0.heap.size+1,3,none⟩=some (.int .i64 n1):=B9.cell rfl;push_cast -dsimp[c9];refine storeK_of B9 (by simp) rfl ?_;intro w10 hw10;have BY10:Blk w10 (w0.heap.size+1) 129 [.int .i64 6,.pointer none,.slice (some ⟨w0.heap.size,0,none⟩) 1 1,.int .i64 n1,.int .i64 n1]:=hw10.blk;have k10:Kept (·=w0.heap.size+1) w8 w10:=hw9.kept.trans hw10.kept (fun i _ h=>h);have BX10:=BX8.kept k10 (by omega);have P10:=P8.keptB k10 (fun i h=>by omega);have k10':=k8'.trans k10 (fun i h1 h2=>by omega);have V10:=V8.mono (X':=fun b=>b<w.heap.size∨w0.heap.size≤b) k10 (fun i h=>by omega) (fun i h=>h);push_cast -dsimp;refine callK_of (rtake_c P10 [44]) ?_;rintro _ w11 hT;rcases hT with ⟨_,hs5,rfl,t8,l4,el8,h58,P11,kt11⟩|⟨hs5,rfl,P11,b11⟩
        ·have hpop8:popP l3=.ok ((),l4):=by rw[el8];exact popP_cons h58
         have BY11:=BY10.kept kt11 (by omega);have BX11:=BX10.kept kt11 (by omega);have k11:=k10'.trans kt11 (fun i _ h=>h);have V11:=V10.mono (X':=fun b=>b<w.heap.size∨w0.heap.size≤b) kt11 (fun i h=>by omega) (fun i h=>h);have hbr1:bracesP l2=pif (isKind 2) (Cae.pb timesP fun hi=>if hi<n1 then pfail 2 else Cae.pb (mustP [125]) fun _=>pr ((n1:Int),(hi:Int))) (Cae.pb (mustP [125]) fun _=>pr ((n1:Int),-1)) l4:=by
          unfold bracesP;rw[pb_of hn1]
          show (if seeP [44] l3 then _ else _)=_
          rw[hs5,if_pos rfl,pb_of hpop8]
         push_cast -dsimp;refine storeK_of BY11 (by simp) rfl ?_;intro w12 hw12;have BY12:Blk w12 (w0.heap.size+1) 129 [.int .i64 6,.pointer none,.slice (some ⟨w0.heap.size,0,none⟩) 1 1,.int .i64 n1,.int .i64 (-1)]:=hw12.blk;have BX12:=BX11.kept hw12.kept (by omega);have P12:=P11.keptB hw12.kept (fun i h=>by omega);have k12:=k11.trans hw12.kept (fun i h1 h2=>by omega);have V12:=V11.mono (X':=fun b=>b<w.heap.size∨w0.heap.size≤b) hw12.kept (fun i h=>by omega) (fun i h=>h);obtain⟨t9,r9,el9⟩:=P12.cons;have P12':=P12;rw[el9]at P12';obtain⟨b9,o9,c9',hB9,hc9',hne9,c90,_⟩:=P12'.hd;have cb9:w12.cell? ⟨rb,0,none⟩=some (.slice (some ⟨b9,o9,none⟩) (r9.length+1) c9'):=hB9.cell rfl;push_cast -dsimp[cb9,c90];refine⟨by omega,fun hk2=>?_,fun hk2=>?_⟩
         ·have hik:isKind 2 l4=true:=by
           have:t9.kind=2:=by omega
           rw[el9];simp[isKind,Cae.hd,this]
          have hbr2:bracesP l2=Cae.pb timesP (fun hi=>if hi<n1 then pfail 2 else Cae.pb (mustP [125]) fun _=>pr ((n1:Int),(hi:Int))) l4:=by
           rw[hbr1];unfold pif;rw[hik,if_pos rfl]
          refine callK_of (rnumber_c P12) ?_;rintro _ w13 ⟨k13,hN2⟩;rw[show outP none timesP l4=timesP l4 from rfl]at hN2
          have BY13:=BY12.kept k13 (by omega);have BX13:=BX12.kept k13 (by omega);have k13':=k12.trans k13 (fun i _ h=>h);have V13:=V12.mono (X':=fun b=>b<w.heap.size∨w0.heap.size≤b) k13 (fun i h=>by omega) (fun i h=>h);cases hn2:timesP l4 with
          | error e =>
           rw[hn2]at hN2;obtain⟨rfl,l5,P13⟩:=hN2;have hoe:=hbe e (by rw[hbr2];unfold Cae.pb;rw[hn2]);push_cast -dsimp;refine storeK_of BY13 (by simp) rfl ?_;intro w14 hw14;have BY14:Blk w14 (w0.heap.size+1) 129 [.int .i64 6,.pointer none,.slice (some ⟨w0.heap.size,0,none⟩) 1 1,.int .i64 n1,.int .i64 0]:=hw14.blk;have P14:=P13.keptB hw14.kept (fun i h=>by omega);have k14:=k13'.trans hw14.kept (fun i h1 h2=>by omega);push_cast -dsimp;refine wpL_draw (fun w'=>w'=w14.drew) mixed (by kernel_rfl) rfl ?_;have d3:w14.drew.cell? ⟨w0.heap.size+1,3,none⟩=some (.int .i64 n1):=BY14.drew.cell rfl;have d4:w14.drew.cell? ⟨w0.heap.size+1,4,none⟩=some (.int .i64 0):=BY14.drew.cell rfl;have PD:=P14.below (below_drewR w14);have kD:=k14.trans (Kept.rb P14.le P14.lt (below_drewR w14)) (fun i _ h=>h);push_cast -dsimp[d3,d4];refine⟨fun w'' h=>by rw[h,d4];exact rfl,fun w'' h=>by rw[h,d3];exact rfl,fun hlt2=>?_,fun hge2=>?_⟩
           ·refine callK_of (rfails_c PD 2 (by decide)) ?_;rintro _ wf ⟨rfl,Pf,kf⟩;have kf':=kD.trans kf (fun i _ h=>h);push_cast -dsimp;refine callK_of (rmust_c Pf [125]) ?_;rintro _ wm ⟨km,hM⟩;have kS:=Kept.trans kf' km (fun i _ h=>h);rw[show ∀(e:Nat×Nat) l,outP (some e) (mustP [125]) l=.error e from fun _ _=>rfl]at hM
            obtain⟨rfl,lm,Pm⟩:=hM;push_cast -dsimp;refine⟨by omega,fun h8=>?_,fun h8=>?_⟩
            ·refine callK_of (rfails_c Pm 4 (by decide)) ?_;rintro _ we ⟨rfl,Pe,ke⟩;have hmue:=Pe.mu0;push_cast -dsimp[hz6];exact⟨by omega,⟨i+1,_,rfl,rfl,by omega,Kept.trans kS ke (fun i _ h=>h),.inr ⟨_,_,hoe,by omega,Pe⟩⟩,by rw[hmu,hmue];omega⟩
            ·have hmue:=RS.mu0 Pm;push_cast -dsimp[hz6];exact⟨by omega,⟨i+1,_,rfl,rfl,by omega,kS,.inr ⟨_,_,hoe,by omega,Pm⟩⟩,by rw[hmu,hmue];omega⟩
           ·
            refine callK_of (rmust_c PD [125]) ?_
            rintro _ wm ⟨km,hM⟩
            have kS:=Kept.trans kD km (fun i _ h=>h)
            rw[show ∀(e:Nat×Nat) l,outP (some e) (mustP [125]) l=.error e from fun _ _=>rfl]at hM
            obtain⟨rfl,lm,Pm⟩:=hM
            push_cast -dsimp
            refine⟨by omega,fun h8=>?_,fun h8=>?_⟩
            ·refine callK_of (rfails_c Pm 4 (by decide)) ?_;rintro _ we ⟨rfl,Pe,ke⟩;have hmue:=Pe.mu0;push_cast -dsimp[hz6];exact⟨by omega,⟨i+1,_,rfl,rfl,by omega,Kept.trans kS ke (fun i _ h=>h),.inr ⟨_,_,hoe,by omega,Pe⟩⟩,by rw[hmu,hmue];omega⟩
            ·have hmue:=RS.mu0 Pm;push_cast -dsimp[hz6];exact⟨by omega,⟨i+1,_,rfl,rfl,by omega,kS,.inr ⟨_,_,hoe,by omega,Pm⟩⟩,by rw[hmu,hmue];omega⟩
          | ok q =>
           obtain⟨n2,l5⟩:=q;rw[hn2]at hN2;obtain⟨⟨rfl,hn22⟩,P13⟩:=hN2;push_cast -dsimp;refine storeK_of BY13 (by simp) rfl ?_;intro w14 hw14;have BY14:Blk w14 (w0.heap.size+1) 129 [.int .i64 6,.pointer none,.slice (some ⟨w0.heap.size,0,none⟩) 1 1,.int .i64 n1,.int .i64 n2]:=hw14.blk;have BX14:=BX13.kept hw14.kept (by omega);have P14:=P13.keptB hw14.kept (fun i h=>by omega);have k14:=k13'.trans hw14.kept (fun i h1 h2=>by omega);have V14:=V13.mono (X':=fun b=>b<w.heap.size∨w0.heap.size≤b) hw14.kept (fun i h=>by omega) (fun i h=>h);push_cast -dsimp;refine wpL_draw (fun w'=>w'=w14.drew) mixed (by kernel_rfl) rfl ?_;have d3:w14.drew.cell? ⟨w0.heap.size+1,3,none⟩=some (.int .i64 n1):=BY14.drew.cell rfl;have d4:w14.drew.cell? ⟨w0.heap.size+1,4,none⟩=some (.int .i64 n2):=BY14.drew.cell rfl;have PD:=P14.below (below_drewR w14);have kD:=k14.trans (Kept.rb P14.le P14.lt (below_drewR w14)) (fun i _ h=>h);have BYD:=BY14.below (below_drewR w14) BY14.lt;have BXD:=BX14.below (below_drewR w14) BX14.lt;have VB:=V14.below (below_drewR w14);push_cast -dsimp[d3,d4];refine⟨fun w'' h=>by rw[h,d4];exact rfl,fun w'' h=>by rw[h,d3];exact rfl,fun hlt2=>?_,fun hge2=>?_⟩
           ·have hoe:=hbe (2,(Cae.hd l5).pos) (by rw[hbr2,pb_of hn2,if_pos (by omega)];rfl);refine callK_of (rfails_c PD 2 (by decide)) ?_;rintro _ wf ⟨rfl,Pf,kf⟩;have kf':=kD.trans kf (fun i _ h=>h);have Pf:RS rb B wf l5 (some (2,(Cae.hd l5).pos)):=Pf;push_cast -dsimp;refine callK_of (rmust_c Pf [125]) ?_;rintro _ wm ⟨km,hM⟩;have kS:=Kept.trans kf' km (fun i _ h=>h);rw[show ∀(e:Nat×Nat) l,outP (some e) (mustP [125]) l=.error e from fun _ _=>rfl]at hM
            obtain⟨rfl,lm,Pm⟩:=hM;push_cast -dsimp;refine⟨by omega,fun h8=>?_,fun h8=>?_⟩
            ·refine callK_of (rfails_c Pm 4 (by decide)) ?_;rintro _ we ⟨rfl,Pe,ke⟩;have hmue:=Pe.mu0;push_cast -dsimp[hz6];exact⟨by omega,⟨i+1,_,rfl,rfl,by omega,Kept.trans kS ke (fun i _ h=>h),.inr ⟨_,_,hoe,by omega,Pe⟩⟩,by rw[hmu,hmue];omega⟩
            ·have hmue:=RS.mu0 Pm;push_cast -dsimp[hz6];exact⟨by omega,⟨i+1,_,rfl,rfl,by omega,kS,.inr ⟨_,_,hoe,by omega,Pm⟩⟩,by rw[hmu,hmue];omega⟩
           ·have hbr3:bracesP l2=Cae.pb (mustP [125]) (fun _=>pr ((n1:Int),(n2:Int))) l5:=by
             rw[hbr2,pb_of hn2,if_neg (by omega)]
            have hlq:∃lq,lq=l5:=⟨_,rfl⟩;obtain⟨lq,hlq⟩:=hlq;rw[←hlq]at hbr3 PD;refine callK_of (rmust_c PD [125]) ?_;rintro _ wm ⟨km,hM⟩;have kS:=Kept.trans kD km (fun i _ h=>h);cases hm5:mustP [125] lq with
            | ok q =>
             obtain⟨_,lm⟩:=q;rw[show outP none (mustP [125]) lq=mustP [125] lq from rfl,hm5]at hM
             obtain⟨rfl,Pm⟩:=hM;have hbr:bracesP l2=.ok (((n1:Int),(n2:Int)),lm):=by rw[hbr3,pb_of hm5];rfl
             have hsuf:suffixP l1=.ok (some ((n1:Int),(n2:Int)),lm):=by rw[hsx,pb_of hbr];rfl
             have hlm:lm.length≤l2.length:=by
              obtain⟨pre,_,e,_⟩:=lo_braces _ _ _ hbr;rw[e,List.length_append];omega
             have BY:=Blk.kept BYD km (by omega);have BX:=Blk.kept BXD km (by omega);have VX:=VB.mono (X':=(·<w.heap.size)) km (fun i h=>by omega) (fun i h=>.inl h);push_cast -dsimp;have hm1:∃m',m=m'+1:=⟨m-1,by omega⟩;obtain⟨m',hmm⟩:=hm1;have hag:out=if d≤c+1 then pfail 4 lm else againLoop d m' (c+1) (.many x (n1:Int) (n2:Int)) lm:=by
              rw[←hm2,hmm,againLoop,pb_of hsuf];dsimp only;split<;>rfl
             refine⟨by omega,fun h8=>?_,fun h8=>?_⟩
             ·refine callK_of (rfails_c Pm 4 (by decide)) ?_;rintro _ we ⟨rfl,Pe,ke⟩;have hmue:=Pe.mu0;push_cast -dsimp[hz6];refine⟨by omega,⟨i+1,_,rfl,rfl,by omega,kS.trans ke (fun i _ h=>h),.inr ⟨_,_,?_,by omega,Pe⟩⟩,by rw[hmu,hmue];omega⟩;rw[hag,if_pos (by omega)];rfl
             ·have hmue:=RS.mu Pm;have hzS:=kS.size;push_cast -dsimp[hz6];refine⟨by omega,⟨i+1,_,rfl,rfl,by omega,kS,.inl ⟨m',c+1,.many x (n1:Int) (n2:Int),lm,?_,by omega,by omega,by omega,?_,Pm⟩⟩,by rw[hmu,hmue];omega⟩
              ·rw[hag,if_neg (by omega)]
              ·simp only[PatV];exact⟨_,_,_,rfl,by omega,BY,sl_blk1 BX (by omega),VX⟩
            | error e =>
             rw[show outP none (mustP [125]) lq=mustP [125] lq from rfl,hm5]at hM
             obtain⟨rfl,lm,Pm⟩:=hM;have hbr:bracesP l2=.error e:=by rw[hbr3];unfold Cae.pb;rw[hm5]
             have hoe:out=.error e:=by
              rw[←hm2];refine again_err hm ?_;rw[hsx];unfold Cae.pb;rw[hbr]
             push_cast -dsimp;refine⟨by omega,fun h8=>?_,fun h8=>?_⟩
             ·refine callK_of (rfails_c Pm 4 (by decide)) ?_;rintro _ we ⟨rfl,Pe,ke⟩;have hmue:=Pe.mu0;push_cast -dsimp[hz6];exact⟨by omega,⟨i+1,_,rfl,rfl,by omega,Kept.trans kS ke (fun i _ h=>h),.inr ⟨_,_,hoe,by omega,Pe⟩⟩,by rw[hmu,hmue];omega⟩
             ·have hmue:=RS.mu0 Pm;push_cast -dsimp[hz6];exact⟨by omega,⟨i+1,_,rfl,rfl,by omega,kS,.inr ⟨_,_,hoe,by omega,Pm⟩⟩,by rw[hmu,hmue];omega⟩
         ·have hik:isKind 2 l4=false:=by
           have:t9.kind≠2:=fun e=>hk2 (by omega);rw[el9];simp[isKind,Cae.hd,this]
          have hbr2:bracesP l2=Cae.pb (mustP [125]) (fun _=>pr ((n1:Int),-1)) l4:=by
           rw[hbr1];unfold pif;rw[hik,if_neg (by decide)]
          have VB:=V12;have hlq:∃lq,lq=l4:=⟨_,rfl⟩;obtain⟨lq,hlq⟩:=hlq;rw[←hlq]at hbr2 P12;refine callK_of (rmust_c P12 [125]) ?_;rintro _ wm ⟨km,hM⟩;have kS:=Kept.trans k12 km (fun i _ h=>h);cases hm5:mustP [125] lq with
          | ok q =>
           obtain⟨_,lm⟩:=q;rw[show outP none (mustP [125]) lq=mustP [125] lq from rfl,hm5]at hM
           obtain⟨rfl,Pm⟩:=hM;have hbr:bracesP l2=.ok (((n1:Int),(-1)),lm):=by rw[hbr2,pb_of hm5];rfl
           have hsuf:suffixP l1=.ok (some ((n1:Int),(-1)),lm):=by rw[hsx,pb_of hbr];rfl
           have hlm:lm.length≤l2.length:=by
            obtain⟨pre,_,e,_⟩:=lo_braces _ _ _ hbr;rw[e,List.length_append];omega
           have BY:=Blk.kept BY12 km (by omega);have BX:=Blk.kept BX12 km (by omega);have VX:=VB.mono (X':=(·<w.heap.size)) km (fun i h=>by omega) (fun i h=>.inl h);push_cast -dsimp;have hm1:∃m',m=m'+1:=⟨m-1,by omega⟩;obtain⟨m',hmm⟩:=hm1;have hag:out=if d≤c+1 then pfail 4 lm else againLoop d m' (c+1) (.many x (n1:Int) (-1)) lm:=by
            rw[←hm2,hmm,againLoop,pb_of hsuf];dsimp only;split<;>rfl
           refine⟨by omega,fun h8=>?_,fun h8=>?_⟩
           ·refine callK_of (rfails_c Pm 4 (by decide)) ?_;rintro _ we ⟨rfl,Pe,ke⟩;have hmue:=Pe.mu0;push_cast -dsimp[hz6];refine⟨by omega,⟨i+1,_,rfl,rfl,by omega,kS.trans ke (fun i _ h=>h),.inr ⟨_,_,?_,by omega,Pe⟩⟩,by rw[hmu,hmue];omega⟩;rw[hag,if_pos (by omega)];rfl
           ·have hmue:=RS.mu Pm;have hzS:=kS.size;push_cast -dsimp[hz6];refine⟨by omega,⟨i+1,_,rfl,rfl,by omega,kS,.inl ⟨m',c+1,.many x (n1:Int) (-1),lm,?_,by omega,by omega,by omega,?_,Pm⟩⟩,by rw[hmu,hmue];omega⟩
            ·rw[hag,if_neg (by omega)]
            ·simp only[PatV];exact⟨_,_,_,rfl,by omega,BY,sl_blk1 BX (by omega),VX⟩
          | error e =>
           rw[show outP none (mustP [125]) lq=mustP [125] lq from rfl,hm5]at hM
           obtain⟨rfl,lm,Pm⟩:=hM;have hbr:bracesP l2=.error e:=by rw[hbr2];unfold Cae.pb;rw[hm5]
           have hoe:out=.error e:=by
            rw[←hm2];refine again_err hm ?_;rw[hsx];unfold Cae.pb;rw[hbr]
           push_cast -dsimp;refine⟨by omega,fun h8=>?_,fun h8=>?_⟩
           ·refine callK_of (rfails_c Pm 4 (by decide)) ?_;rintro _ we ⟨rfl,Pe,ke⟩;have hmue:=Pe.mu0;push_cast -dsimp[hz6];exact⟨by omega,⟨i+1,_,rfl,rfl,by omega,Kept.trans kS ke (fun i _ h=>h),.inr ⟨_,_,hoe,by omega,Pe⟩⟩,by rw[hmu,hmue];omega⟩
           ·have hmue:=RS.mu0 Pm;push_cast -dsimp[hz6];exact⟨by omega,⟨i+1,_,rfl,rfl,by omega,kS,.inr ⟨_,_,hoe,by omega,Pm⟩⟩,by rw[hmu,hmue];omega⟩
        ·have BY11:=BY10.below b11 BY10.lt;have BX11:=BX10.below b11 BX10.lt;have k11:=k10'.trans (Kept.rb P10.le P10.lt b11) (fun i _ h=>h);have VB:=V10.below b11;have hbr2:bracesP l2=Cae.pb (mustP [125]) (fun _=>pr ((n1:Int),(n1:Int))) l3:=by
          unfold bracesP;rw[pb_of hn1]
          show (if seeP [44] l3 then _ else _)=_
          rw[show seeP [44] l3=false from hs5,if_neg (by decide)]
         have hlq:∃lq,lq=l3:=⟨_,rfl⟩;obtain⟨lq,hlq⟩:=hlq;rw[←hlq]at hbr2 P11;push_cast -dsimp;refine callK_of (rmust_c P11 [125]) ?_;rintro _ wm ⟨km,hM⟩;have kS:=Kept.trans k11 km (fun i _ h=>h);cases hm5:mustP [125] lq with
         | ok q =>
          obtain⟨_,lm⟩:=q;rw[show outP none (mustP [125]) lq=mustP [125] lq from rfl,hm5]at hM
          obtain⟨rfl,Pm⟩:=hM;have hbr:bracesP l2=.ok (((n1:Int),(n1:Int)),lm):=by rw[hbr2,pb_of hm5];rfl
          have hsuf:suffixP l1=.ok (some ((n1:Int),(n1:Int)),lm):=by rw[hsx,pb_of hbr];rfl
          have hlm:lm.length≤l2.length:=by
           obtain⟨pre,_,e,_⟩:=lo_braces _ _ _ hbr;rw[e,List.length_append];omega
          have BY:=Blk.kept BY11 km (by omega);have BX:=Blk.kept BX11 km (by omega);have VX:=VB.mono (X':=(·<w.heap.size)) km (fun i h=>by omega) (fun i h=>.inl h);push_cast -dsimp;have hm1:∃m',m=m'+1:=⟨m-1,by omega⟩;obtain⟨m',hmm⟩:=hm1;have hag:out=if d≤c+1 then pfail 4 lm else againLoop d m' (c+1) (.many x (n1:Int) (n1:Int)) lm:=by
           rw[←hm2,hmm,againLoop,pb_of hsuf];dsimp only;split<;>rfl
          refine⟨by omega,fun h8=>?_,fun h8=>?_⟩
          ·refine callK_of (rfails_c Pm 4 (by decide)) ?_;rintro _ we ⟨rfl,Pe,ke⟩;have hmue:=Pe.mu0;push_cast -dsimp[hz6];refine⟨by omega,⟨i+1,_,rfl,rfl,by omega,kS.trans ke (fun i _ h=>h),.inr ⟨_,_,?_,by omega,Pe⟩⟩,by rw[hmu,hmue];omega⟩;rw[hag,if_pos (by omega)];rfl
          ·have hmue:=RS.mu Pm;have hzS:=kS.size;push_cast -dsimp[hz6];refine⟨by omega,⟨i+1,_,rfl,rfl,by omega,kS,.inl ⟨m',c+1,.many x (n1:Int) (n1:Int),lm,?_,by omega,by omega,by omega,?_,Pm⟩⟩,by rw[hmu,hmue];omega⟩
           ·rw[hag,if_neg (by omega)]
           ·simp only[PatV];exact⟨_,_,_,rfl,by omega,BY,sl_blk1 BX (by omega),VX⟩
         | error e =>
          rw[show outP none (mustP [125]) lq=mustP [125] lq from rfl,hm5]at hM
          obtain⟨rfl,lm,Pm⟩:=hM;have hbr:bracesP l2=.error e:=by rw[hbr2];unfold Cae.pb;rw[hm5]
          have hoe:out=.error e:=by
           rw[←hm2];refine again_err hm ?_;rw[hsx];unfold Cae.pb;rw[hbr]
          push_cast -dsimp;refine⟨by omega,fun h8=>?_,fun h8=>?_⟩
          ·refine callK_of (rfails_c Pm 4 (by decide)) ?_;rintro _ we ⟨rfl,Pe,ke⟩;have hmue:=Pe.mu0;push_cast -dsimp[hz6];exact⟨by omega,⟨i+1,_,rfl,rfl,by omega,Kept.trans kS ke (fun i _ h=>h),.inr ⟨_,_,hoe,by omega,Pe⟩⟩,by rw[hmu,hmue];omega⟩
          ·have hmue:=RS.mu0 Pm;push_cast -dsimp[hz6];exact⟨by omega,⟨i+1,_,rfl,rfl,by omega,kS,.inr ⟨_,_,hoe,by omega,Pm⟩⟩,by rw[hmu,hmue];omega⟩
      ·have hnone:out=.ok (x,l1):=by
        obtain⟨m',rfl⟩:∃m',m=m'+1:=⟨m-1,by omega⟩;rw[←hm2,againLoop];have hsn:suffixP l1=.ok (none,l1):=by
         unfold suffixP pif;rw[show seeP [42] l1=false from hs1,show seeP [43] l1=false from hs2,show seeP [63] l1=false from hs3,show seeP [123] l1=false from hs4,if_neg (by decide),if_neg (by decide),if_neg (by decide),if_neg (by decide)]
         rfl
        rw[pb_of hsn];rfl
       have BY7:=BY6.below b7 BY6.lt;have BX7:=BX6.below b7 BX6.lt;have k7:=k6.trans (Kept.rb P6.le P6.lt b7) (fun i _ h=>h);have V7:=V6.below b7;rw[hnone];push_cast -dsimp[hz5];exact⟨k7,V7.mono (X':=(·<w.heap.size)) (Kept.refl (fun _=>False) w7) (fun _ h=>h.elim) (fun i h=>.inl h),P7⟩
  ·push_cast -dsimp[hz6,hz5];refine callK_of (rok_c P1) ?_;rintro _ w2 ⟨rfl,hb2⟩;push_cast -dsimp[hz5];rw[hoe];exact⟨hkw.trans (Kept.rb P1.le P1.lt hb2) (fun i _ h=>h),⟨_,rfl⟩,_,P1.below hb2⟩
def encQ (a:Option Addr):List Value:=[.pointer a]
theorem encQ_one (b:Option Addr):∀u∈encQ b,u.oneCell'=true:=by
 intro u hu;simp[encQ]at hu;subst hu;rfl
def atP (b:Nat):Option Addr:=some ⟨b,0,none⟩
structure LVs (S xb:Nat)(code:Int)(w:World)(sv:Value)(us:List (Option Addr))(acc:Option (List PatP)):Prop where
 blk:Blk w xb 129 [.int .i64 code,.pointer none,sv,.int .i64 0,.int .i64 0]
 own:Vc.Own S 58 1 encQ w sv us
 ne:∀g,sv.ownBlock=some g→g≠xb
 acc:∀l,acc=some l→∃vs:List Nat,us=vs.map atP∧PatsV (fun b=>b<S∨b=xb∨sv.ownBlock=some b) w vs l
 lo:S≤xb
def LV (S xb:Nat)(code:Int)(w:World)(us:List (Option Addr))(acc:Option (List PatP)):Prop:=∃sv,LVs S xb code w sv us acc
theorem LVs.kept {S xb:Nat}{code:Int}{w w':World}{sv:Value}{us:List (Option Addr)}{acc:Option (List PatP)}{Y:Nat→Prop}(h:LVs S xb code w sv us acc)(hk:Kept Y w w')(hY:∀i,Y i→i<S∨w.heap.size≤i):LVs S xb code w' sv us acc:=by
 obtain⟨hB,hO,hne,ha,hlo⟩:=h;have hl:=hB.lt;refine⟨hB.kept hk (fun hh=>by have:=hY _ hh;omega),hO.keptX hk (fun g hg hh=>by have:=hO.block g hg;have:=hY _ hh;omega),hne,fun l he=>?_,hlo⟩;obtain⟨vs,e,hv⟩:=ha l he;exact⟨vs,e,PatsV.mono (X:=fun b=>(b<S∨b=xb∨sv.ownBlock=some b)∨w.heap.size≤b) hk (fun i hi=>(hY i hi).imp .inl id) (fun i hi=>.inl hi) (PatsV.top hv)⟩
theorem LV.kept {S xb:Nat}{code:Int}{w w':World}{us:List (Option Addr)}{acc:Option (List PatP)}{Y:Nat→Prop}(h:LV S xb code w us acc)(hk:Kept Y w w')(hY:∀i,Y i→i<S∨w.heap.size≤i):LV S xb code w' us acc:=by
 obtain⟨sv,h⟩:=h;exact⟨sv,h.kept hk hY⟩
theorem LV.below {S xb:Nat}{code:Int}{w w':World}{us:List (Option Addr)}{acc:Option (List PatP)}(h:LV S xb code w us acc)(hb:Below w.heap.size w w'):LV S xb code w' us acc :=
 h.kept (Kept.of_below hb (X:=fun i=>w.heap.size≤i) (fun i h1 h2=>h1)) (fun i hi=>.inr hi)
theorem LVs.cut {S xb:Nat}{code:Int}{w:World}{sv:Value}{us:List (Option Addr)}{acc acc':Option (List PatP)}(h:LVs S xb code w sv us acc)(he:∀l,acc'=some l→acc=some l):LVs S xb code w sv us acc' :=
 ⟨h.blk,h.own,h.ne,fun l hl=>h.acc l (he l hl),h.lo⟩
theorem LV.cut {S xb:Nat}{code:Int}{w:World}{us:List (Option Addr)}{acc acc':Option (List PatP)}(h:LV S xb code w us acc)(he:∀l,acc'=some l→acc=some l):LV S xb code w us acc':=by
 obtain⟨sv,h⟩:=h;exact⟨sv,h.cut he⟩
theorem LV.push {S xb T:Nat}{code:Int}{w3 w4 w5 w6:World}{us:List (Option Addr)}{acc:Option (List PatP)}{sv sv5:Value}{u:Option Addr}{acc':Option (List PatP)}
  (h:LVs S xb code w3 sv us acc)
  (hT:S≤T∧xb<T∧∀g,sv.ownBlock=some g→g<T) (hT3:T≤w3.heap.size)
  (hw4:New w3 w4 58 [.pointer u]) (hO5:Vc.Own S 58 1 encQ w5 sv5 (us++[u])) (hg5:Kept (fun j=>sv.ownBlock=some j) w4 w5) (hn5:∀g,sv5.ownBlock=some g→sv.ownBlock=some g∨w4.heap.size≤g)
  (hw6:Put w5 w6 xb 129 [.int .i64 code,.pointer none,sv5,.int .i64 0,.int .i64 0])
  (hu:∀l',acc'=some l'→∃l x ub,acc=some l∧l'=l++[x]∧u=atP ub∧PatV (·<T) w3 (ptrP ub) x):LV S xb code w6 (us++[u]) acc':=by
 obtain⟨hB,hO,hne,ha,hlo⟩:=h;have z4:=hw4.size;have hne6:∀g,sv5.ownBlock=some g→g≠xb:=fun g hg=>by
  rcases hn5 g hg with h|h
  ·exact hne g h
  ·omega
 have kY:Kept (fun i=>i=xb∨sv.ownBlock=some i) w3 w6:=((Kept.new (X:=fun i=>i=xb∨sv.ownBlock=some i) hw4).trans hg5 (fun i _ h=>.inr h)).trans hw6.kept (fun i _ h=>.inl h);refine⟨sv5,hw6.blk,hO5.keptX hw6.kept (fun g hg h=>hne6 g hg h),hne6,fun l' hl'=>?_,hlo⟩;obtain⟨l,x,ub,hl,rfl,rfl,hV⟩:=hu l' hl';obtain⟨vs,e,hv⟩:=ha l hl;refine⟨vs++[ub],by rw[e,List.map_append];rfl,?_⟩;have hX:∀i,(i<S∨i=xb∨sv5.ownBlock=some i)→i<S∨i=xb∨sv.ownBlock=some i∨w4.heap.size≤i:=fun i h=>by
  rcases h with h|h|h
  ·exact .inl h
  ·exact .inr (.inl h)
  ·rcases hn5 i h with h|h
   ·exact .inr (.inr (.inl h))
   ·exact .inr (.inr (.inr h))
 refine PatsV.snoc (PatsV.mono kY (fun i h=>?_) (fun i h=>?_) (PatsV.top hv)) (PatV.mono kY (fun i h=>?_) (fun i h=>?_) hV.top)
 ·rcases h with h|h
  ·exact .inl (.inr (.inl h))
  ·exact .inl (.inr (.inr h))
 ·rcases hX i h with h|h|h|h
  ·exact .inl (.inl h)
  ·exact .inl (.inr (.inl h))
  ·exact .inl (.inr (.inr h))
  ·exact .inr (by omega)
 ·rcases h with h|h
  ·exact .inl (by omega)
  ·exact .inl (hT.2.2 i h)
 ·rcases hX i h with h|h|h|h
  ·exact .inl (by omega)
  ·exact .inl (by omega)
  ·exact .inl (hT.2.2 i h)
  ·exact .inr (by omega)
theorem Sl.ptrs {X:Nat→Prop}{w:World}{v:Value}{vs:List Nat}(h:Sl X 1 (En encQ) w v (vs.map atP)):Sl X 1 (En encP) w v vs:=by
 unfold Sl at h ⊢
 obtain⟨a,c,rfl,hc,h⟩:=h;refine⟨a,c,by rw[List.length_map],by rw[List.length_map]at hc;exact hc,fun i x hx=>?_⟩;obtain⟨b,o,cs,ha,hb,hcs,hcell,hr⟩:=h i (atP x) (by rw[List.getElem?_map,hx];rfl);exact⟨b,o,cs,ha,hb,hcs,hcell,hr⟩
theorem LV.cat {S xb:Nat}{w:World}{us:List (Option Addr)}{l:List PatP}(h:LV S xb 4 w us (some l)):PatV (·<S) w (ptrP xb) (.cat l):=by
 obtain⟨sv,hB,hO,hne,ha,hlo⟩:=h;obtain⟨vs,e,hv⟩:=ha l rfl;subst e;simp only[PatV];exact⟨_,_,vs,rfl,by omega,hB,Sl.ptrs (hO.sl.weaken (fun i h=>h)),PatsV.mono (Kept.refl (fun _=>False) _) (fun _ h=>h.elim) (fun i h=>.inl h) hv⟩
theorem LV.alt {S xb:Nat}{w:World}{us:List (Option Addr)}{l:List PatP}(h:LV S xb 5 w us (some l)):PatV (·<S) w (ptrP xb) (.alt l):=by
 obtain⟨sv,hB,hO,hne,ha,hlo⟩:=h;obtain⟨vs,e,hv⟩:=ha l rfl;subst e;simp only[PatV];exact⟨_,_,vs,rfl,by omega,hB,Sl.ptrs (hO.sl.weaken (fun i h=>h)),PatsV.mono (Kept.refl (fun _=>False) _) (fun _ h=>h.elim) (fun i h=>.inl h) hv⟩
theorem LV.one {S xb:Nat}{code:Int}{w:World}{u:Option Addr}{l:List PatP}(h:LV S xb code w [u] (some l)):∃x ub,l=[x]∧u=atP ub∧PatV (·<S) w (ptrP ub) x:=by
 obtain⟨sv,hB,hO,hne,ha,hlo⟩:=h;obtain⟨vs,e,hv⟩:=ha l rfl;match vs,e with
 | [ub],e =>
  have hl:=PatsV.len hv;obtain⟨x,rfl⟩:∃x,l=[x]:=List.length_eq_one_iff.1 (by simpa using hl.symm);simp only[PatsV,and_true]at hv;refine⟨x,ub,rfl,by simpa using e,PatV.mono (Kept.refl (fun _=>False) _) (fun _ h=>h.elim) (fun i h=>.inl h) hv⟩
theorem LV.len {S xb:Nat}{code:Int}{w:World}{us:List (Option Addr)}{l:List PatP}(h:LV S xb code w us (some l)):us.length=l.length:=by
 obtain⟨sv,hB,hO,hne,ha,hlo⟩:=h;obtain⟨vs,e,hv⟩:=ha l rfl;rw[e,List.length_map,PatsV.len hv]
end Go.Proofs.YtodeeahdhnjpkaaGreatDoor
end
