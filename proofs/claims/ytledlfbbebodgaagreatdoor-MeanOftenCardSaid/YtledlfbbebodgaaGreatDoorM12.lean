/- Texts of this claim, merged: Mn8, Mn9, MnA, MnB, AsF, As, Tell, Vl, RowL, RowC, Pmir, Pwd, At0, RvP, Pick. -/
import Derived.Test.YtledlfbbebodgaaGreatDoorM10
import Derived.Test.YtledlfbbebodgaaGreatDoorM11
import Derived.Test.YtledlfbbebodgaaGreatDoorM5
import Derived.Test.YtledlfbbebodgaaGreatDoorM1
import Derived.Test.YtledlfbbebodgaaGreatDoorM2
import Derived.Test.YtledlfbbebodgaaGreatDoorTie
import Derived.WalkKit
import Derived.ProofKit
import Derived.Handy
import Derived.Lay
import Derived.OpenShut
import Derived.LaidMore
import Derived.Carry
import Derived.SevenTiedAt
import Derived.LaidHandle
import Derived.LaidSub
import Derived.LaidLaws
import Derived.Lib.LaidTab
import Derived.HandedShaped
import Derived.Shelf.Vars
import Derived.Test.YtledlfbbebodgaaGreatDoorM7
set_option maxRecDepth 100000
set_option linter.unusedSimpArgs false
set_option linter.unusedVariables false
set_option maxHeartbeats 8000000
section
namespace Go.Proofs.YtledlfbbebodgaaGreatDoor
open Go.Vc Go.Proofs Go.RowKit Cae
attribute [local irreducible] wpL callK valK unitK runK Fun Sl Vc.Own vc vcOps opK pureK
def chkS (f:FileP):Option (Int×Nat):=match namesS [] f.classes with
 | .error e=>some (errN e)
 | .ok nm=>(rulesS nm f.rules).map fun e=>((7:Int),e)
theorem rulesS_app {nm:NamesP}:∀(a b:List RuleP),rulesS nm (a++b)=match rulesS nm a with
  | some e=>some e
  | none=>rulesS nm b
 | [],b=>by simp only[List.nil_append,rulesS]
 | x :: a,b=>by
  simp only[List.cons_append,rulesS];cases ruleS nm x with
  | some e=>rfl
  | none=>exact rulesS_app a b
def PnOk (f:FileP):Prop:=∀r∈f.rules,wd r.before≤100000∧wd r.after≤100000
theorem PatV.weak {X X':Nat→Prop} {w:World} {x:PatP} {v:Value} (h:PatV X w v x) (hX:∀b,X' b→X b):PatV X' w v x:=h.mono (Kept.refl (fun _=>False) w) (fun _ h=>h.elim) hX
theorem check_c (f:FileP) (hok:FileOk f) (hpn:PnOk f) (hlc:f.classes.length≤1000000) (hlr:f.rules.length≤1000000) (X:Nat→Prop) (v:Value) (w:World) (hv:FileV X w v f) :
  Fun Tryz.prog 31 [v] w fun r w'=>ErrAt w.heap.size (chkS f) r w'∧Below w.heap.size w w':=by
 have hv0:=hv;obtain⟨cv,rv,cs,rs,rfl,hcs,hrs,hC,hR⟩:=hv;have hrl:=All2.len hR;obtain⟨ca,cc,rfl,hcc⟩:=hcs.shape;obtain⟨ra,rc,rfl,hrc⟩:=hrs.shape;refine fun_of_vc Tryz.func31 rfl (by kernel_rfl) [2] rfl ?_;simp -dsimp (maxSteps:=4000000) only[push_cast,fr0,Tryz.ntmps31,List.length_cons,List.length_nil,Nat.reduceAdd,Nat.reduceSub,Nat.reduceBEq,List.replicate_succ,List.replicate_zero]
 refine boxK_of ?_;intro w1 hw1;have hw1:New w w1 26 [.slice ca cs.length cc,.slice ra rs.length rc,.bool f.els]:=hw1;have z1:=hw1.size;have d0:cellsAt w1 ⟨w.heap.size,0,none⟩ 0 3=some [.slice ca cs.length cc,.slice ra rs.length rc,.bool f.els]:=hw1.blk.cellsAt;have hv1:FileV X w1 (.agg #[.slice ca cs.length cc,.slice ra rs.length rc,.bool f.els]) f:=hv0.below hw1.below
 simp -dsimp only[push_cast,Nat.reduceAdd,Nat.reduceLeDiff,Nat.reduceBEq,Int.reduceNe,Int.reduceEq,Int.reduceLT,Int.reduceLE,d0];refine callK_of (names_c f hok.1 hlc X _ w1 hv1) ?_;rintro r w2 ⟨hN,hb2⟩;have z2:=hb2.size;have hbw2:=hw1.below.trans (hb2.mono (by omega));have B2:=hw1.blk.below hb2 (by omega);unfold NamesRes at hN;cases hnm:namesS [] f.classes with
 | error e =>
  rw[hnm]at hN;obtain⟨ev,rfl,hE⟩:=hN;obtain⟨eb,heb,rfl,hEB⟩:=hE;simp -dsimp only[push_cast,Nat.reduceAdd,Nat.reduceLeDiff,Nat.reduceBEq,Int.reduceNe,Int.reduceEq,Int.reduceLT,Int.reduceLE];refine⟨?_,hbw2⟩;unfold chkS;rw[hnm];exact⟨eb,by omega,rfl,hEB⟩
 | ok nm =>
  rw[hnm]at hN;obtain⟨mb,hmb,rfl,hNV,hRN⟩:=hN;have d1:w2.cell? ⟨w.heap.size,1,none⟩=some (.slice ra rs.length rc):=B2.cell rfl;simp -dsimp only[push_cast,Nat.reduceAdd,Nat.reduceLeDiff,Nat.reduceBEq,Int.reduceNe,Int.reduceEq,Int.reduceLT,Int.reduceLE,d1]
  refine wpL_loop [2,6,7,8,20,21,22,23,24,25,26,27,28,29,30,31,32,33,34,35,36,37,38] (fun z wx=>∃(i:Nat),z 20=.int .i64 i∧i≤f.rules.length∧rulesS nm (f.rules.take i)=none∧Below w2.heap.size w2 wx) (fun z _=>f.rules.length - (intOf (z 20)).toNat) ?_ ?_
  ·exact⟨0,rfl,Nat.zero_le _,by simp[rulesS],Below.refl _ _⟩
  ·intro z wx hI;obtain⟨i,h20,hi,hno,hbx2⟩:=hI;have zx:=hbx2.size;have hbx:=hbw2.trans (hbx2.mono (by omega));simp -dsimp only[push_cast,Nat.reduceAdd,Nat.reduceLeDiff,Nat.reduceBEq,Int.reduceNe,Int.reduceEq,Int.reduceLT,Int.reduceLE,h20];refine⟨fun hlt=>?_,fun hge=>?_⟩
   ·obtain⟨c,hc,hcm,_,ht⟩:=lt_get (l:=f.rules) (i:=i) (by omega);obtain⟨x,hx,hxp,hxb,hx1,hx2⟩:=all2_nth hR hc;obtain⟨xp,xb,x1,x2⟩:=x;simp only at hxp hxb hx1 hx2;subst hxp;subst hxb;obtain⟨b1,o,rfl,hnb,hcell⟩:=(hrs.below hbx).get hx
    have c4:cellsAt wx ⟨b1,o+i*4,none⟩ 0 4=some [.int .i64 c.pos,.bool c.brk,.pointer (some ⟨x1,0,none⟩),.pointer (some ⟨x2,0,none⟩)]:=cellsAt_of _ 0 (fun j u hu=>by simpa[encRu,ptrP] using hcell j u hu);simp -dsimp only[push_cast,Nat.reduceAdd,Nat.reduceLeDiff,Nat.reduceBEq,Int.reduceNe,Int.reduceEq,Int.reduceLT,Int.reduceLE,c4];refine⟨⟨by omega,by omega⟩,?_⟩
    refine allocK (z:=[.int .i64 0,.bool false,.pointer none,.pointer none]) (by kernel_rfl) ?_;intro wa hwa;have za:=hwa.size;simp -dsimp only[push_cast,Nat.reduceAdd,Nat.reduceLeDiff,Nat.reduceBEq,Int.reduceNe,Int.reduceEq,Int.reduceLT,Int.reduceLE];refine storeAgg (n:=4) (by kernel_rfl) hwa.blk rfl (by simp) (by simp[Value.oneCell']) ?_;intro wb hwb;have zb:=hwb.size
    have hbb:Below wx.heap.size wx wb:=hwa.below.trans (hwb.kept.below (by omega) (fun i h=>by omega));have hb2b:=hbx2.trans (hbb.mono (by omega));have hbwb:=hbx.trans (hbb.mono (by omega));have Rb:Blk wb wx.heap.size 50 [.int .i64 c.pos,.bool c.brk,.pointer (some ⟨x1,0,none⟩),.pointer (some ⟨x2,0,none⟩)]:=hwb.blk
    have e2:wb.cell? ⟨wx.heap.size,2,none⟩=some (.pointer (some ⟨x1,0,none⟩)):=Rb.cell rfl;have hP1:PatV (fun b=>X b∧b<w1.heap.size) wb (ptrP x1) c.before:=PatV.weak (PatV.below hx1 hbwb) (fun b h=>h.1);simp -dsimp only[push_cast,Nat.reduceAdd,Nat.reduceLeDiff,Nat.reduceBEq,Int.reduceNe,Int.reduceEq,Int.reduceLT,Int.reduceLE,e2]
    refine callK_of (chk_c c.before (hok.2 c hcm).1 (by have:=(hpn c hcm).1;omega) nm hRN _ _ mb wb hP1 (hNV.below hb2b)) ?_;rintro r3 w3 ⟨hE3,hb3⟩;have z3:=hb3.size;have hb23:=hb2b.trans (hb3.mono (by omega));have hbw3:=hbwb.trans (hb3.mono (by omega));have Rc:=Rb.below hb3 Rb.lt;have e3:w3.cell? ⟨wx.heap.size,3,none⟩=some (.pointer (some ⟨x2,0,none⟩)):=Rc.cell rfl
    have hsp:f.rules=f.rules.take (i+1)++f.rules.drop (i+1):=(List.take_append_drop _ _).symm;unfold PatE at hE3;cases hp1:patS nm c.before with
    | some e =>
     rw[hp1]at hE3;obtain⟨eb,heb,rfl,hEB⟩:=hE3;simp -dsimp only[push_cast,Nat.reduceAdd,Nat.reduceLeDiff,Nat.reduceBEq,Int.reduceNe,Int.reduceEq,Int.reduceLT,Int.reduceLE];refine⟨?_,hbw3⟩;have hall:rulesS nm f.rules=some e:=by
      rw[hsp,rulesS_app,ht,rulesS_app,hno];simp only[rulesS,ruleS,hp1]
     unfold chkS;rw[hnm];dsimp only;rw[hall];exact⟨eb,by omega,rfl,hEB⟩
    | none =>
     rw[hp1]at hE3;have hE3:r3=.nilIface:=hE3;subst hE3;have hP2:PatV (fun b=>X b∧b<w1.heap.size) w3 (ptrP x2) c.after:=PatV.weak (PatV.below hx2 hbw3) (fun b h=>h.1);simp -dsimp only[push_cast,Nat.reduceAdd,Nat.reduceLeDiff,Nat.reduceBEq,Int.reduceNe,Int.reduceEq,Int.reduceLT,Int.reduceLE,e3]
     refine callK_of (chk_c c.after (hok.2 c hcm).2 (by have:=(hpn c hcm).2;omega) nm hRN _ _ mb w3 hP2 (hNV.below hb23)) ?_;rintro r4 w4 ⟨hE4,hb4⟩;have z4:=hb4.size;have hbw4:=hbw3.trans (hb4.mono (by omega));unfold PatE at hE4;cases hp2:patS nm c.after with
     | some e =>
      rw[hp2]at hE4;obtain⟨eb,heb,rfl,hEB⟩:=hE4;simp -dsimp only[push_cast,Nat.reduceAdd,Nat.reduceLeDiff,Nat.reduceBEq,Int.reduceNe,Int.reduceEq,Int.reduceLT,Int.reduceLE];refine⟨?_,hbw4⟩;have hall:rulesS nm f.rules=some e:=by
       rw[hsp,rulesS_app,ht,rulesS_app,hno];simp only[rulesS,ruleS,hp1,hp2]
      unfold chkS;rw[hnm];dsimp only;rw[hall];exact⟨eb,by omega,rfl,hEB⟩
     | none =>
      rw[hp2]at hE4;have hE4:r4=.nilIface:=hE4;subst hE4;simp -dsimp only[push_cast,Nat.reduceAdd,Nat.reduceLeDiff,Nat.reduceBEq,Int.reduceNe,Int.reduceEq,Int.reduceLT,Int.reduceLE];refine⟨⟨by omega,by omega⟩,⟨i+1,rfl,by omega,?_,hb23.trans (hb4.mono (by omega))⟩,by rw[h20];simp only[intOf];omega⟩;rw[ht,rulesS_app,hno];simp only[rulesS,ruleS,hp1,hp2]
   ·rw[List.take_of_length_le (by omega)]at hno;refine⟨?_,hbx⟩;unfold chkS;rw[hnm];dsimp only;rw[hno];rfl
end Go.Proofs.YtledlfbbebodgaaGreatDoor
end
section
namespace Cae
section
variable {has:KindP→Int→Prop} {pts:List Int}
theorem saysM_skip {els:Bool} {i:Nat}:∀{a b:List RuleP},(∀r∈a,¬metM has pts r i)→saysM has pts els i (a++b)=saysM has pts els i b
 | [],_,_=>rfl
 | r :: a,b,h=>by
  rw[List.cons_append,saysM,if_neg (h r (List.mem_cons_self ..))];exact saysM_skip fun x hx=>h x (List.mem_cons_of_mem _ hx)
theorem saysM_at {els:Bool} {i k:Nat} {l:List RuleP} {r:RuleP} (hk:l[k]?=some r) (hr:metM has pts r i) (hno:∀x∈l.take k,¬metM has pts x i):saysM has pts els i l=r.brk:=by
 obtain⟨hlt,he⟩:=List.getElem?_eq_some_iff.1 hk;have e:l=l.take k++(r :: l.drop (k+1)):=by
  rw[←he,←List.drop_eq_getElem_cons hlt,List.take_append_drop]
 rw[e,saysM_skip hno,saysM,if_pos hr]
theorem saysM_none {els:Bool} {i:Nat} {l:List RuleP} (hno:∀x∈l,¬metM has pts x i):saysM has pts els i l=els:=by
 have:=saysM_skip (els:=els) (b:=[]) hno;rw[List.append_nil]at this;rw[this,saysM]
theorem standsM_img {x:PatP} {i:Nat} {back:Bool} (hi:i≤pts.length):0<(imgM pts.length (Rch has pts back x) [i]).length↔standsM has pts x i back:=by
 rw[List.length_pos_iff_exists_mem];constructor
 ·rintro⟨j,hj⟩;obtain⟨_,k,hk,h⟩:=imgM_mem.1 hj;rw[List.mem_singleton]at hk;subst hk;exact⟨j,h⟩
 ·rintro⟨j,h⟩;exact⟨j,imgM_mem.2 ⟨rch_le x hi h,i,List.mem_singleton.2 rfl,h⟩⟩
end
end Cae
namespace Go.Proofs.YtledlfbbebodgaaGreatDoor
open Go.Vc Go.Proofs Go.RowKit Cae
attribute [local irreducible] wpL callK valK unitK runK Fun Sl Vc.Own vc vcOps opK pureK
theorem stands_c (x:PatP) (hok:PatOk x) (hpn:wd x≤100000) (nm:NamesP) (hr:RightN nm) (us:List U) (hlen:us.length≤1000) (i:Nat) (hi:i≤us.length) (back:Bool) (X:Nat→Prop) (v lv:Value) (mb:Nat) (w:World) (hV:PatV X w v x) (hN:NamV X w mb nm) (hU:Sl X 3 (En encU) w lv us) :
  Fun Tryz.prog 22 [v,.map (some mb),lv,.int .i64 i,.bool back] w fun r w'=>(∃b:Bool,r=.bool b∧(b=true↔standsM (hasN nm) (ptsU us) x i back))∧Below w.heap.size w w':=by
 obtain⟨la,lc,rfl,hlc⟩:=hU.shape;refine fun_of_vc Tryz.func22 rfl (by kernel_rfl) [10] rfl ?_;simp -dsimp (maxSteps:=4000000) only[push_cast,fr0,Tryz.ntmps22,List.length_cons,List.length_nil,Nat.reduceAdd,Nat.reduceSub,Nat.reduceBEq,List.replicate_succ,List.replicate_zero];refine⟨fun _=>⟨fun hgt=>by omega,fun _=>?_⟩,fun hneg=>by omega⟩
 simp -dsimp only[push_cast,Nat.reduceAdd,Nat.reduceLeDiff,Nat.reduceBEq,Int.reduceNe,Int.reduceEq,Int.reduceLT,Int.reduceLE];refine boxK_of ?_;intro w1 hw1;have hw1:New w w1 106 [.slice la us.length lc,.map (some mb),.bool back]:=hw1;have z1:=hw1.size;simp -dsimp only[push_cast,Nat.reduceAdd,Nat.reduceLeDiff,Nat.reduceBEq,Int.reduceNe,Int.reduceEq,Int.reduceLT,Int.reduceLE]
 refine rowK elI_53 rfl rfl (by omega) ?_;intro w2 hw2;have z2:=hw2.size;have hb12:=hw2.below;have hbw2:=hw1.below.trans (hb12.mono (by omega));have hR:Mr X w2 w.heap.size mb us nm back:=⟨⟨_,hw1.blk.below hb12 (by omega),hU.below hbw2⟩,hN.below hbw2,hr,hlen⟩;simp -dsimp only[push_cast,Nat.reduceAdd,Nat.reduceLeDiff,Nat.reduceBEq,Int.reduceNe,Int.reduceEq,Int.reduceLT,Int.reduceLE]
 have hO2:Vc.Own w1.heap.size 3 1 encN w2 (.slice (some ⟨w1.heap.size,0,none⟩) 1 1) [i]:=hw2.own (by rfl) rfl (fun _=>rfl) (by omega) (by omega);refine callK_of (all_c x hok hpn _ w2 w.heap.size mb us nm back hR v (hV.below hbw2) _ [i] (hO2.sl.weaken (fun _ h=>h.elim)) hO2.nilArg (by simp) (by simpa using hi)) ?_;rintro r w3 ⟨hO,hb3⟩;have z3:=hb3.size;obtain⟨oa,oc,rfl⟩:=hO.slice
 have hS:=standsM_img (has:=hasN nm) (x:=x) (back:=back) (show i≤(ptsU us).length by rw[ptsU_len];exact hi);rw[ptsU_len]at hS;simp -dsimp only[push_cast,Nat.reduceAdd,Nat.reduceLeDiff,Nat.reduceBEq,Int.reduceNe,Int.reduceEq,Int.reduceLT,Int.reduceLE];refine⟨⟨_,rfl,?_⟩,hbw2.trans (hb3.mono (by omega))⟩;rw[←hS,decide_eq_true_iff];omega
theorem metFn_c (c:RuleP) (hok:PatOk c.before∧PatOk c.after) (hpn:wd c.before≤100000∧wd c.after≤100000) (nm:NamesP) (hr:RightN nm) (us:List U) (hlen:us.length≤1000) (i:Nat) (hi:i≤us.length) (X:Nat→Prop) (x1 x2:Nat) (lv:Value) (mb nb lb ib:Nat) (w:World)
  (h1:PatV X w (ptrP x1) c.before) (h2:PatV X w (ptrP x2) c.after) (hN:NamV X w mb nm) (hU:Sl X 3 (En encU) w lv us) (cn:w.cell? ⟨nb,0,none⟩=some (.map (some mb))) (cl:w.cell? ⟨lb,0,none⟩=some lv) (ci:w.cell? ⟨ib,0,none⟩=some (.int .i64 i)) :
  Fun Tryz.prog 45 [.agg #[.int .i64 c.pos,.bool c.brk,.pointer (some ⟨x1,0,none⟩),.pointer (some ⟨x2,0,none⟩)],.pointer (some ⟨nb,0,none⟩),.pointer (some ⟨lb,0,none⟩),.pointer (some ⟨ib,0,none⟩)] w fun r w'=>(∃b:Bool,r=.bool b∧(b=true↔metM (hasN nm) (ptsU us) c i))∧Below w.heap.size w w':=by
 refine fun_of_vc Tryz.func45 rfl (by kernel_rfl) [5] rfl ?_;simp -dsimp (maxSteps:=4000000) only[push_cast,fr0,Tryz.ntmps45,List.length_cons,List.length_nil,Nat.reduceAdd,Nat.reduceSub,Nat.reduceBEq,List.replicate_succ,List.replicate_zero];refine boxK_of ?_;intro w1 hw1;have hw1:New w w1 50 [.int .i64 c.pos,.bool c.brk,.pointer (some ⟨x1,0,none⟩),.pointer (some ⟨x2,0,none⟩)]:=hw1
 have z1:=hw1.size;have hb1:=hw1.below;have R1:=hw1.blk;have e2:w1.cell? ⟨w.heap.size,2,none⟩=some (.pointer (some ⟨x1,0,none⟩)):=R1.cell rfl;have cn1:w1.cell? ⟨nb,0,none⟩=some (.map (some mb)):=(hb1.cell (World.block_lt_of_cell? w _ cn)).trans cn;have cl1:w1.cell? ⟨lb,0,none⟩=some lv:=(hb1.cell (World.block_lt_of_cell? w _ cl)).trans cl
 have ci1:w1.cell? ⟨ib,0,none⟩=some (.int .i64 i):=(hb1.cell (World.block_lt_of_cell? w _ ci)).trans ci;simp -dsimp only[push_cast,Nat.reduceAdd,Nat.reduceLeDiff,Nat.reduceBEq,Int.reduceNe,Int.reduceEq,Int.reduceLT,Int.reduceLE,e2,cn1,cl1,ci1];refine callK_of (stands_c c.before hok.1 hpn.1 nm hr us hlen i hi true X _ lv mb w1 (h1.below hb1) (hN.below hb1) (hU.below hb1)) ?_
 rintro _ w2 ⟨⟨b,rfl,hb⟩,hb2⟩;have z2:=hb2.size;have hbw2:=hb1.trans (hb2.mono (by omega));cases b with
 | false =>
  simp -dsimp only[push_cast,Nat.reduceAdd,Nat.reduceLeDiff,Nat.reduceBEq,Int.reduceNe,Int.reduceEq,Int.reduceLT,Int.reduceLE];refine⟨⟨false,rfl,?_⟩,hbw2⟩;constructor
  ·intro h;cases h
  ·intro h;have:=hb.2 h.1;cases this
 | true =>
  have e3:w2.cell? ⟨w.heap.size,3,none⟩=some (.pointer (some ⟨x2,0,none⟩)):=(R1.below hb2 (by omega)).cell rfl;have cn2:w2.cell? ⟨nb,0,none⟩=some (.map (some mb)):=(hb2.cell (World.block_lt_of_cell? w1 _ cn1)).trans cn1;have cl2:w2.cell? ⟨lb,0,none⟩=some lv:=(hb2.cell (World.block_lt_of_cell? w1 _ cl1)).trans cl1
  have ci2:w2.cell? ⟨ib,0,none⟩=some (.int .i64 i):=(hb2.cell (World.block_lt_of_cell? w1 _ ci1)).trans ci1;simp -dsimp only[push_cast,Nat.reduceAdd,Nat.reduceLeDiff,Nat.reduceBEq,Int.reduceNe,Int.reduceEq,Int.reduceLT,Int.reduceLE,e3,cn2,cl2,ci2];refine callK_of (stands_c c.after hok.2 hpn.2 nm hr us hlen i hi false X _ lv mb w2 (h2.below hbw2) (hN.below hbw2) (hU.below hbw2)) ?_
  rintro _ w3 ⟨⟨b',rfl,hb'⟩,hb3⟩;simp -dsimp only[push_cast,Nat.reduceAdd,Nat.reduceLeDiff,Nat.reduceBEq,Int.reduceNe,Int.reduceEq,Int.reduceLT,Int.reduceLE];refine⟨⟨_,rfl,?_⟩,hbw2.trans (hb3.mono (by omega))⟩;rw[hb'];exact⟨fun h=>⟨hb.1 rfl,h⟩,fun h=>h.2⟩
theorem ruleIdx_c (l:List RuleP) (hl:l.length≤1000000) (hok:∀c∈l,PatOk c.before∧PatOk c.after) (hpn:∀c∈l,wd c.before≤100000∧wd c.after≤100000) (nm:NamesP) (hr:RightN nm) (us:List U) (hlen:us.length≤1000) (i:Nat) (hi:i≤us.length) (X:Nat→Prop) (rv lv:Value) (rs:List (Nat×Bool×Nat×Nat)) (mb nb lb ib:Nat) (w:World)
  (hrs:Sl X 4 (En encRu) w rv rs) (hR:All2 (RulR X w) rs l) (hN:NamV X w mb nm) (hU:Sl X 3 (En encU) w lv us) (cn:w.cell? ⟨nb,0,none⟩=some (.map (some mb))) (cl:w.cell? ⟨lb,0,none⟩=some lv) (ci:w.cell? ⟨ib,0,none⟩=some (.int .i64 i)) :
  Fun Tryz.prog 44 [rv,.func (.func 45) #[] #[.pointer (some ⟨nb,0,none⟩),.pointer (some ⟨lb,0,none⟩),.pointer (some ⟨ib,0,none⟩)]] w fun r w' =>
   ((∃(k:Nat) (c:RuleP),r=.int .i64 k∧l[k]?=some c∧metM (hasN nm) (ptsU us) c i∧∀d∈l.take k,¬metM (hasN nm) (ptsU us) d i)∨(r=.int .i64 (-1)∧∀d∈l,¬metM (hasN nm) (ptsU us) d i))∧Below w.heap.size w w':=by
 have hrl:=All2.len hR;obtain⟨ra,rc,rfl,hrc⟩:=hrs.shape;refine fun_of_vc Tryz.func44 rfl (by kernel_rfl) [4] rfl ?_;simp -dsimp (maxSteps:=4000000) only[push_cast,fr0,Tryz.ntmps44,List.length_cons,List.length_nil,Nat.reduceAdd,Nat.reduceSub,Nat.reduceBEq,List.replicate_succ,List.replicate_zero]
 refine wpL_loop [4,5,8,9,10,11,12,13,14,15,16,17,18] (fun z wx=>∃(k:Nat),z 8=.int .i64 k∧k≤l.length∧(∀d∈l.take k,¬metM (hasN nm) (ptsU us) d i)∧Below w.heap.size w wx) (fun z _=>l.length - (intOf (z 8)).toNat) ?_ ?_
 ·exact⟨0,rfl,Nat.zero_le _,by simp,Below.refl _ _⟩
 ·intro z wx hI;obtain⟨k,h8,hk,hno,hbx⟩:=hI;have zx:=hbx.size;simp -dsimp only[push_cast,Nat.reduceAdd,Nat.reduceLeDiff,Nat.reduceBEq,Int.reduceNe,Int.reduceEq,Int.reduceLT,Int.reduceLE,h8];refine⟨fun hlt=>?_,fun hge=>?_⟩
  ·obtain⟨c,hc,hcm,_,ht⟩:=lt_get (l:=l) (i:=k) (by omega);obtain⟨x,hx,hxp,hxb,hx1,hx2⟩:=all2_nth hR hc;obtain⟨xp,xb,x1,x2⟩:=x;simp only at hxp hxb hx1 hx2;subst hxp;subst hxb;obtain⟨b1,o,rfl,hnb,hcell⟩:=(hrs.below hbx).get hx
   have c4:cellsAt wx ⟨b1,o+k*4,none⟩ 0 4=some [.int .i64 c.pos,.bool c.brk,.pointer (some ⟨x1,0,none⟩),.pointer (some ⟨x2,0,none⟩)]:=cellsAt_of _ 0 (fun j u hu=>by simpa[encRu,ptrP] using hcell j u hu);simp -dsimp only[push_cast,Nat.reduceAdd,Nat.reduceLeDiff,Nat.reduceBEq,Int.reduceNe,Int.reduceEq,Int.reduceLT,Int.reduceLE,c4];refine⟨⟨by omega,by omega⟩,?_⟩
   refine callK_of (metFn_c c (hok c hcm) (hpn c hcm) nm hr us hlen i hi X x1 x2 lv mb nb lb ib wx (hx1.below hbx) (hx2.below hbx) (hN.below hbx) (hU.below hbx) ((hbx.cell (World.block_lt_of_cell? w _ cn)).trans cn) ((hbx.cell (World.block_lt_of_cell? w _ cl)).trans cl) ((hbx.cell (World.block_lt_of_cell? w _ ci)).trans ci)) ?_;rintro _ w1 ⟨⟨b,rfl,hb⟩,hb1⟩;have hB1:=hbx.trans (hb1.mono zx)
   cases b with
   | true =>
    simp -dsimp only[push_cast,Nat.reduceAdd,Nat.reduceLeDiff,Nat.reduceBEq,Int.reduceNe,Int.reduceEq,Int.reduceLT,Int.reduceLE];exact⟨.inl ⟨k,c,rfl,hc,hb.1 rfl,hno⟩,hB1⟩
   | false =>
    simp -dsimp only[push_cast,Nat.reduceAdd,Nat.reduceLeDiff,Nat.reduceBEq,Int.reduceNe,Int.reduceEq,Int.reduceLT,Int.reduceLE];refine⟨⟨by omega,by omega⟩,⟨k+1,rfl,by omega,?_,hB1⟩,by rw[h8];simp only[intOf];omega⟩;intro y hy;rw[ht,List.mem_append,List.mem_singleton]at hy;rcases hy with hy|rfl
    ·exact hno y hy
    ·intro h;have:=hb.2 h;cases this
  ·rw[List.take_of_length_le (by omega)]at hno;exact⟨.inr hno,hbx⟩
end Go.Proofs.YtledlfbbebodgaaGreatDoor
end
section
namespace Go.Proofs.YtledlfbbebodgaaGreatDoor
open Go.Vc Go.Proofs Go.RowKit Cae
attribute [local irreducible] wpL callK valK unitK runK Fun Sl Vc.Own vc vcOps opK pureK
def BrkR (B:Nat) (f:FileP) (us:List U) (r:Value) (w:World):Prop:=match chkS f with
 | some e=>∃v,r=.tuple #[.slice none 0 0,v]∧ErrAt B (some e) v w
 | none=>∃nm v,namesS [] f.classes=.ok nm∧r=.tuple #[v,.nilIface]∧Vc.Own B 3 1 encN w v (breaksM (hasN nm) (ptsU us) f.rules f.els)
noncomputable def upTo (nm:NamesP) (us:List U) (rules:List RuleP) (els:Bool) (i:Nat):List Nat:=(List.range i).filter (isM (hasN nm) (ptsU us) rules els)
theorem upTo_succ (nm:NamesP) (us:List U) (rules:List RuleP) (els:Bool) (i:Nat):upTo nm us rules els (i+1)=upTo nm us rules els i++if isM (hasN nm) (ptsU us) rules els i then [i] else []:=by
 unfold upTo;rw[List.range_succ,List.filter_append];congr 1;by_cases h:isM (hasN nm) (ptsU us) rules els i=true
 ·rw[if_pos h,List.filter_cons_of_pos h,List.filter_nil]
 ·rw[if_neg h,List.filter_cons_of_neg h,List.filter_nil]
theorem upTo_len (nm:NamesP) (us:List U) (rules:List RuleP) (els:Bool) (i:Nat):(upTo nm us rules els i).length≤i:=by
 have:=List.length_filter_le (isM (hasN nm) (ptsU us) rules els) (List.range i);rw[List.length_range]at this;exact this
theorem NamV.weak {X X':Nat→Prop} {w:World} {b:Nat} {nm:NamesP} (h:NamV X w b nm) (hX:∀b,X' b→X b):NamV X' w b nm:=by
 obtain⟨kvs,h2,h3⟩:=h;exact⟨kvs,h2,h3.imp fun a b h=>⟨h.1,h.2.1.weaken hX,h.2.2⟩⟩
def cntOf (v:Value) (w:World):Nat:=match v with
 | .pointer (some a)=>match w.cell? a with
  | some (.int _ n)=>n.toNat
  | _=>0
 | _=>0
theorem cntOf_is {v:Value} {w:World} {a:Addr} {i:Nat} {k:IntKind} (h:v=.pointer (some a)) (hc:w.cell? a=some (.int k i)):cntOf v w=i:=by
 subst h;simp only[cntOf,hc,Int.toNat_natCast]
theorem chkS_names {f:FileP} (h:chkS f=none):∃nm,namesS [] f.classes=.ok nm:=by
 unfold chkS at h;cases hn:namesS [] f.classes with
 | ok nm=>exact⟨nm,rfl⟩
 | error e=>rw[hn]at h;cases h
theorem breaks_c (f : FileP) (hok : FileOk f) (hpn : PnOk f) (hlc : f.classes.length ≤ 1000000) (hlr : f.rules.length ≤ 1000000) (us : List U) (hlen : us.length ≤ 1000) (X : Nat → Prop) (v lv : Value) (w : World) (hv : FileV X w v f) (hU : Sl X 3 (En encU) w lv us) :
    Fun Tryz.prog 15 [v, lv] w fun r w' => BrkR w.heap.size f us r w' ∧ Below w.heap.size w w' := by
  have hv0 := hv
  obtain ⟨cv, rv, cs, rs, rfl, hcs, hrs, hC, hR⟩ := hv
  obtain ⟨ca, cc, rfl, hcc⟩ := hcs.shape
  obtain ⟨ra, rc, rfl, hrc⟩ := hrs.shape
  obtain ⟨la, lc, rfl, hlc'⟩ := hU.shape
  have hrl := All2.len hR
  refine fun_of_vc Tryz.func15 rfl (by kernel_rfl) [4, 5] rfl ?_
  simp -dsimp (maxSteps := 4000000) only [push_cast, fr0, Tryz.ntmps15, List.length_cons, List.length_nil, Nat.reduceAdd, Nat.reduceSub, Nat.reduceBEq, List.replicate_succ, List.replicate_zero]
  refine boxK_of ?_
  intro w1 hw1
  have hw1 : New w w1 26 [.slice ca cs.length cc, .slice ra rs.length rc, .bool f.els] := hw1
  have z1 := hw1.size
  simp -dsimp only [push_cast, Nat.reduceAdd, Nat.reduceLeDiff, Nat.reduceBEq, Int.reduceNe, Int.reduceEq, Int.reduceLT, Int.reduceLE]
  refine boxK_of ?_
  intro w2 hw2
  have hw2 : New w1 w2 51 [.slice la us.length lc] := hw2
  have z2 := hw2.size
  have hbw2 := hw1.below.trans (hw2.below.mono (by omega))
  have B2 := hw1.blk.below hw2.below (by omega)
  have d0 : cellsAt w2 ⟨w.heap.size, 0, none⟩ 0 3 = some [.slice ca cs.length cc, .slice ra rs.length rc, .bool f.els] := B2.cellsAt
  simp -dsimp only [push_cast, Nat.reduceAdd, Nat.reduceLeDiff, Nat.reduceBEq, Int.reduceNe, Int.reduceEq, Int.reduceLT, Int.reduceLE, d0]
  refine callK_of (check_c f hok hpn hlc hlr X _ w2 (hv0.below hbw2)) ?_
  rintro r w3 ⟨hE, hb3⟩
  have z3 := hb3.size
  have hbw3 := hbw2.trans (hb3.mono (by omega))
  cases hchk : chkS f with
  | some e =>
    rw [hchk] at hE
    have hE0 := hE
    obtain ⟨c, e⟩ := e
    obtain ⟨eb, heb, rfl, hEB⟩ := hE
    simp -dsimp only [push_cast, Nat.reduceAdd, Nat.reduceLeDiff, Nat.reduceBEq, Int.reduceNe, Int.reduceEq, Int.reduceLT, Int.reduceLE]
    refine ⟨?_, hbw3⟩
    unfold BrkR
    rw [hchk]
    exact ⟨_, rfl, hE0.mono (by omega)⟩
  | none =>
    rw [hchk] at hE
    have hE : r = .nilIface := hE
    subst hE
    have hnm := chkS_names hchk
    obtain ⟨nm, hnm⟩ := hnm
    have B3 := B2.below hb3 (by omega)
    have d3 : cellsAt w3 ⟨w.heap.size, 0, none⟩ 0 3 = some [.slice ca cs.length cc, .slice ra rs.length rc, .bool f.els] := B3.cellsAt
    simp -dsimp only [push_cast, Nat.reduceAdd, Nat.reduceLeDiff, Nat.reduceBEq, Int.reduceNe, Int.reduceEq, Int.reduceLT, Int.reduceLE, d3]
    refine callK_of (names_c f hok.1 hlc X _ w3 (hv0.below hbw3)) ?_
    rintro r w4 ⟨hN, hb4⟩
    have z4 := hb4.size
    have hbw4 := hbw3.trans (hb4.mono (by omega))
    unfold NamesRes at hN
    rw [hnm] at hN
    obtain ⟨mb, hmb, rfl, hNV, hRN⟩ := hN
    simp -dsimp only [push_cast, Nat.reduceAdd, Nat.reduceLeDiff, Nat.reduceBEq, Int.reduceNe, Int.reduceEq, Int.reduceLT, Int.reduceLE]
    refine allocK (z := [.map none]) (by kernel_rfl) ?_
    intro w5 hw5
    have z5 := hw5.size
    simp -dsimp only [push_cast, Nat.reduceAdd, Nat.reduceLeDiff, Nat.reduceBEq, Int.reduceNe, Int.reduceEq, Int.reduceLT, Int.reduceLE]
    refine storeK_of hw5.blk (by simp) rfl ?_
    intro w6 hw6
    have z6 := hw6.size
    have hb46 : Below w4.heap.size w4 w6 := hw5.below.trans (hw6.kept.below (by omega) (fun i h => by omega))
    have N6 : Blk w6 w4.heap.size 29 [.map (some mb)] := hw6.blk
    simp -dsimp only [push_cast, Nat.reduceAdd, Nat.reduceLeDiff, Nat.reduceBEq, Int.reduceNe, Int.reduceEq, Int.reduceLT, Int.reduceLE]
    refine allocK (z := [.int .i64 0]) (by kernel_rfl) ?_
    intro w7 hw7
    have z7 := hw7.size
    simp -dsimp only [push_cast, Nat.reduceAdd, Nat.reduceLeDiff, Nat.reduceBEq, Int.reduceNe, Int.reduceEq, Int.reduceLT, Int.reduceLE]
    refine storeK_of hw7.blk (by simp) rfl ?_
    intro w8 hw8
    have z8 := hw8.size
    have hb68 : Below w6.heap.size w6 w8 := hw7.below.trans (hw8.kept.below (by omega) (fun i h => by omega))
    have hb48 := hb46.trans (hb68.mono (by omega))
    have hbw8 := hbw4.trans (hb48.mono (by omega))
    have N8 := N6.below hb68 (by omega)
    have I8 : Blk w8 w6.heap.size 3 [.int .i64 0] := hw8.blk
    have F8 := (B3.below hb4 (by omega)).below hb48 (by omega)
    have L8 : Blk w8 w1.heap.size 51 [.slice la us.length lc] := ((hw2.blk.below hb3 (by omega)).below hb4 (by omega)).below hb48 (by omega)
    have hNV8 := hNV.below hb48
    have hXn : ∃ Xn : Nat → Prop, Xn = (fun b => X b ∧ b < w3.heap.size) := ⟨_, rfl⟩
    obtain ⟨Xn, hXn⟩ := hXn
    rw [← hXn] at hNV8
    simp -dsimp only [push_cast, Nat.reduceAdd, Nat.reduceLeDiff, Nat.reduceBEq, Int.reduceNe, Int.reduceEq, Int.reduceLT, Int.reduceLE]
    have hbase : w8.heap.size = w6.heap.size + 1 := by omega
    refine wpL_loop [9, 10, 11, 12, 26, 27, 28, 29, 30, 31, 32, 33, 34, 35, 36, 37, 38, 39, 40, 41, 42, 43, 44, 45, 46, 47, 48, 49, 50, 51, 52, 53, 54, 55, 56, 57, 58, 59, 60, 61, 62, 63, 64, 65, 66] (fun z wx => ∃ (i ib : Nat) (ov : Value), z 10 = .pointer (some ⟨ib, 0, none⟩) ∧ z 9 = ov ∧ i ≤ us.length + 1 ∧ (us = [] → i = 0) ∧ Blk wx ib 3 [.int .i64 i] ∧ Vc.Own w8.heap.size 3 1 encN wx ov (upTo nm us f.rules f.els i) ∧ (∀ g, ov.ownBlock = some g → g ≠ ib) ∧ Below w8.heap.size w8 wx) (fun z wx => us.length + 1 - cntOf (z 10) wx) ?_ ?_
    · exact ⟨0, w6.heap.size, _, rfl, rfl, by omega, fun _ => rfl, I8, Vc.Own.nil (enc := encN) _ _ (fun _ => rfl) _, (fun g h => by cases h), Below.refl _ _⟩
    · intro z wx hI
      obtain ⟨i, ib, ov, h10, h9, hi, hnil, hIB, hO, hne, hb8⟩ := hI
      have zx := hb8.size
      have hbx := hbw8.trans (hb8.mono (by omega))
      have hul := upTo_len nm us f.rules f.els i
      obtain ⟨oa, oc, rfl⟩ := hO.slice
      have Fx := F8.below hb8 (by omega)
      have Lx := L8.below hb8 (by omega)
      have Nx := N8.below hb8 (by omega)
      have c0 : wx.cell? ⟨ib, 0, none⟩ = some (.int .i64 i) := hIB.cell rfl
      have cl : wx.cell? ⟨w1.heap.size, 0, none⟩ = some (.slice la us.length lc) := Lx.cell rfl
      have cn : wx.cell? ⟨w4.heap.size, 0, none⟩ = some (.map (some mb)) := Nx.cell rfl
      have f1 : wx.cell? ⟨w.heap.size, 1, none⟩ = some (.slice ra rs.length rc) := Fx.cell rfl
      have hcnt : cntOf (z 10) wx = i := cntOf_is h10 c0
      rw [hcnt]
      simp -dsimp only [push_cast, Nat.reduceAdd, Nat.reduceLeDiff, Nat.reduceBEq, Int.reduceNe, Int.reduceEq, Int.reduceLT, Int.reduceLE, h10, h9, c0, cl]
      have hdone : (us = [] ∨ us.length < i) → BrkR w.heap.size f us (.tuple #[.slice oa (upTo nm us f.rules f.els i).length oc, .nilIface]) wx := fun h => by
        unfold BrkR
        rw [hchk]
        refine ⟨nm, _, hnm, rfl, ?_⟩
        have e : upTo nm us f.rules f.els i = breaksM (hasN nm) (ptsU us) f.rules f.els := by
          unfold breaksM upTo
          by_cases h0 : us = []
          · rw [if_pos (by rw [h0]; rfl), hnil h0]
            rfl
          · rw [if_neg (by unfold ptsU; simpa using h0), ptsU_len]
            have : i = us.length + 1 := by
              rcases h with h | h
              · exact absurd h h0
              · omega
            rw [this]
        rw [← e]
        exact hO.mono (by omega)
      refine ⟨fun hle => ⟨fun hpos => ?_, fun hzero => ?_⟩, fun hgt => ?_⟩
      · have hle' : i ≤ us.length := by omega
        have hne0 : us ≠ [] := fun h => by rw [h] at hpos; simp at hpos
        have hXm : ∀ b, (fun _ : Nat => False) b → X b := fun _ h => h.elim
        have hRx : All2 (RulR (fun _ => False) wx) rs f.rules := hR.imp fun a b h => ⟨h.1, h.2.1, PatV.weak (h.2.2.1.below hbx) hXm, PatV.weak (h.2.2.2.below hbx) hXm⟩
        have hNx : NamV (fun _ => False) wx mb nm := (hNV.below (hb48.trans (hb8.mono (by omega)))).weak (fun _ h => h.elim)
        simp -dsimp only [push_cast, Nat.reduceAdd, Nat.reduceLeDiff, Nat.reduceBEq, Int.reduceNe, Int.reduceEq, Int.reduceLT, Int.reduceLE, f1]
        refine callK_of (ruleIdx_c f.rules hlr hok.2 hpn nm hRN us hlen i hle' _ _ (.slice la us.length lc) rs mb w4.heap.size w1.heap.size ib wx ((hrs.below hbx).weaken hXm) hRx hNx ((hU.below hbx).weaken hXm) cn cl c0) ?_
        rintro r wy ⟨hK, hby⟩
        have zy := hby.size
        have Fy := Fx.below hby (by omega)
        have Ly := Lx.below hby (by omega)
        have IBy := hIB.below hby hIB.lt
        have hOy := hO.below hby
        have hbwy := hbx.trans (hby.mono (by omega))
        have hb8y := hb8.trans (hby.mono (by omega))
        have e1 : wy.cell? ⟨w.heap.size, 1, none⟩ = some (.slice ra rs.length rc) := Fy.cell rfl
        have e2 : wy.cell? ⟨w.heap.size, 2, none⟩ = some (.bool f.els) := Fy.cell rfl
        have e3 : wy.cell? ⟨w1.heap.size, 0, none⟩ = some (.slice la us.length lc) := Ly.cell rfl
        have e4 : wy.cell? ⟨ib, 0, none⟩ = some (.int .i64 i) := IBy.cell rfl
        rcases hK with ⟨k, c, rfl, hc, hmet, hno⟩ | ⟨rfl, hno⟩
        · have hsay : isM (hasN nm) (ptsU us) f.rules f.els i = (c.brk || decide (i = 0) || decide (i = us.length)) := by
            unfold isM
            rw [saysM_at hc hmet hno, ptsU_len]
          obtain ⟨x, hx, hxp, hxb, hx1, hx2⟩ := all2_nth hR hc
          obtain ⟨xp, xb, x1, x2⟩ := x
          simp only at hxp hxb hx1 hx2
          subst hxp; subst hxb
          obtain ⟨b1, o, rfl, hnb, hcell⟩ := (hrs.below hbwy).get hx
          have c4 : wy.cell? ⟨b1, o + k * 4 + 1, none⟩ = some (.bool c.brk) := by simpa [encRu] using hcell 1 _ rfl
          have hkl := (List.getElem?_eq_some_iff.1 hx).1
          cases hbk : (c.brk) with
          | true =>
            rw [hbk] at hsay
            (rw [hbk] at c4); simp -dsimp only [push_cast, Nat.reduceAdd, Nat.reduceLeDiff, Nat.reduceBEq, Int.reduceNe, Int.reduceEq, Int.reduceLT, Int.reduceLE, e1, e2, e3, e4, c4]; refine ⟨fun _ => ⟨⟨by omega, by omega⟩, ?_⟩, fun h => by omega⟩
            -- by simp: the place is a break
            have hsu := upTo_succ nm us f.rules f.els i
            rw [hsay, if_pos (by simp)] at hsu
            refine rowK elI_53 rfl rfl (by omega) ?_
            intro wr hwr
            have zr := hwr.size
            simp -dsimp only [push_cast, Nat.reduceAdd, Nat.reduceLeDiff, Nat.reduceBEq, Int.reduceNe, Int.reduceEq, Int.reduceLT, Int.reduceLE]
            refine appendK2 (base := w8.heap.size) [i] (enc := encN) elI_53 (hOy.new hwr) (by rfl) (fun j u hu => by rw [Nat.zero_add]; exact hwr.cell hu) (by simp [encN, Value.oneCell']) (by simp only [List.length_cons, List.length_nil]; omega) (by omega) ?_
            intro vq wq hOq hgq hnq
            have hkq : Kept (fun j => (Value.slice oa (upTo nm us f.rules f.els i).length oc).ownBlock = some j) wr wq := Kept.grown hgq (fun _ h => h)
            have IBq := (IBy.below hwr.below IBy.lt).kept hkq (fun h => hne _ h rfl)
            have hbq : Below w8.heap.size w8 wq := hb8y.trans ((hwr.below.mono (by omega)).trans (hkq.below (by omega) (fun g h => (hO.block g h).1)))
            rw [← hsu] at hOq
            -- wq: the world; hOq: Vc.Own of the longer row; IBq: the counter's block; hbq: Below w8 wq
            have hbS := hbq
            have zS := hbS.size
            have hOS := hOq
            have cS : (wq).cell? ⟨ib, 0, none⟩ = some (.int .i64 i) := (IBq).cell rfl
            simp -dsimp only [push_cast, Nat.reduceAdd, Nat.reduceLeDiff, Nat.reduceBEq, Int.reduceNe, Int.reduceEq, Int.reduceLT, Int.reduceLE, cS]
            refine allocK (z := [.int .i64 0]) (by kernel_rfl) ?_
            intro wa hwa
            have za := hwa.size
            simp -dsimp only [push_cast, Nat.reduceAdd, Nat.reduceLeDiff, Nat.reduceBEq, Int.reduceNe, Int.reduceEq, Int.reduceLT, Int.reduceLE]
            refine storeK_of hwa.blk (by simp) rfl ?_
            intro wb hwb
            have zb := hwb.size
            have cb : wb.cell? ⟨(wq).heap.size, 0, none⟩ = some (.int .i64 i) := hwb.blk.cell rfl
            simp -dsimp only [push_cast, Nat.reduceAdd, Nat.reduceLeDiff, Nat.reduceBEq, Int.reduceNe, Int.reduceEq, Int.reduceLT, Int.reduceLE, cb]
            refine ⟨⟨by omega, by omega⟩, ?_⟩
            refine storeK_of hwb.blk (by simp) rfl ?_
            intro wc hwc
            have zc := hwc.size
            have hbac : Below (wq).heap.size (wq) wc := hwa.below.trans ((hwb.kept.below (by omega) (fun i h => by omega)).trans (hwc.kept.below (by omega) (fun i h => by omega)))
            have IC : Blk wc (wq).heap.size 3 [.int .i64 ((i + 1 : Nat) : Int)] := hwc.blk
            have hcn : cntOf (.pointer (some ⟨(wq).heap.size, 0, none⟩)) wc = i + 1 := cntOf_is rfl (IC.cell rfl)
            simp -dsimp only [push_cast, Nat.reduceAdd, Nat.reduceLeDiff, Nat.reduceBEq, Int.reduceNe, Int.reduceEq, Int.reduceLT, Int.reduceLE]
            refine ⟨⟨i + 1, (wq).heap.size, _, rfl, rfl, by omega, fun h => absurd h hne0, IC, hOS.below hbac, (fun g hg => by have := hOS.block g hg; omega), hbS.trans (hbac.mono (by omega))⟩, ?_⟩
            show us.length + 1 - cntOf (.pointer (some ⟨(wq).heap.size, 0, none⟩)) wc < us.length + 1 - i
            rw [hcn]
            omega
          | false =>
            rw [hbk] at hsay
            (rw [hbk] at c4); simp -dsimp only [push_cast, Nat.reduceAdd, Nat.reduceLeDiff, Nat.reduceBEq, Int.reduceNe, Int.reduceEq, Int.reduceLT, Int.reduceLE, e1, e2, e3, e4, c4]; refine ⟨fun _ => ⟨⟨by omega, by omega⟩, ?_⟩, fun h => by omega⟩
            refine ⟨fun h0 => ⟨fun h1 => ?_, fun h1 => ?_⟩, fun h0 => ?_⟩
            · have h1' : i = us.length := by omega
              -- by simp [h1']: the place is a break
              have hsu := upTo_succ nm us f.rules f.els i
              rw [hsay, if_pos (by simp [h1'])] at hsu
              refine rowK elI_53 rfl rfl (by omega) ?_
              intro wr hwr
              have zr := hwr.size
              simp -dsimp only [push_cast, Nat.reduceAdd, Nat.reduceLeDiff, Nat.reduceBEq, Int.reduceNe, Int.reduceEq, Int.reduceLT, Int.reduceLE]
              refine appendK2 (base := w8.heap.size) [i] (enc := encN) elI_53 (hOy.new hwr) (by rfl) (fun j u hu => by rw [Nat.zero_add]; exact hwr.cell hu) (by simp [encN, Value.oneCell']) (by simp only [List.length_cons, List.length_nil]; omega) (by omega) ?_
              intro vq wq hOq hgq hnq
              have hkq : Kept (fun j => (Value.slice oa (upTo nm us f.rules f.els i).length oc).ownBlock = some j) wr wq := Kept.grown hgq (fun _ h => h)
              have IBq := (IBy.below hwr.below IBy.lt).kept hkq (fun h => hne _ h rfl)
              have hbq : Below w8.heap.size w8 wq := hb8y.trans ((hwr.below.mono (by omega)).trans (hkq.below (by omega) (fun g h => (hO.block g h).1)))
              rw [← hsu] at hOq
              -- wq: the world; hOq: Vc.Own of the longer row; IBq: the counter's block; hbq: Below w8 wq
              have hbS := hbq
              have zS := hbS.size
              have hOS := hOq
              have cS : (wq).cell? ⟨ib, 0, none⟩ = some (.int .i64 i) := (IBq).cell rfl
              simp -dsimp only [push_cast, Nat.reduceAdd, Nat.reduceLeDiff, Nat.reduceBEq, Int.reduceNe, Int.reduceEq, Int.reduceLT, Int.reduceLE, cS]
              refine allocK (z := [.int .i64 0]) (by kernel_rfl) ?_
              intro wa hwa
              have za := hwa.size
              simp -dsimp only [push_cast, Nat.reduceAdd, Nat.reduceLeDiff, Nat.reduceBEq, Int.reduceNe, Int.reduceEq, Int.reduceLT, Int.reduceLE]
              refine storeK_of hwa.blk (by simp) rfl ?_
              intro wb hwb
              have zb := hwb.size
              have cb : wb.cell? ⟨(wq).heap.size, 0, none⟩ = some (.int .i64 i) := hwb.blk.cell rfl
              simp -dsimp only [push_cast, Nat.reduceAdd, Nat.reduceLeDiff, Nat.reduceBEq, Int.reduceNe, Int.reduceEq, Int.reduceLT, Int.reduceLE, cb]
              refine ⟨⟨by omega, by omega⟩, ?_⟩
              refine storeK_of hwb.blk (by simp) rfl ?_
              intro wc hwc
              have zc := hwc.size
              have hbac : Below (wq).heap.size (wq) wc := hwa.below.trans ((hwb.kept.below (by omega) (fun i h => by omega)).trans (hwc.kept.below (by omega) (fun i h => by omega)))
              have IC : Blk wc (wq).heap.size 3 [.int .i64 ((i + 1 : Nat) : Int)] := hwc.blk
              have hcn : cntOf (.pointer (some ⟨(wq).heap.size, 0, none⟩)) wc = i + 1 := cntOf_is rfl (IC.cell rfl)
              simp -dsimp only [push_cast, Nat.reduceAdd, Nat.reduceLeDiff, Nat.reduceBEq, Int.reduceNe, Int.reduceEq, Int.reduceLT, Int.reduceLE]
              refine ⟨⟨i + 1, (wq).heap.size, _, rfl, rfl, by omega, fun h => absurd h hne0, IC, hOS.below hbac, (fun g hg => by have := hOS.block g hg; omega), hbS.trans (hbac.mono (by omega))⟩, ?_⟩
              show us.length + 1 - cntOf (.pointer (some ⟨(wq).heap.size, 0, none⟩)) wc < us.length + 1 - i
              rw [hcn]
              omega
            · have h0' : i ≠ 0 := by omega
              have h1' : i ≠ us.length := by omega
              -- by simp [h0', h1']: the place is no break
              have hsu := upTo_succ nm us f.rules f.els i
              rw [hsay, if_neg (by simp [h0', h1']), List.append_nil] at hsu
              have hOy' : Vc.Own w8.heap.size 3 1 encN wy (.slice oa (upTo nm us f.rules f.els i).length oc) (upTo nm us f.rules f.els (i + 1)) := by rw [hsu]; exact hOy
              -- wy: the world; hOy': Vc.Own of the longer row; IBy: the counter's block; hb8y: Below w8 wy
              have hbS := hb8y
              have zS := hbS.size
              have hOS := hOy'
              have cS : (wy).cell? ⟨ib, 0, none⟩ = some (.int .i64 i) := (IBy).cell rfl
              skip
              refine allocK (z := [.int .i64 0]) (by kernel_rfl) ?_
              intro wa hwa
              have za := hwa.size
              simp -dsimp only [push_cast, Nat.reduceAdd, Nat.reduceLeDiff, Nat.reduceBEq, Int.reduceNe, Int.reduceEq, Int.reduceLT, Int.reduceLE]
              refine storeK_of hwa.blk (by simp) rfl ?_
              intro wb hwb
              have zb := hwb.size
              have cb : wb.cell? ⟨(wy).heap.size, 0, none⟩ = some (.int .i64 i) := hwb.blk.cell rfl
              simp -dsimp only [push_cast, Nat.reduceAdd, Nat.reduceLeDiff, Nat.reduceBEq, Int.reduceNe, Int.reduceEq, Int.reduceLT, Int.reduceLE, cb]
              refine ⟨⟨by omega, by omega⟩, ?_⟩
              refine storeK_of hwb.blk (by simp) rfl ?_
              intro wc hwc
              have zc := hwc.size
              have hbac : Below (wy).heap.size (wy) wc := hwa.below.trans ((hwb.kept.below (by omega) (fun i h => by omega)).trans (hwc.kept.below (by omega) (fun i h => by omega)))
              have IC : Blk wc (wy).heap.size 3 [.int .i64 ((i + 1 : Nat) : Int)] := hwc.blk
              have hcn : cntOf (.pointer (some ⟨(wy).heap.size, 0, none⟩)) wc = i + 1 := cntOf_is rfl (IC.cell rfl)
              simp -dsimp only [push_cast, Nat.reduceAdd, Nat.reduceLeDiff, Nat.reduceBEq, Int.reduceNe, Int.reduceEq, Int.reduceLT, Int.reduceLE]
              refine ⟨⟨i + 1, (wy).heap.size, _, rfl, rfl, by omega, fun h => absurd h hne0, IC, hOS.below hbac, (fun g hg => by have := hOS.block g hg; omega), hbS.trans (hbac.mono (by omega))⟩, ?_⟩
              show us.length + 1 - cntOf (.pointer (some ⟨(wy).heap.size, 0, none⟩)) wc < us.length + 1 - i
              rw [hcn]
              omega
            · have h0' : i = 0 := by omega
              -- by simp [h0']: the place is a break
              have hsu := upTo_succ nm us f.rules f.els i
              rw [hsay, if_pos (by simp [h0'])] at hsu
              refine rowK elI_53 rfl rfl (by omega) ?_
              intro wr hwr
              have zr := hwr.size
              simp -dsimp only [push_cast, Nat.reduceAdd, Nat.reduceLeDiff, Nat.reduceBEq, Int.reduceNe, Int.reduceEq, Int.reduceLT, Int.reduceLE]
              refine appendK2 (base := w8.heap.size) [i] (enc := encN) elI_53 (hOy.new hwr) (by rfl) (fun j u hu => by rw [Nat.zero_add]; exact hwr.cell hu) (by simp [encN, Value.oneCell']) (by simp only [List.length_cons, List.length_nil]; omega) (by omega) ?_
              intro vq wq hOq hgq hnq
              have hkq : Kept (fun j => (Value.slice oa (upTo nm us f.rules f.els i).length oc).ownBlock = some j) wr wq := Kept.grown hgq (fun _ h => h)
              have IBq := (IBy.below hwr.below IBy.lt).kept hkq (fun h => hne _ h rfl)
              have hbq : Below w8.heap.size w8 wq := hb8y.trans ((hwr.below.mono (by omega)).trans (hkq.below (by omega) (fun g h => (hO.block g h).1)))
              rw [← hsu] at hOq
              -- wq: the world; hOq: Vc.Own of the longer row; IBq: the counter's block; hbq: Below w8 wq
              have hbS := hbq
              have zS := hbS.size
              have hOS := hOq
              have cS : (wq).cell? ⟨ib, 0, none⟩ = some (.int .i64 i) := (IBq).cell rfl
              simp -dsimp only [push_cast, Nat.reduceAdd, Nat.reduceLeDiff, Nat.reduceBEq, Int.reduceNe, Int.reduceEq, Int.reduceLT, Int.reduceLE, cS]
              refine allocK (z := [.int .i64 0]) (by kernel_rfl) ?_
              intro wa hwa
              have za := hwa.size
              simp -dsimp only [push_cast, Nat.reduceAdd, Nat.reduceLeDiff, Nat.reduceBEq, Int.reduceNe, Int.reduceEq, Int.reduceLT, Int.reduceLE]
              refine storeK_of hwa.blk (by simp) rfl ?_
              intro wb hwb
              have zb := hwb.size
              have cb : wb.cell? ⟨(wq).heap.size, 0, none⟩ = some (.int .i64 i) := hwb.blk.cell rfl
              simp -dsimp only [push_cast, Nat.reduceAdd, Nat.reduceLeDiff, Nat.reduceBEq, Int.reduceNe, Int.reduceEq, Int.reduceLT, Int.reduceLE, cb]
              refine ⟨⟨by omega, by omega⟩, ?_⟩
              refine storeK_of hwb.blk (by simp) rfl ?_
              intro wc hwc
              have zc := hwc.size
              have hbac : Below (wq).heap.size (wq) wc := hwa.below.trans ((hwb.kept.below (by omega) (fun i h => by omega)).trans (hwc.kept.below (by omega) (fun i h => by omega)))
              have IC : Blk wc (wq).heap.size 3 [.int .i64 ((i + 1 : Nat) : Int)] := hwc.blk
              have hcn : cntOf (.pointer (some ⟨(wq).heap.size, 0, none⟩)) wc = i + 1 := cntOf_is rfl (IC.cell rfl)
              simp -dsimp only [push_cast, Nat.reduceAdd, Nat.reduceLeDiff, Nat.reduceBEq, Int.reduceNe, Int.reduceEq, Int.reduceLT, Int.reduceLE]
              refine ⟨⟨i + 1, (wq).heap.size, _, rfl, rfl, by omega, fun h => absurd h hne0, IC, hOS.below hbac, (fun g hg => by have := hOS.block g hg; omega), hbS.trans (hbac.mono (by omega))⟩, ?_⟩
              show us.length + 1 - cntOf (.pointer (some ⟨(wq).heap.size, 0, none⟩)) wc < us.length + 1 - i
              rw [hcn]
              omega
        · have hel : ∃ el, f.els = el := ⟨_, rfl⟩
          obtain ⟨el, hel⟩ := hel
          have hsay : isM (hasN nm) (ptsU us) f.rules f.els i = (el || decide (i = 0) || decide (i = us.length)) := by
            unfold isM
            rw [saysM_none hno, ptsU_len, hel]
          have e2 : wy.cell? ⟨w.heap.size, 2, none⟩ = some (.bool el) := by rw [← hel]; exact Fy.cell rfl
          cases hbk : (el) with
          | true =>
            rw [hbk] at hsay
            (rw [hbk] at e2); simp -dsimp only [push_cast, Nat.reduceAdd, Nat.reduceLeDiff, Nat.reduceBEq, Int.reduceNe, Int.reduceEq, Int.reduceLT, Int.reduceLE, e1, e2, e3, e4]
            -- by simp: the place is a break
            have hsu := upTo_succ nm us f.rules f.els i
            rw [hsay, if_pos (by simp)] at hsu
            refine rowK elI_53 rfl rfl (by omega) ?_
            intro wr hwr
            have zr := hwr.size
            simp -dsimp only [push_cast, Nat.reduceAdd, Nat.reduceLeDiff, Nat.reduceBEq, Int.reduceNe, Int.reduceEq, Int.reduceLT, Int.reduceLE]
            refine appendK2 (base := w8.heap.size) [i] (enc := encN) elI_53 (hOy.new hwr) (by rfl) (fun j u hu => by rw [Nat.zero_add]; exact hwr.cell hu) (by simp [encN, Value.oneCell']) (by simp only [List.length_cons, List.length_nil]; omega) (by omega) ?_
            intro vq wq hOq hgq hnq
            have hkq : Kept (fun j => (Value.slice oa (upTo nm us f.rules f.els i).length oc).ownBlock = some j) wr wq := Kept.grown hgq (fun _ h => h)
            have IBq := (IBy.below hwr.below IBy.lt).kept hkq (fun h => hne _ h rfl)
            have hbq : Below w8.heap.size w8 wq := hb8y.trans ((hwr.below.mono (by omega)).trans (hkq.below (by omega) (fun g h => (hO.block g h).1)))
            rw [← hsu] at hOq
            -- wq: the world; hOq: Vc.Own of the longer row; IBq: the counter's block; hbq: Below w8 wq
            have hbS := hbq
            have zS := hbS.size
            have hOS := hOq
            have cS : (wq).cell? ⟨ib, 0, none⟩ = some (.int .i64 i) := (IBq).cell rfl
            simp -dsimp only [push_cast, Nat.reduceAdd, Nat.reduceLeDiff, Nat.reduceBEq, Int.reduceNe, Int.reduceEq, Int.reduceLT, Int.reduceLE, cS]
            refine allocK (z := [.int .i64 0]) (by kernel_rfl) ?_
            intro wa hwa
            have za := hwa.size
            simp -dsimp only [push_cast, Nat.reduceAdd, Nat.reduceLeDiff, Nat.reduceBEq, Int.reduceNe, Int.reduceEq, Int.reduceLT, Int.reduceLE]
            refine storeK_of hwa.blk (by simp) rfl ?_
            intro wb hwb
            have zb := hwb.size
            have cb : wb.cell? ⟨(wq).heap.size, 0, none⟩ = some (.int .i64 i) := hwb.blk.cell rfl
            simp -dsimp only [push_cast, Nat.reduceAdd, Nat.reduceLeDiff, Nat.reduceBEq, Int.reduceNe, Int.reduceEq, Int.reduceLT, Int.reduceLE, cb]
            refine ⟨⟨by omega, by omega⟩, ?_⟩
            refine storeK_of hwb.blk (by simp) rfl ?_
            intro wc hwc
            have zc := hwc.size
            have hbac : Below (wq).heap.size (wq) wc := hwa.below.trans ((hwb.kept.below (by omega) (fun i h => by omega)).trans (hwc.kept.below (by omega) (fun i h => by omega)))
            have IC : Blk wc (wq).heap.size 3 [.int .i64 ((i + 1 : Nat) : Int)] := hwc.blk
            have hcn : cntOf (.pointer (some ⟨(wq).heap.size, 0, none⟩)) wc = i + 1 := cntOf_is rfl (IC.cell rfl)
            simp -dsimp only [push_cast, Nat.reduceAdd, Nat.reduceLeDiff, Nat.reduceBEq, Int.reduceNe, Int.reduceEq, Int.reduceLT, Int.reduceLE]
            refine ⟨⟨i + 1, (wq).heap.size, _, rfl, rfl, by omega, fun h => absurd h hne0, IC, hOS.below hbac, (fun g hg => by have := hOS.block g hg; omega), hbS.trans (hbac.mono (by omega))⟩, ?_⟩
            show us.length + 1 - cntOf (.pointer (some ⟨(wq).heap.size, 0, none⟩)) wc < us.length + 1 - i
            rw [hcn]
            omega
          | false =>
            rw [hbk] at hsay
            (rw [hbk] at e2); simp -dsimp only [push_cast, Nat.reduceAdd, Nat.reduceLeDiff, Nat.reduceBEq, Int.reduceNe, Int.reduceEq, Int.reduceLT, Int.reduceLE, e1, e2, e3, e4]
            refine ⟨fun h0 => ⟨fun h1 => ?_, fun h1 => ?_⟩, fun h0 => ?_⟩
            · have h1' : i = us.length := by omega
              -- by simp [h1']: the place is a break
              have hsu := upTo_succ nm us f.rules f.els i
              rw [hsay, if_pos (by simp [h1'])] at hsu
              refine rowK elI_53 rfl rfl (by omega) ?_
              intro wr hwr
              have zr := hwr.size
              simp -dsimp only [push_cast, Nat.reduceAdd, Nat.reduceLeDiff, Nat.reduceBEq, Int.reduceNe, Int.reduceEq, Int.reduceLT, Int.reduceLE]
              refine appendK2 (base := w8.heap.size) [i] (enc := encN) elI_53 (hOy.new hwr) (by rfl) (fun j u hu => by rw [Nat.zero_add]; exact hwr.cell hu) (by simp [encN, Value.oneCell']) (by simp only [List.length_cons, List.length_nil]; omega) (by omega) ?_
              intro vq wq hOq hgq hnq
              have hkq : Kept (fun j => (Value.slice oa (upTo nm us f.rules f.els i).length oc).ownBlock = some j) wr wq := Kept.grown hgq (fun _ h => h)
              have IBq := (IBy.below hwr.below IBy.lt).kept hkq (fun h => hne _ h rfl)
              have hbq : Below w8.heap.size w8 wq := hb8y.trans ((hwr.below.mono (by omega)).trans (hkq.below (by omega) (fun g h => (hO.block g h).1)))
              rw [← hsu] at hOq
              -- wq: the world; hOq: Vc.Own of the longer row; IBq: the counter's block; hbq: Below w8 wq
              have hbS := hbq
              have zS := hbS.size
              have hOS := hOq
              have cS : (wq).cell? ⟨ib, 0, none⟩ = some (.int .i64 i) := (IBq).cell rfl
              simp -dsimp only [push_cast, Nat.reduceAdd, Nat.reduceLeDiff, Nat.reduceBEq, Int.reduceNe, Int.reduceEq, Int.reduceLT, Int.reduceLE, cS]
              refine allocK (z := [.int .i64 0]) (by kernel_rfl) ?_
              intro wa hwa
              have za := hwa.size
              simp -dsimp only [push_cast, Nat.reduceAdd, Nat.reduceLeDiff, Nat.reduceBEq, Int.reduceNe, Int.reduceEq, Int.reduceLT, Int.reduceLE]
              refine storeK_of hwa.blk (by simp) rfl ?_
              intro wb hwb
              have zb := hwb.size
              have cb : wb.cell? ⟨(wq).heap.size, 0, none⟩ = some (.int .i64 i) := hwb.blk.cell rfl
              simp -dsimp only [push_cast, Nat.reduceAdd, Nat.reduceLeDiff, Nat.reduceBEq, Int.reduceNe, Int.reduceEq, Int.reduceLT, Int.reduceLE, cb]
              refine ⟨⟨by omega, by omega⟩, ?_⟩
              refine storeK_of hwb.blk (by simp) rfl ?_
              intro wc hwc
              have zc := hwc.size
              have hbac : Below (wq).heap.size (wq) wc := hwa.below.trans ((hwb.kept.below (by omega) (fun i h => by omega)).trans (hwc.kept.below (by omega) (fun i h => by omega)))
              have IC : Blk wc (wq).heap.size 3 [.int .i64 ((i + 1 : Nat) : Int)] := hwc.blk
              have hcn : cntOf (.pointer (some ⟨(wq).heap.size, 0, none⟩)) wc = i + 1 := cntOf_is rfl (IC.cell rfl)
              simp -dsimp only [push_cast, Nat.reduceAdd, Nat.reduceLeDiff, Nat.reduceBEq, Int.reduceNe, Int.reduceEq, Int.reduceLT, Int.reduceLE]
              refine ⟨⟨i + 1, (wq).heap.size, _, rfl, rfl, by omega, fun h => absurd h hne0, IC, hOS.below hbac, (fun g hg => by have := hOS.block g hg; omega), hbS.trans (hbac.mono (by omega))⟩, ?_⟩
              show us.length + 1 - cntOf (.pointer (some ⟨(wq).heap.size, 0, none⟩)) wc < us.length + 1 - i
              rw [hcn]
              omega
            · have h0' : i ≠ 0 := by omega
              have h1' : i ≠ us.length := by omega
              -- by simp [h0', h1']: the place is no break
              have hsu := upTo_succ nm us f.rules f.els i
              rw [hsay, if_neg (by simp [h0', h1']), List.append_nil] at hsu
              have hOy' : Vc.Own w8.heap.size 3 1 encN wy (.slice oa (upTo nm us f.rules f.els i).length oc) (upTo nm us f.rules f.els (i + 1)) := by rw [hsu]; exact hOy
              -- wy: the world; hOy': Vc.Own of the longer row; IBy: the counter's block; hb8y: Below w8 wy
              have hbS := hb8y
              have zS := hbS.size
              have hOS := hOy'
              have cS : (wy).cell? ⟨ib, 0, none⟩ = some (.int .i64 i) := (IBy).cell rfl
              skip
              refine allocK (z := [.int .i64 0]) (by kernel_rfl) ?_
              intro wa hwa
              have za := hwa.size
              simp -dsimp only [push_cast, Nat.reduceAdd, Nat.reduceLeDiff, Nat.reduceBEq, Int.reduceNe, Int.reduceEq, Int.reduceLT, Int.reduceLE]
              refine storeK_of hwa.blk (by simp) rfl ?_
              intro wb hwb
              have zb := hwb.size
              have cb : wb.cell? ⟨(wy).heap.size, 0, none⟩ = some (.int .i64 i) := hwb.blk.cell rfl
              simp -dsimp only [push_cast, Nat.reduceAdd, Nat.reduceLeDiff, Nat.reduceBEq, Int.reduceNe, Int.reduceEq, Int.reduceLT, Int.reduceLE, cb]
              refine ⟨⟨by omega, by omega⟩, ?_⟩
              refine storeK_of hwb.blk (by simp) rfl ?_
              intro wc hwc
              have zc := hwc.size
              have hbac : Below (wy).heap.size (wy) wc := hwa.below.trans ((hwb.kept.below (by omega) (fun i h => by omega)).trans (hwc.kept.below (by omega) (fun i h => by omega)))
              have IC : Blk wc (wy).heap.size 3 [.int .i64 ((i + 1 : Nat) : Int)] := hwc.blk
              have hcn : cntOf (.pointer (some ⟨(wy).heap.size, 0, none⟩)) wc = i + 1 := cntOf_is rfl (IC.cell rfl)
              simp -dsimp only [push_cast, Nat.reduceAdd, Nat.reduceLeDiff, Nat.reduceBEq, Int.reduceNe, Int.reduceEq, Int.reduceLT, Int.reduceLE]
              refine ⟨⟨i + 1, (wy).heap.size, _, rfl, rfl, by omega, fun h => absurd h hne0, IC, hOS.below hbac, (fun g hg => by have := hOS.block g hg; omega), hbS.trans (hbac.mono (by omega))⟩, ?_⟩
              show us.length + 1 - cntOf (.pointer (some ⟨(wy).heap.size, 0, none⟩)) wc < us.length + 1 - i
              rw [hcn]
              omega
            · have h0' : i = 0 := by omega
              -- by simp [h0']: the place is a break
              have hsu := upTo_succ nm us f.rules f.els i
              rw [hsay, if_pos (by simp [h0'])] at hsu
              refine rowK elI_53 rfl rfl (by omega) ?_
              intro wr hwr
              have zr := hwr.size
              simp -dsimp only [push_cast, Nat.reduceAdd, Nat.reduceLeDiff, Nat.reduceBEq, Int.reduceNe, Int.reduceEq, Int.reduceLT, Int.reduceLE]
              refine appendK2 (base := w8.heap.size) [i] (enc := encN) elI_53 (hOy.new hwr) (by rfl) (fun j u hu => by rw [Nat.zero_add]; exact hwr.cell hu) (by simp [encN, Value.oneCell']) (by simp only [List.length_cons, List.length_nil]; omega) (by omega) ?_
              intro vq wq hOq hgq hnq
              have hkq : Kept (fun j => (Value.slice oa (upTo nm us f.rules f.els i).length oc).ownBlock = some j) wr wq := Kept.grown hgq (fun _ h => h)
              have IBq := (IBy.below hwr.below IBy.lt).kept hkq (fun h => hne _ h rfl)
              have hbq : Below w8.heap.size w8 wq := hb8y.trans ((hwr.below.mono (by omega)).trans (hkq.below (by omega) (fun g h => (hO.block g h).1)))
              rw [← hsu] at hOq
              -- wq: the world; hOq: Vc.Own of the longer row; IBq: the counter's block; hbq: Below w8 wq
              have hbS := hbq
              have zS := hbS.size
              have hOS := hOq
              have cS : (wq).cell? ⟨ib, 0, none⟩ = some (.int .i64 i) := (IBq).cell rfl
              simp -dsimp only [push_cast, Nat.reduceAdd, Nat.reduceLeDiff, Nat.reduceBEq, Int.reduceNe, Int.reduceEq, Int.reduceLT, Int.reduceLE, cS]
              refine allocK (z := [.int .i64 0]) (by kernel_rfl) ?_
              intro wa hwa
              have za := hwa.size
              simp -dsimp only [push_cast, Nat.reduceAdd, Nat.reduceLeDiff, Nat.reduceBEq, Int.reduceNe, Int.reduceEq, Int.reduceLT, Int.reduceLE]
              refine storeK_of hwa.blk (by simp) rfl ?_
              intro wb hwb
              have zb := hwb.size
              have cb : wb.cell? ⟨(wq).heap.size, 0, none⟩ = some (.int .i64 i) := hwb.blk.cell rfl
              simp -dsimp only [push_cast, Nat.reduceAdd, Nat.reduceLeDiff, Nat.reduceBEq, Int.reduceNe, Int.reduceEq, Int.reduceLT, Int.reduceLE, cb]
              refine ⟨⟨by omega, by omega⟩, ?_⟩
              refine storeK_of hwb.blk (by simp) rfl ?_
              intro wc hwc
              have zc := hwc.size
              have hbac : Below (wq).heap.size (wq) wc := hwa.below.trans ((hwb.kept.below (by omega) (fun i h => by omega)).trans (hwc.kept.below (by omega) (fun i h => by omega)))
              have IC : Blk wc (wq).heap.size 3 [.int .i64 ((i + 1 : Nat) : Int)] := hwc.blk
              have hcn : cntOf (.pointer (some ⟨(wq).heap.size, 0, none⟩)) wc = i + 1 := cntOf_is rfl (IC.cell rfl)
              simp -dsimp only [push_cast, Nat.reduceAdd, Nat.reduceLeDiff, Nat.reduceBEq, Int.reduceNe, Int.reduceEq, Int.reduceLT, Int.reduceLE]
              refine ⟨⟨i + 1, (wq).heap.size, _, rfl, rfl, by omega, fun h => absurd h hne0, IC, hOS.below hbac, (fun g hg => by have := hOS.block g hg; omega), hbS.trans (hbac.mono (by omega))⟩, ?_⟩
              show us.length + 1 - cntOf (.pointer (some ⟨(wq).heap.size, 0, none⟩)) wc < us.length + 1 - i
              rw [hcn]
              omega
      · exact ⟨hdone (.inl (List.eq_nil_of_length_eq_zero (by omega))), hbx⟩
      · exact ⟨hdone (.inr (by omega)), hbx⟩
end Go.Proofs.YtledlfbbebodgaaGreatDoor
end
section
namespace Cae
theorem pn_text {f:FileP} {r:RuleP} (hr:r∈f.rules):pn r.before≤(fileText f).length+5∧pn r.after≤(fileText f).length+5:=by
 have h1:=rt_len r;have h2:=flatS_mem ruleText hr;have h3:(f.rules.flatMap ruleText).length≤(fileText f).length:=by
  unfold fileText;simp only[List.length_append];omega
 have h4:=pt_zero r.before;have h5:=pt_zero r.after;have hp1:pn r.before=(patText r.before 2).length+3:=rfl;have hp2:pn r.after=(patText r.after 2).length+3:=rfl;omega
end Cae
namespace Go.Proofs.YtledlfbbebodgaaGreatDoor
open Go.Vc Go.Proofs Go.RowKit Cae
attribute [local irreducible] wpL callK valK unitK runK Fun Sl Vc.Own vc vcOps opK pureK
theorem parse_pn {s:List UInt8} {f:FileP} (h:parseR s=.ok f) (hs:s.length≤5000):PnOk f:=fun r hr=>by
 have h1:=text_len h;have h2:=pn_text hr;have h3:=wd_pn r.before;have h4:=wd_pn r.after;omega
theorem FileV.mono {X X' Y:Nat→Prop} {w w':World} {v:Value} {f:FileP} (h:FileV X w v f) (hk:Kept Y w w') (hY:∀i,Y i→X i) (hX:∀i,X' i→X i):FileV X' w' v f:=by
 obtain⟨cv,rv,cs,rs,rfl,S1,S2,A1,A2⟩:=h;exact⟨cv,rv,cs,rs,rfl,(S1.kept hk hY).weaken hX,(S2.kept hk hY).weaken hX,A1.imp fun a c h=>ClsR.mono hk hY hX h,A2.imp fun a c h=>RulR.mono hk hY hX h⟩
def RightR (B:Nat) (s:List UInt8) (r:Value) (w:World):Prop:=∃(a1:Option Addr) (n1 k1:Nat) (a2:Option Addr) (n2 k2:Nat) (e b:Bool),r=.tuple #[.agg #[.slice a1 n1 k1,.slice a2 n2 k2,.bool e],.bool b] ∧
 (b=true→s.length≤500∧∃f,parseR s=.ok f∧chkS f=none∧FileV (·<B) w (.agg #[.slice a1 n1 k1,.slice a2 n2 k2,.bool e]) f)
theorem rightF_c (s : List UInt8) (w : World) (hd : Db w) (he : SErrs w) (hg : 11 ≤ w.heap.size) :
    Fun Tryz.prog 9 [str s] w fun r w' => RightR w.heap.size s r w' ∧ Below w.heap.size w w' := by
  refine fun_of_vcC Tryz.func9 rfl (by kernel_rfl) [.cell 2 26, .tmp 3] rfl ?_
  simp -dsimp (maxSteps := 4000000) only [push_cast, fr0, Tryz.ntmps9, List.length_cons, List.length_nil, Nat.reduceAdd, Nat.reduceSub, Nat.reduceBEq, List.replicate_succ, List.replicate_zero]
  refine allocK (z := [.slice none 0 0, .slice none 0 0, .bool false]) (by kernel_rfl) ?_
  intro w1 hw1
  have z1 := hw1.size
  simp -dsimp only [push_cast, Nat.reduceAdd, Nat.reduceLeDiff, Nat.reduceBEq, Int.reduceNe, Int.reduceEq, Int.reduceLT, Int.reduceLE]
  refine ⟨fun hlt => ?_, fun hge => ?_⟩
  · refine storeAgg (n := 3) (by kernel_rfl) hw1.blk rfl (by simp) (by intro v hv; simp only [List.mem_cons, List.not_mem_nil, or_false] at hv; rcases hv with rfl | rfl | rfl <;> rfl) ?_
    intro w2 hw2
    have z2 := hw2.size
    have hb2 : Below w.heap.size w w2 := hw1.below.trans (hw2.kept.below (by omega) (fun i h => by omega))
    have d2 : cellsAt w2 ⟨w.heap.size, 0, none⟩ 0 3 = some [.slice none 0 0, .slice none 0 0, .bool false] := hw2.blk.cellsAt
    simp -dsimp only [push_cast, Nat.reduceAdd, Nat.reduceLeDiff, Nat.reduceBEq, Int.reduceNe, Int.reduceEq, Int.reduceLT, Int.reduceLE, d2]
    refine ⟨⟨_, _, _, _, _, _, _, _, rfl, fun h => by cases h⟩, hb2⟩
  · refine callK_of (ruleParse_c s (by omega) w1 (hd.below hw1.below hd.lt) (he.below hw1.below) (by omega)) ?_
    rintro r w2 ⟨hP, hb2⟩
    have z2 := hb2.size
    have hbw2 := hw1.below.trans (hb2.mono (by omega))
    rcases hP with ⟨f, v, hpar, rfl, hV⟩ | ⟨e, pos, b, hpar, rfl, heb, hEB⟩
    · have hV0 := hV
      obtain ⟨cv, rv, cs, rs, rfl, S1, S2, A1, A2⟩ := hV
      have hpo := parse_ok (by omega) hpar
      have hpp := parse_pn hpar (by omega)
      obtain ⟨ca, cc, rfl, hcc⟩ := S1.shape
      obtain ⟨ra, rc, rfl, hrc⟩ := S2.shape
      -- .slice ca cs.length cc, .slice ra rs.length rc, .bool f.els: the cells; what Parse answered is laid
      simp -dsimp only [push_cast, Nat.reduceAdd, Nat.reduceLeDiff, Nat.reduceBEq, Int.reduceNe, Int.reduceEq, Int.reduceLT, Int.reduceLE]
      refine allocK (z := [.slice none 0 0, .slice none 0 0, .bool false]) (by kernel_rfl) ?_
      intro w3 hw3
      have z3 := hw3.size
      simp -dsimp only [push_cast, Nat.reduceAdd, Nat.reduceLeDiff, Nat.reduceBEq, Int.reduceNe, Int.reduceEq, Int.reduceLT, Int.reduceLE]
      refine storeAgg (n := 3) (by kernel_rfl) hw3.blk rfl (by simp) (by intro v hv; simp only [List.mem_cons, List.not_mem_nil, or_false] at hv; rcases hv with rfl | rfl | rfl <;> rfl) ?_
      intro w4 hw4
      have z4 := hw4.size
      have hb24 : Below w2.heap.size w2 w4 := hw3.below.trans (hw4.kept.below (by omega) (fun i h => by omega))
      have hbw4 := hbw2.trans (hb24.mono (by omega))
      have B4 : Blk w4 w2.heap.size 26 [.slice ca cs.length cc, .slice ra rs.length rc, .bool f.els] := hw4.blk
      have R4 := (hw1.blk.below hb2 (by omega)).below hb24 (by omega)
      have B4d := B4.drew
      have hbd4 := below_drew w4
      have d4 : cellsAt w4.drew ⟨w2.heap.size, 0, none⟩ 0 3 = some [.slice ca cs.length cc, .slice ra rs.length rc, .bool f.els] := B4d.cellsAt
      simp -dsimp only [push_cast, Nat.reduceAdd, Nat.reduceLeDiff, Nat.reduceBEq, Int.reduceNe, Int.reduceEq, Int.reduceLT, Int.reduceLE]
      refine wpL_drawN (fun w' => Blk w' w2.heap.size 26 [.slice ca cs.length cc, .slice ra rs.length rc, .bool f.els]) mixed (by kernel_rfl) B4d ?_
      simp -dsimp only [push_cast, Nat.reduceAdd, Nat.reduceLeDiff, Nat.reduceBEq, Int.reduceNe, Int.reduceEq, Int.reduceLT, Int.reduceLE, d4]
      have hcl : ∀ w'', Blk w'' w2.heap.size 26 [.slice ca cs.length cc, .slice ra rs.length rc, .bool f.els] → cellsAt w'' ⟨w2.heap.size, 0, none⟩ 0 3 = some [.slice ca cs.length cc, .slice ra rs.length rc, .bool f.els] := fun w'' h => h.cellsAt
      refine ⟨fun w'' h => by rw [hcl w'' h]; exact rfl, fun w'' h => by rw [hcl w'' h]; exact rfl, ?_⟩
      have hVd := (hV0.below hb24).below hbd4
      refine callK_of (check_c f hpo.1 hpp (by omega) (by omega) _ _ w4.drew hVd) ?_
      rintro r w5 ⟨hE, hb5⟩
      have z5 := hb5.size
      have B5 := B4d.below hb5 B4d.lt
      have R5 := (R4.drew).below hb5 R4.drew.lt
      refine ⟨B5, ?_⟩
      have hbw5 := (hbw4.trans (hbd4.mono (by omega))).trans (hb5.mono (by show w.heap.size ≤ w4.heap.size; omega))
      have zd : w4.drew.heap.size = w4.heap.size := rfl
      cases hchk : chkS f with
      | some e =>
        rw [hchk] at hE
        obtain ⟨c, e⟩ := e
        obtain ⟨eb, heb, rfl, hEB⟩ := hE
        simp -dsimp only [push_cast, Nat.reduceAdd, Nat.reduceLeDiff, Nat.reduceBEq, Int.reduceNe, Int.reduceEq, Int.reduceLT, Int.reduceLE]
        -- w5: world; R5: result's block in it; B5: file's block in it; .slice ca cs.length cc, .slice ra rs.length rc, .bool f.els: the cells; hbw5: Below w w5; $6: closing
        refine storeAgg (n := 3) (by kernel_rfl) R5 rfl (by simp) (by intro v hv; simp only [List.mem_cons, List.not_mem_nil, or_false] at hv; rcases hv with rfl | rfl | rfl <;> rfl) ?_
        intro w6 hw6
        have z6 := hw6.size
        have hb6 := hw6.kept
        have hbF := hbw5
        have zF := hbF.size
        have B6 := Blk.kept (B5) hw6.kept (fun h => by omega)
        have hbw6 : Below w.heap.size w w6 := hbF.trans (hw6.kept.below (by omega) (fun i h => by omega))
        refine ⟨B6, ?_⟩
        have d6 : cellsAt w6 ⟨w.heap.size, 0, none⟩ 0 3 = some [.slice ca cs.length cc, .slice ra rs.length rc, .bool f.els] := hw6.blk.cellsAt
        simp -dsimp only [push_cast, Nat.reduceAdd, Nat.reduceLeDiff, Nat.reduceBEq, Int.reduceNe, Int.reduceEq, Int.reduceLT, Int.reduceLE, d6]
        exact ⟨⟨_, _, _, _, _, _, _, _, rfl, fun h => by cases h⟩, hbw6⟩
      | none =>
        rw [hchk] at hE
        have hE : r = .nilIface := hE
        subst hE
        simp -dsimp only [push_cast, Nat.reduceAdd, Nat.reduceLeDiff, Nat.reduceBEq, Int.reduceNe, Int.reduceEq, Int.reduceLT, Int.reduceLE]
        -- w5: world; R5: result's block in it; B5: file's block in it; .slice ca cs.length cc, .slice ra rs.length rc, .bool f.els: the cells; hbw5: Below w w5; $6: closing
        refine storeAgg (n := 3) (by kernel_rfl) R5 rfl (by simp) (by intro v hv; simp only [List.mem_cons, List.not_mem_nil, or_false] at hv; rcases hv with rfl | rfl | rfl <;> rfl) ?_
        intro w6 hw6
        have z6 := hw6.size
        have hb6 := hw6.kept
        have hbF := hbw5
        have zF := hbF.size
        have B6 := Blk.kept (B5) hw6.kept (fun h => by omega)
        have hbw6 : Below w.heap.size w w6 := hbF.trans (hw6.kept.below (by omega) (fun i h => by omega))
        refine ⟨B6, ?_⟩
        have d6 : cellsAt w6 ⟨w.heap.size, 0, none⟩ 0 3 = some [.slice ca cs.length cc, .slice ra rs.length rc, .bool f.els] := hw6.blk.cellsAt
        simp -dsimp only [push_cast, Nat.reduceAdd, Nat.reduceLeDiff, Nat.reduceBEq, Int.reduceNe, Int.reduceEq, Int.reduceLT, Int.reduceLE, d6]
        have hk26 : Kept (· = w.heap.size) w2 w6 := (Kept.of_below (hb24.trans ((hbd4.mono (by omega)).trans (hb5.mono (by omega)))) (fun i h1 h2 => by omega)).trans hw6.kept (fun _ _ h => h)
        exact ⟨⟨_, _, _, _, _, _, _, _, rfl, fun _ => ⟨by omega, f, hpar, hchk, hV0.mono hk26 (fun i h => by omega) (fun i h => by omega)⟩⟩, hbw6⟩
    · skip
      -- .slice none 0 0, .slice none 0 0, .bool false: the cells; what Parse answered is laid
      simp -dsimp only [push_cast, Nat.reduceAdd, Nat.reduceLeDiff, Nat.reduceBEq, Int.reduceNe, Int.reduceEq, Int.reduceLT, Int.reduceLE]
      refine allocK (z := [.slice none 0 0, .slice none 0 0, .bool false]) (by kernel_rfl) ?_
      intro w3 hw3
      have z3 := hw3.size
      simp -dsimp only [push_cast, Nat.reduceAdd, Nat.reduceLeDiff, Nat.reduceBEq, Int.reduceNe, Int.reduceEq, Int.reduceLT, Int.reduceLE]
      refine storeAgg (n := 3) (by kernel_rfl) hw3.blk rfl (by simp) (by intro v hv; simp only [List.mem_cons, List.not_mem_nil, or_false] at hv; rcases hv with rfl | rfl | rfl <;> rfl) ?_
      intro w4 hw4
      have z4 := hw4.size
      have hb24 : Below w2.heap.size w2 w4 := hw3.below.trans (hw4.kept.below (by omega) (fun i h => by omega))
      have hbw4 := hbw2.trans (hb24.mono (by omega))
      have B4 : Blk w4 w2.heap.size 26 [.slice none 0 0, .slice none 0 0, .bool false] := hw4.blk
      have R4 := (hw1.blk.below hb2 (by omega)).below hb24 (by omega)
      have B4d := B4.drew
      have hbd4 := below_drew w4
      have d4 : cellsAt w4.drew ⟨w2.heap.size, 0, none⟩ 0 3 = some [.slice none 0 0, .slice none 0 0, .bool false] := B4d.cellsAt
      simp -dsimp only [push_cast, Nat.reduceAdd, Nat.reduceLeDiff, Nat.reduceBEq, Int.reduceNe, Int.reduceEq, Int.reduceLT, Int.reduceLE]
      refine wpL_drawN (fun w' => Blk w' w2.heap.size 26 [.slice none 0 0, .slice none 0 0, .bool false]) mixed (by kernel_rfl) B4d ?_
      simp -dsimp only [push_cast, Nat.reduceAdd, Nat.reduceLeDiff, Nat.reduceBEq, Int.reduceNe, Int.reduceEq, Int.reduceLT, Int.reduceLE, d4]
      have hcl : ∀ w'', Blk w'' w2.heap.size 26 [.slice none 0 0, .slice none 0 0, .bool false] → cellsAt w'' ⟨w2.heap.size, 0, none⟩ 0 3 = some [.slice none 0 0, .slice none 0 0, .bool false] := fun w'' h => h.cellsAt
      refine ⟨fun w'' h => by rw [hcl w'' h]; exact rfl, ?_⟩
      have zd : w4.drew.heap.size = w4.heap.size := rfl
      -- w4.drew: world; R4.drew: result's block in it; B4d: file's block in it; .slice none 0 0, .slice none 0 0, .bool false: the cells; (hbw4.trans (hbd4.mono (by omega))): Below w w4.drew; $6: closing
      refine storeAgg (n := 3) (by kernel_rfl) R4.drew rfl (by simp) (by intro v hv; simp only [List.mem_cons, List.not_mem_nil, or_false] at hv; rcases hv with rfl | rfl | rfl <;> rfl) ?_
      intro w6 hw6
      have z6 := hw6.size
      have hb6 := hw6.kept
      have hbF := (hbw4.trans (hbd4.mono (by omega)))
      have zF := hbF.size
      have B6 := Blk.kept (B4d) hw6.kept (fun h => by omega)
      have hbw6 : Below w.heap.size w w6 := hbF.trans (hw6.kept.below (by omega) (fun i h => by omega))
      refine ⟨B6, ?_⟩
      have d6 : cellsAt w6 ⟨w.heap.size, 0, none⟩ 0 3 = some [.slice none 0 0, .slice none 0 0, .bool false] := hw6.blk.cellsAt
      simp -dsimp only [push_cast, Nat.reduceAdd, Nat.reduceLeDiff, Nat.reduceBEq, Int.reduceNe, Int.reduceEq, Int.reduceLT, Int.reduceLE, d6]
      exact ⟨⟨_, _, _, _, _, _, _, _, rfl, fun h => by cases h⟩, hbw6⟩
end Go.Proofs.YtledlfbbebodgaaGreatDoor
end
section
namespace Go.Proofs.YtledlfbbebodgaaGreatDoor
open Go.Vc Go.Proofs Go.RowKit
open Go.RowKit Go.Extern.Stop Go.Stop Go.Extern
def ErrVar (w:World):Prop:=w.cell? ⟨1,0,none⟩=some (.iface 210 (.agg #[.pointer (some ⟨11,31,none⟩)]))
theorem valueOfPE (a:Addr) (w:World):(ReflectliteValue.unpack (.iface 142 (.pointer (some a)))).run Tryz.prog w
  = .ok (.agg #[.pointer (some ⟨11,142,none⟩),.pointer (some ⟨w.heap.size,0,none⟩),.int .u64 150]) (w.alloc (.cells #[.pointer (some a)] 142)):=by kernel_rfl
theorem typePE (a:Addr) (w:World):(ReflectliteValue.methodAny (ReflectliteValue.valueError "reflectlite.Value.Type" 0) (fun t _ _ _=>ReflectliteType.toType t) #[.agg #[.pointer (some ⟨11,142,none⟩),.pointer (some a),.int .u64 150]]).run Tryz.prog w
  = .ok (.iface 210 (.agg #[.pointer (some ⟨11,142,none⟩)])) w:=by kernel_rfl
theorem mKind (h:Value) (w:World):(Go.method (Tryz.prog.types.size+Made.depth) 210 (.agg #[h]) "Kind").run Tryz.prog w=.ok (245,h) w:=by kernel_rfl
theorem mElem (h:Value) (w:World):(Go.method (Tryz.prog.types.size+Made.depth) 210 (.agg #[h]) "Elem").run Tryz.prog w=.ok (257,.agg #[h]) w:=by kernel_rfl
theorem mImplements (h:Value) (w:World):(Go.method (Tryz.prog.types.size+Made.depth) 210 (.agg #[h]) "Implements").run Tryz.prog w=.ok (258,.agg #[h]) w:=by kernel_rfl
theorem mAssignableTo (h:Value) (w:World):(Go.method (Tryz.prog.types.size+Made.depth) 210 (.agg #[h]) "AssignableTo").run Tryz.prog w=.ok (255,.agg #[h]) w:=by kernel_rfl
theorem mUnwrap (a:Addr) (w:World):(Go.method (Tryz.prog.types.size+Made.depth) 92 (.pointer (some a)) "Unwrap").run Tryz.prog w=.ok (250,.pointer (some a)) w:=by kernel_rfl
theorem kindPE (w:World):((ReflectliteType.abiMethod fun t=>(fun a:Nat=>Value.int IntKind.u8 (a:Int)) <$> Rtype.kind t) #[.pointer (some ⟨11,142,none⟩)]).run Tryz.prog w=.ok (.int .u8 22) w:=by kernel_rfl
theorem kindE (w:World):((ReflectliteType.abiMethod fun t=>(fun a:Nat=>Value.int IntKind.u8 (a:Int)) <$> Rtype.kind t) #[.pointer (some ⟨11,83,none⟩)]).run Tryz.prog w=.ok (.int .u8 2) w:=by kernel_rfl
theorem rlm (z:Sem Value) (f:TypeId→Addr→Nat→Nat→Sem Value) (a:Addr) (W:World):(ReflectliteValue.method z f #[.agg #[.pointer (some ⟨11,142,none⟩),.pointer (some a),.int .u64 150]]).run Tryz.prog W=(f 142 a 150 22).run Tryz.prog W:=by kernel_rfl
theorem isNilPE (a p:Addr) (W:World) (ha:W.cell? a=some (.pointer (some p))) :
  (ReflectliteValue.method (ReflectliteValue.valueError "reflectlite.Value.IsNil" 0) ReflectliteValue.isNil #[.agg #[.pointer (some ⟨11,142,none⟩),.pointer (some a),.int .u64 150]]).run Tryz.prog W=.ok (.bool false) W:=by
 rw[rlm];simp[ReflectliteValue.isNil,loadVar,isAgg,underlying,Tryz.underlying142,ha,Result.andThen]
theorem elemPE (w:World):(ReflectliteType.method ReflectliteType.elem #[.agg #[.pointer (some ⟨11,142,none⟩)]]).run Tryz.prog w=.ok (.iface 210 (.agg #[.pointer (some ⟨11,83,none⟩)])) w:=by kernel_rfl
theorem implementsE (w:World):(ReflectliteType.relation "Implements" ReflectliteType.implements_ #[.agg #[.pointer (some ⟨11,83,none⟩)],.iface 210 (.agg #[.pointer (some ⟨11,31,none⟩)])]).run Tryz.prog w=.ok (.bool true) w:=by kernel_rfl
theorem typeOfE (v:Value) (w:World):(ReflectliteType.typeOf #[.iface 83 v]).run Tryz.prog w=.ok (.iface 210 (.agg #[.pointer (some ⟨11,83,none⟩)])) w:=by kernel_rfl
theorem typeOfA (v:Value) (w:World):(ReflectliteType.typeOf #[.iface 92 v]).run Tryz.prog w=.ok (.iface 210 (.agg #[.pointer (some ⟨11,92,none⟩)])) w:=by kernel_rfl
theorem assignE (w:World):(ReflectliteType.relation "AssignableTo" ReflectliteType.assignableTo #[.agg #[.pointer (some ⟨11,83,none⟩)],.iface 210 (.agg #[.pointer (some ⟨11,83,none⟩)])]).run Tryz.prog w=.ok (.bool true) w:=by kernel_rfl
theorem assignA (w:World):(ReflectliteType.relation "AssignableTo" ReflectliteType.assignableTo #[.agg #[.pointer (some ⟨11,92,none⟩)],.iface 210 (.agg #[.pointer (some ⟨11,83,none⟩)])]).run Tryz.prog w=.ok (.bool false) w:=by kernel_rfl
theorem valueOfE (n:Int) (w:World):(ReflectliteValue.unpack (.iface 83 (.int .i64 n))).run Tryz.prog w
  = .ok (.agg #[.pointer (some ⟨11,83,none⟩),.pointer (some ⟨w.heap.size,0,none⟩),.int .u64 130]) (w.alloc (.cells #[.int .i64 n] 83)):=by kernel_rfl
theorem elemOfPE (w:World):(Rtype.elem? 142).run Tryz.prog w=.ok (some 83) w:=by kernel_rfl
theorem mkE (p:Addr) (w:World):(ReflectliteValue.mk 83 p ReflectliteValue.flagAddr).run Tryz.prog w=.ok (.agg #[.pointer (some ⟨11,83,none⟩),.pointer (some p),.int .u64 386]) w:=by kernel_rfl
theorem elemVPE (a p:Addr) (W:World) (ha:W.cell? a=some (.pointer (some p))) :
  (ReflectliteValue.method (ReflectliteValue.valueError "reflectlite.Value.Elem" 0) ReflectliteValue.elem #[.agg #[.pointer (some ⟨11,142,none⟩),.pointer (some a),.int .u64 150]]).run Tryz.prog W
   = .ok (.agg #[.pointer (some ⟨11,83,none⟩),.pointer (some p),.int .u64 386]) W:=by
 rw[rlm];simp[ReflectliteValue.elem,loadVar,isAgg,underlying,Tryz.underlying142,ha,Result.andThen,elemOfPE,mkE]
theorem rls (ta b:Addr) (W:World):(ReflectliteValue.set #[.agg #[.pointer (some ⟨11,83,none⟩),.pointer (some ta),.int .u64 386],.agg #[.pointer (some ⟨11,83,none⟩),.pointer (some b),.int .u64 130]]).run Tryz.prog W=((loadVar 83 b >>= fun x=>storeVar 83 ta x >>= fun _=>pure (.tuple #[])):Sem Value).run Tryz.prog W:=by kernel_rfl
theorem setE (ta b:Addr) (n:Int) (old:Value) (W:World) (hb:W.cell? b=some (.int .i64 n)) (ht:W.cell? ta=some old) (hf:W.frozen? ta=false) :
  (ReflectliteValue.set #[.agg #[.pointer (some ⟨11,83,none⟩),.pointer (some ta),.int .u64 386],.agg #[.pointer (some ⟨11,83,none⟩),.pointer (some b),.int .u64 130]]).run Tryz.prog W
   = .ok (.tuple #[]) (W.setCell ta (.int .i64 n)):=by
 rw[rls];simp[loadVar,isAgg,underlying,Tryz.underlying83,hb,Result.andThen,storeVar,Value.cells,storeCells,Addr.add];rw[run_store Tryz.prog W ta _ _ (by rfl)];simp[ht,hf]
end Go.Proofs.YtledlfbbebodgaaGreatDoor
end
section
namespace Go.Proofs.YtledlfbbebodgaaGreatDoor
open Go.Vc Go.Proofs Go.RowKit Cae
attribute [local irreducible] wpL callK valK unitK runK Fun Sl Vc.Own vc vcOps opK pureK
open Go.RowKit Go.Extern.Stop Go.Stop Go.Extern
theorem unwrap_c (b:Nat) (n:Int) (w:World) (hB:w.cell? ⟨b,0,none⟩=some (.int .i64 n)):Fun Tryz.prog 250 [.pointer (some ⟨b,0,none⟩)] w fun v w'=>v=.iface 83 (.int .i64 n)∧w'=w:=by
 refine fun_of_vc Tryz.func250 rfl (by kernel_rfl) [2] rfl ?_;simp -dsimp (maxSteps:=4000000) only[push_cast,fr0,Tryz.ntmps250,List.length_cons,List.length_nil,Nat.reduceAdd,Nat.reduceSub,Nat.reduceBEq,List.replicate_succ,List.replicate_zero];simp -dsimp only[push_cast,Nat.reduceAdd,Nat.reduceLeDiff,Nat.reduceBEq,Int.reduceNe,Int.reduceEq,Int.reduceLT,Int.reduceLE,hB]
inductive IsErr (w:World):Value→Int→Prop
 | bare (n:Int):IsErr w (.iface 83 (.int .i64 n)) n
 | at_ (b:Nat) (n:Int):w.cell? ⟨b,0,none⟩=some (.int .i64 n)→IsErr w (.iface 92 (.pointer (some ⟨b,0,none⟩))) n
theorem IsErr.mono {w w':World} {v:Value} {n:Int} {X:Nat→Prop} (h:IsErr w v n) (hk:Kept X w w') (hX:∀a,v=.iface 92 (.pointer (some a))→¬X a.block):IsErr w' v n:=by
 cases h with
 | bare n=>exact .bare n
 | at_ b n hb=>exact .at_ b n (hk.cell hb (hX _ rfl))
theorem as_c (v u:Value) (n:Int) (b c:Nat) (w:World) (hv:IsErr w v n) (hB:Blk w b 83 [u]) (hc:w.cell? ⟨c,0,none⟩=some (.pointer (some ⟨b,0,none⟩))) :
  Fun Tryz.prog 103 [v,.iface 142 (.pointer (some ⟨b,0,none⟩)),.agg #[.pointer (some ⟨11,142,none⟩),.pointer (some ⟨c,0,none⟩),.int .u64 150],.iface 210 (.agg #[.pointer (some ⟨11,83,none⟩)])] w
   fun r w'=>r=.bool true∧Blk w' b 83 [.int .i64 n]∧Kept (·=b) w w':=by
 refine fun_of_vc Tryz.func103 rfl (by kernel_rfl) [8] rfl ?_;simp -dsimp (maxSteps:=4000000) only[push_cast,fr0,Tryz.ntmps103,List.length_cons,List.length_nil,Nat.reduceAdd,Nat.reduceSub,Nat.reduceBEq,List.replicate_succ,List.replicate_zero];refine boxK_of ?_;intro w1 hw1;simp -dsimp only[push_cast,Nat.reduceAdd,Nat.reduceLeDiff,Nat.reduceBEq,Int.reduceNe,Int.reduceEq,Int.reduceLT,Int.reduceLE]
 refine wpL_loop [0,8,9,10,11,12,14,15,16,17,18,19,20,21,22,23,24,25,26,27,28,29,30,31,32,33,34,35,36,37,38,39,40,41,42,43,44,45,46,47,48,49,50,51,52,53,54,55,56,57,58,59,60,61] (fun z wx=>IsErr wx (z 0) n∧Kept (fun _=>False) w1 wx) (fun z _=>match z 0 with|.iface _ (.pointer _)=>1|_=>0) ?_ ?_
 ·exact⟨hv.mono (Kept.new hw1 (X:=fun _=>False)) (fun _ _=>id),Kept.refl _ _⟩
 ·intro z wx hI;obtain⟨hv,hk⟩:=hI;have hk0:Kept (fun _=>False) w wx:=(Kept.new hw1).trans hk (fun _ _=>id);have hB:=hB.kept hk0 id;have hc:=hk0.cell hc id;have c1:cellsAt wx ⟨w.heap.size,0,none⟩ 0 3=some [.pointer (some ⟨11,142,none⟩),.pointer (some ⟨c,0,none⟩),.int .u64 150] :=
   cellsAt_of (b:=w.heap.size) (o:=0) [.pointer (some ⟨11,142,none⟩),.pointer (some ⟨c,0,none⟩),.int .u64 150] 0 (fun j u hu=>hk.cell (by simpa using hw1.cell hu) id)
  generalize hz:z 0=v0 at hv;cases hv with
  | bare n =>
   simp -dsimp only[push_cast,Nat.reduceAdd,Nat.reduceLeDiff,Nat.reduceBEq,Int.reduceNe,Int.reduceEq,Int.reduceLT,Int.reduceLE,hz];refine callK_ext (e:=ReflectliteType.typeOf) Tryz.func135 (by kernel_rfl) (by kernel_rfl) (by kernel_rfl) (by kernel_rfl) (typeOfE _ _) ?_;simp -dsimp only[push_cast,Nat.reduceAdd,Nat.reduceLeDiff,Nat.reduceBEq,Int.reduceNe,Int.reduceEq,Int.reduceLT,Int.reduceLE]
   refine invK_of (mAssignableTo _ _) ?_;refine callK_ext (e:=ReflectliteType.relation "AssignableTo" ReflectliteType.assignableTo) Tryz.func255 (by kernel_rfl) (by kernel_rfl) (by kernel_rfl) (by kernel_rfl) (assignE _) ?_;simp -dsimp only[push_cast,Nat.reduceAdd,Nat.reduceLeDiff,Nat.reduceBEq,Int.reduceNe,Int.reduceEq,Int.reduceLT,Int.reduceLE,c1]
   refine callK_ext (e:=ReflectliteValue.method (ReflectliteValue.valueError "reflectlite.Value.Elem" 0) ReflectliteValue.elem) Tryz.func136 (by kernel_rfl) (by kernel_rfl) (by kernel_rfl) (by kernel_rfl) (elemVPE _ _ _ hc) ?_;simp -dsimp only[push_cast,Nat.reduceAdd,Nat.reduceLeDiff,Nat.reduceBEq,Int.reduceNe,Int.reduceEq,Int.reduceLT,Int.reduceLE]
   refine callK_ext (e:=fun args=>ReflectliteValue.unpack (args.getD 0 (.tuple #[]))) Tryz.func100 (by kernel_rfl) (by kernel_rfl) (by kernel_rfl) (by kernel_rfl) (valueOfE _ _) ?_;simp -dsimp only[push_cast,Nat.reduceAdd,Nat.reduceLeDiff,Nat.reduceBEq,Int.reduceNe,Int.reduceEq,Int.reduceLT,Int.reduceLE];have hN:New wx (wx.alloc (.cells #[.int .i64 n] 83)) 83 [.int .i64 n]:=⟨rfl⟩
   generalize wx.alloc (.cells #[.int .i64 n] 83)=w2 at hN;have hB2:=hB.kept (Kept.new hN (X:=fun _=>False)) id;have hf:w2.frozen? ⟨b,0,none⟩=false:=by
    simp only[World.frozen?];rw[show w2.heap[b]?=_ from hB2];simp
   refine callK_ext (e:=ReflectliteValue.set) Tryz.func137 (by kernel_rfl) (by kernel_rfl) (by kernel_rfl) (by kernel_rfl) (setE _ _ n u _ (hN.cell rfl) (hB2.cell rfl) hf) ?_;simp -dsimp only[push_cast,Nat.reduceAdd,Nat.reduceLeDiff,Nat.reduceBEq,Int.reduceNe,Int.reduceEq,Int.reduceLT,Int.reduceLE];have hP:=Put.of_setRow (cs:=[.int .i64 n]) hB2;rw[setCell_eq_setRow w2 b 0 _ _ (0,0) _ hB2]
   exact⟨hP.blk,(hk0.trans (Kept.new hN (X:=fun _=>False)) (fun _ _=>id)).weaken (fun _ _ h=>h.elim) |>.trans hP.kept (fun _ _=>id)⟩
  | at_ a n ha =>
   simp -dsimp only[push_cast,Nat.reduceAdd,Nat.reduceLeDiff,Nat.reduceBEq,Int.reduceNe,Int.reduceEq,Int.reduceLT,Int.reduceLE,hz];refine callK_ext (e:=ReflectliteType.typeOf) Tryz.func135 (by kernel_rfl) (by kernel_rfl) (by kernel_rfl) (by kernel_rfl) (typeOfA _ _) ?_;simp -dsimp only[push_cast,Nat.reduceAdd,Nat.reduceLeDiff,Nat.reduceBEq,Int.reduceNe,Int.reduceEq,Int.reduceLT,Int.reduceLE]
   refine invK_of (mAssignableTo _ _) ?_;refine callK_ext (e:=ReflectliteType.relation "AssignableTo" ReflectliteType.assignableTo) Tryz.func255 (by kernel_rfl) (by kernel_rfl) (by kernel_rfl) (by kernel_rfl) (assignA _) ?_;simp -dsimp only[push_cast,Nat.reduceAdd,Nat.reduceLeDiff,Nat.reduceBEq,Int.reduceNe,Int.reduceEq,Int.reduceLT,Int.reduceLE,c1]
   refine assert_lacks (z:=.nilIface) Tryz.underlying215 (by kernel_rfl) (by kernel_rfl) ?_;simp -dsimp only[push_cast,Nat.reduceAdd,Nat.reduceLeDiff,Nat.reduceBEq,Int.reduceNe,Int.reduceEq,Int.reduceLT,Int.reduceLE];refine assert_has Tryz.underlying218 (by kernel_rfl) ?_;simp -dsimp only[push_cast,Nat.reduceAdd,Nat.reduceLeDiff,Nat.reduceBEq,Int.reduceNe,Int.reduceEq,Int.reduceLT,Int.reduceLE]
   refine invK_of (mUnwrap _ _) (callK_of (unwrap_c a n wx ha) ?_);rintro _ _ ⟨rfl,rfl⟩;simp -dsimp only[push_cast,Nat.reduceAdd,Nat.reduceLeDiff,Nat.reduceBEq,Int.reduceNe,Int.reduceEq,Int.reduceLT,Int.reduceLE];exact⟨⟨.bare n,hk⟩,Nat.zero_lt_one⟩
theorem asE_c (v u:Value) (n:Int) (b:Nat) (w:World) (hE:ErrVar w) (hv:IsErr w v n) (hB:Blk w b 83 [u]) :
  Fun Tryz.prog 60 [v,.iface 142 (.pointer (some ⟨b,0,none⟩))] w
   fun r w'=>r=.bool true∧Blk w' b 83 [.int .i64 n]∧Kept (·=b) w w':=by
 obtain⟨ty,vv,hvv⟩:∃ty vv,v=.iface ty vv:=by cases hv <;> exact⟨_,_,rfl⟩
 refine fun_of_vc Tryz.func60 rfl (by kernel_rfl) [4] rfl ?_;simp -dsimp (maxSteps:=4000000) only[push_cast,fr0,Tryz.ntmps60,List.length_cons,List.length_nil,Nat.reduceAdd,Nat.reduceSub,Nat.reduceBEq,List.replicate_succ,List.replicate_zero];subst hvv;simp -dsimp only[push_cast,Nat.reduceAdd,Nat.reduceLeDiff,Nat.reduceBEq,Int.reduceNe,Int.reduceEq,Int.reduceLT,Int.reduceLE]
 refine callK_ext (e:=fun args=>ReflectliteValue.unpack (args.getD 0 (.tuple #[]))) Tryz.func100 (by kernel_rfl) (by kernel_rfl) (by kernel_rfl) (by kernel_rfl) (valueOfPE _ _) ?_;have hN:New w (w.alloc (.cells #[.pointer (some ⟨b,0,none⟩)] 142)) 142 [.pointer (some ⟨b,0,none⟩)]:=⟨rfl⟩;generalize w.alloc (.cells #[.pointer (some ⟨b,0,none⟩)] 142)=w1 at hN
 have k1:Kept (fun _=>False) w w1:=Kept.new hN;simp -dsimp only[push_cast,Nat.reduceAdd,Nat.reduceLeDiff,Nat.reduceBEq,Int.reduceNe,Int.reduceEq,Int.reduceLT,Int.reduceLE];refine allocK (z:=[.pointer none,.pointer none,.int .u64 0]) (by kernel_rfl) ?_;intro w2 hw2;have k2:=k1.trans (Kept.new (X:=fun _=>False) hw2) (fun _ _=>id)
 simp -dsimp only[push_cast,Nat.reduceAdd,Nat.reduceLeDiff,Nat.reduceBEq,Int.reduceNe,Int.reduceEq,Int.reduceLT,Int.reduceLE];refine storeAgg (n:=3) (by kernel_rfl) hw2.blk rfl (by simp) (by simp[Value.oneCell']) ?_;intro w3 hw3;have k3:Kept (fun k=>w.heap.size≤k) w w3:=(k2.weaken (fun _ _ h=>h.elim)).trans hw3.kept (fun i _ h=>by have:=hN.size;show w.heap.size≤i;omega)
 have hB3:=hB.kept k3 (by have:=hB.lt;omega);have c3:cellsAt w3 ⟨w1.heap.size,0,none⟩ 0 3=some [.pointer (some ⟨11,142,none⟩),.pointer (some ⟨w.heap.size,0,none⟩),.int .u64 150] :=
  cellsAt_of (b:=w1.heap.size) (o:=0) [.pointer (some ⟨11,142,none⟩),.pointer (some ⟨w.heap.size,0,none⟩),.int .u64 150] 0 (fun j u hu=>by simpa using hw3.blk.cell (by simpa using hu))
 simp -dsimp only[push_cast,Nat.reduceAdd,Nat.reduceLeDiff,Nat.reduceBEq,Int.reduceNe,Int.reduceEq,Int.reduceLT,Int.reduceLE,c3];refine callK_ext (e:=ReflectliteValue.methodAny (ReflectliteValue.valueError "reflectlite.Value.Type" 0) (fun t _ _ _=>ReflectliteType.toType t)) Tryz.func101 (by kernel_rfl) (by kernel_rfl) (by kernel_rfl) (by kernel_rfl) (typePE _ _) ?_
 have k3':Kept (fun _=>False) w w3:=⟨k3.os,k3.tape,k3.output,k3.size,fun i hi _=>k3.block i hi (by omega)⟩;have hE3:ErrVar w3:=k3'.cell hE id;have hs3:w3.cell? ⟨w.heap.size,0,none⟩=some (.pointer (some ⟨b,0,none⟩)):=hw3.kept.cell (World.cell?_of_block (w:=w1) (hw2.below.block w.heap.size (by have:=hN.size;omega)) |>.trans (hN.cell rfl)) (by have:=hN.size;show ¬w.heap.size=w1.heap.size;omega)
 unfold ErrVar at hE3;simp -dsimp only[push_cast,Nat.reduceAdd,Nat.reduceLeDiff,Nat.reduceBEq,Int.reduceNe,Int.reduceEq,Int.reduceLT,Int.reduceLE];refine invK_of (mKind _ _) ?_;refine callK_ext (e:=ReflectliteType.abiMethod fun t=>do pure (.int .u8 (←Rtype.kind t))) Tryz.func245 (by kernel_rfl) (by kernel_rfl) (by kernel_rfl) (by kernel_rfl) (kindPE _) ?_
 simp -dsimp only[push_cast,Nat.reduceAdd,Nat.reduceLeDiff,Nat.reduceBEq,Int.reduceNe,Int.reduceEq,Int.reduceLT,Int.reduceLE,c3];refine callK_ext (e:=ReflectliteValue.method (ReflectliteValue.valueError "reflectlite.Value.IsNil" 0) ReflectliteValue.isNil) Tryz.func102 (by kernel_rfl) (by kernel_rfl) (by kernel_rfl) (by kernel_rfl) (isNilPE _ _ _ hs3) ?_
 simp -dsimp only[push_cast,Nat.reduceAdd,Nat.reduceLeDiff,Nat.reduceBEq,Int.reduceNe,Int.reduceEq,Int.reduceLT,Int.reduceLE];refine invK_of (mElem _ _) ?_;refine callK_ext (e:=ReflectliteType.method ReflectliteType.elem) Tryz.func257 (by kernel_rfl) (by kernel_rfl) (by kernel_rfl) (by kernel_rfl) (elemPE _) ?_
 simp -dsimp only[push_cast,Nat.reduceAdd,Nat.reduceLeDiff,Nat.reduceBEq,Int.reduceNe,Int.reduceEq,Int.reduceLT,Int.reduceLE];refine invK_of (mKind _ _) ?_;refine callK_ext (e:=ReflectliteType.abiMethod fun t=>do pure (.int .u8 (←Rtype.kind t))) Tryz.func245 (by kernel_rfl) (by kernel_rfl) (by kernel_rfl) (by kernel_rfl) (kindE _) ?_
 simp -dsimp only[push_cast,Nat.reduceAdd,Nat.reduceLeDiff,Nat.reduceBEq,Int.reduceNe,Int.reduceEq,Int.reduceLT,Int.reduceLE,hE3];refine invK_of (mImplements _ _) ?_;refine callK_ext (e:=ReflectliteType.relation "Implements" ReflectliteType.implements_) Tryz.func258 (by kernel_rfl) (by kernel_rfl) (by kernel_rfl) (by kernel_rfl) (implementsE _) ?_
 simp -dsimp only[push_cast,Nat.reduceAdd,Nat.reduceLeDiff,Nat.reduceBEq,Int.reduceNe,Int.reduceEq,Int.reduceLT,Int.reduceLE,c3];refine callK_of (as_c _ u n b w.heap.size w3 (hv.mono k3' (fun _ _=>id)) hB3 hs3) ?_;rintro _ w4 ⟨rfl,hB4,hk4⟩;simp -dsimp only[push_cast,Nat.reduceAdd,Nat.reduceLeDiff,Nat.reduceBEq,Int.reduceNe,Int.reduceEq,Int.reduceLT,Int.reduceLE]
 exact⟨hB4,(k3'.weaken (fun _ _ h=>h.elim)).trans hk4 (fun _ _=>id)⟩
theorem tell_c (v:Value) (n:Int) (w:World) (hE:ErrVar w) (hv:IsErr w v n):Fun Tryz.prog 32 [v] w fun r w'=>r=.int .i64 n∧Below w.heap.size w w':=by
 obtain⟨ty,vv,hvv⟩:∃ty vv,v=.iface ty vv:=by cases hv <;> exact⟨_,_,rfl⟩
 refine fun_of_vc Tryz.func32 rfl (by kernel_rfl) [2] rfl ?_;simp -dsimp (maxSteps:=4000000) only[push_cast,fr0,Tryz.ntmps32,List.length_cons,List.length_nil,Nat.reduceAdd,Nat.reduceSub,Nat.reduceBEq,List.replicate_succ,List.replicate_zero];subst hvv;simp -dsimp only[push_cast,Nat.reduceAdd,Nat.reduceLeDiff,Nat.reduceBEq,Int.reduceNe,Int.reduceEq,Int.reduceLT,Int.reduceLE]
 refine allocK (z:=[.int .i64 0]) (by kernel_rfl) ?_;intro w1 hw1;have k1:Kept (fun _=>False) w w1:=Kept.new hw1;simp -dsimp only[push_cast,Nat.reduceAdd,Nat.reduceLeDiff,Nat.reduceBEq,Int.reduceNe,Int.reduceEq,Int.reduceLT,Int.reduceLE];refine callK_of (asE_c _ _ n _ w1 (k1.cell hE id) (hv.mono k1 (fun _ _=>id)) hw1.blk) ?_;rintro _ w2 ⟨rfl,hB2,hk2⟩;have c2:=hB2.cell (o:=0) rfl
 simp -dsimp only[push_cast,Nat.reduceAdd,Nat.reduceLeDiff,Nat.reduceBEq,Int.reduceNe,Int.reduceEq,Int.reduceLT,Int.reduceLE,c2];exact hw1.below.trans (hk2.below (Nat.le_of_lt (by have:=hw1.size;omega)) (fun i h=>by subst h;exact Nat.le_refl _))
end Go.Proofs.YtledlfbbebodgaaGreatDoor
end
section
namespace Go.Proofs.YtledlfbbebodgaaGreatDoor
open Go.Vc Go.Proofs Go.RowKit Cae
attribute [local irreducible] wpL callK valK unitK runK Fun Sl Vc.Own vc vcOps opK pureK
theorem ErrVar.on {w w':World} (h:ErrVar w) (hb:Below w.heap.size w w'):ErrVar w':=(hb.cell (World.block_lt_of_cell? w _ h)).trans h
structure Vl (w:World):Prop where
 d:Db w
 e:SErrs w
 l:Least w
 g:11≤w.heap.size
theorem Vl.below {w w':World} (h:Vl w) (hb:Below w.heap.size w w'):Vl w':=⟨h.d.below hb h.d.lt,h.e.below hb,h.l.below hb,by have:=hb.size;have:=h.g;omega⟩
theorem cellsF3 {a1 a2:Option Addr} {n1 k1 n2 k2:Nat} {e:Bool}:∀v∈[Value.slice a1 n1 k1,.slice a2 n2 k2,.bool e],v.oneCell'=true:=by
 intro v hv;simp only[List.mem_cons,List.not_mem_nil,or_false]at hv;rcases hv with rfl|rfl|rfl <;> rfl
end Go.Proofs.YtledlfbbebodgaaGreatDoor
end
section
namespace Go.Proofs.YtledlfbbebodgaaGreatDoor
open Go.ChangeShapes Go.WideShapes Go.ChangeAt Go.RowKit Go.Vc Cae
theorem own:ownKnob Tryz.prog.godebug=none:=by kernel_rfl
theorem laidOut:laidOutB Tryz.prog=true:=by kernel_rfl
def dbTab:List Int:=[0,1,56,2,57,49,28,3,61,58,42,50,38,29,17,4,62,47,59,36,45,43,51,22,53,39,33,30,24,18,12,5,63,55,48,27,60,41,37,16,46,35,44,21,52,32,23,11,54,26,40,15,34,20,31,10,25,14,19,9,13,8,7,6]
theorem db_of {W:World} {l:List (String×DataW Unit)} (hl:(l.filter fun x=>x.1 == "math/bits.deBruijn64tab")=[("math/bits.deBruijn64tab",Rows.laid_math_bits_deBruijn64tab)]) (h:laidMetH Tryz.prog l W):Db W:=by
 have h:=h.filter (fun x=>x.1 == "math/bits.deBruijn64tab");rw[hl,MakeChecks.laidMetH_plain _ _ _ (by kernel_rfl)]at h;have hg:Tryz.prog.globalNamed "math/bits.deBruijn64tab"=some 8:=by kernel_rfl
 have ht:Lib.TabIs Tryz.prog W "math/bits.deBruijn64tab" .u8 dbTab:=Lib.tabIs_of_head (n:=64) (t:=300) (e:=5) hg (by kernel_rfl) (by kernel_rfl) (by kernel_rfl) (by kernel_rfl) (by kernel_rfl) h;exact ht.cell hg 15 (by decide)
theorem errs_of {W:World} {l:List (String×DataW Unit)} (h1:(l.filter fun x=>x.1 == "strconv.ErrSyntax")=[("strconv.ErrSyntax",Rows.laid_strconv_ErrSyntax)]) (h2:(l.filter fun x=>x.1 == "strconv.ErrRange")=[("strconv.ErrRange",Rows.laid_strconv_ErrRange)]) (h:laidMetH Tryz.prog l W):SErrs W:=by
 constructor
 ·have h:=h.filter (fun x=>x.1 == "strconv.ErrSyntax");rw[h1,MakeChecks.laidMetH_plain _ _ _ (by kernel_rfl)]at h;obtain⟨ps,⟨g,t,cs,fuel,p,q,hg,ht,hv,hd,_,_⟩,_,_⟩:=h;obtain rfl:=Option.some.inj ((show Tryz.prog.globalNamed "strconv.ErrSyntax"=some 5 by kernel_rfl).symm.trans hg);obtain rfl:=Option.some.inj ((show (Tryz.prog.globals[5]?).map (·.type)=some 31 by kernel_rfl).symm.trans ht)
  obtain⟨_,u,v,hcs,_,_⟩:=iface_of_trod Tryz.underlying31 hd;obtain⟨lc⟩:=cs;have hcs':lc=[.iface u v]:=hcs;subst hcs';exact⟨u,v,by simpa using World.var?_cell hg hv 0⟩
 ·have h:=h.filter (fun x=>x.1 == "strconv.ErrRange");rw[h2,MakeChecks.laidMetH_plain _ _ _ (by kernel_rfl)]at h;obtain⟨ps,⟨g,t,cs,fuel,p,q,hg,ht,hv,hd,_,_⟩,_,_⟩:=h;obtain rfl:=Option.some.inj ((show Tryz.prog.globalNamed "strconv.ErrRange"=some 6 by kernel_rfl).symm.trans hg);obtain rfl:=Option.some.inj ((show (Tryz.prog.globals[6]?).map (·.type)=some 31 by kernel_rfl).symm.trans ht)
  obtain⟨_,u,v,hcs,_,_⟩:=iface_of_trod Tryz.underlying31 hd;obtain⟨lc⟩:=cs;have hcs':lc=[.iface u v]:=hcs;subst hcs';exact⟨u,v,by simpa using World.var?_cell hg hv 0⟩
def laidE:List (String×DataW Unit):=[("errors.errorType",Rows.laid_errors_errorType)]
theorem errVar_of {W:World} {l:List (String×DataW Unit)} (hl:(l.filter fun x=>x.2.handleName?.isSome)=laidE) (h:laidMetH Tryz.prog l W):ErrVar W:=by
 have h':=(laidMetH_iff.1 h).2;obtain⟨name,u,ty,e1,e2,e3,e4,e5⟩:=h' ("errors.errorType",Rows.laid_errors_errorType) (by rw[hl];exact List.mem_singleton.2 rfl);have en:name=[101,114,114,111,114]:=(Option.some.inj e1).symm;subst en;obtain rfl:=Option.some.inj ((show (Tryz.prog.cutTypes.find? (·.1 == "internal/reflectlite.rtype")).map (·.2)=some 210 by kernel_rfl).symm.trans e2)
 have hm:ty∈(List.range Tryz.prog.types.size).filter fun t=>Tryz.prog.rowNamed t [101,114,114,111,114]:=List.mem_filter.2 ⟨List.mem_range.2 e3,e4⟩;rw[show ((List.range Tryz.prog.types.size).filter fun t=>Tryz.prog.rowNamed t [101,114,114,111,114])=[31] by kernel_rfl]at hm;obtain rfl:=List.mem_singleton.1 hm;rw[show typeHandle Tryz.prog 31=.pointer (some ⟨11,31,none⟩) by kernel_rfl]at e5
 have:=World.var?_cell (show Tryz.prog.globalNamed "errors.errorType"=some 1 by kernel_rfl) e5 0;unfold ErrVar;simpa using this
theorem least_of {W:World} {l:List (String×DataW Unit)} (hl:(l.filter fun x=>x.1 == "caesura/utf.least")=[("caesura/utf.least",Rows.laid_caesura_utf_least)]) (h:laidMetH Tryz.prog l W):Least W:=by
 have h:=h.filter (fun x=>x.1 == "caesura/utf.least");rw[hl,MakeChecks.laidMetH_plain _ _ _ (by kernel_rfl)]at h;obtain⟨ps,⟨g,t,cs,fuel,p,q,hg,ht,hv,hd,_,_⟩,_,_⟩:=h;obtain rfl:=Option.some.inj ((show Tryz.prog.globalNamed "caesura/utf.least"=some 0 by kernel_rfl).symm.trans hg);obtain rfl:=Option.some.inj ((show (Tryz.prog.globals[0]?).map (·.type)=some 151 by kernel_rfl).symm.trans ht)
 have c5:Tryz.prog.cellsOf 3=1:=by kernel_rfl
 have c29:Tryz.prog.cellsOf 151=5:=by kernel_rfl
 obtain⟨xs,m,_,ex,hlen,hl,hel⟩:=DataW.trod_array Tryz.underlying151 hd;rw[c29]at hlen;have key:cs=#[.int .i64 0,.int .i64 0,.int .i64 128,.int .i64 2048,.int .i64 65536]:=by
  obtain⟨l⟩:=cs;match l,hlen with
  | [a,b,c,d,e],_ =>
   match xs,hl with
   | [x0,x1,x2,x3,x4],_ =>
    have e3:=(DataW.agg.inj (Prod.mk.inj ex).1);simp only[List.map_cons,List.map_nil,List.cons.injEq,and_true]at e3;have k0:=hel 0 (by omega);have k1:=hel 1 (by omega);have k2:=hel 2 (by omega);have k3:=hel 3 (by omega);have k4:=hel 4 (by omega);rw[c5]at k0 k1 k2 k3 k4;obtain⟨z0,a0,b0,_⟩:=DataW.trod_int Tryz.underlying3 k0;obtain⟨z1,a1,b1,_⟩:=DataW.trod_int Tryz.underlying3 k1
    obtain⟨z2,a2,b2,_⟩:=DataW.trod_int Tryz.underlying3 k2;obtain⟨z3,a3,b3,_⟩:=DataW.trod_int Tryz.underlying3 k3;obtain⟨z4,a4,b4,_⟩:=DataW.trod_int Tryz.underlying3 k4;simp_all;omega
 subst key;intro k hk;rw[World.var?_cell hg hv k];have:k=0∨k=1∨k=2∨k=3∨k=4:=by omega
 rcases this with e|e|e|e|e <;> subst e <;> rfl
theorem handed_and {H:Type} {enc:TypeId×Value→H} {a:Assume} {C:Checked} {os:Os} {f:FuncId} {fn:Func} {s:ChangeSpec} {conds:List PathCond} {apart fresh handsOn again:Bool} {X:World→Array Value→Prop}
  (hX:∀(w w':World) (args:Array Value),w.heap=w'.heap→X w args→X w' args)
  (own:ownKnob C.prog.godebug=none) (started:os.Started) (noInit:C.prog.inits.idxOf? f=none) (hfn:C.prog.funcs[f]?=some fn)
  (witness:∃(w:World) (tape:Tape) (i:Input),w.os=os∧(w.forCall tape i).Shaped C.prog∧i.vars=[]∧Input.okWide C.prog (w.forCall tape i) .any w.heap.size f i ∧
   ((s.pre enc C.prog fn conds apart (w.forCall tape i).memory i.args∧X (w.forCall tape i).memory i.args)∧sizedMet enc C.prog fn (OpenSpec.ofChange s) apart (w.forCall tape i).memory i.args)∧a.holds C.prog (lone (Frame.enter C.prog f i.args .normal) [] (w.forCall tape i)))
  (contract:∀(W:World) (base:Nat) (args:Array Value) (ds gs:List (DataW H)) (before:List MemPlace),
   (∀(j:Nat) t v,fn.params[j]?=some t→args[j]?=some v→Value.okWide C.prog W .any base t v) →
   DataW.Whole enc C.prog fn.params.toList s.vars apart W args.toList ds gs before →
   (DataW.weightsEach C.prog (fn.params.toList++s.plain.varTypes C.prog) (ds++gs)).all (·≤reachBytes)=true→X W args→W.ShapedOpen C.prog →
   Calls C.prog f args W fun e W'=>∃v,e=.returned v∧s.post enc C.prog fn apart fresh handsOn again W args v W') :
  ReturnsInHanded a C os f .any (fun w args=>(s.pre enc C.prog fn conds apart w args∧X w args)∧sizedMet enc C.prog fn (OpenSpec.ofChange s) apart w args) (s.post enc C.prog fn apart fresh handsOn again):=by
 refine returnsInHanded_of_calls own started noInit witness ?_
 intro w tape i _ hsh _ hok hpre hholds
 obtain⟨_,_,_,fn',hfn',_,_,_,_,hval⟩:=hok
 have e:fn'=fn:=Option.some.inj (hfn'.symm.trans hfn)
 subst e
 obtain⟨⟨⟨ds,gs,before,hw,hc⟩,hx⟩,hz⟩:=hpre
 have hw':=DataW.Whole.of_heap (w':=w.forCall tape i) (by rfl) hw
 refine(contract (w.forCall tape i) w.heap.size i.args ds gs before hval hw' (hz.weights hw) (hX _ _ _ (by rfl) hx) hsh).mono fun e W' ⟨v,he,hp⟩=>?_
 subst he
 exact ChangeSpec.post_blind hp
theorem ng_of {W:World} (h:W.ShapedOpen Tryz.prog):11≤W.heap.size:=by
 obtain⟨o,o0,h1,_⟩:=h.2 11 (of_decide_eq_true (by kernel_rfl)) (of_decide_eq_true (by kernel_rfl));have:=(Array.getElem?_eq_some_iff.1 h1).1;omega
def laidC:List (String×DataW Unit):=[("math/bits.deBruijn32tab",Rows.laid_math_bits_deBruijn32tab),("math/bits.deBruijn64tab",Rows.laid_math_bits_deBruijn64tab),("internal/strconv.uint64pow10",Rows.laid_internal_strconv_uint64pow10),("unicode/utf8.acceptRanges",Rows.laid_unicode_utf8_acceptRanges),("errors.errorType",Rows.laid_errors_errorType),("caesura/utf.least",Rows.laid_caesura_utf_least),("strconv.ErrRange",Rows.laid_strconv_ErrRange),("strconv.ErrSyntax",Rows.laid_strconv_ErrSyntax),("unicode/utf8.first",Rows.laid_unicode_utf8_first)]
theorem vl_of {W:World} {l:List (String×DataW Unit)} (h1:(l.filter fun x=>x.1 == "math/bits.deBruijn64tab")=[("math/bits.deBruijn64tab",Rows.laid_math_bits_deBruijn64tab)]) (h2:(l.filter fun x=>x.1 == "strconv.ErrSyntax")=[("strconv.ErrSyntax",Rows.laid_strconv_ErrSyntax)]) (h3:(l.filter fun x=>x.1 == "strconv.ErrRange")=[("strconv.ErrRange",Rows.laid_strconv_ErrRange)]) (h4:(l.filter fun x=>x.1 == "caesura/utf.least")=[("caesura/utf.least",Rows.laid_caesura_utf_least)])
  (h:laidMetH Tryz.prog l W) (hs:W.ShapedOpen Tryz.prog):Vl W :=
 ⟨db_of h1 h,errs_of h2 h3 h,least_of h4 h,ng_of hs⟩
noncomputable def witC (os:Os):World :=
 { World.doorLaid Tryz.prog 85 os with heap:=(World.doorLaid Tryz.prog 85 os).heap.modify 9 fun o=>match o with
  | .cells _ t x=>.cells (Go.Pinned.utf8FirstZ.map fun(n:Nat)=>Value.int .u8 (n:Int)).toArray t x
  | o=>o }
end Go.Proofs.YtledlfbbebodgaaGreatDoor
end
section
namespace Cae
theorem mirPs_map:∀l:List PatP,mirPs l=l.map mirP
 | []=>rfl
 | x :: l=>by rw[mirPs,mirPs_map l];rfl
theorem join_len2 (l:List (List UInt8)) (sep:List UInt8):(Go.Lib.join l sep).length=sep.length*(l.length - 1)+(l.map List.length).sum:=by
 cases l with
 | nil=>rfl
 | cons x r=>rw[Go.Lib.join_length];simp[Go.Lib.lens]
theorem inPar_len2 (b:Bool) (s:List UInt8):(inPar b s).length=s.length+if b then 2 else 0:=by
 unfold inPar;cases b <;> simp
mutual
theorem pt_mir:∀(x:PatP) (n:Nat),(patText (mirP x) n).length=(patText x n).length
 | .one k,n=>rfl
 | .any,n=>rfl
 | .edge,n=>rfl
 | .cat l,n=>by
  simp only[mirP,patText,inPar_len2,join_len2,texts_map,List.length_map,List.length_reverse,List.map_reverse,List.sum_reverse];have h:=pts_mir l 2;rw[texts_map,texts_map]at h;rw[h,mirPs_map,List.length_map]
 | .alt l,n=>by
  simp only[mirP,patText,inPar_len2,join_len2,texts_map,List.length_map];have h:=pts_mir l 1;rw[texts_map,texts_map]at h;rw[h,mirPs_map,List.length_map]
 | .many x lo hi,n=>by
  simp only[mirP,patText,List.length_append];rw[pt_mir x 2]
theorem pts_mir:∀(l:List PatP) (n:Nat),(patTexts (mirPs l) n).map List.length=(patTexts l n).map List.length
 | [],n=>rfl
 | x :: l,n=>by
  simp only[mirPs,patTexts,List.map_cons];rw[pt_mir x n,pts_mir l n]
end
theorem patsOk_all:∀{l:List PatP},PatsOk l↔∀x∈l,PatOk x
 | []=>by simp[PatsOk]
 | x :: l=>by simp only[PatsOk,patsOk_all (l:=l),List.forall_mem_cons]
mutual
theorem ok_mir:∀x:PatP,PatOk x→PatOk (mirP x)
 | .one k,h=>h
 | .any,h=>h
 | .edge,h=>h
 | .cat l,h=>by
  simp only[PatOk]at h;simp only[mirP,PatOk];have:=oks_mir l h;rw[patsOk_all]at this ⊢;intro y hy;exact this y (List.mem_reverse.1 hy)
 | .alt l,h=>by
  simp only[PatOk]at h;simp only[mirP,PatOk];exact oks_mir l h
 | .many x lo hi,h=>by
  simp only[PatOk]at h;simp only[mirP,PatOk];exact⟨ok_mir x h.1,h.2⟩
theorem oks_mir:∀l:List PatP,PatsOk l→PatsOk (mirPs l)
 | [],h=>h
 | x :: l,h=>by
  simp only[PatsOk]at h;simp only[mirPs,PatsOk];exact⟨ok_mir x h.1,oks_mir l h.2⟩
end
theorem patsS_none {nm:NamesP}:∀{l:List PatP},patsS nm l=none↔∀x∈l,patS nm x=none
 | []=>by simp[patsS]
 | x :: l=>by
  rw[patsS,List.forall_mem_cons,←patsS_none (l:=l)];cases patS nm x with
  | some e=>simp
  | none=>simp
mutual
theorem pat_mir {nm:NamesP}:∀x:PatP,patS nm x=none→patS nm (mirP x)=none
 | .one k,h=>h
 | .any,h=>h
 | .edge,h=>h
 | .cat l,h=>by
  simp only[patS]at h;simp only[mirP,patS];have:=pats_mir l h;rw[patsS_none]at this ⊢;intro y hy;exact this y (List.mem_reverse.1 hy)
 | .alt l,h=>by
  simp only[patS]at h;simp only[mirP,patS];exact pats_mir l h
 | .many x lo hi,h=>by
  simp only[patS]at h;simp only[mirP,patS];exact pat_mir x h
theorem pats_mir {nm:NamesP}:∀l:List PatP,patsS nm l=none→patsS nm (mirPs l)=none
 | [],h=>h
 | x :: l,h=>by
  rw[patsS_none,List.forall_mem_cons]at h;rw[mirPs,patsS_none,List.forall_mem_cons];exact⟨pat_mir x h.1,patsS_none.1 (pats_mir l (patsS_none.2 h.2))⟩
end
mutual
theorem wd_bare {S:KindP→List Rg}:∀x:PatP,wd (bareP S x)=wd x
 | .one k=>rfl
 | .any=>rfl
 | .edge=>rfl
 | .cat l=>by have h:=wds_bare (S:=S) l;rw[bareP,wd,wd,h.1,h.2]
 | .alt l=>by have h:=wds_bare (S:=S) l;rw[bareP,wd,wd,h.1,h.2]
 | .many x lo hi=>by rw[bareP,wd,wd,wd_bare x]
theorem wds_bare {S:KindP→List Rg}:∀l:List PatP,(bareL S l).length=l.length∧wds (bareL S l)=wds l
 | []=>⟨rfl,rfl⟩
 | x :: l=>by
  have h:=wds_bare (S:=S) l;rw[bareL,List.length_cons,List.length_cons,h.1,wds,wds,wd_bare x,h.2];exact⟨rfl,rfl⟩
end
def setK (nm:NamesP) (k:KindP):List Rg:=match kindS nm k with
 | .ok s=>s
 | .error _=>[]
mutual
theorem kinds_in {nm:NamesP} {Q:KindP→Prop} (hQ:∀k s,kindS nm k=.ok s→Q k):∀x:PatP,patS nm x=none→KindsIn Q x
 | .one k,h=>by
  rw[patS]at h;simp only[KindsIn];cases hk:kindS nm k with
  | error e=>rw[hk]at h;cases h
  | ok s=>exact hQ k s hk
 | .any,h=>trivial
 | .edge,h=>trivial
 | .cat l,h=>by rw[patS]at h;simp only[KindsIn];exact kinds_all hQ l h
 | .alt l,h=>by rw[patS]at h;simp only[KindsIn];exact kinds_all hQ l h
 | .many x lo hi,h=>by rw[patS]at h;simp only[KindsIn];exact kinds_in hQ x h
theorem kinds_all {nm:NamesP} {Q:KindP→Prop} (hQ:∀k s,kindS nm k=.ok s→Q k):∀l:List PatP,patsS nm l=none→KindsAll Q l
 | [],h=>trivial
 | x :: l,h=>by
  rw[patsS_none,List.forall_mem_cons]at h;simp only[KindsAll];exact⟨kinds_in hQ x h.1,kinds_all hQ l (patsS_none.2 h.2)⟩
end
mutual
theorem pat_bare {S:KindP→List Rg}:∀x:PatP,patS [] (bareP S x)=none
 | .one k=>rfl
 | .any=>rfl
 | .edge=>rfl
 | .cat l=>by rw[bareP,patS];exact pats_bare l
 | .alt l=>by rw[bareP,patS];exact pats_bare l
 | .many x lo hi=>by rw[bareP,patS];exact pat_bare x
theorem pats_bare {S:KindP→List Rg}:∀l:List PatP,patsS [] (bareL S l)=none
 | []=>rfl
 | x :: l=>by rw[bareL,patsS,pat_bare x];exact pats_bare l
end
theorem setK_right {nm:NamesP} (hr:RightN nm) {k:KindP} (hk:KindOk k) {s:List Rg} (h:kindS nm k=.ok s):setRight (-2) (setK nm k)=true∧(setK nm k).length<10000000:=by
 have h1:setK nm k=s:=by unfold setK;rw[h]
 have h2:=kindS_right hr hk h;have h3:=right_len h2;rw[h1];exact⟨h2,by omega⟩
mutual
theorem ok_bare {nm:NamesP} (hr:RightN nm):∀x:PatP,PatOk x→patS nm x=none→PatOk (bareP (setK nm) x)
 | .one k,h,hp=>by
  simp only[PatOk]at h;rw[patS]at hp;simp only[bareP,PatOk,KindOk];cases hk:kindS nm k with
  | error e=>rw[hk]at hp;cases hp
  | ok s=>exact setK_right hr h hk
 | .any,h,hp=>h
 | .edge,h,hp=>h
 | .cat l,h,hp=>by
  simp only[PatOk]at h;rw[patS]at hp;simp only[bareP,PatOk];exact oks_bare hr l h hp
 | .alt l,h,hp=>by
  simp only[PatOk]at h;rw[patS]at hp;simp only[bareP,PatOk];exact oks_bare hr l h hp
 | .many x lo hi,h,hp=>by
  simp only[PatOk]at h;rw[patS]at hp;simp only[bareP,PatOk];exact⟨ok_bare hr x h.1 hp,h.2⟩
theorem oks_bare {nm:NamesP} (hr:RightN nm):∀l:List PatP,PatsOk l→patsS nm l=none→PatsOk (bareL (setK nm) l)
 | [],h,hp=>h
 | x :: l,h,hp=>by
  simp only[PatsOk]at h;rw[patsS_none,List.forall_mem_cons]at hp;simp only[bareL,PatsOk];exact⟨ok_bare hr x h.1 hp.1,oks_bare hr l h.2 (patsS_none.2 hp.2)⟩
end
section
variable {has has':KindP→Int→Prop} {pts:List Int}
end
end Cae
end
section
namespace Go.Vc
end Go.Vc
end
section
namespace Go.Proofs.YtledlfbbebodgaaGreatDoor
open Go.Vc Go.Proofs Go.RowKit Cae
attribute [local irreducible] wpL callK valK unitK runK Fun Sl Vc.Own vc vcOps opK pureK
theorem PatsV.below {X:Nat→Prop} {w w':World} {l:List PatP} {vs:List Nat} (h:PatsV X w vs l) (hb:Below w.heap.size w w'):PatsV X w' vs l :=
 PatsV.mono (X:=fun b=>X b∨w.heap.size≤b) (Y:=fun b=>w.heap.size≤b) (Kept.of_below hb (fun i h1 h2=>h1)) (fun _ h=>.inr h) (fun _ h=>.inl h) h.top
theorem PatsV.reverse {X:Nat→Prop} {w:World}:∀{l:List PatP} {vs:List Nat},PatsV X w vs l→PatsV X w vs.reverse l.reverse
 | [],[],_=>by simp only[List.reverse_nil,PatsV]
 | [],_ :: _,h=>by simp only[PatsV]at h
 | _ :: _,[],h=>by simp only[PatsV]at h
 | x :: l,v :: vs,h=>by
  simp only[PatsV]at h;rw[List.reverse_cons,List.reverse_cons];exact PatsV.snoc (PatsV.reverse h.2) h.1
theorem wrap_u64 (n:Int):IntKind.u64.wrap n=n % 18446744073709551616:=by simp[IntKind.wrap,IntKind.bits,IntKind.signed]
def pickP (a:Int) (n:Nat):Nat:=((a % 18446744073709551616) % (n:Int)).toNat
theorem pickP_lt (a:Int) {n:Nat} (h:0<n):pickP a n<n:=by
 unfold pickP;have h1:=Int.emod_lt_of_pos (a % 18446744073709551616) (show (0:Int)<n by omega);have h2:=Int.emod_nonneg (a % 18446744073709551616) (show (n:Int)≠0 by omega);omega
theorem pick_c (a:Int) (n:Nat) (h:0<n) (hn:n<1000000000) (w:World):Fun Tryz.prog 17 [.int .i64 a,.int .i64 n] w fun r w'=>r=.int .i64 (pickP a n)∧w'=w:=by
 refine fun_of_vc Tryz.func17 rfl (by kernel_rfl) [4] rfl ?_;simp -dsimp (maxSteps:=4000000) only[push_cast,fr0,Tryz.ntmps17,List.length_cons,List.length_nil,Nat.reduceAdd,Nat.reduceSub,Nat.reduceBEq,List.replicate_succ,List.replicate_zero];rw[wrap_u64,wrap_u64];have h0:((n:Int) % 18446744073709551616)=n:=by omega
 rw[h0];have h1:=Int.emod_lt_of_pos (a % 18446744073709551616) (show (0:Int)<n by omega);have h2:=Int.emod_nonneg (a % 18446744073709551616) (show (n:Int)≠0 by omega);have h3:(a % 18446744073709551616).tmod n=(a % 18446744073709551616) % n:=Int.tmod_eq_emod_of_nonneg (by omega);refine⟨by omega,?_⟩;rw[h3,wrap_i64 (by omega)];congr 1;unfold pickP;omega
end Go.Proofs.YtledlfbbebodgaaGreatDoor
end
