/- Texts of this claim, merged: Rpc, Prl4, Pmean4, PatN, Has, So1, Grow, Sort, So2, Not, Conc, Mn1, Pwd0, Mn2, Mn3, Cl0, EncN. -/
import Derived.Test.YtledlfbbebodgaaGreatDoorM9
import Derived.Test.YtledlfbbebodgaaGreatDoorM5
import Derived.Test.YtledlfbbebodgaaGreatDoorM3
import Derived.Test.YtledlfbbebodgaaGreatDoorM4
import Derived.Sort.Grow
import Derived.Shelf.Spec.SlicesGrow
import Derived.Shelf.SlSortCmp.WholeK
import Derived.Shelf.SlSortCmp.NoneTotal
import Derived.Test.YtledlfbbebodgaaGreatDoorM7
import Derived.Test.YtledlfbbebodgaaGreatDoorM1
set_option maxRecDepth 100000
set_option linter.unusedSimpArgs false
set_option linter.unusedVariables false
set_option maxHeartbeats 8000000
section
namespace Go.Proofs.YtledlfbbebodgaaGreatDoor
open Go.Vc Go.Proofs Go.RowKit Cae
attribute [local irreducible] wpL callK valK unitK runK Fun Sl Vc.Own vc vcOps opK pureK
def ParsR (w:World) (s:List UInt8) (r:Value) (w':World):Prop :=
 (∃f v,parseR s=.ok f∧r=.tuple #[v,.nilIface]∧FileV (·<w.heap.size) w' v f) ∨
 (∃e pos b,parseR s=.error (e,pos)∧r=.tuple #[.agg #[.slice none 0 0,.slice none 0 0,.bool false],.iface 92 (.pointer (some ⟨b,0,none⟩))]∧w.heap.size≤b∧Blk w' b 94 [.int .i64 e,.int .i64 pos])
def ParE (w:World) (s:List UInt8) (e:Ending) (w':World):Prop:=∃v,e=.returned v∧ParsR w s v w'∧Below w.heap.size w w'
theorem tl_of {s:List UInt8} {l:List Tok} (hs:s.length≤1000000) (h:tokP s=.ok l):TL l:=by
 obtain⟨m,hm,e,hn⟩:=tokLoop_tk _ _ _ _ _ (by simp) h;rw[List.nil_append]at e;subst e;refine⟨⟨m,_,rfl,rfl⟩,fun t ht=>?_,by rw[List.length_append,List.length_singleton];simp at hn;omega,fun t ht hk=>?_⟩
 ·rcases List.mem_append.1 ht with ht|ht
  ·have:=(hm.inside t ht).length_le;omega
  ·rw[List.mem_singleton.1 ht];simp
 ·rcases List.mem_append.1 ht with ht|ht
  ·exact tk_num hm t ht hk
  ·rw[List.mem_singleton.1 ht]at hk;cases hk
theorem leave_ok {w W:World} {s:List UInt8} {fv:List Value} {t:Fr} (h2:t.getD 2 undef=.pointer (some ⟨w.heap.size,0,none⟩)) (h3:t.getD 3 undef=.pointer (some ⟨w.heap.size+1,0,none⟩)) {x:Value}
  (B1:Blk W w.heap.size 26 fv) (B2:Blk W (w.heap.size+1) 31 [x]) (hl:fv.length=3) (hR:ParsR w s (.tuple #[.agg fv.toArray,x]) W) (hb:Below w.heap.size w W) :
  bodyPostD Tryz.prog Tryz.f29 (ParE w s) .ret ⟨t.toArray,[{ target:=.fn (.func 55) #[.pointer (some ⟨w.heap.size,0,none⟩),.pointer (some ⟨w.heap.size+1,0,none⟩)],args:=#[] }]⟩ W:=by
 show Leaves _ _ _ _ _ _ _
 refine leaves_cons (f:=55) (args:=#[.pointer (some ⟨w.heap.size,0,none⟩),.pointer (some ⟨w.heap.size+1,0,none⟩)]) (by simp) ?_ ?_
 ·simp only[invoke,Array.empty_append];exact callFunc_enter Tryz.func55 (by kernel_rfl) (by kernel_rfl)
 refine(idle_c w.heap.size (w.heap.size+1) W).mono ?_;rintro e u' w' ⟨rfl,rfl,rfl⟩;obtain⟨vs,hv,hk⟩:=resultsC_run (P:=Tryz.prog) (w:=w') Tryz.f29 [.cell 2 26,.cell 3 31] (by rfl) t (fun vs=>vs=[.agg fv.toArray,x]) (by
  have d1:cellsAt w' ⟨w.heap.size,0,none⟩ 0 3=some fv:=by rw[←hl];exact B1.cellsAt
  have d2:w'.cell? ⟨w.heap.size+1,0,none⟩=some x:=B2.cell rfl;simp -dsimp only[push_cast,Nat.reduceAdd,Nat.reduceLeDiff,Nat.reduceBEq,Int.reduceNe,Int.reduceEq,Int.reduceLT,Int.reduceLE,h2,h3,d1,d2])
 refine⟨_,hv,_,rfl,?_,hb⟩;rw[hk];exact hR
theorem leave_panic {w W:World} {s:List UInt8} {e pos:Nat} {fv:List Value} {ce:List PanicEntry} {t:Fr} (h2:t.getD 2 undef=.pointer (some ⟨w.heap.size,0,none⟩)) (h3:t.getD 3 undef=.pointer (some ⟨w.heap.size+1,0,none⟩)) {x:Value}
  (B1:Blk W w.heap.size 26 fv) (B2:Blk W (w.heap.size+1) 31 [x]) (hl:fv.length=3) (hT:Thr (w.heap.size+2) W ce e pos) (hp:parseR s=.error (e,pos)) (hb:Below w.heap.size w W) :
  bodyPostD Tryz.prog Tryz.f29 (ParE w s) (.panic ce) ⟨t.toArray,[{ target:=.fn (.func 55) #[.pointer (some ⟨w.heap.size,0,none⟩),.pointer (some ⟨w.heap.size+1,0,none⟩)],args:=#[] }]⟩ W:=by
 obtain⟨b,hbs,rfl,hB⟩:=hT
 show Leaves _ _ _ _ _ _ _
 refine leaves_cons (f:=55) (args:=#[.pointer (some ⟨w.heap.size,0,none⟩),.pointer (some ⟨w.heap.size+1,0,none⟩)]) (by simp) ?_ ?_
 ·simp only[invoke,Array.empty_append];exact callFunc_enter Tryz.func55 (by kernel_rfl) (by kernel_rfl)
 refine(catch_c w.heap.size (w.heap.size+1) _ fv x hl W B1 B2 (by omega) rfl).mono ?_;rintro e' u' w' ⟨rfl,rfl,R1,R2,hk⟩;have hB':=hB.kept hk (by omega);have hb':=hb.trans (hk.below (B:=w.heap.size) hb.size (fun i h=>by omega))
 obtain⟨vs,hv,hk⟩:=resultsC_run (P:=Tryz.prog) (w:=w') Tryz.f29 [.cell 2 26,.cell 3 31] (by rfl) t (fun vs=>vs=[.agg #[.slice none 0 0,.slice none 0 0,.bool false],.iface 92 (.pointer (some ⟨b,0,none⟩))]) (by
  have d1:cellsAt w' ⟨w.heap.size,0,none⟩ 0 3=some [.slice none 0 0,.slice none 0 0,.bool false]:=R1.cellsAt;have d2:w'.cell? ⟨w.heap.size+1,0,none⟩=some (.iface 92 (.pointer (some ⟨b,0,none⟩))):=R2.cell rfl;simp -dsimp only[push_cast,Nat.reduceAdd,Nat.reduceLeDiff,Nat.reduceBEq,Int.reduceNe,Int.reduceEq,Int.reduceLT,Int.reduceLE,h2,h3,d1,d2])
 show Leaves _ _ _ _ [] (settle _) _
 refine⟨_,hv,_,rfl,?_,hb'⟩;rw[hk];exact .inr ⟨e,pos,b,hp,rfl,by omega,hB'⟩
theorem Sl.off {X:Nat→Prop} {w:World} {v:Value} {l:List Tok} {rb:Nat} {e:TypeId} {cs:List Value} (h:Sl X 3 (En encTok) w v l) (hB:Blk w rb e cs) (hcs:∀(o:Nat) (u:Value),cs[o]?=some u→∀n,u≠.int .i64 n):Sl (fun b=>X b∨b=rb) 3 (En encTok) w v l:=by
 unfold Sl at h ⊢;obtain⟨a,c,rfl,hc,h⟩:=h;refine⟨a,c,rfl,hc,fun i x hx=>?_⟩;obtain⟨b,o,ks,ha,hb,hk,hcell,hr⟩:=h i x hx;refine⟨b,o,ks,ha,fun hh=>?_,hk,hcell,hr⟩;rcases hh with hh|rfl
 ·exact hb hh
 ·have hr':ks=encTok x:=hr;have h0:=hcell 0 (.int .i64 x.kind) (by rw[hr'];rfl);have h1:cs[o+i*3+0]?=some (.int .i64 x.kind):=by
   have hB':w.heap[b]?=_:=hB;simp only[World.cell?,hB']at h0;simpa using h0
  exact hcs _ _ h1 _ rfl
theorem PS.off {pb B rb:Nat} {w w':World} {l:List Tok} {e:TypeId} {cs:List Value} (h:PS pb B w l) (hB:Blk w rb e cs) (hcs:∀(o:Nat) (u:Value),cs[o]?=some u→∀n,u≠.int .i64 n) (hne:rb≠pb) (hg:11≤rb) (hk:Kept (·=rb) w w'):PS pb B w' l:=by
 obtain⟨v,h1,h2⟩:=h.st;exact⟨⟨v,h1.kept hk (fun hh=>hne hh.symm),((Sl.off h2 hB hcs).kept hk (fun i hi=>.inr hi)).weaken (fun i hi=>.inl hi)⟩,h.lt,Nat.le_trans h.le hk.size,h.tl,h.db.kept hk (fun i hi hh=>by omega),h.er.kept hk (fun i hi hh=>by omega),h.gl⟩
theorem ruleParse_c (s:List UInt8) (hs:s.length≤1000000) (w:World) (hd:Db w) (he:SErrs w) (hg:11≤w.heap.size):Fun Tryz.prog 29 [str s] w fun r w'=>ParsR w s r w'∧Below w.heap.size w w':=by
 unfold Fun;refine⟨callFunc_enter Tryz.func29 (by kernel_rfl) (by kernel_rfl),?_⟩;refine calls_of_wp_defers Tryz.func29 rfl ?_;have e:(([str s]:List Value).toArray++Array.replicate (Tryz.f29.ntmps - ([str s]:List Value).toArray.size) undef)=(fr0 [str s] Tryz.f29.ntmps).toArray:=by simp[fr0]
 rw[e];simp -dsimp (maxSteps:=4000000) only[push_cast,fr0,Tryz.ntmps29,List.length_cons,List.length_nil,Nat.reduceAdd,Nat.reduceSub,Nat.reduceBEq,List.replicate_succ,List.replicate_zero];have hR:∃R:Ending→World→Prop,R=ParE w s:=⟨_,rfl⟩
 show Code.wp _ _ (bodyPostD Tryz.prog Tryz.f29 (ParE w s)) _ _
 refine seqD (by rfl) ?_;simp -dsimp only[push_cast,Nat.reduceAdd,Nat.reduceLeDiff,Nat.reduceBEq,Int.reduceNe,Int.reduceEq,Int.reduceLT,Int.reduceLE];refine allocK (z:=[.slice none 0 0,.slice none 0 0,.bool false]) (by kernel_rfl) ?_;intro w1 hw1;have R1:=hw1.blk;have z1:=hw1.size;have b1:=hw1.below
 simp -dsimp only[push_cast,Nat.reduceAdd,Nat.reduceLeDiff,Nat.reduceBEq,Int.reduceNe,Int.reduceEq,Int.reduceLT,Int.reduceLE];refine allocK (z:=[.nilIface]) (by kernel_rfl) ?_;intro w2 hw2;have E2:=hw2.blk;have R2:=R1.below hw2.below (by omega);have z2:=hw2.size;have b2:=b1.trans (hw2.below.mono (by omega));rw[z1]at E2
 simp -dsimp only[push_cast,Nat.reduceAdd,Nat.reduceLeDiff,Nat.reduceBEq,Int.reduceNe,Int.reduceEq,Int.reduceLT,Int.reduceLE,z1];refine wp_seq (deferReg (cap:=[.tmp 2,.tmp 3]) (by simp) ?_);simp -dsimp only[push_cast];refine seqD (by rfl) ?_;simp -dsimp only[push_cast,Nat.reduceAdd,Nat.reduceLeDiff,Nat.reduceBEq,Int.reduceNe,Int.reduceEq,Int.reduceLT,Int.reduceLE]
 refine callK_of (tokens_c s hs w2) ?_;rintro r w3 ⟨hT,b3⟩;have R3:=R2.below b3 (by omega);have E3:=E2.below b3 (by omega);have z3:=b3.size;have hb3:=b2.trans (b3.mono (by omega));rcases hT with ⟨l,v,htok,rfl,hO⟩|⟨en,pos,b,htok,rfl,hbs,hB⟩
 ·obtain⟨va,vc,rfl⟩:=hO.slice;simp -dsimp only[push_cast,Nat.reduceAdd,Nat.reduceLeDiff,Nat.reduceBEq,Int.reduceNe,Int.reduceEq,Int.reduceLT,Int.reduceLE];refine storeK_of E3 (by simp) rfl ?_;intro w4 hw4;have E4:Blk w4 (w.heap.size+1) 31 [.nilIface]:=hw4.blk;have R4:=R3.kept hw4.kept (by omega);have z4:=hw4.size;have hO4:=hO.keptX hw4.kept (fun g hg h=>by have:=(hO.block g hg).1;omega)
  have hb4:=hb3.trans (hw4.kept.below (B:=w.heap.size) (by omega) (fun i h=>by omega));have d4:w4.cell? ⟨w.heap.size+1,0,none⟩=some .nilIface:=E4.cell rfl;simp -dsimp only[push_cast,Nat.reduceAdd,Nat.reduceLeDiff,Nat.reduceBEq,Int.reduceNe,Int.reduceEq,Int.reduceLT,Int.reduceLE];refine wp_seq (seqD (by rfl) ?_)
  simp -dsimp only[push_cast,Nat.reduceAdd,Nat.reduceLeDiff,Nat.reduceBEq,Int.reduceNe,Int.reduceEq,Int.reduceLT,Int.reduceLE,d4];refine condFD (by rfl) (wp_skip ?_)
  show Code.wp _ _ _ _ _
  refine plainD (by rfl) ?_;simp -dsimp only[push_cast,Nat.reduceAdd,Nat.reduceLeDiff,Nat.reduceBEq,Int.reduceNe,Int.reduceEq,Int.reduceLT,Int.reduceLE];refine boxK_of ?_;intro w5 hw5;have z5:=hw5.size;have hpb:∃pb,pb=w4.heap.size:=⟨_,rfl⟩;obtain⟨pb,hpb⟩:=hpb;have PB:=hw5.blk;have E5:=E4.below hw5.below E4.lt;have R5:=R4.below hw5.below R4.lt;have hb5:=hb4.trans (hw5.below.mono hb4.size)
  rw[←hpb]at PB;have htl:=tl_of hs htok;have P5:PS pb (pb+1) w5 l:=⟨⟨_,PB,((Sl.top (by decide) hO4.sl).below hw5.below).weaken (fun i h=>by omega)⟩,by omega,by omega,htl,hd.below hb5 hd.lt,he.below hb5,by omega⟩;simp -dsimp only[push_cast,Nat.reduceAdd,Nat.reduceLeDiff,Nat.reduceBEq,Int.reduceNe,Int.reduceEq,Int.reduceLT,Int.reduceLE,←hpb];refine callP_of (file_c P5) ?_ ?_
  ·rintro _ w6 ⟨f,l',ef,⟨cv,rv,cs,rs,rfl,S1,S2,A1,A2⟩,P6,k6⟩;have E6:=E5.kept k6 (by omega);have R6:=R5.kept k6 (by omega);have z6:=k6.size;have hb6:=hb5.trans (k6.below (B:=w.heap.size) hb5.size (fun i h=>by omega));simp -dsimp only[push_cast,Nat.reduceAdd,Nat.reduceLeDiff,Nat.reduceBEq,Int.reduceNe,Int.reduceEq,Int.reduceLT,Int.reduceLE,←hpb]
   refine storeAgg (xt:=26) (n:=3) (by kernel_rfl) R6 rfl (by decide) ?_ ?_
   ·obtain⟨_,_,rfl,_⟩:=S1.shape;obtain⟨_,_,rfl,_⟩:=S2.shape;simp;exact⟨rfl,rfl,rfl⟩
   intro w7 hw7;have R7:Blk w7 w.heap.size 26 [cv,rv,.bool f.els]:=hw7.blk;have E7:=E6.kept hw7.kept (by omega);have k7:Kept (fun i=>i=w.heap.size) w6 w7:=hw7.kept;have P7:PS pb (pb+1) w7 l':=P6.off R6 (fun o u hu n hn=>by
    subst hn;match o with
    | 0=>simp at hu
    | 1=>simp at hu
    | 2=>simp at hu
    | o+3=>simp at hu) (by omega) (by omega) k7
   have z7:=hw7.size;have hb7:=hb6.trans (hw7.kept.below (B:=w.heap.size) hb6.size (fun i h=>by omega));obtain⟨t1,r1,el1⟩:=P7.tl.cons;have P7':=P7;rw[el1]at P7';obtain⟨b1,o1,c1,hBp,hc,hne,c0,c1',c2,c3⟩:=P7'.hd;have cb:w7.cell? ⟨pb,0,none⟩=some (.slice (some ⟨b1,o1,none⟩) (r1.length+1) c1):=hBp.cell rfl;have hik:isKind 5 l'=decide (t1.kind=5):=by
    rw[el1]
    show (t1.kind == 5)=_
    by_cases h:t1.kind=5 <;> simp[h]
   simp -dsimp only[push_cast,Nat.reduceAdd,Nat.reduceLeDiff,Nat.reduceBEq,Int.reduceNe,Int.reduceEq,Int.reduceLT,Int.reduceLE,←hpb,cb,c0];refine⟨by omega,fun h5=>?_,fun h5=>?_⟩
   ·have hk5:isKind 5 l'=false:=by rw[hik];exact decide_eq_false (fun h=>h5 (by omega))
    refine callP_of (fail_c 3 P7) (fun _ _ h=>h.elim) ?_;rintro ce w8 ⟨ht,hb⟩;have hpe:parseR s=.error (3,(Cae.hd l').pos):=by
     unfold parseR;rw[htok];dsimp only;rw[ef];dsimp only;rw[hk5];rfl
    simp -dsimp only[push_cast,Nat.reduceAdd,Nat.reduceLeDiff,Nat.reduceBEq,Int.reduceNe,Int.reduceEq,Int.reduceLT,Int.reduceLE,←hpb];refine leave_panic (t:=_) (by rfl) (by rfl) (R7.below hb R7.lt) (E7.below hb E7.lt) rfl (ht.mono (by omega)) hpe (hb7.trans (hb.mono hb7.size))
   ·have hk5:isKind 5 l'=true:=by rw[hik];exact decide_eq_true (by omega)
    have hpok:parseR s=.ok f:=by
     unfold parseR;rw[htok];dsimp only;rw[ef];dsimp only;rw[hk5];rfl
    have d7:cellsAt w7 ⟨w.heap.size,0,none⟩ 0 3=some [cv,rv,.bool f.els]:=R7.cellsAt;simp -dsimp only[push_cast,Nat.reduceAdd,Nat.reduceLeDiff,Nat.reduceBEq,Int.reduceNe,Int.reduceEq,Int.reduceLT,Int.reduceLE,←hpb,d7];refine storeAgg (xt:=26) (n:=3) (by kernel_rfl) R7 rfl (Nat.le_refl _) ?_ ?_
    ·obtain⟨_,_,rfl,_⟩:=S1.shape;obtain⟨_,_,rfl,_⟩:=S2.shape;simp;exact⟨rfl,rfl,rfl⟩
    intro w8 hw8;have R8:Blk w8 w.heap.size 26 [cv,rv,.bool f.els]:=hw8.blk;have E8:=E7.kept hw8.kept (by omega);have z8:=hw8.size;simp -dsimp only[push_cast,Nat.reduceAdd,Nat.reduceLeDiff,Nat.reduceBEq,Int.reduceNe,Int.reduceEq,Int.reduceLT,Int.reduceLE,←hpb];refine storeK_of E8 (by simp) rfl ?_;intro w9 hw9;have E9:Blk w9 (w.heap.size+1) 31 [.nilIface]:=hw9.blk
    have R9:=R8.kept hw9.kept (by omega);have k69:Kept (fun i=>i<w5.heap.size) w6 w9:=((k7.weaken (Y:=fun i=>i<w5.heap.size) (fun i _ h=>by omega)).trans hw8.kept (fun i _ h=>by omega)).trans hw9.kept (fun i _ h=>by omega);have hb9:=hb7.trans (((hw8.kept.weaken (Y:=fun i=>w.heap.size≤i) (fun i _ h=>by omega)).trans hw9.kept (fun i _ h=>by omega)).below (B:=w.heap.size) hb7.size (fun i h=>h))
    simp -dsimp only[push_cast,Nat.reduceAdd,Nat.reduceLeDiff,Nat.reduceBEq,Int.reduceNe,Int.reduceEq,Int.reduceLT,Int.reduceLE,←hpb]
    refine leave_ok (t:=_) (by rfl) (by rfl) R9 E9 rfl (.inl ⟨f,_,hpok,rfl,cv,rv,cs,rs,rfl,(S1.kept k69 (fun i h=>h)).weaken (fun i h=>by omega),(S2.kept k69 (fun i h=>h)).weaken (fun i h=>by omega),A1.imp fun a c h=>h.mono k69 (fun i h=>h) (fun i h=>by omega),A2.imp fun a c h=>h.mono k69 (fun i h=>h) (fun i h=>by omega)⟩) hb9
  ·rintro ce w6 ⟨en,pos,he',ht,hk⟩;have E6:=E5.kept hk (by omega);have R6:=R5.kept hk (by omega);have hb6:=hb5.trans (hk.below (B:=w.heap.size) hb5.size (fun i h=>by omega));have hpe:parseR s=.error (en,pos):=by
    unfold parseR;rw[htok];dsimp only;rw[he']
   simp -dsimp only[push_cast,Nat.reduceAdd,Nat.reduceLeDiff,Nat.reduceBEq,Int.reduceNe,Int.reduceEq,Int.reduceLT,Int.reduceLE,←hpb];exact leave_panic (t:=_) (by rfl) (by rfl) R6 E6 rfl (ht.mono (by omega)) hpe hb6
 ·simp -dsimp only[push_cast,Nat.reduceAdd,Nat.reduceLeDiff,Nat.reduceBEq,Int.reduceNe,Int.reduceEq,Int.reduceLT,Int.reduceLE];refine storeK_of E3 (by simp) rfl ?_;intro w4 hw4;have E4:Blk w4 (w.heap.size+1) 31 [.iface 92 (.pointer (some ⟨b,0,none⟩))]:=hw4.blk;have R4:=R3.kept hw4.kept (by omega);have z4:=hw4.size;have hB4:=hB.kept hw4.kept (by omega)
  have hb4:=hb3.trans (hw4.kept.below (B:=w.heap.size) (by omega) (fun i h=>by omega));have d4:w4.cell? ⟨w.heap.size+1,0,none⟩=some (.iface 92 (.pointer (some ⟨b,0,none⟩))):=E4.cell rfl;simp -dsimp only[push_cast,Nat.reduceAdd,Nat.reduceLeDiff,Nat.reduceBEq,Int.reduceNe,Int.reduceEq,Int.reduceLT,Int.reduceLE];refine wp_seq (seqD (by rfl) ?_)
  simp -dsimp only[push_cast,Nat.reduceAdd,Nat.reduceLeDiff,Nat.reduceBEq,Int.reduceNe,Int.reduceEq,Int.reduceLT,Int.reduceLE,d4];refine condTD (by rfl) (wp_seq ?_);refine wpD_draw (fun w'=>w'.cell? ⟨w.heap.size+1,0,none⟩=some (.iface 92 (.pointer (some ⟨b,0,none⟩)))) mixed (by kernel_rfl) d4 ?_;have d4d:w4.drew.cell? ⟨w.heap.size+1,0,none⟩=some (.iface 92 (.pointer (some ⟨b,0,none⟩))):=d4
  simp -dsimp only[push_cast,Nat.reduceAdd,Nat.reduceLeDiff,Nat.reduceBEq,Int.reduceNe,Int.reduceEq,Int.reduceLT,Int.reduceLE,d4d];refine⟨fun w'' h=>by rw[h];exact rfl,?_⟩;refine storeAgg (xt:=26) (n:=3) (by kernel_rfl) R4.drew rfl (by decide) (by simp;exact⟨rfl,rfl⟩) ?_;intro w5 hw5;have R5:Blk w5 w.heap.size 26 [.slice none 0 0,.slice none 0 0,.bool false]:=hw5.blk
  have E5:=E4.drew.kept hw5.kept (by omega);have hB5:=hB4.drew.kept hw5.kept (by omega);refine⟨E5.cell rfl,?_⟩;simp -dsimp only[push_cast,Nat.reduceAdd,Nat.reduceLeDiff,Nat.reduceBEq,Int.reduceNe,Int.reduceEq,Int.reduceLT,Int.reduceLE];refine storeK_of E5 (by simp) rfl ?_;intro w6 hw6;have E6:Blk w6 (w.heap.size+1) 31 [.iface 92 (.pointer (some ⟨b,0,none⟩))]:=hw6.blk
  have R6:=R5.kept hw6.kept (by omega);have hB6:=hB5.kept hw6.kept (by omega);have hb6:=hb4.trans (((Kept.refl (fun i=>w.heap.size≤i) w4).drew.trans hw5.kept (fun i _ h=>by omega)).trans hw6.kept (fun i _ h=>by omega) |>.below (B:=w.heap.size) hb4.size (fun i h=>h));have hpe:parseR s=.error (en,pos):=by
   unfold parseR;rw[htok]
  refine⟨E6.cell rfl,?_⟩;simp -dsimp only[push_cast,Nat.reduceAdd,Nat.reduceLeDiff,Nat.reduceBEq,Int.reduceNe,Int.reduceEq,Int.reduceLT,Int.reduceLE];refine wp_ret ?_;exact leave_ok (t:=_) (by rfl) (by rfl) R6 E6 rfl (.inr ⟨en,pos,b,hpe,rfl,by omega,hB6⟩) hb6
end Go.Proofs.YtledlfbbebodgaaGreatDoor
end
section
namespace Cae
def TB (l:List Tok):Prop:=∀t∈l,t.text.length≤1000000
def Iv {α:Type} (I:α→Prop) (p:Pa α):Prop:=∀l x l',TB l→p l=.ok (x,l')→I x∧TB l'
section
variable {α β:Type} {I:α→Prop} {J:β→Prop} {p:Pa α} {q:α→Pa β}
theorem Iv.pr {x:α} (h:I x):Iv I (pr x):=fun l y l' hl e=>by cases e;exact⟨h,hl⟩
theorem Iv.fail {e:Nat}:Iv I (pfail e):=fun l y l' _ h=>by cases h
theorem Iv.pb (h:Iv I p) (k:∀x,I x→Iv J (q x)):Iv J (pb p q):=fun l y l' hl e=>by
 obtain⟨x,l1,e1,e2⟩:=pb_ok e;obtain⟨h1,h2⟩:=h l x l1 hl e1;exact k x h1 l1 y l' h2 e2
theorem Iv.pif {cc:List Tok→Bool} {p1 p2:Pa α} (h1:Iv I p1) (h2:Iv I p2):Iv I (pif cc p1 p2):=fun l x l' hl e=>by
 unfold Cae.pif at e;split at e
 ·exact h1 l x l' hl e
 ·exact h2 l x l' hl e
theorem Iv.ite {c:Prop} [Decidable c] {p1 p2:Pa α} (h1:c→Iv I p1) (h2:¬c→Iv I p2):Iv I (if c then p1 else p2):=by
 by_cases h:c
 ·rw[if_pos h];exact h1 h
 ·rw[if_neg h];exact h2 h
end
def Tv {α:Type} (_:α):Prop:=True
theorem Iv.peek:Iv (fun t=>t.text.length≤1000000) peek:=fun l x l' hl e=>by
 cases e;refine⟨?_,hl⟩;cases l with
 | nil=>simp[hd]
 | cons t r=>exact hl t (List.mem_cons_self ..)
theorem Iv.pop:Iv Tv popP:=fun l x l' hl e=>by
 obtain⟨t,rfl,_⟩:=pop_ok e;exact⟨trivial,fun y hy=>hl y (List.mem_cons_of_mem _ hy)⟩
theorem iv_must (s:List UInt8):Iv Tv (mustP s):=Iv.pif Iv.pop Iv.fail
theorem iv_name:Iv Tv nameP:=Iv.pif (Iv.pif Iv.fail (Iv.pb Iv.peek fun t _=>Iv.pb Iv.pop fun _ _=>Iv.pr trivial)) Iv.fail
theorem iv_bin:Iv (fun c=>c=0∨c=3∨c=4∨c=5) binP :=
 Iv.pif (Iv.pb Iv.pop fun _ _=>Iv.pr (by simp)) (Iv.pif (Iv.pb Iv.pop fun _ _=>Iv.pr (by simp)) (Iv.pif (Iv.pb Iv.pop fun _ _=>Iv.pr (by simp)) (Iv.pr (by simp))))
theorem iv_kindLoop {one:Pa KindP} (h:Iv KindOk one) (pos:Nat):∀(n:Nat) (k:KindP),KindOk k→Iv KindOk (kindLoop one pos n k)
 | 0,k,_=>Iv.fail
 | n+1,k,hk=>Iv.pb iv_bin fun c hc=>Iv.ite (fun _=>Iv.pr hk) fun hc0=>Iv.pb h fun r hr=>iv_kindLoop h pos n _ ⟨hk,hr,by rcases hc with hc|hc;exact absurd hc hc0;exact hc⟩
theorem iv_kindW {one:Pa KindP} (h:Iv KindOk one):Iv KindOk (kindW one):=Iv.pb Iv.peek fun t _=>Iv.pb h fun k hk=>iv_kindLoop h _ _ _ hk
theorem iv_lit:Iv KindOk litP:=Iv.pb Iv.peek fun t ht=>by
 cases hs:setP t.text with
 | none=>exact Iv.fail
 | some s =>
  refine Iv.pb Iv.pop fun _ _=>Iv.pr ?_;have h1:=setP_ok hs;refine⟨h1.1,?_⟩;have h2:printP s=t.text:=h1.2;have h3:=(join_bounds (s.map rgP) [32] (by decide)).2;have h4:(printP s).length=(Go.Lib.join (s.map rgP) [32]).length+2:=by simp[printP]
  rw[h2]at h4;rw[List.length_map]at h3;omega
theorem iv_one:∀d,Iv KindOk (oneP d)
 | 0=>Iv.fail
 | d+1=>Iv.pif iv_lit (Iv.pif (Iv.pb Iv.peek fun t _=>Iv.pb Iv.pop fun _ _=>Iv.pb (iv_one d) fun k hk=>Iv.pr hk)
   (Iv.pif (Iv.pb Iv.pop fun _ _=>Iv.pb (iv_kindW (iv_one d)) fun k hk=>Iv.pb (iv_must _) fun _ _=>Iv.pr hk)
    (Iv.pb Iv.peek fun t _=>Iv.pb iv_name fun n _=>Iv.pr trivial)))
theorem iv_times:Iv (fun n=>n≤12) timesP:=Iv.pif (Iv.pb Iv.peek fun t _=>Iv.ite (fun _=>Iv.fail) fun h=>Iv.pb Iv.pop fun _ _=>Iv.pr (by omega)) Iv.fail
def RgOk (q:Int×Int):Prop:=0≤q.1∧q.1<100∧q.2<100∧(q.2<0∨q.1≤q.2)
theorem iv_braces:Iv RgOk bracesP:=Iv.pb iv_times fun lo hlo=>Iv.pif (Iv.pb Iv.pop fun _ _=>Iv.pif
  (Iv.pb iv_times fun hi hhi=>Iv.ite (fun _=>Iv.fail) fun hh=>Iv.pb (iv_must _) fun _ _=>Iv.pr ⟨by show 0≤(lo:Int);omega,by show (lo:Int)<100;omega,by show (hi:Int)<100;omega,.inr (by show (lo:Int)≤hi;omega)⟩)
  (Iv.pb (iv_must _) fun _ _=>Iv.pr ⟨by show 0≤(lo:Int);omega,by show (lo:Int)<100;omega,by show (-1:Int)<100;omega,.inl (by show (-1:Int)<0;omega)⟩))
 (Iv.pb (iv_must _) fun _ _=>Iv.pr ⟨by show 0≤(lo:Int);omega,by show (lo:Int)<100;omega,by show (lo:Int)<100;omega,.inr (Int.le_refl _)⟩)
theorem iv_suffix:Iv (fun o=>∀q,o=some q→RgOk q) suffixP:=by
 have h:∀r:Int×Int,RgOk r→Iv (fun o=>∀q,o=some q→RgOk q) (pb popP fun _=>pr (some r)):=fun r hr=>Iv.pb Iv.pop fun _ _=>Iv.pr (by intro q e;cases e;exact hr);refine Iv.pif (h _ (by unfold RgOk;decide)) (Iv.pif (h _ (by unfold RgOk;decide)) (Iv.pif (h _ (by unfold RgOk;decide)) (Iv.pif ?_ (Iv.pr (by intro q e;cases e)))))
 exact Iv.pb Iv.pop fun _ _=>Iv.pb iv_braces fun r hr=>Iv.pr (by intro q e;cases e;exact hr)
theorem iv_againLoop (d:Nat):∀(n c:Nat) (x:PatP),PatOk x→Iv PatOk (againLoop d n c x)
 | 0,_,_,_=>Iv.fail
 | n+1,c,x,hx=>Iv.pb iv_suffix fun r hr=>by
   cases r with
   | none=>exact Iv.pr hx
   | some q =>
    have hq:=hr q rfl;refine Iv.ite (fun _=>Iv.fail) fun _=>iv_againLoop d n (c+1) _ ?_;simp only[PatOk];exact⟨hx,hq.1,hq.2.1,hq.2.2⟩
theorem iv_againW {d:Nat} {unit:Pa PatP} (h:Iv PatOk unit):Iv PatOk (againW d unit):=Iv.pb h fun x hx=>iv_againLoop d _ _ _ hx
theorem patsOk_snoc:∀{l:List PatP} {x:PatP},PatsOk l→PatOk x→PatsOk (l++[x])
 | [],x,_,h=>by simp only[List.nil_append,PatsOk];exact⟨h,trivial⟩
 | y :: l,x,hl,h=>by
  simp only[PatsOk,List.cons_append]at hl ⊢;exact⟨hl.1,patsOk_snoc hl.2 h⟩
theorem patsOk_nil:PatsOk []:=by simp only[PatsOk]
theorem iv_rowLoop {again:Pa PatP} (h:Iv PatOk again):∀(n:Nat) (a:List PatP),PatsOk a→Iv PatsOk (rowLoop again n a)
 | 0,_,_=>Iv.fail
 | n+1,a,ha=>Iv.pif (Iv.pb h fun x hx=>iv_rowLoop h n _ (patsOk_snoc ha hx)) (Iv.pr ha)
theorem rowOf_ok {l:List PatP} (h:PatsOk l):PatOk (rowOf l):=by
 match l with
 | []=>simp only[rowOf,PatOk];exact h
 | [x]=>simp only[PatsOk]at h;exact h.1
 | x :: y :: l=>simp only[rowOf,PatOk];exact h
theorem altOf_ok {l:List PatP} (h:PatsOk l):PatOk (altOf l):=by
 match l with
 | []=>simp only[altOf,PatOk];exact h
 | [x]=>simp only[PatsOk]at h;exact h.1
 | x :: y :: l=>simp only[altOf,PatOk];exact h
theorem iv_rowW {again:Pa PatP} (h:Iv PatOk again):Iv PatOk (rowW again):=Iv.pb (iv_rowLoop h _ _ patsOk_nil) fun ps hps=>Iv.pr (rowOf_ok hps)
theorem iv_altLoop {row:Pa PatP} (h:Iv PatOk row):∀(n:Nat) (a:List PatP),PatsOk a→Iv PatsOk (altLoop row n a)
 | 0,_,_=>Iv.fail
 | n+1,a,ha=>Iv.pif (Iv.pb Iv.pop fun _ _=>Iv.pb h fun x hx=>iv_altLoop h n _ (patsOk_snoc ha hx)) (Iv.pr ha)
theorem iv_altW {row:Pa PatP} (h:Iv PatOk row):Iv PatOk (altW row):=Iv.pb h fun x hx=>Iv.pb (iv_altLoop h _ _ (patsOk_snoc patsOk_nil hx)) fun ps hps=>Iv.pr (altOf_ok hps)
theorem iv_patW {d:Nat} {unit:Pa PatP} (h:Iv PatOk unit):Iv PatOk (patW d unit):=Iv.ite (fun _=>Iv.fail) fun _=>iv_altW (iv_rowW (iv_againW h))
theorem iv_unit:∀d,Iv PatOk (unitP d)
 | 0=>Iv.fail
 | d+1=>Iv.pif (Iv.pb Iv.pop fun _ _=>Iv.pr (by simp only[PatOk])) (Iv.pif (Iv.pb Iv.pop fun _ _=>Iv.pr (by simp only[PatOk]))
   (Iv.pif (Iv.pb Iv.pop fun _ _=>Iv.pb (iv_patW (iv_unit d)) fun x hx=>Iv.pb (iv_must _) fun _ _=>Iv.pr hx)
    (Iv.pif (Iv.pb (iv_one (d+1)) fun k hk=>Iv.pr (by simp only[PatOk];exact hk)) Iv.fail)))
theorem iv_pat (d:Nat):Iv PatOk (patP d):=iv_patW (iv_unit d)
theorem iv_says:Iv Tv saysP:=Iv.pif (Iv.pb Iv.pop fun _ _=>Iv.pr trivial) (Iv.pb (iv_must _) fun _ _=>Iv.pr trivial)
theorem iv_rule:Iv (fun r=>PatOk r.before∧PatOk r.after) ruleP:=Iv.pb Iv.peek fun t _=>Iv.pb iv_says fun b _=>Iv.pb (iv_pat 9) fun x hx=>Iv.pb (iv_must _) fun _ _=>Iv.pb (iv_pat 9) fun y hy=>Iv.pb (iv_must _) fun _ _=>Iv.pr ⟨hx,hy⟩
theorem iv_class:Iv (fun c=>KindOk c.kind) classP:=Iv.pb Iv.peek fun t _=>Iv.pb (iv_must _) fun _ _=>Iv.pb iv_name fun n _=>Iv.pb (iv_must _) fun _ _=>Iv.pb (iv_kindW (iv_one 9)) fun k hk=>Iv.pb (iv_must _) fun _ _=>Iv.pr hk
theorem iv_ruleLoop:∀(n:Nat) (acc:List RuleP),acc.length≤20∧(∀r∈acc,PatOk r.before∧PatOk r.after)→Iv (fun l=>l.length≤20∧∀r∈l,PatOk r.before∧PatOk r.after) (ruleLoop n acc)
 | 0,_,_=>Iv.fail
 | n+1,acc,ha=>Iv.pif (Iv.ite (fun _=>Iv.fail) fun h=>Iv.pb iv_rule fun r hr=>iv_ruleLoop n _ ⟨by have:=ha.1;rw[List.length_append,List.length_singleton];omega,fun x hx=>by
   rcases List.mem_append.1 hx with hx|hx
   ·exact ha.2 x hx
   ·rw[List.mem_singleton.1 hx];exact hr⟩) (Iv.pr ha)
theorem iv_classLoop:∀(n:Nat) (acc:List ClassP),acc.length≤20∧(∀c∈acc,KindOk c.kind)→Iv (fun l=>l.length≤20∧∀c∈l,KindOk c.kind) (classLoop n acc)
 | 0,_,_=>Iv.fail
 | n+1,acc,ha=>Iv.pif (Iv.ite (fun _=>Iv.fail) fun h=>Iv.pb iv_class fun r hr=>iv_classLoop n _ ⟨by have:=ha.1;rw[List.length_append,List.length_singleton];omega,fun x hx=>by
   rcases List.mem_append.1 hx with hx|hx
   ·exact ha.2 x hx
   ·rw[List.mem_singleton.1 hx];exact hr⟩) (Iv.pr ha)
theorem iv_file:Iv (fun f=>FileOk f∧f.classes.length≤20∧f.rules.length≤20) fileP:=Iv.pb (iv_classLoop _ _ ⟨by simp,by simp⟩) fun cs hcs=>Iv.pb (iv_ruleLoop _ _ ⟨by simp,by simp⟩) fun rs hrs =>
 Iv.pb (I:=Tv) (fun l x l' hl e=>⟨trivial,(show Iv Tv elseP from Iv.pif (Iv.pb Iv.pop fun _ _=>Iv.pb iv_says fun _ _=>Iv.pb (iv_must _) fun _ _=>Iv.pr trivial) (Iv.pr trivial)) l x l' hl e |>.2⟩) fun b _=>Iv.pr ⟨⟨hcs.2,hrs.2⟩,hcs.1,hrs.1⟩
end Cae
namespace Go.Proofs.YtledlfbbebodgaaGreatDoor
open Go.Vc Go.Proofs Go.RowKit Cae
attribute [local irreducible] wpL callK valK unitK runK Fun Sl Vc.Own vc vcOps opK pureK
theorem parse_ok {s:List UInt8} {f:FileP} (hs:s.length≤1000000) (h:parseR s=.ok f):FileOk f∧f.classes.length≤20∧f.rules.length≤20:=by
 unfold parseR at h;split at h
 ·cases h
 ·rename_i l hl;have htl:=tl_of hs hl;split at h
  ·cases h
  ·rename_i f' l' hf;split at h
   ·cases h;exact(iv_file _ _ _ htl.txt hf).1
   ·cases h
end Go.Proofs.YtledlfbbebodgaaGreatDoor
end
section
namespace Cae
abbrev NamesP:=List (List UInt8×List Rg)
def findN (n:List UInt8):NamesP→Option (List Rg)
 | []=>none
 | x :: l=>if x.1=n then some x.2 else findN n l
def kindS (nm:NamesP):KindP→Except Nat (List Rg)
 | .lit _ s=>.ok s
 | .ref pos n=>match findN n nm with
  | some s=>.ok s
  | none=>.error pos
 | .not _ k=>match kindS nm k with
  | .ok s=>.ok (setNot s)
  | .error e=>.error e
 | .bin c _ k r=>match kindS nm k with
  | .error e=>.error e
  | .ok s=>match kindS nm r with
   | .error e=>.error e
   | .ok t=>.ok (if c=3 then setOr s t else if c=4 then setAnd s t else setLess s t)
def namesS:NamesP→List ClassP→Except (Nat×Nat) NamesP
 | nm,[]=>.ok nm
 | nm,c :: l=>if (findN c.name nm).isSome then .error (5,c.pos) else match kindS nm c.kind with
  | .error e=>.error (6,e)
  | .ok s=>namesS (nm++[(c.name,s)]) l
mutual
def patS (nm:NamesP):PatP→Option Nat
 | .one k=>match kindS nm k with
  | .error e=>some e
  | .ok _=>none
 | .any=>none
 | .edge=>none
 | .cat l=>patsS nm l
 | .alt l=>patsS nm l
 | .many x _ _=>patS nm x
def patsS (nm:NamesP):List PatP→Option Nat
 | []=>none
 | x :: l=>match patS nm x with
  | some e=>some e
  | none=>patsS nm l
end
def ruleS (nm:NamesP) (r:RuleP):Option Nat:=match patS nm r.before with
 | some e=>some e
 | none=>patS nm r.after
def rulesS (nm:NamesP):List RuleP→Option Nat
 | []=>none
 | r :: l=>match ruleS nm r with
  | some e=>some e
  | none=>rulesS nm l
def RightN (nm:NamesP):Prop:=∀x∈nm,setRight (-2) x.2=true
theorem findN_right {nm:NamesP} (h:RightN nm) {n:List UInt8} {s:List Rg} (hf:findN n nm=some s):setRight (-2) s=true:=by
 induction nm with
 | nil=>cases hf
 | cons x l ih =>
  rw[findN]at hf;split at hf
  ·cases hf;exact h x (List.mem_cons_self ..)
  ·exact ih (fun y hy=>h y (List.mem_cons_of_mem _ hy)) hf
theorem kindS_right {nm:NamesP} (h:RightN nm):∀{k:KindP} {s:List Rg},KindOk k→kindS nm k=.ok s→setRight (-2) s=true
 | .lit _ s0,s,hk,e=>by cases e;exact hk.1
 | .ref pos n,s,hk,e=>by
  rw[kindS]at e;split at e
  ·rename_i t ht;cases e;exact findN_right h ht
  ·cases e
 | .not _ k,s,hk,e=>by
  rw[kindS]at e;split at e
  ·rename_i t ht;cases e;exact setNot_right (kindS_right (k:=k) h hk ht)
  ·cases e
 | .bin c _ k r,s,hk,e=>by
  rw[kindS]at e;split at e
  ·cases e
  ·split at e
   ·cases e
   ·cases e;split
    ·exact setOr_right _ _
    ·split
     ·exact setAnd_right _ _
     ·exact setLess_right _ _
mutual
def KindsIn (Q:KindP→Prop):PatP→Prop
 | .one k=>Q k
 | .any=>True
 | .edge=>True
 | .cat l=>KindsAll Q l
 | .alt l=>KindsAll Q l
 | .many x _ _=>KindsIn Q x
def KindsAll (Q:KindP→Prop):List PatP→Prop
 | []=>True
 | x :: l=>KindsIn Q x∧KindsAll Q l
end
mutual
def bareP (S:KindP→List Rg):PatP→PatP
 | .one k=>.one (.lit 0 (S k))
 | .any=>.any
 | .edge=>.edge
 | .cat l=>.cat (bareL S l)
 | .alt l=>.alt (bareL S l)
 | .many x lo hi=>.many (bareP S x) lo hi
def bareL (S:KindP→List Rg):List PatP→List PatP
 | []=>[]
 | x :: l=>bareP S x :: bareL S l
end
section
variable {has has':KindP→Int→Prop} {pts:List Int} {back:Bool} {S:KindP→List Rg}
mutual
theorem rch_bare:∀(back:Bool) (x:PatP),KindsIn (fun k=>∀p,has' (.lit 0 (S k)) p↔has k p) x→∀{i j:Nat},Rch has' pts back (bareP S x) i j↔Rch has pts back x i j
 | back,.one k,h,i,j=>by
  simp only[KindsIn]at h;simp only[bareP,Rch];exact exists_congr fun p=>and_congr Iff.rfl (h p)
 | back,.any,h,i,j=>by simp only[bareP,Rch]
 | back,.edge,h,i,j=>by simp only[bareP,Rch]
 | back,.cat l,h,i,j=>by
  simp only[KindsIn]at h;simp only[bareP,Rch];cases back
  ·exact rchF_bare l h
  ·exact rchB_bare l h
 | back,.alt l,h,i,j=>by
  simp only[KindsIn]at h;simp only[bareP,Rch];exact rchA_bare back l h
 | back,.many x lo hi,h,i,j=>by
  simp only[KindsIn]at h;simp only[bareP,Rch];refine exists_congr fun n=>and_congr Iff.rfl (and_congr Iff.rfl ⟨iterM_mono fun a b hr=>(rch_bare back x h).1 hr,iterM_mono fun a b hr=>(rch_bare back x h).2 hr⟩)
theorem rchF_bare:∀(l:List PatP),KindsAll (fun k=>∀p,has' (.lit 0 (S k)) p↔has k p) l→∀{i j:Nat},RchF has' pts false (bareL S l) i j↔RchF has pts false l i j
 | [],h,i,j=>by simp only[bareL,RchF]
 | x :: l,h,i,j=>by
  simp only[KindsAll]at h;simp only[bareL,RchF];exact exists_congr fun m=>and_congr (rch_bare false x h.1) (rchF_bare l h.2)
theorem rchB_bare:∀(l:List PatP),KindsAll (fun k=>∀p,has' (.lit 0 (S k)) p↔has k p) l→∀{i j:Nat},RchB has' pts true (bareL S l) i j↔RchB has pts true l i j
 | [],h,i,j=>by simp only[bareL,RchB]
 | x :: l,h,i,j=>by
  simp only[KindsAll]at h;simp only[bareL,RchB];exact exists_congr fun m=>and_congr (rchB_bare l h.2) (rch_bare true x h.1)
theorem rchA_bare:∀(back:Bool) (l:List PatP),KindsAll (fun k=>∀p,has' (.lit 0 (S k)) p↔has k p) l→∀{i j:Nat},RchA has' pts back (bareL S l) i j↔RchA has pts back l i j
 | back,[],h,i,j=>by simp only[bareL,RchA]
 | back,x :: l,h,i,j=>by
  simp only[KindsAll]at h;simp only[bareL,RchA];exact or_congr (rch_bare back x h.1) (rchA_bare back l h.2)
end
end
end Cae
end
section
namespace Go.Proofs.YtledlfbbebodgaaGreatDoor
open Go.Vc Go.Proofs Go.RowKit Cae
attribute [local irreducible] wpL callK valK unitK runK Fun Sl Vc.Own vc vcOps opK pureK
theorem below_drew (w:World):Below w.heap.size w w.drew:=((Kept.refl (fun _=>False) w).drew).below (Nat.le_refl _) (fun _ h=>h.elim)
theorem PatsV.nth {X:Nat→Prop} {w:World}:∀{l:List PatP} {vs:List Nat} {i:Nat} {x:PatP},PatsV X w vs l→l[i]?=some x→∃u,vs[i]?=some u∧PatV X w (ptrP u) x
 | [],_,i,x,_,hx=>by simp at hx
 | _ :: _,[],_,_,h,_=>by simp only[PatsV]at h
 | y :: l,v :: vs,0,x,h,hx=>by
  simp only[PatsV]at h;cases hx;exact⟨v,rfl,h.1⟩
 | y :: l,v :: vs,i+1,x,h,hx=>by
  simp only[PatsV]at h;exact PatsV.nth (i:=i) h.2 (by simpa using hx)
theorem patsOk_mem:∀{l:List PatP} {x:PatP},PatsOk l→x∈l→PatOk x
 | y :: l,x,h,hx=>by
  simp only[PatsOk]at h;rcases List.mem_cons.1 hx with rfl|hx
  ·exact h.1
  ·exact patsOk_mem h.2 hx
theorem FileV.below {X:Nat→Prop} {w w':World} {v:Value} {f:FileP} (h:FileV X w v f) (hb:Below w.heap.size w w'):FileV X w' v f:=by
 obtain⟨cv,rv,cs,rs,rfl,S1,S2,A1,A2⟩:=h;exact⟨cv,rv,cs,rs,rfl,S1.below hb,S2.below hb,A1.imp fun a c h=>⟨h.1,h.2.1,h.2.2.below hb⟩,A2.imp fun a c h=>⟨h.1,h.2.1,h.2.2.1.below hb,h.2.2.2.below hb⟩⟩
theorem hasCmp_c (r:Rg) (p:Int) (w:World):Fun Tryz.prog 90 [.agg #[.int .i64 r.1,.int .i64 r.2],.int .i64 p] w fun v w'=>v=.int .i64 (if r.2<p then -1 else if p<r.1 then 1 else 0)∧Below w.heap.size w w':=by
 refine fun_of_vc Tryz.func90 rfl (by kernel_rfl) [4] rfl ?_;simp -dsimp (maxSteps:=4000000) only[push_cast,fr0,Tryz.ntmps90,List.length_cons,List.length_nil,Nat.reduceAdd,Nat.reduceSub,Nat.reduceBEq,List.replicate_succ,List.replicate_zero];refine boxK_of ?_;intro w1 hw1;have c0:w1.cell? ⟨w.heap.size,0,none⟩=some (.int .i64 r.1):=hw1.cell rfl
 have c1:w1.cell? ⟨w.heap.size,1,none⟩=some (.int .i64 r.2):=hw1.cell rfl;simp -dsimp only[push_cast,Nat.reduceAdd,Nat.reduceLeDiff,Nat.reduceBEq,Int.reduceNe,Int.reduceEq,Int.reduceLT,Int.reduceLE,c0,c1];refine⟨fun h=>?_,fun h=>⟨fun h2=>?_,fun h2=>?_⟩⟩
 ·rw[if_pos h];exact⟨rfl,hw1.below⟩
 ·rw[if_neg h,if_pos h2];exact⟨rfl,hw1.below⟩
 ·rw[if_neg h,if_neg h2];exact⟨rfl,hw1.below⟩
theorem has_at {s:List Rg} (hr:setRight (-2) s=true) {p:Int} {i:Nat} (h1:∀(k:Nat) (r:Rg),k<i→s[k]?=some r→r.2<p) (h2:∀(k:Nat) (r:Rg),i≤k→s[k]?=some r→¬r.2<p) :
  hasP s p=match s[i]? with|some r=>decide (r.1≤p)|none=>false:=by
 unfold hasP;cases hi:s[i]? with
 | none =>
  rw[List.any_eq_false];intro r hm;obtain⟨k,hk⟩:=List.getElem?_of_mem hm;have hlt:=(List.getElem?_eq_some_iff.1 hk).1;have:=List.getElem?_eq_none_iff.1 hi;have:=h1 k r (by omega) hk;simp only[decide_eq_true_eq];omega
 | some r =>
  have hr2:=h2 i r (Nat.le_refl _) hi;by_cases hp:r.1≤p
  ·dsimp only;rw[decide_eq_true hp,List.any_eq_true];exact⟨r,List.mem_of_getElem? hi,by simp only[decide_eq_true_eq];omega⟩
  ·dsimp only;rw[decide_eq_false hp,List.any_eq_false];intro q hm;obtain⟨k,hk⟩:=List.getElem?_of_mem hm;simp only[decide_eq_true_eq];rcases Nat.lt_trichotomy k i with hlt|heq|hgt
   ·have:=h1 k q hlt hk;omega
   ·subst heq;rw[hi]at hk;cases hk;omega
   ·have:=(setRight_sorted s (-2) hr i r hi).2.2.2 k q hgt hk;have:=(setRight_sorted s (-2) hr i r hi).2.1;omega
theorem search_c (s:List Rg) (hs:s.length<1000000000) (hr:setRight (-2) s=true) (p:Int) (X:Nat→Prop) (v:Value) (w:World) (hv:Sl X 2 (En encR) w v s) :
  Fun Tryz.prog 89 [v,.int .i64 p,.func (.func 90) #[] #[]] w fun r w'=>(∃i:Int,r=.tuple #[.int .i64 i,.bool (hasP s p)])∧Below w.heap.size w w':=by
 obtain⟨a,c,rfl,hc⟩:=hv.shape;refine fun_of_vc Tryz.func89 rfl (by kernel_rfl) [6,7] rfl ?_;simp -dsimp (maxSteps:=4000000) only[push_cast,fr0,Tryz.ntmps89,List.length_cons,List.length_nil,Nat.reduceAdd,Nat.reduceSub,Nat.reduceBEq,List.replicate_succ,List.replicate_zero]
 refine wpL_loop [9,10,11,15,16,17,18,19,20,21,22,23,24,25,26,27,28,29,30,31,32,33,34] (fun z wx=>∃(i j:Nat),z 9=.int .i64 i∧z 10=.int .i64 j∧i≤j∧j≤s.length∧(∀(k:Nat) (r:Rg),k<i→s[k]?=some r→r.2<p)∧(∀(k:Nat) (r:Rg),j≤k→s[k]?=some r→¬r.2<p)∧Below w.heap.size w wx) (fun z _=>(intOf (z 10)).toNat - (intOf (z 9)).toNat) ?_ ?_
 ·refine⟨0,s.length,rfl,rfl,Nat.zero_le _,Nat.le_refl _,fun k r hk=>absurd hk (by omega),fun k r hk h=>?_,Below.refl _ _⟩;have:=(List.getElem?_eq_some_iff.1 h).1;omega
 ·intro z wx hI;obtain⟨i,j,h9,h10,hij,hj,hlo,hhi,hb⟩:=hI;simp -dsimp only[push_cast,Nat.reduceAdd,Nat.reduceLeDiff,Nat.reduceBEq,Int.reduceNe,Int.reduceEq,Int.reduceLT,Int.reduceLE,h9,h10];refine⟨fun hlt=>?_,fun hge=>?_⟩
  ·have e:IntKind.i64.wrap ((IntKind.u64.wrap ((i:Int)+(j:Int))).fdiv (2 ^ min (1:Int).toNat IntKind.u64.bits))=(((i+j) / 2:Nat):Int):=by
    rw[show (i:Int)+(j:Int)=((i+j:Nat):Int) by omega,wrap_u64_nat,Nat.mod_eq_of_lt (by omega),shr_nat (k:=1) (kd:=.u64) rfl (by decide)];exact wrap_i64_nat (by omega)
   have hm1:i≤(i+j) / 2:=by omega
   have hm2:(i+j) / 2<j:=by omega
   generalize (i+j) / 2=m at e hm1 hm2;rw[e];obtain⟨x,hx,hxm,hdx,ht⟩:=lt_get (l:=s) (i:=m) (by omega);obtain⟨b,o,rfl,hX,hcell⟩:=(hv.below hb).get hx;have c0:cellsAt wx ⟨b,o+m*2,none⟩ 0 2=some [.int .i64 x.1,.int .i64 x.2]:=cellsAt_of (encR x) 0 (fun j u hu=>by simpa using hcell j u hu)
   simp -dsimp only[push_cast,Nat.reduceAdd,Nat.reduceLeDiff,Nat.reduceBEq,Int.reduceNe,Int.reduceEq,Int.reduceLT,Int.reduceLE,c0];refine⟨⟨by omega,by omega⟩,⟨by omega,by omega⟩,?_⟩;refine callK_of (hasCmp_c x p wx) ?_;rintro _ w1 ⟨rfl,hb1⟩;have hB1:=hb.trans (hb1.mono hb.size)
   simp -dsimp only[push_cast,Nat.reduceAdd,Nat.reduceLeDiff,Nat.reduceBEq,Int.reduceNe,Int.reduceEq,Int.reduceLT,Int.reduceLE];refine⟨fun hneg=>⟨⟨by omega,by omega⟩,⟨m+1,j,rfl,rfl,by omega,hj,fun k r hk hr0=>?_,hhi,hB1⟩,?_⟩,fun hpos=>⟨⟨i,m,rfl,rfl,by omega,by omega,hlo,fun k r hk hr0=>?_,hB1⟩,?_⟩⟩
   ·have hxp:x.2<p:=by
     by_cases h:x.2<p
     ·exact h
     ·rw[if_neg h]at hneg;split at hneg <;> omega
    rcases Nat.lt_or_ge k m with hlt'|hge'
    ·have:=(setRight_sorted s (-2) hr k r hr0).2.2.2 m x hlt' hx;have:=(setRight_sorted s (-2) hr m x hx).2.1;omega
    ·have hkm:k=m:=by omega
     subst hkm;rw[hx]at hr0;cases hr0;exact hxp
   ·rw[h9,h10];simp only[intOf];omega
   ·have hxp:¬x.2<p:=by
     intro h;rw[if_pos h]at hpos;omega
    rcases Nat.lt_or_ge m k with hlt'|hge'
    ·have:=(setRight_sorted s (-2) hr m x hx).2.2.2 k r hlt' hr0;have:=(setRight_sorted s (-2) hr k r hr0).2.1;omega
    ·have hkm:k=m:=by omega
     subst hkm;rw[hx]at hr0;cases hr0;exact hxp
   ·rw[h9,h10];simp only[intOf];omega
  ·have hji:j=i:=by omega
   subst hji;have hat:=has_at hr hlo hhi;refine⟨fun hin=>?_,fun hout=>?_⟩
   ·obtain⟨x,hx,hxm,hdx,ht⟩:=lt_get (l:=s) (i:=j) (by omega);obtain⟨b,o,rfl,hX,hcell⟩:=(hv.below hb).get hx;have c0:cellsAt wx ⟨b,o+j*2,none⟩ 0 2=some [.int .i64 x.1,.int .i64 x.2]:=cellsAt_of (encR x) 0 (fun j u hu=>by simpa using hcell j u hu);have hx2:=hhi j x (Nat.le_refl _) hx;rw[hx]at hat
    simp -dsimp only[push_cast,Nat.reduceAdd,Nat.reduceLeDiff,Nat.reduceBEq,Int.reduceNe,Int.reduceEq,Int.reduceLT,Int.reduceLE,c0];refine⟨⟨by omega,by omega⟩,callK_of (hasCmp_c x p wx) ?_⟩;rintro _ w1 ⟨rfl,hb1⟩;simp -dsimp only[push_cast,Nat.reduceAdd,Nat.reduceLeDiff,Nat.reduceBEq,Int.reduceNe,Int.reduceEq,Int.reduceLT,Int.reduceLE];refine⟨⟨j,?_⟩,hb.trans (hb1.mono hb.size)⟩
    have hat':hasP s p=decide (x.1≤p):=by rw[hat]
    have hdd:decide ((if p<x.1 then (1:Int) else 0)=0)=decide (x.1≤p):=by rw[decide_eq_decide];split <;> omega
    rw[hat',if_neg hx2,hdd]
   ·refine⟨⟨j,?_⟩,hb⟩;rw[hat,List.getElem?_eq_none (by omega)]
theorem has_c (s:List Rg) (hs:s.length<1000000000) (hr:setRight (-2) s=true) (p:Int) (X:Nat→Prop) (v:Value) (w:World) (hv:Sl X 2 (En encR) w v s) :
  Fun Tryz.prog 53 [v,.int .i64 p] w fun r w'=>r=.bool (hasP s p)∧Below w.heap.size w w':=by
 refine fun_of_vc Tryz.func53 rfl (by kernel_rfl) [4] rfl ?_;simp -dsimp (maxSteps:=4000000) only[push_cast,fr0,Tryz.ntmps53,List.length_cons,List.length_nil,Nat.reduceAdd,Nat.reduceSub,Nat.reduceBEq,List.replicate_succ,List.replicate_zero];refine callK_of (search_c s hs hr p X v w hv) ?_;rintro _ w1 ⟨⟨i,rfl⟩,hb⟩
 simp -dsimp only[push_cast,Nat.reduceAdd,Nat.reduceLeDiff,Nat.reduceBEq,Int.reduceNe,Int.reduceEq,Int.reduceLT,Int.reduceLE];exact hb
theorem cloneR_c (l:List Rg) (hl:l.length<1000000000) (X:Nat→Prop) (v:Value) (w:World) (hv:Sl X 2 (En encR) w v l) (ha:Arg v) :
  Fun Tryz.prog 111 [v] w fun r w'=>Vc.Own w.heap.size 46 2 encR w' r l∧Below w.heap.size w w':=by
 obtain⟨a,c,rfl,hc⟩:=hv.shape;refine fun_of_vc Tryz.func111 rfl (by kernel_rfl) [2] rfl ?_;simp -dsimp (maxSteps:=4000000) only[push_cast,fr0,Tryz.ntmps111,List.length_cons,List.length_nil,Nat.reduceAdd,Nat.reduceSub,Nat.reduceBEq,List.replicate_succ,List.replicate_zero];cases a with
 | none =>
  obtain⟨h0,rfl⟩:=ha _ _ rfl;have:l=[]:=List.eq_nil_of_length_eq_zero h0;subst this;simp -dsimp only[push_cast,Nat.reduceAdd,Nat.reduceLeDiff,Nat.reduceBEq,Int.reduceNe,Int.reduceEq,Int.reduceLT,Int.reduceLE,eqn3];exact⟨Vc.Own.nil (enc:=encR) _ _ (fun _=>rfl) _,Below.refl _ _⟩
 | some ad =>
  simp -dsimp only[push_cast,Nat.reduceAdd,Nat.reduceLeDiff,Nat.reduceBEq,Int.reduceNe,Int.reduceEq,Int.reduceLT,Int.reduceLE,eqs3];refine rowK elI_40 rfl rfl (by omega) ?_;intro w1 hw1;have ho1:=hw1.own (base:=w.heap.size) (k:=2) (n:=0) (enc:=encR) (l:=[]) rfl rfl (fun _=>rfl) (Nat.le_refl _) (by omega);have sz1:=hw1.size
  simp -dsimp only[push_cast,Nat.reduceAdd,Nat.reduceLeDiff,Nat.reduceBEq,Int.reduceNe,Int.reduceEq,Int.reduceLT,Int.reduceLE];refine appendAny (base:=w.heap.size) (enc:=encR) (ys:=l) elI_40 ho1 (hv.below hw1.below) (fun n c h=>by cases h) encR_one (by simp only[List.length_nil];omega) (by omega) ?_;intro v' w2 ho2 hg2 hb2;rw[List.nil_append]at ho2
  simp -dsimp only[push_cast,Nat.reduceAdd,Nat.reduceLeDiff,Nat.reduceBEq,Int.reduceNe,Int.reduceEq,Int.reduceLT,Int.reduceLE];exact⟨ho2,hw1.below.trans hb2⟩
def cmpI (x y:Int):Int:=if x<y then -1 else if y<x then 1 else 0
theorem isNaN_c (x:Int) (w:World):Fun Tryz.prog 146 [.int .i64 x] w fun r w'=>r=.bool false∧w'=w:=by
 refine fun_of_vc Tryz.func146 rfl (by kernel_rfl) [2] rfl ?_;simp -dsimp (maxSteps:=4000000) only[push_cast,fr0,Tryz.ntmps146,List.length_cons,List.length_nil,Nat.reduceAdd,Nat.reduceSub,Nat.reduceBEq,List.replicate_succ,List.replicate_zero];simp
theorem compare_c (x y:Int) (w:World):Fun Tryz.prog 114 [.int .i64 x,.int .i64 y] w fun r w'=>r=.int .i64 (cmpI x y)∧w'=w:=by
 refine fun_of_vc Tryz.func114 rfl (by kernel_rfl) [4] rfl ?_;simp -dsimp (maxSteps:=4000000) only[push_cast,fr0,Tryz.ntmps114,List.length_cons,List.length_nil,Nat.reduceAdd,Nat.reduceSub,Nat.reduceBEq,List.replicate_succ,List.replicate_zero];refine callK_of (isNaN_c x w) ?_;rintro _ w1 ⟨rfl,rfl⟩
 simp -dsimp only[push_cast,Nat.reduceAdd,Nat.reduceLeDiff,Nat.reduceBEq,Int.reduceNe,Int.reduceEq,Int.reduceLT,Int.reduceLE];refine callK_of (isNaN_c y w1) ?_;rintro _ w2 ⟨rfl,rfl⟩;simp -dsimp only[push_cast,Nat.reduceAdd,Nat.reduceLeDiff,Nat.reduceBEq,Int.reduceNe,Int.reduceEq,Int.reduceLT,Int.reduceLE];unfold cmpI
 refine⟨fun h=>by rw[if_pos h],fun h=>⟨fun h2=>by rw[if_neg h,if_pos h2],fun h2=>by rw[if_neg h,if_neg h2]⟩⟩
theorem closure_c (x y:Rg) (w:World):Fun Tryz.prog 113 [.agg #[.int .i64 x.1,.int .i64 x.2],.agg #[.int .i64 y.1,.int .i64 y.2]] w fun r w'=>r=.int .i64 (cmpI x.1 y.1)∧∃os,w'=Go.Sort.grow w os:=by
 refine fun_of_vc Tryz.func113 rfl (by kernel_rfl) [4] rfl ?_;simp -dsimp (maxSteps:=4000000) only[push_cast,fr0,Tryz.ntmps113,List.length_cons,List.length_nil,Nat.reduceAdd,Nat.reduceSub,Nat.reduceBEq,List.replicate_succ,List.replicate_zero];refine boxK_of ?_;intro w1 hw1;have sz1:=hw1.size
 simp -dsimp only[push_cast,Nat.reduceAdd,Nat.reduceLeDiff,Nat.reduceBEq,Int.reduceNe,Int.reduceEq,Int.reduceLT,Int.reduceLE];refine boxK_of ?_;intro w2 hw2;have sz2:=hw2.size;have c0:w2.cell? ⟨w.heap.size,0,none⟩=some (.int .i64 x.1):=(hw2.below.cell (by show w.heap.size<w1.heap.size;omega)).trans (hw1.cell rfl);have c1:w2.cell? ⟨w1.heap.size,0,none⟩=some (.int .i64 y.1):=hw2.cell rfl
 simp -dsimp only[push_cast,Nat.reduceAdd,Nat.reduceLeDiff,Nat.reduceBEq,Int.reduceNe,Int.reduceEq,Int.reduceLT,Int.reduceLE,c0,c1];refine callK_of (compare_c x.1 y.1 w2) ?_;rintro _ w3 ⟨rfl,rfl⟩;simp -dsimp only[push_cast,Nat.reduceAdd,Nat.reduceLeDiff,Nat.reduceBEq,Int.reduceNe,Int.reduceEq,Int.reduceLT,Int.reduceLE]
 refine⟨_,by rw[hw2.is,hw1.is,Go.Sort.alloc_eq_grow,Go.Sort.alloc_eq_grow,Go.Sort.grow_grow]⟩
def growR_ren:Go.Shelf.Ren:=⟨fun|4=>115|n=>n,fun|22=>41|25=>46|3=>3|4=>4|9=>9|20=>20|0=>0|2=>3|n=>n,fun|n=>n⟩
theorem growR:Go.Proofs.Lays8.n4 Tryz.prog growR_ren:={
 mixed:=by kernel_rfl
 f4:=⟨ "slices.Grow[caesura/api.Set,caesura/api.Range]",by decide,Tryz.func115.trans (congrArg some (by kernel_rfl))⟩
 t0:=Tryz.underlying0
 a0:=Tryz.isAgg0
 z0:=Tryz.sizeOf0
 v0:=Tryz.zeroValue0
 t3:=Tryz.underlying3
 a3:=Tryz.isAgg3
 z3:=Tryz.sizeOf3
 v3:=Tryz.zeroValue3
 t4:=Tryz.underlying4
 a4:=Tryz.isAgg4
 z4:=Tryz.sizeOf4
 v4:=Tryz.zeroValue4
 t9:=Tryz.underlying9
 a9:=Tryz.isAgg9
 z9:=Tryz.sizeOf9
 v9:=Tryz.zeroValue9
 t20:=Tryz.underlying20
 a20:=Tryz.isAgg20
 z20:=Tryz.sizeOf20
 v20:=Tryz.zeroValue20
 t22:=Tryz.underlying41
 a22:=Tryz.isAgg41
 z22:=Tryz.sizeOf41
 v22:=Tryz.zeroValue41 }
theorem grow_c (n:Nat) (hn:n<1000000000) (w:World) :
  Fun Tryz.prog 115 [.slice none 0 0,.int .i64 (n:Int)] w fun r w'=>Vc.Own w.heap.size 46 2 encR w' r ([]:List Rg)∧Below w.heap.size w w':=by
 refine fun_of_calls Tryz.func115 (by kernel_rfl) (by kernel_rfl) ?_;rcases Nat.eq_zero_or_pos n with h0|h0
 ·subst h0;refine Calls.mono (Any8.slices_Grow_room growR none 0 0 0 w (by omega) (by omega) (by omega) (by omega)) ?_;rintro e w' ⟨rfl,rfl⟩;exact⟨_,rfl,Vc.Own.nil (enc:=encR) _ _ (fun _=>rfl) _,Below.refl _ _⟩
 ·have he:=elI_spec elI_41;obtain⟨hu,i,z,hi,hz,hk0,hby,hzs,hk,hb0⟩:=he;refine Calls.mono (Any8.slices_Grow_grow growR i z hi hz (by omega) none 0 0 n [] w (by omega) (by omega) (by rw[hby];omega) (by omega) (by simp) (fun _=>rfl) (fun a h=>by cases h)) ?_;rintro e w' ⟨rfl,rfl⟩;have hG:=grownCap_le_maxLen w (0+n) 0 46 (by unfold maxLen;omega);have hG2:=grownCap_ge w (0+n) 0 46
  have hE:growR_ren.t 25=46:=rfl;rw[hE];generalize grownCap w (0+n) 0 46=G at hG hG2;refine⟨_,rfl,ownFresh (fun _=>rfl) (Array.getElem?_push_size) hG ?_,?_⟩
  ·simp only[Array.size_append,size_zeroCells,hzs,hk0];simp;omega
  ·exact⟨rfl,rfl,rfl,by show w.heap.size≤(w.heap.push _).size;rw[Array.size_push];omega,fun i hi=>by show (w.heap.push _)[i]?=_;rw[Array.getElem?_push,if_neg (by omega)]⟩
end Go.Proofs.YtledlfbbebodgaaGreatDoor
end
section
namespace Go.Proofs.YtledlfbbebodgaaGreatDoor
open Go.Vc Go.Proofs Go.RowKit Cae Go.Sort
theorem holdsOf {base : Nat} {e : TypeId} {w : World} {g n c : Nat} {l : List Rg} (h : Vc.Own base e 2 encR w (.slice (some ⟨g, 0, none⟩) n c) l) : HoldsK encR 2 w g 0 l.toArray := by
  have ho := Vc.Own.opened h rfl
  obtain ⟨cur, hB, hl, ht, _⟩ := ho
  intro j hj
  rw [size_flatK] at hj
  rw [get_flatK _ _ _ _ hj]
  have hj' : j < l.length * 2 := by simpa using hj
  have hi : j / 2 < l.length := by omega
  have hx := List.getElem?_eq_getElem hi
  have hu : (encR l[j / 2])[j % 2]? = some (encR l[j / 2])[j % 2]! := by
    rw [List.getElem!_eq_getElem?_getD]
    have hlt : j % 2 < (encR l[j / 2]).length := by show j % 2 < 2; omega
    rw [List.getElem?_eq_getElem hlt]; rfl
  have h1 := flatMap_get h.2 l (j / 2) (j % 2) _ _ hx hu
  rw [← ht, List.getElem?_take, if_pos (by omega), show j / 2 * 2 + j % 2 = j by omega] at h1
  have e2 : (l.toArray)[j / 2]! = l[j / 2] := by simp [hi]
  rw [e2]
  refine ⟨?_, ?_⟩
  · rw [cell_of_row w g _ cur.toArray e (0, 0) hB, Nat.zero_add]
    simpa using h1
  · have hB' : w.heap[g]? = some (.cells cur.toArray e (0, 0)) := hB
    simp [World.frozen?, hB']
theorem ownAt0 {base:Nat} {e:TypeId} {w:World} {ad:Addr} {n c:Nat} {l:List Rg} (h:Vc.Own base e 2 encR w (.slice (some ad) n c) l):∃g,ad=⟨g,0,none⟩:=by
 rcases h.1.2 with ⟨he,_⟩|⟨g,cap,cr,he,_⟩
 ·cases he
 ·cases he;exact⟨_,rfl⟩
theorem slSorted {w' : World} {g n c : Nat} {d' : Array Rg} (hn : d'.size = n) (hc : n ≤ c) (hH' : HoldsK encR 2 w' g 0 d') : Sl (fun b => (Value.slice (some ⟨g, 0, none⟩) n c).ownBlock ≠ some b) 2 (En encR) w' (.slice (some ⟨g, 0, none⟩) n c) d'.toList := by
  subst hn
  refine ⟨_, c, by rw [Array.length_toList], by rw [Array.length_toList]; exact hc, fun i x hx => ⟨g, 0, encR x, rfl, by simp [Value.ownBlock], rfl, fun j u hu => ?_, rfl⟩⟩
  have hi := (List.getElem?_eq_some_iff.1 hx).1
  rw [Array.length_toList] at hi
  have hj : j < 2 := (List.getElem?_eq_some_iff.1 hu).1
  have h2 := (hH'.cell hi hj).1
  have hx2 : d'[i]! = x := by rw [getElem!_pos d' i hi]; rw [Array.getElem?_toList, Array.getElem?_eq_getElem hi] at hx; cases hx; rfl
  rw [hx2, List.getElem!_eq_getElem?_getD, hu] at h2
  exact h2
end Go.Proofs.YtledlfbbebodgaaGreatDoor
namespace Go.Proofs.YtledlfbbebodgaaGreatDoor
open Go.Vc Go.Proofs Go.RowKit Cae
attribute [local irreducible] wpL callK valK unitK runK Fun Sl Vc.Own vc vcOps opK pureK
open Go.Sort
def sortR_ren:Go.Shelf.Ren:=⟨fun|6=>112|15=>117|14=>145|28=>156|29=>157|20=>165|21=>166|22=>167|23=>168|24=>169|25=>170|26=>171|27=>172|46=>192|47=>174|48=>175|49=>193|50=>194|57=>207|n=>n,fun|22=>40|24=>46|25=>197|3=>3|39=>103|0=>0|53=>244|55=>246|4=>4|46=>237|45=>236|50=>168|5=>5|9=>9|66=>254|70=>258|76=>278|77=>97|n=>n,fun|n=>n⟩
theorem sortR:Go.Proofs.SlLaysF0.n6 Tryz.prog sortR_ren:={
 mixed:=by kernel_rfl
 f6:=⟨ "slices.SortFunc[[]caesura/api.Range,caesura/api.Range]",by decide,Tryz.func112.trans (congrArg some (by kernel_rfl))⟩
 f14:=⟨ "slices.pdqsortCmpFunc[caesura/api.Range]",by decide,Tryz.func145.trans (congrArg some (by kernel_rfl))⟩
 f15:=Tryz.func117.trans (congrArg some (by kernel_rfl))
 f20:=⟨ "slices.insertionSortCmpFunc[caesura/api.Range]",by decide,Tryz.func165.trans (congrArg some (by kernel_rfl))⟩
 f21:=⟨ "slices.heapSortCmpFunc[caesura/api.Range]",by decide,Tryz.func166.trans (congrArg some (by kernel_rfl))⟩
 f22:=⟨ "slices.breakPatternsCmpFunc[caesura/api.Range]",by decide,Tryz.func167.trans (congrArg some (by kernel_rfl))⟩
 f23:=⟨ "slices.choosePivotCmpFunc[caesura/api.Range]",by decide,Tryz.func168.trans (congrArg some (by kernel_rfl))⟩
 f24:=⟨ "slices.reverseRangeCmpFunc[caesura/api.Range]",by decide,Tryz.func169.trans (congrArg some (by kernel_rfl))⟩
 f25:=⟨ "slices.partialInsertionSortCmpFunc[caesura/api.Range]",by decide,Tryz.func170.trans (congrArg some (by kernel_rfl))⟩
 f26:=⟨ "slices.partitionEqualCmpFunc[caesura/api.Range]",by decide,Tryz.func171.trans (congrArg some (by kernel_rfl))⟩
 f27:=⟨ "slices.partitionCmpFunc[caesura/api.Range]",by decide,Tryz.func172.trans (congrArg some (by kernel_rfl))⟩
 f28:=Tryz.func156.trans (congrArg some (by kernel_rfl))
 f29:=Tryz.func157.trans (congrArg some (by kernel_rfl))
 f46:=⟨ "slices.siftDownCmpFunc[caesura/api.Range]",by decide,Tryz.func192.trans (congrArg some (by kernel_rfl))⟩
 f47:=Tryz.func174.trans (congrArg some (by kernel_rfl))
 f48:=Tryz.func175.trans (congrArg some (by kernel_rfl))
 f49:=⟨ "slices.medianAdjacentCmpFunc[caesura/api.Range]",by decide,Tryz.func193.trans (congrArg some (by kernel_rfl))⟩
 f50:=⟨ "slices.medianCmpFunc[caesura/api.Range]",by decide,Tryz.func194.trans (congrArg some (by kernel_rfl))⟩
 f57:=⟨ "slices.order2CmpFunc[caesura/api.Range]",by decide,Tryz.func207.trans (congrArg some (by kernel_rfl))⟩
 t0:=Tryz.underlying0
 a0:=Tryz.isAgg0
 z0:=Tryz.sizeOf0
 v0:=Tryz.zeroValue0
 t3:=Tryz.underlying3
 a3:=Tryz.isAgg3
 z3:=Tryz.sizeOf3
 v3:=Tryz.zeroValue3
 t4:=Tryz.underlying4
 a4:=Tryz.isAgg4
 z4:=Tryz.sizeOf4
 v4:=Tryz.zeroValue4
 t5:=Tryz.underlying5
 a5:=Tryz.isAgg5
 z5:=Tryz.sizeOf5
 v5:=Tryz.zeroValue5
 t9:=Tryz.underlying9
 a9:=Tryz.isAgg9
 z9:=Tryz.sizeOf9
 v9:=Tryz.zeroValue9
 t22:=Tryz.underlying40
 a22:=Tryz.isAgg40
 z22:=Tryz.sizeOf40
 v22:=Tryz.zeroValue40
 t25:=Tryz.underlying197
 a25:=Tryz.isAgg197
 z25:=Tryz.sizeOf197
 v25:=Tryz.zeroValue197
 t39:=Tryz.underlying103
 a39:=Tryz.isAgg103
 z39:=Tryz.sizeOf103
 v39:=Tryz.zeroValue103
 t45:=Tryz.underlying236
 a45:=Tryz.isAgg236
 z45:=Tryz.sizeOf236
 v45:=Tryz.zeroValue236
 t46:=Tryz.underlying237
 a46:=Tryz.isAgg237
 z46:=Tryz.sizeOf237
 v46:=Tryz.zeroValue237
 t50:=Tryz.underlying168
 a50:=Tryz.isAgg168
 z50:=Tryz.sizeOf168
 v50:=Tryz.zeroValue168
 t53:=Tryz.underlying244
 a53:=Tryz.isAgg244
 z53:=Tryz.sizeOf244
 v53:=Tryz.zeroValue244
 t55:=Tryz.underlying246
 a55:=Tryz.isAgg246
 z55:=Tryz.sizeOf246
 v55:=Tryz.zeroValue246
 t66:=Tryz.underlying254
 a66:=Tryz.isAgg254
 z66:=Tryz.sizeOf254
 v66:=Tryz.zeroValue254
 t70:=Tryz.underlying258
 a70:=Tryz.isAgg258
 z70:=Tryz.sizeOf258
 v70:=Tryz.zeroValue258
 t76:=Tryz.underlying278
 a76:=Tryz.isAgg278
 z76:=Tryz.sizeOf278
 v76:=Tryz.zeroValue278
 t77:=Tryz.underlying97
 a77:=Tryz.isAgg97
 z77:=Tryz.sizeOf97
 v77:=Tryz.zeroValue97 }
def cmpR (x y:Rg):Int:=cmpI x.1 y.1
theorem ltCmpR (x y:Rg):Go.Proofs.ltOf cmpR x y=decide (x.1<y.1):=by
 unfold Go.Proofs.ltOf cmpR cmpI;rw[decide_eq_decide];split
 ·simp[*]
 ·split <;> simp[*]
theorem swoR:SWO (Go.Proofs.ltOf cmpR) where
 irrefl x:=by rw[ltCmpR];simp
 trans x y z h1 h2:=by rw[ltCmpR]at *;simp at *;omega
 ntrans x y z h1 h2:=by rw[ltCmpR]at *;simp at *;omega
theorem cmpLaysR (blk off size:Nat) (w:World):Go.Proofs.CmpLays Tryz.prog 113 #[] encR 2 cmpR blk off size w:=fun m os dk hd x y=>by
 have h:=calls_of_fun (closure_c x y (Go.Proofs.sortWorldK encR 2 w blk off m dk os));have e:#[Value.agg (encR x).toArray,Value.agg (encR y).toArray]++#[]=[Value.agg #[.int .i64 x.1,.int .i64 x.2],Value.agg #[.int .i64 y.1,.int .i64 y.2]].toArray:=rfl;rw[e];refine h.mono ?_;rintro e w' ⟨v,rfl,rfl,os',rfl⟩;exact⟨rfl,0,os',rfl⟩
theorem keptSorted {w:World} {g n:Nat} {os:Array Obj} (d:Array Rg):Kept (fun j=>j=g) w (Go.Proofs.sortWorldK encR 2 w g 0 n d os):=by
 refine⟨rfl,rfl,rfl,?_,fun k hk hne=>?_⟩
 ·exact Go.Proofs.size_sortWorldK_c encR 2 w g 0 n d os
 ·unfold Go.Proofs.sortWorldK putRowK;rw[heap_grow_old _ _ (by simpa using hk)];simp[putRow,mapBlock,Go.Sort.ahead,Array.getElem?_modify,Ne.symm hne]
theorem sort_c (l:List Rg) (hl:l.length<1000000000) (base:Nat) (v:Value) (w:World) (ho:Vc.Own base 46 2 encR w v l) (hb:base≤w.heap.size) :
  Fun Tryz.prog 112 [v,.func (.func 113) #[] #[]] w fun r w'=>(∃m,m.Perm l∧Rising m∧Sl (fun b=>v.ownBlock≠some b) 2 (En encR) w' v m)∧Kept (fun j=>v.ownBlock=some j) w w':=by
 refine fun_of_calls Tryz.func112 (by kernel_rfl) (by kernel_rfl) ?_;cases hn:l with
 | nil =>
  subst hn;have hsh:=ho.slice;obtain⟨a,c,rfl⟩:=hsh;refine(AnyF.slices_SortFunc_none sortR a c (.func (.func 113) #[] #[]) w).mono ?_;rintro e w' ⟨rfl,rfl⟩;exact⟨_,rfl,⟨[],List.Perm.refl _,List.Pairwise.nil,Sl.nil _ _ _ _ _ _⟩,Kept.refl _ _⟩
 | cons y ys =>
  rw[←hn];have hpos:0<l.length:=by rw[hn];exact Nat.succ_pos _
  have hsh:=ho.slice;obtain⟨a,c,rfl⟩:=hsh;cases a with
  | none=>have:=ho.nilArg _ _ rfl;omega
  | some ad =>
   have hg0:=ownAt0 ho;obtain⟨g,rfl⟩:=hg0;have hgb:=ho.block g rfl;have hH:=holdsOf ho;have hcon:=AnyQ.slices_SortFunc sortR 2 Tryz.isAgg46 Tryz.sizeOf46 encR (fun _=>rfl) encR_one cmpR swoR 113 #[] g 0 c l.toArray w (fun args w=>callFunc_enter Tryz.func113 (by kernel_rfl) (by kernel_rfl)) (cmpLaysR g 0 l.toArray.size w) hH hgb.2 (by rw[List.size_toArray];omega);rw[List.size_toArray]at hcon
   refine Calls.mono hcon ?_;rintro e w' ⟨rfl,d',n,os,hp,hs,rfl⟩;have hsz:d'.size=l.length:=by have:=hp.1;simpa using this
   have hperm:d'.toList.Perm l:=by
    have:=hp.2.2;rw[Array.extract_eq_self_of_le (by omega),Array.extract_eq_self_of_le (by simp)]at this;simpa using this
   have hH':=Go.Proofs.holdsK_sortWorldK_c encR 2 w g 0 l.toArray d' n os hH hgb.2 (by simpa using hsz);refine⟨_,rfl,⟨d'.toList,hperm,?_,?_⟩,(keptSorted d').weaken (fun i _ h=>by rw[h];rfl)⟩
   ·refine List.pairwise_iff_getElem.2 fun i j hi hj hij=>?_;rw[Array.length_toList]at hi hj;have:=hs i j (Nat.zero_le _) hij (by omega);rw[ltCmpR,decide_eq_false_iff_not]at this;simp only[getElem!_pos d' i hi,getElem!_pos d' j hj]at this;simp only[Array.getElem_toList];omega
   ·exact slSorted hsz ((ho.sl.shape).elim (fun a h=>h.elim fun c' h=>by cases h.1;exact h.2)) hH'
end Go.Proofs.YtledlfbbebodgaaGreatDoor
end
section
namespace Go.Proofs.YtledlfbbebodgaaGreatDoor
open Go.Vc Go.Proofs Go.RowKit Cae
attribute [local irreducible] wpL callK valK unitK runK Fun Sl Vc.Own vc vcOps opK pureK
theorem of_c (l:List Rg) (hl:l.length<100000000) (X:Nat→Prop) (v:Value) (w:World) (hv:Sl X 2 (En encR) w v l) (ha:Arg v) :
  Fun Tryz.prog 67 [v] w fun r w'=>Vc.Own w.heap.size 46 2 encR w' r (setOf l)∧Below w.heap.size w w':=by
 obtain⟨a,c,rfl,hc⟩:=hv.shape;refine fun_of_vc Tryz.func67 rfl (by kernel_rfl) [2] rfl ?_;simp -dsimp (maxSteps:=4000000) only[push_cast,fr0,Tryz.ntmps67,List.length_cons,List.length_nil,Nat.reduceAdd,Nat.reduceSub,Nat.reduceBEq,List.replicate_succ,List.replicate_zero];refine callK_of (cloneR_c l (by omega) X _ w hv ha) ?_;rintro v1 w1 ⟨ho1,hb1⟩;have sz1:=hb1.size
 simp -dsimp only[push_cast,Nat.reduceAdd,Nat.reduceLeDiff,Nat.reduceBEq,Int.reduceNe,Int.reduceEq,Int.reduceLT,Int.reduceLE];refine callK_of (sort_c l (by omega) w.heap.size v1 w1 ho1 sz1) ?_;rintro r2 w2 ⟨⟨m,hp,hR,hs2⟩,hk2⟩;have sz2:=hk2.size;have hml:=hp.length_eq;have hb2:Below w.heap.size w w2:=hb1.trans (hk2.below sz1 (fun g h=>(ho1.block g h).1));have hsh:=ho1.slice;obtain⟨va,vc,rfl⟩:=hsh
 have hof:=setOf_any hp hR;have hgX:∃X1,X1=(fun b=>(Value.slice va l.length vc).ownBlock≠some b):=⟨_,rfl⟩;obtain⟨X1,hX1⟩:=hgX;rw[←hX1]at hs2;have hX2:∀b,w2.heap.size≤b→X1 b:=fun b hb=>by
  rw[hX1];intro h;have:=(ho1.block b h).2;omega
 simp -dsimp only[push_cast,Nat.reduceAdd,Nat.reduceLeDiff,Nat.reduceBEq,Int.reduceNe,Int.reduceEq,Int.reduceLT,Int.reduceLE]
 refine wpL_loop [3,5,6,13,14,15,16,17,18,19,20,21,22,23,24,25,26,27,28,29,30,31,32,33,34,35,36,37,38,39,40,41,42,43,44,45,46,47,48,49,50,51,52,53,54,55,56,57,58,59,60,61,62] (fun z wx=>∃(i:Nat) (ov:Value),z 13=.int .i64 i∧z 3=ov∧i≤l.length∧Vc.Own w2.heap.size 46 2 encR wx ov (ofFold (m.take i))∧Below w2.heap.size w2 wx) (fun z _=>l.length - (intOf (z 13)).toNat) ?_ ?_
 ·refine⟨0,_,rfl,rfl,Nat.zero_le _,?_,Below.refl _ _⟩;rw[List.take_zero];exact Vc.Own.nil (enc:=encR) _ _ (fun _=>rfl) _
 ·intro z wx hI;obtain⟨i,ov,h13,h3,hi,hox,hbx⟩:=hI;have szx:=hbx.size;simp -dsimp only[push_cast,Nat.reduceAdd,Nat.reduceLeDiff,Nat.reduceBEq,Int.reduceNe,Int.reduceEq,Int.reduceLT,Int.reduceLE,h13,h3];refine⟨fun hlt=>?_,fun hge=>?_⟩
  ·have hg:=lt_get (l:=m) (i:=i) (by omega);obtain⟨x,hx,hxm,_⟩:=hg;have hsx:=hs2.below hbx;rw[←hml]at hsx;have hg:=hsx.get hx;obtain⟨b,o,rfl,hnb,hcell⟩:=hg;have cx:cellsAt wx ⟨b,o+i*2,none⟩ 0 2=some [.int .i64 x.1,.int .i64 x.2]:=cellsAt_of (encR x) 0 (fun j u hu=>by simpa using hcell j u hu);have est:ofFold (m.take (i+1))=ofStep (ofFold (m.take i)) x:=by
    unfold ofFold;rw[List.take_add_one,hx,List.foldl_append];rfl
   have hol:=ofFold_len (m.take i);rw[List.length_take]at hol;have hsh:=hox.slice;obtain⟨oa,oc,rfl⟩:=hsh;have hgo:∃out,ofFold (m.take i)=out:=⟨_,rfl⟩;obtain⟨out,hout⟩:=hgo;rw[hout]at hox est hol;rw[hout];simp -dsimp only[push_cast,Nat.reduceAdd,Nat.reduceLeDiff,Nat.reduceBEq,Int.reduceNe,Int.reduceEq,Int.reduceLT,Int.reduceLE,cx];refine⟨⟨by omega,by omega⟩,?_⟩
   refine allocK (z:=[.int .i64 0,.int .i64 0]) (by kernel_rfl) ?_;intro w3 hw3;have sz3:=hw3.size;simp -dsimp only[push_cast,Nat.reduceAdd,Nat.reduceLeDiff,Nat.reduceBEq,Int.reduceNe,Int.reduceEq,Int.reduceLT,Int.reduceLE];refine storeAgg (n:=2) (by kernel_rfl) hw3.blk rfl (by simp) (by simp[Value.oneCell']) ?_;intro w4 hw4;have sz4:=hw4.size
   have c0:w4.cell? ⟨wx.heap.size,0,none⟩=some (.int .i64 x.1):=hw4.blk.cell rfl;have c1:w4.cell? ⟨wx.heap.size,1,none⟩=some (.int .i64 x.2):=hw4.blk.cell rfl;have hgl:∃lo,max x.1 0=lo:=⟨_,rfl⟩;obtain⟨lo,hlo⟩:=hgl;have hgh:∃hi',min x.2 1114111=hi':=⟨_,rfl⟩;obtain⟨hi',hhi⟩:=hgh;have hlo1:(if 0>x.1 then 0 else x.1)=lo:=by rw[←hlo];split <;> omega
   have hhi1:(if 1114111<x.2 then 1114111 else x.2)=hi':=by rw[←hhi];split <;> omega
   simp -dsimp only[push_cast,Nat.reduceAdd,Nat.reduceLeDiff,Nat.reduceBEq,Int.reduceNe,Int.reduceEq,Int.reduceLT,Int.reduceLE,c0,c1,hlo1,hhi1];refine storeK_of hw4.blk (by simp) rfl ?_;intro w5 hw5;have sz5:w5.heap.size=w4.heap.size:=hw5.size;simp -dsimp only[push_cast,Nat.reduceAdd,Nat.reduceLeDiff,Nat.reduceBEq,Int.reduceNe,Int.reduceEq,Int.reduceLT,Int.reduceLE]
   refine storeK_of hw5.blk (by simp) rfl ?_;intro w6 hw6;have sz6:w6.heap.size=w5.heap.size:=hw6.size;have hX6:Blk w6 wx.heap.size 46 [.int .i64 lo,.int .i64 hi']:=hw6.blk;have k6:Kept (fun j=>j=wx.heap.size) wx w6:=(((Kept.new hw3).trans hw4.kept (fun _ _ h=>h)).trans hw5.kept (fun _ _ h=>h)).trans hw6.kept (fun _ _ h=>h);have ho6:=hox.keptX k6 (fun g hg h=>by have:=hox.block g hg;omega)
   have hb6:Below w2.heap.size w2 w6:=hbx.trans (k6.below szx (fun _ h=>by omega));have e0:w6.cell? ⟨wx.heap.size,0,none⟩=some (.int .i64 lo):=hX6.cell rfl;have e1:w6.cell? ⟨wx.heap.size,1,none⟩=some (.int .i64 hi'):=hX6.cell rfl;simp -dsimp only[push_cast,Nat.reduceAdd,Nat.reduceLeDiff,Nat.reduceBEq,Int.reduceNe,Int.reduceEq,Int.reduceLT,Int.reduceLE,e0,e1];refine⟨fun hgt=>?_,fun hle=>?_⟩
   ·have hst:ofStep out x=out:=by unfold ofStep;rw[hlo,hhi,if_pos (by omega)]
    rw[hst]at est;rw[←est]at ho6;exact⟨⟨by omega,by omega⟩,⟨i+1,_,rfl,by rw[est],by omega,ho6,hb6⟩,by rw[h13];simp only[intOf];omega⟩
   ·refine⟨⟨by omega,by omega⟩,?_⟩;cases hn:out.length with
    | zero =>
     have hnil:out=[]:=List.eq_nil_of_length_eq_zero hn;subst hnil;have hst:ofStep [] x=[]++[(lo,hi')]:=by unfold ofStep;rw[hlo,hhi,if_neg (by omega)];rfl
     refine wpL_draw (fun w'=>w'=w6.drew) mixed (by kernel_rfl) rfl ?_;simp -dsimp only[push_cast,Nat.reduceAdd,Nat.reduceLeDiff,Nat.reduceBEq,Int.reduceNe,Int.reduceEq,Int.reduceLT,Int.reduceLE];refine⟨fun h=>absurd h (by simp),fun _=>?_⟩;rw[hst]at est;have d7:cellsAt w6.drew ⟨wx.heap.size,0,none⟩ 0 2=some [.int .i64 lo,.int .i64 hi']:=hX6.drew.cellsAt
     simp -dsimp only[push_cast,Nat.reduceAdd,Nat.reduceLeDiff,Nat.reduceBEq,Int.reduceNe,Int.reduceEq,Int.reduceLT,Int.reduceLE,d7];refine rowK elI_41 rfl rfl (by omega) ?_;intro w7 hw7;have sz7:w7.heap.size=w6.heap.size+1:=hw7.size;have ho7:=(ho6.keptX (Kept.refl (fun _=>False) _).drew (fun _ _ h=>h)).new hw7
     simp -dsimp only[push_cast,Nat.reduceAdd,Nat.reduceLeDiff,Nat.reduceBEq,Int.reduceNe,Int.reduceEq,Int.reduceLT,Int.reduceLE];refine appendK2 (base:=w2.heap.size) [(lo,hi')] (enc:=encR) elI_41 ho7 (by rfl) (fun j u hu=>by simpa[encR] using hw7.cell hu) encR_one (by simp only[List.length_cons,List.length_nil];omega) (by omega) ?_;intro v8 w8 ho8 hg8 hn8
     have k8:Kept (fun j=>(Value.slice oa ([]:List Rg).length oc).ownBlock=some j) w6 w8:=(((Kept.refl _ w6).drew).trans (Kept.new (X:=fun j=>(Value.slice oa ([]:List Rg).length oc).ownBlock=some j) hw7) (fun _ _ h=>h)).trans (Kept.grown hg8 (fun _ h=>h)) (fun _ _ h=>h);rw[←est]at ho8
     simp -dsimp only[push_cast,Nat.reduceAdd,Nat.reduceLeDiff,Nat.reduceBEq,Int.reduceNe,Int.reduceEq,Int.reduceLT,Int.reduceLE];exact⟨⟨by omega,by omega⟩,⟨i+1,_,rfl,rfl,by omega,ho8,hb6.trans (k8.below (by omega) (fun g h=>(ho6.block g h).1))⟩,by rw[h13];simp only[intOf];omega⟩
    | succ n =>
     have e6:((n:Nat):Int)+1 - 1=((n:Nat):Int):=by omega
     have hq:=List.getElem?_eq_getElem (l:=out) (i:=n) (by omega);have hgq:∃q,out[n]'(by omega)=q:=⟨_,rfl⟩;obtain⟨q,hqe⟩:=hgq;rw[hqe]at hq;have hlast:out.getLast?=some q:=by rw[List.getLast?_eq_getElem?,hn];exact hq
     have hinv:=(ofFold_inv i m hR (by omega)).1.right;rw[hout]at hinv;have hqr:=setRight_sorted out (-2) hinv n q hq;have hg:=ho6.sl.get hq;obtain⟨g,o',rfl,_,hcq⟩:=hg;have ho0:o'=0:=Vc.Own.at0R ho6;subst ho0;have c2:w6.drew.cell? ⟨g,n*2+1,none⟩=some (.int .i64 q.2):=by have:=hcq 1 _ rfl;simpa using this
     have f0:w6.drew.cell? ⟨wx.heap.size,0,none⟩=some (.int .i64 lo):=e0;have f1:w6.drew.cell? ⟨wx.heap.size,1,none⟩=some (.int .i64 hi'):=e1;have L:∀{ad:Addr} {u:Value},w6.drew.cell? ad=some u→∀w'':World,w''=w6.drew→optK (w''.cell? ad) (fun x=>x=u) .mk:=fun h w'' e=>by rw[e,h];exact rfl
     refine wpL_draw (fun w'=>w'=w6.drew) mixed (by kernel_rfl) rfl ?_;simp -dsimp only[push_cast,Nat.reduceAdd,Nat.reduceLeDiff,Nat.reduceBEq,Int.reduceNe,Int.reduceEq,Int.reduceLT,Int.reduceLE,e6,f0,c2];rw[hn]at ho6;refine⟨fun _=>⟨L f0,⟨by omega,by omega⟩,L c2,⟨by omega,by omega⟩,fun hm=>?_,fun hm=>?_⟩,fun h=>absurd (Int.natCast_nonneg n) h⟩
     ·have hst:ofStep out x=out.set n (q.1,max q.2 hi'):=by
       unfold ofStep;rw[hlo,hhi,if_neg (by omega),hlast];dsimp only;rw[if_pos hm,List.dropLast_eq_take,hn,List.set_eq_take_append_cons_drop,if_pos (by omega),List.drop_eq_nil_of_le (by omega)];rfl
      rw[hst]at est;have L2:∀{ad:Addr} {u:Value},w6.drew.drew.cell? ad=some u→∀w'':World,w''=w6.drew.drew→optK (w''.cell? ad) (fun x=>x=u) .mk:=fun h w'' e=>by rw[e,h];exact rfl
      have c2':w6.drew.drew.cell? ⟨g,n*2+1,none⟩=some (.int .i64 q.2):=c2;have f1':w6.drew.drew.cell? ⟨wx.heap.size,1,none⟩=some (.int .i64 hi'):=f1;have hmx:(if hi'>q.2 then hi' else q.2)=max q.2 hi':=by split <;> omega
      refine wpL_last (fun w'=>w'=w6.drew.drew) mixed (by kernel_rfl) (List.cons_ne_nil _ _) rfl ?_;simp -dsimp only[push_cast,Nat.reduceAdd,Nat.reduceLeDiff,Nat.reduceBEq,Int.reduceNe,Int.reduceEq,Int.reduceLT,Int.reduceLE,c2',f1',hmx];refine⟨⟨by omega,by omega⟩,L2 c2',L2 f1',⟨by omega,by omega⟩,?_⟩;have hod:=ho6.keptX ((Kept.refl (fun _=>False) _).drew.drew) (fun _ _ h=>h)
      refine storeOwnF (i:=n) (f:=1) (y:=(q.1,max q.2 hi')) hod rfl hq (by omega) rfl rfl ?_;intro w8 ho8 hk8 sz8;have k8:Kept (fun j=>j=g) w6 w8:=((Kept.refl (fun j=>j=g) w6).drew.drew).trans hk8 (fun _ _ h=>h);have hgb:=(ho6.block g rfl).1;refine⟨trivial,?_⟩;simp -dsimp only[push_cast,Nat.reduceAdd,Nat.reduceLeDiff,Nat.reduceBEq,Int.reduceNe,Int.reduceEq,Int.reduceLT,Int.reduceLE];rw[←est]at ho8
      exact⟨⟨by omega,by omega⟩,⟨i+1,_,rfl,rfl,by omega,ho8,hb6.trans (k8.below (by omega) (fun j h=>by omega))⟩,by rw[h13];simp only[intOf];omega⟩
     ·have hst:ofStep out x=out++[(lo,hi')]:=by
       unfold ofStep;rw[hlo,hhi,if_neg (by omega),hlast];dsimp only;rw[if_neg hm]
      rw[hst]at est;have d7:cellsAt w6.drew ⟨wx.heap.size,0,none⟩ 0 2=some [.int .i64 lo,.int .i64 hi']:=hX6.drew.cellsAt;simp -dsimp only[push_cast,Nat.reduceAdd,Nat.reduceLeDiff,Nat.reduceBEq,Int.reduceNe,Int.reduceEq,Int.reduceLT,Int.reduceLE,d7];refine rowK elI_41 rfl rfl (by omega) ?_;intro w7 hw7;have sz7:w7.heap.size=w6.heap.size+1:=hw7.size
      have ho7:=(ho6.keptX (Kept.refl (fun _=>False) _).drew (fun _ _ h=>h)).new hw7;simp -dsimp only[push_cast,Nat.reduceAdd,Nat.reduceLeDiff,Nat.reduceBEq,Int.reduceNe,Int.reduceEq,Int.reduceLT,Int.reduceLE]
      refine appendK2 (base:=w2.heap.size) [(lo,hi')] (enc:=encR) elI_41 ho7 (by rfl) (fun j u hu=>by simpa[encR] using hw7.cell hu) encR_one (by simp only[List.length_cons,List.length_nil];omega) (by omega) ?_;intro v8 w8 ho8 hg8 hn8
      have k8:Kept (fun j=>(Value.slice (some ⟨g,0,none⟩) (n+1) oc).ownBlock=some j) w6 w8:=(((Kept.refl _ w6).drew).trans (Kept.new (X:=fun j=>(Value.slice (some ⟨g,0,none⟩) (n+1) oc).ownBlock=some j) hw7) (fun _ _ h=>h)).trans (Kept.grown hg8 (fun _ h=>h)) (fun _ _ h=>h);rw[←est]at ho8
      simp -dsimp only[push_cast,Nat.reduceAdd,Nat.reduceLeDiff,Nat.reduceBEq,Int.reduceNe,Int.reduceEq,Int.reduceLT,Int.reduceLE];exact⟨⟨by omega,by omega⟩,⟨i+1,_,rfl,rfl,by omega,ho8,hb6.trans (k8.below (by omega) (fun g h=>(ho6.block g h).1))⟩,by rw[h13];simp only[intOf];omega⟩
  ·have hin:i=m.length:=by omega
   subst hin;have hsh:=hox.slice;obtain⟨oa,oc,rfl⟩:=hsh;rw[List.take_length,hof]at hox;rw[List.take_length,hof];exact⟨hox.mono (by omega),hb2.trans (hbx.mono (by omega))⟩
theorem not_c (s:List Rg) (hs:s.length<100000000) (hr:setRight (-2) s=true) (X:Nat→Prop) (v:Value) (w:World) (hv:Sl X 2 (En encR) w v s) :
  Fun Tryz.prog 39 [v] w fun r w'=>Vc.Own w.heap.size 46 2 encR w' r (setNot s)∧Below w.heap.size w w':=by
 obtain⟨a,c,rfl,hc⟩:=hv.shape;refine fun_of_vc Tryz.func39 rfl (by kernel_rfl) [2] rfl ?_;simp -dsimp (maxSteps:=4000000) only[push_cast,fr0,Tryz.ntmps39,List.length_cons,List.length_nil,Nat.reduceAdd,Nat.reduceSub,Nat.reduceBEq,List.replicate_succ,List.replicate_zero]
 refine wpL_loop [3,4,6,9,10,11,12,13,14,15,16,17,18,19,20,21,22,23,24,25,26,27,28] (fun z wx=>∃(i:Nat) (f:Int) (out:List Rg) (ov:Value),z 9=.int .i64 i∧z 4=.int .i64 f∧z 3=ov∧i≤s.length∧0≤f∧f≤1114112∧out.length≤i∧out++notGo f (s.drop i)=setNot s∧Vc.Own w.heap.size 46 2 encR wx ov out∧Below w.heap.size w wx) (fun z _=>s.length - (intOf (z 9)).toNat) ?_ ?_
 ·exact⟨0,0,[],_,rfl,rfl,rfl,Nat.zero_le _,by omega,by omega,Nat.le_refl _,rfl,Vc.Own.nil (enc:=encR) _ _ (fun _=>rfl) _,Below.refl _ _⟩
 ·intro z wx hI;obtain⟨i,f,out,ov,h9,h4,h3,hi,hf0,hf1,hol,hout,hox,hbx⟩:=hI;have szx:=hbx.size;simp -dsimp only[push_cast,Nat.reduceAdd,Nat.reduceLeDiff,Nat.reduceBEq,Int.reduceNe,Int.reduceEq,Int.reduceLT,Int.reduceLE,h9,h4,h3];refine⟨fun hlt=>?_,fun hge=>?_⟩
  ·have hg:=lt_get (l:=s) (i:=i) (by omega);obtain⟨x,hx,hxm,hdx,_⟩:=hg;have hb:=setRight_sorted s (-2) hr i x hx;obtain⟨b1,b2,b3,_⟩:=hb;have hg:=(hv.below hbx).get hx;obtain⟨b,o,rfl,hnb,hcell⟩:=hg;have cx:cellsAt wx ⟨b,o+i*2,none⟩ 0 2=some [.int .i64 x.1,.int .i64 x.2]:=cellsAt_of (encR x) 0 (fun j u hu=>by simpa using hcell j u hu);have hsh:=hox.slice;obtain⟨oa,oc,rfl⟩:=hsh;rw[hdx,notGo]at hout
   simp -dsimp only[push_cast,Nat.reduceAdd,Nat.reduceLeDiff,Nat.reduceBEq,Int.reduceNe,Int.reduceEq,Int.reduceLT,Int.reduceLE,cx];refine⟨⟨by omega,by omega⟩,?_⟩;refine allocK (z:=[.int .i64 0,.int .i64 0]) (by kernel_rfl) ?_;intro w3 hw3;have sz3:=hw3.size;simp -dsimp only[push_cast,Nat.reduceAdd,Nat.reduceLeDiff,Nat.reduceBEq,Int.reduceNe,Int.reduceEq,Int.reduceLT,Int.reduceLE]
   refine storeAgg (n:=2) (by kernel_rfl) hw3.blk rfl (by simp) (by simp[Value.oneCell']) ?_;intro w4 hw4;have sz4:w4.heap.size=w3.heap.size:=hw4.size;have c0:w4.cell? ⟨wx.heap.size,0,none⟩=some (.int .i64 x.1):=hw4.blk.cell rfl;have c1:w4.cell? ⟨wx.heap.size,1,none⟩=some (.int .i64 x.2):=hw4.blk.cell rfl;have k4:Kept (fun j=>j=wx.heap.size) wx w4:=(Kept.new hw3).trans hw4.kept (fun _ _ h=>h)
   have ho4:=hox.keptX k4 (fun g hg h=>by have:=hox.block g hg;omega);have hb4:Below w.heap.size w w4:=hbx.trans (k4.below szx (fun _ h=>by omega));simp -dsimp only[push_cast,Nat.reduceAdd,Nat.reduceLeDiff,Nat.reduceBEq,Int.reduceNe,Int.reduceEq,Int.reduceLT,Int.reduceLE,c0,c1];refine⟨fun hlt=>?_,fun hge=>?_⟩
   ·rw[if_pos hlt,←List.append_assoc]at hout;refine⟨⟨by omega,by omega⟩,?_⟩;refine rowK elI_41 rfl rfl (by omega) ?_;intro w7 hw7;have sz7:=hw7.size;have ho7:=ho4.new hw7;simp -dsimp only[push_cast,Nat.reduceAdd,Nat.reduceLeDiff,Nat.reduceBEq,Int.reduceNe,Int.reduceEq,Int.reduceLT,Int.reduceLE]
    refine appendK2 (base:=w.heap.size) [(f,x.1 - 1)] (enc:=encR) elI_41 ho7 (by rfl) (fun j u hu=>by simpa[encR] using hw7.cell hu) encR_one (by simp only[List.length_cons,List.length_nil];omega) (by omega) ?_;intro v8 w8 ho8 hg8 hn8
    have k8:Kept (fun j=>(Value.slice oa out.length oc).ownBlock=some j) w4 w8:=(Kept.new (X:=fun j=>(Value.slice oa out.length oc).ownBlock=some j) hw7).trans (Kept.grown hg8 (fun _ h=>h)) (fun _ _ h=>h);have hb8:Below w.heap.size w w8:=hb4.trans (k8.below (by omega) (fun g h=>(ho4.block g h).1))
    have d1:w8.cell? ⟨wx.heap.size,1,none⟩=some (.int .i64 x.2):=k8.cell c1 (fun h=>by have h2:w.heap.size≤wx.heap.size∧wx.heap.size<wx.heap.size:=hox.block _ h;omega);simp -dsimp only[push_cast,Nat.reduceAdd,Nat.reduceLeDiff,Nat.reduceBEq,Int.reduceNe,Int.reduceEq,Int.reduceLT,Int.reduceLE,d1]
    exact⟨⟨by omega,by omega⟩,⟨by omega,by omega⟩,⟨i+1,x.2+1,out++[(f,x.1 - 1)],_,rfl,rfl,rfl,by omega,by omega,by omega,by rw[List.length_append,List.length_singleton];omega,hout,ho8,hb8⟩,by rw[h9];simp only[intOf];omega⟩
   ·rw[if_neg (by omega),List.nil_append]at hout;exact⟨⟨by omega,by omega⟩,⟨by omega,by omega⟩,⟨i+1,x.2+1,out,_,rfl,rfl,rfl,by omega,by omega,by omega,by omega,hout,ho4,hb4⟩,by rw[h9];simp only[intOf];omega⟩
  ·have hin:i=s.length:=by omega
   subst hin;have hsh:=hox.slice;obtain⟨oa,oc,rfl⟩:=hsh;rw[List.drop_length,notGo]at hout;refine⟨fun hle=>?_,fun hgt=>?_⟩
   ·rw[if_pos hle]at hout;refine rowK elI_41 rfl rfl (by omega) ?_;intro w7 hw7;have sz7:=hw7.size;have ho7:=hox.new hw7;simp -dsimp only[push_cast,Nat.reduceAdd,Nat.reduceLeDiff,Nat.reduceBEq,Int.reduceNe,Int.reduceEq,Int.reduceLT,Int.reduceLE]
    refine appendK2 (base:=w.heap.size) [(f,1114111)] (enc:=encR) elI_41 ho7 (by rfl) (fun j u hu=>by simpa[encR] using hw7.cell hu) encR_one (by simp only[List.length_cons,List.length_nil];omega) (by omega) ?_;intro v8 w8 ho8 hg8 hn8
    have k8:Kept (fun j=>(Value.slice oa out.length oc).ownBlock=some j) wx w8:=(Kept.new (X:=fun j=>(Value.slice oa out.length oc).ownBlock=some j) hw7).trans (Kept.grown hg8 (fun _ h=>h)) (fun _ _ h=>h);rw[hout]at ho8;simp -dsimp only[push_cast,Nat.reduceAdd,Nat.reduceLeDiff,Nat.reduceBEq,Int.reduceNe,Int.reduceEq,Int.reduceLT,Int.reduceLE]
    exact⟨ho8,hbx.trans (k8.below szx (fun g h=>(hox.block g h).1))⟩
   ·rw[if_neg (by omega),List.append_nil]at hout;subst hout;exact⟨hox,hbx⟩
theorem concLen {α β:Type} (L:List α) (f:α→List β) (i:Nat):((L.take i).flatMap f).length≤(L.flatMap f).length:=by
 conv=>rhs;rw[←List.take_append_drop i L,List.flatMap_append,List.length_append]
 omega
theorem concat_c (Ls:List (Value×List Rg)) (hl:(Ls.flatMap (·.2)).length<100000000) (hn:Ls.length<1000000) (X:Nat→Prop) (g c:Nat) (hc:Ls.length≤c) (w:World)
  (hv:∀(i:Nat) (p:Value×List Rg),Ls[i]?=some p→w.cell? ⟨g,i,none⟩=some p.1∧Sl X 2 (En encR) w p.1 p.2∧Arg p.1) :
  Fun Tryz.prog 68 [.slice (some ⟨g,0,none⟩) Ls.length c] w fun r w'=>Vc.Own w.heap.size 46 2 encR w' r (Ls.flatMap (·.2))∧Below w.heap.size w w':=by
 refine fun_of_vc Tryz.func68 rfl (by kernel_rfl) [2] rfl ?_;simp -dsimp (maxSteps:=4000000) only[push_cast,fr0,Tryz.ntmps68,List.length_cons,List.length_nil,Nat.reduceAdd,Nat.reduceSub,Nat.reduceBEq,List.replicate_succ,List.replicate_zero]
 refine wpL_loop [3,5,11,12,13,14,15,16,17,18,19,20,21,22] (fun z wx=>∃(i:Nat),z 11=.int .i64 i∧z 3=.int .i64 (((Ls.take i).flatMap (·.2)).length:Nat)∧i≤Ls.length∧wx=w) (fun z _=>Ls.length - (intOf (z 11)).toNat) ?_ ?_
 ·exact⟨0,rfl,rfl,Nat.zero_le _,rfl⟩
 ·intro z wx hI;obtain⟨i,h11,h3,hi,rfl⟩:=hI;have hcl:=concLen Ls (·.2) i;have hcl1:=concLen Ls (·.2) (i+1);simp -dsimp only[push_cast,Nat.reduceAdd,Nat.reduceLeDiff,Nat.reduceBEq,Int.reduceNe,Int.reduceEq,Int.reduceLT,Int.reduceLE,h11,h3];refine⟨fun hlt=>?_,fun hge=>?_⟩
  ·have hg:=lt_get (l:=Ls) (i:=i) (by omega);obtain⟨p,hp,_,_,ht⟩:=hg;have hvp:=hv i p hp;obtain⟨c0,hs,hA⟩:=hvp;have c0':=c0;have e1:((Ls.take (i+1)).flatMap (·.2)).length=((Ls.take i).flatMap (·.2)).length+p.2.length:=by
    rw[ht,List.flatMap_append,List.length_append];simp
   have hsh:=hs.shape;obtain⟨pa,pc,hpv,hpc⟩:=hsh;rw[hpv]at c0';simp -dsimp only[push_cast,Nat.reduceAdd,Nat.reduceLeDiff,Nat.reduceBEq,Int.reduceNe,Int.reduceEq,Int.reduceLT,Int.reduceLE,c0'];refine⟨⟨by omega,by omega⟩,⟨by omega,by omega⟩,fun h=>absurd h (by omega),fun _=>⟨⟨by omega,by omega⟩,⟨i+1,rfl,by rw[e1,Int.natCast_add],by omega⟩,by rw[h11];simp only[intOf];omega⟩⟩
  ·have hin:i=Ls.length:=by omega
   subst hin;rw[List.take_length];refine callK_of (grow_c _ (by omega) wx) ?_;rintro v1 w1 ⟨ho1,hb1⟩;have sz1:=hb1.size;simp -dsimp only[push_cast,Nat.reduceAdd,Nat.reduceLeDiff,Nat.reduceBEq,Int.reduceNe,Int.reduceEq,Int.reduceLT,Int.reduceLE]
   refine wpL_loop [6,8,27,28,29,30,31,32,33,34] (fun z w2=>∃(i:Nat) (ov:Value),z 27=.int .i64 i∧z 6=ov∧i≤Ls.length∧Vc.Own wx.heap.size 46 2 encR w2 ov ((Ls.take i).flatMap (·.2))∧Below wx.heap.size wx w2) (fun z _=>Ls.length - (intOf (z 27)).toNat) ?_ ?_
   ·exact⟨0,_,rfl,rfl,Nat.zero_le _,ho1,hb1⟩
   ·intro y w2 hJ;obtain⟨i,ov,h27,h6,hi,ho2,hb2⟩:=hJ;have sz2:=hb2.size;have hcl:=concLen Ls (·.2) i;have hcl1:=concLen Ls (·.2) (i+1);simp -dsimp only[push_cast,Nat.reduceAdd,Nat.reduceLeDiff,Nat.reduceBEq,Int.reduceNe,Int.reduceEq,Int.reduceLT,Int.reduceLE,h27,h6];refine⟨fun hlt=>?_,fun hge=>?_⟩
    ·have hg:=lt_get (l:=Ls) (i:=i) (by omega);obtain⟨p,hp,_,_,ht⟩:=hg;have hvp:=hv i p hp;obtain⟨c0,hs,hA⟩:=hvp;have c0':w2.cell? ⟨g,i,none⟩=some p.1:=(hb2.cell (World.block_lt_of_cell? _ _ c0)).trans c0;have hsh:=hs.shape;obtain⟨pa,pc,hpv,hpc⟩:=hsh;rw[hpv]at c0' hs hA;have e1:(Ls.take (i+1)).flatMap (·.2)=(Ls.take i).flatMap (·.2)++p.2:=by
      rw[ht,List.flatMap_append];simp
     have e2:=congrArg List.length e1;rw[List.length_append]at e2;have hsh:=ho2.slice;obtain⟨oa,oc,rfl⟩:=hsh;simp -dsimp only[push_cast,Nat.reduceAdd,Nat.reduceLeDiff,Nat.reduceBEq,Int.reduceNe,Int.reduceEq,Int.reduceLT,Int.reduceLE,c0'];refine⟨⟨by omega,by omega⟩,?_⟩;refine appendAny (base:=wx.heap.size) (enc:=encR) (ys:=p.2) elI_41 ho2 (hs.below hb2) hA encR_one (by omega) (by omega) ?_
     intro v3 w3 ho3 hg3 hb3;rw[←e1]at ho3;simp -dsimp only[push_cast,Nat.reduceAdd,Nat.reduceLeDiff,Nat.reduceBEq,Int.reduceNe,Int.reduceEq,Int.reduceLT,Int.reduceLE];exact⟨⟨by omega,by omega⟩,⟨i+1,_,rfl,rfl,by omega,ho3,hb2.trans hb3⟩,by rw[h27];simp only[intOf];omega⟩
    ·have hin:i=Ls.length:=by omega
     subst hin;rw[List.take_length]at ho2;have hsh:=ho2.slice;obtain⟨oa,oc,rfl⟩:=hsh;exact⟨ho2,hb2⟩
theorem or_c (s t:List Rg) (hs:s.length<10000000) (ht:t.length<10000000) (X:Nat→Prop) (va vb:Value) (w:World) (hva:Sl X 2 (En encR) w va s) (hvb:Sl X 2 (En encR) w vb t) (hA:Arg va) (hB:Arg vb) :
  Fun Tryz.prog 40 [va,vb] w fun r w'=>Vc.Own w.heap.size 46 2 encR w' r (setOr s t)∧Below w.heap.size w w':=by
 have hsh:=hva.shape;obtain⟨a1,c1,e1,_⟩:=hsh;have hsh:=hvb.shape;obtain⟨a2,c2,e2,_⟩:=hsh;refine fun_of_vc Tryz.func40 rfl (by kernel_rfl) [4] rfl ?_;simp -dsimp (maxSteps:=4000000) only[push_cast,fr0,Tryz.ntmps40,List.length_cons,List.length_nil,Nat.reduceAdd,Nat.reduceSub,Nat.reduceBEq,List.replicate_succ,List.replicate_zero];refine rowK elI_67 (by rw[e1,e2];rfl) rfl (by omega) ?_;intro w1 hw1
 have sz1:=hw1.size;have d0:=hw1.cell (j:=0) (u:=va) (by rw[e1,e2];rfl);have d1:=hw1.cell (j:=1) (u:=vb) (by rw[e1,e2];rfl);simp -dsimp only[push_cast,Nat.reduceAdd,Nat.reduceLeDiff,Nat.reduceBEq,Int.reduceNe,Int.reduceEq,Int.reduceLT,Int.reduceLE];refine callK_of (concat_c [(va,s),(vb,t)] (by simp;omega) (by simp) X w.heap.size 2 (by simp) w1 ?_) ?_
 ·intro i p hp;match i,hp with
  | 0,hp=>cases hp;exact⟨d0,hva.below hw1.below,hA⟩
  | 1,hp=>cases hp;exact⟨d1,hvb.below hw1.below,hB⟩
  | n+2,hp=>cases hp
 rintro v2 w2 ⟨ho2,hb2⟩;rw[show [(va,s),(vb,t)].flatMap (·.2)=s++t by simp]at ho2;simp -dsimp only[push_cast,Nat.reduceAdd,Nat.reduceLeDiff,Nat.reduceBEq,Int.reduceNe,Int.reduceEq,Int.reduceLT,Int.reduceLE];refine callK_of (of_c (s++t) (by rw[List.length_append];omega) _ _ w2 ho2.sl ho2.nilArg) ?_;rintro v3 w3 ⟨ho3,hb3⟩
 simp -dsimp only[push_cast,Nat.reduceAdd,Nat.reduceLeDiff,Nat.reduceBEq,Int.reduceNe,Int.reduceEq,Int.reduceLT,Int.reduceLE];have sz2:=hb2.size;exact⟨ho3.mono (by omega),(hw1.below.trans (hb2.mono (by omega))).trans (hb3.mono (by omega))⟩
theorem and_c (s t:List Rg) (hs:s.length<1000000) (ht:t.length<1000000) (hrs:setRight (-2) s=true) (hrt:setRight (-2) t=true) (X:Nat→Prop) (va vb:Value) (w:World) (hva:Sl X 2 (En encR) w va s) (hvb:Sl X 2 (En encR) w vb t) :
  Fun Tryz.prog 41 [va,vb] w fun r w'=>Vc.Own w.heap.size 46 2 encR w' r (setAnd s t)∧Below w.heap.size w w':=by
 have n1:=setNot_len s;have n2:=setNot_len t;have n3:=setOr_len (setNot s) (setNot t);refine fun_of_vc Tryz.func41 rfl (by kernel_rfl) [4] rfl ?_;simp -dsimp (maxSteps:=4000000) only[push_cast,fr0,Tryz.ntmps41,List.length_cons,List.length_nil,Nat.reduceAdd,Nat.reduceSub,Nat.reduceBEq,List.replicate_succ,List.replicate_zero];refine callK_of (not_c s (by omega) hrs X va w hva) ?_
 rintro v1 w1 ⟨ho1,hb1⟩;have sz1:=hb1.size;simp -dsimp only[push_cast,Nat.reduceAdd,Nat.reduceLeDiff,Nat.reduceBEq,Int.reduceNe,Int.reduceEq,Int.reduceLT,Int.reduceLE];refine callK_of (not_c t (by omega) hrt X vb w1 (hvb.below hb1)) ?_;rintro v2 w2 ⟨ho2,hb2⟩;have sz2:=hb2.size
 simp -dsimp only[push_cast,Nat.reduceAdd,Nat.reduceLeDiff,Nat.reduceBEq,Int.reduceNe,Int.reduceEq,Int.reduceLT,Int.reduceLE];refine callK_of (or_c (setNot s) (setNot t) (by omega) (by omega) (fun _=>False) v1 v2 w2 ((ho1.sl.weaken (fun _ h=>h.elim)).below hb2) (ho2.sl.weaken (fun _ h=>h.elim)) ho1.nilArg ho2.nilArg) ?_;rintro v3 w3 ⟨ho3,hb3⟩;have sz3:=hb3.size
 simp -dsimp only[push_cast,Nat.reduceAdd,Nat.reduceLeDiff,Nat.reduceBEq,Int.reduceNe,Int.reduceEq,Int.reduceLT,Int.reduceLE];refine callK_of (not_c (setOr (setNot s) (setNot t)) (by omega) (setOr_right _ _) (fun _=>False) v3 w3 (ho3.sl.weaken (fun _ h=>h.elim))) ?_;rintro v4 w4 ⟨ho4,hb4⟩
 simp -dsimp only[push_cast,Nat.reduceAdd,Nat.reduceLeDiff,Nat.reduceBEq,Int.reduceNe,Int.reduceEq,Int.reduceLT,Int.reduceLE];exact⟨ho4.mono (by omega),((hb1.trans (hb2.mono (by omega))).trans (hb3.mono (by omega))).trans (hb4.mono (by omega))⟩
theorem less_c (s t:List Rg) (hs:s.length<900000) (ht:t.length<900000) (hrs:setRight (-2) s=true) (hrt:setRight (-2) t=true) (X:Nat→Prop) (va vb:Value) (w:World) (hva:Sl X 2 (En encR) w va s) (hvb:Sl X 2 (En encR) w vb t) :
  Fun Tryz.prog 42 [va,vb] w fun r w'=>Vc.Own w.heap.size 46 2 encR w' r (setLess s t)∧Below w.heap.size w w':=by
 have n2:=setNot_len t;refine fun_of_vc Tryz.func42 rfl (by kernel_rfl) [4] rfl ?_;simp -dsimp (maxSteps:=4000000) only[push_cast,fr0,Tryz.ntmps42,List.length_cons,List.length_nil,Nat.reduceAdd,Nat.reduceSub,Nat.reduceBEq,List.replicate_succ,List.replicate_zero];refine callK_of (not_c t (by omega) hrt X vb w hvb) ?_;rintro v2 w2 ⟨ho2,hb2⟩;have sz2:=hb2.size
 simp -dsimp only[push_cast,Nat.reduceAdd,Nat.reduceLeDiff,Nat.reduceBEq,Int.reduceNe,Int.reduceEq,Int.reduceLT,Int.reduceLE];refine callK_of (and_c s (setNot t) (by omega) (by omega) hrs (setNot_right hrt) (fun _=>False) va v2 w2 ((hva.below hb2).weaken (fun _ h=>h.elim)) (ho2.sl.weaken (fun _ h=>h.elim))) ?_;rintro v3 w3 ⟨ho3,hb3⟩
 simp -dsimp only[push_cast,Nat.reduceAdd,Nat.reduceLeDiff,Nat.reduceBEq,Int.reduceNe,Int.reduceEq,Int.reduceLT,Int.reduceLE];exact⟨ho3.mono (by omega),hb2.trans (hb3.mono (by omega))⟩
def NamV (X:Nat→Prop) (w:World) (b:Nat) (nm:NamesP):Prop:=∃kvs:List (List UInt8×Value),MapG (fun l:List UInt8=>str l) w b kvs∧All2 (fun kv x=>kv.1=x.1∧Sl X 2 (En encR) w kv.2 x.2∧Arg kv.2) kvs nm
theorem NamV.below {X:Nat→Prop} {w w':World} {b:Nat} {nm:NamesP} (h:NamV X w b nm) (hb:Below w.heap.size w w'):NamV X w' b nm:=by
 obtain⟨kvs,h2,h3⟩:=h;exact⟨kvs,h2.below hb h2.lt,h3.imp fun a b h=>⟨h.1,h.2.1.below hb,h.2.2⟩⟩
theorem NamV.find {X:Nat→Prop} {w:World} {n:List UInt8}:∀{kvs:List (List UInt8×Value)} {nm:NamesP},All2 (fun kv x=>kv.1=x.1∧Sl X 2 (En encR) w kv.2 x.2∧Arg kv.2) kvs nm →
  (findN n nm=none∧assocG n kvs=none)∨∃s u,findN n nm=some s∧assocG n kvs=some u∧Sl X 2 (En encR) w u s∧Arg u:=by
 intro kvs nm h;induction h with
 | nil=>exact .inl ⟨rfl,rfl⟩
 | @cons kv x l m h1 h2 ih =>
  obtain⟨e,hs,ha⟩:=h1;by_cases hn:x.1=n
  ·exact .inr ⟨x.2,kv.2,by rw[findN,if_pos hn],by rw[assocG,if_pos (by rw[e,hn])],hs,ha⟩
  ·rw[findN,if_neg hn,assocG,if_neg (fun h=>hn (by rw[←e,←h]))];exact ih
def KindRes (X:Nat→Prop) (B:Nat) (nm:NamesP) (k:KindP) (r:Value) (w:World):Prop:=match kindS nm k with
 | .ok s=>∃v,r=.tuple #[v,.nilIface]∧Sl (fun b=>X b∧b<B) 2 (En encR) w v s∧Arg v
 | .error e=>∃b,B≤b∧r=.tuple #[.slice none 0 0,.iface 92 (.pointer (some ⟨b,0,none⟩))]∧Blk w b 94 [.int .i64 7,.int .i64 e]
theorem ckind_c:∀(k:KindP),KindOk k→∀(nm:NamesP),RightN nm→∀(X:Nat→Prop) (v:Value) (b:Nat) (w:World),KindV X w v k→NamV X w b nm →
  Fun Tryz.prog 12 [v,.map (some b)] w fun r w'=>KindRes X w.heap.size nm k r w'∧Below w.heap.size w w':=by
 intro k;induction k with
 | lit pos s =>
  rintro hok nm hr X v mb w ⟨b,sv,rfl,hb,hB,hs,ha⟩ hm;have d0:w.cell? ⟨b,0,none⟩=some (.int .i64 1):=hB.cell rfl;have d2:w.cell? ⟨b,2,none⟩=some sv:=hB.cell rfl;obtain⟨_,_,rfl,_⟩:=hs.shape
  (refine fun_of_vc Tryz.func12 rfl (by kernel_rfl) [4,5] rfl ?_;simp -dsimp (maxSteps:=4000000) only[push_cast,fr0,Tryz.ntmps12,List.length_cons,List.length_nil,Nat.reduceAdd,Nat.reduceSub,Nat.reduceBEq,List.replicate_succ,List.replicate_zero]);simp -dsimp only[push_cast,Nat.reduceAdd,Nat.reduceLeDiff,Nat.reduceBEq,Int.reduceNe,Int.reduceEq,Int.reduceLT,Int.reduceLE,d0,d2]
  exact⟨⟨_,rfl,hs.weaken (fun b hh=>hh.1),ha⟩,Below.refl _ _⟩
 | ref pos n =>
  rintro hok nm hr X v mb w ⟨b,rfl,hb,hB⟩ hm;have d0:w.cell? ⟨b,0,none⟩=some (.int .i64 2):=hB.cell rfl;have d1:w.cell? ⟨b,1,none⟩=some (.int .i64 pos):=hB.cell rfl;have d3:w.cell? ⟨b,3,none⟩=some (str n):=hB.cell rfl;obtain⟨kvs,hM,hA⟩:=hm;have hf:=NamV.find (n:=n) hA
  (refine fun_of_vc Tryz.func12 rfl (by kernel_rfl) [4,5] rfl ?_;simp -dsimp (maxSteps:=4000000) only[push_cast,fr0,Tryz.ntmps12,List.length_cons,List.length_nil,Nat.reduceAdd,Nat.reduceSub,Nat.reduceBEq,List.replicate_succ,List.replicate_zero]);simp -dsimp only[push_cast,Nat.reduceAdd,Nat.reduceLeDiff,Nat.reduceBEq,Int.reduceNe,Int.reduceEq,Int.reduceLT,Int.reduceLE,d0,d1,d3]
  rcases hf with ⟨f1,f2⟩|⟨s,u,f1,f2,hs,ha⟩
  ·refine lookupG_none (kt:=9) (et:=41) (z:=.slice none 0 0) (by kernel_rfl) (keyStr (by kernel_rfl)) (by kernel_rfl) hM rfl f2 ?_;simp -dsimp only[push_cast,Nat.reduceAdd,Nat.reduceLeDiff,Nat.reduceBEq,Int.reduceNe,Int.reduceEq,Int.reduceLT,Int.reduceLE];have d1d:w.drew.cell? ⟨b,1,none⟩=some (.int .i64 pos):=d1
   refine wpL_drawN (fun w'=>w'.cell? ⟨b,1,none⟩=some (.int .i64 pos)) mixed (by kernel_rfl) d1 ?_;simp -dsimp only[push_cast,Nat.reduceAdd,Nat.reduceLeDiff,Nat.reduceBEq,Int.reduceNe,Int.reduceEq,Int.reduceLT,Int.reduceLE,d1d];refine⟨fun w'' h=>by rw[h];exact rfl,?_⟩;refine boxK_of ?_;intro w2 hw2;have hw2:New w.drew w2 94 [.int .i64 7,.int .i64 pos]:=hw2;have hlt:=hB.lt
   have hb2:Below w.heap.size w w2:=((Kept.refl (fun _=>False) w).drew.below (Nat.le_refl _) (fun _ h=>h.elim)).trans hw2.below;refine⟨(hb2.cell (by show b<_;omega)).trans d1,?_⟩;simp -dsimp only[push_cast,Nat.reduceAdd,Nat.reduceLeDiff,Nat.reduceBEq,Int.reduceNe,Int.reduceEq,Int.reduceLT,Int.reduceLE];refine⟨?_,hb2⟩;unfold KindRes;rw[show kindS nm (.ref pos n)=.error pos from by rw[kindS,f1]]
   exact⟨w.heap.size,Nat.le_refl _,rfl,hw2.blk⟩
  ·refine lookupG_some (kt:=9) (et:=41) (z:=.slice none 0 0) (by kernel_rfl) (keyStr (by kernel_rfl)) (by kernel_rfl) hM rfl f2 ?_;obtain⟨_,_,rfl,_⟩:=hs.shape;simp -dsimp only[push_cast,Nat.reduceAdd,Nat.reduceLeDiff,Nat.reduceBEq,Int.reduceNe,Int.reduceEq,Int.reduceLT,Int.reduceLE];refine⟨?_,Below.refl _ _⟩;unfold KindRes;rw[show kindS nm (.ref pos n)=.ok s from by rw[kindS,f1]]
   exact⟨_,rfl,hs.weaken (fun b hh=>hh.1),ha⟩
 | not pos k ih =>
  rintro hok nm hr X v mb w ⟨b,u,rfl,hb,hB,h1⟩ hm;obtain⟨b1,rfl,hb1⟩:=h1.ptr;have d0:w.cell? ⟨b,0,none⟩=some (.int .i64 6):=hB.cell rfl;have d4:w.cell? ⟨b,4,none⟩=some (.pointer (some ⟨b1,0,none⟩)):=hB.cell rfl
  (refine fun_of_vc Tryz.func12 rfl (by kernel_rfl) [4,5] rfl ?_;simp -dsimp (maxSteps:=4000000) only[push_cast,fr0,Tryz.ntmps12,List.length_cons,List.length_nil,Nat.reduceAdd,Nat.reduceSub,Nat.reduceBEq,List.replicate_succ,List.replicate_zero]);simp -dsimp only[push_cast,Nat.reduceAdd,Nat.reduceLeDiff,Nat.reduceBEq,Int.reduceNe,Int.reduceEq,Int.reduceLT,Int.reduceLE,d0,d4]
  refine callK_of (ih hok nm hr X _ mb w h1 hm) ?_;rintro r w1 ⟨hR,hb1'⟩;have z1:=hb1'.size;have hB1:=hB.below hb1' hB.lt;have e0:w1.cell? ⟨b,0,none⟩=some (.int .i64 6):=hB1.cell rfl;unfold KindRes at hR;cases hk:kindS nm k with
  | ok s =>
   rw[hk]at hR;obtain⟨v1,rfl,hs1,ha1⟩:=hR;have hrs:=kindS_right (k:=k) hr hok hk;have hle:=right_len hrs;simp -dsimp only[push_cast,Nat.reduceAdd,Nat.reduceLeDiff,Nat.reduceBEq,Int.reduceNe,Int.reduceEq,Int.reduceLT,Int.reduceLE,e0];refine callK_of (not_c s (by omega) hrs _ _ w1 hs1) ?_;rintro v2 w2 ⟨ho2,hb2⟩;have hbw:=hb1'.trans (hb2.mono z1);have ha2:Arg v2:=ho2.nilArg;obtain⟨_,_,rfl⟩:=ho2.slice
   simp -dsimp only[push_cast,Nat.reduceAdd,Nat.reduceLeDiff,Nat.reduceBEq,Int.reduceNe,Int.reduceEq,Int.reduceLT,Int.reduceLE];refine⟨?_,hbw⟩;unfold KindRes;rw[show kindS nm (.not pos k)=.ok (setNot s) from by rw[kindS,hk]];exact⟨_,rfl,ho2.sl.weaken (fun b hh=>by have:=hh.2;omega),ha2⟩
  | error e =>
   rw[hk]at hR;obtain⟨eb,heb,rfl,hE⟩:=hR;simp -dsimp only[push_cast,Nat.reduceAdd,Nat.reduceLeDiff,Nat.reduceBEq,Int.reduceNe,Int.reduceEq,Int.reduceLT,Int.reduceLE];refine⟨?_,hb1'⟩;unfold KindRes;rw[show kindS nm (.not pos k)=.error e from by rw[kindS,hk]];exact⟨eb,heb,rfl,hE⟩
 | bin c pos k r ih ih' =>
  rintro hok nm hr X v mb w ⟨b,u,x,rfl,hb,hB,h1,h2⟩ hm;obtain⟨b1,rfl,hb1⟩:=h1.ptr;obtain⟨b2,rfl,hb2⟩:=h2.ptr;obtain⟨hok1,hok2,hc⟩:=hok;have d4:w.cell? ⟨b,4,none⟩=some (.pointer (some ⟨b1,0,none⟩)):=hB.cell rfl;rcases hc with rfl|rfl|rfl
  case inl =>
   have d0:w.cell? ⟨b,0,none⟩=some (.int .i64 3):=hB.cell rfl;(refine fun_of_vc Tryz.func12 rfl (by kernel_rfl) [4,5] rfl ?_;simp -dsimp (maxSteps:=4000000) only[push_cast,fr0,Tryz.ntmps12,List.length_cons,List.length_nil,Nat.reduceAdd,Nat.reduceSub,Nat.reduceBEq,List.replicate_succ,List.replicate_zero])
   simp -dsimp only[push_cast,Nat.reduceAdd,Nat.reduceLeDiff,Nat.reduceBEq,Int.reduceNe,Int.reduceEq,Int.reduceLT,Int.reduceLE,d0,d4];refine callK_of (ih hok1 nm hr X _ mb w h1 hm) ?_;rintro r1 w1 ⟨hR,hb1'⟩;have z1:=hb1'.size;have hB1:=hB.below hb1' hB.lt;have e0:w1.cell? ⟨b,0,none⟩=some (.int .i64 3):=hB1.cell rfl;have e5:w1.cell? ⟨b,5,none⟩=some (.pointer (some ⟨b2,0,none⟩)):=hB1.cell rfl
   unfold KindRes at hR;cases hk:kindS nm k with
   | error e =>
    rw[hk]at hR;obtain⟨eb,heb,rfl,hE⟩:=hR;simp -dsimp only[push_cast,Nat.reduceAdd,Nat.reduceLeDiff,Nat.reduceBEq,Int.reduceNe,Int.reduceEq,Int.reduceLT,Int.reduceLE];refine⟨?_,hb1'⟩;unfold KindRes;rw[show kindS nm (.bin 3 pos k r)=.error e from by rw[kindS,hk]];exact⟨eb,heb,rfl,hE⟩
   | ok s =>
    rw[hk]at hR;obtain⟨v1,rfl,hs1,ha1⟩:=hR;have hrs:=kindS_right hr hok1 hk;have hls:=right_len hrs;obtain⟨_,_,rfl,_⟩:=hs1.shape;simp -dsimp only[push_cast,Nat.reduceAdd,Nat.reduceLeDiff,Nat.reduceBEq,Int.reduceNe,Int.reduceEq,Int.reduceLT,Int.reduceLE,e0,e5];refine callK_of (ih' hok2 nm hr X _ mb w1 (h2.below hb1') (hm.below hb1')) ?_;rintro r2 w2 ⟨hR2,hb2'⟩;have z2:=hb2'.size
    have hbw2:=hb1'.trans (hb2'.mono z1);have hB2:=hB1.below hb2' hB1.lt;have f0:w2.cell? ⟨b,0,none⟩=some (.int .i64 3):=hB2.cell rfl;unfold KindRes at hR2;cases hk2:kindS nm r with
    | error e =>
     rw[hk2]at hR2;obtain⟨eb,heb,rfl,hE⟩:=hR2;simp -dsimp only[push_cast,Nat.reduceAdd,Nat.reduceLeDiff,Nat.reduceBEq,Int.reduceNe,Int.reduceEq,Int.reduceLT,Int.reduceLE];refine⟨?_,hbw2⟩;unfold KindRes;rw[show kindS nm (.bin 3 pos k r)=.error e from by rw[kindS,hk];dsimp only;rw[hk2]];exact⟨eb,by omega,rfl,hE⟩
    | ok t =>
     rw[hk2]at hR2;obtain⟨v2,rfl,hs2,ha2⟩:=hR2;have hrt:=kindS_right hr hok2 hk2;have hlt:=right_len hrt;obtain⟨_,_,rfl,_⟩:=hs2.shape;simp -dsimp only[push_cast,Nat.reduceAdd,Nat.reduceLeDiff,Nat.reduceBEq,Int.reduceNe,Int.reduceEq,Int.reduceLT,Int.reduceLE,f0]
     refine callK_of (or_c s t (by omega) (by omega) (fun _=>False) _ _ w2 ((hs1.below hb2').weaken (fun _ h=>h.elim)) (hs2.weaken (fun _ h=>h.elim)) ha1 ha2) ?_;rintro v3 w3 ⟨ho3,hb3⟩;have hbw3:=hbw2.trans (hb3.mono (by omega));have ha3:Arg v3:=ho3.nilArg;obtain⟨_,_,rfl⟩:=ho3.slice
     simp -dsimp only[push_cast,Nat.reduceAdd,Nat.reduceLeDiff,Nat.reduceBEq,Int.reduceNe,Int.reduceEq,Int.reduceLT,Int.reduceLE];refine⟨?_,hbw3⟩;unfold KindRes;rw[show kindS nm (.bin 3 pos k r)=.ok (setOr s t) from by rw[kindS,hk];dsimp only;rw[hk2];rfl];exact⟨_,rfl,ho3.sl.weaken (fun b hh=>by have:=hh.2;omega),ha3⟩
  case inr.inl =>
   have d0:w.cell? ⟨b,0,none⟩=some (.int .i64 4):=hB.cell rfl;(refine fun_of_vc Tryz.func12 rfl (by kernel_rfl) [4,5] rfl ?_;simp -dsimp (maxSteps:=4000000) only[push_cast,fr0,Tryz.ntmps12,List.length_cons,List.length_nil,Nat.reduceAdd,Nat.reduceSub,Nat.reduceBEq,List.replicate_succ,List.replicate_zero])
   simp -dsimp only[push_cast,Nat.reduceAdd,Nat.reduceLeDiff,Nat.reduceBEq,Int.reduceNe,Int.reduceEq,Int.reduceLT,Int.reduceLE,d0,d4];refine callK_of (ih hok1 nm hr X _ mb w h1 hm) ?_;rintro r1 w1 ⟨hR,hb1'⟩;have z1:=hb1'.size;have hB1:=hB.below hb1' hB.lt;have e0:w1.cell? ⟨b,0,none⟩=some (.int .i64 4):=hB1.cell rfl;have e5:w1.cell? ⟨b,5,none⟩=some (.pointer (some ⟨b2,0,none⟩)):=hB1.cell rfl
   unfold KindRes at hR;cases hk:kindS nm k with
   | error e =>
    rw[hk]at hR;obtain⟨eb,heb,rfl,hE⟩:=hR;simp -dsimp only[push_cast,Nat.reduceAdd,Nat.reduceLeDiff,Nat.reduceBEq,Int.reduceNe,Int.reduceEq,Int.reduceLT,Int.reduceLE];refine⟨?_,hb1'⟩;unfold KindRes;rw[show kindS nm (.bin 4 pos k r)=.error e from by rw[kindS,hk]];exact⟨eb,heb,rfl,hE⟩
   | ok s =>
    rw[hk]at hR;obtain⟨v1,rfl,hs1,ha1⟩:=hR;have hrs:=kindS_right hr hok1 hk;have hls:=right_len hrs;obtain⟨_,_,rfl,_⟩:=hs1.shape;simp -dsimp only[push_cast,Nat.reduceAdd,Nat.reduceLeDiff,Nat.reduceBEq,Int.reduceNe,Int.reduceEq,Int.reduceLT,Int.reduceLE,e0,e5];refine callK_of (ih' hok2 nm hr X _ mb w1 (h2.below hb1') (hm.below hb1')) ?_;rintro r2 w2 ⟨hR2,hb2'⟩;have z2:=hb2'.size
    have hbw2:=hb1'.trans (hb2'.mono z1);have hB2:=hB1.below hb2' hB1.lt;have f0:w2.cell? ⟨b,0,none⟩=some (.int .i64 4):=hB2.cell rfl;unfold KindRes at hR2;cases hk2:kindS nm r with
    | error e =>
     rw[hk2]at hR2;obtain⟨eb,heb,rfl,hE⟩:=hR2;simp -dsimp only[push_cast,Nat.reduceAdd,Nat.reduceLeDiff,Nat.reduceBEq,Int.reduceNe,Int.reduceEq,Int.reduceLT,Int.reduceLE];refine⟨?_,hbw2⟩;unfold KindRes;rw[show kindS nm (.bin 4 pos k r)=.error e from by rw[kindS,hk];dsimp only;rw[hk2]];exact⟨eb,by omega,rfl,hE⟩
    | ok t =>
     rw[hk2]at hR2;obtain⟨v2,rfl,hs2,ha2⟩:=hR2;have hrt:=kindS_right hr hok2 hk2;have hlt:=right_len hrt;obtain⟨_,_,rfl,_⟩:=hs2.shape;simp -dsimp only[push_cast,Nat.reduceAdd,Nat.reduceLeDiff,Nat.reduceBEq,Int.reduceNe,Int.reduceEq,Int.reduceLT,Int.reduceLE,f0]
     refine callK_of (and_c s t (by omega) (by omega) hrs hrt (fun _=>False) _ _ w2 ((hs1.below hb2').weaken (fun _ h=>h.elim)) (hs2.weaken (fun _ h=>h.elim))) ?_;rintro v3 w3 ⟨ho3,hb3⟩;have hbw3:=hbw2.trans (hb3.mono (by omega));have ha3:Arg v3:=ho3.nilArg;obtain⟨_,_,rfl⟩:=ho3.slice
     simp -dsimp only[push_cast,Nat.reduceAdd,Nat.reduceLeDiff,Nat.reduceBEq,Int.reduceNe,Int.reduceEq,Int.reduceLT,Int.reduceLE];refine⟨?_,hbw3⟩;unfold KindRes;rw[show kindS nm (.bin 4 pos k r)=.ok (setAnd s t) from by rw[kindS,hk];dsimp only;rw[hk2];rfl];exact⟨_,rfl,ho3.sl.weaken (fun b hh=>by have:=hh.2;omega),ha3⟩
  case inr.inr =>
   have d0:w.cell? ⟨b,0,none⟩=some (.int .i64 5):=hB.cell rfl;(refine fun_of_vc Tryz.func12 rfl (by kernel_rfl) [4,5] rfl ?_;simp -dsimp (maxSteps:=4000000) only[push_cast,fr0,Tryz.ntmps12,List.length_cons,List.length_nil,Nat.reduceAdd,Nat.reduceSub,Nat.reduceBEq,List.replicate_succ,List.replicate_zero])
   simp -dsimp only[push_cast,Nat.reduceAdd,Nat.reduceLeDiff,Nat.reduceBEq,Int.reduceNe,Int.reduceEq,Int.reduceLT,Int.reduceLE,d0,d4];refine callK_of (ih hok1 nm hr X _ mb w h1 hm) ?_;rintro r1 w1 ⟨hR,hb1'⟩;have z1:=hb1'.size;have hB1:=hB.below hb1' hB.lt;have e0:w1.cell? ⟨b,0,none⟩=some (.int .i64 5):=hB1.cell rfl;have e5:w1.cell? ⟨b,5,none⟩=some (.pointer (some ⟨b2,0,none⟩)):=hB1.cell rfl
   unfold KindRes at hR;cases hk:kindS nm k with
   | error e =>
    rw[hk]at hR;obtain⟨eb,heb,rfl,hE⟩:=hR;simp -dsimp only[push_cast,Nat.reduceAdd,Nat.reduceLeDiff,Nat.reduceBEq,Int.reduceNe,Int.reduceEq,Int.reduceLT,Int.reduceLE];refine⟨?_,hb1'⟩;unfold KindRes;rw[show kindS nm (.bin 5 pos k r)=.error e from by rw[kindS,hk]];exact⟨eb,heb,rfl,hE⟩
   | ok s =>
    rw[hk]at hR;obtain⟨v1,rfl,hs1,ha1⟩:=hR;have hrs:=kindS_right hr hok1 hk;have hls:=right_len hrs;obtain⟨_,_,rfl,_⟩:=hs1.shape;simp -dsimp only[push_cast,Nat.reduceAdd,Nat.reduceLeDiff,Nat.reduceBEq,Int.reduceNe,Int.reduceEq,Int.reduceLT,Int.reduceLE,e0,e5];refine callK_of (ih' hok2 nm hr X _ mb w1 (h2.below hb1') (hm.below hb1')) ?_;rintro r2 w2 ⟨hR2,hb2'⟩;have z2:=hb2'.size
    have hbw2:=hb1'.trans (hb2'.mono z1);have hB2:=hB1.below hb2' hB1.lt;have f0:w2.cell? ⟨b,0,none⟩=some (.int .i64 5):=hB2.cell rfl;unfold KindRes at hR2;cases hk2:kindS nm r with
    | error e =>
     rw[hk2]at hR2;obtain⟨eb,heb,rfl,hE⟩:=hR2;simp -dsimp only[push_cast,Nat.reduceAdd,Nat.reduceLeDiff,Nat.reduceBEq,Int.reduceNe,Int.reduceEq,Int.reduceLT,Int.reduceLE];refine⟨?_,hbw2⟩;unfold KindRes;rw[show kindS nm (.bin 5 pos k r)=.error e from by rw[kindS,hk];dsimp only;rw[hk2]];exact⟨eb,by omega,rfl,hE⟩
    | ok t =>
     rw[hk2]at hR2;obtain⟨v2,rfl,hs2,ha2⟩:=hR2;have hrt:=kindS_right hr hok2 hk2;have hlt:=right_len hrt;obtain⟨_,_,rfl,_⟩:=hs2.shape;simp -dsimp only[push_cast,Nat.reduceAdd,Nat.reduceLeDiff,Nat.reduceBEq,Int.reduceNe,Int.reduceEq,Int.reduceLT,Int.reduceLE,f0]
     refine callK_of (less_c s t (by omega) (by omega) hrs hrt (fun _=>False) _ _ w2 ((hs1.below hb2').weaken (fun _ h=>h.elim)) (hs2.weaken (fun _ h=>h.elim))) ?_;rintro v3 w3 ⟨ho3,hb3⟩;have hbw3:=hbw2.trans (hb3.mono (by omega));have ha3:Arg v3:=ho3.nilArg;obtain⟨_,_,rfl⟩:=ho3.slice
     simp -dsimp only[push_cast,Nat.reduceAdd,Nat.reduceLeDiff,Nat.reduceBEq,Int.reduceNe,Int.reduceEq,Int.reduceLT,Int.reduceLE];refine⟨?_,hbw3⟩;unfold KindRes;rw[show kindS nm (.bin 5 pos k r)=.ok (setLess s t) from by rw[kindS,hk];dsimp only;rw[hk2];rfl];exact⟨_,rfl,ho3.sl.weaken (fun b hh=>by have:=hh.2;omega),ha3⟩
end Go.Proofs.YtledlfbbebodgaaGreatDoor
end
section
namespace Cae
mutual
def wd:PatP→Nat
 | .one _=>0
 | .any=>0
 | .edge=>0
 | .cat l=>Nat.max l.length (wds l)
 | .alt l=>Nat.max l.length (wds l)
 | .many x _ _=>wd x
def wds:List PatP→Nat
 | []=>0
 | x :: l=>Nat.max (wd x) (wds l)
end
theorem wds_mem:∀{l:List PatP} {x:PatP},x∈l→wd x≤wds l
 | y :: l,x,h=>by
  rw[wds];rcases List.mem_cons.1 h with rfl|h
  ·exact Nat.le_max_left _ _
  ·exact Nat.le_trans (wds_mem h) (Nat.le_max_right _ _)
theorem wds_le {n:Nat}:∀{l:List PatP},(∀x∈l,wd x≤n)→wds l≤n
 | [],_=>Nat.zero_le _
 | y :: l,h=>by
  rw[wds];exact Nat.max_le.2 ⟨h y (List.mem_cons_self ..),wds_le fun x hx=>h x (List.mem_cons_of_mem _ hx)⟩
theorem wd_in_cat {l:List PatP}:wds l≤wd (.cat l)∧l.length≤wd (.cat l)∧∀x∈l,wd x≤wd (.cat l):=by
 rw[wd];exact⟨Nat.le_max_right _ _,Nat.le_max_left _ _,fun x hx=>Nat.le_trans (wds_mem hx) (Nat.le_max_right _ _)⟩
theorem wd_in_alt {l:List PatP}:wds l≤wd (.alt l)∧l.length≤wd (.alt l)∧∀x∈l,wd x≤wd (.alt l):=by
 rw[wd];exact⟨Nat.le_max_right _ _,Nat.le_max_left _ _,fun x hx=>Nat.le_trans (wds_mem hx) (Nat.le_max_right _ _)⟩
theorem wd_in_many {x:PatP} {lo hi:Int}:wd x≤wd (.many x lo hi):=by rw[wd];exact Nat.le_refl _
mutual
theorem wd_pn:∀x:PatP,wd x≤pn x
 | .one k=>Nat.zero_le _
 | .any=>Nat.zero_le _
 | .edge=>Nat.zero_le _
 | .cat l=>by
  rw[wd];exact Nat.max_le.2 ⟨pn_in_cat.2.1,wds_le fun x hx=>Nat.le_trans (wds_pn l x hx) (pn_in_cat.2.2 x hx)⟩
 | .alt l=>by
  rw[wd];exact Nat.max_le.2 ⟨pn_in_alt.2.1,wds_le fun x hx=>Nat.le_trans (wds_pn l x hx) (pn_in_alt.2.2 x hx)⟩
 | .many x lo hi=>by
  rw[wd];exact Nat.le_trans (wd_pn x) pn_in_many
theorem wds_pn:∀(l:List PatP) (x:PatP),x∈l→wd x≤pn x
 | [],x,h=>by cases h
 | y :: l,x,h=>by
  rcases List.mem_cons.1 h with h|h
  ·rw[h];exact wd_pn y
  ·exact wds_pn l x h
end
end Cae
end
section
namespace Go.Proofs.YtledlfbbebodgaaGreatDoor
open Go.Vc Go.Proofs Go.RowKit Cae
attribute [local irreducible] wpL callK valK unitK runK Fun Sl Vc.Own vc vcOps opK pureK
def ErrAt (B:Nat) (o:Option (Int×Nat)) (r:Value) (w:World):Prop:=match o with
 | none=>r=.nilIface
 | some (c,e)=>∃b,B≤b∧r=.iface 92 (.pointer (some ⟨b,0,none⟩))∧Blk w b 94 [.int .i64 c,.int .i64 e]
theorem ErrAt.mono {B B':Nat} {o:Option (Int×Nat)} {r:Value} {w:World} (h:ErrAt B o r w) (hb:B'≤B):ErrAt B' o r w:=by
 unfold ErrAt at h ⊢;cases o with
 | none=>exact h
 | some p=>obtain⟨b,h1,h2,h3⟩:=h;exact⟨b,by omega,h2,h3⟩
def PatE (nm:NamesP) (x:PatP):Option (Int×Nat):=(patS nm x).map fun e=>((7:Int),e)
def ChkC (x:PatP):Prop:=PatOk x→wd x≤100000000→∀(nm:NamesP),RightN nm→∀(X:Nat→Prop) (v:Value) (b:Nat) (w:World),PatV X w v x→NamV X w b nm →
 Fun Tryz.prog 59 [v,.map (some b)] w fun r w'=>ErrAt w.heap.size (PatE nm x) r w'∧Below w.heap.size w w'
theorem chk_one (k:KindP):ChkC (.one k):=by
 intro hok hpn nm hr X v mb w hV hm;simp only[PatV]at hV;obtain⟨b,u,rfl,hb,hB,h1⟩:=hV;obtain⟨b1,rfl,hb1⟩:=h1.ptr;have d0:w.cell? ⟨b,0,none⟩=some (.int .i64 1):=hB.cell rfl;have d1:w.cell? ⟨b,1,none⟩=some (.pointer (some ⟨b1,0,none⟩)):=hB.cell rfl;simp only[PatOk]at hok;refine fun_of_vc Tryz.func59 rfl (by kernel_rfl) [4] rfl ?_
 simp -dsimp (maxSteps:=4000000) only[push_cast,fr0,Tryz.ntmps59,List.length_cons,List.length_nil,Nat.reduceAdd,Nat.reduceSub,Nat.reduceBEq,List.replicate_succ,List.replicate_zero];simp -dsimp only[push_cast,Nat.reduceAdd,Nat.reduceLeDiff,Nat.reduceBEq,Int.reduceNe,Int.reduceEq,Int.reduceLT,Int.reduceLE,d0,d1];refine callK_of (ckind_c k hok nm hr X _ mb w h1 hm) ?_;rintro r w1 ⟨hR,hb1'⟩
 unfold KindRes at hR;cases hk:kindS nm k with
 | ok s =>
  rw[hk]at hR;obtain⟨v1,rfl,hs1,ha1⟩:=hR;simp -dsimp only[push_cast,Nat.reduceAdd,Nat.reduceLeDiff,Nat.reduceBEq,Int.reduceNe,Int.reduceEq,Int.reduceLT,Int.reduceLE];refine⟨?_,hb1'⟩;unfold PatE;rw[patS,hk];rfl
 | error e =>
  rw[hk]at hR;obtain⟨eb,heb,rfl,hE⟩:=hR;simp -dsimp only[push_cast,Nat.reduceAdd,Nat.reduceLeDiff,Nat.reduceBEq,Int.reduceNe,Int.reduceEq,Int.reduceLT,Int.reduceLE];refine⟨?_,hb1'⟩;unfold PatE;rw[patS,hk];exact⟨eb,heb,rfl,hE⟩
theorem patsS_app {nm:NamesP}:∀(a b:List PatP),patsS nm (a++b)=match patsS nm a with
  | some e=>some e
  | none=>patsS nm b
 | [],b=>by simp only[List.nil_append,patsS]
 | x :: a,b=>by
  simp only[List.cons_append,patsS];cases patS nm x with
  | some e=>rfl
  | none=>exact patsS_app a b
theorem chk_parts (code lo hi:Int) (hc:code≠1) (l:List PatP) (hl:∀x∈l,ChkC x) (hok:∀x∈l,PatOk x∧wd x≤100000000) (hlen:l.length≤100000000) (nm:NamesP) (hr:RightN nm) (X:Nat→Prop) (b mb:Nat) (pv sv:Value) (vs:List Nat) (w:World)
  (hB:Blk w b 39 [.int .i64 code,pv,sv,.int .i64 lo,.int .i64 hi]) (hs:Sl X 1 (En encP) w sv vs) (hV:PatsV X w vs l) (hm:NamV X w mb nm) :
  Fun Tryz.prog 59 [.pointer (some ⟨b,0,none⟩),.map (some mb)] w fun r w'=>ErrAt w.heap.size ((patsS nm l).map fun e=>((7:Int),e)) r w'∧Below w.heap.size w w':=by
 have hvl:=hV.len;obtain⟨sa,sc,rfl,hsc⟩:=hs.shape;have d0:w.cell? ⟨b,0,none⟩=some (.int .i64 code):=hB.cell rfl;have d2:w.cell? ⟨b,2,none⟩=some (.slice sa vs.length sc):=hB.cell rfl;refine fun_of_vc Tryz.func59 rfl (by kernel_rfl) [4] rfl ?_
 simp -dsimp (maxSteps:=4000000) only[push_cast,fr0,Tryz.ntmps59,List.length_cons,List.length_nil,Nat.reduceAdd,Nat.reduceSub,Nat.reduceBEq,List.replicate_succ,List.replicate_zero];simp -dsimp only[push_cast,Nat.reduceAdd,Nat.reduceLeDiff,Nat.reduceBEq,Int.reduceNe,Int.reduceEq,Int.reduceLT,Int.reduceLE,d0,d2];refine⟨fun h=>absurd h hc,fun _=>?_⟩
 refine wpL_loop [4,8,9,30,31,32,33,34,35,36,37,38,39,40] (fun z wx=>∃(i:Nat),z 30=.int .i64 i∧i≤l.length∧patsS nm (l.take i)=none∧Below w.heap.size w wx) (fun z _=>l.length - (intOf (z 30)).toNat) ?_ ?_
 ·exact⟨0,rfl,Nat.zero_le _,by simp[patsS],Below.refl _ _⟩
 ·intro z wx hI;obtain⟨i,h30,hi,hno,hbx⟩:=hI;have zx:=hbx.size;simp -dsimp only[push_cast,Nat.reduceAdd,Nat.reduceLeDiff,Nat.reduceBEq,Int.reduceNe,Int.reduceEq,Int.reduceLT,Int.reduceLE,h30];refine⟨fun hlt=>?_,fun hge=>?_⟩
  ·obtain⟨x,hx,hxm,_,ht⟩:=lt_get (l:=l) (i:=i) (by omega);obtain⟨u,hu,hVx⟩:=PatsV.nth hV hx;obtain⟨b1,o,rfl,hnb,hcell⟩:=(hs.below hbx).get hu;have c0:wx.cell? ⟨b1,o+i,none⟩=some (.pointer (some ⟨u,0,none⟩)):=by simpa[encP,ptrP] using hcell 0 _ rfl
   simp -dsimp only[push_cast,Nat.reduceAdd,Nat.reduceLeDiff,Nat.reduceBEq,Int.reduceNe,Int.reduceEq,Int.reduceLT,Int.reduceLE,c0,Nat.mul_one];refine⟨⟨by omega,by omega⟩,?_⟩;refine callK_of (hl x hxm (hok x hxm).1 (hok x hxm).2 nm hr X _ mb wx (PatV.below hVx hbx) (hm.below hbx)) ?_;rintro r wy ⟨hE,hby⟩;have hbwy:=hbx.trans (hby.mono zx);unfold PatE at hE;cases hp:patS nm x with
   | none =>
    rw[hp]at hE;have hE:r=.nilIface:=hE;subst hE;simp -dsimp only[push_cast,Nat.reduceAdd,Nat.reduceLeDiff,Nat.reduceBEq,Int.reduceNe,Int.reduceEq,Int.reduceLT,Int.reduceLE];refine⟨⟨by omega,by omega⟩,⟨i+1,rfl,by omega,?_,hbwy⟩,by rw[h30];simp only[intOf];omega⟩;rw[ht,patsS_app,hno];simp only[patsS,hp]
   | some e =>
    rw[hp]at hE;obtain⟨eb,heb,rfl,hEB⟩:=hE;simp -dsimp only[push_cast,Nat.reduceAdd,Nat.reduceLeDiff,Nat.reduceBEq,Int.reduceNe,Int.reduceEq,Int.reduceLT,Int.reduceLE];refine⟨?_,hbwy⟩;have hall:patsS nm l=some e:=by
     have hsp:l=l.take (i+1)++l.drop (i+1):=(List.take_append_drop _ _).symm;rw[hsp,patsS_app,ht,patsS_app,hno];simp only[patsS,hp]
    rw[hall];exact⟨eb,by omega,rfl,hEB⟩
  ·rw[List.take_of_length_le (by omega)]at hno;refine⟨?_,hbx⟩;rw[hno];rfl
theorem chk_any:ChkC .any:=by
 intro hok hpn nm hr X v mb w hV hm;simp only[PatV]at hV;obtain⟨b,rfl,hb,hB⟩:=hV;exact(chk_parts 2 0 0 (by decide) [] (fun x h=>by cases h) (fun x h=>by cases h) (by simp) nm hr X b mb _ _ [] w hB (Sl.nil _ _ _ _ _ _) (by simp only[PatsV]) hm).mono fun r w' ⟨h1,h2⟩=>⟨by simpa[PatE,patS,patsS] using h1,h2⟩
theorem chk_edge:ChkC .edge:=by
 intro hok hpn nm hr X v mb w hV hm;simp only[PatV]at hV;obtain⟨b,rfl,hb,hB⟩:=hV;exact(chk_parts 3 0 0 (by decide) [] (fun x h=>by cases h) (fun x h=>by cases h) (by simp) nm hr X b mb _ _ [] w hB (Sl.nil _ _ _ _ _ _) (by simp only[PatsV]) hm).mono fun r w' ⟨h1,h2⟩=>⟨by simpa[PatE,patS,patsS] using h1,h2⟩
theorem chk_cat (l:List PatP) (hl:∀x∈l,ChkC x):ChkC (.cat l):=by
 intro hok hpn nm hr X v mb w hV hm;simp only[PatV]at hV;obtain⟨b,sv,vs,rfl,hb,hB,hs,hV⟩:=hV;have hpc:=wd_in_cat (l:=l);simp only[PatOk]at hok;exact(chk_parts 4 0 0 (by decide) l hl (fun x h=>⟨patsOk_mem hok h,by have:=hpc.2.2 x h;omega⟩) (by have:=hpc.2.1;omega) nm hr X b mb _ sv vs w hB hs hV hm).mono fun r w' ⟨h1,h2⟩=>⟨by simpa[PatE,patS] using h1,h2⟩
theorem chk_alt (l:List PatP) (hl:∀x∈l,ChkC x):ChkC (.alt l):=by
 intro hok hpn nm hr X v mb w hV hm;simp only[PatV]at hV;obtain⟨b,sv,vs,rfl,hb,hB,hs,hV⟩:=hV;have hpc:=wd_in_alt (l:=l);simp only[PatOk]at hok;exact(chk_parts 5 0 0 (by decide) l hl (fun x h=>⟨patsOk_mem hok h,by have:=hpc.2.2 x h;omega⟩) (by have:=hpc.2.1;omega) nm hr X b mb _ sv vs w hB hs hV hm).mono fun r w' ⟨h1,h2⟩=>⟨by simpa[PatE,patS] using h1,h2⟩
theorem chk_many (x:PatP) (lo hi:Int) (hx:ChkC x):ChkC (.many x lo hi):=by
 intro hok hpn nm hr X v mb w hV hm;simp only[PatV]at hV;obtain⟨b,sv,u,rfl,hb,hB,hs,hV⟩:=hV;have hpm:=wd_in_many (x:=x) (lo:=lo) (hi:=hi);simp only[PatOk]at hok
 refine(chk_parts 6 lo hi (by decide) [x] (fun y h=>by rw[List.mem_singleton]at h;rw[h];exact hx) (fun y h=>by rw[List.mem_singleton]at h;rw[h];exact⟨hok.1,by omega⟩) (by simp) nm hr X b mb _ sv [u] w hB hs (by simp only[PatsV];exact⟨hV,trivial⟩) hm).mono fun r w' ⟨h1,h2⟩=>⟨?_,h2⟩;have e:patsS nm [x]=patS nm x:=by
  simp only[patsS];cases patS nm x <;> rfl
 rw[e]at h1;simpa[PatE,patS] using h1
mutual
theorem chk_c:∀x,ChkC x
 | .one k=>chk_one k
 | .any=>chk_any
 | .edge=>chk_edge
 | .cat l=>chk_cat l (chks_c l)
 | .alt l=>chk_alt l (chks_c l)
 | .many x lo hi=>chk_many x lo hi (chk_c x)
theorem chks_c:∀(l:List PatP) (x:PatP),x∈l→ChkC x
 | [],x,h=>by cases h
 | y :: l,x,h=>by
  have hy:=chk_c y;rcases List.mem_cons.1 h with h|h
  ·rw[h];exact hy
  ·exact chks_c l x h
end
def errN (p:Nat×Nat):Int×Nat:=(if p.1=5 then 9 else 7,p.2)
def NamesRes (X:Nat→Prop) (B:Nat) (f:FileP) (r:Value) (w:World):Prop:=match namesS [] f.classes with
 | .ok nm=>∃mb,B≤mb∧r=.tuple #[.map (some mb),.nilIface]∧NamV (fun b=>X b∧b<B) w mb nm∧RightN nm
 | .error e=>∃v,r=.tuple #[.map none,v]∧ErrAt B (some (errN e)) v w
theorem rightN_snoc {nm:NamesP} {n:List UInt8} {s:List Rg} (h:RightN nm) (hs:setRight (-2) s=true):RightN (nm++[(n,s)]):=fun x hx=>by
 rw[List.mem_append,List.mem_singleton]at hx;rcases hx with hx|rfl
 ·exact h x hx
 ·exact hs
theorem names_step {nm:NamesP} {c:ClassP} {l:List ClassP}:namesS nm (c :: l)=if (findN c.name nm).isSome then .error (5,c.pos) else match kindS nm c.kind with
  | .error e=>.error (6,e)
  | .ok s=>namesS (nm++[(c.name,s)]) l:=by
 first|(rw[namesS];done)|(rw[namesS];rfl)
theorem all2_nth {α β:Type} {R:α→β→Prop} {l:List α} {m:List β} (h:All2 R l m) {i:Nat} {y:β} (hy:m[i]?=some y):∃x,l[i]?=some x∧R x y:=by
 induction h generalizing i with
 | nil=>simp at hy
 | cons h1 _ ih =>
  cases i with
  | zero=>cases hy;exact⟨_,rfl,h1⟩
  | succ i=>exact ih (by simpa using hy)
theorem names_c (f:FileP) (hok:∀c∈f.classes,KindOk c.kind) (hlen:f.classes.length≤1000000) (X:Nat→Prop) (v:Value) (w:World) (hv:FileV X w v f) :
  Fun Tryz.prog 10 [v] w fun r w'=>NamesRes X w.heap.size f r w'∧Below w.heap.size w w':=by
 obtain⟨cv,rv,cs,rs,rfl,hcs,hrs,hC,hR⟩:=hv;have hcl:=All2.len hC;obtain⟨ca,cc,rfl,hcc⟩:=hcs.shape;obtain⟨ra,rc,rfl,hrc⟩:=hrs.shape;refine fun_of_vc Tryz.func10 rfl (by kernel_rfl) [2,3] rfl ?_;simp -dsimp (maxSteps:=4000000) only[push_cast,fr0,Tryz.ntmps10,List.length_cons,List.length_nil,Nat.reduceAdd,Nat.reduceSub,Nat.reduceBEq,List.replicate_succ,List.replicate_zero];refine boxK_of ?_
 intro w1 hw1;have hw1:New w w1 26 [.slice ca cs.length cc,.slice ra rs.length rc,.bool f.els]:=hw1;have z1:=hw1.size;simp -dsimp only[push_cast,Nat.reduceAdd,Nat.reduceLeDiff,Nat.reduceBEq,Int.reduceNe,Int.reduceEq,Int.reduceLT,Int.reduceLE];refine makeMapG (key:=fun l:List UInt8=>str l) ?_;intro w2 m2 hb2 z2;have B2:=hw1.blk.below hb2 (by omega)
 have d2:w2.cell? ⟨w.heap.size,0,none⟩=some (.slice ca cs.length cc):=B2.cell rfl;have hbw2:=hw1.below.trans (hb2.mono (by omega));have hN:∃Xn:Nat→Prop,Xn=(fun b=>(X b∧b<w.heap.size)∨b=w1.heap.size):=⟨_,rfl⟩;obtain⟨Xn,hXn⟩:=hN;simp -dsimp only[push_cast,Nat.reduceAdd,Nat.reduceLeDiff,Nat.reduceBEq,Int.reduceNe,Int.reduceEq,Int.reduceLT,Int.reduceLE,d2]
 refine wpL_loop [2,3,6,7,8,9,10,15,16,17,18,19,20,21,22,23,24,25,26,27,28,29,30,31,32,33,34,35,36,37,38,39,40,41,42,43,44,45,46] (fun z wx=>∃(i:Nat) (nm:NamesP),z 15=.int .i64 i∧i≤f.classes.length∧namesS [] f.classes=namesS nm (f.classes.drop i)∧NamV Xn wx w1.heap.size nm∧RightN nm∧Below w.heap.size w wx∧w2.heap.size≤wx.heap.size) (fun z _=>f.classes.length - (intOf (z 15)).toNat) ?_ ?_
 ·exact⟨0,[],rfl,Nat.zero_le _,rfl,⟨[],m2,.nil⟩,(fun x h=>(by cases h)),hbw2,Nat.le_refl _⟩
 ·intro z wx hI;obtain⟨i,nm,h15,hi,hnm,hNV,hRN,hbx,zx⟩:=hI;simp -dsimp only[push_cast,Nat.reduceAdd,Nat.reduceLeDiff,Nat.reduceBEq,Int.reduceNe,Int.reduceEq,Int.reduceLT,Int.reduceLE,h15];refine⟨fun hlt=>?_,fun hge=>?_⟩
  ·obtain⟨c,hc,hcm,_,ht⟩:=lt_get (l:=f.classes) (i:=i) (by omega);obtain⟨x,hx,hxn,hxp,hxk⟩:=all2_nth hC hc;obtain⟨xn,xp,xk⟩:=x;simp only at hxn hxp hxk;subst hxn;subst hxp;obtain⟨b1,o,rfl,hnb,hcell⟩:=(hcs.below hbx).get hx;have c3:cellsAt wx ⟨b1,o+i*3,none⟩ 0 3=some [str c.name,.int .i64 c.pos,ptrP xk]:=cellsAt_of _ 0 (fun j u hu=>by simpa[encC] using hcell j u hu)
   have hun:ptrP xk=.pointer (some ⟨xk,0,none⟩):=rfl;rw[hun]at c3;simp -dsimp only[push_cast,Nat.reduceAdd,Nat.reduceLeDiff,Nat.reduceBEq,Int.reduceNe,Int.reduceEq,Int.reduceLT,Int.reduceLE,c3];refine⟨⟨by omega,by omega⟩,?_⟩;refine allocK (z:=[str [],.int .i64 0,.pointer none]) (by kernel_rfl) ?_;intro wa hwa;have za:=hwa.size
   simp -dsimp only[push_cast,Nat.reduceAdd,Nat.reduceLeDiff,Nat.reduceBEq,Int.reduceNe,Int.reduceEq,Int.reduceLT,Int.reduceLE];refine storeAgg (n:=3) (by kernel_rfl) hwa.blk rfl (by simp) (by simp[Value.oneCell',str]) ?_;intro wb hwb;have zb:=hwb.size;have hbb:Below wx.heap.size wx wb:=hwa.below.trans (hwb.kept.below (by omega) (fun i h=>by omega));have hbwb:=hbx.trans (hbb.mono hbx.size)
   have Cb:Blk wb wx.heap.size 90 [str c.name,.int .i64 c.pos,.pointer (some ⟨xk,0,none⟩)]:=hwb.blk;have e0:wb.cell? ⟨wx.heap.size,0,none⟩=some (str c.name):=Cb.cell rfl;have e1:wb.cell? ⟨wx.heap.size,1,none⟩=some (.int .i64 c.pos):=Cb.cell rfl;have e2:wb.cell? ⟨wx.heap.size,2,none⟩=some (.pointer (some ⟨xk,0,none⟩)):=Cb.cell rfl;have hNb:=hNV.below hbb;obtain⟨kvs,hM,hA⟩:=hNb
   have hf:=NamV.find (n:=c.name) hA;have hdrop:f.classes.drop i=c :: f.classes.drop (i+1):=by rw[List.drop_eq_getElem?_toList_append,hc];rfl
   simp -dsimp only[push_cast,Nat.reduceAdd,Nat.reduceLeDiff,Nat.reduceBEq,Int.reduceNe,Int.reduceEq,Int.reduceLT,Int.reduceLE,e0];rcases hf with ⟨f1,f2⟩|⟨s,u,f1,f2,hs,ha⟩
   ·refine lookupG_none (kt:=9) (et:=41) (z:=.slice none 0 0) (by kernel_rfl) (keyStr (by kernel_rfl)) (by kernel_rfl) hM rfl f2 ?_;simp -dsimp only[push_cast,Nat.reduceAdd,Nat.reduceLeDiff,Nat.reduceBEq,Int.reduceNe,Int.reduceEq,Int.reduceLT,Int.reduceLE,e2]
    have hkv:KindV Xn wb (.pointer (some ⟨xk,0,none⟩)) c.kind:=(hxk.top.below hbwb).mono (Kept.refl (fun _=>False) wb) (fun _ h=>h.elim) (fun b hb=>by
     rw[hXn]at hb;rcases hb with hb|hb
     ·exact .inl hb.1
     ·exact .inr (by omega))
    refine callK_of (ckind_c c.kind (hok c hcm) nm hRN Xn _ w1.heap.size wb hkv ⟨kvs,hM,hA⟩) ?_;rintro r wd ⟨hK,hbd⟩;have zd:=hbd.size;have hbwd:=hbwb.trans (hbd.mono hbwb.size);have Cd:=Cb.below hbd Cb.lt;have g0:wd.cell? ⟨wx.heap.size,0,none⟩=some (str c.name):=Cd.cell rfl;unfold KindRes at hK;cases hks:kindS nm c.kind with
    | error e =>
     rw[hks]at hK;obtain⟨eb,heb,rfl,hE⟩:=hK;simp -dsimp only[push_cast,Nat.reduceAdd,Nat.reduceLeDiff,Nat.reduceBEq,Int.reduceNe,Int.reduceEq,Int.reduceLT,Int.reduceLE];refine⟨?_,hbwd⟩;unfold NamesRes;rw[hnm,hdrop,names_step,f1,hks];exact⟨_,rfl,eb,by omega,rfl,hE⟩
    | ok s =>
     rw[hks]at hK;obtain⟨v1,rfl,hs1,ha1⟩:=hK;have hrs:=kindS_right (k:=c.kind) hRN (hok c hcm) hks;obtain⟨_,_,rfl,_⟩:=hs1.shape;have hMd:=hM.below hbd hM.lt;simp -dsimp only[push_cast,Nat.reduceAdd,Nat.reduceLeDiff,Nat.reduceBEq,Int.reduceNe,Int.reduceEq,Int.reduceLT,Int.reduceLE,g0];refine updateG_new (kt:=9) (et:=41) (by kernel_rfl) (keyStr (by kernel_rfl)) hMd rfl f2 ?_;intro we hMe hke hse
     have hbwe:Below w.heap.size w we:=hbwd.trans (hke.below (by omega) (fun i h=>by omega));simp -dsimp only[push_cast,Nat.reduceAdd,Nat.reduceLeDiff,Nat.reduceBEq,Int.reduceNe,Int.reduceEq,Int.reduceLT,Int.reduceLE];refine⟨⟨by omega,by omega⟩,⟨i+1,nm++[(c.name,s)],rfl,by omega,?_,⟨_,hMe,?_⟩,rightN_snoc hRN hrs,hbwe,by omega⟩,by rw[h15];simp only[intOf];omega⟩
     ·rw[hnm,hdrop,names_step,f1,hks];rfl
     ·refine All2.snoc (hA.imp fun a b h=>⟨h.1,(h.2.1.below hbd).kept hke (fun i hi=>by rw[hXn];exact .inr hi),h.2.2⟩) ⟨rfl,(hs1.kept hke (fun i hi=>?_)).weaken (fun b hb=>?_),ha1⟩
      ·exact⟨by rw[hXn];exact .inr hi,by omega⟩
      ·refine⟨hb,?_⟩;rw[hXn]at hb;rcases hb with hb|hb
       ·omega
       ·omega
   ·refine lookupG_some (kt:=9) (et:=41) (z:=.slice none 0 0) (by kernel_rfl) (keyStr (by kernel_rfl)) (by kernel_rfl) hM rfl f2 ?_;obtain⟨_,_,rfl,_⟩:=hs.shape;simp -dsimp only[push_cast,Nat.reduceAdd,Nat.reduceLeDiff,Nat.reduceBEq,Int.reduceNe,Int.reduceEq,Int.reduceLT,Int.reduceLE];have e1d:wb.drew.cell? ⟨wx.heap.size,1,none⟩=some (.int .i64 c.pos):=e1
    refine wpL_drawN (fun w'=>w'.cell? ⟨wx.heap.size,1,none⟩=some (.int .i64 c.pos)) mixed (by kernel_rfl) e1 ?_;simp -dsimp only[push_cast,Nat.reduceAdd,Nat.reduceLeDiff,Nat.reduceBEq,Int.reduceNe,Int.reduceEq,Int.reduceLT,Int.reduceLE,e1d];refine⟨fun w'' h=>by rw[h];exact rfl,?_⟩;refine boxK_of ?_;intro wd hwd;have hwd:New wb.drew wd 94 [.int .i64 9,.int .i64 c.pos]:=hwd
    have hbd:Below wb.heap.size wb wd:=((Kept.refl (fun _=>False) wb).drew.below (Nat.le_refl _) (fun _ h=>h.elim)).trans hwd.below;refine⟨(hbd.cell (by show wx.heap.size<_;omega)).trans e1,?_⟩;simp -dsimp only[push_cast,Nat.reduceAdd,Nat.reduceLeDiff,Nat.reduceBEq,Int.reduceNe,Int.reduceEq,Int.reduceLT,Int.reduceLE];refine⟨?_,hbwb.trans (hbd.mono hbwb.size)⟩;unfold NamesRes
    rw[hnm,hdrop,names_step,f1];exact⟨_,rfl,wb.heap.size,hbwb.size,rfl,hwd.blk⟩
  ·refine⟨?_,hbx⟩;rw[List.drop_of_length_le (by omega),namesS]at hnm;unfold NamesRes;rw[hnm];obtain⟨kvs,hM,hA⟩:=hNV;exact⟨_,by omega,rfl,⟨kvs,hM,hA.imp fun a b h=>⟨h.1,h.2.1.weaken (fun b hb=>by rw[hXn];exact .inl hb),h.2.2⟩⟩,hRN⟩
theorem eq_3n (c:Bool) (n k n' k':Nat) (L:VP) (other:Prop) (p):eqNilK 3 c .eql (.slice none n k) (.slice none n' k') L other p=L (.bool true):=by
 cases c <;> rfl
theorem eq_3s (c:Bool) (a:Addr) (n k n' k':Nat) (L:VP) (other:Prop) (p):eqNilK 3 c .eql (.slice (some a) n k) (.slice none n' k') L other p=L (.bool false):=by
 cases c <;> rfl
theorem encZ_one:∀x,∀u∈Vc.encZ x,u.oneCell'=true:=by simp[Vc.encZ,Value.oneCell']
theorem clone_c (l:List Int) (hl:l.length<1000000000) (X:Nat→Prop) (v:Value) (w:World) (hv:Sl X 1 (En Vc.encZ) w v l) (ha:Arg v) :
  Fun Tryz.prog 63 [v] w fun r w'=>Vc.Own w.heap.size 3 1 Vc.encZ w' r l∧Below w.heap.size w w':=by
 obtain⟨a,c,rfl,hc⟩:=hv.shape;refine fun_of_vc Tryz.func63 rfl (by kernel_rfl) [2] rfl ?_;simp -dsimp (maxSteps:=4000000) only[push_cast,fr0,Tryz.ntmps63,List.length_cons,List.length_nil,Nat.reduceAdd,Nat.reduceSub,Nat.reduceBEq,List.replicate_succ,List.replicate_zero];cases a with
 | none =>
  obtain⟨h0,rfl⟩:=ha _ _ rfl;have:l=[]:=List.eq_nil_of_length_eq_zero h0;subst this;simp -dsimp only[push_cast,Nat.reduceAdd,Nat.reduceLeDiff,Nat.reduceBEq,Int.reduceNe,Int.reduceEq,Int.reduceLT,Int.reduceLE,eq_3n];exact⟨Vc.Own.nil (enc:=Vc.encZ) _ _ (fun _=>rfl) _,Below.refl _ _⟩
 | some ad =>
  simp -dsimp only[push_cast,Nat.reduceAdd,Nat.reduceLeDiff,Nat.reduceBEq,Int.reduceNe,Int.reduceEq,Int.reduceLT,Int.reduceLE,eq_3s];refine rowK elI_53 rfl rfl (by omega) ?_;intro w1 hw1;have ho1:=hw1.own (base:=w.heap.size) (k:=1) (n:=0) (enc:=Vc.encZ) (l:=[]) rfl rfl (fun _=>rfl) (Nat.le_refl _) (by omega);have sz1:=hw1.size
  simp -dsimp only[push_cast,Nat.reduceAdd,Nat.reduceLeDiff,Nat.reduceBEq,Int.reduceNe,Int.reduceEq,Int.reduceLT,Int.reduceLE];refine appendAny (base:=w.heap.size) (enc:=Vc.encZ) (ys:=l) elI_53 ho1 (hv.below hw1.below) (fun n c h=>by cases h) encZ_one (by simp only[List.length_nil];omega) (by omega) ?_;intro v' w2 ho2 hg2 hb2;rw[List.nil_append]at ho2
  simp -dsimp only[push_cast,Nat.reduceAdd,Nat.reduceLeDiff,Nat.reduceBEq,Int.reduceNe,Int.reduceEq,Int.reduceLT,Int.reduceLE];exact⟨ho2,hw1.below.trans hb2⟩
end Go.Proofs.YtledlfbbebodgaaGreatDoor
end
section
namespace Go.Proofs.YtledlfbbebodgaaGreatDoor
open Go.Vc Go.Proofs Go.RowKit
def encN (k:Nat):List Value:=[.int .i64 k]
end Go.Proofs.YtledlfbbebodgaaGreatDoor
end
