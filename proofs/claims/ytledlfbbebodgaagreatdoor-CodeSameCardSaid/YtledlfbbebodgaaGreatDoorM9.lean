/- Lemmas. -/
import Derived.Test.YtledlfbbebodgaaGreatDoorM8
import Derived.Sort.Grow
import Derived.Shelf.Spec.SlicesGrow
import Derived.Shelf.SlSortCmp.WholeK
import Derived.Shelf.SlSortCmp.NoneTotal
import Derived.Shelf.Sort.Plain
import Derived.Shelf.Slices.CompactI
import Derived.Lib.SlicesCompact
import Derived.Ground.Names2Prog
import Derived.Lib.RowBridge
import Derived.Shelf.Slices.In.SortNone
set_option maxRecDepth 100000
set_option linter.unusedSimpArgs false
set_option linter.unusedVariables false
set_option maxHeartbeats 8000000
section
namespace Go.Proofs.YtledlfbbebodgaaGreatDoor
open Go.Vc Go.Proofs Go.RowKit Cae
attribute [local irreducible] wpL callK valK unitK runK Fun Sl Vc.Own vc vcOps opK pureK
theorem below_drew (w:World):Below w.heap.size w w.drew:=((Kept.refl (fun _=>False) w).drew).below (Nat.le_refl _) (fun _ h=>h.elim)
theorem KindV.drew {X:Nat→Prop}{w:World}{k:KindP}{v:Value}(h:KindV X w v k):KindV X w.drew v k :=
 h.mono (X:=X) ((Kept.refl (fun _=>False) w).drew) (fun _ h=>h.elim) (fun _ h=>h)
theorem PatsV.nth {X:Nat→Prop}{w:World}:∀{l:List PatP} {vs:List Nat} {i:Nat} {x:PatP},PatsV X w vs l→l[i]?=some x→∃u,vs[i]?=some u∧PatV X w (ptrP u) x
 | [],_,i,x,_,hx=>by simp at hx
 | _::_,[],_,_,h,_=>by simp only[PatsV]at h
 | y::l,v::vs,0,x,h,hx=>by
  simp only[PatsV]at h;cases hx;exact⟨v,rfl,h.1⟩
 | y::l,v::vs,i+1,x,h,hx=>by
  simp only[PatsV]at h;exact PatsV.nth (i:=i) h.2 (by simpa using hx)
theorem patsOk_mem:∀{l:List PatP} {x:PatP},PatsOk l→x∈l→PatOk x
 | y::l,x,h,hx=>by
  simp only[PatsOk]at h;rcases List.mem_cons.1 hx with rfl|hx
  ·exact h.1
  ·exact patsOk_mem h.2 hx
theorem FileV.below {X:Nat→Prop}{w w':World}{v:Value}{f:FileP}(h:FileV X w v f)(hb:Below w.heap.size w w'):FileV X w' v f:=by
 obtain⟨cv,rv,cs,rs,rfl,S1,S2,A1,A2⟩:=h;exact⟨cv,rv,cs,rs,rfl,S1.below hb,S2.below hb,A1.imp fun a c h=>⟨h.1,h.2.1,h.2.2.below hb⟩,A2.imp fun a c h=>⟨h.1,h.2.1,h.2.2.1.below hb,h.2.2.2.below hb⟩⟩
theorem hasCmp_c (r:Rg)(p:Int)(w:World):Fun Tryz.prog 90 [.agg #[.int .i64 r.1,.int .i64 r.2],.int .i64 p] w fun v w'=>v=.int .i64 (if r.2<p then -1 else if p<r.1 then 1 else 0)∧Below w.heap.size w w':=by
 refine fun_of_vc Tryz.func90 rfl (by kernel_rfl) [4] rfl ?_;simp -dsimp (maxSteps:=4000000) only[push_cast,fr0,Tryz.ntmps90,List.length_cons,List.length_nil,Nat.reduceAdd,Nat.reduceSub,Nat.reduceBEq,List.replicate_succ,List.replicate_zero];refine boxK_of ?_;intro w1 hw1;have c0:w1.cell? ⟨w.heap.size,0,none⟩=some (.int .i64 r.1):=hw1.cell rfl
 have c1:w1.cell? ⟨w.heap.size,1,none⟩=some (.int .i64 r.2):=hw1.cell rfl;simp -dsimp only[push_cast,Nat.reduceAdd,Nat.reduceLeDiff,Nat.reduceBEq,Int.reduceNe,Int.reduceEq,Int.reduceLT,Int.reduceLE,c0,c1];refine⟨fun h=>?_,fun h=>⟨fun h2=>?_,fun h2=>?_⟩⟩
 ·rw[if_pos h];exact⟨rfl,hw1.below⟩
 ·rw[if_neg h,if_pos h2];exact⟨rfl,hw1.below⟩
 ·rw[if_neg h,if_neg h2];exact⟨rfl,hw1.below⟩
theorem has_at {s:List Rg}(hr:setRight (-2) s=true){p:Int}{i:Nat}(h1:∀(k:Nat) (r:Rg),k<i→s[k]?=some r→r.2<p)(h2:∀(k:Nat) (r:Rg),i≤k→s[k]?=some r→¬r.2<p) :
  hasP s p=match s[i]? with|some r=>decide (r.1≤p)|none=>false:=by
 unfold hasP;cases hi:s[i]? with
 | none =>
  rw[List.any_eq_false];intro r hm;obtain⟨k,hk⟩:=List.getElem?_of_mem hm;have hlt:=(List.getElem?_eq_some_iff.1 hk).1;have:=List.getElem?_eq_none_iff.1 hi;have:=h1 k r (by omega) hk;simp only[decide_eq_true_eq];omega
 | some r =>
  have hr2:=h2 i r (Nat.le_refl _) hi;by_cases hp:r.1≤p
  ·dsimp only;rw[decide_eq_true hp,List.any_eq_true];exact⟨r,List.mem_of_getElem? hi,by simp only[decide_eq_true_eq];omega⟩
  ·dsimp only;rw[decide_eq_false hp,List.any_eq_false];intro q hm;obtain⟨k,hk⟩:=List.getElem?_of_mem hm;simp only[decide_eq_true_eq];rcases Nat.lt_trichotomy k i with hlt|heq|hgt
   ·have:=h1 k q hlt hk;omega
   ·subst heq;rw[hi]at hk;cases hk;omega
   ·have:=(setRight_sorted s (-2) hr i r hi).2.2.2 k q hgt hk;have:=(setRight_sorted s (-2) hr i r hi).2.1;omega
theorem search_c (s:List Rg)(hs:s.length<1000000000)(hr:setRight (-2) s=true)(p:Int)(X:Nat→Prop)(v:Value)(w:World)(hv:Sl X 2 (En encR) w v s) :
  Fun Tryz.prog 89 [v,.int .i64 p,.func (.func 90) #[] #[]] w fun r w'=>(∃i:Int,r=.tuple #[.int .i64 i,.bool (hasP s p)])∧Below w.heap.size w w':=by
 obtain⟨a,c,rfl,hc⟩:=hv.shape;refine fun_of_vc Tryz.func89 rfl (by kernel_rfl) [6,7] rfl ?_;simp -dsimp (maxSteps:=4000000) only[push_cast,fr0,Tryz.ntmps89,List.length_cons,List.length_nil,Nat.reduceAdd,Nat.reduceSub,Nat.reduceBEq,List.replicate_succ,List.replicate_zero]
 refine wpL_loop [9,10,11,15,16,17,18,19,20,21,22,23,24,25,26,27,28,29,30,31,32,33,34] (fun z wx=>∃(i j:Nat),z 9=.int .i64 i∧z 10=.int .i64 j∧i≤j∧j≤s.length∧(∀(k:Nat) (r:Rg),k<i→s[k]?=some r→r.2<p)∧(∀(k:Nat) (r:Rg),j≤k→s[k]?=some r→¬r.2<p)∧Below w.heap.size w wx) (fun z _=>(intOf (z 10)).toNat-(intOf (z 9)).toNat) ?_ ?_
 ·refine⟨0,s.length,rfl,rfl,Nat.zero_le _,Nat.le_refl _,fun k r hk=>absurd hk (by omega),fun k r hk h=>?_,Below.refl _ _⟩;have:=(List.getElem?_eq_some_iff.1 h).1;omega
 ·intro z wx hI;obtain⟨i,j,h9,h10,hij,hj,hlo,hhi,hb⟩:=hI;simp -dsimp only[push_cast,Nat.reduceAdd,Nat.reduceLeDiff,Nat.reduceBEq,Int.reduceNe,Int.reduceEq,Int.reduceLT,Int.reduceLE,h9,h10];refine⟨fun hlt=>?_,fun hge=>?_⟩
  ·have e:IntKind.i64.wrap ((IntKind.u64.wrap ((i:Int)+(j:Int))).fdiv (2 ^ min (1:Int).toNat IntKind.u64.bits))=(((i+j) / 2:Nat):Int):=by
    rw[show (i:Int)+(j:Int)=((i+j:Nat):Int) by omega,wrap_u64_nat,Nat.mod_eq_of_lt (by omega),shr_nat (k:=1) (kd:=.u64) rfl (by decide)];exact wrap_i64_nat (by omega)
   have hm1:i≤(i+j) / 2:=by omega
   have hm2:(i+j) / 2<j:=by omega
   generalize (i+j) / 2=m at e hm1 hm2;rw[e];obtain⟨x,hx,hxm,hdx,ht⟩:=lt_get (l:=s) (i:=m) (by omega);obtain⟨b,o,rfl,hX,hcell⟩:=(hv.below hb).get hx;have c0:cellsAt wx ⟨b,o+m*2,none⟩ 0 2=some [.int .i64 x.1,.int .i64 x.2]:=cellsAt_of (encR x) 0 (fun j u hu=>by simpa using hcell j u hu)
   simp -dsimp only[push_cast,Nat.reduceAdd,Nat.reduceLeDiff,Nat.reduceBEq,Int.reduceNe,Int.reduceEq,Int.reduceLT,Int.reduceLE,c0];refine⟨⟨by omega,by omega⟩,⟨by omega,by omega⟩,?_⟩;refine callK_of (hasCmp_c x p wx) ?_;rintro _ w1 ⟨rfl,hb1⟩;have hB1:=hb.trans (hb1.mono hb.size)
   simp -dsimp only[push_cast,Nat.reduceAdd,Nat.reduceLeDiff,Nat.reduceBEq,Int.reduceNe,Int.reduceEq,Int.reduceLT,Int.reduceLE];refine⟨fun hneg=>⟨⟨by omega,by omega⟩,⟨m+1,j,rfl,rfl,by omega,hj,fun k r hk hr0=>?_,hhi,hB1⟩,?_⟩,fun hpos=>⟨⟨i,m,rfl,rfl,by omega,by omega,hlo,fun k r hk hr0=>?_,hB1⟩,?_⟩⟩
   ·have hxp:x.2<p:=by
     by_cases h:x.2<p
     ·exact h
     ·rw[if_neg h]at hneg;split at hneg<;>omega
    rcases Nat.lt_or_ge k m with hlt'|hge'
    ·have:=(setRight_sorted s (-2) hr k r hr0).2.2.2 m x hlt' hx;have:=(setRight_sorted s (-2) hr m x hx).2.1;omega
    ·have hkm:k=m:=by omega
     subst hkm;rw[hx]at hr0;cases hr0;exact hxp
   ·rw[h9,h10];simp only[intOf];omega
   ·have hxp:¬x.2<p:=by
     intro h;rw[if_pos h]at hpos;omega
    rcases Nat.lt_or_ge m k with hlt'|hge'
    ·have:=(setRight_sorted s (-2) hr m x hx).2.2.2 k r hlt' hr0;have:=(setRight_sorted s (-2) hr k r hr0).2.1;omega
    ·have hkm:k=m:=by omega
     subst hkm;rw[hx]at hr0;cases hr0;exact hxp
   ·rw[h9,h10];simp only[intOf];omega
  ·have hji:j=i:=by omega
   subst hji;have hat:=has_at hr hlo hhi;refine⟨fun hin=>?_,fun hout=>?_⟩
   ·obtain⟨x,hx,hxm,hdx,ht⟩:=lt_get (l:=s) (i:=j) (by omega);obtain⟨b,o,rfl,hX,hcell⟩:=(hv.below hb).get hx;have c0:cellsAt wx ⟨b,o+j*2,none⟩ 0 2=some [.int .i64 x.1,.int .i64 x.2]:=cellsAt_of (encR x) 0 (fun j u hu=>by simpa using hcell j u hu);have hx2:=hhi j x (Nat.le_refl _) hx;rw[hx]at hat
    simp -dsimp only[push_cast,Nat.reduceAdd,Nat.reduceLeDiff,Nat.reduceBEq,Int.reduceNe,Int.reduceEq,Int.reduceLT,Int.reduceLE,c0];refine⟨⟨by omega,by omega⟩,callK_of (hasCmp_c x p wx) ?_⟩;rintro _ w1 ⟨rfl,hb1⟩;simp -dsimp only[push_cast,Nat.reduceAdd,Nat.reduceLeDiff,Nat.reduceBEq,Int.reduceNe,Int.reduceEq,Int.reduceLT,Int.reduceLE];refine⟨⟨j,?_⟩,hb.trans (hb1.mono hb.size)⟩
    have hat':hasP s p=decide (x.1≤p):=by rw[hat]
    have hdd:decide ((if p<x.1 then (1:Int) else 0)=0)=decide (x.1≤p):=by rw[decide_eq_decide];split<;>omega
    rw[hat',if_neg hx2,hdd]
   ·refine⟨⟨j,?_⟩,hb⟩;rw[hat,List.getElem?_eq_none (by omega)]
theorem has_c (s:List Rg)(hs:s.length<1000000000)(hr:setRight (-2) s=true)(p:Int)(X:Nat→Prop)(v:Value)(w:World)(hv:Sl X 2 (En encR) w v s) :
  Fun Tryz.prog 53 [v,.int .i64 p] w fun r w'=>r=.bool (hasP s p)∧Below w.heap.size w w':=by
 refine fun_of_vc Tryz.func53 rfl (by kernel_rfl) [4] rfl ?_;simp -dsimp (maxSteps:=4000000) only[push_cast,fr0,Tryz.ntmps53,List.length_cons,List.length_nil,Nat.reduceAdd,Nat.reduceSub,Nat.reduceBEq,List.replicate_succ,List.replicate_zero];refine callK_of (search_c s hs hr p X v w hv) ?_;rintro _ w1 ⟨⟨i,rfl⟩,hb⟩
 simp -dsimp only[push_cast,Nat.reduceAdd,Nat.reduceLeDiff,Nat.reduceBEq,Int.reduceNe,Int.reduceEq,Int.reduceLT,Int.reduceLE];exact hb
theorem cloneR_c (l:List Rg)(hl:l.length<1000000000)(X:Nat→Prop)(v:Value)(w:World)(hv:Sl X 2 (En encR) w v l)(ha:Arg v) :
  Fun Tryz.prog 111 [v] w fun r w'=>Vc.Own w.heap.size 46 2 encR w' r l∧Below w.heap.size w w':=by
 obtain⟨a,c,rfl,hc⟩:=hv.shape;refine fun_of_vc Tryz.func111 rfl (by kernel_rfl) [2] rfl ?_;push_cast -dsimp(maxSteps:=4000000) [Tryz.ntmps111];cases a with
 | none =>
  obtain⟨h0,rfl⟩:=ha _ _ rfl;have:l=[]:=List.eq_nil_of_length_eq_zero h0;subst this;push_cast -dsimp[eqn3];exact⟨Vc.Own.nil (enc:=encR) _ _ (fun _=>rfl) _,Below.refl _ _⟩
 | some ad =>
  push_cast -dsimp[eqs3];refine rowK elI_40 rfl rfl (by omega) ?_;intro w1 hw1;have ho1:=hw1.own (base:=w.heap.size) (k:=2) (n:=0) (enc:=encR) (l:=[]) rfl rfl (fun _=>rfl) (Nat.le_refl _) (by omega);have sz1:=hw1.size;push_cast -dsimp
  refine appendAny (base:=w.heap.size) (enc:=encR) (ys:=l) elI_40 ho1 (hv.below hw1.below) (fun n c h=>by cases h) encR_one (by simp only[List.length_nil];omega) (by omega) ?_;intro v' w2 ho2 hg2 hb2;rw[List.nil_append]at ho2;push_cast -dsimp;exact⟨ho2,hw1.below.trans hb2⟩
def cmpI (x y:Int):Int:=if x<y then -1 else if y<x then 1 else 0
theorem isNaN_c (x:Int)(w:World):Fun Tryz.prog 146 [.int .i64 x] w fun r w'=>r=.bool false∧w'=w:=by
 refine fun_of_vc Tryz.func146 rfl (by kernel_rfl) [2] rfl ?_;push_cast -dsimp(maxSteps:=4000000) [Tryz.ntmps146];simp
theorem compare_c (x y:Int)(w:World):Fun Tryz.prog 114 [.int .i64 x,.int .i64 y] w fun r w'=>r=.int .i64 (cmpI x y)∧w'=w:=by
 refine fun_of_vc Tryz.func114 rfl (by kernel_rfl) [4] rfl ?_;push_cast -dsimp(maxSteps:=4000000) [Tryz.ntmps114];refine callK_of (isNaN_c x w) ?_;rintro _ w1 ⟨rfl,rfl⟩;push_cast -dsimp;refine callK_of (isNaN_c y w1) ?_;rintro _ w2 ⟨rfl,rfl⟩;push_cast -dsimp;unfold cmpI;refine⟨fun h=>by rw[if_pos h],fun h=>⟨fun h2=>by rw[if_neg h,if_pos h2],fun h2=>by rw[if_neg h,if_neg h2]⟩⟩
theorem closure_c (x y:Rg)(w:World):Fun Tryz.prog 113 [.agg #[.int .i64 x.1,.int .i64 x.2],.agg #[.int .i64 y.1,.int .i64 y.2]] w fun r w'=>r=.int .i64 (cmpI x.1 y.1)∧∃os,w'=Go.Sort.grow w os:=by
 refine fun_of_vc Tryz.func113 rfl (by kernel_rfl) [4] rfl ?_;push_cast -dsimp(maxSteps:=4000000) [Tryz.ntmps113];refine boxK_of ?_;intro w1 hw1;have sz1:=hw1.size;push_cast -dsimp;refine boxK_of ?_;intro w2 hw2;have sz2:=hw2.size;have c0:w2.cell? ⟨w.heap.size,0,none⟩=some (.int .i64 x.1):=(hw2.below.cell (by show w.heap.size<w1.heap.size;omega)).trans (hw1.cell rfl)
 have c1:w2.cell? ⟨w1.heap.size,0,none⟩=some (.int .i64 y.1):=hw2.cell rfl;push_cast -dsimp[c0,c1];refine callK_of (compare_c x.1 y.1 w2) ?_;rintro _ w3 ⟨rfl,rfl⟩;push_cast -dsimp;refine⟨_,by rw[hw2.is,hw1.is,Go.Sort.alloc_eq_grow,Go.Sort.alloc_eq_grow,Go.Sort.grow_grow]⟩
def growR_ren:Go.Shelf.Ren:=⟨fun|4=>115|n=>n,fun|22=>41|25=>46|3=>3|4=>4|9=>9|20=>20|0=>0|2=>3|n=>n,fun|n=>n⟩
theorem growR:Go.Proofs.Lays8.n4 Tryz.prog growR_ren:={
 mixed:=by kernel_rfl
 f4:=⟨ "slices.Grow[caesura/api.Set,caesura/api.Range]",by decide,Tryz.func115.trans (congrArg some (by kernel_rfl))⟩
 t0:=Tryz.underlying0
 a0:=Tryz.isAgg0
 z0:=Tryz.sizeOf0
 v0:=Tryz.zeroValue0
 t3:=Tryz.underlying3
 a3:=Tryz.isAgg3
 z3:=Tryz.sizeOf3
 v3:=Tryz.zeroValue3
 t4:=Tryz.underlying4
 a4:=Tryz.isAgg4
 z4:=Tryz.sizeOf4
 v4:=Tryz.zeroValue4
 t9:=Tryz.underlying9
 a9:=Tryz.isAgg9
 z9:=Tryz.sizeOf9
 v9:=Tryz.zeroValue9
 t20:=Tryz.underlying20
 a20:=Tryz.isAgg20
 z20:=Tryz.sizeOf20
 v20:=Tryz.zeroValue20
 t22:=Tryz.underlying41
 a22:=Tryz.isAgg41
 z22:=Tryz.sizeOf41
 v22:=Tryz.zeroValue41 }
theorem grow_c (n:Nat)(hn:n<1000000000)(w:World) :
  Fun Tryz.prog 115 [.slice none 0 0,.int .i64 (n:Int)] w fun r w'=>Vc.Own w.heap.size 46 2 encR w' r ([]:List Rg)∧Below w.heap.size w w':=by
 refine fun_of_calls Tryz.func115 (by kernel_rfl) (by kernel_rfl) ?_;rcases Nat.eq_zero_or_pos n with h0|h0
 ·subst h0;refine Calls.mono (Any8.slices_Grow_room growR none 0 0 0 w (by omega) (by omega) (by omega) (by omega)) ?_;rintro e w' ⟨rfl,rfl⟩;exact⟨_,rfl,Vc.Own.nil (enc:=encR) _ _ (fun _=>rfl) _,Below.refl _ _⟩
 ·have he:=elI_spec elI_41;obtain⟨hu,i,z,hi,hz,hk0,hby,hzs,hk,hb0⟩:=he;refine Calls.mono (Any8.slices_Grow_grow growR i z hi hz (by omega) none 0 0 n [] w (by omega) (by omega) (by rw[hby];omega) (by omega) (by simp) (fun _=>rfl) (fun a h=>by cases h)) ?_;rintro e w' ⟨rfl,rfl⟩;have hG:=grownCap_le_maxLen w (0+n) 0 46 (by unfold maxLen;omega);have hG2:=grownCap_ge w (0+n) 0 46
  have hE:growR_ren.t 25=46:=rfl;rw[hE];generalize grownCap w (0+n) 0 46=G at hG hG2;refine⟨_,rfl,ownFresh (fun _=>rfl) (Array.getElem?_push_size) hG ?_,?_⟩
  ·simp only[Array.size_append,size_zeroCells,hzs,hk0];simp;omega
  ·exact⟨rfl,rfl,rfl,by show w.heap.size≤(w.heap.push _).size;rw[Array.size_push];omega,fun i hi=>by show (w.heap.push _)[i]?=_;rw[Array.getElem?_push,if_neg (by omega)]⟩
end Go.Proofs.YtledlfbbebodgaaGreatDoor
end
section
namespace Go.Proofs.YtledlfbbebodgaaGreatDoor
open Go.Vc Go.Proofs Go.RowKit Cae Go.Sort
theorem holdsOf {base : Nat} {e : TypeId} {w : World} {g n c : Nat} {l : List Rg} (h : Vc.Own base e 2 encR w (.slice (some ⟨g, 0, none⟩) n c) l) : HoldsK encR 2 w g 0 l.toArray := by
  have ho := Vc.Own.opened h rfl
  obtain ⟨cur, hB, hl, ht, _⟩ := ho
  intro j hj
  rw [size_flatK] at hj
  rw [get_flatK _ _ _ _ hj]
  have hj' : j < l.length * 2 := by simpa using hj
  have hi : j / 2 < l.length := by omega
  have hx := List.getElem?_eq_getElem hi
  have hu : (encR l[j / 2])[j % 2]? = some (encR l[j / 2])[j % 2]! := by
    rw [List.getElem!_eq_getElem?_getD]
    have hlt : j % 2 < (encR l[j / 2]).length := by show j % 2 < 2; omega
    rw [List.getElem?_eq_getElem hlt]; rfl
  have h1 := flatMap_get h.2 l (j / 2) (j % 2) _ _ hx hu
  rw [← ht, List.getElem?_take, if_pos (by omega), show j / 2 * 2 + j % 2 = j by omega] at h1
  have e2 : (l.toArray)[j / 2]! = l[j / 2] := by simp [hi]
  rw [e2]
  refine ⟨?_, ?_⟩
  · rw [cell_of_row w g _ cur.toArray e (0, 0) hB, Nat.zero_add]
    simpa using h1
  · have hB' : w.heap[g]? = some (.cells cur.toArray e (0, 0)) := hB
    simp [World.frozen?, hB']
theorem ownAt0 {base:Nat}{e:TypeId}{w:World}{ad:Addr}{n c:Nat}{l:List Rg}(h:Vc.Own base e 2 encR w (.slice (some ad) n c) l):∃g,ad=⟨g,0,none⟩:=by
 rcases h.1.2 with ⟨he,_⟩|⟨g,cap,cr,he,_⟩
 ·cases he
 ·cases he;exact⟨_,rfl⟩
theorem slSorted {w' : World} {g n c : Nat} {d' : Array Rg} (hn : d'.size = n) (hc : n ≤ c) (hH' : HoldsK encR 2 w' g 0 d') : Sl (fun b => (Value.slice (some ⟨g, 0, none⟩) n c).ownBlock ≠ some b) 2 (En encR) w' (.slice (some ⟨g, 0, none⟩) n c) d'.toList := by
  subst hn
  refine ⟨_, c, by rw [Array.length_toList], by rw [Array.length_toList]; exact hc, fun i x hx => ⟨g, 0, encR x, rfl, by simp [Value.ownBlock], rfl, fun j u hu => ?_, rfl⟩⟩
  have hi := (List.getElem?_eq_some_iff.1 hx).1
  rw [Array.length_toList] at hi
  have hj : j < 2 := (List.getElem?_eq_some_iff.1 hu).1
  have h2 := (hH'.cell hi hj).1
  have hx2 : d'[i]! = x := by rw [getElem!_pos d' i hi]; rw [Array.getElem?_toList, Array.getElem?_eq_getElem hi] at hx; cases hx; rfl
  rw [hx2, List.getElem!_eq_getElem?_getD, hu] at h2
  exact h2
end Go.Proofs.YtledlfbbebodgaaGreatDoor
namespace Go.Proofs.YtledlfbbebodgaaGreatDoor
open Go.Vc Go.Proofs Go.RowKit Cae
attribute [local irreducible] wpL callK valK unitK runK Fun Sl Vc.Own vc vcOps opK pureK
open Go.Sort
def sortR_ren:Go.Shelf.Ren:=⟨fun|6=>112|15=>117|14=>145|28=>156|29=>157|20=>165|21=>166|22=>167|23=>168|24=>169|25=>170|26=>171|27=>172|46=>192|47=>174|48=>175|49=>193|50=>194|57=>207|n=>n,fun|22=>40|24=>46|25=>197|3=>3|39=>103|0=>0|53=>244|55=>246|4=>4|46=>237|45=>236|50=>168|5=>5|9=>9|66=>254|70=>258|76=>278|77=>97|n=>n,fun|n=>n⟩
theorem sortR:Go.Proofs.SlLaysF0.n6 Tryz.prog sortR_ren:={
 mixed:=by kernel_rfl
 f6:=⟨ "slices.SortFunc[[]caesura/api.Range,caesura/api.Range]",by decide,Tryz.func112.trans (congrArg some (by kernel_rfl))⟩
 f14:=⟨ "slices.pdqsortCmpFunc[caesura/api.Range]",by decide,Tryz.func145.trans (congrArg some (by kernel_rfl))⟩
 f15:=Tryz.func117.trans (congrArg some (by kernel_rfl))
 f20:=⟨ "slices.insertionSortCmpFunc[caesura/api.Range]",by decide,Tryz.func165.trans (congrArg some (by kernel_rfl))⟩
 f21:=⟨ "slices.heapSortCmpFunc[caesura/api.Range]",by decide,Tryz.func166.trans (congrArg some (by kernel_rfl))⟩
 f22:=⟨ "slices.breakPatternsCmpFunc[caesura/api.Range]",by decide,Tryz.func167.trans (congrArg some (by kernel_rfl))⟩
 f23:=⟨ "slices.choosePivotCmpFunc[caesura/api.Range]",by decide,Tryz.func168.trans (congrArg some (by kernel_rfl))⟩
 f24:=⟨ "slices.reverseRangeCmpFunc[caesura/api.Range]",by decide,Tryz.func169.trans (congrArg some (by kernel_rfl))⟩
 f25:=⟨ "slices.partialInsertionSortCmpFunc[caesura/api.Range]",by decide,Tryz.func170.trans (congrArg some (by kernel_rfl))⟩
 f26:=⟨ "slices.partitionEqualCmpFunc[caesura/api.Range]",by decide,Tryz.func171.trans (congrArg some (by kernel_rfl))⟩
 f27:=⟨ "slices.partitionCmpFunc[caesura/api.Range]",by decide,Tryz.func172.trans (congrArg some (by kernel_rfl))⟩
 f28:=Tryz.func156.trans (congrArg some (by kernel_rfl))
 f29:=Tryz.func157.trans (congrArg some (by kernel_rfl))
 f46:=⟨ "slices.siftDownCmpFunc[caesura/api.Range]",by decide,Tryz.func192.trans (congrArg some (by kernel_rfl))⟩
 f47:=Tryz.func174.trans (congrArg some (by kernel_rfl))
 f48:=Tryz.func175.trans (congrArg some (by kernel_rfl))
 f49:=⟨ "slices.medianAdjacentCmpFunc[caesura/api.Range]",by decide,Tryz.func193.trans (congrArg some (by kernel_rfl))⟩
 f50:=⟨ "slices.medianCmpFunc[caesura/api.Range]",by decide,Tryz.func194.trans (congrArg some (by kernel_rfl))⟩
 f57:=⟨ "slices.order2CmpFunc[caesura/api.Range]",by decide,Tryz.func207.trans (congrArg some (by kernel_rfl))⟩
 t0:=Tryz.underlying0
 a0:=Tryz.isAgg0
 z0:=Tryz.sizeOf0
 v0:=Tryz.zeroValue0
 t3:=Tryz.underlying3
 a3:=Tryz.isAgg3
 z3:=Tryz.sizeOf3
 v3:=Tryz.zeroValue3
 t4:=Tryz.underlying4
 a4:=Tryz.isAgg4
 z4:=Tryz.sizeOf4
 v4:=Tryz.zeroValue4
 t5:=Tryz.underlying5
 a5:=Tryz.isAgg5
 z5:=Tryz.sizeOf5
 v5:=Tryz.zeroValue5
 t9:=Tryz.underlying9
 a9:=Tryz.isAgg9
 z9:=Tryz.sizeOf9
 v9:=Tryz.zeroValue9
 t22:=Tryz.underlying40
 a22:=Tryz.isAgg40
 z22:=Tryz.sizeOf40
 v22:=Tryz.zeroValue40
 t25:=Tryz.underlying197
 a25:=Tryz.isAgg197
 z25:=Tryz.sizeOf197
 v25:=Tryz.zeroValue197
 t39:=Tryz.underlying103
 a39:=Tryz.isAgg103
 z39:=Tryz.sizeOf103
 v39:=Tryz.zeroValue103
 t45:=Tryz.underlying236
 a45:=Tryz.isAgg236
 z45:=Tryz.sizeOf236
 v45:=Tryz.zeroValue236
 t46:=Tryz.underlying237
 a46:=Tryz.isAgg237
 z46:=Tryz.sizeOf237
 v46:=Tryz.zeroValue237
 t50:=Tryz.underlying168
 a50:=Tryz.isAgg168
 z50:=Tryz.sizeOf168
 v50:=Tryz.zeroValue168
 t53:=Tryz.underlying244
 a53:=Tryz.isAgg244
 z53:=Tryz.sizeOf244
 v53:=Tryz.zeroValue244
 t55:=Tryz.underlying246
 a55:=Tryz.isAgg246
 z55:=Tryz.sizeOf246
 v55:=Tryz.zeroValue246
 t66:=Tryz.underlying254
 a66:=Tryz.isAgg254
 z66:=Tryz.sizeOf254
 v66:=Tryz.zeroValue254
 t70:=Tryz.underlying258
 a70:=Tryz.isAgg258
 z70:=Tryz.sizeOf258
 v70:=Tryz.zeroValue258
 t76:=Tryz.underlying278
 a76:=Tryz.isAgg278
 z76:=Tryz.sizeOf278
 v76:=Tryz.zeroValue278
 t77:=Tryz.underlying97
 a77:=Tryz.isAgg97
 z77:=Tryz.sizeOf97
 v77:=Tryz.zeroValue97 }
def cmpR (x y:Rg):Int:=cmpI x.1 y.1
theorem ltCmpR (x y:Rg):Go.Proofs.ltOf cmpR x y=decide (x.1<y.1):=by
 unfold Go.Proofs.ltOf cmpR cmpI;rw[decide_eq_decide];split
 ·simp[*]
 ·split<;>simp[*]
theorem swoR:SWO (Go.Proofs.ltOf cmpR) where
 irrefl x:=by rw[ltCmpR];simp
 trans x y z h1 h2:=by rw[ltCmpR]at *;simp at *;omega
 ntrans x y z h1 h2:=by rw[ltCmpR]at *;simp at *;omega
theorem cmpLaysR (blk off size:Nat)(w:World):Go.Proofs.CmpLays Tryz.prog 113 #[] encR 2 cmpR blk off size w:=fun m os dk hd x y=>by
 have h:=calls_of_fun (closure_c x y (Go.Proofs.sortWorldK encR 2 w blk off m dk os));have e:#[Value.agg (encR x).toArray,Value.agg (encR y).toArray]++#[]=[Value.agg #[.int .i64 x.1,.int .i64 x.2],Value.agg #[.int .i64 y.1,.int .i64 y.2]].toArray:=rfl;rw[e];refine h.mono ?_;rintro e w' ⟨v,rfl,rfl,os',rfl⟩;exact⟨rfl,0,os',rfl⟩
theorem keptSorted {w:World}{g n:Nat}{os:Array Obj}(d:Array Rg):Kept (fun j=>j=g) w (Go.Proofs.sortWorldK encR 2 w g 0 n d os):=by
 refine⟨rfl,rfl,rfl,?_,fun k hk hne=>?_⟩
 ·exact Go.Proofs.size_sortWorldK_c encR 2 w g 0 n d os
 ·unfold Go.Proofs.sortWorldK putRowK;rw[heap_grow_old _ _ (by simpa using hk)];simp[putRow,mapBlock,Go.Sort.ahead,Array.getElem?_modify,Ne.symm hne]
theorem sort_c (l:List Rg)(hl:l.length<1000000000)(base:Nat)(v:Value)(w:World)(ho:Vc.Own base 46 2 encR w v l)(hb:base≤w.heap.size) :
  Fun Tryz.prog 112 [v,.func (.func 113) #[] #[]] w fun r w'=>(∃m,m.Perm l∧Rising m∧Sl (fun b=>v.ownBlock≠some b) 2 (En encR) w' v m)∧Kept (fun j=>v.ownBlock=some j) w w':=by
 refine fun_of_calls Tryz.func112 (by kernel_rfl) (by kernel_rfl) ?_;cases hn:l with
 | nil =>
  subst hn;have hsh:=ho.slice;obtain⟨a,c,rfl⟩:=hsh;refine(AnyF.slices_SortFunc_none sortR a c (.func (.func 113) #[] #[]) w).mono ?_;rintro e w' ⟨rfl,rfl⟩;exact⟨_,rfl,⟨[],List.Perm.refl _,List.Pairwise.nil,Sl.nil _ _ _ _ _ _⟩,Kept.refl _ _⟩
 | cons y ys =>
  rw[←hn];have hpos:0<l.length:=by rw[hn];exact Nat.succ_pos _
  have hsh:=ho.slice;obtain⟨a,c,rfl⟩:=hsh;cases a with
  | none=>have:=ho.nilArg _ _ rfl;omega
  | some ad =>
   have hg0:=ownAt0 ho;obtain⟨g,rfl⟩:=hg0;have hgb:=ho.block g rfl;have hH:=holdsOf ho;have hcon:=AnyQ.slices_SortFunc sortR 2 Tryz.isAgg46 Tryz.sizeOf46 encR (fun _=>rfl) encR_one cmpR swoR 113 #[] g 0 c l.toArray w (fun args w=>callFunc_enter Tryz.func113 (by kernel_rfl) (by kernel_rfl)) (cmpLaysR g 0 l.toArray.size w) hH hgb.2 (by rw[List.size_toArray];omega);rw[List.size_toArray]at hcon
   refine Calls.mono hcon ?_;rintro e w' ⟨rfl,d',n,os,hp,hs,rfl⟩;have hsz:d'.size=l.length:=by have:=hp.1;simpa using this
   have hperm:d'.toList.Perm l:=by
    have:=hp.2.2;rw[Array.extract_eq_self_of_le (by omega),Array.extract_eq_self_of_le (by simp)]at this;simpa using this
   have hH':=Go.Proofs.holdsK_sortWorldK_c encR 2 w g 0 l.toArray d' n os hH hgb.2 (by simpa using hsz);refine⟨_,rfl,⟨d'.toList,hperm,?_,?_⟩,(keptSorted d').weaken (fun i _ h=>by rw[h];rfl)⟩
   ·refine List.pairwise_iff_getElem.2 fun i j hi hj hij=>?_;rw[Array.length_toList]at hi hj;have:=hs i j (Nat.zero_le _) hij (by omega);rw[ltCmpR,decide_eq_false_iff_not]at this;simp only[getElem!_pos d' i hi,getElem!_pos d' j hj]at this;simp only[Array.getElem_toList];omega
   ·exact slSorted hsz ((ho.sl.shape).elim (fun a h=>h.elim fun c' h=>by cases h.1;exact h.2)) hH'
end Go.Proofs.YtledlfbbebodgaaGreatDoor
end
section
namespace Go.Proofs.YtledlfbbebodgaaGreatDoor
open Go.Vc Go.Proofs Go.RowKit Cae
attribute [local irreducible] wpL callK valK unitK runK Fun Sl Vc.Own vc vcOps opK pureK
theorem of_c (l:List Rg)(hl:l.length<100000000)(X:Nat→Prop)(v:Value)(w:World)(hv:Sl X 2 (En encR) w v l)(ha:Arg v) :
  Fun Tryz.prog 67 [v] w fun r w'=>Vc.Own w.heap.size 46 2 encR w' r (setOf l)∧Below w.heap.size w w':=by
 obtain⟨a,c,rfl,hc⟩:=hv.shape;refine fun_of_vc Tryz.func67 rfl (by kernel_rfl) [2] rfl ?_;simp -dsimp (maxSteps:=4000000) only[push_cast,fr0,Tryz.ntmps67,List.length_cons,List.length_nil,Nat.reduceAdd,Nat.reduceSub,Nat.reduceBEq,List.replicate_succ,List.replicate_zero];refine callK_of (cloneR_c l (by omega) X _ w hv ha) ?_;rintro v1 w1 ⟨ho1,hb1⟩;have sz1:=hb1.size
 simp -dsimp only[push_cast,Nat.reduceAdd,Nat.reduceLeDiff,Nat.reduceBEq,Int.reduceNe,Int.reduceEq,Int.reduceLT,Int.reduceLE];refine callK_of (sort_c l (by omega) w.heap.size v1 w1 ho1 sz1) ?_;rintro r2 w2 ⟨⟨m,hp,hR,hs2⟩,hk2⟩;have sz2:=hk2.size;have hml:=hp.length_eq;have hb2:Below w.heap.size w w2:=hb1.trans (hk2.below sz1 (fun g h=>(ho1.block g h).1));have hsh:=ho1.slice;obtain⟨va,vc,rfl⟩:=hsh
 have hof:=setOf_any hp hR;have hgX:∃X1,X1=(fun b=>(Value.slice va l.length vc).ownBlock≠some b):=⟨_,rfl⟩;obtain⟨X1,hX1⟩:=hgX;rw[←hX1]at hs2;have hX2:∀b,w2.heap.size≤b→X1 b:=fun b hb=>by
  rw[hX1];intro h;have:=(ho1.block b h).2;omega
 simp -dsimp only[push_cast,Nat.reduceAdd,Nat.reduceLeDiff,Nat.reduceBEq,Int.reduceNe,Int.reduceEq,Int.reduceLT,Int.reduceLE]
 refine wpL_loop [3,5,6,13,14,15,16,17,18,19,20,21,22,23,24,25,26,27,28,29,30,31,32,33,34,35,36,37,38,39,40,41,42,43,44,45,46,47,48,49,50,51,52,53,54,55,56,57,58,59,60,61,62] (fun z wx=>∃(i:Nat) (ov:Value),z 13=.int .i64 i∧z 3=ov∧i≤l.length∧Vc.Own w2.heap.size 46 2 encR wx ov (ofFold (m.take i))∧Below w2.heap.size w2 wx) (fun z _=>l.length-(intOf (z 13)).toNat) ?_ ?_
 ·refine⟨0,_,rfl,rfl,Nat.zero_le _,?_,Below.refl _ _⟩;rw[List.take_zero];exact Vc.Own.nil (enc:=encR) _ _ (fun _=>rfl) _
 ·intro z wx hI;obtain⟨i,ov,h13,h3,hi,hox,hbx⟩:=hI;have szx:=hbx.size;simp -dsimp only[push_cast,Nat.reduceAdd,Nat.reduceLeDiff,Nat.reduceBEq,Int.reduceNe,Int.reduceEq,Int.reduceLT,Int.reduceLE,h13,h3];refine⟨fun hlt=>?_,fun hge=>?_⟩
  ·have hg:=lt_get (l:=m) (i:=i) (by omega);obtain⟨x,hx,hxm,_⟩:=hg;have hsx:=hs2.below hbx;rw[←hml]at hsx;have hg:=hsx.get hx;obtain⟨b,o,rfl,hnb,hcell⟩:=hg;have cx:cellsAt wx ⟨b,o+i*2,none⟩ 0 2=some [.int .i64 x.1,.int .i64 x.2]:=cellsAt_of (encR x) 0 (fun j u hu=>by simpa using hcell j u hu);have est:ofFold (m.take (i+1))=ofStep (ofFold (m.take i)) x:=by
    unfold ofFold;rw[List.take_add_one,hx,List.foldl_append];rfl
   have hol:=ofFold_len (m.take i);rw[List.length_take]at hol;have hsh:=hox.slice;obtain⟨oa,oc,rfl⟩:=hsh;have hgo:∃out,ofFold (m.take i)=out:=⟨_,rfl⟩;obtain⟨out,hout⟩:=hgo;rw[hout]at hox est hol;rw[hout];simp -dsimp only[push_cast,Nat.reduceAdd,Nat.reduceLeDiff,Nat.reduceBEq,Int.reduceNe,Int.reduceEq,Int.reduceLT,Int.reduceLE,cx];refine⟨⟨by omega,by omega⟩,?_⟩
   refine allocK (z:=[.int .i64 0,.int .i64 0]) (by kernel_rfl) ?_;intro w3 hw3;have sz3:=hw3.size;simp -dsimp only[push_cast,Nat.reduceAdd,Nat.reduceLeDiff,Nat.reduceBEq,Int.reduceNe,Int.reduceEq,Int.reduceLT,Int.reduceLE];refine storeAgg (n:=2) (by kernel_rfl) hw3.blk rfl (by simp) (by simp[Value.oneCell']) ?_;intro w4 hw4;have sz4:=hw4.size
   have c0:w4.cell? ⟨wx.heap.size,0,none⟩=some (.int .i64 x.1):=hw4.blk.cell rfl;have c1:w4.cell? ⟨wx.heap.size,1,none⟩=some (.int .i64 x.2):=hw4.blk.cell rfl;have hgl:∃lo,max x.1 0=lo:=⟨_,rfl⟩;obtain⟨lo,hlo⟩:=hgl;have hgh:∃hi',min x.2 1114111=hi':=⟨_,rfl⟩;obtain⟨hi',hhi⟩:=hgh;have hlo1:(if 0>x.1 then 0 else x.1)=lo:=by rw[←hlo];split<;>omega
   have hhi1:(if 1114111<x.2 then 1114111 else x.2)=hi':=by rw[←hhi];split<;>omega
   simp -dsimp only[push_cast,Nat.reduceAdd,Nat.reduceLeDiff,Nat.reduceBEq,Int.reduceNe,Int.reduceEq,Int.reduceLT,Int.reduceLE,c0,c1,hlo1,hhi1];refine storeK_of hw4.blk (by simp) rfl ?_;intro w5 hw5;have sz5:w5.heap.size=w4.heap.size:=hw5.size;simp -dsimp only[push_cast,Nat.reduceAdd,Nat.reduceLeDiff,Nat.reduceBEq,Int.reduceNe,Int.reduceEq,Int.reduceLT,Int.reduceLE]
   refine storeK_of hw5.blk (by simp) rfl ?_;intro w6 hw6;have sz6:w6.heap.size=w5.heap.size:=hw6.size;have hX6:Blk w6 wx.heap.size 46 [.int .i64 lo,.int .i64 hi']:=hw6.blk;have k6:Kept (fun j=>j=wx.heap.size) wx w6:=(((Kept.new hw3).trans hw4.kept (fun _ _ h=>h)).trans hw5.kept (fun _ _ h=>h)).trans hw6.kept (fun _ _ h=>h);have ho6:=hox.keptX k6 (fun g hg h=>by have:=hox.block g hg;omega)
   have hb6:Below w2.heap.size w2 w6:=hbx.trans (k6.below szx (fun _ h=>by omega));have e0:w6.cell? ⟨wx.heap.size,0,none⟩=some (.int .i64 lo):=hX6.cell rfl;have e1:w6.cell? ⟨wx.heap.size,1,none⟩=some (.int .i64 hi'):=hX6.cell rfl;simp -dsimp only[push_cast,Nat.reduceAdd,Nat.reduceLeDiff,Nat.reduceBEq,Int.reduceNe,Int.reduceEq,Int.reduceLT,Int.reduceLE,e0,e1];refine⟨fun hgt=>?_,fun hle=>?_⟩
   ·have hst:ofStep out x=out:=by unfold ofStep;rw[hlo,hhi,if_pos (by omega)]
    rw[hst]at est;rw[←est]at ho6;exact⟨⟨by omega,by omega⟩,⟨i+1,_,rfl,by rw[est],by omega,ho6,hb6⟩,by rw[h13];simp only[intOf];omega⟩
   ·refine⟨⟨by omega,by omega⟩,?_⟩;cases hn:out.length with
    | zero =>
     have hnil:out=[]:=List.eq_nil_of_length_eq_zero hn;subst hnil;have hst:ofStep [] x=[]++[(lo,hi')]:=by unfold ofStep;rw[hlo,hhi,if_neg (by omega)];rfl
     refine wpL_draw (fun w'=>w'=w6.drew) mixed (by kernel_rfl) rfl ?_;simp -dsimp only[push_cast,Nat.reduceAdd,Nat.reduceLeDiff,Nat.reduceBEq,Int.reduceNe,Int.reduceEq,Int.reduceLT,Int.reduceLE];refine⟨fun h=>absurd h (by simp),fun _=>?_⟩;rw[hst]at est;have d7:cellsAt w6.drew ⟨wx.heap.size,0,none⟩ 0 2=some [.int .i64 lo,.int .i64 hi']:=hX6.drew.cellsAt
     simp -dsimp only[push_cast,Nat.reduceAdd,Nat.reduceLeDiff,Nat.reduceBEq,Int.reduceNe,Int.reduceEq,Int.reduceLT,Int.reduceLE,d7];refine rowK elI_41 rfl rfl (by omega) ?_;intro w7 hw7;have sz7:w7.heap.size=w6.heap.size+1:=hw7.size;have ho7:=(ho6.keptX (Kept.refl (fun _=>False) _).drew (fun _ _ h=>h)).new hw7
     simp -dsimp only[push_cast,Nat.reduceAdd,Nat.reduceLeDiff,Nat.reduceBEq,Int.reduceNe,Int.reduceEq,Int.reduceLT,Int.reduceLE];refine appendK2 (base:=w2.heap.size) [(lo,hi')] (enc:=encR) elI_41 ho7 (by rfl) (fun j u hu=>by simpa[encR] using hw7.cell hu) encR_one (by simp only[List.length_cons,List.length_nil];omega) (by omega) ?_;intro v8 w8 ho8 hg8 hn8
     have k8:Kept (fun j=>(Value.slice oa ([]:List Rg).length oc).ownBlock=some j) w6 w8:=(((Kept.refl _ w6).drew).trans (Kept.new (X:=fun j=>(Value.slice oa ([]:List Rg).length oc).ownBlock=some j) hw7) (fun _ _ h=>h)).trans (Kept.grown hg8 (fun _ h=>h)) (fun _ _ h=>h);rw[←est]at ho8
     simp -dsimp only[push_cast,Nat.reduceAdd,Nat.reduceLeDiff,Nat.reduceBEq,Int.reduceNe,Int.reduceEq,Int.reduceLT,Int.reduceLE];exact⟨⟨by omega,by omega⟩,⟨i+1,_,rfl,rfl,by omega,ho8,hb6.trans (k8.below (by omega) (fun g h=>(ho6.block g h).1))⟩,by rw[h13];simp only[intOf];omega⟩
    | succ n =>
     have e6:((n:Nat):Int)+1-1=((n:Nat):Int):=by omega
     have hq:=List.getElem?_eq_getElem (l:=out) (i:=n) (by omega);have hgq:∃q,out[n]'(by omega)=q:=⟨_,rfl⟩;obtain⟨q,hqe⟩:=hgq;rw[hqe]at hq;have hlast:out.getLast?=some q:=by rw[List.getLast?_eq_getElem?,hn];exact hq
     have hinv:=(ofFold_inv i m hR (by omega)).1.right;rw[hout]at hinv;have hqr:=setRight_sorted out (-2) hinv n q hq;have hg:=ho6.sl.get hq;obtain⟨g,o',rfl,_,hcq⟩:=hg;have ho0:o'=0:=Vc.Own.at0R ho6;subst ho0;have c2:w6.drew.cell? ⟨g,n*2+1,none⟩=some (.int .i64 q.2):=by have:=hcq 1 _ rfl;simpa using this
     have f0:w6.drew.cell? ⟨wx.heap.size,0,none⟩=some (.int .i64 lo):=e0;have f1:w6.drew.cell? ⟨wx.heap.size,1,none⟩=some (.int .i64 hi'):=e1;have L:∀{ad:Addr} {u:Value},w6.drew.cell? ad=some u→∀w'':World,w''=w6.drew→optK (w''.cell? ad) (fun x=>x=u) .mk:=fun h w'' e=>by rw[e,h];exact rfl
     refine wpL_draw (fun w'=>w'=w6.drew) mixed (by kernel_rfl) rfl ?_;simp -dsimp only[push_cast,Nat.reduceAdd,Nat.reduceLeDiff,Nat.reduceBEq,Int.reduceNe,Int.reduceEq,Int.reduceLT,Int.reduceLE,e6,f0,c2];rw[hn]at ho6;refine⟨fun _=>⟨L f0,⟨by omega,by omega⟩,L c2,⟨by omega,by omega⟩,fun hm=>?_,fun hm=>?_⟩,fun h=>absurd (Int.natCast_nonneg n) h⟩
     ·have hst:ofStep out x=out.set n (q.1,max q.2 hi'):=by
       unfold ofStep;rw[hlo,hhi,if_neg (by omega),hlast];dsimp only;rw[if_pos hm,List.dropLast_eq_take,hn,List.set_eq_take_append_cons_drop,if_pos (by omega),List.drop_eq_nil_of_le (by omega)];rfl
      rw[hst]at est;have L2:∀{ad:Addr} {u:Value},w6.drew.drew.cell? ad=some u→∀w'':World,w''=w6.drew.drew→optK (w''.cell? ad) (fun x=>x=u) .mk:=fun h w'' e=>by rw[e,h];exact rfl
      have c2':w6.drew.drew.cell? ⟨g,n*2+1,none⟩=some (.int .i64 q.2):=c2;have f1':w6.drew.drew.cell? ⟨wx.heap.size,1,none⟩=some (.int .i64 hi'):=f1;have hmx:(if hi'>q.2 then hi' else q.2)=max q.2 hi':=by split<;>omega
      refine wpL_last (fun w'=>w'=w6.drew.drew) mixed (by kernel_rfl) (List.cons_ne_nil _ _) rfl ?_;simp -dsimp only[push_cast,Nat.reduceAdd,Nat.reduceLeDiff,Nat.reduceBEq,Int.reduceNe,Int.reduceEq,Int.reduceLT,Int.reduceLE,c2',f1',hmx];refine⟨⟨by omega,by omega⟩,L2 c2',L2 f1',⟨by omega,by omega⟩,?_⟩;have hod:=ho6.keptX ((Kept.refl (fun _=>False) _).drew.drew) (fun _ _ h=>h)
      refine storeOwnF (i:=n) (f:=1) (y:=(q.1,max q.2 hi')) hod rfl hq (by omega) rfl rfl ?_;intro w8 ho8 hk8 sz8;have k8:Kept (fun j=>j=g) w6 w8:=((Kept.refl (fun j=>j=g) w6).drew.drew).trans hk8 (fun _ _ h=>h);have hgb:=(ho6.block g rfl).1;refine⟨trivial,?_⟩;simp -dsimp only[push_cast,Nat.reduceAdd,Nat.reduceLeDiff,Nat.reduceBEq,Int.reduceNe,Int.reduceEq,Int.reduceLT,Int.reduceLE];rw[←est]at ho8
      exact⟨⟨by omega,by omega⟩,⟨i+1,_,rfl,rfl,by omega,ho8,hb6.trans (k8.below (by omega) (fun j h=>by omega))⟩,by rw[h13];simp only[intOf];omega⟩
     ·have hst:ofStep out x=out++[(lo,hi')]:=by
       unfold ofStep;rw[hlo,hhi,if_neg (by omega),hlast];dsimp only;rw[if_neg hm]
      rw[hst]at est;have d7:cellsAt w6.drew ⟨wx.heap.size,0,none⟩ 0 2=some [.int .i64 lo,.int .i64 hi']:=hX6.drew.cellsAt;simp -dsimp only[push_cast,Nat.reduceAdd,Nat.reduceLeDiff,Nat.reduceBEq,Int.reduceNe,Int.reduceEq,Int.reduceLT,Int.reduceLE,d7];refine rowK elI_41 rfl rfl (by omega) ?_;intro w7 hw7;have sz7:w7.heap.size=w6.heap.size+1:=hw7.size
      have ho7:=(ho6.keptX (Kept.refl (fun _=>False) _).drew (fun _ _ h=>h)).new hw7;simp -dsimp only[push_cast,Nat.reduceAdd,Nat.reduceLeDiff,Nat.reduceBEq,Int.reduceNe,Int.reduceEq,Int.reduceLT,Int.reduceLE]
      refine appendK2 (base:=w2.heap.size) [(lo,hi')] (enc:=encR) elI_41 ho7 (by rfl) (fun j u hu=>by simpa[encR] using hw7.cell hu) encR_one (by simp only[List.length_cons,List.length_nil];omega) (by omega) ?_;intro v8 w8 ho8 hg8 hn8
      have k8:Kept (fun j=>(Value.slice (some ⟨g,0,none⟩) (n+1) oc).ownBlock=some j) w6 w8:=(((Kept.refl _ w6).drew).trans (Kept.new (X:=fun j=>(Value.slice (some ⟨g,0,none⟩) (n+1) oc).ownBlock=some j) hw7) (fun _ _ h=>h)).trans (Kept.grown hg8 (fun _ h=>h)) (fun _ _ h=>h);rw[←est]at ho8
      simp -dsimp only[push_cast,Nat.reduceAdd,Nat.reduceLeDiff,Nat.reduceBEq,Int.reduceNe,Int.reduceEq,Int.reduceLT,Int.reduceLE];exact⟨⟨by omega,by omega⟩,⟨i+1,_,rfl,rfl,by omega,ho8,hb6.trans (k8.below (by omega) (fun g h=>(ho6.block g h).1))⟩,by rw[h13];simp only[intOf];omega⟩
  ·have hin:i=m.length:=by omega
   subst hin;have hsh:=hox.slice;obtain⟨oa,oc,rfl⟩:=hsh;rw[List.take_length,hof]at hox;rw[List.take_length,hof];exact⟨hox.mono (by omega),hb2.trans (hbx.mono (by omega))⟩
theorem not_c (s:List Rg)(hs:s.length<100000000)(hr:setRight (-2) s=true)(X:Nat→Prop)(v:Value)(w:World)(hv:Sl X 2 (En encR) w v s) :
  Fun Tryz.prog 39 [v] w fun r w'=>Vc.Own w.heap.size 46 2 encR w' r (setNot s)∧Below w.heap.size w w':=by
 obtain⟨a,c,rfl,hc⟩:=hv.shape;refine fun_of_vc Tryz.func39 rfl (by kernel_rfl) [2] rfl ?_;push_cast -dsimp(maxSteps:=4000000) [Tryz.ntmps39]
 refine wpL_loop [3,4,6,9,10,11,12,13,14,15,16,17,18,19,20,21,22,23,24,25,26,27,28] (fun z wx=>∃(i:Nat) (f:Int) (out:List Rg) (ov:Value),z 9=.int .i64 i∧z 4=.int .i64 f∧z 3=ov∧i≤s.length∧0≤f∧f≤1114112∧out.length≤i∧out++notGo f (s.drop i)=setNot s∧Vc.Own w.heap.size 46 2 encR wx ov out∧Below w.heap.size w wx) (fun z _=>s.length-(intOf (z 9)).toNat) ?_ ?_
 ·exact⟨0,0,[],_,rfl,rfl,rfl,Nat.zero_le _,by omega,by omega,Nat.le_refl _,rfl,Vc.Own.nil (enc:=encR) _ _ (fun _=>rfl) _,Below.refl _ _⟩
 ·intro z wx hI;obtain⟨i,f,out,ov,h9,h4,h3,hi,hf0,hf1,hol,hout,hox,hbx⟩:=hI;have szx:=hbx.size;push_cast -dsimp[h9,h4,h3];refine⟨fun hlt=>?_,fun hge=>?_⟩
  ·have hg:=lt_get (l:=s) (i:=i) (by omega);obtain⟨x,hx,hxm,hdx,_⟩:=hg;have hb:=setRight_sorted s (-2) hr i x hx;obtain⟨b1,b2,b3,_⟩:=hb;have hg:=(hv.below hbx).get hx;obtain⟨b,o,rfl,hnb,hcell⟩:=hg;have cx:cellsAt wx ⟨b,o+i*2,none⟩ 0 2=some [.int .i64 x.1,.int .i64 x.2]:=cellsAt_of (encR x) 0 (fun j u hu=>by simpa using hcell j u hu);have hsh:=hox.slice;obtain⟨oa,oc,rfl⟩:=hsh;rw[hdx,notGo]at hout
   push_cast -dsimp[cx];refine⟨⟨by omega,by omega⟩,?_⟩;refine allocK (z:=[.int .i64 0,.int .i64 0]) (by kernel_rfl) ?_;intro w3 hw3;have sz3:=hw3.size;push_cast -dsimp;refine storeAgg (n:=2) (by kernel_rfl) hw3.blk rfl (by simp) (by simp[Value.oneCell']) ?_;intro w4 hw4;have sz4:w4.heap.size=w3.heap.size:=hw4.size;have c0:w4.cell? ⟨wx.heap.size,0,none⟩=some (.int .i64 x.1):=hw4.blk.cell rfl
   have c1:w4.cell? ⟨wx.heap.size,1,none⟩=some (.int .i64 x.2):=hw4.blk.cell rfl;have k4:Kept (fun j=>j=wx.heap.size) wx w4:=(Kept.new hw3).trans hw4.kept (fun _ _ h=>h);have ho4:=hox.keptX k4 (fun g hg h=>by have:=hox.block g hg;omega);have hb4:Below w.heap.size w w4:=hbx.trans (k4.below szx (fun _ h=>by omega));push_cast -dsimp[c0,c1];refine⟨fun hlt=>?_,fun hge=>?_⟩
   ·rw[if_pos hlt,←List.append_assoc]at hout;refine⟨⟨by omega,by omega⟩,?_⟩;refine rowK elI_41 rfl rfl (by omega) ?_;intro w7 hw7;have sz7:=hw7.size;have ho7:=ho4.new hw7;push_cast -dsimp;refine appendK2 (base:=w.heap.size) [(f,x.1-1)] (enc:=encR) elI_41 ho7 (by rfl) (fun j u hu=>by simpa[encR] using hw7.cell hu) encR_one (by simp only[List.length_cons,List.length_nil];omega) (by omega) ?_
    intro v8 w8 ho8 hg8 hn8;have k8:Kept (fun j=>(Value.slice oa out.length oc).ownBlock=some j) w4 w8:=(Kept.new (X:=fun j=>(Value.slice oa out.length oc).ownBlock=some j) hw7).trans (Kept.grown hg8 (fun _ h=>h)) (fun _ _ h=>h);have hb8:Below w.heap.size w w8:=hb4.trans (k8.below (by omega) (fun g h=>(ho4.block g h).1))
    have d1:w8.cell? ⟨wx.heap.size,1,none⟩=some (.int .i64 x.2):=k8.cell c1 (fun h=>by have h2:w.heap.size≤wx.heap.size∧wx.heap.size<wx.heap.size:=hox.block _ h;omega);push_cast -dsimp[d1]
    exact⟨⟨by omega,by omega⟩,⟨by omega,by omega⟩,⟨i+1,x.2+1,out++[(f,x.1-1)],_,rfl,rfl,rfl,by omega,by omega,by omega,by rw[List.length_append,List.length_singleton];omega,hout,ho8,hb8⟩,by rw[h9];simp only[intOf];omega⟩
   ·rw[if_neg (by omega),List.nil_append]at hout;exact⟨⟨by omega,by omega⟩,⟨by omega,by omega⟩,⟨i+1,x.2+1,out,_,rfl,rfl,rfl,by omega,by omega,by omega,by omega,hout,ho4,hb4⟩,by rw[h9];simp only[intOf];omega⟩
  ·have hin:i=s.length:=by omega
   subst hin;have hsh:=hox.slice;obtain⟨oa,oc,rfl⟩:=hsh;rw[List.drop_length,notGo]at hout;refine⟨fun hle=>?_,fun hgt=>?_⟩
   ·rw[if_pos hle]at hout;refine rowK elI_41 rfl rfl (by omega) ?_;intro w7 hw7;have sz7:=hw7.size;have ho7:=hox.new hw7;push_cast -dsimp;refine appendK2 (base:=w.heap.size) [(f,1114111)] (enc:=encR) elI_41 ho7 (by rfl) (fun j u hu=>by simpa[encR] using hw7.cell hu) encR_one (by simp only[List.length_cons,List.length_nil];omega) (by omega) ?_;intro v8 w8 ho8 hg8 hn8
    have k8:Kept (fun j=>(Value.slice oa out.length oc).ownBlock=some j) wx w8:=(Kept.new (X:=fun j=>(Value.slice oa out.length oc).ownBlock=some j) hw7).trans (Kept.grown hg8 (fun _ h=>h)) (fun _ _ h=>h);rw[hout]at ho8;push_cast -dsimp;exact⟨ho8,hbx.trans (k8.below szx (fun g h=>(hox.block g h).1))⟩
   ·rw[if_neg (by omega),List.append_nil]at hout;subst hout;exact⟨hox,hbx⟩
theorem concLen {α β:Type}(L:List α)(f:α→List β)(i:Nat):((L.take i).flatMap f).length≤(L.flatMap f).length:=by
 conv=>rhs;rw[←List.take_append_drop i L,List.flatMap_append,List.length_append]
 omega
theorem concat_c (Ls:List (Value×List Rg))(hl:(Ls.flatMap (·.2)).length<100000000)(hn:Ls.length<1000000)(X:Nat→Prop)(g c:Nat)(hc:Ls.length≤c)(w:World)
  (hv:∀(i:Nat) (p:Value×List Rg),Ls[i]?=some p→w.cell? ⟨g,i,none⟩=some p.1∧Sl X 2 (En encR) w p.1 p.2∧Arg p.1) :
  Fun Tryz.prog 68 [.slice (some ⟨g,0,none⟩) Ls.length c] w fun r w'=>Vc.Own w.heap.size 46 2 encR w' r (Ls.flatMap (·.2))∧Below w.heap.size w w':=by
 refine fun_of_vc Tryz.func68 rfl (by kernel_rfl) [2] rfl ?_;push_cast -dsimp(maxSteps:=4000000) [Tryz.ntmps68];refine wpL_loop [3,5,11,12,13,14,15,16,17,18,19,20,21,22] (fun z wx=>∃(i:Nat),z 11=.int .i64 i∧z 3=.int .i64 (((Ls.take i).flatMap (·.2)).length:Nat)∧i≤Ls.length∧wx=w) (fun z _=>Ls.length-(intOf (z 11)).toNat) ?_ ?_
 ·exact⟨0,rfl,rfl,Nat.zero_le _,rfl⟩
 ·intro z wx hI;obtain⟨i,h11,h3,hi,rfl⟩:=hI;have hcl:=concLen Ls (·.2) i;have hcl1:=concLen Ls (·.2) (i+1);push_cast -dsimp[h11,h3];refine⟨fun hlt=>?_,fun hge=>?_⟩
  ·have hg:=lt_get (l:=Ls) (i:=i) (by omega);obtain⟨p,hp,_,_,ht⟩:=hg;have hvp:=hv i p hp;obtain⟨c0,hs,hA⟩:=hvp;have c0':=c0;have e1:((Ls.take (i+1)).flatMap (·.2)).length=((Ls.take i).flatMap (·.2)).length+p.2.length:=by
    rw[ht,List.flatMap_append,List.length_append];simp
   have hsh:=hs.shape;obtain⟨pa,pc,hpv,hpc⟩:=hsh;rw[hpv]at c0';push_cast -dsimp[c0'];refine⟨⟨by omega,by omega⟩,⟨by omega,by omega⟩,fun h=>absurd h (by omega),fun _=>⟨⟨by omega,by omega⟩,⟨i+1,rfl,by rw[e1,Int.natCast_add],by omega⟩,by rw[h11];simp only[intOf];omega⟩⟩
  ·have hin:i=Ls.length:=by omega
   subst hin;rw[List.take_length];refine callK_of (grow_c _ (by omega) wx) ?_;rintro v1 w1 ⟨ho1,hb1⟩;have sz1:=hb1.size;push_cast -dsimp;refine wpL_loop [6,8,27,28,29,30,31,32,33,34] (fun z w2=>∃(i:Nat) (ov:Value),z 27=.int .i64 i∧z 6=ov∧i≤Ls.length∧Vc.Own wx.heap.size 46 2 encR w2 ov ((Ls.take i).flatMap (·.2))∧Below wx.heap.size wx w2) (fun z _=>Ls.length-(intOf (z 27)).toNat) ?_ ?_
   ·exact⟨0,_,rfl,rfl,Nat.zero_le _,ho1,hb1⟩
   ·intro y w2 hJ;obtain⟨i,ov,h27,h6,hi,ho2,hb2⟩:=hJ;have sz2:=hb2.size;have hcl:=concLen Ls (·.2) i;have hcl1:=concLen Ls (·.2) (i+1);push_cast -dsimp[h27,h6];refine⟨fun hlt=>?_,fun hge=>?_⟩
    ·have hg:=lt_get (l:=Ls) (i:=i) (by omega);obtain⟨p,hp,_,_,ht⟩:=hg;have hvp:=hv i p hp;obtain⟨c0,hs,hA⟩:=hvp;have c0':w2.cell? ⟨g,i,none⟩=some p.1:=(hb2.cell (World.block_lt_of_cell? _ _ c0)).trans c0;have hsh:=hs.shape;obtain⟨pa,pc,hpv,hpc⟩:=hsh;rw[hpv]at c0' hs hA;have e1:(Ls.take (i+1)).flatMap (·.2)=(Ls.take i).flatMap (·.2)++p.2:=by
      rw[ht,List.flatMap_append];simp
     have e2:=congrArg List.length e1;rw[List.length_append]at e2;have hsh:=ho2.slice;obtain⟨oa,oc,rfl⟩:=hsh;push_cast -dsimp[c0'];refine⟨⟨by omega,by omega⟩,?_⟩;refine appendAny (base:=wx.heap.size) (enc:=encR) (ys:=p.2) elI_41 ho2 (hs.below hb2) hA encR_one (by omega) (by omega) ?_;intro v3 w3 ho3 hg3 hb3;rw[←e1]at ho3;push_cast -dsimp
     exact⟨⟨by omega,by omega⟩,⟨i+1,_,rfl,rfl,by omega,ho3,hb2.trans hb3⟩,by rw[h27];simp only[intOf];omega⟩
    ·have hin:i=Ls.length:=by omega
     subst hin;rw[List.take_length]at ho2;have hsh:=ho2.slice;obtain⟨oa,oc,rfl⟩:=hsh;exact⟨ho2,hb2⟩
theorem or_c (s t:List Rg)(hs:s.length<10000000)(ht:t.length<10000000)(X:Nat→Prop)(va vb:Value)(w:World)(hva:Sl X 2 (En encR) w va s)(hvb:Sl X 2 (En encR) w vb t)(hA:Arg va)(hB:Arg vb) :
  Fun Tryz.prog 40 [va,vb] w fun r w'=>Vc.Own w.heap.size 46 2 encR w' r (setOr s t)∧Below w.heap.size w w':=by
 have hsh:=hva.shape;obtain⟨a1,c1,e1,_⟩:=hsh;have hsh:=hvb.shape;obtain⟨a2,c2,e2,_⟩:=hsh;refine fun_of_vc Tryz.func40 rfl (by kernel_rfl) [4] rfl ?_;push_cast -dsimp(maxSteps:=4000000) [Tryz.ntmps40];refine rowK elI_67 (by rw[e1,e2];rfl) rfl (by omega) ?_;intro w1 hw1;have sz1:=hw1.size;have d0:=hw1.cell (j:=0) (u:=va) (by rw[e1,e2];rfl);have d1:=hw1.cell (j:=1) (u:=vb) (by rw[e1,e2];rfl)
 push_cast -dsimp;refine callK_of (concat_c [(va,s),(vb,t)] (by simp;omega) (by simp) X w.heap.size 2 (by simp) w1 ?_) ?_
 ·intro i p hp;match i,hp with
  | 0,hp=>cases hp;exact⟨d0,hva.below hw1.below,hA⟩
  | 1,hp=>cases hp;exact⟨d1,hvb.below hw1.below,hB⟩
  | n+2,hp=>cases hp
 rintro v2 w2 ⟨ho2,hb2⟩;rw[show [(va,s),(vb,t)].flatMap (·.2)=s++t by simp]at ho2;push_cast -dsimp;refine callK_of (of_c (s++t) (by rw[List.length_append];omega) _ _ w2 ho2.sl ho2.nilArg) ?_;rintro v3 w3 ⟨ho3,hb3⟩;push_cast -dsimp;have sz2:=hb2.size;exact⟨ho3.mono (by omega),(hw1.below.trans (hb2.mono (by omega))).trans (hb3.mono (by omega))⟩
theorem and_c (s t:List Rg)(hs:s.length<1000000)(ht:t.length<1000000)(hrs:setRight (-2) s=true)(hrt:setRight (-2) t=true)(X:Nat→Prop)(va vb:Value)(w:World)(hva:Sl X 2 (En encR) w va s)(hvb:Sl X 2 (En encR) w vb t) :
  Fun Tryz.prog 41 [va,vb] w fun r w'=>Vc.Own w.heap.size 46 2 encR w' r (setAnd s t)∧Below w.heap.size w w':=by
 have n1:=setNot_len s;have n2:=setNot_len t;have n3:=setOr_len (setNot s) (setNot t);refine fun_of_vc Tryz.func41 rfl (by kernel_rfl) [4] rfl ?_;push_cast -dsimp(maxSteps:=4000000) [Tryz.ntmps41];refine callK_of (not_c s (by omega) hrs X va w hva) ?_;rintro v1 w1 ⟨ho1,hb1⟩;have sz1:=hb1.size;push_cast -dsimp;refine callK_of (not_c t (by omega) hrt X vb w1 (hvb.below hb1)) ?_
 rintro v2 w2 ⟨ho2,hb2⟩;have sz2:=hb2.size;push_cast -dsimp;refine callK_of (or_c (setNot s) (setNot t) (by omega) (by omega) (fun _=>False) v1 v2 w2 ((ho1.sl.weaken (fun _ h=>h.elim)).below hb2) (ho2.sl.weaken (fun _ h=>h.elim)) ho1.nilArg ho2.nilArg) ?_;rintro v3 w3 ⟨ho3,hb3⟩;have sz3:=hb3.size;push_cast -dsimp
 refine callK_of (not_c (setOr (setNot s) (setNot t)) (by omega) (setOr_right _ _) (fun _=>False) v3 w3 (ho3.sl.weaken (fun _ h=>h.elim))) ?_;rintro v4 w4 ⟨ho4,hb4⟩;push_cast -dsimp;exact⟨ho4.mono (by omega),((hb1.trans (hb2.mono (by omega))).trans (hb3.mono (by omega))).trans (hb4.mono (by omega))⟩
theorem less_c (s t:List Rg)(hs:s.length<900000)(ht:t.length<900000)(hrs:setRight (-2) s=true)(hrt:setRight (-2) t=true)(X:Nat→Prop)(va vb:Value)(w:World)(hva:Sl X 2 (En encR) w va s)(hvb:Sl X 2 (En encR) w vb t) :
  Fun Tryz.prog 42 [va,vb] w fun r w'=>Vc.Own w.heap.size 46 2 encR w' r (setLess s t)∧Below w.heap.size w w':=by
 have n2:=setNot_len t;refine fun_of_vc Tryz.func42 rfl (by kernel_rfl) [4] rfl ?_;push_cast -dsimp(maxSteps:=4000000) [Tryz.ntmps42];refine callK_of (not_c t (by omega) hrt X vb w hvb) ?_;rintro v2 w2 ⟨ho2,hb2⟩;have sz2:=hb2.size;push_cast -dsimp
 refine callK_of (and_c s (setNot t) (by omega) (by omega) hrs (setNot_right hrt) (fun _=>False) va v2 w2 ((hva.below hb2).weaken (fun _ h=>h.elim)) (ho2.sl.weaken (fun _ h=>h.elim))) ?_;rintro v3 w3 ⟨ho3,hb3⟩;push_cast -dsimp;exact⟨ho3.mono (by omega),hb2.trans (hb3.mono (by omega))⟩
def NamV (X:Nat→Prop)(w:World)(b:Nat)(nm:NamesP):Prop:=∃kvs:List (List UInt8×Value),MapG (fun l:List UInt8=>str l) w b kvs∧All2 (fun kv x=>kv.1=x.1∧Sl X 2 (En encR) w kv.2 x.2∧Arg kv.2) kvs nm
theorem NamV.below {X:Nat→Prop}{w w':World}{b:Nat}{nm:NamesP}(h:NamV X w b nm)(hb:Below w.heap.size w w'):NamV X w' b nm:=by
 obtain⟨kvs,h2,h3⟩:=h;exact⟨kvs,h2.below hb h2.lt,h3.imp fun a b h=>⟨h.1,h.2.1.below hb,h.2.2⟩⟩
theorem NamV.lt {X:Nat→Prop}{w:World}{b:Nat}{nm:NamesP}(h:NamV X w b nm):b<w.heap.size:=by
 obtain⟨kvs,h2,h3⟩:=h;exact h2.lt
theorem NamV.find {X:Nat→Prop}{w:World}{n:List UInt8}:∀{kvs:List (List UInt8×Value)} {nm:NamesP},All2 (fun kv x=>kv.1=x.1∧Sl X 2 (En encR) w kv.2 x.2∧Arg kv.2) kvs nm →
  (findN n nm=none∧assocG n kvs=none)∨∃s u,findN n nm=some s∧assocG n kvs=some u∧Sl X 2 (En encR) w u s∧Arg u:=by
 intro kvs nm h;induction h with
 | nil=>exact .inl ⟨rfl,rfl⟩
 | @cons kv x l m h1 h2 ih =>
  obtain⟨e,hs,ha⟩:=h1;by_cases hn:x.1=n
  ·exact .inr ⟨x.2,kv.2,by rw[findN,if_pos hn],by rw[assocG,if_pos (by rw[e,hn])],hs,ha⟩
  ·rw[findN,if_neg hn,assocG,if_neg (fun h=>hn (by rw[←e,←h]))];exact ih
def KindRes (X:Nat→Prop)(B:Nat)(nm:NamesP)(k:KindP)(r:Value)(w:World):Prop:=match kindS nm k with
 | .ok s=>∃v,r=.tuple #[v,.nilIface]∧Sl (fun b=>X b∧b<B) 2 (En encR) w v s∧Arg v
 | .error e=>∃b,B≤b∧r=.tuple #[.slice none 0 0,.iface 92 (.pointer (some ⟨b,0,none⟩))]∧Blk w b 94 [.int .i64 7,.int .i64 e]
theorem ckind_c:∀(k:KindP),KindOk k→∀(nm:NamesP),RightN nm→∀(X:Nat→Prop) (v:Value) (b:Nat) (w:World),KindV X w v k→NamV X w b nm →
  Fun Tryz.prog 12 [v,.map (some b)] w fun r w'=>KindRes X w.heap.size nm k r w'∧Below w.heap.size w w':=by
 intro k;induction k with
 | lit pos s =>
  rintro hok nm hr X v mb w ⟨b,sv,rfl,hb,hB,hs,ha⟩ hm;have d0:w.cell? ⟨b,0,none⟩=some (.int .i64 1):=hB.cell rfl;have d2:w.cell? ⟨b,2,none⟩=some sv:=hB.cell rfl;obtain⟨_,_,rfl,_⟩:=hs.shape;(refine fun_of_vc Tryz.func12 rfl (by kernel_rfl) [4,5] rfl ?_;push_cast -dsimp(maxSteps:=4000000) [Tryz.ntmps12]);push_cast -dsimp[d0,d2];exact⟨⟨_,rfl,hs.weaken (fun b hh=>hh.1),ha⟩,Below.refl _ _⟩
 | ref pos n =>
  rintro hok nm hr X v mb w ⟨b,rfl,hb,hB⟩ hm;have d0:w.cell? ⟨b,0,none⟩=some (.int .i64 2):=hB.cell rfl;have d1:w.cell? ⟨b,1,none⟩=some (.int .i64 pos):=hB.cell rfl;have d3:w.cell? ⟨b,3,none⟩=some (str n):=hB.cell rfl;obtain⟨kvs,hM,hA⟩:=hm;have hf:=NamV.find (n:=n) hA;(refine fun_of_vc Tryz.func12 rfl (by kernel_rfl) [4,5] rfl ?_;push_cast -dsimp(maxSteps:=4000000) [Tryz.ntmps12])
  push_cast -dsimp[d0,d1,d3];rcases hf with ⟨f1,f2⟩|⟨s,u,f1,f2,hs,ha⟩
  ·refine lookupG_none (kt:=9) (et:=41) (z:=.slice none 0 0) (by kernel_rfl) (keyStr (by kernel_rfl)) (by kernel_rfl) hM rfl f2 ?_;push_cast -dsimp;have d1d:w.drew.cell? ⟨b,1,none⟩=some (.int .i64 pos):=d1;refine wpL_drawN (fun w'=>w'.cell? ⟨b,1,none⟩=some (.int .i64 pos)) mixed (by kernel_rfl) d1 ?_;push_cast -dsimp[d1d];refine⟨fun w'' h=>by rw[h];exact rfl,?_⟩;refine boxK_of ?_;intro w2 hw2
   have hw2:New w.drew w2 94 [.int .i64 7,.int .i64 pos]:=hw2;have hlt:=hB.lt;have hb2:Below w.heap.size w w2:=((Kept.refl (fun _=>False) w).drew.below (Nat.le_refl _) (fun _ h=>h.elim)).trans hw2.below;refine⟨(hb2.cell (by show b<_;omega)).trans d1,?_⟩;push_cast -dsimp;refine⟨?_,hb2⟩;unfold KindRes;rw[show kindS nm (.ref pos n)=.error pos from by rw[kindS,f1]]
   exact⟨w.heap.size,Nat.le_refl _,rfl,hw2.blk⟩
  ·refine lookupG_some (kt:=9) (et:=41) (z:=.slice none 0 0) (by kernel_rfl) (keyStr (by kernel_rfl)) (by kernel_rfl) hM rfl f2 ?_;obtain⟨_,_,rfl,_⟩:=hs.shape;push_cast -dsimp;refine⟨?_,Below.refl _ _⟩;unfold KindRes;rw[show kindS nm (.ref pos n)=.ok s from by rw[kindS,f1]];exact⟨_,rfl,hs.weaken (fun b hh=>hh.1),ha⟩
 | not pos k ih =>
  rintro hok nm hr X v mb w ⟨b,u,rfl,hb,hB,h1⟩ hm;obtain⟨b1,rfl,hb1⟩:=h1.ptr;have d0:w.cell? ⟨b,0,none⟩=some (.int .i64 6):=hB.cell rfl;have d4:w.cell? ⟨b,4,none⟩=some (.pointer (some ⟨b1,0,none⟩)):=hB.cell rfl;(refine fun_of_vc Tryz.func12 rfl (by kernel_rfl) [4,5] rfl ?_;push_cast -dsimp(maxSteps:=4000000) [Tryz.ntmps12]);push_cast -dsimp[d0,d4];refine callK_of (ih hok nm hr X _ mb w h1 hm) ?_
  rintro r w1 ⟨hR,hb1'⟩;have z1:=hb1'.size;have hB1:=hB.below hb1' hB.lt;have e0:w1.cell? ⟨b,0,none⟩=some (.int .i64 6):=hB1.cell rfl;unfold KindRes at hR;cases hk:kindS nm k with
  | ok s =>
   rw[hk]at hR;obtain⟨v1,rfl,hs1,ha1⟩:=hR;have hrs:=kindS_right (k:=k) hr hok hk;have hle:=right_len hrs;push_cast -dsimp[e0];refine callK_of (not_c s (by omega) hrs _ _ w1 hs1) ?_;rintro v2 w2 ⟨ho2,hb2⟩;have hbw:=hb1'.trans (hb2.mono z1);have ha2:Arg v2:=ho2.nilArg;obtain⟨_,_,rfl⟩:=ho2.slice;push_cast -dsimp;refine⟨?_,hbw⟩;unfold KindRes
   rw[show kindS nm (.not pos k)=.ok (setNot s) from by rw[kindS,hk]];exact⟨_,rfl,ho2.sl.weaken (fun b hh=>by have:=hh.2;omega),ha2⟩
  | error e =>
   rw[hk]at hR;obtain⟨eb,heb,rfl,hE⟩:=hR;push_cast -dsimp;refine⟨?_,hb1'⟩;unfold KindRes;rw[show kindS nm (.not pos k)=.error e from by rw[kindS,hk]];exact⟨eb,heb,rfl,hE⟩
 | bin c pos k r ih ih' =>
  rintro hok nm hr X v mb w ⟨b,u,x,rfl,hb,hB,h1,h2⟩ hm;obtain⟨b1,rfl,hb1⟩:=h1.ptr;obtain⟨b2,rfl,hb2⟩:=h2.ptr;obtain⟨hok1,hok2,hc⟩:=hok;have d4:w.cell? ⟨b,4,none⟩=some (.pointer (some ⟨b1,0,none⟩)):=hB.cell rfl;rcases hc with rfl|rfl|rfl
  case inl =>
   have d0:w.cell? ⟨b,0,none⟩=some (.int .i64 3):=hB.cell rfl;(refine fun_of_vc Tryz.func12 rfl (by kernel_rfl) [4,5] rfl ?_;push_cast -dsimp(maxSteps:=4000000) [Tryz.ntmps12]);push_cast -dsimp[d0,d4];refine callK_of (ih hok1 nm hr X _ mb w h1 hm) ?_;rintro r1 w1 ⟨hR,hb1'⟩;have z1:=hb1'.size;have hB1:=hB.below hb1' hB.lt;have e0:w1.cell? ⟨b,0,none⟩=some (.int .i64 3):=hB1.cell rfl
   have e5:w1.cell? ⟨b,5,none⟩=some (.pointer (some ⟨b2,0,none⟩)):=hB1.cell rfl;unfold KindRes at hR;cases hk:kindS nm k with
   | error e =>
    rw[hk]at hR;obtain⟨eb,heb,rfl,hE⟩:=hR;push_cast -dsimp;refine⟨?_,hb1'⟩;unfold KindRes;rw[show kindS nm (.bin 3 pos k r)=.error e from by rw[kindS,hk]];exact⟨eb,heb,rfl,hE⟩
   | ok s =>
    rw[hk]at hR;obtain⟨v1,rfl,hs1,ha1⟩:=hR;have hrs:=kindS_right hr hok1 hk;have hls:=right_len hrs;obtain⟨_,_,rfl,_⟩:=hs1.shape;push_cast -dsimp[e0,e5];refine callK_of (ih' hok2 nm hr X _ mb w1 (h2.below hb1') (hm.below hb1')) ?_;rintro r2 w2 ⟨hR2,hb2'⟩;have z2:=hb2'.size;have hbw2:=hb1'.trans (hb2'.mono z1);have hB2:=hB1.below hb2' hB1.lt
    have f0:w2.cell? ⟨b,0,none⟩=some (.int .i64 3):=hB2.cell rfl;unfold KindRes at hR2;cases hk2:kindS nm r with
    | error e =>
     rw[hk2]at hR2;obtain⟨eb,heb,rfl,hE⟩:=hR2;push_cast -dsimp;refine⟨?_,hbw2⟩;unfold KindRes;rw[show kindS nm (.bin 3 pos k r)=.error e from by rw[kindS,hk];dsimp only;rw[hk2]];exact⟨eb,by omega,rfl,hE⟩
    | ok t =>
     rw[hk2]at hR2;obtain⟨v2,rfl,hs2,ha2⟩:=hR2;have hrt:=kindS_right hr hok2 hk2;have hlt:=right_len hrt;obtain⟨_,_,rfl,_⟩:=hs2.shape;push_cast -dsimp[f0];refine callK_of (or_c s t (by omega) (by omega) (fun _=>False) _ _ w2 ((hs1.below hb2').weaken (fun _ h=>h.elim)) (hs2.weaken (fun _ h=>h.elim)) ha1 ha2) ?_;rintro v3 w3 ⟨ho3,hb3⟩;have hbw3:=hbw2.trans (hb3.mono (by omega))
     have ha3:Arg v3:=ho3.nilArg;obtain⟨_,_,rfl⟩:=ho3.slice;push_cast -dsimp;refine⟨?_,hbw3⟩;unfold KindRes;rw[show kindS nm (.bin 3 pos k r)=.ok (setOr s t) from by rw[kindS,hk];dsimp only;rw[hk2];rfl];exact⟨_,rfl,ho3.sl.weaken (fun b hh=>by have:=hh.2;omega),ha3⟩
  case inr.inl =>
   have d0:w.cell? ⟨b,0,none⟩=some (.int .i64 4):=hB.cell rfl;(refine fun_of_vc Tryz.func12 rfl (by kernel_rfl) [4,5] rfl ?_;push_cast -dsimp(maxSteps:=4000000) [Tryz.ntmps12]);push_cast -dsimp[d0,d4];refine callK_of (ih hok1 nm hr X _ mb w h1 hm) ?_;rintro r1 w1 ⟨hR,hb1'⟩;have z1:=hb1'.size;have hB1:=hB.below hb1' hB.lt;have e0:w1.cell? ⟨b,0,none⟩=some (.int .i64 4):=hB1.cell rfl
   have e5:w1.cell? ⟨b,5,none⟩=some (.pointer (some ⟨b2,0,none⟩)):=hB1.cell rfl;unfold KindRes at hR;cases hk:kindS nm k with
   | error e =>
    rw[hk]at hR;obtain⟨eb,heb,rfl,hE⟩:=hR;push_cast -dsimp;refine⟨?_,hb1'⟩;unfold KindRes;rw[show kindS nm (.bin 4 pos k r)=.error e from by rw[kindS,hk]];exact⟨eb,heb,rfl,hE⟩
   | ok s =>
    rw[hk]at hR;obtain⟨v1,rfl,hs1,ha1⟩:=hR;have hrs:=kindS_right hr hok1 hk;have hls:=right_len hrs;obtain⟨_,_,rfl,_⟩:=hs1.shape;push_cast -dsimp[e0,e5];refine callK_of (ih' hok2 nm hr X _ mb w1 (h2.below hb1') (hm.below hb1')) ?_;rintro r2 w2 ⟨hR2,hb2'⟩;have z2:=hb2'.size;have hbw2:=hb1'.trans (hb2'.mono z1);have hB2:=hB1.below hb2' hB1.lt
    have f0:w2.cell? ⟨b,0,none⟩=some (.int .i64 4):=hB2.cell rfl;unfold KindRes at hR2;cases hk2:kindS nm r with
    | error e =>
     rw[hk2]at hR2;obtain⟨eb,heb,rfl,hE⟩:=hR2;push_cast -dsimp;refine⟨?_,hbw2⟩;unfold KindRes;rw[show kindS nm (.bin 4 pos k r)=.error e from by rw[kindS,hk];dsimp only;rw[hk2]];exact⟨eb,by omega,rfl,hE⟩
    | ok t =>
     rw[hk2]at hR2;obtain⟨v2,rfl,hs2,ha2⟩:=hR2;have hrt:=kindS_right hr hok2 hk2;have hlt:=right_len hrt;obtain⟨_,_,rfl,_⟩:=hs2.shape;push_cast -dsimp[f0];refine callK_of (and_c s t (by omega) (by omega) hrs hrt (fun _=>False) _ _ w2 ((hs1.below hb2').weaken (fun _ h=>h.elim)) (hs2.weaken (fun _ h=>h.elim))) ?_;rintro v3 w3 ⟨ho3,hb3⟩;have hbw3:=hbw2.trans (hb3.mono (by omega))
     have ha3:Arg v3:=ho3.nilArg;obtain⟨_,_,rfl⟩:=ho3.slice;push_cast -dsimp;refine⟨?_,hbw3⟩;unfold KindRes;rw[show kindS nm (.bin 4 pos k r)=.ok (setAnd s t) from by rw[kindS,hk];dsimp only;rw[hk2];rfl];exact⟨_,rfl,ho3.sl.weaken (fun b hh=>by have:=hh.2;omega),ha3⟩
  case inr.inr =>
   have d0:w.cell? ⟨b,0,none⟩=some (.int .i64 5):=hB.cell rfl;(refine fun_of_vc Tryz.func12 rfl (by kernel_rfl) [4,5] rfl ?_;push_cast -dsimp(maxSteps:=4000000) [Tryz.ntmps12]);push_cast -dsimp[d0,d4];refine callK_of (ih hok1 nm hr X _ mb w h1 hm) ?_;rintro r1 w1 ⟨hR,hb1'⟩;have z1:=hb1'.size;have hB1:=hB.below hb1' hB.lt;have e0:w1.cell? ⟨b,0,none⟩=some (.int .i64 5):=hB1.cell rfl
   have e5:w1.cell? ⟨b,5,none⟩=some (.pointer (some ⟨b2,0,none⟩)):=hB1.cell rfl;unfold KindRes at hR;cases hk:kindS nm k with
   | error e =>
    rw[hk]at hR;obtain⟨eb,heb,rfl,hE⟩:=hR;push_cast -dsimp;refine⟨?_,hb1'⟩;unfold KindRes;rw[show kindS nm (.bin 5 pos k r)=.error e from by rw[kindS,hk]];exact⟨eb,heb,rfl,hE⟩
   | ok s =>
    rw[hk]at hR;obtain⟨v1,rfl,hs1,ha1⟩:=hR;have hrs:=kindS_right hr hok1 hk;have hls:=right_len hrs;obtain⟨_,_,rfl,_⟩:=hs1.shape;push_cast -dsimp[e0,e5];refine callK_of (ih' hok2 nm hr X _ mb w1 (h2.below hb1') (hm.below hb1')) ?_;rintro r2 w2 ⟨hR2,hb2'⟩;have z2:=hb2'.size;have hbw2:=hb1'.trans (hb2'.mono z1);have hB2:=hB1.below hb2' hB1.lt
    have f0:w2.cell? ⟨b,0,none⟩=some (.int .i64 5):=hB2.cell rfl;unfold KindRes at hR2;cases hk2:kindS nm r with
    | error e =>
     rw[hk2]at hR2;obtain⟨eb,heb,rfl,hE⟩:=hR2;push_cast -dsimp;refine⟨?_,hbw2⟩;unfold KindRes;rw[show kindS nm (.bin 5 pos k r)=.error e from by rw[kindS,hk];dsimp only;rw[hk2]];exact⟨eb,by omega,rfl,hE⟩
    | ok t =>
     rw[hk2]at hR2;obtain⟨v2,rfl,hs2,ha2⟩:=hR2;have hrt:=kindS_right hr hok2 hk2;have hlt:=right_len hrt;obtain⟨_,_,rfl,_⟩:=hs2.shape;push_cast -dsimp[f0];refine callK_of (less_c s t (by omega) (by omega) hrs hrt (fun _=>False) _ _ w2 ((hs1.below hb2').weaken (fun _ h=>h.elim)) (hs2.weaken (fun _ h=>h.elim))) ?_;rintro v3 w3 ⟨ho3,hb3⟩;have hbw3:=hbw2.trans (hb3.mono (by omega))
     have ha3:Arg v3:=ho3.nilArg;obtain⟨_,_,rfl⟩:=ho3.slice;push_cast -dsimp;refine⟨?_,hbw3⟩;unfold KindRes;rw[show kindS nm (.bin 5 pos k r)=.ok (setLess s t) from by rw[kindS,hk];dsimp only;rw[hk2];rfl];exact⟨_,rfl,ho3.sl.weaken (fun b hh=>by have:=hh.2;omega),ha3⟩
end Go.Proofs.YtledlfbbebodgaaGreatDoor
end
section
namespace Cae
mutual
def wd:PatP→Nat
 | .one _=>0
 | .any=>0
 | .edge=>0
 | .cat l=>Nat.max l.length (wds l)
 | .alt l=>Nat.max l.length (wds l)
 | .many x _ _=>wd x
def wds:List PatP→Nat
 | []=>0
 | x::l=>Nat.max (wd x) (wds l)
end
theorem wds_mem:∀{l:List PatP} {x:PatP},x∈l→wd x≤wds l
 | y::l,x,h=>by
  rw[wds];rcases List.mem_cons.1 h with rfl|h
  ·exact Nat.le_max_left _ _
  ·exact Nat.le_trans (wds_mem h) (Nat.le_max_right _ _)
theorem wds_le {n:Nat}:∀{l:List PatP},(∀x∈l,wd x≤n)→wds l≤n
 | [],_=>Nat.zero_le _
 | y::l,h=>by
  rw[wds];exact Nat.max_le.2 ⟨h y (List.mem_cons_self ..),wds_le fun x hx=>h x (List.mem_cons_of_mem _ hx)⟩
theorem wd_in_cat {l:List PatP}:wds l≤wd (.cat l)∧l.length≤wd (.cat l)∧∀x∈l,wd x≤wd (.cat l):=by
 rw[wd];exact⟨Nat.le_max_right _ _,Nat.le_max_left _ _,fun x hx=>Nat.le_trans (wds_mem hx) (Nat.le_max_right _ _)⟩
theorem wd_in_alt {l:List PatP}:wds l≤wd (.alt l)∧l.length≤wd (.alt l)∧∀x∈l,wd x≤wd (.alt l):=by
 rw[wd];exact⟨Nat.le_max_right _ _,Nat.le_max_left _ _,fun x hx=>Nat.le_trans (wds_mem hx) (Nat.le_max_right _ _)⟩
theorem wd_in_many {x:PatP}{lo hi:Int}:wd x≤wd (.many x lo hi):=by rw[wd];exact Nat.le_refl _
mutual
theorem wd_pn:∀x:PatP,wd x≤pn x
 | .one k=>Nat.zero_le _
 | .any=>Nat.zero_le _
 | .edge=>Nat.zero_le _
 | .cat l=>by
  rw[wd];exact Nat.max_le.2 ⟨pn_in_cat.2.1,wds_le fun x hx=>Nat.le_trans (wds_pn l x hx) (pn_in_cat.2.2 x hx)⟩
 | .alt l=>by
  rw[wd];exact Nat.max_le.2 ⟨pn_in_alt.2.1,wds_le fun x hx=>Nat.le_trans (wds_pn l x hx) (pn_in_alt.2.2 x hx)⟩
 | .many x lo hi=>by
  rw[wd];exact Nat.le_trans (wd_pn x) pn_in_many
theorem wds_pn:∀(l:List PatP) (x:PatP),x∈l→wd x≤pn x
 | [],x,h=>by cases h
 | y::l,x,h=>by
  rcases List.mem_cons.1 h with h|h
  ·rw[h];exact wd_pn y
  ·exact wds_pn l x h
end
end Cae
end
section
namespace Go.Proofs.YtledlfbbebodgaaGreatDoor
open Go.Vc Go.Proofs Go.RowKit Cae
attribute [local irreducible] wpL callK valK unitK runK Fun Sl Vc.Own vc vcOps opK pureK
def ErrAt (B:Nat)(o:Option (Int×Nat))(r:Value)(w:World):Prop:=match o with
 | none=>r=.nilIface
 | some (c,e)=>∃b,B≤b∧r=.iface 92 (.pointer (some ⟨b,0,none⟩))∧Blk w b 94 [.int .i64 c,.int .i64 e]
theorem ErrAt.below {B:Nat}{o:Option (Int×Nat)}{r:Value}{w w':World}(h:ErrAt B o r w)(hb:Below w.heap.size w w'):ErrAt B o r w':=by
 unfold ErrAt at h ⊢;cases o with
 | none=>exact h
 | some p=>obtain⟨b,h1,h2,h3⟩:=h;exact⟨b,h1,h2,h3.below hb h3.lt⟩
theorem ErrAt.mono {B B':Nat}{o:Option (Int×Nat)}{r:Value}{w:World}(h:ErrAt B o r w)(hb:B'≤B):ErrAt B' o r w:=by
 unfold ErrAt at h ⊢;cases o with
 | none=>exact h
 | some p=>obtain⟨b,h1,h2,h3⟩:=h;exact⟨b,by omega,h2,h3⟩
def PatE (nm:NamesP)(x:PatP):Option (Int×Nat):=(patS nm x).map fun e=>((7:Int),e)
def ChkC (x:PatP):Prop:=PatOk x→wd x≤100000000→∀(nm:NamesP),RightN nm→∀(X:Nat→Prop) (v:Value) (b:Nat) (w:World),PatV X w v x→NamV X w b nm →
 Fun Tryz.prog 59 [v,.map (some b)] w fun r w'=>ErrAt w.heap.size (PatE nm x) r w'∧Below w.heap.size w w'
theorem chk_one (k:KindP):ChkC (.one k):=by
 intro hok hpn nm hr X v mb w hV hm;simp only[PatV]at hV;obtain⟨b,u,rfl,hb,hB,h1⟩:=hV;obtain⟨b1,rfl,hb1⟩:=h1.ptr;have d0:w.cell? ⟨b,0,none⟩=some (.int .i64 1):=hB.cell rfl;have d1:w.cell? ⟨b,1,none⟩=some (.pointer (some ⟨b1,0,none⟩)):=hB.cell rfl;simp only[PatOk]at hok;refine fun_of_vc Tryz.func59 rfl (by kernel_rfl) [4] rfl ?_;push_cast -dsimp(maxSteps:=4000000) [Tryz.ntmps59]
 push_cast -dsimp[d0,d1];refine callK_of (ckind_c k hok nm hr X _ mb w h1 hm) ?_;rintro r w1 ⟨hR,hb1'⟩;unfold KindRes at hR;cases hk:kindS nm k with
 | ok s =>
  rw[hk]at hR;obtain⟨v1,rfl,hs1,ha1⟩:=hR;push_cast -dsimp;refine⟨?_,hb1'⟩;unfold PatE;rw[patS,hk];rfl
 | error e =>
  rw[hk]at hR;obtain⟨eb,heb,rfl,hE⟩:=hR;push_cast -dsimp;refine⟨?_,hb1'⟩;unfold PatE;rw[patS,hk];exact⟨eb,heb,rfl,hE⟩
theorem patsS_app {nm:NamesP}:∀(a b:List PatP),patsS nm (a++b)=match patsS nm a with
  | some e=>some e
  | none=>patsS nm b
 | [],b=>by simp only[List.nil_append,patsS]
 | x::a,b=>by
  simp only[List.cons_append,patsS];cases patS nm x with
  | some e=>rfl
  | none=>exact patsS_app a b
theorem chk_parts (code lo hi:Int)(hc:code≠1)(l:List PatP)(hl:∀x∈l,ChkC x)(hok:∀x∈l,PatOk x∧wd x≤100000000)(hlen:l.length≤100000000)(nm:NamesP)(hr:RightN nm)(X:Nat→Prop)(b mb:Nat)(pv sv:Value)(vs:List Nat)(w:World)
  (hB:Blk w b 39 [.int .i64 code,pv,sv,.int .i64 lo,.int .i64 hi]) (hs:Sl X 1 (En encP) w sv vs) (hV:PatsV X w vs l) (hm:NamV X w mb nm) :
  Fun Tryz.prog 59 [.pointer (some ⟨b,0,none⟩),.map (some mb)] w fun r w'=>ErrAt w.heap.size ((patsS nm l).map fun e=>((7:Int),e)) r w'∧Below w.heap.size w w':=by
 have hvl:=hV.len;obtain⟨sa,sc,rfl,hsc⟩:=hs.shape;have d0:w.cell? ⟨b,0,none⟩=some (.int .i64 code):=hB.cell rfl;have d2:w.cell? ⟨b,2,none⟩=some (.slice sa vs.length sc):=hB.cell rfl;refine fun_of_vc Tryz.func59 rfl (by kernel_rfl) [4] rfl ?_;push_cast -dsimp(maxSteps:=4000000) [Tryz.ntmps59];push_cast -dsimp[d0,d2];refine⟨fun h=>absurd h hc,fun _=>?_⟩
 refine wpL_loop [4,8,9,30,31,32,33,34,35,36,37,38,39,40] (fun z wx=>∃(i:Nat),z 30=.int .i64 i∧i≤l.length∧patsS nm (l.take i)=none∧Below w.heap.size w wx) (fun z _=>l.length-(intOf (z 30)).toNat) ?_ ?_
 ·exact⟨0,rfl,Nat.zero_le _,by simp[patsS],Below.refl _ _⟩
 ·intro z wx hI;obtain⟨i,h30,hi,hno,hbx⟩:=hI;have zx:=hbx.size;push_cast -dsimp[h30];refine⟨fun hlt=>?_,fun hge=>?_⟩
  ·obtain⟨x,hx,hxm,_,ht⟩:=lt_get (l:=l) (i:=i) (by omega);obtain⟨u,hu,hVx⟩:=PatsV.nth hV hx;obtain⟨b1,o,rfl,hnb,hcell⟩:=(hs.below hbx).get hu;have c0:wx.cell? ⟨b1,o+i,none⟩=some (.pointer (some ⟨u,0,none⟩)):=by simpa[encP,ptrP] using hcell 0 _ rfl
   push_cast -dsimp[c0,Nat.mul_one];refine⟨⟨by omega,by omega⟩,?_⟩;refine callK_of (hl x hxm (hok x hxm).1 (hok x hxm).2 nm hr X _ mb wx (PatV.below hVx hbx) (hm.below hbx)) ?_;rintro r wy ⟨hE,hby⟩;have hbwy:=hbx.trans (hby.mono zx);unfold PatE at hE;cases hp:patS nm x with
   | none =>
    rw[hp]at hE;have hE:r=.nilIface:=hE;subst hE;push_cast -dsimp;refine⟨⟨by omega,by omega⟩,⟨i+1,rfl,by omega,?_,hbwy⟩,by rw[h30];simp only[intOf];omega⟩;rw[ht,patsS_app,hno];simp only[patsS,hp]
   | some e =>
    rw[hp]at hE;obtain⟨eb,heb,rfl,hEB⟩:=hE;push_cast -dsimp;refine⟨?_,hbwy⟩;have hall:patsS nm l=some e:=by
     have hsp:l=l.take (i+1)++l.drop (i+1):=(List.take_append_drop _ _).symm;rw[hsp,patsS_app,ht,patsS_app,hno];simp only[patsS,hp]
    rw[hall];exact⟨eb,by omega,rfl,hEB⟩
  ·rw[List.take_of_length_le (by omega)]at hno;refine⟨?_,hbx⟩;rw[hno];rfl
theorem chk_any:ChkC .any:=by
 intro hok hpn nm hr X v mb w hV hm;simp only[PatV]at hV;obtain⟨b,rfl,hb,hB⟩:=hV;exact(chk_parts 2 0 0 (by decide) [] (fun x h=>by cases h) (fun x h=>by cases h) (by simp) nm hr X b mb _ _ [] w hB (Sl.nil _ _ _ _ _ _) (by simp only[PatsV]) hm).mono fun r w' ⟨h1,h2⟩=>⟨by simpa[PatE,patS,patsS] using h1,h2⟩
theorem chk_edge:ChkC .edge:=by
 intro hok hpn nm hr X v mb w hV hm;simp only[PatV]at hV;obtain⟨b,rfl,hb,hB⟩:=hV;exact(chk_parts 3 0 0 (by decide) [] (fun x h=>by cases h) (fun x h=>by cases h) (by simp) nm hr X b mb _ _ [] w hB (Sl.nil _ _ _ _ _ _) (by simp only[PatsV]) hm).mono fun r w' ⟨h1,h2⟩=>⟨by simpa[PatE,patS,patsS] using h1,h2⟩
theorem chk_cat (l:List PatP)(hl:∀x∈l,ChkC x):ChkC (.cat l):=by
 intro hok hpn nm hr X v mb w hV hm;simp only[PatV]at hV;obtain⟨b,sv,vs,rfl,hb,hB,hs,hV⟩:=hV;have hpc:=wd_in_cat (l:=l);simp only[PatOk]at hok;exact(chk_parts 4 0 0 (by decide) l hl (fun x h=>⟨patsOk_mem hok h,by have:=hpc.2.2 x h;omega⟩) (by have:=hpc.2.1;omega) nm hr X b mb _ sv vs w hB hs hV hm).mono fun r w' ⟨h1,h2⟩=>⟨by simpa[PatE,patS] using h1,h2⟩
theorem chk_alt (l:List PatP)(hl:∀x∈l,ChkC x):ChkC (.alt l):=by
 intro hok hpn nm hr X v mb w hV hm;simp only[PatV]at hV;obtain⟨b,sv,vs,rfl,hb,hB,hs,hV⟩:=hV;have hpc:=wd_in_alt (l:=l);simp only[PatOk]at hok;exact(chk_parts 5 0 0 (by decide) l hl (fun x h=>⟨patsOk_mem hok h,by have:=hpc.2.2 x h;omega⟩) (by have:=hpc.2.1;omega) nm hr X b mb _ sv vs w hB hs hV hm).mono fun r w' ⟨h1,h2⟩=>⟨by simpa[PatE,patS] using h1,h2⟩
theorem chk_many (x:PatP)(lo hi:Int)(hx:ChkC x):ChkC (.many x lo hi):=by
 intro hok hpn nm hr X v mb w hV hm;simp only[PatV]at hV;obtain⟨b,sv,u,rfl,hb,hB,hs,hV⟩:=hV;have hpm:=wd_in_many (x:=x) (lo:=lo) (hi:=hi);simp only[PatOk]at hok
 refine(chk_parts 6 lo hi (by decide) [x] (fun y h=>by rw[List.mem_singleton]at h;rw[h];exact hx) (fun y h=>by rw[List.mem_singleton]at h;rw[h];exact⟨hok.1,by omega⟩) (by simp) nm hr X b mb _ sv [u] w hB hs (by simp only[PatsV];exact⟨hV,trivial⟩) hm).mono fun r w' ⟨h1,h2⟩=>⟨?_,h2⟩;have e:patsS nm [x]=patS nm x:=by
  simp only[patsS];cases patS nm x<;>rfl
 rw[e]at h1;simpa[PatE,patS] using h1
mutual
theorem chk_c:∀x,ChkC x
 | .one k=>chk_one k
 | .any=>chk_any
 | .edge=>chk_edge
 | .cat l=>chk_cat l (chks_c l)
 | .alt l=>chk_alt l (chks_c l)
 | .many x lo hi=>chk_many x lo hi (chk_c x)
theorem chks_c:∀(l:List PatP) (x:PatP),x∈l→ChkC x
 | [],x,h=>by cases h
 | y::l,x,h=>by
  have hy:=chk_c y;rcases List.mem_cons.1 h with h|h
  ·rw[h];exact hy
  ·exact chks_c l x h
end
def errN (p:Nat×Nat):Int×Nat:=(if p.1=5 then 9 else 7,p.2)
def NamesRes (X:Nat→Prop)(B:Nat)(f:FileP)(r:Value)(w:World):Prop:=match namesS [] f.classes with
 | .ok nm=>∃mb,B≤mb∧r=.tuple #[.map (some mb),.nilIface]∧NamV (fun b=>X b∧b<B) w mb nm∧RightN nm
 | .error e=>∃v,r=.tuple #[.map none,v]∧ErrAt B (some (errN e)) v w
theorem rightN_snoc {nm:NamesP}{n:List UInt8}{s:List Rg}(h:RightN nm)(hs:setRight (-2) s=true):RightN (nm++[(n,s)]):=fun x hx=>by
 rw[List.mem_append,List.mem_singleton]at hx;rcases hx with hx|rfl
 ·exact h x hx
 ·exact hs
theorem names_step {nm:NamesP}{c:ClassP}{l:List ClassP}:namesS nm (c::l)=if (findN c.name nm).isSome then .error (5,c.pos) else match kindS nm c.kind with
  | .error e=>.error (6,e)
  | .ok s=>namesS (nm++[(c.name,s)]) l:=by
 first|(rw[namesS];done)|(rw[namesS];rfl)
theorem all2_nth {α β:Type}{R:α→β→Prop}{l:List α}{m:List β}(h:All2 R l m){i:Nat}{y:β}(hy:m[i]?=some y):∃x,l[i]?=some x∧R x y:=by
 induction h generalizing i with
 | nil=>simp at hy
 | cons h1 _ ih =>
  cases i with
  | zero=>cases hy;exact⟨_,rfl,h1⟩
  | succ i=>exact ih (by simpa using hy)
theorem names_c (f:FileP)(hok:∀c∈f.classes,KindOk c.kind)(hlen:f.classes.length≤1000000)(X:Nat→Prop)(v:Value)(w:World)(hv:FileV X w v f) :
  Fun Tryz.prog 10 [v] w fun r w'=>NamesRes X w.heap.size f r w'∧Below w.heap.size w w':=by
 obtain⟨cv,rv,cs,rs,rfl,hcs,hrs,hC,hR⟩:=hv;have hcl:=All2.len hC;obtain⟨ca,cc,rfl,hcc⟩:=hcs.shape;obtain⟨ra,rc,rfl,hrc⟩:=hrs.shape;refine fun_of_vc Tryz.func10 rfl (by kernel_rfl) [2,3] rfl ?_;push_cast -dsimp(maxSteps:=4000000) [Tryz.ntmps10];refine boxK_of ?_;intro w1 hw1;have hw1:New w w1 26 [.slice ca cs.length cc,.slice ra rs.length rc,.bool f.els]:=hw1;have z1:=hw1.size;push_cast -dsimp
 refine makeMapG (key:=fun l:List UInt8=>str l) ?_;intro w2 m2 hb2 z2;have B2:=hw1.blk.below hb2 (by omega);have d2:w2.cell? ⟨w.heap.size,0,none⟩=some (.slice ca cs.length cc):=B2.cell rfl;have hbw2:=hw1.below.trans (hb2.mono (by omega));have hN:∃Xn:Nat→Prop,Xn=(fun b=>(X b∧b<w.heap.size)∨b=w1.heap.size):=⟨_,rfl⟩;obtain⟨Xn,hXn⟩:=hN;push_cast -dsimp[d2]
 refine wpL_loop [2,3,6,7,8,9,10,15,16,17,18,19,20,21,22,23,24,25,26,27,28,29,30,31,32,33,34,35,36,37,38,39,40,41,42,43,44,45,46] (fun z wx=>∃(i:Nat) (nm:NamesP),z 15=.int .i64 i∧i≤f.classes.length∧namesS [] f.classes=namesS nm (f.classes.drop i)∧NamV Xn wx w1.heap.size nm∧RightN nm∧Below w.heap.size w wx∧w2.heap.size≤wx.heap.size) (fun z _=>f.classes.length-(intOf (z 15)).toNat) ?_ ?_
 ·exact⟨0,[],rfl,Nat.zero_le _,rfl,⟨[],m2,.nil⟩,(fun x h=>(by cases h)),hbw2,Nat.le_refl _⟩
 ·intro z wx hI;obtain⟨i,nm,h15,hi,hnm,hNV,hRN,hbx,zx⟩:=hI;push_cast -dsimp[h15];refine⟨fun hlt=>?_,fun hge=>?_⟩
  ·obtain⟨c,hc,hcm,_,ht⟩:=lt_get (l:=f.classes) (i:=i) (by omega);obtain⟨x,hx,hxn,hxp,hxk⟩:=all2_nth hC hc;obtain⟨xn,xp,xk⟩:=x;simp only at hxn hxp hxk;subst hxn;subst hxp;obtain⟨b1,o,rfl,hnb,hcell⟩:=(hcs.below hbx).get hx;have c3:cellsAt wx ⟨b1,o+i*3,none⟩ 0 3=some [str c.name,.int .i64 c.pos,ptrP xk]:=cellsAt_of _ 0 (fun j u hu=>by simpa[encC] using hcell j u hu)
   have hun:ptrP xk=.pointer (some ⟨xk,0,none⟩):=rfl;rw[hun]at c3;push_cast -dsimp[c3];refine⟨⟨by omega,by omega⟩,?_⟩;refine allocK (z:=[str [],.int .i64 0,.pointer none]) (by kernel_rfl) ?_;intro wa hwa;have za:=hwa.size;push_cast -dsimp;refine storeAgg (n:=3) (by kernel_rfl) hwa.blk rfl (by simp) (by simp[Value.oneCell',str]) ?_;intro wb hwb;have zb:=hwb.size
   have hbb:Below wx.heap.size wx wb:=hwa.below.trans (hwb.kept.below (by omega) (fun i h=>by omega));have hbwb:=hbx.trans (hbb.mono hbx.size);have Cb:Blk wb wx.heap.size 90 [str c.name,.int .i64 c.pos,.pointer (some ⟨xk,0,none⟩)]:=hwb.blk;have e0:wb.cell? ⟨wx.heap.size,0,none⟩=some (str c.name):=Cb.cell rfl;have e1:wb.cell? ⟨wx.heap.size,1,none⟩=some (.int .i64 c.pos):=Cb.cell rfl
   have e2:wb.cell? ⟨wx.heap.size,2,none⟩=some (.pointer (some ⟨xk,0,none⟩)):=Cb.cell rfl;have hNb:=hNV.below hbb;obtain⟨kvs,hM,hA⟩:=hNb;have hf:=NamV.find (n:=c.name) hA;have hdrop:f.classes.drop i=c::f.classes.drop (i+1):=by rw[List.drop_eq_getElem?_toList_append,hc];rfl
   push_cast -dsimp[e0];rcases hf with ⟨f1,f2⟩|⟨s,u,f1,f2,hs,ha⟩
   ·refine lookupG_none (kt:=9) (et:=41) (z:=.slice none 0 0) (by kernel_rfl) (keyStr (by kernel_rfl)) (by kernel_rfl) hM rfl f2 ?_;push_cast -dsimp[e2];have hkv:KindV Xn wb (.pointer (some ⟨xk,0,none⟩)) c.kind:=(hxk.top.below hbwb).mono (Kept.refl (fun _=>False) wb) (fun _ h=>h.elim) (fun b hb=>by
     rw[hXn]at hb;rcases hb with hb|hb
     ·exact .inl hb.1
     ·exact .inr (by omega))
    refine callK_of (ckind_c c.kind (hok c hcm) nm hRN Xn _ w1.heap.size wb hkv ⟨kvs,hM,hA⟩) ?_;rintro r wd ⟨hK,hbd⟩;have zd:=hbd.size;have hbwd:=hbwb.trans (hbd.mono hbwb.size);have Cd:=Cb.below hbd Cb.lt;have g0:wd.cell? ⟨wx.heap.size,0,none⟩=some (str c.name):=Cd.cell rfl;unfold KindRes at hK;cases hks:kindS nm c.kind with
    | error e =>
     rw[hks]at hK;obtain⟨eb,heb,rfl,hE⟩:=hK;push_cast -dsimp;refine⟨?_,hbwd⟩;unfold NamesRes;rw[hnm,hdrop,names_step,f1,hks];exact⟨_,rfl,eb,by omega,rfl,hE⟩
    | ok s =>
     rw[hks]at hK;obtain⟨v1,rfl,hs1,ha1⟩:=hK;have hrs:=kindS_right (k:=c.kind) hRN (hok c hcm) hks;obtain⟨_,_,rfl,_⟩:=hs1.shape;have hMd:=hM.below hbd hM.lt;push_cast -dsimp[g0];refine updateG_new (kt:=9) (et:=41) (by kernel_rfl) (keyStr (by kernel_rfl)) hMd rfl f2 ?_;intro we hMe hke hse;have hbwe:Below w.heap.size w we:=hbwd.trans (hke.below (by omega) (fun i h=>by omega));push_cast -dsimp
     refine⟨⟨by omega,by omega⟩,⟨i+1,nm++[(c.name,s)],rfl,by omega,?_,⟨_,hMe,?_⟩,rightN_snoc hRN hrs,hbwe,by omega⟩,by rw[h15];simp only[intOf];omega⟩
     ·rw[hnm,hdrop,names_step,f1,hks];rfl
     ·refine All2.snoc (hA.imp fun a b h=>⟨h.1,(h.2.1.below hbd).kept hke (fun i hi=>by rw[hXn];exact .inr hi),h.2.2⟩) ⟨rfl,(hs1.kept hke (fun i hi=>?_)).weaken (fun b hb=>?_),ha1⟩
      ·exact⟨by rw[hXn];exact .inr hi,by omega⟩
      ·refine⟨hb,?_⟩;rw[hXn]at hb;rcases hb with hb|hb
       ·omega
       ·omega
   ·refine lookupG_some (kt:=9) (et:=41) (z:=.slice none 0 0) (by kernel_rfl) (keyStr (by kernel_rfl)) (by kernel_rfl) hM rfl f2 ?_;obtain⟨_,_,rfl,_⟩:=hs.shape;push_cast -dsimp;have e1d:wb.drew.cell? ⟨wx.heap.size,1,none⟩=some (.int .i64 c.pos):=e1;refine wpL_drawN (fun w'=>w'.cell? ⟨wx.heap.size,1,none⟩=some (.int .i64 c.pos)) mixed (by kernel_rfl) e1 ?_;push_cast -dsimp[e1d]
    refine⟨fun w'' h=>by rw[h];exact rfl,?_⟩;refine boxK_of ?_;intro wd hwd;have hwd:New wb.drew wd 94 [.int .i64 9,.int .i64 c.pos]:=hwd;have hbd:Below wb.heap.size wb wd:=((Kept.refl (fun _=>False) wb).drew.below (Nat.le_refl _) (fun _ h=>h.elim)).trans hwd.below;refine⟨(hbd.cell (by show wx.heap.size<_;omega)).trans e1,?_⟩;push_cast -dsimp;refine⟨?_,hbwb.trans (hbd.mono hbwb.size)⟩
    unfold NamesRes;rw[hnm,hdrop,names_step,f1];exact⟨_,rfl,wb.heap.size,hbwb.size,rfl,hwd.blk⟩
  ·refine⟨?_,hbx⟩;rw[List.drop_of_length_le (by omega),namesS]at hnm;unfold NamesRes;rw[hnm];obtain⟨kvs,hM,hA⟩:=hNV;exact⟨_,by omega,rfl,⟨kvs,hM,hA.imp fun a b h=>⟨h.1,h.2.1.weaken (fun b hb=>by rw[hXn];exact .inl hb),h.2.2⟩⟩,hRN⟩
theorem eq_3n (c:Bool)(n k n' k':Nat)(L:VP)(other:Prop)(p):eqNilK 3 c .eql (.slice none n k) (.slice none n' k') L other p=L (.bool true):=by
 cases c<;>rfl
theorem eq_3s (c:Bool)(a:Addr)(n k n' k':Nat)(L:VP)(other:Prop)(p):eqNilK 3 c .eql (.slice (some a) n k) (.slice none n' k') L other p=L (.bool false):=by
 cases c<;>rfl
theorem encZ_one:∀x,∀u∈Vc.encZ x,u.oneCell'=true:=by simp[Vc.encZ,Value.oneCell']
theorem clone_c (l:List Int)(hl:l.length<1000000000)(X:Nat→Prop)(v:Value)(w:World)(hv:Sl X 1 (En Vc.encZ) w v l)(ha:Arg v) :
  Fun Tryz.prog 63 [v] w fun r w'=>Vc.Own w.heap.size 3 1 Vc.encZ w' r l∧Below w.heap.size w w':=by
 obtain⟨a,c,rfl,hc⟩:=hv.shape;refine fun_of_vc Tryz.func63 rfl (by kernel_rfl) [2] rfl ?_;push_cast -dsimp(maxSteps:=4000000) [Tryz.ntmps63];cases a with
 | none =>
  obtain⟨h0,rfl⟩:=ha _ _ rfl;have:l=[]:=List.eq_nil_of_length_eq_zero h0;subst this;push_cast -dsimp[eq_3n];exact⟨Vc.Own.nil (enc:=Vc.encZ) _ _ (fun _=>rfl) _,Below.refl _ _⟩
 | some ad =>
  push_cast -dsimp[eq_3s];refine rowK elI_53 rfl rfl (by omega) ?_;intro w1 hw1;have ho1:=hw1.own (base:=w.heap.size) (k:=1) (n:=0) (enc:=Vc.encZ) (l:=[]) rfl rfl (fun _=>rfl) (Nat.le_refl _) (by omega);have sz1:=hw1.size;push_cast -dsimp
  refine appendAny (base:=w.heap.size) (enc:=Vc.encZ) (ys:=l) elI_53 ho1 (hv.below hw1.below) (fun n c h=>by cases h) encZ_one (by simp only[List.length_nil];omega) (by omega) ?_;intro v' w2 ho2 hg2 hb2;rw[List.nil_append]at ho2;push_cast -dsimp;exact⟨ho2,hw1.below.trans hb2⟩
end Go.Proofs.YtledlfbbebodgaaGreatDoor
end
section
namespace Go.Proofs.YtledlfbbebodgaaGreatDoor
open Go.Vc Go.Proofs Go.RowKit
def encN (k : Nat) : List Value := [.int .i64 k]
end Go.Proofs.YtledlfbbebodgaaGreatDoor
end
section
namespace Cae
open Go.Lib
theorem compact_sorted (zs : List Int) (h : zs.Pairwise (· ≤ ·)) : (compact zs).Pairwise (· < ·) ∧ ∀ x, x ∈ compact zs ↔ x ∈ zs := by
  have get : ∀ j, j < zs.length → zs.toArray[j]! = zs[j]! := fun j hj => by simp
  have mono : ∀ i j, i ≤ j → j < zs.length → zs.toArray[i]! ≤ zs.toArray[j]! := fun i j hij hj => by
    rw [get i (by omega), get j hj, getElem!_pos zs i (by omega), getElem!_pos zs j hj]
    rcases Nat.lt_or_eq_of_le hij with hl | he
    · exact List.pairwise_iff_getElem.1 h i j (by omega) hj hl
    · subst he; exact Int.le_refl _
  have key : ∀ m, m ≤ zs.length → (compactUpTo zs.toArray m).Pairwise (· < ·) ∧ (∀ x ∈ compactUpTo zs.toArray m, ∃ j, j < m ∧ zs.toArray[j]! = x) ∧ ∀ j, j < m → zs.toArray[j]! ∈ compactUpTo zs.toArray m := by
    intro m
    induction m with
    | zero => intro _; simp [compactUpTo]
    | succ m ih =>
      intro hm
      obtain ⟨h1, h2, h3⟩ := ih (by omega)
      rw [compactUpTo_succ]
      by_cases hk : keeps zs.toArray m = true
      · rw [if_pos hk]
        refine ⟨List.pairwise_append.2 ⟨h1, by simp, fun x hx y hy => ?_⟩, fun x hx => ?_, fun j hj => ?_⟩
        · rw [List.mem_singleton] at hy
          subst hy
          obtain ⟨j, hj, rfl⟩ := h2 x hx
          unfold keeps at hk
          have hk := of_decide_eq_true hk
          rcases hk with hk | hk
          · omega
          · have a1 := mono j (m - 1) (by omega) (by omega)
            have a2 := mono (m - 1) m (by omega) (by omega)
            omega
        · rw [List.mem_append, List.mem_singleton] at hx
          rcases hx with hx | rfl
          · obtain ⟨j, hj, e⟩ := h2 x hx
            exact ⟨j, by omega, e⟩
          · exact ⟨m, by omega, rfl⟩
        · rw [List.mem_append, List.mem_singleton]
          by_cases hjm : j = m
          · subst hjm; exact .inr rfl
          · exact .inl (h3 j (by omega))
      · rw [if_neg hk, List.append_nil]
        refine ⟨h1, fun x hx => ?_, fun j hj => ?_⟩
        · obtain ⟨j, hj, e⟩ := h2 x hx
          exact ⟨j, by omega, e⟩
        · by_cases hjm : j = m
          · subst hjm
            unfold keeps at hk
            have hk : ¬ (j = 0 ∨ zs.toArray[j]! ≠ zs.toArray[j - 1]!) := fun hh => hk (decide_eq_true hh)
            have e : zs.toArray[j]! = zs.toArray[j - 1]! := Classical.byContradiction fun hne => hk (.inr hne)
            rw [e]
            exact h3 (j - 1) (by omega)
          · exact h3 j (by omega)
  obtain ⟨h1, h2, h3⟩ := key zs.length (Nat.le_refl _)
  refine ⟨h1, fun x => ⟨fun hx => ?_, fun hx => ?_⟩⟩
  · obtain ⟨j, hj, rfl⟩ := h2 x hx
    rw [get j hj, getElem!_pos zs j hj]
    exact List.getElem_mem _
  · obtain ⟨j, hj, rfl⟩ := List.getElem_of_mem hx
    have := h3 j hj
    rwa [get j hj, getElem!_pos zs j hj] at this
def intsN (l:List Nat):List Int:=l.map fun n:Nat=>(n:Int)
theorem intsN_back {zs : List Int} (h : ∀ z ∈ zs, 0 ≤ z) : intsN (zs.map Int.toNat) = zs := by
  unfold intsN
  rw [List.map_map]
  conv => rhs; rw [← List.map_id zs]
  exact List.map_congr_left fun z hz => by have := h z hz; simp [Function.comp]; omega
theorem sorted_compact (l : List Nat) : ∃ m : List Nat, compact (intsN l |>.mergeSort fun x y => decide (x ≤ y)) = intsN m ∧ m.Pairwise (· < ·) ∧ ∀ x, x ∈ m ↔ x ∈ l := by
  have hp := List.mergeSort_perm (intsN l) (fun x y => decide (x ≤ y))
  have hs : ((intsN l).mergeSort fun x y => decide (x ≤ y)).Pairwise (· ≤ ·) := by
    have := List.pairwise_mergeSort (le := fun x y : Int => decide (x ≤ y)) (fun a b c h1 h2 => by simp at *; omega) (fun a b => by simp; omega) (intsN l)
    exact this.imp fun h => of_decide_eq_true h
  obtain ⟨h1, h2⟩ := compact_sorted _ hs
  have h0 : ∀ z ∈ compact ((intsN l).mergeSort fun x y => decide (x ≤ y)), ∃ n : Nat, n ∈ l ∧ z = n := fun z hz => by
    have := (hp.mem_iff).1 ((h2 z).1 hz)
    unfold intsN at this
    obtain ⟨n, hn, rfl⟩ := List.mem_map.1 this
    exact ⟨n, hn, rfl⟩
  refine ⟨_, (intsN_back (fun z hz => by obtain ⟨n, _, rfl⟩ := h0 z hz; omega)).symm, ?_, fun x => ?_⟩
  · rw [List.pairwise_map]
    refine h1.imp_of_mem fun {a b} ha hb hab => ?_
    obtain ⟨n, _, rfl⟩ := h0 a ha
    obtain ⟨k, _, rfl⟩ := h0 b hb
    simp
    omega
  · rw [List.mem_map]
    constructor
    · rintro ⟨z, hz, rfl⟩
      obtain ⟨n, hn, rfl⟩ := h0 z hz
      simpa using hn
    · intro hx
      refine ⟨(x : Int), (h2 _).2 (hp.mem_iff.2 ?_), by simp⟩
      unfold intsN
      exact List.mem_map.2 ⟨x, hx, rfl⟩
end Cae
namespace Go.Proofs.YtledlfbbebodgaaGreatDoor
open Go.Vc Go.Proofs Go.RowKit Cae Go.Sort
theorem flatN (l:List Nat):l.flatMap encN=l.map (fun n:Nat=>Value.int .i64 (n:Int)):=by
 induction l with
 | nil=>rfl
 | cons x l ih=>simp[List.flatMap_cons,encN,ih]
theorem holdsN {base : Nat} {e : TypeId} {w : World} {g n c : Nat} {l : List Nat} (h : Vc.Own base e 1 encN w (.slice (some ⟨g, 0, none⟩) n c) l) : Holds (Value.int .i64) w g 0 (intsN l).toArray := by
  obtain ⟨cur, hB, hl, ht, _⟩ := Vc.Own.opened h rfl
  intro j hj
  have hj' : j < l.length := by simpa [intsN] using hj
  have h1 : cur[j]? = some (.int .i64 (l[j] : Int)) := by
    have h2 : (cur.take (l.length * 1))[j]? = (l.flatMap encN)[j]? := by rw [ht]
    rw [flatN, List.getElem?_take, if_pos (by omega)] at h2
    rw [h2]
    simp [hj']
  have e2 : ((intsN l).toArray)[j]! = (l[j] : Int) := by simp [intsN, hj']
  rw [e2]
  refine ⟨?_, ?_⟩
  · rw [Nat.zero_add]
    exact hB.cell h1
  · have hB' : w.heap[g]? = some (.cells cur.toArray e (0, 0)) := hB
    simp [World.frozen?, hB']
theorem putN {base : Nat} {e : TypeId} {w : World} {g n c q : Nat} {os : Array Obj} {l m : List Nat} (h : Vc.Own base e 1 encN w (.slice (some ⟨g, 0, none⟩) n c) l) (ds : List Int) (hd : ds = intsN m) (hm : m.length = l.length) :
    Vc.Own base e 1 encN (Go.Sort.grow (putRow (Value.int .i64) (Sort.ahead w q) g 0 ds.toArray) os) (.slice (some ⟨g, 0, none⟩) n c) m ∧ Kept (fun j => j = g) w (Go.Sort.grow (putRow (Value.int .i64) (Sort.ahead w q) g 0 ds.toArray) os) := by
  subst hd
  have hg := (h.block g rfl).2
  obtain ⟨cur, hB, hl, ht, hback⟩ := Vc.Own.opened h rfl
  have hsz : (putRow (Value.int .i64) (Sort.ahead w q) g 0 (intsN m).toArray).heap.size = w.heap.size := by simp [putRow, mapBlock, Sort.ahead]
  constructor
  · refine hback _ (putCells (Value.int .i64) 0 (intsN m).toArray cur.toArray).toList m ?_ (by simp [putCells]) hm ?_
    · show (Go.Sort.grow _ os).heap[g]? = _
      rw [heap_grow_old _ _ (by omega)]
      have hB' : w.heap[g]? = some (.cells cur.toArray e (0, 0)) := hB
      simp [putRow, mapBlock, Sort.ahead, Array.getElem?_modify, hB', onCells]
    · apply List.ext_getElem?
      intro k
      rw [flatN, List.getElem?_take]
      by_cases hk : k < m.length
      · rw [if_pos (by omega)]
        have hkc : k < cur.length := by omega
        simp [putCells, hkc, hk, intsN]
      · rw [if_neg (by omega), List.getElem?_eq_none (by simp; omega)]
  · refine ⟨rfl, rfl, rfl, ?_, fun k hk hne => ?_⟩
    · simp [Go.Sort.grow, hsz]
    · rw [heap_grow_old _ _ (by omega)]
      simp [putRow, mapBlock, Sort.ahead, Array.getElem?_modify, Ne.symm hne]
end Go.Proofs.YtledlfbbebodgaaGreatDoor
end
section
namespace Go.Vc
open Go.RowKit
theorem sl_mk {α:Type}{X:Nat→Prop}{k:Nat}{enc:α→List Value}{w:World}{a:Option Addr}{c n:Nat}{us:List α}(hl:us.length=n)(hc:n≤c)(hk:∀x,(enc x).length=k)
  (h:∀(i:Nat) (u:α),us[i]?=some u→∃b o,a=some ⟨b,o,none⟩∧¬X b∧∀j x,(enc u)[j]?=some x→w.cell? ⟨b,o+i*k+j,none⟩=some x):Sl X k (En enc) w (.slice a n c) us:=by
 subst hl;refine⟨a,c,rfl,hc,fun i u hu=>?_⟩;obtain⟨b,o,e,hX,hcell⟩:=h i u hu;exact⟨b,o,_,e,hX,hk u,hcell,rfl⟩
end Go.Vc
namespace Go.Proofs.YtledlfbbebodgaaGreatDoor
open Go.Vc Go.Proofs Go.RowKit Cae
attribute [local irreducible] wpL callK valK unitK runK Fun Sl Vc.Own vc vcOps opK pureK
theorem equalN_c (l l':List Nat)(hl:l.length<10000000)(X X':Nat→Prop)(v v':Value)(w:World)(hv:Sl X 1 (En encN) w v l)(hv':Sl X' 1 (En encN) w v' l') :
  Fun Tryz.prog 16 [v,v'] w fun r w'=>r=.bool (decide (l=l'))∧Below w.heap.size w w':=by
 obtain⟨a,c,rfl,hc⟩:=hv.shape;obtain⟨a',c',rfl,hc'⟩:=hv'.shape;refine fun_of_vc Tryz.func16 rfl (by kernel_rfl) [4] rfl ?_;push_cast -dsimp(maxSteps:=4000000) [Tryz.ntmps16];refine⟨fun hne=>⟨?_,Below.refl _ _⟩,fun he=>?_⟩
 ·rw[decide_eq_false];intro h;subst h;omega
 have he':l.length=l'.length:=by omega
 refine wpL_loop [4,5,13,14,15,16,17,18,19,20,21,22,23,24,25] (fun z wx=>∃(i:Nat),z 13=.int .i64 i∧i≤l.length∧l.take i=l'.take i∧Below w.heap.size w wx) (fun z _=>l.length-(intOf (z 13)).toNat) ?_ ?_
 ·exact⟨0,rfl,Nat.zero_le _,rfl,Below.refl _ _⟩
 ·intro z wx hI;obtain⟨i,h13,hi,hok,hb⟩:=hI;push_cast -dsimp[h13];refine⟨fun hlt=>?_,fun hge=>?_⟩
  ·obtain⟨x,hx,hxm,hd,ht⟩:=lt_get (l:=l) (i:=i) (by omega);obtain⟨b,o,rfl,hX,hcell⟩:=(hv.below hb).get hx;obtain⟨x',hx',hxm',hd',ht'⟩:=lt_get (l:=l') (i:=i) (by omega);obtain⟨b',o',rfl,hX',hcell'⟩:=(hv'.below hb).get hx';refine wpL_draw (fun w'=>∀a,w'.cell? a=wx.cell? a) mixed (by kernel_rfl) (fun _=>rfl) ?_;have c0:wx.cell? ⟨b,o+i,none⟩=some (.int .i64 (x:Int)):=by simpa using hcell 0 _ rfl
   have c0':wx.cell? ⟨b',o'+i,none⟩=some (.int .i64 (x':Int)):=by simpa using hcell' 0 _ rfl
   have d0:wx.drew.cell? ⟨b,o+i,none⟩=some (.int .i64 (x:Int)):=c0;have d0':wx.drew.cell? ⟨b',o'+i,none⟩=some (.int .i64 (x':Int)):=c0';push_cast -dsimp[d0,d0'];refine⟨⟨by omega,by omega⟩,fun w'' hC=>by rw[hC,c0];exact rfl,⟨by omega,by omega⟩,fun w'' hC=>by rw[hC,c0'];exact rfl,fun hne=>?_,fun heq=>?_⟩
   ·refine⟨?_,hb.drew⟩;rw[decide_eq_false];intro h;subst h;rw[hx]at hx';cases hx';exact hne rfl
   ·have heq:x=x':=by omega
    exact⟨⟨by omega,by omega⟩,⟨i+1,rfl,by omega,by rw[ht,ht',hok,heq],hb.drew⟩,by rw[h13];simp only[intOf];omega⟩
  ·refine⟨?_,hb⟩;rw[List.take_of_length_le (by omega),List.take_of_length_le (by omega)]at hok;rw[decide_eq_true hok]
end Go.Proofs.YtledlfbbebodgaaGreatDoor
end
section
namespace Go.Proofs.YtledlfbbebodgaaGreatDoor
open Go.Vc Go.Proofs Go.RowKit Cae Go.Sort
def srtR_ren:Go.Shelf.Ren:=⟨fun|189=>73|125=>117|257=>116|128=>156|129=>157|294=>147|295=>148|296=>149|297=>150|298=>151|299=>152|216=>153|300=>154|301=>155|328=>173|329=>174|330=>175|331=>176|332=>177|215=>146|343=>195|n=>n,fun|28=>53|3=>3|46=>103|0=>0|51=>244|53=>246|4=>4|183=>237|182=>236|131=>168|5=>5|9=>9|218=>254|222=>258|228=>278|229=>97|n=>n,fun|n=>n⟩
theorem srtR : Go.Proofs.Lays.n189 Tryz.prog srtR_ren := {
  mixed := by kernel_rfl
  f125 := Tryz.func117.trans (congrArg some (by kernel_rfl))
  f128 := Tryz.func156.trans (congrArg some (by kernel_rfl))
  f129 := Tryz.func157.trans (congrArg some (by kernel_rfl))
  f189 := Tryz.func73.trans (congrArg some (by kernel_rfl))
  f215 := Tryz.func146.trans (congrArg some (by kernel_rfl))
  f216 := Tryz.func153.trans (congrArg some (by kernel_rfl))
  f257 := Tryz.func116.trans (congrArg some (by kernel_rfl))
  f294 := Tryz.func147.trans (congrArg some (by kernel_rfl))
  f295 := Tryz.func148.trans (congrArg some (by kernel_rfl))
  f296 := Tryz.func149.trans (congrArg some (by kernel_rfl))
  f297 := Tryz.func150.trans (congrArg some (by kernel_rfl))
  f298 := Tryz.func151.trans (congrArg some (by kernel_rfl))
  f299 := Tryz.func152.trans (congrArg some (by kernel_rfl))
  f300 := Tryz.func154.trans (congrArg some (by kernel_rfl))
  f301 := Tryz.func155.trans (congrArg some (by kernel_rfl))
  f328 := Tryz.func173.trans (congrArg some (by kernel_rfl))
  f329 := Tryz.func174.trans (congrArg some (by kernel_rfl))
  f330 := Tryz.func175.trans (congrArg some (by kernel_rfl))
  f331 := Tryz.func176.trans (congrArg some (by kernel_rfl))
  f332 := Tryz.func177.trans (congrArg some (by kernel_rfl))
  f343 := Tryz.func195.trans (congrArg some (by kernel_rfl))
  t0 := Tryz.underlying0
  a0 := Tryz.isAgg0
  z0 := Tryz.sizeOf0
  v0 := Tryz.zeroValue0
  t3 := Tryz.underlying3
  a3 := Tryz.isAgg3
  z3 := Tryz.sizeOf3
  v3 := Tryz.zeroValue3
  t4 := Tryz.underlying4
  a4 := Tryz.isAgg4
  z4 := Tryz.sizeOf4
  v4 := Tryz.zeroValue4
  t5 := Tryz.underlying5
  a5 := Tryz.isAgg5
  z5 := Tryz.sizeOf5
  v5 := Tryz.zeroValue5
  t9 := Tryz.underlying9
  a9 := Tryz.isAgg9
  z9 := Tryz.sizeOf9
  v9 := Tryz.zeroValue9
  t28 := Tryz.underlying53
  a28 := Tryz.isAgg53
  z28 := Tryz.sizeOf53
  v28 := Tryz.zeroValue53
  t46 := Tryz.underlying103
  a46 := Tryz.isAgg103
  z46 := Tryz.sizeOf103
  v46 := Tryz.zeroValue103
  t51 := Tryz.underlying244
  a51 := Tryz.isAgg244
  z51 := Tryz.sizeOf244
  v51 := Tryz.zeroValue244
  t53 := Tryz.underlying246
  a53 := Tryz.isAgg246
  z53 := Tryz.sizeOf246
  v53 := Tryz.zeroValue246
  t131 := Tryz.underlying168
  a131 := Tryz.isAgg168
  z131 := Tryz.sizeOf168
  v131 := Tryz.zeroValue168
  t182 := Tryz.underlying236
  a182 := Tryz.isAgg236
  z182 := Tryz.sizeOf236
  v182 := Tryz.zeroValue236
  t183 := Tryz.underlying237
  a183 := Tryz.isAgg237
  z183 := Tryz.sizeOf237
  v183 := Tryz.zeroValue237
  t218 := Tryz.underlying254
  a218 := Tryz.isAgg254
  z218 := Tryz.sizeOf254
  v218 := Tryz.zeroValue254
  t222 := Tryz.underlying258
  a222 := Tryz.isAgg258
  z222 := Tryz.sizeOf258
  v222 := Tryz.zeroValue258
  t228 := Tryz.underlying278
  a228 := Tryz.isAgg278
  z228 := Tryz.sizeOf278
  v228 := Tryz.zeroValue278
  t229 := Tryz.underlying97
  a229 := Tryz.isAgg97
  z229 := Tryz.sizeOf97
  v229 := Tryz.zeroValue97 }
def cmpctR_ren:Go.Shelf.Ren:=⟨fun|20=>74|n=>n,fun|22=>53|3=>3|4=>4|0=>0|n=>n,fun|n=>n⟩
theorem cmpctR:Go.Proofs.Lays2.n20 Tryz.prog cmpctR_ren:={
 mixed:=by kernel_rfl
 f20:=Tryz.func74.trans (congrArg some (by kernel_rfl))
 t0:=Tryz.underlying0
 a0:=Tryz.isAgg0
 z0:=Tryz.sizeOf0
 v0:=Tryz.zeroValue0
 t3:=Tryz.underlying3
 a3:=Tryz.isAgg3
 z3:=Tryz.sizeOf3
 v3:=Tryz.zeroValue3
 t4:=Tryz.underlying4
 a4:=Tryz.isAgg4
 z4:=Tryz.sizeOf4
 v4:=Tryz.zeroValue4
 t22:=Tryz.underlying53
 a22:=Tryz.isAgg53
 z22:=Tryz.sizeOf53
 v22:=Tryz.zeroValue53
 i3:=by kernel_rfl }
theorem ownN0 {base:Nat}{e:TypeId}{w:World}{ad:Addr}{n c:Nat}{l:List Nat}(h:Vc.Own base e 1 encN w (.slice (some ad) n c) l):∃g,ad=⟨g,0,none⟩:=by
 rcases h.1.2 with ⟨he,_⟩|⟨g,cap,cr,he,_⟩
 ·cases he
 ·cases he;exact⟨_,rfl⟩
theorem sortN_c (l:List Nat)(hl:l.length<1000000000)(base:Nat)(v:Value)(w:World)(ho:Vc.Own base 3 1 encN w v l) :
  Fun Tryz.prog 73 [v] w fun r w'=>(∃m,intsN m=((intsN l).mergeSort fun x y=>decide (x≤y))∧Vc.Own base 3 1 encN w' v m)∧Kept (fun j=>v.ownBlock=some j) w w':=by
 refine fun_of_calls Tryz.func73 (by kernel_rfl) (by kernel_rfl) ?_;obtain⟨a,c,rfl⟩:=ho.slice;cases a with
 | none =>
  have hz:=(ho.nilArg _ _ rfl).1;have hn:l=[]:=List.eq_nil_of_length_eq_zero hz;subst hn;refine(Any.slices_Sort_int_none srtR none c w).mono ?_;rintro e w' ⟨rfl,rfl⟩;exact⟨_,rfl,⟨[],by simp[intsN],ho⟩,Kept.refl _ _⟩
 | some ad =>
  obtain⟨g,rfl⟩:=ownN0 ho;have hgb:=ho.block g rfl;have hil:(intsN l).length=l.length:=by simp[intsN]
  have hcon:=Any.slices_Sort_int srtR g 0 c (intsN l) w (holdsN ho) hgb.2 (by omega);rw[hil]at hcon;refine Calls.mono hcon ?_;rintro e w' ⟨rfl,n,os,rfl⟩;have hp:=List.mergeSort_perm (intsN l) (fun x y=>decide (x≤y));have hback:intsN (((intsN l).mergeSort fun x y=>decide (x≤y)).map Int.toNat)=((intsN l).mergeSort fun x y=>decide (x≤y)):=intsN_back fun z hz=>by
   have:=hp.mem_iff.1 hz;unfold intsN at this;obtain⟨k,_,rfl⟩:=List.mem_map.1 this;omega
  have hput:=putN (q:=n) (os:=os) ho _ hback.symm (by rw[List.length_map,hp.length_eq,hil]);exact⟨_,rfl,⟨_,hback,hput.1⟩,hput.2.weaken (fun i _ h=>by rw[h];rfl)⟩
theorem compactN_c (l:List Nat)(hl:l.length<1000000000)(base:Nat)(v:Value)(w:World)(ho:Vc.Own base 3 1 encN w v l) :
  Fun Tryz.prog 74 [v] w fun r w'=>(∃m,intsN m=Lib.compact (intsN l)∧Vc.Own base 3 1 encN w' r m∧∀j,r.ownBlock=some j→v.ownBlock=some j)∧Kept (fun j=>v.ownBlock=some j) w w':=by
 refine fun_of_calls Tryz.func74 (by kernel_rfl) (by kernel_rfl) ?_;obtain⟨a,c,rfl⟩:=ho.slice;cases a with
 | none =>
  have hz:=(ho.nilArg _ _ rfl).1;have hn:l=[]:=List.eq_nil_of_length_eq_zero hz;subst hn;refine(Any.slices_Compact_int_empty cmpctR none c w).mono ?_;rintro e w' ⟨rfl,rfl⟩;exact⟨_,rfl,⟨[],rfl,ho,fun j h=>h⟩,Kept.refl _ _⟩
 | some ad =>
  obtain⟨g,rfl⟩:=ownN0 ho;have hil:(intsN l).length=l.length:=by simp[intsN]
  have hcut:=Vc.Own.cut ho;have hcap:l.length≤c:=by
   rcases hcut with ⟨h,_⟩|⟨g',_,_,hc,_⟩
   ·cases h
   ·exact hc
  have hcon:=Any.slices_Compact_int cmpctR g 0 c (intsN l) w (holdsN ho) (by omega) (by omega);rw[hil]at hcon;refine Calls.mono hcon ?_;rintro e w' ⟨rfl,q,rfl⟩;have hle:=Lib.compact_length_le (intsN l);have hback:intsN ((Lib.compact (intsN l)).map Int.toNat)=Lib.compact (intsN l):=intsN_back fun z hz=>by
   unfold Lib.compact Lib.compactUpTo at hz;obtain⟨k,hk,rfl⟩:=List.mem_map.1 hz;have hk2:=List.mem_range.1 (List.mem_filter.1 hk).1;have hk3:k<l.length:=by omega
   simp[intsN,hk3]
  have hfull:Lib.compact (intsN l)++List.replicate (l.length-(Lib.compact (intsN l)).length) 0=intsN ((Lib.compact (intsN l)).map Int.toNat++List.replicate (l.length-(Lib.compact (intsN l)).length) 0):=by
   unfold intsN;rw[List.map_append];have h1:=hback;unfold intsN at h1;rw[h1];simp
  have hput:=putN (q:=q) (os:=#[]) ho _ hfull (by rw[List.length_append,List.length_map,List.length_replicate];omega);rw[Sort.grow_empty]at hput;have hc2:=Vc.Own.cut hput.1;rcases hc2 with ⟨h,_⟩|⟨g',hg',_,_,hall⟩
  ·cases h
  ·cases hg';have h3:=hall (Lib.compact (intsN l)).length (by omega);rw[List.take_left' (by simp)]at h3;exact⟨_,rfl,⟨_,hback,h3,fun j h=>h⟩,hput.2.weaken (fun i _ h=>by rw[h];rfl)⟩
theorem sl_ints {X:Nat→Prop}{w:World}{v:Value}{l:List Nat}(h:Sl X 1 (En encN) w v l):Sl X 1 (En Go.Vc.encZ) w v (intsN l):=by
 obtain⟨a,c,rfl,hc⟩:=h.shape;refine sl_mk (by simp[intsN]) hc (fun _=>rfl) fun i u hu=>?_;unfold intsN at hu;rw[List.getElem?_map]at hu;obtain⟨n,hn,rfl⟩:=Option.map_eq_some_iff.1 hu;obtain⟨b,o,e,hX,hcell⟩:=h.get hn;exact⟨b,o,e,hX,fun j x hx=>hcell j x hx⟩
theorem intsEnc (l:List Nat):(intsN l).flatMap Go.Vc.encZ=l.flatMap encN:=by
 rw[flatN];unfold intsN;induction l with
 | nil=>rfl
 | cons x l ih=>rw[List.map_cons,List.flatMap_cons,List.map_cons,ih];rfl
theorem own_ints {base:Nat}{e:TypeId}{w:World}{v:Value}{l:List Nat}(h:Vc.Own base e 1 Go.Vc.encZ w v (intsN l)):Vc.Own base e 1 encN w v l:=by
 have e1:=intsEnc l;have e2:(intsN l).length=l.length:=by simp[intsN]
 refine⟨?_,fun _=>rfl⟩;have:=h.1;rw[e1,e2]at this;exact this
theorem cloneN_c (l:List Nat)(hl:l.length<1000000000)(X:Nat→Prop)(v:Value)(w:World)(hv:Sl X 1 (En encN) w v l)(ha:Arg v) :
  Fun Tryz.prog 63 [v] w fun r w'=>Vc.Own w.heap.size 3 1 encN w' r l∧Below w.heap.size w w' :=
 (clone_c (intsN l) (by simp[intsN];omega) X v w (sl_ints hv) ha).mono fun r w' ⟨h1,h2⟩=>⟨own_ints h1,h2⟩
end Go.Proofs.YtledlfbbebodgaaGreatDoor
end
section
namespace Cae
theorem imgM_of {N:Nat}{R:Nat→Nat→Prop}{l m:List Nat}(hm:m.Pairwise (·<·))(h:∀j,j∈m↔j≤N∧∃i∈l,R i j):m=imgM N R l :=
 rise_eq hm (imgM_rise N R l) fun j=>by rw[h j,imgM_mem]
def catN (has:KindP→Int→Prop)(pts:List Int)(back:Bool)(l:List PatP)(n:Nat):Nat→Nat→Prop:=if back then RchB has pts back (l.drop (l.length-n)) else RchF has pts back (l.take n)
section
variable {has:KindP→Int→Prop} {pts:List Int} {back:Bool}
theorem catN_zero {l:List PatP}{i j:Nat}:catN has pts back l 0 i j↔i=j:=by
 unfold catN;cases back
 ·simp[RchF]
 ·simp[RchB]
theorem catN_all {l:List PatP}{i j:Nat}:catN has pts back l l.length i j↔Rch has pts back (.cat l) i j:=by
 unfold catN;rw[rch_cat];cases back
 ·simp
 ·simp
theorem catN_succ {l:List PatP}{n:Nat}{x:PatP}{i j:Nat}(hn:n<l.length)(hx:l[if back then l.length-1-n else n]?=some x):catN has pts back l (n+1) i j↔∃m,catN has pts back l n i m∧Rch has pts back x m j:=by
 unfold catN;cases back with
 | false =>
  have hx:l[n]?=some x:=hx;rw[if_neg (by simp),if_neg (by simp),List.take_add_one,hx]
  show RchF has pts false (l.take n++[x]) i j↔_
  rw[rchF_app];refine exists_congr fun m=>and_congr Iff.rfl ?_;simp only[RchF];constructor
  ·rintro⟨k,h1,rfl⟩;exact h1
  ·intro h;exact⟨j,h,rfl⟩
 | true =>
  have hx:l[l.length-1-n]?=some x:=hx;rw[if_pos rfl,if_pos rfl];have hlt:l.length-(n+1)<l.length:=by omega
  have e:l.drop (l.length-(n+1))=x::l.drop (l.length-n):=by
   rw[List.drop_eq_getElem_cons hlt];have e1:l.length-(n+1)+1=l.length-n:=by omega
   rw[e1];congr 1;have e2:l.length-1-n=l.length-(n+1):=by omega
   rw[e2,List.getElem?_eq_getElem hlt]at hx;exact Option.some.inj hx
  rw[e];simp only[RchB]
theorem catN_le {l:List PatP}{n i j:Nat}(hi:i≤pts.length)(h:catN has pts back l n i j):j≤pts.length:=by
 unfold catN at h;split at h
 ·exact rchB_le _ hi h
 ·exact rchF_le _ hi h
theorem many_iff {x:PatP}{lo:Nat}{hi:Int}{from_:List Nat}{j:Nat}:(∃i∈from_,Rch has pts back (.many x (lo:Int) hi) i j)↔∃t,(hi<0∨((lo+t:Nat):Int)≤hi)∧stM (Rch has pts back x) from_ (lo+t) j:=by
 constructor
 ·rintro⟨i,hm,h⟩;obtain⟨n,h1,h2,h3⟩:=rch_many.1 h;refine⟨n-lo,?_,i,hm,?_⟩
  ·rw[show lo+(n-lo)=n by omega];exact h2
  ·rw[show lo+(n-lo)=n by omega];exact h3
 ·rintro⟨t,h1,i,hm,h2⟩;exact⟨i,hm,rch_many.2 ⟨lo+t,by omega,h1,h2⟩⟩
end
theorem rise_same {l m:List Nat}(hl:l.Pairwise (·<·))(hm:m.Pairwise (·<·))(h:∀x∈l,x∈m)(hlen:l.length=m.length):l=m:=by
 have e:l=m.filter fun x=>decide (x∈l):=rise_eq hl (List.Pairwise.filter _ hm) fun x=>by
  rw[List.mem_filter,decide_eq_true_iff];exact⟨fun hx=>⟨h x hx,hx⟩,fun hx=>hx.2⟩
 have e2:(m.filter fun x=>decide (x∈l)).length=m.length:=by rw[←e];exact hlen
 have hall:=List.length_filter_eq_length_iff.1 e2;exact rise_eq hl hm fun x=>⟨h x,fun hx=>of_decide_eq_true (hall x hx)⟩
def usize (c:Nat):Nat:=if c<128 then 1 else if 194≤c∧c<224 then 2 else if 224≤c∧c<240 then 3 else if 240≤c∧c<245 then 4 else 0
theorem usize_le (c:Nat):usize c≤4:=by unfold usize;grind
def uleast (n:Nat):Nat:=if n=2 then 128 else if n=3 then 2048 else if n=4 then 65536 else 0
def ulead (n c:Nat):Nat:=if 1<n then c % 2 ^ (7-n) else c
def ubad (n p:Nat):Prop:=p<uleast n∨1114111<p∨(55296≤p∧p<57344)
instance (n p:Nat):Decidable (ubad n p):=by unfold ubad;infer_instance
def urd:List UInt8→Nat→Option Nat
 | [],p=>some p
 | c::r,p=>if c.toNat / 64=2 then urd r (p*64+c.toNat % 64) else none
def ufirst (s : List UInt8) : Nat × Nat := match s with
  | [] => (0, 0)
  | c :: _ =>
    let n := usize c.toNat
    if n = 0 ∨ s.length < n then (0, 0) else
    match urd ((s.take n).drop 1) (ulead n c.toNat) with
    | none => (0, 0)
    | some p => if ubad n p then (0, 0) else (p, n)
structure U where
 p:Nat
 at_:Nat
 n:Nat
 deriving DecidableEq
def ustep (s:List UInt8):Nat×Nat:=if (ufirst s).2=0 then (65533,1) else ufirst s
theorem ufirst_le (s:List UInt8):(ufirst s).2≤s.length∧(ufirst s).2≤4∧((ufirst s).2=0→ufirst s=(0,0))∧(ufirst s).1≤1114111:=by
 unfold ufirst
 cases s with
 | nil=>simp
 | cons c s =>
  dsimp only
  split
  ·simp
  ·rename_i h
   have hu:=usize_le c.toNat
   have h1:usize c.toNat≠0:=fun e=>h (.inl e)
   have h2:¬(c::s).length<usize c.toNat:=fun e=>h (.inr e)
   split
   ·simp
   ·split
    ·simp
    ·rename_i hb
     unfold ubad at hb
     simp only[not_or,Nat.not_lt]at hb
     exact⟨by omega,hu,fun e=>absurd e h1,hb.2.1⟩
theorem ustep_pos (s:List UInt8):1≤(ustep s).2∧(ustep s).2≤4:=by
 unfold ustep;have:=ufirst_le s;split<;>first|(simp;done)|(simp;omega)|omega
theorem ustep_le (s:List UInt8)(h:s≠[]):(ustep s).2≤s.length:=by
 unfold ustep;have:=ufirst_le s;have:0<s.length:=List.length_pos_iff.2 h;split<;>first|(simp;done)|(simp;omega)|omega
def udec (at_:Nat)(s:List UInt8):List U :=
 if _h:s=[] then [] else ⟨(ustep s).1,at_,(ustep s).2⟩::udec (at_+(ustep s).2) (s.drop (ustep s).2)
termination_by s.length
decreasing_by
 have h1:=ustep_pos s
 have h2:0<s.length:=List.length_pos_iff.2 (by assumption)
 simp
 omega
theorem udec_nil (a:Nat):udec a []=[]:=by rw[udec];simp
theorem udec_cons (a:Nat)(s:List UInt8)(h:s≠[]):udec a s=⟨(ustep s).1,a,(ustep s).2⟩::udec (a+(ustep s).2) (s.drop (ustep s).2):=by rw[udec];simp[h]
theorem udec_length (n:Nat):∀(s:List UInt8) (a:Nat),s.length=n→(udec a s).length≤s.length:=by
 induction n using Nat.strongRecOn with
 | _ n ih =>
  intro s a hs;by_cases h:s=[]
  ·subst h;simp[udec_nil]
  ·rw[udec_cons a s h];have h1:=ustep_pos s;have h2:=ustep_le s h;have:=ih (s.drop (ustep s).2).length (by rw[List.length_drop];omega) (s.drop (ustep s).2) (a+(ustep s).2) rfl;rw[List.length_drop]at this;simp only[List.length_cons];omega
def okPoint (p:Int):Prop:=0≤p∧p≤1114111∧¬(55296≤p∧p<57344)
instance (p:Int):Decidable (okPoint p):=by unfold okPoint;infer_instance
theorem ufirst_none {c:UInt8}{s:List UInt8}(h0:usize c.toNat≠0)(hl:usize c.toNat≤(c::s).length)
  (h:urd (((c::s).take (usize c.toNat)).drop 1) (ulead (usize c.toNat) c.toNat)=none):ufirst (c::s)=(0,0):=by
 unfold ufirst;dsimp only;rw[if_neg (by omega),h]
theorem ufirst_some {c:UInt8} {s:List UInt8} {p:Nat} (h0:usize c.toNat≠0) (hl:usize c.toNat≤(c::s).length)
  (h:urd (((c::s).take (usize c.toNat)).drop 1) (ulead (usize c.toNat) c.toNat)=some p) :
  ufirst (c::s)=if ubad (usize c.toNat) p then (0,0) else (p,usize c.toNat):=by
 unfold ufirst
 dsimp only
 rw[if_neg (by omega),h]
theorem urd_step {s:List UInt8}{n i p:Nat}{R:Option Nat}(hi:i<n)(hn:n≤s.length)(h:urd ((s.take n).drop i) p=R) :
  (if (s.getD i 0).toNat / 64=2 then urd ((s.take n).drop (i+1)) (p*64+(s.getD i 0).toNat % 64) else none)=R:=by
 have hl:i<(s.take n).length:=by rw[List.length_take];omega
 rw[List.drop_eq_getElem_cons hl,urd]at h;have e:(s.take n)[i]=s.getD i 0:=by
  rw[List.getElem_take,List.getD_eq_getElem?_getD,List.getElem?_eq_getElem (by omega)];rfl
 rw[e]at h;exact h
theorem urd_end {s:List UInt8}{n i p:Nat}{R:Option Nat}(hi:n≤i)(h:urd ((s.take n).drop i) p=R):R=some p:=by
 rw[List.drop_eq_nil_of_le (by rw[List.length_take];omega)]at h;exact h.symm
theorem urd_bound {p i k:Nat}(h:p<256*64 ^ (i-1))(h1:1≤i)(hk:k<64):p*64+k<256*64 ^ (i+1-1):=by
 obtain⟨j,rfl⟩:∃j,i=j+1:=⟨i-1,by omega⟩;simp only[Nat.add_sub_cancel]at h ⊢;rw[Nat.pow_succ];omega
theorem urd_small {p i:Nat}(h:p<256*64 ^ (i-1))(hi:i≤4):p<67108865:=by
 have:64 ^ (i-1)≤64 ^ 3:=Nat.pow_le_pow_right (by omega) (by omega);omega
end Cae
end
section
namespace Go.Proofs.YtledlfbbebodgaaGreatDoor
open Go.Vc Go.Proofs Go.RowKit Cae
attribute [local irreducible] wpL callK valK unitK runK Fun Sl Vc.Own vc vcOps opK pureK
def Least (w:World):Prop:=∀k:Nat,k<5→w.cell? ⟨0,k,none⟩=some (.int .i64 (uleast k))
theorem Least.below {w w':World}(h:Least w)(hb:Below w.heap.size w w'):Least w':=fun k hk=>by
 have:=h k hk;exact(hb.cell (World.block_lt_of_cell? w _ this)).trans this
theorem size_c (c:Nat)(w:World):Fun Tryz.prog 69 [.int .u8 c] w fun v w'=>v=.int .i64 (usize c)∧w'=w:=by
 refine fun_of_vc Tryz.func69 rfl (by kernel_rfl) [2] rfl ?_;push_cast -dsimp(maxSteps:=4000000) [Tryz.ntmps69];simp only[Value.int.injEq,usize];grind
theorem lead_and {n c:Nat} (hn:n≤4) (h1:1<n) (hc:c<256) :
  bitop .and .i64 (IntKind.i64.wrap (c:Int)) (IntKind.i64.wrap (1*2 ^ min ((7:Int)-n).toNat IntKind.i64.bits)-1)=((ulead n c:Nat):Int):=by
 have e:n=2∨n=3∨n=4:=by omega
 rw[wrap_i64_nat (by omega)]
 rcases e with rfl|rfl|rfl
 ·rw[show IntKind.i64.wrap (1*2 ^ min ((7:Int)-(2:Nat)).toNat IntKind.i64.bits)-1=((2 ^ 5-1:Nat):Int) from by decide,bits_and_i64 (by omega) (by omega),and_mask];rfl
 ·rw[show IntKind.i64.wrap (1*2 ^ min ((7:Int)-(3:Nat)).toNat IntKind.i64.bits)-1=((2 ^ 4-1:Nat):Int) from by decide,bits_and_i64 (by omega) (by omega),and_mask];rfl
 ·rw[show IntKind.i64.wrap (1*2 ^ min ((7:Int)-(4:Nat)).toNat IntKind.i64.bits)-1=((2 ^ 3-1:Nat):Int) from by decide,bits_and_i64 (by omega) (by omega),and_mask];rfl
theorem ulead_lt {n c:Nat}(hc:c<256):ulead n c<256:=by
 unfold ulead;split
 ·exact Nat.lt_of_le_of_lt (Nat.mod_le _ _) hc
 ·exact hc
theorem cont_and (c:UInt8):bitop .and .u8 (c.toNat:Int) 192=((c.toNat / 64*64:Nat):Int):=by
 have hc:=c.toNat_lt;rw[show (192:Int)=((192:Nat):Int) from rfl,bits_and_u8 hc (by omega)];congr 1;have:∀k:Nat,k<256→k &&& 192=k / 64*64:=by decide
 exact this _ hc
theorem low_and (c:UInt8):bitop .and .u8 (c.toNat:Int) 63=((c.toNat % 64:Nat):Int):=by
 have hc:=c.toNat_lt;rw[show (63:Int)=((2 ^ 6-1:Nat):Int) from rfl,bits_and_u8 hc (by omega),and_mask]
theorem more_or {p c:Nat}(hp:p<2147483648) :
  bitop .or .i64 (IntKind.i64.wrap ((p:Int)*2 ^ min (6:Int).toNat IntKind.i64.bits)) (IntKind.i64.wrap ((c % 64:Nat):Int))=((p*64+c % 64:Nat):Int):=by
 rw[shl_i64 (k:=6) rfl (by omega) (by omega),wrap_i64_nat (by omega),bits_or_i64 (by omega) (by omega),or_low (by omega)]
theorem first_walk {c:UInt8} {s':List UInt8} {i p:Nat} (h1:¬(usize c.toNat:Int)=0) (h2:¬(s'.length:Int)+1<usize c.toNat)
  (hi1:1≤i) (hp:p<256*64 ^ (i-1)) (hi2:i≤usize c.toNat)
  (hr:urd (((c::s').take (usize c.toNat)).drop i) p=urd (((c::s').take (usize c.toNat)).drop 1) (ulead (usize c.toNat) c.toNat)) :
  (i<usize c.toNat →
   (bitop .and .u8 (((c::s').getD i 0).toNat:Int) 192≠128→ufirst (c::s')=(0,0)) ∧
   (¬bitop .and .u8 (((c::s').getD i 0).toNat:Int) 192≠128→∃q:Nat,
    bitop .or .i64 (IntKind.i64.wrap ((p:Int)*2 ^ min (6:Int).toNat IntKind.i64.bits)) (IntKind.i64.wrap (bitop .and .u8 (((c::s').getD i 0).toNat:Int) 63))=(q:Int) ∧
    q<256*64 ^ (i+1-1)∧urd (((c::s').take (usize c.toNat)).drop (i+1)) q=urd (((c::s').take (usize c.toNat)).drop 1) (ulead (usize c.toNat) c.toNat))) ∧
  (¬i<usize c.toNat→ufirst (c::s')=if ubad (usize c.toNat) p then (0,0) else (p,usize c.toNat)):=by
 have hu:=usize_le c.toNat
 have hl:usize c.toNat≤(c::s').length:=by simp only[List.length_cons];omega
 have h0:usize c.toNat≠0:=by omega
 refine⟨fun hlt=>?_,fun hge=>ufirst_some h0 hl (urd_end (by omega) hr)⟩
 have hstep:=urd_step hlt hl hr
 rw[cont_and,low_and]
 generalize (c::s').getD i 0=x at hstep ⊢
 refine⟨fun hx=>?_,fun hx=>?_⟩
 ·rw[if_neg (by omega)]at hstep
  exact ufirst_none h0 hl hstep.symm
 ·rw[if_pos (by omega)]at hstep
  exact⟨_,more_or (by have:=urd_small hp (by omega);omega),urd_bound hp hi1 (Nat.mod_lt _ (by omega)),hstep⟩
theorem first_c (s:List UInt8)(hs:s.length<1000000)(h0:s≠[])(w:World)(hg:Least w) :
  Fun Tryz.prog 43 [str s] w fun v w'=>v=.tuple #[.int .i64 (ufirst s).1,.int .i64 (ufirst s).2]∧Below w.heap.size w w':=by
 obtain⟨c,s',rfl⟩:=List.exists_cons_of_ne_nil h0;have hl:0<((c::s').length:Int):=by simp
 refine fun_of_vc Tryz.func43 rfl (by kernel_rfl) [2,3] rfl ?_;push_cast -dsimp(maxSteps:=4000000) [Tryz.ntmps43];refine⟨hl,?_⟩;refine callK_of (size_c _ w) ?_;rintro v w' ⟨rfl,rfl⟩;have hu:=usize_le c.toNat;have hc:=c.toNat_lt;simp only[List.getD_cons_zero];push_cast -dsimp
 repeat' first|apply And.intro|intro _
 all_goals try exact hl
 all_goals try simp only[List.getD_cons_zero]
 all_goals try exact Below.refl _ _
 ·rename_i h1 h2;have e:ufirst (c::s')=(0,0):=by unfold ufirst;simp;intro h3;omega
  rw[e];rfl
 ·rename_i h1 h2 h3;refine wpL_draw (fun _=>True) mixed (by kernel_rfl) trivial ?_;push_cast -dsimp;refine⟨by omega,by omega,by omega,?_,?_⟩
  ·have e:usize c.toNat=2∨usize c.toNat=3∨usize c.toNat=4:=by omega
   rcases e with e|e|e<;>rw[e]<;>decide
  ·simp only[List.getD_cons_zero];rw[lead_and hu (by omega) hc];refine wpL_loop [2,3,4,29,30,31,32,33,34,35,36,37,38,39,40,41,42,43,44,45,46] (fun z wx=>∃i p:Nat,z 4=.int .i64 i∧z 2=.int .i64 p∧z 3=.int .i64 (usize c.toNat)∧1≤i∧i≤usize c.toNat∧p<256*64 ^ (i-1) ∧
    urd (((c::s').take (usize c.toNat)).drop i) p=urd (((c::s').take (usize c.toNat)).drop 1) (ulead (usize c.toNat) c.toNat)∧Below w'.heap.size w' wx) (fun z _=>usize c.toNat-(intOf (z 4)).toNat) ?_ ?_
   ·exact⟨1,_,rfl,rfl,rfl,Nat.le_refl _,by omega,by simpa using ulead_lt hc,rfl,(Below.refl _ _).drew⟩
   ·intro z wx hI;obtain⟨i,p,h4,h2',h3',hi1,hi2,hp,hr,hb⟩:=hI;have hgn:=(hg.below hb) (usize c.toNat) (by omega);push_cast -dsimp[h4,h2',h3',hgn];obtain⟨hA,hB⟩:=first_walk h1 h2 hi1 hp hi2 hr;refine⟨fun hlt=>?_,fun hge=>?_⟩
    ·obtain⟨hA1,hA2⟩:=hA (by omega);refine⟨⟨by omega,by omega⟩,fun hx=>⟨by rw[hA1 hx];rfl,hb⟩,fun hx=>?_⟩;obtain⟨q,hq1,hq2,hq3⟩:=hA2 hx;exact⟨⟨by omega,by omega⟩,⟨by omega,by omega⟩,⟨i+1,q,rfl,congrArg _ hq1,by omega,by omega,hq2,hq3,hb⟩,by simp only[intOf];omega⟩
    ·have hB:=hB (by omega);rw[hB];simp only[ubad];refine⟨⟨by omega,by omega⟩,?_⟩
     repeat' first|apply And.intro|intro _
     all_goals first|exact hb|omega|skip
     all_goals grind
 ·rename_i h1 h2 h3;refine wpL_loop [2,3,4,29,30,31,32,33,34,35,36,37,38,39,40,41,42,43,44,45,46] (fun z wx=>∃i p:Nat,z 4=.int .i64 i∧z 2=.int .i64 p∧z 3=.int .i64 (usize c.toNat)∧1≤i∧i≤usize c.toNat∧p<256*64 ^ (i-1) ∧
   urd (((c::s').take (usize c.toNat)).drop i) p=urd (((c::s').take (usize c.toNat)).drop 1) (ulead (usize c.toNat) c.toNat)∧Below w'.heap.size w' wx) (fun z _=>usize c.toNat-(intOf (z 4)).toNat) ?_ ?_
  ·refine⟨1,_,rfl,?_,rfl,Nat.le_refl _,by omega,by simpa using ulead_lt hc,rfl,Below.refl _ _⟩;have e:ulead (usize c.toNat) c.toNat=c.toNat:=by unfold ulead;rw[if_neg (by omega)]
   rw[e];exact congrArg _ (wrap_i64_nat (by omega))
  ·intro z wx hI;obtain⟨i,p,h4,h2',h3',hi1,hi2,hp,hr,hb⟩:=hI;have hgn:=(hg.below hb) (usize c.toNat) (by omega);push_cast -dsimp[h4,h2',h3',hgn];obtain⟨hA,hB⟩:=first_walk h1 h2 hi1 hp hi2 hr;refine⟨fun hlt=>?_,fun hge=>?_⟩
   ·obtain⟨hA1,hA2⟩:=hA (by omega);refine⟨⟨by omega,by omega⟩,fun hx=>⟨by rw[hA1 hx];rfl,hb⟩,fun hx=>?_⟩;obtain⟨q,hq1,hq2,hq3⟩:=hA2 hx;exact⟨⟨by omega,by omega⟩,⟨by omega,by omega⟩,⟨i+1,q,rfl,congrArg _ hq1,by omega,by omega,hq2,hq3,hb⟩,by simp only[intOf];omega⟩
   ·have hB:=hB (by omega);rw[hB];simp only[ubad];refine⟨⟨by omega,by omega⟩,?_⟩
    repeat' first|apply And.intro|intro _
    all_goals first|exact hb|omega|skip
    all_goals grind
 ·rename_i h1;have e:ufirst (c::s')=(0,0):=by unfold ufirst;simp;intro h3;omega
  rw[e];rfl
def encU (u:U):List Value:=[.int .i64 u.p,.int .i64 u.at_,.int .i64 u.n]
theorem decode_c (s:List UInt8)(hs:s.length<1000000)(w:World)(hg:Least w) :
  Fun Tryz.prog 14 [str s] w fun v w'=>Vc.Own w.heap.size 100 3 encU w' v (udec 0 s)∧Below w.heap.size w w':=by
 refine fun_of_vc Tryz.func14 rfl (by kernel_rfl) [2] rfl ?_;push_cast -dsimp(maxSteps:=4000000) [Tryz.ntmps14];refine wpL_loop [3,4,5,6,7,8,9,10,11,12,13,14,15,16,17,18,19,20,21,22,23,24,25,26,27,28,29] (fun z wx=>∃(i:Nat) (acc:List U),z 4=.int .i64 i∧i≤s.length∧acc.length≤i∧acc++udec i (s.drop i)=udec 0 s ∧
  Vc.Own w.heap.size 100 3 encU wx (z 3) acc∧Below w.heap.size w wx) (fun z _=>s.length-(intOf (z 4)).toNat) ?_ ?_
 ·exact⟨0,[],rfl,Nat.zero_le _,Nat.le_refl _,rfl,Vc.Own.nil (enc:=encU) _ _ (fun _=>rfl) _,Below.refl _ _⟩
 ·intro z wx hI;obtain⟨i,acc,h4,hi,ha,hd,ho,hb⟩:=hI;push_cast -dsimp[h4];refine⟨fun hlt=>⟨⟨by omega,by omega⟩,?_⟩,fun hge=>?_⟩
  ·have hne:s.drop i≠[]:=by intro h;have:=congrArg List.length h;simp only[List.length_drop,List.length_nil]at this;omega
   refine callK_of (first_c (s.drop i) (by rw[List.length_drop];omega) hne wx (hg.below hb)) ?_;rintro v w1 ⟨rfl,hb1⟩;push_cast -dsimp;have hst:=ustep_le (s.drop i) hne;have hsp:=ustep_pos (s.drop i);have hu:=ufirst_le (s.drop i);have hcons:=udec_cons i (s.drop i) hne;refine⟨fun h0=>?_,fun h0=>?_⟩
   ·have e:ustep (s.drop i)=(65533,1):=by unfold ustep;rw[if_pos (by omega)]
    refine rowK elI_51 rfl rfl (by omega) ?_;intro w2 hw2;push_cast -dsimp;refine appendK (ys:=[⟨65533,i,1⟩]) (enc:=encU) elI_51 ((ho.below hb1).below hw2.below) (fun j u hu=>by simpa using hw2.cell hu) (by simp[encU,Value.oneCell']) (by simp only[List.length_cons,List.length_nil];omega) (by have:=hb.size;have:=hb1.size;have:=hw2.size;omega) ?_;intro v' w3 ho3 _ hb3;push_cast -dsimp
    refine⟨⟨by omega,by omega⟩,⟨i+1,_,rfl,by rw[List.length_drop]at hst;rw[e]at hst;(try dsimp only at hst);omega,?_,?_,ho3,
     (hb.trans (hb1.mono hb.size)).trans ((hw2.below.mono (Nat.le_trans hb.size hb1.size)).trans hb3)⟩,?_⟩
    ·rw[e]at hsp;simp only[List.length_append,List.length_cons,List.length_nil];(try dsimp only at hsp);omega
    ·rw[←hd,hcons,e,List.drop_drop,List.append_assoc];rfl
    ·rw[e]at hsp;rw[h4];simp only[intOf];(try dsimp only at hsp);omega
   ·have e:ustep (s.drop i)=ufirst (s.drop i):=by unfold ustep;rw[if_neg (by omega)]
    refine rowK elI_51 rfl rfl (by omega) ?_;intro w2 hw2;push_cast -dsimp;refine appendK (ys:=[⟨(ufirst (s.drop i)).1,i,(ufirst (s.drop i)).2⟩]) (enc:=encU) elI_51 ((ho.below hb1).below hw2.below) (fun j u hu=>by simpa using hw2.cell hu) (by simp[encU,Value.oneCell']) (by simp only[List.length_cons,List.length_nil];omega) (by have:=hb.size;have:=hb1.size;have:=hw2.size;omega) ?_
    intro v' w3 ho3 _ hb3;push_cast -dsimp;refine⟨⟨by omega,by omega⟩,⟨i+(ufirst (s.drop i)).2,_,rfl,by rw[List.length_drop]at hst;rw[e]at hst;(try dsimp only at hst);omega,?_,?_,ho3,
     (hb.trans (hb1.mono hb.size)).trans ((hw2.below.mono (Nat.le_trans hb.size hb1.size)).trans hb3)⟩,?_⟩
    ·rw[e]at hsp;simp only[List.length_append,List.length_cons,List.length_nil];(try dsimp only at hsp);omega
    ·rw[←hd,hcons,e,List.drop_drop,List.append_assoc];rfl
    ·rw[e]at hsp;rw[h4];simp only[intOf];(try dsimp only at hsp);omega
  ·have e:s.drop i=[]:=List.drop_eq_nil_of_le (by omega);rw[e,udec_nil,List.append_nil]at hd;rw[←hd];exact⟨ho,hb⟩
end Go.Proofs.YtledlfbbebodgaaGreatDoor
end
