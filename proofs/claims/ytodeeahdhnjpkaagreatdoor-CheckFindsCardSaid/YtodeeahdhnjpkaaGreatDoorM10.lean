/- Texts of this claim, merged: PatN, Has, So1, Grow, Sort, So2, Not, Conc, Mn1, Isort, Rhas, Told, Rof, CtB, CtW. -/
import Derived.Test.YtodeeahdhnjpkaaGreatDoorM9
import Derived.Sort.Grow
import Derived.Shelf.Spec.SlicesGrow
import Derived.Shelf.SlSortCmp.WholeK
import Derived.Shelf.SlSortCmp.NoneTotal
import Derived.Sort.OwnSortedInts
import Derived.Shelf.Sort.Plain
set_option maxRecDepth 100000
set_option linter.unusedSimpArgs false
set_option linter.unusedVariables false
set_option maxHeartbeats 8000000
section
namespace Go.Proofs.YtodeeahdhnjpkaaGreatDoor
open Go.Vc Go.Proofs Go.RowKit Cae
attribute [local irreducible] wpL callK valK unitK runK Fun Sl Vc.Own vc vcOps opK pureK
theorem PatsV.nth {X:Nat→Prop}{w:World}:∀{l:List PatP} {vs:List Nat} {i:Nat} {x:PatP},PatsV X w vs l→l[i]?=some x→∃u,vs[i]?=some u∧PatV X w (ptrP u) x
 | [],_,i,x,_,hx=>by simp at hx
 | _::_,[],_,_,h,_=>by simp only[PatsV]at h
 | y::l,v::vs,0,x,h,hx=>by
  simp only[PatsV]at h;cases hx;exact⟨v,rfl,h.1⟩
 | y::l,v::vs,i+1,x,h,hx=>by
  simp only[PatsV]at h;exact PatsV.nth (i:=i) h.2 (by simpa using hx)
theorem patsOk_mem:∀{l:List PatP} {x:PatP},PatsOk l→x∈l→PatOk x
 | y::l,x,h,hx=>by
  simp only[PatsOk]at h;rcases List.mem_cons.1 hx with rfl|hx
  ·exact h.1
  ·exact patsOk_mem h.2 hx
theorem FileV.below {X:Nat→Prop}{w w':World}{v:Value}{f:FileP}(h:FileV X w v f)(hb:Below w.heap.size w w'):FileV X w' v f:=by
 obtain⟨cv,rv,cs,rs,rfl,S1,S2,A1,A2⟩:=h;exact⟨cv,rv,cs,rs,rfl,S1.below hb,S2.below hb,A1.imp fun a c h=>⟨h.1,h.2.1,h.2.2.below hb⟩,A2.imp fun a c h=>⟨h.1,h.2.1,h.2.2.1.below hb,h.2.2.2.below hb⟩⟩
theorem cloneR_c (l:List Rg)(hl:l.length<1000000000)(X:Nat→Prop)(v:Value)(w:World)(hv:Sl X 2 (En encR) w v l)(ha:Arg v) :
  Fun Tryz.prog 126 [v] w fun r w'=>Vc.Own w.heap.size 104 2 encR w' r l∧Below w.heap.size w w':=by
 obtain⟨a,c,rfl,hc⟩:=hv.shape;refine fun_of_vc Tryz.func126 rfl (by kernel_rfl) [2] rfl ?_;push_cast -dsimp(maxSteps:=4000000) [Tryz.ntmps126];cases a with
 | none =>
  obtain⟨h0,rfl⟩:=ha _ _ rfl;have:l=[]:=List.eq_nil_of_length_eq_zero h0;subst this;push_cast -dsimp[eqn3];exact⟨Vc.Own.nil (enc:=encR) _ _ (fun _=>rfl) _,Below.refl _ _⟩
 | some ad =>
  push_cast -dsimp[eqs3];refine rowK elI_43 rfl rfl (by omega) ?_;intro w1 hw1;have ho1:=hw1.own (base:=w.heap.size) (k:=2) (n:=0) (enc:=encR) (l:=[]) rfl rfl (fun _=>rfl) (Nat.le_refl _) (by omega);have sz1:=hw1.size;push_cast -dsimp;refine appendAny (base:=w.heap.size) (enc:=encR) (ys:=l) elI_43 ho1 (hv.below hw1.below) (fun n c h=>by cases h) encR_one (by simp only[List.length_nil];omega) (by omega) ?_;intro v' w2 ho2 hg2 hb2;rw[List.nil_append]at ho2;push_cast -dsimp;exact⟨ho2,hw1.below.trans hb2⟩
def cmpI (x y:Int):Int:=if x<y then -1 else if y<x then 1 else 0
theorem isNaN_c (x:Int)(w:World):Fun Tryz.prog 172 [.int .i64 x] w fun r w'=>r=.bool false∧w'=w:=by
 refine fun_of_vc Tryz.func172 rfl (by kernel_rfl) [2] rfl ?_;push_cast -dsimp(maxSteps:=4000000) [Tryz.ntmps172];simp
theorem compare_c (x y:Int)(w:World):Fun Tryz.prog 129 [.int .i64 x,.int .i64 y] w fun r w'=>r=.int .i64 (cmpI x y)∧w'=w:=by
 refine fun_of_vc Tryz.func129 rfl (by kernel_rfl) [4] rfl ?_;push_cast -dsimp(maxSteps:=4000000) [Tryz.ntmps129];refine callK_of (isNaN_c x w) ?_;rintro _ w1 ⟨rfl,rfl⟩;push_cast -dsimp;refine callK_of (isNaN_c y w1) ?_;rintro _ w2 ⟨rfl,rfl⟩;push_cast -dsimp;unfold cmpI;refine⟨fun h=>by rw[if_pos h],fun h=>⟨fun h2=>by rw[if_neg h,if_pos h2],fun h2=>by rw[if_neg h,if_neg h2]⟩⟩
theorem closure_c (x y:Rg)(w:World):Fun Tryz.prog 128 [.agg #[.int .i64 x.1,.int .i64 x.2],.agg #[.int .i64 y.1,.int .i64 y.2]] w fun r w'=>r=.int .i64 (cmpI x.1 y.1)∧∃os,w'=Go.Sort.grow w os:=by
 refine fun_of_vc Tryz.func128 rfl (by kernel_rfl) [4] rfl ?_;push_cast -dsimp(maxSteps:=4000000) [Tryz.ntmps128];refine boxK_of ?_;intro w1 hw1;have sz1:=hw1.size;push_cast -dsimp;refine boxK_of ?_;intro w2 hw2;have sz2:=hw2.size;have c0:w2.cell? ⟨w.heap.size,0,none⟩=some (.int .i64 x.1):=(hw2.below.cell (by show w.heap.size<w1.heap.size;omega)).trans (hw1.cell rfl)
 have c1:w2.cell? ⟨w1.heap.size,0,none⟩=some (.int .i64 y.1):=hw2.cell rfl;push_cast -dsimp[c0,c1];refine callK_of (compare_c x.1 y.1 w2) ?_;rintro _ w3 ⟨rfl,rfl⟩;push_cast -dsimp;refine⟨_,by rw[hw2.is,hw1.is,Go.Sort.alloc_eq_grow,Go.Sort.alloc_eq_grow,Go.Sort.grow_grow]⟩
def growR_ren:Go.Shelf.Ren:=⟨fun|4=>130|n=>n,fun|22=>44|25=>104|3=>3|4=>4|9=>9|20=>20|0=>0|2=>3|n=>n,fun|n=>n⟩
theorem growR:Go.Proofs.Lays8.n4 Tryz.prog growR_ren:={
 mixed:=by kernel_rfl
 f4:=⟨ "slices.Grow[caesura/api.Set,caesura/api.Range]",by decide,Tryz.func130.trans (congrArg some (by kernel_rfl))⟩
 t0:=Tryz.underlying0
 a0:=Tryz.isAgg0
 z0:=Tryz.sizeOf0
 v0:=Tryz.zeroValue0
 t3:=Tryz.underlying3
 a3:=Tryz.isAgg3
 z3:=Tryz.sizeOf3
 v3:=Tryz.zeroValue3
 t4:=Tryz.underlying4
 a4:=Tryz.isAgg4
 z4:=Tryz.sizeOf4
 v4:=Tryz.zeroValue4
 t9:=Tryz.underlying9
 a9:=Tryz.isAgg9
 z9:=Tryz.sizeOf9
 v9:=Tryz.zeroValue9
 t20:=Tryz.underlying20
 a20:=Tryz.isAgg20
 z20:=Tryz.sizeOf20
 v20:=Tryz.zeroValue20
 t22:=Tryz.underlying44
 a22:=Tryz.isAgg44
 z22:=Tryz.sizeOf44
 v22:=Tryz.zeroValue44 }
theorem grow_c (n:Nat)(hn:n<1000000000)(w:World) :
  Fun Tryz.prog 130 [.slice none 0 0,.int .i64 (n:Int)] w fun r w'=>Vc.Own w.heap.size 104 2 encR w' r ([]:List Rg)∧Below w.heap.size w w':=by
 refine fun_of_calls Tryz.func130 (by kernel_rfl) (by kernel_rfl) ?_;rcases Nat.eq_zero_or_pos n with h0|h0
 ·subst h0;refine Calls.mono (Any8.slices_Grow_room growR none 0 0 0 w (by omega) (by omega) (by omega) (by omega)) ?_;rintro e w' ⟨rfl,rfl⟩;exact⟨_,rfl,Vc.Own.nil (enc:=encR) _ _ (fun _=>rfl) _,Below.refl _ _⟩
 ·have he:=elI_spec elI_44;obtain⟨hu,i,z,hi,hz,hk0,hby,hzs,hk,hb0⟩:=he;refine Calls.mono (Any8.slices_Grow_grow growR i z hi hz (by omega) none 0 0 n [] w (by omega) (by omega) (by rw[hby];omega) (by omega) (by simp) (fun _=>rfl) (fun a h=>by cases h)) ?_;rintro e w' ⟨rfl,rfl⟩;have hG:=grownCap_le_maxLen w (0+n) 0 104 (by unfold maxLen;omega);have hG2:=grownCap_ge w (0+n) 0 104;have hE:growR_ren.t 25=104:=rfl;rw[hE];generalize grownCap w (0+n) 0 104=G at hG hG2;refine⟨_,rfl,ownFresh (fun _=>rfl) (Array.getElem?_push_size) hG ?_,?_⟩
  ·simp only[Array.size_append,size_zeroCells,hzs,hk0];simp;omega
  ·exact⟨rfl,rfl,rfl,by show w.heap.size≤(w.heap.push _).size;rw[Array.size_push];omega,fun i hi=>by show (w.heap.push _)[i]?=_;rw[Array.getElem?_push,if_neg (by omega)]⟩
end Go.Proofs.YtodeeahdhnjpkaaGreatDoor
end
section
namespace Go.Proofs.YtodeeahdhnjpkaaGreatDoor
open Go.Vc Go.Proofs Go.RowKit Cae Go.Sort
theorem holdsOf {base:Nat}{e:TypeId}{w:World}{g n c:Nat}{l:List Rg}(h:Vc.Own base e 2 encR w (.slice (some ⟨g,0,none⟩) n c) l):HoldsK encR 2 w g 0 l.toArray:=by
 have ho:=Vc.Own.opened h rfl;obtain⟨cur,hB,hl,ht,_⟩:=ho;intro j hj;rw[size_flatK]at hj;rw[get_flatK _ _ _ _ hj];have hj':j<l.length*2:=by simpa using hj
 have hi:j / 2<l.length:=by omega
 have hx:=List.getElem?_eq_getElem hi;have hu:(encR l[j / 2])[j % 2]?=some (encR l[j / 2])[j % 2]! := by
  rw[List.getElem!_eq_getElem?_getD];have hlt:j % 2<(encR l[j / 2]).length:=by show j % 2<2;omega
  rw[List.getElem?_eq_getElem hlt];rfl
 have h1:=flatMap_get h.2 l (j / 2) (j % 2) _ _ hx hu;rw[←ht,List.getElem?_take,if_pos (by omega),show j / 2*2+j % 2=j by omega]at h1
 have e2:(l.toArray)[j / 2]! = l[j / 2]:=by simp[hi]
 rw[e2];refine⟨?_,?_⟩
 ·rw[cell_of_row w g _ cur.toArray e (0,0) hB,Nat.zero_add];simpa using h1
 ·have hB':w.heap[g]?=some (.cells cur.toArray e (0,0)):=hB;simp[World.frozen?,hB']
theorem ownAt0 {base:Nat}{e:TypeId}{w:World}{ad:Addr}{n c:Nat}{l:List Rg}(h:Vc.Own base e 2 encR w (.slice (some ad) n c) l):∃g,ad=⟨g,0,none⟩:=by
 rcases h.1.2 with ⟨he,_⟩|⟨g,cap,cr,he,_⟩
 ·cases he
 ·cases he;exact⟨_,rfl⟩
theorem slSorted {w':World}{g n c:Nat}{d':Array Rg}(hn:d'.size=n)(hc:n≤c)(hH':HoldsK encR 2 w' g 0 d'):Sl (fun b=>(Value.slice (some ⟨g,0,none⟩) n c).ownBlock≠some b) 2 (En encR) w' (.slice (some ⟨g,0,none⟩) n c) d'.toList:=by
 subst hn;refine⟨_,c,by rw[Array.length_toList],by rw[Array.length_toList];exact hc,fun i x hx=>⟨g,0,encR x,rfl,by simp[Value.ownBlock],rfl,fun j u hu=>?_,rfl⟩⟩;have hi:=(List.getElem?_eq_some_iff.1 hx).1;rw[Array.length_toList]at hi;have hj:j<2:=(List.getElem?_eq_some_iff.1 hu).1;have h2:=(hH'.cell hi hj).1;have hx2:d'[i]! = x:=by rw[getElem!_pos d' i hi];rw[Array.getElem?_toList,Array.getElem?_eq_getElem hi]at hx;cases hx;rfl
 rw[hx2,List.getElem!_eq_getElem?_getD,hu]at h2;exact h2
end Go.Proofs.YtodeeahdhnjpkaaGreatDoor
namespace Go.Proofs.YtodeeahdhnjpkaaGreatDoor
open Go.Vc Go.Proofs Go.RowKit Cae
attribute [local irreducible] wpL callK valK unitK runK Fun Sl Vc.Own vc vcOps opK pureK
open Go.Sort
def sortR_ren:Go.Shelf.Ren:=⟨fun|6=>127|15=>106|14=>171|28=>142|29=>143|20=>197|21=>198|22=>199|23=>200|24=>201|25=>202|26=>203|27=>204|46=>228|47=>174|48=>175|49=>229|50=>230|57=>239|n=>n,fun|22=>43|24=>104|25=>191|3=>3|39=>109|0=>0|53=>206|55=>208|4=>4|46=>199|45=>198|50=>194|5=>5|9=>9|66=>244|70=>248|76=>272|77=>105|n=>n,fun|n=>n⟩
theorem sortR:Go.Proofs.SlLaysF0.n6 Tryz.prog sortR_ren:={
 mixed:=by kernel_rfl
 f6:=⟨ "slices.SortFunc[[]caesura/api.Range,caesura/api.Range]",by decide,Tryz.func127.trans (congrArg some (by kernel_rfl))⟩
 f14:=⟨ "slices.pdqsortCmpFunc[caesura/api.Range]",by decide,Tryz.func171.trans (congrArg some (by kernel_rfl))⟩
 f15:=Tryz.func106.trans (congrArg some (by kernel_rfl))
 f20:=⟨ "slices.insertionSortCmpFunc[caesura/api.Range]",by decide,Tryz.func197.trans (congrArg some (by kernel_rfl))⟩
 f21:=⟨ "slices.heapSortCmpFunc[caesura/api.Range]",by decide,Tryz.func198.trans (congrArg some (by kernel_rfl))⟩
 f22:=⟨ "slices.breakPatternsCmpFunc[caesura/api.Range]",by decide,Tryz.func199.trans (congrArg some (by kernel_rfl))⟩
 f23:=⟨ "slices.choosePivotCmpFunc[caesura/api.Range]",by decide,Tryz.func200.trans (congrArg some (by kernel_rfl))⟩
 f24:=⟨ "slices.reverseRangeCmpFunc[caesura/api.Range]",by decide,Tryz.func201.trans (congrArg some (by kernel_rfl))⟩
 f25:=⟨ "slices.partialInsertionSortCmpFunc[caesura/api.Range]",by decide,Tryz.func202.trans (congrArg some (by kernel_rfl))⟩
 f26:=⟨ "slices.partitionEqualCmpFunc[caesura/api.Range]",by decide,Tryz.func203.trans (congrArg some (by kernel_rfl))⟩
 f27:=⟨ "slices.partitionCmpFunc[caesura/api.Range]",by decide,Tryz.func204.trans (congrArg some (by kernel_rfl))⟩
 f28:=Tryz.func142.trans (congrArg some (by kernel_rfl))
 f29:=Tryz.func143.trans (congrArg some (by kernel_rfl))
 f46:=⟨ "slices.siftDownCmpFunc[caesura/api.Range]",by decide,Tryz.func228.trans (congrArg some (by kernel_rfl))⟩
 f47:=Tryz.func174.trans (congrArg some (by kernel_rfl))
 f48:=Tryz.func175.trans (congrArg some (by kernel_rfl))
 f49:=⟨ "slices.medianAdjacentCmpFunc[caesura/api.Range]",by decide,Tryz.func229.trans (congrArg some (by kernel_rfl))⟩
 f50:=⟨ "slices.medianCmpFunc[caesura/api.Range]",by decide,Tryz.func230.trans (congrArg some (by kernel_rfl))⟩
 f57:=⟨ "slices.order2CmpFunc[caesura/api.Range]",by decide,Tryz.func239.trans (congrArg some (by kernel_rfl))⟩
 t0:=Tryz.underlying0
 a0:=Tryz.isAgg0
 z0:=Tryz.sizeOf0
 v0:=Tryz.zeroValue0
 t3:=Tryz.underlying3
 a3:=Tryz.isAgg3
 z3:=Tryz.sizeOf3
 v3:=Tryz.zeroValue3
 t4:=Tryz.underlying4
 a4:=Tryz.isAgg4
 z4:=Tryz.sizeOf4
 v4:=Tryz.zeroValue4
 t5:=Tryz.underlying5
 a5:=Tryz.isAgg5
 z5:=Tryz.sizeOf5
 v5:=Tryz.zeroValue5
 t9:=Tryz.underlying9
 a9:=Tryz.isAgg9
 z9:=Tryz.sizeOf9
 v9:=Tryz.zeroValue9
 t22:=Tryz.underlying43
 a22:=Tryz.isAgg43
 z22:=Tryz.sizeOf43
 v22:=Tryz.zeroValue43
 t25:=Tryz.underlying191
 a25:=Tryz.isAgg191
 z25:=Tryz.sizeOf191
 v25:=Tryz.zeroValue191
 t39:=Tryz.underlying109
 a39:=Tryz.isAgg109
 z39:=Tryz.sizeOf109
 v39:=Tryz.zeroValue109
 t45:=Tryz.underlying198
 a45:=Tryz.isAgg198
 z45:=Tryz.sizeOf198
 v45:=Tryz.zeroValue198
 t46:=Tryz.underlying199
 a46:=Tryz.isAgg199
 z46:=Tryz.sizeOf199
 v46:=Tryz.zeroValue199
 t50:=Tryz.underlying194
 a50:=Tryz.isAgg194
 z50:=Tryz.sizeOf194
 v50:=Tryz.zeroValue194
 t53:=Tryz.underlying206
 a53:=Tryz.isAgg206
 z53:=Tryz.sizeOf206
 v53:=Tryz.zeroValue206
 t55:=Tryz.underlying208
 a55:=Tryz.isAgg208
 z55:=Tryz.sizeOf208
 v55:=Tryz.zeroValue208
 t66:=Tryz.underlying244
 a66:=Tryz.isAgg244
 z66:=Tryz.sizeOf244
 v66:=Tryz.zeroValue244
 t70:=Tryz.underlying248
 a70:=Tryz.isAgg248
 z70:=Tryz.sizeOf248
 v70:=Tryz.zeroValue248
 t76:=Tryz.underlying272
 a76:=Tryz.isAgg272
 z76:=Tryz.sizeOf272
 v76:=Tryz.zeroValue272
 t77:=Tryz.underlying105
 a77:=Tryz.isAgg105
 z77:=Tryz.sizeOf105
 v77:=Tryz.zeroValue105 }
def cmpR (x y:Rg):Int:=cmpI x.1 y.1
theorem ltCmpR (x y:Rg):Go.Proofs.ltOf cmpR x y=decide (x.1<y.1):=by
 unfold Go.Proofs.ltOf cmpR cmpI;rw[decide_eq_decide];split
 ·simp[*]
 ·split<;>simp[*]
theorem swoR:SWO (Go.Proofs.ltOf cmpR) where
 irrefl x:=by rw[ltCmpR];simp
 trans x y z h1 h2:=by rw[ltCmpR]at *;simp at *;omega
 ntrans x y z h1 h2:=by rw[ltCmpR]at *;simp at *;omega
theorem cmpLaysR (blk off size:Nat)(w:World):Go.Proofs.CmpLays Tryz.prog 128 #[] encR 2 cmpR blk off size w:=fun m os dk hd x y=>by
 have h:=calls_of_fun (closure_c x y (Go.Proofs.sortWorldK encR 2 w blk off m dk os));have e:#[Value.agg (encR x).toArray,Value.agg (encR y).toArray]++#[]=[Value.agg #[.int .i64 x.1,.int .i64 x.2],Value.agg #[.int .i64 y.1,.int .i64 y.2]].toArray:=rfl;rw[e];refine h.mono ?_;rintro e w' ⟨v,rfl,rfl,os',rfl⟩;exact⟨rfl,0,os',rfl⟩
theorem keptSorted {w:World}{g n:Nat}{os:Array Obj}(d:Array Rg):Kept (fun j=>j=g) w (Go.Proofs.sortWorldK encR 2 w g 0 n d os):=by
 refine⟨rfl,rfl,rfl,?_,fun k hk hne=>?_⟩
 ·exact Go.Proofs.size_sortWorldK_c encR 2 w g 0 n d os
 ·unfold Go.Proofs.sortWorldK putRowK;rw[heap_grow_old _ _ (by simpa using hk)];simp[putRow,mapBlock,Go.Sort.ahead,Array.getElem?_modify,Ne.symm hne]
theorem sort_c (l:List Rg)(hl:l.length<1000000000)(base:Nat)(v:Value)(w:World)(ho:Vc.Own base 104 2 encR w v l)(hb:base≤w.heap.size) :
  Fun Tryz.prog 127 [v,.func (.func 128) #[] #[]] w fun r w'=>(∃m,m.Perm l∧Rising m∧Sl (fun b=>v.ownBlock≠some b) 2 (En encR) w' v m)∧Kept (fun j=>v.ownBlock=some j) w w':=by
 refine fun_of_calls Tryz.func127 (by kernel_rfl) (by kernel_rfl) ?_;cases hn:l with
 | nil =>
  subst hn;have hsh:=ho.slice;obtain⟨a,c,rfl⟩:=hsh;refine(AnyF.slices_SortFunc_none sortR a c (.func (.func 128) #[] #[]) w).mono ?_;rintro e w' ⟨rfl,rfl⟩;exact⟨_,rfl,⟨[],List.Perm.refl _,List.Pairwise.nil,Sl.nil _ _ _ _ _ _⟩,Kept.refl _ _⟩
 | cons y ys =>
  rw[←hn];have hpos:0<l.length:=by rw[hn];exact Nat.succ_pos _
  have hsh:=ho.slice;obtain⟨a,c,rfl⟩:=hsh;cases a with
  | none=>have:=ho.nilArg _ _ rfl;omega
  | some ad =>
   have hg0:=ownAt0 ho;obtain⟨g,rfl⟩:=hg0;have hgb:=ho.block g rfl;have hH:=holdsOf ho;have hcon:=AnyQ.slices_SortFunc sortR 2 Tryz.isAgg104 Tryz.sizeOf104 encR (fun _=>rfl) encR_one cmpR swoR 128 #[] g 0 c l.toArray w (fun args w=>callFunc_enter Tryz.func128 (by kernel_rfl) (by kernel_rfl)) (cmpLaysR g 0 l.toArray.size w) hH hgb.2 (by rw[List.size_toArray];omega);rw[List.size_toArray]at hcon;refine Calls.mono hcon ?_;rintro e w' ⟨rfl,d',n,os,hp,hs,rfl⟩;have hsz:d'.size=l.length:=by have:=hp.1;simpa using this
   have hperm:d'.toList.Perm l:=by
    have:=hp.2.2;rw[Array.extract_eq_self_of_le (by omega),Array.extract_eq_self_of_le (by simp)]at this;simpa using this
   have hH':=Go.Proofs.holdsK_sortWorldK_c encR 2 w g 0 l.toArray d' n os hH hgb.2 (by simpa using hsz);refine⟨_,rfl,⟨d'.toList,hperm,?_,?_⟩,(keptSorted d').weaken (fun i _ h=>by rw[h];rfl)⟩
   ·refine List.pairwise_iff_getElem.2 fun i j hi hj hij=>?_;rw[Array.length_toList]at hi hj
    have:=hs i j (Nat.zero_le _) hij (by omega);rw[ltCmpR,decide_eq_false_iff_not]at this;simp only[getElem!_pos d' i hi,getElem!_pos d' j hj]at this;simp only[Array.getElem_toList];omega
   ·exact slSorted hsz ((ho.sl.shape).elim (fun a h=>h.elim fun c' h=>by cases h.1;exact h.2)) hH'
end Go.Proofs.YtodeeahdhnjpkaaGreatDoor
end
section
namespace Go.Proofs.YtodeeahdhnjpkaaGreatDoor
open Go.Vc Go.Proofs Go.RowKit Cae
attribute [local irreducible] wpL callK valK unitK runK Fun Sl Vc.Own vc vcOps opK pureK
theorem of_c (l:List Rg)(hl:l.length<100000000)(X:Nat→Prop)(v:Value)(w:World)(hv:Sl X 2 (En encR) w v l)(ha:Arg v) :
  Fun Tryz.prog 100 [v] w fun r w'=>Vc.Own w.heap.size 104 2 encR w' r (setOf l)∧Below w.heap.size w w':=by
 obtain⟨a,c,rfl,hc⟩:=hv.shape;refine fun_of_vc Tryz.func100 rfl (by kernel_rfl) [2] rfl ?_;push_cast -dsimp(maxSteps:=4000000) [Tryz.ntmps100];refine callK_of (cloneR_c l (by omega) X _ w hv ha) ?_;rintro v1 w1 ⟨ho1,hb1⟩;have sz1:=hb1.size;push_cast -dsimp;refine callK_of (sort_c l (by omega) w.heap.size v1 w1 ho1 sz1) ?_;rintro r2 w2 ⟨⟨m,hp,hR,hs2⟩,hk2⟩;have sz2:=hk2.size;have hml:=hp.length_eq;have hb2:Below w.heap.size w w2:=hb1.trans (hk2.below sz1 (fun g h=>(ho1.block g h).1));have hsh:=ho1.slice;obtain⟨va,vc,rfl⟩:=hsh;have hof:=setOf_any hp hR;have hgX:∃X1,X1=(fun b=>(Value.slice va l.length vc).ownBlock≠some b):=⟨_,rfl⟩;obtain⟨X1,hX1⟩:=hgX;rw[←hX1]at hs2;have hX2:∀b,w2.heap.size≤b→X1 b:=fun b hb=>by
  rw[hX1];intro h
  have:=(ho1.block b h).2;omega
 push_cast -dsimp;refine wpL_loop [3,5,6,13,14,15,16,17,18,19,20,21,22,23,24,25,26,27,28,29,30,31,32,33,34,35,36,37,38,39,40,41,42,43,44,45,46,47,48,49,50,51,52,53,54,55,56,57,58,59,60,61,62] (fun z wx=>∃(i:Nat) (ov:Value),z 13=.int .i64 i∧z 3=ov∧i≤l.length∧Vc.Own w2.heap.size 104 2 encR wx ov (ofFold (m.take i))∧Below w2.heap.size w2 wx) (fun z _=>l.length-(intOf (z 13)).toNat) ?_ ?_
 ·refine⟨0,_,rfl,rfl,Nat.zero_le _,?_,Below.refl _ _⟩;rw[List.take_zero];exact Vc.Own.nil (enc:=encR) _ _ (fun _=>rfl) _
 ·intro z wx hI;obtain⟨i,ov,h13,h3,hi,hox,hbx⟩:=hI;have szx:=hbx.size;push_cast -dsimp[h13,h3];refine⟨fun hlt=>?_,fun hge=>?_⟩
  ·have hg:=lt_get (l:=m) (i:=i) (by omega);obtain⟨x,hx,hxm,_⟩:=hg;have hsx:=hs2.below hbx;rw[←hml]at hsx;have hg:=hsx.get hx;obtain⟨b,o,rfl,hnb,hcell⟩:=hg;have cx:cellsAt wx ⟨b,o+i*2,none⟩ 0 2=some [.int .i64 x.1,.int .i64 x.2]:=cellsAt_of (encR x) 0 (fun j u hu=>by simpa using hcell j u hu);have est:ofFold (m.take (i+1))=ofStep (ofFold (m.take i)) x:=by
    unfold ofFold;rw[List.take_add_one,hx,List.foldl_append];rfl
   have hol:=ofFold_len (m.take i);rw[List.length_take]at hol;have hsh:=hox.slice;obtain⟨oa,oc,rfl⟩:=hsh;have hgo:∃out,ofFold (m.take i)=out:=⟨_,rfl⟩;obtain⟨out,hout⟩:=hgo;rw[hout]at hox est hol;rw[hout];push_cast -dsimp[cx];refine⟨⟨by omega,by omega⟩,?_⟩;refine allocK (z:=[.int .i64 0,.int .i64 0]) (by kernel_rfl) ?_;intro w3 hw3;have sz3:=hw3.size;push_cast -dsimp;refine storeAgg (n:=2) (by kernel_rfl) hw3.blk rfl (by simp) (by simp[Value.oneCell']) ?_;intro w4 hw4;have sz4:=hw4.size;have c0:w4.cell? ⟨wx.heap.size,0,none⟩=some (.int .i64 x.1):=hw4.blk.cell rfl;have c1:w4.cell? ⟨wx.heap.size,1,none⟩=some (.int .i64 x.2):=hw4.blk.cell rfl;have hgl:∃lo,max x.1 0=lo:=⟨_,rfl⟩;obtain⟨lo,hlo⟩:=hgl;have hgh:∃hi',min x.2 1114111=hi':=⟨_,rfl⟩;obtain⟨hi',hhi⟩:=hgh;have hlo1:(if 0>x.1 then 0 else x.1)=lo:=by rw[←hlo];split<;>omega
   have hhi1:(if 1114111<x.2 then 1114111 else x.2)=hi':=by rw[←hhi];split<;>omega
   push_cast -dsimp[c0,c1,hlo1,hhi1];refine storeK_of hw4.blk (by simp) rfl ?_;intro w5 hw5;have sz5:w5.heap.size=w4.heap.size:=hw5.size;push_cast -dsimp;refine storeK_of hw5.blk (by simp) rfl ?_;intro w6 hw6;have sz6:w6.heap.size=w5.heap.size:=hw6.size;have hX6:Blk w6 wx.heap.size 104 [.int .i64 lo,.int .i64 hi']:=hw6.blk;have k6:Kept (fun j=>j=wx.heap.size) wx w6:=(((Kept.new hw3).trans hw4.kept (fun _ _ h=>h)).trans hw5.kept (fun _ _ h=>h)).trans hw6.kept (fun _ _ h=>h);have ho6:=hox.keptX k6 (fun g hg h=>by have:=hox.block g hg;omega);have hb6:Below w2.heap.size w2 w6:=hbx.trans (k6.below szx (fun _ h=>by omega));have e0:w6.cell? ⟨wx.heap.size,0,none⟩=some (.int .i64 lo):=hX6.cell rfl;have e1:w6.cell? ⟨wx.heap.size,1,none⟩=some (.int .i64 hi'):=hX6.cell rfl;push_cast -dsimp[e0,e1];refine⟨fun hgt=>?_,fun hle=>?_⟩
   ·have hst:ofStep out x=out:=by unfold ofStep;rw[hlo,hhi,if_pos (by omega)]
    rw[hst]at est;rw[←est]at ho6;exact⟨⟨by omega,by omega⟩,⟨i+1,_,rfl,by rw[est],by omega,ho6,hb6⟩,by rw[h13];simp only[intOf];omega⟩
   ·refine⟨⟨by omega,by omega⟩,?_⟩;cases hn:out.length with
    | zero =>
     have hnil:out=[]:=List.eq_nil_of_length_eq_zero hn;subst hnil;have hst:ofStep [] x=[]++[(lo,hi')]:=by unfold ofStep;rw[hlo,hhi,if_neg (by omega)];rfl
     refine wpL_draw (fun w'=>w'=w6.drew) mixed (by kernel_rfl) rfl ?_;push_cast -dsimp;rw[hst]at est;have d7:cellsAt w6.drew ⟨wx.heap.size,0,none⟩ 0 2=some [.int .i64 lo,.int .i64 hi']:=hX6.drew.cellsAt;push_cast -dsimp[d7];refine rowK elI_44 rfl rfl (by omega) ?_;intro w7 hw7;have sz7:w7.heap.size=w6.heap.size+1:=hw7.size;have ho7:=(ho6.keptX (Kept.refl (fun _=>False) _).drew (fun _ _ h=>h)).new hw7;push_cast -dsimp;refine appendK2 (base:=w2.heap.size) [(lo,hi')] (enc:=encR) elI_44 ho7 (by rfl) (fun j u hu=>by simpa[encR] using hw7.cell hu) encR_one (by simp only[List.length_cons,List.length_nil];omega) (by omega) ?_;intro v8 w8 ho8 hg8 hn8;have k8:Kept (fun j=>(Value.slice oa ([]:List Rg).length oc).ownBlock=some j) w6 w8:=(((Kept.refl _ w6).drew).trans (Kept.new (X:=fun j=>(Value.slice oa ([]:List Rg).length oc).ownBlock=some j) hw7) (fun _ _ h=>h)).trans (Kept.grown hg8 (fun _ h=>h)) (fun _ _ h=>h);rw[←est]at ho8;push_cast -dsimp;exact⟨⟨by omega,by omega⟩,⟨i+1,_,rfl,rfl,by omega,ho8,hb6.trans (k8.below (by omega) (fun g h=>(ho6.block g h).1))⟩,by rw[h13];simp only[intOf];omega⟩
    | succ n =>
     have e6:((n:Nat):Int)+1-1=((n:Nat):Int):=by omega
     have hq:=List.getElem?_eq_getElem (l:=out) (i:=n) (by omega);have hgq:∃q,out[n]'(by omega)=q:=⟨_,rfl⟩;obtain⟨q,hqe⟩:=hgq;rw[hqe]at hq;have hlast:out.getLast?=some q:=by rw[List.getLast?_eq_getElem?,hn];exact hq
     have hinv:=(ofFold_inv i m hR (by omega)).1.right;rw[hout]at hinv;have hqr:=setRight_sorted out (-2) hinv n q hq;have hg:=ho6.sl.get hq;obtain⟨g,o',rfl,_,hcq⟩:=hg;have ho0:o'=0:=Vc.Own.at0R ho6;subst ho0;have c2:w6.drew.cell? ⟨g,n*2+1,none⟩=some (.int .i64 q.2):=by have:=hcq 1 _ rfl;simpa using this
     have f0:w6.drew.cell? ⟨wx.heap.size,0,none⟩=some (.int .i64 lo):=e0;have f1:w6.drew.cell? ⟨wx.heap.size,1,none⟩=some (.int .i64 hi'):=e1;have L:∀{ad:Addr} {u:Value},w6.drew.cell? ad=some u→∀w'':World,w''=w6.drew→optK (w''.cell? ad) (fun x=>x=u) .mk:=fun h w'' e=>by rw[e,h];exact rfl
     refine wpL_draw (fun w'=>w'=w6.drew) mixed (by kernel_rfl) rfl ?_;push_cast -dsimp[e6,f0,c2];rw[hn]at ho6;refine⟨fun _=>⟨L f0,⟨by omega,by omega⟩,L c2,⟨by omega,by omega⟩,fun hm=>?_,fun hm=>?_⟩,fun h=>absurd (Int.natCast_nonneg n) h⟩
     ·have hst:ofStep out x=out.set n (q.1,max q.2 hi'):=by
       unfold ofStep;rw[hlo,hhi,if_neg (by omega),hlast];dsimp only;rw[if_pos hm,List.dropLast_eq_take,hn,List.set_eq_take_append_cons_drop,if_pos (by omega),List.drop_eq_nil_of_le (by omega)];rfl
      rw[hst]at est;have L2:∀{ad:Addr} {u:Value},w6.drew.drew.cell? ad=some u→∀w'':World,w''=w6.drew.drew→optK (w''.cell? ad) (fun x=>x=u) .mk:=fun h w'' e=>by rw[e,h];exact rfl
      have c2':w6.drew.drew.cell? ⟨g,n*2+1,none⟩=some (.int .i64 q.2):=c2;have f1':w6.drew.drew.cell? ⟨wx.heap.size,1,none⟩=some (.int .i64 hi'):=f1;have hmx:(if hi'>q.2 then hi' else q.2)=max q.2 hi':=by split<;>omega
      refine wpL_last (fun w'=>w'=w6.drew.drew) mixed (by kernel_rfl) (List.cons_ne_nil _ _) rfl ?_;push_cast -dsimp[c2',f1',hmx];refine⟨⟨by omega,by omega⟩,L2 c2',L2 f1',⟨by omega,by omega⟩,?_⟩;have hod:=ho6.keptX ((Kept.refl (fun _=>False) _).drew.drew) (fun _ _ h=>h);refine storeOwnF (i:=n) (f:=1) (y:=(q.1,max q.2 hi')) hod rfl hq (by omega) rfl rfl ?_;intro w8 ho8 hk8 sz8;have k8:Kept (fun j=>j=g) w6 w8:=((Kept.refl (fun j=>j=g) w6).drew.drew).trans hk8 (fun _ _ h=>h);have hgb:=(ho6.block g rfl).1;refine⟨trivial,?_⟩;push_cast -dsimp;rw[←est]at ho8;exact⟨⟨by omega,by omega⟩,⟨i+1,_,rfl,rfl,by omega,ho8,hb6.trans (k8.below (by omega) (fun j h=>by omega))⟩,by rw[h13];simp only[intOf];omega⟩
     ·have hst:ofStep out x=out++[(lo,hi')]:=by
       unfold ofStep;rw[hlo,hhi,if_neg (by omega),hlast];dsimp only;rw[if_neg hm]
      rw[hst]at est;have d7:cellsAt w6.drew ⟨wx.heap.size,0,none⟩ 0 2=some [.int .i64 lo,.int .i64 hi']:=hX6.drew.cellsAt;push_cast -dsimp[d7];refine rowK elI_44 rfl rfl (by omega) ?_;intro w7 hw7;have sz7:w7.heap.size=w6.heap.size+1:=hw7.size;have ho7:=(ho6.keptX (Kept.refl (fun _=>False) _).drew (fun _ _ h=>h)).new hw7;push_cast -dsimp;refine appendK2 (base:=w2.heap.size) [(lo,hi')] (enc:=encR) elI_44 ho7 (by rfl) (fun j u hu=>by simpa[encR] using hw7.cell hu) encR_one (by simp only[List.length_cons,List.length_nil];omega) (by omega) ?_;intro v8 w8 ho8 hg8 hn8;have k8:Kept (fun j=>(Value.slice (some ⟨g,0,none⟩) (n+1) oc).ownBlock=some j) w6 w8:=(((Kept.refl _ w6).drew).trans (Kept.new (X:=fun j=>(Value.slice (some ⟨g,0,none⟩) (n+1) oc).ownBlock=some j) hw7) (fun _ _ h=>h)).trans (Kept.grown hg8 (fun _ h=>h)) (fun _ _ h=>h);rw[←est]at ho8;push_cast -dsimp;exact⟨⟨by omega,by omega⟩,⟨i+1,_,rfl,rfl,by omega,ho8,hb6.trans (k8.below (by omega) (fun g h=>(ho6.block g h).1))⟩,by rw[h13];simp only[intOf];omega⟩
  ·have hin:i=m.length:=by omega
   subst hin;have hsh:=hox.slice;obtain⟨oa,oc,rfl⟩:=hsh;rw[List.take_length,hof]at hox;rw[List.take_length,hof];exact⟨hox.mono (by omega),hb2.trans (hbx.mono (by omega))⟩
theorem not_c (s:List Rg)(hs:s.length<100000000)(hr:setRight (-2) s=true)(X:Nat→Prop)(v:Value)(w:World)(hv:Sl X 2 (En encR) w v s) :
  Fun Tryz.prog 67 [v] w fun r w'=>Vc.Own w.heap.size 104 2 encR w' r (setNot s)∧Below w.heap.size w w':=by
 obtain⟨a,c,rfl,hc⟩:=hv.shape;refine fun_of_vc Tryz.func67 rfl (by kernel_rfl) [2] rfl ?_;push_cast -dsimp(maxSteps:=4000000) [Tryz.ntmps67];refine wpL_loop [3,4,6,9,10,11,12,13,14,15,16,17,18,19,20,21,22,23,24,25,26,27,28] (fun z wx=>∃(i:Nat) (f:Int) (out:List Rg) (ov:Value),z 9=.int .i64 i∧z 4=.int .i64 f∧z 3=ov∧i≤s.length∧0≤f∧f≤1114112∧out.length≤i∧out++notGo f (s.drop i)=setNot s∧Vc.Own w.heap.size 104 2 encR wx ov out∧Below w.heap.size w wx) (fun z _=>s.length-(intOf (z 9)).toNat) ?_ ?_
 ·exact⟨0,0,[],_,rfl,rfl,rfl,Nat.zero_le _,by omega,by omega,Nat.le_refl _,rfl,Vc.Own.nil (enc:=encR) _ _ (fun _=>rfl) _,Below.refl _ _⟩
 ·intro z wx hI;obtain⟨i,f,out,ov,h9,h4,h3,hi,hf0,hf1,hol,hout,hox,hbx⟩:=hI;have szx:=hbx.size;push_cast -dsimp[h9,h4,h3];refine⟨fun hlt=>?_,fun hge=>?_⟩
  ·have hg:=lt_get (l:=s) (i:=i) (by omega);obtain⟨x,hx,hxm,hdx,_⟩:=hg;have hb:=setRight_sorted s (-2) hr i x hx;obtain⟨b1,b2,b3,_⟩:=hb;have hg:=(hv.below hbx).get hx;obtain⟨b,o,rfl,hnb,hcell⟩:=hg;have cx:cellsAt wx ⟨b,o+i*2,none⟩ 0 2=some [.int .i64 x.1,.int .i64 x.2]:=cellsAt_of (encR x) 0 (fun j u hu=>by simpa using hcell j u hu);have hsh:=hox.slice;obtain⟨oa,oc,rfl⟩:=hsh;rw[hdx,notGo]at hout;push_cast -dsimp[cx];refine⟨⟨by omega,by omega⟩,?_⟩;refine allocK (z:=[.int .i64 0,.int .i64 0]) (by kernel_rfl) ?_;intro w3 hw3;have sz3:=hw3.size;push_cast -dsimp;refine storeAgg (n:=2) (by kernel_rfl) hw3.blk rfl (by simp) (by simp[Value.oneCell']) ?_;intro w4 hw4;have sz4:w4.heap.size=w3.heap.size:=hw4.size;have c0:w4.cell? ⟨wx.heap.size,0,none⟩=some (.int .i64 x.1):=hw4.blk.cell rfl;have c1:w4.cell? ⟨wx.heap.size,1,none⟩=some (.int .i64 x.2):=hw4.blk.cell rfl;have k4:Kept (fun j=>j=wx.heap.size) wx w4:=(Kept.new hw3).trans hw4.kept (fun _ _ h=>h);have ho4:=hox.keptX k4 (fun g hg h=>by have:=hox.block g hg;omega);have hb4:Below w.heap.size w w4:=hbx.trans (k4.below szx (fun _ h=>by omega));push_cast -dsimp[c0,c1];refine⟨fun hlt=>?_,fun hge=>?_⟩
   ·rw[if_pos hlt,←List.append_assoc]at hout;refine⟨⟨by omega,by omega⟩,?_⟩;refine rowK elI_44 rfl rfl (by omega) ?_;intro w7 hw7;have sz7:=hw7.size;have ho7:=ho4.new hw7;push_cast -dsimp;refine appendK2 (base:=w.heap.size) [(f,x.1-1)] (enc:=encR) elI_44 ho7 (by rfl) (fun j u hu=>by simpa[encR] using hw7.cell hu) encR_one (by simp only[List.length_cons,List.length_nil];omega) (by omega) ?_;intro v8 w8 ho8 hg8 hn8;have k8:Kept (fun j=>(Value.slice oa out.length oc).ownBlock=some j) w4 w8:=(Kept.new (X:=fun j=>(Value.slice oa out.length oc).ownBlock=some j) hw7).trans (Kept.grown hg8 (fun _ h=>h)) (fun _ _ h=>h);have hb8:Below w.heap.size w w8:=hb4.trans (k8.below (by omega) (fun g h=>(ho4.block g h).1));have d1:w8.cell? ⟨wx.heap.size,1,none⟩=some (.int .i64 x.2):=k8.cell c1 (fun h=>by have h2:w.heap.size≤wx.heap.size∧wx.heap.size<wx.heap.size:=hox.block _ h;omega);push_cast -dsimp[d1];exact⟨⟨by omega,by omega⟩,⟨by omega,by omega⟩,⟨i+1,x.2+1,out++[(f,x.1-1)],_,rfl,rfl,rfl,by omega,by omega,by omega,by rw[List.length_append,List.length_singleton];omega,hout,ho8,hb8⟩,by rw[h9];simp only[intOf];omega⟩
   ·rw[if_neg (by omega),List.nil_append]at hout;exact⟨⟨by omega,by omega⟩,⟨by omega,by omega⟩,⟨i+1,x.2+1,out,_,rfl,rfl,rfl,by omega,by omega,by omega,by omega,hout,ho4,hb4⟩,by rw[h9];simp only[intOf];omega⟩
  ·have hin:i=s.length:=by omega
   subst hin;have hsh:=hox.slice;obtain⟨oa,oc,rfl⟩:=hsh;rw[List.drop_length,notGo]at hout;refine⟨fun hle=>?_,fun hgt=>?_⟩
   ·rw[if_pos hle]at hout;refine rowK elI_44 rfl rfl (by omega) ?_;intro w7 hw7;have sz7:=hw7.size;have ho7:=hox.new hw7;push_cast -dsimp;refine appendK2 (base:=w.heap.size) [(f,1114111)] (enc:=encR) elI_44 ho7 (by rfl) (fun j u hu=>by simpa[encR] using hw7.cell hu) encR_one (by simp only[List.length_cons,List.length_nil];omega) (by omega) ?_;intro v8 w8 ho8 hg8 hn8;have k8:Kept (fun j=>(Value.slice oa out.length oc).ownBlock=some j) wx w8:=(Kept.new (X:=fun j=>(Value.slice oa out.length oc).ownBlock=some j) hw7).trans (Kept.grown hg8 (fun _ h=>h)) (fun _ _ h=>h);rw[hout]at ho8;push_cast -dsimp;exact⟨ho8,hbx.trans (k8.below szx (fun g h=>(hox.block g h).1))⟩
   ·rw[if_neg (by omega),List.append_nil]at hout;subst hout;exact⟨hox,hbx⟩
theorem concLen {α β:Type}(L:List α)(f:α→List β)(i:Nat):((L.take i).flatMap f).length≤(L.flatMap f).length:=by
 conv=>rhs;rw[←List.take_append_drop i L,List.flatMap_append,List.length_append]
 omega
theorem concat_c (Ls:List (Value×List Rg))(hl:(Ls.flatMap (·.2)).length<100000000)(hn:Ls.length<1000000)(X:Nat→Prop)(g c:Nat)(hc:Ls.length≤c)(w:World)
  (hv:∀(i:Nat) (p:Value×List Rg),Ls[i]?=some p→w.cell? ⟨g,i,none⟩=some p.1∧Sl X 2 (En encR) w p.1 p.2∧Arg p.1) :
  Fun Tryz.prog 101 [.slice (some ⟨g,0,none⟩) Ls.length c] w fun r w'=>Vc.Own w.heap.size 104 2 encR w' r (Ls.flatMap (·.2))∧Below w.heap.size w w':=by
 refine fun_of_vc Tryz.func101 rfl (by kernel_rfl) [2] rfl ?_;push_cast -dsimp(maxSteps:=4000000) [Tryz.ntmps101];refine wpL_loop [3,5,11,12,13,14,15,16,17,18,19,20,21,22] (fun z wx=>∃(i:Nat),z 11=.int .i64 i∧z 3=.int .i64 (((Ls.take i).flatMap (·.2)).length:Nat)∧i≤Ls.length∧wx=w) (fun z _=>Ls.length-(intOf (z 11)).toNat) ?_ ?_
 ·exact⟨0,rfl,rfl,Nat.zero_le _,rfl⟩
 ·intro z wx hI;obtain⟨i,h11,h3,hi,rfl⟩:=hI;have hcl:=concLen Ls (·.2) i;have hcl1:=concLen Ls (·.2) (i+1);push_cast -dsimp[h11,h3];refine⟨fun hlt=>?_,fun hge=>?_⟩
  ·have hg:=lt_get (l:=Ls) (i:=i) (by omega);obtain⟨p,hp,_,_,ht⟩:=hg;have hvp:=hv i p hp;obtain⟨c0,hs,hA⟩:=hvp;have c0':=c0;have e1:((Ls.take (i+1)).flatMap (·.2)).length=((Ls.take i).flatMap (·.2)).length+p.2.length:=by
    rw[ht,List.flatMap_append,List.length_append];simp
   have hsh:=hs.shape;obtain⟨pa,pc,hpv,hpc⟩:=hsh;rw[hpv]at c0';push_cast -dsimp[c0'];refine⟨⟨by omega,by omega⟩,⟨by omega,by omega⟩,fun h=>absurd h (by omega),fun _=>⟨⟨by omega,by omega⟩,⟨i+1,rfl,by rw[e1,Int.natCast_add],by omega⟩,by rw[h11];simp only[intOf];omega⟩⟩
  ·have hin:i=Ls.length:=by omega
   subst hin;rw[List.take_length];refine callK_of (grow_c _ (by omega) wx) ?_;rintro v1 w1 ⟨ho1,hb1⟩;have sz1:=hb1.size;push_cast -dsimp;refine wpL_loop [6,8,27,28,29,30,31,32,33,34] (fun z w2=>∃(i:Nat) (ov:Value),z 27=.int .i64 i∧z 6=ov∧i≤Ls.length∧Vc.Own wx.heap.size 104 2 encR w2 ov ((Ls.take i).flatMap (·.2))∧Below wx.heap.size wx w2) (fun z _=>Ls.length-(intOf (z 27)).toNat) ?_ ?_
   ·exact⟨0,_,rfl,rfl,Nat.zero_le _,ho1,hb1⟩
   ·intro y w2 hJ;obtain⟨i,ov,h27,h6,hi,ho2,hb2⟩:=hJ;have sz2:=hb2.size;have hcl:=concLen Ls (·.2) i;have hcl1:=concLen Ls (·.2) (i+1);push_cast -dsimp[h27,h6];refine⟨fun hlt=>?_,fun hge=>?_⟩
    ·have hg:=lt_get (l:=Ls) (i:=i) (by omega);obtain⟨p,hp,_,_,ht⟩:=hg;have hvp:=hv i p hp;obtain⟨c0,hs,hA⟩:=hvp;have c0':w2.cell? ⟨g,i,none⟩=some p.1:=(hb2.cell (World.block_lt_of_cell? _ _ c0)).trans c0;have hsh:=hs.shape;obtain⟨pa,pc,hpv,hpc⟩:=hsh;rw[hpv]at c0' hs hA;have e1:(Ls.take (i+1)).flatMap (·.2)=(Ls.take i).flatMap (·.2)++p.2:=by
      rw[ht,List.flatMap_append];simp
     have e2:=congrArg List.length e1;rw[List.length_append]at e2;have hsh:=ho2.slice;obtain⟨oa,oc,rfl⟩:=hsh;push_cast -dsimp[c0'];refine⟨⟨by omega,by omega⟩,?_⟩;refine appendAny (base:=wx.heap.size) (enc:=encR) (ys:=p.2) elI_44 ho2 (hs.below hb2) hA encR_one (by omega) (by omega) ?_;intro v3 w3 ho3 hg3 hb3;rw[←e1]at ho3;push_cast -dsimp;exact⟨⟨by omega,by omega⟩,⟨i+1,_,rfl,rfl,by omega,ho3,hb2.trans hb3⟩,by rw[h27];simp only[intOf];omega⟩
    ·have hin:i=Ls.length:=by omega
     subst hin;rw[List.take_length]at ho2;have hsh:=ho2.slice;obtain⟨oa,oc,rfl⟩:=hsh;exact⟨ho2,hb2⟩
theorem or_c (s t:List Rg)(hs:s.length<10000000)(ht:t.length<10000000)(X:Nat→Prop)(va vb:Value)(w:World)(hva:Sl X 2 (En encR) w va s)(hvb:Sl X 2 (En encR) w vb t)(hA:Arg va)(hB:Arg vb) :
  Fun Tryz.prog 68 [va,vb] w fun r w'=>Vc.Own w.heap.size 104 2 encR w' r (setOr s t)∧Below w.heap.size w w':=by
 have hsh:=hva.shape;obtain⟨a1,c1,e1,_⟩:=hsh;have hsh:=hvb.shape;obtain⟨a2,c2,e2,_⟩:=hsh;refine fun_of_vc Tryz.func68 rfl (by kernel_rfl) [4] rfl ?_;push_cast -dsimp(maxSteps:=4000000) [Tryz.ntmps68];refine rowK elI_192 (by rw[e1,e2];rfl) rfl (by omega) ?_;intro w1 hw1;have sz1:=hw1.size;have d0:=hw1.cell (j:=0) (u:=va) (by rw[e1,e2];rfl);have d1:=hw1.cell (j:=1) (u:=vb) (by rw[e1,e2];rfl);push_cast -dsimp;refine callK_of (concat_c [(va,s),(vb,t)] (by simp;omega) (by simp) X w.heap.size 2 (by simp) w1 ?_) ?_
 ·intro i p hp;match i,hp with
  | 0,hp=>cases hp;exact⟨d0,hva.below hw1.below,hA⟩
  | 1,hp=>cases hp;exact⟨d1,hvb.below hw1.below,hB⟩
  | n+2,hp=>cases hp
 rintro v2 w2 ⟨ho2,hb2⟩;rw[show [(va,s),(vb,t)].flatMap (·.2)=s++t by simp]at ho2
 push_cast -dsimp;refine callK_of (of_c (s++t) (by rw[List.length_append];omega) _ _ w2 ho2.sl ho2.nilArg) ?_;rintro v3 w3 ⟨ho3,hb3⟩;push_cast -dsimp;have sz2:=hb2.size;exact⟨ho3.mono (by omega),(hw1.below.trans (hb2.mono (by omega))).trans (hb3.mono (by omega))⟩
theorem and_c (s t:List Rg)(hs:s.length<1000000)(ht:t.length<1000000)(hrs:setRight (-2) s=true)(hrt:setRight (-2) t=true)(X:Nat→Prop)(va vb:Value)(w:World)(hva:Sl X 2 (En encR) w va s)(hvb:Sl X 2 (En encR) w vb t) :
  Fun Tryz.prog 69 [va,vb] w fun r w'=>Vc.Own w.heap.size 104 2 encR w' r (setAnd s t)∧Below w.heap.size w w':=by
 have n1:=setNot_len s;have n2:=setNot_len t;have n3:=setOr_len (setNot s) (setNot t);refine fun_of_vc Tryz.func69 rfl (by kernel_rfl) [4] rfl ?_;push_cast -dsimp(maxSteps:=4000000) [Tryz.ntmps69];refine callK_of (not_c s (by omega) hrs X va w hva) ?_;rintro v1 w1 ⟨ho1,hb1⟩;have sz1:=hb1.size;push_cast -dsimp;refine callK_of (not_c t (by omega) hrt X vb w1 (hvb.below hb1)) ?_;rintro v2 w2 ⟨ho2,hb2⟩;have sz2:=hb2.size;push_cast -dsimp;refine callK_of (or_c (setNot s) (setNot t) (by omega) (by omega) (fun _=>False) v1 v2 w2 ((ho1.sl.weaken (fun _ h=>h.elim)).below hb2) (ho2.sl.weaken (fun _ h=>h.elim)) ho1.nilArg ho2.nilArg) ?_;rintro v3 w3 ⟨ho3,hb3⟩;have sz3:=hb3.size;push_cast -dsimp;refine callK_of (not_c (setOr (setNot s) (setNot t)) (by omega) (setOr_right _ _) (fun _=>False) v3 w3 (ho3.sl.weaken (fun _ h=>h.elim))) ?_;rintro v4 w4 ⟨ho4,hb4⟩;push_cast -dsimp;exact⟨ho4.mono (by omega),((hb1.trans (hb2.mono (by omega))).trans (hb3.mono (by omega))).trans (hb4.mono (by omega))⟩
theorem less_c (s t:List Rg)(hs:s.length<900000)(ht:t.length<900000)(hrs:setRight (-2) s=true)(hrt:setRight (-2) t=true)(X:Nat→Prop)(va vb:Value)(w:World)(hva:Sl X 2 (En encR) w va s)(hvb:Sl X 2 (En encR) w vb t) :
  Fun Tryz.prog 70 [va,vb] w fun r w'=>Vc.Own w.heap.size 104 2 encR w' r (setLess s t)∧Below w.heap.size w w':=by
 have n2:=setNot_len t;refine fun_of_vc Tryz.func70 rfl (by kernel_rfl) [4] rfl ?_;push_cast -dsimp(maxSteps:=4000000) [Tryz.ntmps70];refine callK_of (not_c t (by omega) hrt X vb w hvb) ?_;rintro v2 w2 ⟨ho2,hb2⟩;have sz2:=hb2.size;push_cast -dsimp;refine callK_of (and_c s (setNot t) (by omega) (by omega) hrs (setNot_right hrt) (fun _=>False) va v2 w2 ((hva.below hb2).weaken (fun _ h=>h.elim)) (ho2.sl.weaken (fun _ h=>h.elim))) ?_;rintro v3 w3 ⟨ho3,hb3⟩;push_cast -dsimp;exact⟨ho3.mono (by omega),hb2.trans (hb3.mono (by omega))⟩
def NamV (X:Nat→Prop)(w:World)(b:Nat)(nm:NamesP):Prop:=∃kvs:List (List UInt8×Value),MapG (fun l:List UInt8=>str l) w b kvs∧All2 (fun kv x=>kv.1=x.1∧Sl X 2 (En encR) w kv.2 x.2∧Arg kv.2) kvs nm
theorem NamV.below {X:Nat→Prop}{w w':World}{b:Nat}{nm:NamesP}(h:NamV X w b nm)(hb:Below w.heap.size w w'):NamV X w' b nm:=by
 obtain⟨kvs,h2,h3⟩:=h;exact⟨kvs,h2.below hb h2.lt,h3.imp fun a b h=>⟨h.1,h.2.1.below hb,h.2.2⟩⟩
theorem NamV.find {X:Nat→Prop}{w:World}{n:List UInt8}:∀{kvs:List (List UInt8×Value)} {nm:NamesP},All2 (fun kv x=>kv.1=x.1∧Sl X 2 (En encR) w kv.2 x.2∧Arg kv.2) kvs nm →
  (findN n nm=none∧assocG n kvs=none)∨∃s u,findN n nm=some s∧assocG n kvs=some u∧Sl X 2 (En encR) w u s∧Arg u:=by
 intro kvs nm h;induction h with
 | nil=>exact .inl ⟨rfl,rfl⟩
 | @cons kv x l m h1 h2 ih =>
  obtain⟨e,hs,ha⟩:=h1;by_cases hn:x.1=n
  ·exact .inr ⟨x.2,kv.2,by rw[findN,if_pos hn],by rw[assocG,if_pos (by rw[e,hn])],hs,ha⟩
  ·rw[findN,if_neg hn,assocG,if_neg (fun h=>hn (by rw[←e,←h]))];exact ih
def KindRes (X:Nat→Prop)(B:Nat)(nm:NamesP)(k:KindP)(r:Value)(w:World):Prop:=match kindS nm k with
 | .ok s=>∃v,r=.tuple #[v,.nilIface]∧Sl (fun b=>X b∧b<B) 2 (En encR) w v s∧Arg v
 | .error e=>∃b,B≤b∧r=.tuple #[.slice none 0 0,.iface 96 (.pointer (some ⟨b,0,none⟩))]∧Blk w b 97 [.int .i64 7,.int .i64 e]
theorem ckind_c:∀(k:KindP),KindOk k→∀(nm:NamesP),RightN nm→∀(X:Nat→Prop) (v:Value) (b:Nat) (w:World),KindV X w v k→NamV X w b nm →
  Fun Tryz.prog 36 [v,.map (some b)] w fun r w'=>KindRes X w.heap.size nm k r w'∧Below w.heap.size w w':=by
 intro k;induction k with
 | lit pos s =>
  rintro hok nm hr X v mb w ⟨b,sv,rfl,hb,hB,hs,ha⟩ hm;have d0:w.cell? ⟨b,0,none⟩=some (.int .i64 1):=hB.cell rfl;have d2:w.cell? ⟨b,2,none⟩=some sv:=hB.cell rfl;obtain⟨_,_,rfl,_⟩:=hs.shape
  (refine fun_of_vc Tryz.func36 rfl (by kernel_rfl) [4,5] rfl ?_;push_cast -dsimp(maxSteps:=4000000) [Tryz.ntmps36]);push_cast -dsimp[d0,d2];exact⟨⟨_,rfl,hs.weaken (fun b hh=>hh.1),ha⟩,Below.refl _ _⟩
 | ref pos n =>
  rintro hok nm hr X v mb w ⟨b,rfl,hb,hB⟩ hm;have d0:w.cell? ⟨b,0,none⟩=some (.int .i64 2):=hB.cell rfl;have d1:w.cell? ⟨b,1,none⟩=some (.int .i64 pos):=hB.cell rfl;have d3:w.cell? ⟨b,3,none⟩=some (str n):=hB.cell rfl;obtain⟨kvs,hM,hA⟩:=hm;have hf:=NamV.find (n:=n) hA
  (refine fun_of_vc Tryz.func36 rfl (by kernel_rfl) [4,5] rfl ?_;push_cast -dsimp(maxSteps:=4000000) [Tryz.ntmps36]);push_cast -dsimp[d0,d1,d3];rcases hf with ⟨f1,f2⟩|⟨s,u,f1,f2,hs,ha⟩
  ·refine lookupG_none (kt:=9) (et:=44) (z:=.slice none 0 0) (by kernel_rfl) (keyStr (by kernel_rfl)) (by kernel_rfl) hM rfl f2 ?_;push_cast -dsimp;have d1d:w.drew.cell? ⟨b,1,none⟩=some (.int .i64 pos):=d1;refine wpL_draw (fun w'=>w'.cell? ⟨b,1,none⟩=some (.int .i64 pos)) mixed (by kernel_rfl) d1 ?_;push_cast -dsimp[d1d];refine⟨fun w'' h=>by rw[h];exact rfl,?_⟩;refine boxK_of ?_;intro w2 hw2;have hw2:New w.drew w2 97 [.int .i64 7,.int .i64 pos]:=hw2;have hlt:=hB.lt;have hb2:Below w.heap.size w w2:=((Kept.refl (fun _=>False) w).drew.below (Nat.le_refl _) (fun _ h=>h.elim)).trans hw2.below;refine⟨(hb2.cell (by show b<_;omega)).trans d1,?_⟩
   push_cast -dsimp;refine⟨?_,hb2⟩;unfold KindRes;rw[show kindS nm (.ref pos n)=.error pos from by rw[kindS,f1]]
   exact⟨w.heap.size,Nat.le_refl _,rfl,hw2.blk⟩
  ·refine lookupG_some (kt:=9) (et:=44) (z:=.slice none 0 0) (by kernel_rfl) (keyStr (by kernel_rfl)) (by kernel_rfl) hM rfl f2 ?_;obtain⟨_,_,rfl,_⟩:=hs.shape;push_cast -dsimp;refine⟨?_,Below.refl _ _⟩;unfold KindRes;rw[show kindS nm (.ref pos n)=.ok s from by rw[kindS,f1]]
   exact⟨_,rfl,hs.weaken (fun b hh=>hh.1),ha⟩
 | not pos k ih =>
  rintro hok nm hr X v mb w ⟨b,u,rfl,hb,hB,h1⟩ hm;obtain⟨b1,rfl,hb1⟩:=h1.ptr;have d0:w.cell? ⟨b,0,none⟩=some (.int .i64 6):=hB.cell rfl;have d4:w.cell? ⟨b,4,none⟩=some (.pointer (some ⟨b1,0,none⟩)):=hB.cell rfl
  (refine fun_of_vc Tryz.func36 rfl (by kernel_rfl) [4,5] rfl ?_;push_cast -dsimp(maxSteps:=4000000) [Tryz.ntmps36]);push_cast -dsimp[d0,d4];refine callK_of (ih hok nm hr X _ mb w h1 hm) ?_;rintro r w1 ⟨hR,hb1'⟩;have z1:=hb1'.size;have hB1:=hB.below hb1' hB.lt;have e0:w1.cell? ⟨b,0,none⟩=some (.int .i64 6):=hB1.cell rfl;unfold KindRes at hR;cases hk:kindS nm k with
  | ok s =>
   rw[hk]at hR;obtain⟨v1,rfl,hs1,ha1⟩:=hR;have hrs:=kindS_right (k:=k) hr hok hk;have hle:=right_len hrs;push_cast -dsimp[e0];refine callK_of (not_c s (by omega) hrs _ _ w1 hs1) ?_;rintro v2 w2 ⟨ho2,hb2⟩;have hbw:=hb1'.trans (hb2.mono z1);have ha2:Arg v2:=ho2.nilArg;obtain⟨_,_,rfl⟩:=ho2.slice;push_cast -dsimp;refine⟨?_,hbw⟩;unfold KindRes;rw[show kindS nm (.not pos k)=.ok (setNot s) from by rw[kindS,hk]]
   exact⟨_,rfl,ho2.sl.weaken (fun b hh=>by have:=hh.2;omega),ha2⟩
  | error e =>
   rw[hk]at hR;obtain⟨eb,heb,rfl,hE⟩:=hR;push_cast -dsimp;refine⟨?_,hb1'⟩;unfold KindRes;rw[show kindS nm (.not pos k)=.error e from by rw[kindS,hk]]
   exact⟨eb,heb,rfl,hE⟩
 | bin c pos k r ih ih' =>
  rintro hok nm hr X v mb w ⟨b,u,x,rfl,hb,hB,h1,h2⟩ hm;obtain⟨b1,rfl,hb1⟩:=h1.ptr;obtain⟨b2,rfl,hb2⟩:=h2.ptr;obtain⟨hok1,hok2,hc⟩:=hok;have d4:w.cell? ⟨b,4,none⟩=some (.pointer (some ⟨b1,0,none⟩)):=hB.cell rfl;rcases hc with rfl|rfl|rfl
  case inl =>
   have d0:w.cell? ⟨b,0,none⟩=some (.int .i64 3):=hB.cell rfl
   (refine fun_of_vc Tryz.func36 rfl (by kernel_rfl) [4,5] rfl ?_;push_cast -dsimp(maxSteps:=4000000) [Tryz.ntmps36]);push_cast -dsimp[d0,d4];refine callK_of (ih hok1 nm hr X _ mb w h1 hm) ?_;rintro r1 w1 ⟨hR,hb1'⟩;have z1:=hb1'.size;have hB1:=hB.below hb1' hB.lt;have e0:w1.cell? ⟨b,0,none⟩=some (.int .i64 3):=hB1.cell rfl;have e5:w1.cell? ⟨b,5,none⟩=some (.pointer (some ⟨b2,0,none⟩)):=hB1.cell rfl;unfold KindRes at hR;cases hk:kindS nm k with
   | error e =>
    rw[hk]at hR;obtain⟨eb,heb,rfl,hE⟩:=hR;push_cast -dsimp;refine⟨?_,hb1'⟩;unfold KindRes;rw[show kindS nm (.bin 3 pos k r)=.error e from by rw[kindS,hk]]
    exact⟨eb,heb,rfl,hE⟩
   | ok s =>
    rw[hk]at hR;obtain⟨v1,rfl,hs1,ha1⟩:=hR;have hrs:=kindS_right hr hok1 hk;have hls:=right_len hrs;obtain⟨_,_,rfl,_⟩:=hs1.shape;push_cast -dsimp[e0,e5];refine callK_of (ih' hok2 nm hr X _ mb w1 (h2.below hb1') (hm.below hb1')) ?_;rintro r2 w2 ⟨hR2,hb2'⟩;have z2:=hb2'.size;have hbw2:=hb1'.trans (hb2'.mono z1);have hB2:=hB1.below hb2' hB1.lt;have f0:w2.cell? ⟨b,0,none⟩=some (.int .i64 3):=hB2.cell rfl;unfold KindRes at hR2;cases hk2:kindS nm r with
    | error e =>
     rw[hk2]at hR2;obtain⟨eb,heb,rfl,hE⟩:=hR2;push_cast -dsimp;refine⟨?_,hbw2⟩;unfold KindRes;rw[show kindS nm (.bin 3 pos k r)=.error e from by rw[kindS,hk];dsimp only;rw[hk2]]
     exact⟨eb,by omega,rfl,hE⟩
    | ok t =>
     rw[hk2]at hR2;obtain⟨v2,rfl,hs2,ha2⟩:=hR2;have hrt:=kindS_right hr hok2 hk2;have hlt:=right_len hrt;obtain⟨_,_,rfl,_⟩:=hs2.shape;push_cast -dsimp[f0];refine callK_of (or_c s t (by omega) (by omega) (fun _=>False) _ _ w2 ((hs1.below hb2').weaken (fun _ h=>h.elim)) (hs2.weaken (fun _ h=>h.elim)) ha1 ha2) ?_;rintro v3 w3 ⟨ho3,hb3⟩;have hbw3:=hbw2.trans (hb3.mono (by omega));have ha3:Arg v3:=ho3.nilArg;obtain⟨_,_,rfl⟩:=ho3.slice;push_cast -dsimp;refine⟨?_,hbw3⟩;unfold KindRes;rw[show kindS nm (.bin 3 pos k r)=.ok (setOr s t) from by rw[kindS,hk];dsimp only;rw[hk2];rfl]
     exact⟨_,rfl,ho3.sl.weaken (fun b hh=>by have:=hh.2;omega),ha3⟩
  case inr.inl =>
   have d0:w.cell? ⟨b,0,none⟩=some (.int .i64 4):=hB.cell rfl
   (refine fun_of_vc Tryz.func36 rfl (by kernel_rfl) [4,5] rfl ?_;push_cast -dsimp(maxSteps:=4000000) [Tryz.ntmps36]);push_cast -dsimp[d0,d4];refine callK_of (ih hok1 nm hr X _ mb w h1 hm) ?_;rintro r1 w1 ⟨hR,hb1'⟩;have z1:=hb1'.size;have hB1:=hB.below hb1' hB.lt;have e0:w1.cell? ⟨b,0,none⟩=some (.int .i64 4):=hB1.cell rfl;have e5:w1.cell? ⟨b,5,none⟩=some (.pointer (some ⟨b2,0,none⟩)):=hB1.cell rfl;unfold KindRes at hR;cases hk:kindS nm k with
   | error e =>
    rw[hk]at hR;obtain⟨eb,heb,rfl,hE⟩:=hR;push_cast -dsimp;refine⟨?_,hb1'⟩;unfold KindRes;rw[show kindS nm (.bin 4 pos k r)=.error e from by rw[kindS,hk]]
    exact⟨eb,heb,rfl,hE⟩
   | ok s =>
    rw[hk]at hR;obtain⟨v1,rfl,hs1,ha1⟩:=hR;have hrs:=kindS_right hr hok1 hk;have hls:=right_len hrs;obtain⟨_,_,rfl,_⟩:=hs1.shape;push_cast -dsimp[e0,e5];refine callK_of (ih' hok2 nm hr X _ mb w1 (h2.below hb1') (hm.below hb1')) ?_;rintro r2 w2 ⟨hR2,hb2'⟩;have z2:=hb2'.size;have hbw2:=hb1'.trans (hb2'.mono z1);have hB2:=hB1.below hb2' hB1.lt;have f0:w2.cell? ⟨b,0,none⟩=some (.int .i64 4):=hB2.cell rfl;unfold KindRes at hR2;cases hk2:kindS nm r with
    | error e =>
     rw[hk2]at hR2;obtain⟨eb,heb,rfl,hE⟩:=hR2;push_cast -dsimp;refine⟨?_,hbw2⟩;unfold KindRes;rw[show kindS nm (.bin 4 pos k r)=.error e from by rw[kindS,hk];dsimp only;rw[hk2]]
     exact⟨eb,by omega,rfl,hE⟩
    | ok t =>
     rw[hk2]at hR2;obtain⟨v2,rfl,hs2,ha2⟩:=hR2;have hrt:=kindS_right hr hok2 hk2;have hlt:=right_len hrt;obtain⟨_,_,rfl,_⟩:=hs2.shape;push_cast -dsimp[f0];refine callK_of (and_c s t (by omega) (by omega) hrs hrt (fun _=>False) _ _ w2 ((hs1.below hb2').weaken (fun _ h=>h.elim)) (hs2.weaken (fun _ h=>h.elim))) ?_;rintro v3 w3 ⟨ho3,hb3⟩;have hbw3:=hbw2.trans (hb3.mono (by omega));have ha3:Arg v3:=ho3.nilArg;obtain⟨_,_,rfl⟩:=ho3.slice;push_cast -dsimp;refine⟨?_,hbw3⟩;unfold KindRes;rw[show kindS nm (.bin 4 pos k r)=.ok (setAnd s t) from by rw[kindS,hk];dsimp only;rw[hk2];rfl]
     exact⟨_,rfl,ho3.sl.weaken (fun b hh=>by have:=hh.2;omega),ha3⟩
  case inr.inr =>
   have d0:w.cell? ⟨b,0,none⟩=some (.int .i64 5):=hB.cell rfl
   (refine fun_of_vc Tryz.func36 rfl (by kernel_rfl) [4,5] rfl ?_;push_cast -dsimp(maxSteps:=4000000) [Tryz.ntmps36]);push_cast -dsimp[d0,d4];refine callK_of (ih hok1 nm hr X _ mb w h1 hm) ?_;rintro r1 w1 ⟨hR,hb1'⟩;have z1:=hb1'.size;have hB1:=hB.below hb1' hB.lt;have e0:w1.cell? ⟨b,0,none⟩=some (.int .i64 5):=hB1.cell rfl;have e5:w1.cell? ⟨b,5,none⟩=some (.pointer (some ⟨b2,0,none⟩)):=hB1.cell rfl;unfold KindRes at hR;cases hk:kindS nm k with
   | error e =>
    rw[hk]at hR;obtain⟨eb,heb,rfl,hE⟩:=hR;push_cast -dsimp;refine⟨?_,hb1'⟩;unfold KindRes;rw[show kindS nm (.bin 5 pos k r)=.error e from by rw[kindS,hk]]
    exact⟨eb,heb,rfl,hE⟩
   | ok s =>
    rw[hk]at hR;obtain⟨v1,rfl,hs1,ha1⟩:=hR;have hrs:=kindS_right hr hok1 hk;have hls:=right_len hrs;obtain⟨_,_,rfl,_⟩:=hs1.shape;push_cast -dsimp[e0,e5];refine callK_of (ih' hok2 nm hr X _ mb w1 (h2.below hb1') (hm.below hb1')) ?_;rintro r2 w2 ⟨hR2,hb2'⟩;have z2:=hb2'.size;have hbw2:=hb1'.trans (hb2'.mono z1);have hB2:=hB1.below hb2' hB1.lt;have f0:w2.cell? ⟨b,0,none⟩=some (.int .i64 5):=hB2.cell rfl;unfold KindRes at hR2;cases hk2:kindS nm r with
    | error e =>
     rw[hk2]at hR2;obtain⟨eb,heb,rfl,hE⟩:=hR2;push_cast -dsimp;refine⟨?_,hbw2⟩;unfold KindRes;rw[show kindS nm (.bin 5 pos k r)=.error e from by rw[kindS,hk];dsimp only;rw[hk2]]
     exact⟨eb,by omega,rfl,hE⟩
    | ok t =>
     rw[hk2]at hR2;obtain⟨v2,rfl,hs2,ha2⟩:=hR2;have hrt:=kindS_right hr hok2 hk2;have hlt:=right_len hrt;obtain⟨_,_,rfl,_⟩:=hs2.shape;push_cast -dsimp[f0];refine callK_of (less_c s t (by omega) (by omega) hrs hrt (fun _=>False) _ _ w2 ((hs1.below hb2').weaken (fun _ h=>h.elim)) (hs2.weaken (fun _ h=>h.elim))) ?_;rintro v3 w3 ⟨ho3,hb3⟩;have hbw3:=hbw2.trans (hb3.mono (by omega));have ha3:Arg v3:=ho3.nilArg;obtain⟨_,_,rfl⟩:=ho3.slice;push_cast -dsimp;refine⟨?_,hbw3⟩;unfold KindRes;rw[show kindS nm (.bin 5 pos k r)=.ok (setLess s t) from by rw[kindS,hk];dsimp only;rw[hk2];rfl]
     exact⟨_,rfl,ho3.sl.weaken (fun b hh=>by have:=hh.2;omega),ha3⟩
end Go.Proofs.YtodeeahdhnjpkaaGreatDoor
end
section
namespace Go.Proofs.YtodeeahdhnjpkaaGreatDoor
open Go.Vc Go.Proofs Go.RowKit Cae
attribute [local irreducible] wpL callK valK unitK runK Fun Sl Vc.Own vc vcOps opK pureK
open Go.Sort
def sortI_ren:Go.Shelf.Ren:=⟨fun|191=>125|189=>80|125=>106|257=>105|128=>142|129=>143|294=>133|295=>134|296=>135|297=>136|298=>137|299=>138|216=>139|300=>140|301=>141|328=>173|329=>174|330=>175|331=>176|332=>177|215=>172|343=>205|n=>n,fun|28=>50|0=>0|3=>3|46=>109|51=>206|53=>208|4=>4|183=>199|182=>198|131=>194|5=>5|9=>9|218=>244|222=>248|228=>272|229=>105|n=>n,fun|n=>n⟩
theorem sortI:Go.Proofs.Lays.n191 Tryz.prog sortI_ren:={
 mixed:=by kernel_rfl
 f125:=Tryz.func106.trans (congrArg some (by kernel_rfl))
 f128:=Tryz.func142.trans (congrArg some (by kernel_rfl))
 f129:=Tryz.func143.trans (congrArg some (by kernel_rfl))
 f189:=Tryz.func80.trans (congrArg some (by kernel_rfl))
 f191:=Tryz.func125.trans (congrArg some (by kernel_rfl))
 f215:=Tryz.func172.trans (congrArg some (by kernel_rfl))
 f216:=Tryz.func139.trans (congrArg some (by kernel_rfl))
 f257:=Tryz.func105.trans (congrArg some (by kernel_rfl))
 f294:=Tryz.func133.trans (congrArg some (by kernel_rfl))
 f295:=Tryz.func134.trans (congrArg some (by kernel_rfl))
 f296:=Tryz.func135.trans (congrArg some (by kernel_rfl))
 f297:=Tryz.func136.trans (congrArg some (by kernel_rfl))
 f298:=Tryz.func137.trans (congrArg some (by kernel_rfl))
 f299:=Tryz.func138.trans (congrArg some (by kernel_rfl))
 f300:=Tryz.func140.trans (congrArg some (by kernel_rfl))
 f301:=Tryz.func141.trans (congrArg some (by kernel_rfl))
 f328:=Tryz.func173.trans (congrArg some (by kernel_rfl))
 f329:=Tryz.func174.trans (congrArg some (by kernel_rfl))
 f330:=Tryz.func175.trans (congrArg some (by kernel_rfl))
 f331:=Tryz.func176.trans (congrArg some (by kernel_rfl))
 f332:=Tryz.func177.trans (congrArg some (by kernel_rfl))
 f343:=Tryz.func205.trans (congrArg some (by kernel_rfl))
 t0:=Tryz.underlying0
 a0:=Tryz.isAgg0
 z0:=Tryz.sizeOf0
 v0:=Tryz.zeroValue0
 t3:=Tryz.underlying3
 a3:=Tryz.isAgg3
 z3:=Tryz.sizeOf3
 v3:=Tryz.zeroValue3
 t4:=Tryz.underlying4
 a4:=Tryz.isAgg4
 z4:=Tryz.sizeOf4
 v4:=Tryz.zeroValue4
 t5:=Tryz.underlying5
 a5:=Tryz.isAgg5
 z5:=Tryz.sizeOf5
 v5:=Tryz.zeroValue5
 t9:=Tryz.underlying9
 a9:=Tryz.isAgg9
 z9:=Tryz.sizeOf9
 v9:=Tryz.zeroValue9
 t28:=Tryz.underlying50
 a28:=Tryz.isAgg50
 z28:=Tryz.sizeOf50
 v28:=Tryz.zeroValue50
 t46:=Tryz.underlying109
 a46:=Tryz.isAgg109
 z46:=Tryz.sizeOf109
 v46:=Tryz.zeroValue109
 t51:=Tryz.underlying206
 a51:=Tryz.isAgg206
 z51:=Tryz.sizeOf206
 v51:=Tryz.zeroValue206
 t53:=Tryz.underlying208
 a53:=Tryz.isAgg208
 z53:=Tryz.sizeOf208
 v53:=Tryz.zeroValue208
 t131:=Tryz.underlying194
 a131:=Tryz.isAgg194
 z131:=Tryz.sizeOf194
 v131:=Tryz.zeroValue194
 t182:=Tryz.underlying198
 a182:=Tryz.isAgg198
 z182:=Tryz.sizeOf198
 v182:=Tryz.zeroValue198
 t183:=Tryz.underlying199
 a183:=Tryz.isAgg199
 z183:=Tryz.sizeOf199
 v183:=Tryz.zeroValue199
 t218:=Tryz.underlying244
 a218:=Tryz.isAgg244
 z218:=Tryz.sizeOf244
 v218:=Tryz.zeroValue244
 t222:=Tryz.underlying248
 a222:=Tryz.isAgg248
 z222:=Tryz.sizeOf248
 v222:=Tryz.zeroValue248
 t228:=Tryz.underlying272
 a228:=Tryz.isAgg272
 z228:=Tryz.sizeOf272
 v228:=Tryz.zeroValue272
 t229:=Tryz.underlying105
 a229:=Tryz.isAgg105
 z229:=Tryz.sizeOf105
 v229:=Tryz.zeroValue105 }
theorem flat_encZ (l:List Int):l.flatMap encZ=l.map (Value.int .i64):=by
 induction l with
 | nil=>rfl
 | cons x l ih=>rw[List.flatMap_cons,ih];rfl
theorem sortInts_c (l:List Int)(hne:l≠[])(hl:l.length<1000000000)(base:Nat)(v:Value)(w:World)(ho:Vc.Own base 3 1 encZ w v l) :
  Fun Tryz.prog 125 [v] w fun r w'=>Vc.Own base 3 1 encZ w' v (l.mergeSort fun a b=>decide (a≤b))∧Kept (fun j=>v.ownBlock=some j) w w':=by
 refine fun_of_calls Tryz.func125 (by kernel_rfl) (by kernel_rfl) ?_;unfold Vc.Own at *
 obtain⟨hr,he⟩:=ho;obtain⟨hlen,⟨h0,_⟩|⟨g,cap,cur,hv,hbase,hB,hlc,hcm,hcs,htk⟩⟩:=id hr
 ·subst h0
  have:=hlen;simp at hlen;exact absurd (List.length_eq_zero_iff.1 (by omega)) hne
 ·subst hv;have hgs:=(Array.getElem?_eq_some_iff.1 hB).1;rw[Nat.mul_one,flat_encZ]at htk;have hH:=holds_of_blockI (ss:=l) hB htk;refine Calls.mono (Any.sort_Ints sortI g 0 cap l w hH hgs (by omega)) ?_;rintro e w' ⟨rfl,n,os,rfl⟩;have hml:(l.mergeSort fun a b=>decide (a≤b)).length=l.length:=(List.mergeSort_perm l _).length_eq;refine⟨_,rfl,⟨?_,he⟩,?_⟩
  ·have:=ownsRow_sortedI (n:=n) (os:=os) (ts:=l.mergeSort fun a b=>decide (a≤b)) hml hbase hB hlc hcm hcs;rw[flat_encZ,hml];exact this
  ·exact Kept.grown (grownBy_sortedI _) (fun _ h=>h)
end Go.Proofs.YtodeeahdhnjpkaaGreatDoor
end
section
namespace Go.Proofs.YtodeeahdhnjpkaaGreatDoor
open Go.Vc Go.Proofs Go.RowKit Cae
attribute [local irreducible] wpL callK valK unitK runK Fun Sl Vc.Own vc vcOps opK pureK
theorem hasR_c (s:List Rg)(p:Int)(hs:s.length<1000000000)(X:Nat→Prop)(v:Value)(w:World)(hv:Sl X 2 (En encR) w v s) :
  Fun Tryz.prog 74 [v,.int .i64 p] w fun r w'=>r=.bool (hasP s p)∧Below w.heap.size w w':=by
 obtain⟨a,c,rfl,hc⟩:=hv.shape;refine fun_of_vc Tryz.func74 rfl (by kernel_rfl) [4] rfl ?_;push_cast -dsimp(maxSteps:=4000000) [Tryz.ntmps74];refine wpL_loop [4,6,9,10,11,12,13,14,15,16,17,18,19,20,21,22,23] (fun z wx=>∃(i:Nat),z 9=.int .i64 i∧i≤s.length∧(∀r∈s.take i,¬(r.1≤p∧p≤r.2))∧Below w.heap.size w wx) (fun z _=>s.length-(intOf (z 9)).toNat) ?_ ?_
 ·exact⟨0,rfl,Nat.zero_le _,by simp,Below.refl _ _⟩
 ·intro z wx hI;obtain⟨i,h9,hi,hok,hb⟩:=hI;have szx:=hb.size;push_cast -dsimp[h9];refine⟨fun hlt=>?_,fun hge=>?_⟩
  ·obtain⟨r,hex⟩:=lt_get (l:=s) (i:=i) (by omega);have hrm:=hex.2.1;have ht:=hex.2.2.2;have hget:=(hv.below hb).get hex.1;obtain⟨b,o,rfl,hX,hcell⟩:=hget;have ce:cellsAt wx ⟨b,o+i*2,none⟩ 0 2=some [.int .i64 r.1,.int .i64 r.2]:=cellsAt_of (encR r) 0 (fun k u hu=>by simpa using hcell k u hu);push_cast -dsimp[ce];refine⟨⟨by omega,by omega⟩,?_⟩;refine allocK (z:=[.int .i64 0,.int .i64 0]) (by kernel_rfl) ?_;intro w1 hw1;push_cast -dsimp;refine storeAgg (n:=2) (by kernel_rfl) hw1.blk rfl (by simp) (by simp[Value.oneCell']) ?_;intro w2 hw2;have sz1:=hw1.size;have hB2:Blk w2 wx.heap.size 104 [.int .i64 r.1,.int .i64 r.2]:=hw2.blk;have f0:w2.cell? ⟨wx.heap.size,0,none⟩=some (.int .i64 r.1):=hB2.cell rfl;have f1:w2.cell? ⟨wx.heap.size,1,none⟩=some (.int .i64 r.2):=hB2.cell rfl;have hb2:Below w.heap.size w w2:=hb.trans ((hw1.below.mono szx).trans (hw2.kept.below (by omega) (fun _ h=>by omega)));have hyes:(r.1≤p∧p≤r.2)→Value.bool true=Value.bool (hasP s p):=fun h=>by
    congr 1;unfold hasP;exact(List.any_eq_true.2 ⟨r,hrm,decide_eq_true h⟩).symm
   have hno:¬(r.1≤p∧p≤r.2)→∀y∈s.take (i+1),¬(y.1≤p∧p≤y.2):=fun h y hy=>by
    rw[ht,List.mem_append,List.mem_singleton]at hy;rcases hy with hy|rfl
    ·exact hok y hy
    ·exact h
   push_cast -dsimp[f0,f1];exact⟨fun q1=>⟨fun q2=>⟨hyes ⟨q1,q2⟩,hb2⟩,fun q2=>⟨⟨by omega,by omega⟩,⟨i+1,rfl,by omega,hno (fun h=>q2 h.2),hb2⟩,by rw[h9];simp only[intOf];omega⟩⟩,
    fun q1=>⟨⟨by omega,by omega⟩,⟨i+1,rfl,by omega,hno (fun h=>q1 h.1),hb2⟩,by rw[h9];simp only[intOf];omega⟩⟩
  ·rw[List.take_of_length_le (by omega)]at hok;refine⟨?_,hb⟩;congr 1;unfold hasP;exact(List.any_eq_false.2 (fun r hr h=>hok r hr (of_decide_eq_true h))).symm
def flatR (Ls:List (Value×List Rg)):List Rg:=Ls.flatMap (·.2)
theorem encZ_one (x:Int):∀u∈encZ x,u.oneCell'=true:=by simp[encZ,Value.oneCell']
theorem told_c (g:Int→Bool)(f:FuncId)(cap:List Value)(Ls:List (Value×List Rg))(hl:(flatR Ls).length<3000000)(hn:Ls.length<1000)(X:Nat→Prop)(lb c:Nat)(hc:Ls.length≤c)(w:World)
  (hv:∀(i:Nat) (p:Value×List Rg),Ls[i]?=some p→w.cell? ⟨lb,i,none⟩=some p.1∧Sl X 2 (En encR) w p.1 p.2)
  (hg:AsksOf g (flatR Ls)) (hF:∀(p:Int) (w':World),Below w.heap.size w w'→Fun Tryz.prog f (.int .i64 p::cap) w' fun r w''=>r=.bool (g p)∧Below w'.heap.size w' w'') :
  Fun Tryz.prog 95 [.func (.func f) #[] cap.toArray,.slice (some ⟨lb,0,none⟩) Ls.length c] w fun r w'=>Vc.Own w.heap.size 104 2 encR w' r (toldP g (flatR Ls))∧Below w.heap.size w w':=by
 refine fun_of_vc Tryz.func95 rfl (by kernel_rfl) [4] rfl ?_;push_cast -dsimp(maxSteps:=4000000) [Tryz.ntmps95];refine rowK elI_50 rfl rfl (by omega) ?_;intro w1 hw1;have sz1:=hw1.size;have ho1:Vc.Own w.heap.size 3 1 encZ w1 (.slice (some ⟨w.heap.size,0,none⟩) 2 2) (turns (flatR (Ls.take 0))):=hw1.own (l:=turns (flatR (Ls.take 0))) rfl rfl (fun _=>rfl) (Nat.le_refl _) (by omega);have hb1:=hw1.below;push_cast -dsimp;refine wpL_loop [5,7,9,16,17,18,19,20,21,22,23,24,25,26,27,28,29,30,31,32,33,34,35,36,37,38,39,40,41,42,43,44] (fun z wx=>∃(i:Nat) (ov:Value),z 16=.int .i64 i∧z 5=ov∧i≤Ls.length∧Vc.Own w.heap.size 3 1 encZ wx ov (turns (flatR (Ls.take i)))∧Below w.heap.size w wx) (fun z _=>Ls.length-(intOf (z 16)).toNat) ?_ ?_
 ·exact⟨0,_,rfl,rfl,Nat.zero_le _,ho1,hb1⟩
 ·intro z wx hI;obtain⟨i,ov,h16,h5,hi,hox,hbx⟩:=hI;have szx:=hbx.size;push_cast -dsimp[h16,h5];refine⟨fun hlt=>?_,fun hge=>?_⟩
  ·obtain⟨p,hp,_,hpd,hpt⟩:=lt_get (l:=Ls) (i:=i) (by omega);have hvp:=hv i p hp;obtain⟨c0,hs⟩:=hvp;have c0':wx.cell? ⟨lb,i,none⟩=some p.1:=(hbx.cell (World.block_lt_of_cell? _ _ c0)).trans c0;obtain⟨pv,pl⟩:=p;simp only at hs c0';obtain⟨pa,pc,rfl,hpc⟩:=hs.shape;have eT:turns (flatR (Ls.take (i+1)))=turns (flatR (Ls.take i))++pl.flatMap turnsOf:=by
    rw[hpt];unfold flatR;rw[List.flatMap_append,turns_app];simp
   have hsum:(flatR (Ls.take i)).length+pl.length≤(flatR Ls).length:=by
    have e:=congrArg (fun l=>(flatR l).length) (List.take_append_drop i Ls);simp only[flatR,hpd,List.flatMap_append,List.flatMap_cons,List.length_append]at e ⊢
    omega
   have hgT:∃T0,turns (flatR (Ls.take i))=T0:=⟨_,rfl⟩;obtain⟨T0,hT0⟩:=hgT;have hTl:=turns_len (flatR (Ls.take i));rw[hT0]at hox eT hTl;push_cast -dsimp[c0'];refine⟨⟨by omega,by omega⟩,?_⟩;refine wpL_loop [5,9,22,23,24,25,26,27,28,29,30,31,32,33,34,35,36,37,38,39,40,41,42,43] (fun y wy=>∃(j:Nat) (ou:Value),y 22=.int .i64 j∧y 5=ou∧j≤pl.length∧Vc.Own w.heap.size 3 1 encZ wy ou (T0++(pl.take j).flatMap turnsOf)∧Below w.heap.size w wy) (fun y _=>pl.length-(intOf (y 22)).toNat) ?_ ?_
   ·exact⟨0,_,rfl,rfl,Nat.zero_le _,by rw[List.take_zero,List.flatMap_nil,List.append_nil];exact hox,hbx⟩
   ·intro y wy hJ;obtain⟨j,ou,h22,h5',hj,hoy,hby⟩:=hJ;have szy:=hby.size;have hjl:=flat_turns (pl.take j);rw[List.length_take]at hjl;push_cast -dsimp[h22,h5'];refine⟨fun hlt2=>?_,fun hge2=>?_⟩
    ·have hgx:=lt_get (l:=pl) (i:=j) (by omega);obtain⟨x,hx,hxm,_,hxt⟩:=hgx;have hgx:=(hs.below hby).get hx;obtain⟨b,o,rfl,hnb,hcell⟩:=hgx;have cx:cellsAt wy ⟨b,o+j*2,none⟩ 0 2=some [.int .i64 x.1,.int .i64 x.2]:=cellsAt_of (encR x) 0 (fun j u hu=>by simpa using hcell j u hu);have eT2:T0++(pl.take (j+1)).flatMap turnsOf=T0++(pl.take j).flatMap turnsOf++turnsOf x:=by
      rw[hxt,List.flatMap_append];simp
     have hgU:∃U0,T0++(pl.take j).flatMap turnsOf=U0:=⟨_,rfl⟩;obtain⟨U0,hU0⟩:=hgU;have hUl:=congrArg List.length hU0;rw[List.length_append]at hUl;rw[hU0]at hoy eT2;have hsh:=hoy.slice;obtain⟨ya,yc,rfl⟩:=hsh;push_cast -dsimp[cx];refine⟨⟨by omega,by omega⟩,?_⟩;refine allocK (z:=[.int .i64 0,.int .i64 0]) (by kernel_rfl) ?_;intro w3 hw3;have sz3:=hw3.size;push_cast -dsimp;refine storeAgg (n:=2) (by kernel_rfl) hw3.blk rfl (by simp) (by simp[Value.oneCell']) ?_;intro w4 hw4;have sz4:=hw4.size;have B4:Blk w4 wy.heap.size 104 [.int .i64 x.1,.int .i64 x.2]:=hw4.blk;have c1:w4.cell? ⟨wy.heap.size,0,none⟩=some (.int .i64 x.1):=B4.cell rfl;have c2:w4.cell? ⟨wy.heap.size,1,none⟩=some (.int .i64 x.2):=B4.cell rfl;have k4:Kept (fun j=>j=wy.heap.size) wy w4:=(Kept.new hw3).trans hw4.kept (fun _ _ h=>h);have ho4:=hoy.keptX k4 (fun g hg h=>by have:=hoy.block g hg;omega);have hb4:Below w.heap.size w w4:=hby.trans (k4.below szy (fun _ h=>by omega));push_cast -dsimp[c1];refine callK_of (rin_c x.1 0 1114111 w4) ?_;rintro _ w4 ⟨rfl,rfl⟩;have fin:∀(t5:Value) (w5:World) (V:List Int),turnsOf x=V→Vc.Own w.heap.size 3 1 encZ w5 t5 (U0++V)→Vc.Own w.heap.size 3 1 encZ w5 t5 (T0++(pl.take (j+1)).flatMap turnsOf):=fun t5 w5 V e h=>by rw[eT2,e];exact h
     have dn:∀k:Int,¬(0≤k∧k≤1114111)→decide (0≤k∧k≤1114111)=false:=fun k h=>decide_eq_false h;have dy:∀k:Int,(0≤k∧k≤1114111)→decide (0≤k∧k≤1114111)=true:=fun k h=>decide_eq_true h;by_cases q1:0≤x.1∧x.1≤1114111
     ·have e1:=dy _ q1;push_cast -dsimp[c1,e1];refine rowK elI_50 rfl rfl (by omega) ?_;intro wa1 hwa1;have sza1:=hwa1.size;have hoa1:=(ho4).new hwa1;push_cast -dsimp;refine appendK2 (base:=w.heap.size) [x.1] (enc:=encZ) elI_50 hoa1 (by rfl) (fun j u hu=>by simpa[encZ] using hwa1.cell hu) encZ_one (by simp only[List.length_append,List.length_cons,List.length_nil];omega) (by omega) ?_;intro vb1 wb1 hob1 hgb1 _;have kk1:=Kept.grown hgb1 (fun _ h=>h);have hkb1:Below w.heap.size w wb1:=((hb4).trans (hwa1.below.mono (by omega))).trans (kk1.below (by omega) (fun j h=>(hoa1.block j h).1));have z1:=kk1.size;have e2:wb1.cell? ⟨wy.heap.size,1,none⟩=some (.int .i64 x.2):=((B4.below hwa1.below B4.lt).kept kk1 (fun h=>by have:=hoy.block _ h;omega)).cell rfl;have hsh:=hob1.slice;obtain⟨za,zc,rfl⟩:=hsh;push_cast -dsimp[e2];refine callK_of (rin_c x.2 0 1114111 wb1) ?_;rintro _ wb1 ⟨rfl,rfl⟩;by_cases q2:0≤x.2∧x.2≤1114111
      ·have e3:=dy _ q2;push_cast -dsimp[e2,e3];refine⟨⟨by omega,by omega⟩,?_⟩;refine rowK elI_50 rfl rfl (by omega) ?_;intro wa2 hwa2;have sza2:=hwa2.size;have hoa2:=(hob1).new hwa2;push_cast -dsimp;refine appendK2 (base:=w.heap.size) [(x.2+1)] (enc:=encZ) elI_50 hoa2 (by rfl) (fun j u hu=>by simpa[encZ] using hwa2.cell hu) encZ_one (by simp only[List.length_append,List.length_cons,List.length_nil];omega) (by omega) ?_;intro vb2 wb2 hob2 hgb2 _;have kk2:=Kept.grown hgb2 (fun _ h=>h);have hkb2:Below w.heap.size w wb2:=((hkb1).trans (hwa2.below.mono (by omega))).trans (kk2.below (by omega) (fun j h=>(hoa2.block j h).1));push_cast -dsimp;exact⟨⟨by omega,by omega⟩,⟨j+1,_,rfl,rfl,by omega,fin _ _ [x.1,x.2+1] (by unfold turnsOf;rw[if_pos q1,if_pos q2];rfl) (by rw[List.append_assoc]at hob2;exact hob2),hkb2⟩,by rw[h22];simp only[intOf];omega⟩
      ·have e3:=dn _ q2;push_cast -dsimp[e3];exact⟨⟨by omega,by omega⟩,⟨j+1,_,rfl,rfl,by omega,fin _ _ [x.1] (by unfold turnsOf;rw[if_pos q1,if_neg q2];rfl) hob1,hkb1⟩,by rw[h22];simp only[intOf];omega⟩
     ·have e1:=dn _ q1;push_cast -dsimp[c2,e1];refine callK_of (rin_c x.2 0 1114111 w4) ?_;rintro _ w4 ⟨rfl,rfl⟩;by_cases q2:0≤x.2∧x.2≤1114111
      ·have e3:=dy _ q2;push_cast -dsimp[c2,e3];refine⟨⟨by omega,by omega⟩,?_⟩;refine rowK elI_50 rfl rfl (by omega) ?_;intro wa3 hwa3;have sza3:=hwa3.size;have hoa3:=(ho4).new hwa3;push_cast -dsimp;refine appendK2 (base:=w.heap.size) [(x.2+1)] (enc:=encZ) elI_50 hoa3 (by rfl) (fun j u hu=>by simpa[encZ] using hwa3.cell hu) encZ_one (by simp only[List.length_append,List.length_cons,List.length_nil];omega) (by omega) ?_;intro vb3 wb3 hob3 hgb3 _;have kk3:=Kept.grown hgb3 (fun _ h=>h);have hkb3:Below w.heap.size w wb3:=((hb4).trans (hwa3.below.mono (by omega))).trans (kk3.below (by omega) (fun j h=>(hoa3.block j h).1));push_cast -dsimp;exact⟨⟨by omega,by omega⟩,⟨j+1,_,rfl,rfl,by omega,fin _ _ [x.2+1] (by unfold turnsOf;rw[if_neg q1,if_pos q2];rfl) hob3,hkb3⟩,by rw[h22];simp only[intOf];omega⟩
      ·have e3:=dn _ q2;push_cast -dsimp[e3];exact⟨⟨by omega,by omega⟩,⟨j+1,_,rfl,rfl,by omega,fin _ _ [] (by unfold turnsOf;rw[if_neg q1,if_neg q2];rfl) (by rw[List.append_nil];exact ho4),hb4⟩,by rw[h22];simp only[intOf];omega⟩
    ·rw[List.take_of_length_le (by omega),←eT]at hoy;exact⟨⟨by omega,by omega⟩,⟨i+1,_,rfl,rfl,by omega,hoy,hby⟩,by rw[h16];simp only[intOf];omega⟩
  ·rw[List.take_of_length_le (by omega)]at hox;have hts:=turns_sorted (flatR Ls);have htl:=turns_len (flatR Ls);have hgA:∃A,(turns (flatR Ls)).mergeSort (fun a b=>decide (a≤b))=A:=⟨_,rfl⟩;obtain⟨A,hA⟩:=hgA;refine callK_of (sortInts_c (turns (flatR Ls)) (fun h=>by have:=congrArg List.length h;unfold turns at this;simp at this) (by omega) _ _ wx hox) ?_;rintro r2 w2 ⟨hoA,hk2⟩;have sz2:=hk2.size;rw[hA]at hoA hts;have hAl:=hts.1.length_eq;have hb2:Below w.heap.size w w2:=hbx.trans (hk2.below szx (fun j h=>(hox.block j h).1));have hT:toldP g (flatR Ls)=toldGo g [] A:=by unfold toldP;rw[hA]
   have hsh:=hoA.slice;obtain⟨va,vc,rfl⟩:=hsh;have hfst:=told_first (g:=g) hts.1 hts.2;have hA2:2≤A.length:=by rw[hAl];unfold turns;rw[List.length_append];simp
   have hsA:=hoA.sl;push_cast -dsimp;refine wpL_loop [10,11,12,47,48,49,50,51,52,53,54,55,56,57,58,59,60,61,62,63,64,65,66,67,68,69,70,71,72,73,74,75,76,77,78,79,80,81,82,83,84,85,86,87,88,89,90,91,92,93,94,95,96,97,98,99,100,101,102,103,104,105,106,107,108,109,110,111,112,113,114,115] (fun y wy=>∃(k:Nat) (ov:Value) (out:List Rg) (a:Int),y 11=.int .i64 k∧y 10=ov∧A[k]?=some a∧ToldI g out a∧toldGo g out (A.drop k)=toldP g (flatR Ls)∧out.length≤k∧Vc.Own w2.heap.size 104 2 encR wy ov out∧Below w2.heap.size w2 wy) (fun y _=>A.length-(intOf (y 11)).toNat) ?_ ?_
   ·obtain⟨a0,ha0,hI0⟩:=hfst;exact⟨0,_,[],a0,rfl,rfl,ha0,hI0,hT.symm,Nat.le_refl _,Vc.Own.nil (enc:=encR) _ _ (fun _=>rfl) _,Below.refl _ _⟩
   ·intro y wy hJ;obtain⟨k,ov,out,a,h11,h10,ha,hIa,hgo,hol,hoy,hby⟩:=hJ;have szy:=hby.size;have hka:=(List.getElem?_eq_some_iff.1 ha).1;push_cast -dsimp[h11,h10];refine⟨⟨by omega,by omega⟩,fun hlt=>?_,fun hge=>?_⟩
    ·have hgb:=lt_get (l:=A) (i:=k+1) (by omega);obtain⟨b,hb,_⟩:=hgb;have hnx:=told_next hts.1 hts.2 hg ha hb hIa;obtain⟨hIb,h0a,hab,hbm⟩:=hnx;have hst:=toldGo_step (g:=g) (out:=out) ha hb;have hsl:=stepRg_len g out a b;have ek:((k:Int)+1).toNat=k+1:=by omega
     have hsy:=hsA.below hby;have hget:=hsy.get ha;obtain⟨ab,ao,rfl,hnab,hca⟩:=hget;have hget:=hsy.get hb;obtain⟨_,_,hee,_,hcb⟩:=hget;cases hee;have ca:wy.drew.cell? ⟨ab,ao+k,none⟩=some (.int .i64 a):=by have:=hca 0 _ rfl;simpa using this
     have cb:wy.drew.cell? ⟨ab,ao+(k+1),none⟩=some (.int .i64 b):=by have:=hcb 0 _ rfl;simpa using this
     have lab:=World.block_lt_of_cell? _ _ ca;refine wpL_draw (fun w'=>Below w2.heap.size w2 w') mixed (by kernel_rfl) hby.drew ?_;have La:∀w'':World,Below w2.heap.size w2 w''→w''.cell? ⟨ab,ao+k,none⟩=some (.int .i64 a):=fun w'' h=>by
      have h':=(hsA.below h).get ha;obtain⟨_,_,hee,_,hcc⟩:=h';cases hee
      have:=hcc 0 _ rfl;simpa using this
     have Lb:∀w'':World,Below w2.heap.size w2 w''→w''.cell? ⟨ab,ao+(k+1),none⟩=some (.int .i64 b):=fun w'' h=>by
      have h':=(hsA.below h).get hb;obtain⟨_,_,hee,_,hcc⟩:=h';cases hee
      have:=hcc 0 _ rfl;simpa using this
     have La':∀w'':World,Below w2.heap.size w2 w''→optK (w''.cell? ⟨ab,ao+k,none⟩) (fun x=>x=.int .i64 a) .mk:=fun w'' h=>by rw[La w'' h];exact rfl
     have Lb':∀w'':World,Below w2.heap.size w2 w''→optK (w''.cell? ⟨ab,ao+(k+1),none⟩) (fun x=>x=.int .i64 b) .mk:=fun w'' h=>by rw[Lb w'' h];exact rfl
     push_cast -dsimp[ca,cb,ek];refine⟨⟨by omega,by omega⟩,La',⟨by omega,by omega⟩,⟨by omega,by omega⟩,Lb',fun hne=>⟨⟨by omega,by omega⟩,La',?_⟩,fun heq=>⟨⟨by omega,by omega⟩,?_,by rw[h11];simp only[intOf];omega⟩⟩
     ·refine callK_of (hF a wy.drew (hb2.trans (hby.mono hb2.size).drew)) ?_;rintro _ w3 ⟨rfl,hb3⟩;have sz3:=hb3.size;have hoyd:=hoy.keptX (Kept.refl (fun _=>False) wy).drew (fun _ _ h=>h);have hoy3:=hoyd.below hb3;have hby3:Below w2.heap.size w2 w3:=hby.drew.trans (hb3.mono szy);refine⟨hby3,?_⟩;cases hga:g a with
      | false =>
       have hso:stepRg g out a b=out:=by unfold stepRg;rw[if_pos (.inr hga)]
       rw[hso]at hIb hst;push_cast -dsimp;exact⟨⟨by omega,by omega⟩,⟨k+1,_,out,b,rfl,rfl,hb,hIb,hst.symm.trans hgo,by omega,hoy3,hby3⟩,by rw[h11];simp only[intOf];omega⟩
      | true =>
       have hso:stepRg g out a b=joinRg out a b:=by unfold stepRg;rw[if_neg (by rintro(h|h);exact hne h;rw[hga]at h;cases h)]
       rw[hso]at hIb hst hsl;have hsh:=hoy3.slice;obtain⟨oa,oc,rfl⟩:=hsh;have ca3:=La _ hby3;have cb3:=Lb _ hby3;push_cast -dsimp;cases hn:out.length with
       | zero =>
        have hnil:out=[]:=List.eq_nil_of_length_eq_zero hn;subst hnil;refine wpL_draw (fun w'=>w'=w3.drew) mixed (by kernel_rfl) rfl ?_;push_cast -dsimp;have hC0:=hby3.drew;have hC1:=hC0.drew;have fa:=La _ hC1;have fb:=Lb _ hC1;have ho6:=(hoy3.keptX (Kept.refl (fun _=>False) _).drew (fun _ _ h=>h));have ho6':=ho6.keptX (Kept.refl (fun _=>False) _).drew (fun _ _ h=>h);refine wpL_draw (fun w'=>Below w2.heap.size w2 w') mixed (by kernel_rfl) hC1 ?_;push_cast -dsimp[fa,fb,ek];refine⟨⟨by omega,by omega⟩,La',⟨by omega,by omega⟩,⟨by omega,by omega⟩,Lb',⟨by omega,by omega⟩,?_⟩;refine rowK elI_44 rfl rfl (by omega) ?_;intro w7 hw7;have sz7:=hw7.size;have hC7:=hC1.trans (hw7.below.mono hC1.size);have ho7:=ho6'.new hw7;refine⟨hC7,?_⟩;push_cast -dsimp;refine appendK2 (base:=w2.heap.size) [(a,b-1)] (enc:=encR) elI_44 ho7 (by rfl) (fun j u hu=>by simpa[encR] using hw7.cell hu) encR_one (by simp only[List.length_cons,List.length_nil];omega) hC7.size ?_;intro v8 w8 ho8 hg8 _;have k8:=Kept.grown hg8 (fun _ h=>h);have hC8:=hC7.trans (k8.below hC7.size (fun j h=>(ho7.block j h).1));refine⟨hC8,?_⟩;push_cast -dsimp;exact⟨⟨by omega,by omega⟩,⟨k+1,_,_,b,rfl,rfl,hb,hIb,hst.symm.trans hgo,Nat.le_trans hsl (by simp),ho8,hC8⟩,by rw[h11];simp only[intOf];omega⟩
       | succ n =>
        have e6:((n:Nat):Int)+1-1=((n:Nat):Int):=by omega
        have hq:=List.getElem?_eq_getElem (l:=out) (i:=n) (by omega);have hgq:∃q,out[n]'(by omega)=q:=⟨_,rfl⟩;obtain⟨q,hqe⟩:=hgq;rw[hqe]at hq;have hlast:out.getLast?=some q:=by rw[List.getLast?_eq_getElem?,hn];exact hq
        have hqr:=setRight_sorted out (-2) hIa.right n q hq;have hg:=hoy3.sl.get hq;obtain⟨gb,o',rfl,_,hcq⟩:=hg;have ho0:o'=0:=Vc.Own.at0R hoy3;subst ho0;have c2:w3.drew.cell? ⟨gb,n*2+1,none⟩=some (.int .i64 q.2):=by have:=hcq 1 _ rfl;simpa using this
        have L:∀{ad:Addr} {u:Value},w3.drew.cell? ad=some u→∀w'':World,w''=w3.drew→optK (w''.cell? ad) (fun x=>x=u) .mk:=fun h w'' e=>by rw[e,h];exact rfl
        have ca4:w3.drew.cell? ⟨ab,ao+k,none⟩=some (.int .i64 a):=ca3;refine wpL_draw (fun w'=>w'=w3.drew) mixed (by kernel_rfl) rfl ?_;have cb4:w3.drew.cell? ⟨ab,ao+(k+1),none⟩=some (.int .i64 b):=cb3;push_cast -dsimp[e6,c2,ca4,cb4,ek];rw[hn]at hoy3;refine⟨fun _=>⟨⟨by omega,by omega⟩,⟨by omega,by omega⟩,L c2,⟨by omega,by omega⟩,⟨by omega,by omega⟩,L ca4,fun hm=>?_,fun hm=>?_⟩,fun h=>absurd h (by omega)⟩
        ·have hst2:joinRg out a b=out.set n (q.1,b-1):=by
          unfold joinRg;rw[hlast];dsimp only;rw[if_pos hm,List.dropLast_eq_take,hn,List.set_eq_take_append_cons_drop,if_pos (by omega),List.drop_eq_nil_of_le (by omega)];rfl
         rw[hst2]at hIb hst hsl;refine⟨⟨by omega,by omega⟩,⟨by omega,by omega⟩,⟨by omega,by omega⟩,⟨by omega,by omega⟩,⟨by omega,by omega⟩,?_⟩;have hod:=hoy3.keptX (Kept.refl (fun _=>False) _).drew (fun _ _ h=>h);refine storeOwnF (i:=n) (f:=1) (y:=(q.1,b-1)) hod rfl hq (by omega) rfl rfl ?_;intro w8 ho8 hk8 sz8;have hgb':=(hod.block gb rfl).1;have hC8:=hby3.drew.trans (hk8.below hby3.drew.size (fun j h=>by omega));push_cast -dsimp;exact⟨⟨by omega,by omega⟩,⟨k+1,_,_,b,rfl,rfl,hb,hIb,hst.symm.trans hgo,by omega,ho8,hC8⟩,by rw[h11];simp only[intOf];omega⟩
        ·have hst2:joinRg out a b=out++[(a,b-1)]:=by
          unfold joinRg;rw[hlast];dsimp only;rw[if_neg hm]
         have hC0:=hby3.drew;have hC1:=hC0.drew;have fa:=La _ hC1;have fb:=Lb _ hC1;have ho6:=(hoy3.keptX (Kept.refl (fun _=>False) _).drew (fun _ _ h=>h));have ho6':=ho6.keptX (Kept.refl (fun _=>False) _).drew (fun _ _ h=>h);refine wpL_draw (fun w'=>Below w2.heap.size w2 w') mixed (by kernel_rfl) hC1 ?_;push_cast -dsimp[fa,fb,ek];refine⟨⟨by omega,by omega⟩,La',⟨by omega,by omega⟩,⟨by omega,by omega⟩,Lb',⟨by omega,by omega⟩,?_⟩;refine rowK elI_44 rfl rfl (by omega) ?_;intro w7 hw7;have sz7:=hw7.size;have hC7:=hC1.trans (hw7.below.mono hC1.size);have ho7:=ho6'.new hw7;refine⟨hC7,?_⟩;push_cast -dsimp;refine appendK2 (base:=w2.heap.size) [(a,b-1)] (enc:=encR) elI_44 ho7 (by rfl) (fun j u hu=>by simpa[encR] using hw7.cell hu) encR_one (by simp only[List.length_cons,List.length_nil];omega) hC7.size ?_;intro v8 w8 ho8 hg8 _;have k8:=Kept.grown hg8 (fun _ h=>h);have hC8:=hC7.trans (k8.below hC7.size (fun j h=>(ho7.block j h).1));refine⟨hC8,?_⟩;push_cast -dsimp;exact⟨⟨by omega,by omega⟩,⟨k+1,_,_,b,rfl,rfl,hb,(hst2▸hIb),(by rw[←hst2];exact hst.symm.trans hgo),(by rw[←hst2];omega),ho8,hC8⟩,by rw[h11];simp only[intOf];omega⟩
     ·have hso:stepRg g out a b=out:=by unfold stepRg;rw[if_pos (.inl heq)]
      rw[hso]at hIb hst;exact⟨k+1,_,out,b,rfl,rfl,hb,hIb,hst.symm.trans hgo,by omega,hoy.keptX (Kept.refl (fun _=>False) _).drew (fun _ _ h=>h),hby.drew⟩
    ·rw[toldGo_end (by omega)]at hgo;rw[hgo]at hoy;exact⟨hoy.mono (by omega),hb2.trans (hby.mono (by omega))⟩
theorem rOrF_c (s t:List Rg)(hs:s.length<1000000)(ht:t.length<1000000)(X:Nat→Prop)(va vb:Value)(pa pb:Nat)(p:Int)(w:World)(hva:Sl X 2 (En encR) w va s)(hvb:Sl X 2 (En encR) w vb t)(ca:w.cell? ⟨pa,0,none⟩=some va)(cb:w.cell? ⟨pb,0,none⟩=some vb) :
  Fun Tryz.prog 97 [.int .i64 p,.pointer (some ⟨pa,0,none⟩),.pointer (some ⟨pb,0,none⟩)] w fun r w'=>r=.bool ((fun p=>hasP s p || hasP t p) p)∧Below w.heap.size w w':=by
 refine fun_of_vc Tryz.func97 rfl (by kernel_rfl) [4] rfl ?_;push_cast -dsimp(maxSteps:=4000000) [Tryz.ntmps97];push_cast -dsimp[ca];refine callK_of (hasR_c s p (by omega) X va w hva) ?_;rintro _ w1 ⟨rfl,hb1⟩;have cb1:w1.cell? ⟨pb,0,none⟩=some vb:=(hb1.cell (World.block_lt_of_cell? w _ cb)).trans cb;have hz:=hb1.size;cases hh:hasP s p<;>push_cast -dsimp[cb1]<;>first|exact⟨by simp[hh],hb1⟩|(refine callK_of (hasR_c t p (by omega) X vb w1 (hvb.below hb1)) ?_;rintro _ w2 ⟨rfl,hb2⟩;push_cast -dsimp;exact⟨by simp[hh],hb1.trans (hb2.mono hz)⟩)
theorem rOr_c (s t:List Rg)(hs:s.length<600000)(ht:t.length<600000)(hrs:setRight (-2) s=true)(hrt:setRight (-2) t=true)(X:Nat→Prop)(va vb:Value)(w:World)(hva:Sl X 2 (En encR) w va s)(hvb:Sl X 2 (En encR) w vb t) :
  Fun Tryz.prog 64 [va,vb] w fun r w'=>Vc.Own w.heap.size 104 2 encR w' r (setOr s t)∧Below w.heap.size w w':=by
 have e1:=hva.shape;obtain⟨a1,c1,e1,_⟩:=e1;have e2:=hvb.shape;obtain⟨a2,c2,e2,_⟩:=e2;refine fun_of_vc Tryz.func64 rfl (by kernel_rfl) [4] rfl ?_;push_cast -dsimp(maxSteps:=4000000) [Tryz.ntmps64];refine boxK_of ?_;intro w1 hw1;have sz1:=hw1.size;have d1:=hw1.cell (j:=0) (u:=va) (by rw[e1];rfl);push_cast -dsimp;refine boxK_of ?_;intro w2 hw2;have sz2:=hw2.size;have d2:=hw2.cell (j:=0) (u:=vb) (by rw[e2];rfl);have d1':w2.cell? ⟨w.heap.size,0,none⟩=some va:=(hw2.below.cell (by rw[sz1];exact Nat.lt_succ_self _)).trans d1;have b2:Below w.heap.size w w2:=hw1.below.trans (hw2.below.mono (by omega));push_cast -dsimp[d1',d2];refine rowK elI_187 (by rw[e1,e2];rfl) rfl (by omega) ?_;intro w3 hw3;have sz3:=hw3.size;have b3:Below w.heap.size w w3:=b2.trans (hw3.below.mono (by omega));have c0:=hw3.cell (j:=0) (u:=va) (by rw[e1,e2];rfl);have c1':=hw3.cell (j:=1) (u:=vb) (by rw[e1,e2];rfl);have f1:w3.cell? ⟨w.heap.size,0,none⟩=some va:=(hw3.below.cell (by show w.heap.size<_;omega)).trans d1'
 have f2:w3.cell? ⟨w1.heap.size,0,none⟩=some vb:=(hw3.below.cell (by show w1.heap.size<_;omega)).trans d2
 push_cast -dsimp;refine callK_of (told_c (fun p=>hasP s p || hasP t p) _ [.pointer (some ⟨w.heap.size,0,none⟩),.pointer (some ⟨w1.heap.size,0,none⟩)] [(va,s),(vb,t)] (by simp[flatR];omega) (by simp) X w2.heap.size 2 (by simp) w3 ?_ ?_ ?_) ?_
 ·intro i p hp;match i,hp with
  | 0,hp=>cases hp;exact⟨c0,hva.below b3⟩
  | 1,hp=>cases hp;exact⟨c1',hvb.below b3⟩
  | n+2,hp=>cases hp
 ·intro p q hr;simp only;rw[asks_has s (fun r h=>by simp[flatR,h]) p q hr,asks_has t (fun r h=>by simp[flatR,h]) p q hr]
 ·intro p w' hb';exact rOrF_c s t (by omega) (by omega) X va vb _ _ p w' ((hva.below b3).below hb') ((hvb.below b3).below hb') ((hb'.cell (by show w.heap.size<_;omega)).trans f1) ((hb'.cell (by show w1.heap.size<_;omega)).trans f2)
 rintro r w4 ⟨ho,hb4⟩;have e:flatR [(va,s),(vb,t)]=s++t:=by simp[flatR]
 rw[e,told_or hrs hrt]at ho;push_cast -dsimp;exact⟨ho.mono (by omega),b3.trans (hb4.mono (by omega))⟩
theorem rAndF_c (s t:List Rg)(hs:s.length<1000000)(ht:t.length<1000000)(X:Nat→Prop)(va vb:Value)(pa pb:Nat)(p:Int)(w:World)(hva:Sl X 2 (En encR) w va s)(hvb:Sl X 2 (En encR) w vb t)(ca:w.cell? ⟨pa,0,none⟩=some va)(cb:w.cell? ⟨pb,0,none⟩=some vb) :
  Fun Tryz.prog 98 [.int .i64 p,.pointer (some ⟨pa,0,none⟩),.pointer (some ⟨pb,0,none⟩)] w fun r w'=>r=.bool ((fun p=>hasP s p && hasP t p) p)∧Below w.heap.size w w':=by
 refine fun_of_vc Tryz.func98 rfl (by kernel_rfl) [4] rfl ?_;push_cast -dsimp(maxSteps:=4000000) [Tryz.ntmps98];push_cast -dsimp[ca];refine callK_of (hasR_c s p (by omega) X va w hva) ?_;rintro _ w1 ⟨rfl,hb1⟩;have cb1:w1.cell? ⟨pb,0,none⟩=some vb:=(hb1.cell (World.block_lt_of_cell? w _ cb)).trans cb;have hz:=hb1.size;cases hh:hasP s p<;>push_cast -dsimp[cb1]<;>first|exact⟨by simp[hh],hb1⟩|(refine callK_of (hasR_c t p (by omega) X vb w1 (hvb.below hb1)) ?_;rintro _ w2 ⟨rfl,hb2⟩;push_cast -dsimp;exact⟨by simp[hh],hb1.trans (hb2.mono hz)⟩)
theorem rAnd_c (s t:List Rg)(hs:s.length<600000)(ht:t.length<600000)(hrs:setRight (-2) s=true)(hrt:setRight (-2) t=true)(X:Nat→Prop)(va vb:Value)(w:World)(hva:Sl X 2 (En encR) w va s)(hvb:Sl X 2 (En encR) w vb t) :
  Fun Tryz.prog 65 [va,vb] w fun r w'=>Vc.Own w.heap.size 104 2 encR w' r (setAnd s t)∧Below w.heap.size w w':=by
 have e1:=hva.shape;obtain⟨a1,c1,e1,_⟩:=e1;have e2:=hvb.shape;obtain⟨a2,c2,e2,_⟩:=e2;refine fun_of_vc Tryz.func65 rfl (by kernel_rfl) [4] rfl ?_;push_cast -dsimp(maxSteps:=4000000) [Tryz.ntmps65];refine boxK_of ?_;intro w1 hw1;have sz1:=hw1.size;have d1:=hw1.cell (j:=0) (u:=va) (by rw[e1];rfl);push_cast -dsimp;refine boxK_of ?_;intro w2 hw2;have sz2:=hw2.size;have d2:=hw2.cell (j:=0) (u:=vb) (by rw[e2];rfl);have d1':w2.cell? ⟨w.heap.size,0,none⟩=some va:=(hw2.below.cell (by rw[sz1];exact Nat.lt_succ_self _)).trans d1;have b2:Below w.heap.size w w2:=hw1.below.trans (hw2.below.mono (by omega));push_cast -dsimp[d1',d2];refine rowK elI_187 (by rw[e1,e2];rfl) rfl (by omega) ?_;intro w3 hw3;have sz3:=hw3.size;have b3:Below w.heap.size w w3:=b2.trans (hw3.below.mono (by omega));have c0:=hw3.cell (j:=0) (u:=va) (by rw[e1,e2];rfl);have c1':=hw3.cell (j:=1) (u:=vb) (by rw[e1,e2];rfl);have f1:w3.cell? ⟨w.heap.size,0,none⟩=some va:=(hw3.below.cell (by show w.heap.size<_;omega)).trans d1'
 have f2:w3.cell? ⟨w1.heap.size,0,none⟩=some vb:=(hw3.below.cell (by show w1.heap.size<_;omega)).trans d2
 push_cast -dsimp;refine callK_of (told_c (fun p=>hasP s p && hasP t p) _ [.pointer (some ⟨w.heap.size,0,none⟩),.pointer (some ⟨w1.heap.size,0,none⟩)] [(va,s),(vb,t)] (by simp[flatR];omega) (by simp) X w2.heap.size 2 (by simp) w3 ?_ ?_ ?_) ?_
 ·intro i p hp;match i,hp with
  | 0,hp=>cases hp;exact⟨c0,hva.below b3⟩
  | 1,hp=>cases hp;exact⟨c1',hvb.below b3⟩
  | n+2,hp=>cases hp
 ·intro p q hr;simp only;rw[asks_has s (fun r h=>by simp[flatR,h]) p q hr,asks_has t (fun r h=>by simp[flatR,h]) p q hr]
 ·intro p w' hb';exact rAndF_c s t (by omega) (by omega) X va vb _ _ p w' ((hva.below b3).below hb') ((hvb.below b3).below hb') ((hb'.cell (by show w.heap.size<_;omega)).trans f1) ((hb'.cell (by show w1.heap.size<_;omega)).trans f2)
 rintro r w4 ⟨ho,hb4⟩;have e:flatR [(va,s),(vb,t)]=s++t:=by simp[flatR]
 rw[e,told_and hrs hrt]at ho;push_cast -dsimp;exact⟨ho.mono (by omega),b3.trans (hb4.mono (by omega))⟩
theorem rLessF_c (s t:List Rg)(hs:s.length<1000000)(ht:t.length<1000000)(X:Nat→Prop)(va vb:Value)(pa pb:Nat)(p:Int)(w:World)(hva:Sl X 2 (En encR) w va s)(hvb:Sl X 2 (En encR) w vb t)(ca:w.cell? ⟨pa,0,none⟩=some va)(cb:w.cell? ⟨pb,0,none⟩=some vb) :
  Fun Tryz.prog 99 [.int .i64 p,.pointer (some ⟨pa,0,none⟩),.pointer (some ⟨pb,0,none⟩)] w fun r w'=>r=.bool ((fun p=>hasP s p && !hasP t p) p)∧Below w.heap.size w w':=by
 refine fun_of_vc Tryz.func99 rfl (by kernel_rfl) [4] rfl ?_;push_cast -dsimp(maxSteps:=4000000) [Tryz.ntmps99];push_cast -dsimp[ca];refine callK_of (hasR_c s p (by omega) X va w hva) ?_;rintro _ w1 ⟨rfl,hb1⟩;have cb1:w1.cell? ⟨pb,0,none⟩=some vb:=(hb1.cell (World.block_lt_of_cell? w _ cb)).trans cb;have hz:=hb1.size;cases hh:hasP s p<;>push_cast -dsimp[cb1]<;>first|exact⟨by simp[hh],hb1⟩|(refine callK_of (hasR_c t p (by omega) X vb w1 (hvb.below hb1)) ?_;rintro _ w2 ⟨rfl,hb2⟩;push_cast -dsimp;exact⟨by simp[hh],hb1.trans (hb2.mono hz)⟩)
theorem rLess_c (s t:List Rg)(hs:s.length<600000)(ht:t.length<600000)(hrs:setRight (-2) s=true)(hrt:setRight (-2) t=true)(X:Nat→Prop)(va vb:Value)(w:World)(hva:Sl X 2 (En encR) w va s)(hvb:Sl X 2 (En encR) w vb t) :
  Fun Tryz.prog 66 [va,vb] w fun r w'=>Vc.Own w.heap.size 104 2 encR w' r (setLess s t)∧Below w.heap.size w w':=by
 have e1:=hva.shape;obtain⟨a1,c1,e1,_⟩:=e1;have e2:=hvb.shape;obtain⟨a2,c2,e2,_⟩:=e2;refine fun_of_vc Tryz.func66 rfl (by kernel_rfl) [4] rfl ?_;push_cast -dsimp(maxSteps:=4000000) [Tryz.ntmps66];refine boxK_of ?_;intro w1 hw1;have sz1:=hw1.size;have d1:=hw1.cell (j:=0) (u:=va) (by rw[e1];rfl);push_cast -dsimp;refine boxK_of ?_;intro w2 hw2;have sz2:=hw2.size;have d2:=hw2.cell (j:=0) (u:=vb) (by rw[e2];rfl);have d1':w2.cell? ⟨w.heap.size,0,none⟩=some va:=(hw2.below.cell (by rw[sz1];exact Nat.lt_succ_self _)).trans d1;have b2:Below w.heap.size w w2:=hw1.below.trans (hw2.below.mono (by omega));push_cast -dsimp[d1',d2];refine rowK elI_187 (by rw[e1,e2];rfl) rfl (by omega) ?_;intro w3 hw3;have sz3:=hw3.size;have b3:Below w.heap.size w w3:=b2.trans (hw3.below.mono (by omega));have c0:=hw3.cell (j:=0) (u:=va) (by rw[e1,e2];rfl);have c1':=hw3.cell (j:=1) (u:=vb) (by rw[e1,e2];rfl);have f1:w3.cell? ⟨w.heap.size,0,none⟩=some va:=(hw3.below.cell (by show w.heap.size<_;omega)).trans d1'
 have f2:w3.cell? ⟨w1.heap.size,0,none⟩=some vb:=(hw3.below.cell (by show w1.heap.size<_;omega)).trans d2
 push_cast -dsimp;refine callK_of (told_c (fun p=>hasP s p && !hasP t p) _ [.pointer (some ⟨w.heap.size,0,none⟩),.pointer (some ⟨w1.heap.size,0,none⟩)] [(va,s),(vb,t)] (by simp[flatR];omega) (by simp) X w2.heap.size 2 (by simp) w3 ?_ ?_ ?_) ?_
 ·intro i p hp;match i,hp with
  | 0,hp=>cases hp;exact⟨c0,hva.below b3⟩
  | 1,hp=>cases hp;exact⟨c1',hvb.below b3⟩
  | n+2,hp=>cases hp
 ·intro p q hr;simp only;rw[asks_has s (fun r h=>by simp[flatR,h]) p q hr,asks_has t (fun r h=>by simp[flatR,h]) p q hr]
 ·intro p w' hb';exact rLessF_c s t (by omega) (by omega) X va vb _ _ p w' ((hva.below b3).below hb') ((hvb.below b3).below hb') ((hb'.cell (by show w.heap.size<_;omega)).trans f1) ((hb'.cell (by show w1.heap.size<_;omega)).trans f2)
 rintro r w4 ⟨ho,hb4⟩;have e:flatR [(va,s),(vb,t)]=s++t:=by simp[flatR]
 rw[e,told_less hrs hrt]at ho;push_cast -dsimp;exact⟨ho.mono (by omega),b3.trans (hb4.mono (by omega))⟩
theorem rNotF_c (s:List Rg)(hs:s.length<1000000)(X:Nat→Prop)(va:Value)(pa:Nat)(p:Int)(w:World)(hva:Sl X 2 (En encR) w va s)(ca:w.cell? ⟨pa,0,none⟩=some va) :
  Fun Tryz.prog 96 [.int .i64 p,.pointer (some ⟨pa,0,none⟩)] w fun r w'=>r=.bool ((fun p=>!hasP s p) p)∧Below w.heap.size w w':=by
 refine fun_of_vc Tryz.func96 rfl (by kernel_rfl) [3] rfl ?_;push_cast -dsimp(maxSteps:=4000000) [Tryz.ntmps96];push_cast -dsimp[ca];refine callK_of (hasR_c s p (by omega) X va w hva) ?_;rintro _ w1 ⟨rfl,hb1⟩;push_cast -dsimp;exact hb1
theorem rNot_c (s:List Rg)(hs:s.length<600000)(hrs:setRight (-2) s=true)(X:Nat→Prop)(va:Value)(w:World)(hva:Sl X 2 (En encR) w va s) :
  Fun Tryz.prog 63 [va] w fun r w'=>Vc.Own w.heap.size 104 2 encR w' r (setNot s)∧Below w.heap.size w w':=by
 have e1:=hva.shape;obtain⟨a1,c1,e1,_⟩:=e1;refine fun_of_vc Tryz.func63 rfl (by kernel_rfl) [2] rfl ?_;push_cast -dsimp(maxSteps:=4000000) [Tryz.ntmps63];refine boxK_of ?_;intro w1 hw1;have sz1:=hw1.size;have d1:=hw1.cell (j:=0) (u:=va) (by rw[e1];rfl);push_cast -dsimp[d1];refine rowK elI_187 (by rw[e1];rfl) rfl (by omega) ?_;intro w3 hw3;have sz3:=hw3.size;have b3:Below w.heap.size w w3:=hw1.below.trans (hw3.below.mono (by omega));have c0:=hw3.cell (j:=0) (u:=va) (by rw[e1];rfl);have f1:w3.cell? ⟨w.heap.size,0,none⟩=some va:=(hw3.below.cell (by show w.heap.size<_;omega)).trans d1
 push_cast -dsimp;refine callK_of (told_c (fun p=>!hasP s p) _ [.pointer (some ⟨w.heap.size,0,none⟩)] [(va,s)] (by simp[flatR];omega) (by simp) X w1.heap.size 1 (by simp) w3 ?_ ?_ ?_) ?_
 ·intro i p hp;match i,hp with
  | 0,hp=>cases hp;exact⟨c0,hva.below b3⟩
  | n+1,hp=>cases hp
 ·intro p q hr;simp only;rw[asks_has s (fun r h=>by simp[flatR,h]) p q hr]
 ·intro p w' hb';exact rNotF_c s (by omega) X va _ p w' ((hva.below b3).below hb') ((hb'.cell (by show w.heap.size<_;omega)).trans f1)
 rintro r w4 ⟨ho,hb4⟩;have e:flatR [(va,s)]=s:=by simp[flatR]
 rw[e,told_not hrs]at ho;push_cast -dsimp;exact⟨ho.mono (by omega),b3.trans (hb4.mono (by omega))⟩
end Go.Proofs.YtodeeahdhnjpkaaGreatDoor
end
section
namespace Go.Vc
section
variable {P:Program}
def cutQ (id:Nat)(Q:EP)(M:List Nat)(t:Fr)(J:(Nat→Value)→World→Prop)(_:Ph (Q,t,J)):EP
 | .exit i,t',w'=>i=id∧t'=ov t M (at_ t')∧J (at_ t') w'
 | .panic c,t',w'=>Q (.panic c) t' w'
 | _,_,_=>False
theorem wpL_cutB {c:Code}{id:Nat}{t:Fr}{w:World}{Q:EP}{p q}(M:List Nat)(J:(Nat→Value)→World→Prop)(h1:wpL P c (cutQ id Q M t J .mk) t w .mk)
  (h2:∀z w',J z w'→Q .normal (ov t M z) w'):wpL P c (blockQ id Q p) t w q:=by
 refine wpL_mono ?_ h1;intro e t' w' h;cases e<;>simp only[cutQ]at h
 case exit i =>
  obtain⟨rfl,ht,hJ⟩:=h;rw[blockQ_same,ht];exact h2 _ _ hJ
 case panic c=>exact h
theorem cutQ_exit {id:Nat}{Q:EP}{M:List Nat}{t t':Fr}{w':World}{J:(Nat→Value)→World→Prop}(p):cutQ id Q M t J p (.exit id) t' w'=(t'=ov t M (at_ t')∧J (at_ t') w'):=by simp[cutQ]
theorem cutQ_panic {id:Nat}{Q:EP}{M:List Nat}{t t':Fr}{w':World}{J:(Nat→Value)→World→Prop}(c)(p):cutQ id Q M t J p (.panic c) t' w'=Q (.panic c) t' w':=(rfl)
attribute [push_cast] cutQ_exit cutQ_panic
end
end Go.Vc
end
section
namespace Go.Vc
open Go.RowKit
section
variable {P:Program} {t:Fr} {w:World} {Q:EP}
theorem wpL_of {c:Code}{p}(h:vc P c Q t w .mk):wpL P c Q t w p:=vc_ok c Q t w h
theorem wpL_seqW {a b:Code}{p}(h:wpL P a (seqQ (fun t w=>wpL P b Q t w .mk) Q .mk) t w .mk):wpL P (.seq a b) Q t w p:=by
 unfold wpL at h ⊢
 refine wp_seq (Code.wp_mono ?_ h);rintro e a' w' ⟨hd,hh⟩;cases e<;>simp only[seqQ]at hh<;>simp only[Exit.then]<;>first|exact⟨hd,hh⟩|skip
 rw[act_eq hd];exact hh
theorem wpL_seqV {a b:Code}{p}(h:vc P a (seqQ (fun t w=>wpL P b Q t w .mk) Q .mk) t w .mk):wpL P (.seq a b) Q t w p:=wpL_seqW (vc_ok _ _ _ _ h)
theorem wpL_seqC {a b:Code}{p}(M:List Nat)(J:(Nat→Value)→World→Prop)(h1:vc P a (fun e t' w'=>e=.normal∧t'=ov t M (at_ t')∧J (at_ t') w') t w .mk)
  (h2:∀z w',J z w'→wpL P b Q (ov t M z) w' .mk):wpL P (.seq a b) Q t w p:=by
 refine wpL_seqW (wpL_mono ?_ (vc_ok _ _ _ _ h1));rintro e t' w' ⟨rfl,ht,hJ⟩
 show wpL P b Q t' w' .mk
 rw[ht];exact h2 _ _ hJ
theorem wpL_blockW {i:Nat}{c:Code}{p}(h:wpL P c (blockQ i Q .mk) t w .mk):wpL P (.block i c) Q t w p:=by
 unfold wpL at h ⊢
 refine wp_block (Code.wp_mono ?_ h);rintro e a' w' ⟨hd,hh⟩;cases e<;>simp only[blockQ]at hh<;>simp only[Exit.inBlock]<;>first|exact⟨hd,hh⟩|skip
 split at hh
 ·rename_i e;simp only[e,if_true];exact⟨hd,hh⟩
 ·rename_i e;simp only[e,if_false];exact⟨hd,hh⟩
theorem wpL_loopW {c:Code}{p}(M:List Nat)(I:(Nat→Value)→World→Prop)(μ:(Nat→Value)→World→Nat)(h0:I (at_ t) w)
  (hr:∀z w',I z w'→wpL P c (seqQ (fun t'' w''=>t''=ov t M (at_ t'')∧I (at_ t'') w''∧μ (at_ t'') w''<μ z w') Q .mk) (ov t M z) w' .mk):wpL P (.loop c) Q t w p:=by
 unfold wpL;refine wp_loop (fun a w'=>a.defers=[]∧a.tmps.toList=ov t M (at_ a.tmps.toList)∧I (at_ a.tmps.toList) w') (fun a w'=>μ (at_ a.tmps.toList) w') ⟨rfl,by simp[ov_at],by simpa using h0⟩ ?_;rintro a w' ⟨hd,ht,hI⟩;have h1:=hr _ w' hI;unfold wpL at h1;rw[←ht]at h1;rw[act_eq hd];refine Code.wp_mono ?_ h1;rintro e a' w'' ⟨hd',hh⟩;cases e<;>simp only[seqQ]at hh<;>simp only[Exit.then]<;>first|exact⟨hd',hh⟩|skip
 exact⟨⟨hd',hh.1,hh.2.1⟩,by simpa using hh.2.2⟩
theorem fun_of_wL {f:FuncId}{fn:Func}{c:Code}{args:List Value}{R:VK}(hf:P.funcs[f]?=some fn)(hb:fn.body=some c)(hn:(fn.name == "runtime.NumGoroutine")=false)
  (rs:List Tmp) (hrs:fn.results=(rs.map ResultVar.tmp).toArray) (h:wpL P c (retN rs R .mk) (fr0 args fn.ntmps) w .mk):Fun P f args w R:=by
 refine⟨callFunc_enter hf (by simp[hb]) hn,calls_of_wp hf hb ?_⟩;unfold wpL at h;have e:(args.toArray++Array.replicate (fn.ntmps-args.toArray.size) undef)=(fr0 args fn.ntmps).toArray:=by simp[fr0]
 rw[e];refine Code.wp_mono ?_ h;rintro e a w' ⟨hd,hh⟩;have ha:a.tmps.toList.toArray=a.tmps:=by simp
 cases e<;>simp only[retN]at hh<;>first|exact hh.elim|skip
 ·exact⟨hd,_,by rw[←ha];exact results_run fn rs hrs _,_,rfl,hh⟩
 ·exact⟨hd,_,by rw[←ha];exact results_run fn rs hrs _,_,rfl,hh⟩
theorem fun_of_wLC {f:FuncId}{fn:Func}{c:Code}{args:List Value}{R:VK}(hf:P.funcs[f]?=some fn)(hb:fn.body=some c)(hn:(fn.name == "runtime.NumGoroutine")=false)
  (rs:List ResultVar) (hrs:fn.results=rs.toArray) (h:wpL P c (retC P rs R .mk) (fr0 args fn.ntmps) w .mk):Fun P f args w R:=by
 refine⟨callFunc_enter hf (by simp[hb]) hn,calls_of_wp hf hb ?_⟩;unfold wpL at h;have e:(args.toArray++Array.replicate (fn.ntmps-args.toArray.size) undef)=(fr0 args fn.ntmps).toArray:=by simp[fr0]
 rw[e];refine Code.wp_mono ?_ h;rintro e a w' ⟨hd,hh⟩;have ha:a.tmps.toList.toArray=a.tmps:=by simp
 cases e<;>simp only[retC]at hh<;>first|exact hh.elim|skip
 ·obtain⟨vs,hv,hk⟩:=resultsC_run fn rs hrs _ _ hh;exact⟨hd,_,by rw[←ha];exact hv,_,rfl,hk⟩
 ·obtain⟨vs,hv,hk⟩:=resultsC_run fn rs hrs _ _ hh;exact⟨hd,_,by rw[←ha];exact hv,_,rfl,hk⟩
end
end Go.Vc
end
