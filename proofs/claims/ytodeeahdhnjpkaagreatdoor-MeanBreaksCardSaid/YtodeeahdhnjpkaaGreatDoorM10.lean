/- Texts of this claim, merged: PatN, Has, So1, Grow, Sort, So2, Not, Conc, Mn1, Isort, Rhas, Told, Rof, CtB, CtW. -/
import Derived.Test.YtodeeahdhnjpkaaGreatDoorM9
import Derived.Sort.Grow
import Derived.Shelf.Spec.SlicesGrow
import Derived.Shelf.SlSortCmp.WholeK
import Derived.Shelf.SlSortCmp.NoneTotal
import Derived.Sort.OwnSortedInts
import Derived.Shelf.Sort.Plain
set_option maxRecDepth 100000
set_option linter.unusedSimpArgs false
set_option linter.unusedVariables false
set_option maxHeartbeats 8000000
section
namespace Go.Proofs.YtodeeahdhnjpkaaGreatDoor
open Go.Vc Go.Proofs Go.RowKit Cae
attribute [local irreducible] cw ag aq a8 runK bD Sl Vc.Own vc aW cN ai
theorem aU.nth {X:Nat->Prop}{w:World}:∀{l:List aI} {vs:List Nat} {i:Nat} {x:aI},aU X w vs l->l[i]?=some x->∃u,vs[i]?=some u/\aV X w (bF u) x
 | [],_,i,x,_,hx=>by simp at hx
 | _::_,[],_,_,h,_=>by simp only[aU]at h
 | y::l,v::vs,0,x,h,hx=>by
  simp only[aU]at h;cases hx;exact⟨v,rfl,h.1⟩
 | y::l,v::vs,i+1,x,h,hx=>by
  simp only[aU]at h;exact aU.nth (i:=i) h.2 (by simpa using hx)
theorem fk:∀{l:List aI} {x:aI},gI l->x∈l->bQ x
 | y::l,x,h,hx=>by
  simp only[gI]at h;rcases List.mem_cons.1 hx with rfl|hx
  ·exact h.1
  exact fk h.2 hx
theorem gn.below {X:Nat->Prop}{w w':World}{v:Value}{f:dQ}(h:gn X w v f)(hb:Below w.heap.size w w'):gn X w' v f:=by
 obtain⟨cv,rv,cs,rs,rfl,S1,S2,A1,A2⟩:=h;exact⟨cv,rv,cs,rs,rfl,S1.below hb,S2.below hb,A1.imp λa c h=>⟨h.1,h.2.1,h.2.2.below hb⟩,A2.imp λa c h=>⟨h.1,h.2.1,h.2.2.1.below hb,h.2.2.2.below hb⟩⟩
theorem Fg (r:Rg)(p:Int)(w:World):bD Tryz.prog 132 [.agg #[.int .i64 r.1,.int .i64 r.2],.int .i64 p] w λv w'=>v=.int .i64 (if r.2<p then -1 else if p<r.1 then 1 else 0)/\Below w.heap.size w w':=by
 refine aE Tryz.func132 rfl (by kernel_rfl) [4] rfl ?_;push_cast -dsimp(maxSteps:=4000000) [Tryz.ntmps132];refine ah ?_;intro w1 au;have c0:w1.cell? ⟨w.heap.size,0,none⟩=some (.int .i64 r.1):=au.cell rfl;have c1:w1.cell? ⟨w.heap.size,1,none⟩=some (.int .i64 r.2):=au.cell rfl;push_cast -dsimp[c0,c1];refine⟨λh=>?_,λh=>⟨λh2=>?_,λh2=>?_⟩⟩
 ·rw[if_pos h];exact⟨rfl,au.below⟩
 ·rw[if_neg h,if_pos h2];exact⟨rfl,au.below⟩
 rw[if_neg h,if_neg h2];exact⟨rfl,au.below⟩
theorem aBv {s:List Rg}(hr:aH (-2) s=true){p:Int}{i:Nat}(h1:∀(k:Nat) (r:Rg),k<i->s[k]?=some r->r.2<p)(h2:∀(k:Nat) (r:Rg),i<=k->s[k]?=some r->¬r.2<p) :
  bm s p=match s[i]? with|some r=>decide (r.1<=p)|none=>false:=by
 unfold bm;cases hi:s[i]? with
 | none =>
  rw[List.any_eq_false];intro r hm;obtain⟨k,hk⟩:=List.getElem?_of_mem hm;have bZ:=(List.getElem?_eq_some_iff.1 hk).1
  have:=List.getElem?_eq_none_iff.1 hi
  have:=h1 k r (by omega) hk;simp only[decide_eq_true_eq];omega
 | some r =>
  have EJ:=h2 i r (Nat.le_refl _) hi;by_cases hp:r.1<=p
  ·dsimp only;rw[decide_eq_true hp,List.any_eq_true];exact⟨r,List.mem_of_getElem? hi,by simp only[decide_eq_true_eq];omega⟩
  dsimp only;rw[decide_eq_false hp,List.any_eq_false];intro q hm;obtain⟨k,hk⟩:=List.getElem?_of_mem hm;simp only[decide_eq_true_eq];rcases Nat.lt_trichotomy k i with bZ|heq|NK
  ·have:=h1 k q bZ hk;omega
  ·subst heq;rw[hi]at hk;cases hk;omega
  have:=(cu s (-2) hr i r hi).2.2.2 k q NK hk
  have:=(cu s (-2) hr i r hi).2.1;omega
theorem Uw (s:List Rg)(hs:s.length<1000000000)(hr:aH (-2) s=true)(p:Int)(X:Nat->Prop)(v:Value)(w:World)(hv:Sl X 2 (En encR) w v s) :
  bD Tryz.prog 131 [v,.int .i64 p,.func (.func 132) #[] #[]] w λr w'=>(∃i:Int,r=.tuple #[.int .i64 i,.bool (bm s p)])/\Below w.heap.size w w':=by
 obtain⟨a,c,rfl,hc⟩:=hv.shape;refine aE Tryz.func131 rfl (by kernel_rfl) [6,7] rfl ?_;push_cast -dsimp(maxSteps:=4000000) [Tryz.ntmps131];refine aM [9,10,11,15,16,17,18,19,20,21,22,23,24,25,26,27,28,29,30,31,32,33,34] (λz wx=>∃(i j:Nat),z 9=.int .i64 i/\z 10=.int .i64 j/\i<=j/\j<=s.length/\(∀(k:Nat) (r:Rg),k<i->s[k]?=some r->r.2<p)/\(∀(k:Nat) (r:Rg),j<=k->s[k]?=some r->¬r.2<p)/\Below w.heap.size w wx) (λz _=>(intOf (z 10)).toNat-(intOf (z 9)).toNat) ?_ ?_
 ·refine⟨0,s.length,rfl,rfl,Nat.zero_le _,Nat.le_refl _,λk r hk=>absurd hk (by omega),λk r hk h=>?_,Below.refl _ _⟩
  have:=(List.getElem?_eq_some_iff.1 h).1;omega
 intro z wx hI;obtain⟨i,j,h9,nH,hij,hj,ri,Si,hb⟩:=hI;push_cast -dsimp[h9,nH];refine⟨λbZ=>?_,λgh=>?_⟩
 ·have e:IntKind.i64.wrap ((IntKind.u64.wrap ((i:Int)+(j:Int))).fdiv (2 ^ min 1 IntKind.u64.bits))=(((i+j) / 2:Nat):Int):=by
   show IntKind.i64.wrap ((IntKind.u64.wrap ((i:Int)+(j:Int))).fdiv (2 ^ min (1:Int).toNat IntKind.u64.bits))=_
   rw[show (i:Int)+(j:Int)=((i+j:Nat):Int) by omega,fX,Nat.mod_eq_of_lt (by omega),kB (k:=1) (kd:=.u64) rfl (by decide)]
   exact fW (by omega)
  have gi:i<=(i+j) / 2:=by omega
  have dB:(i+j) / 2<j:=by omega
  generalize (i+j) / 2=m at e gi dB;rw[e];obtain⟨x,hx,lO,hdx,ht⟩:=bK (l:=s) (i:=m) (by omega);obtain⟨b,o,rfl,hX,aP⟩:=(hv.below hb).get hx;have c0:aB wx ⟨b,o+m*2,none⟩ 0 2=some [.int .i64 x.1,.int .i64 x.2]:=bL (encR x) 0 (λj u hu=>by simpa using aP j u hu);push_cast -dsimp[c0];refine⟨⟨by omega,by omega⟩,⟨by omega,by omega⟩,?_⟩;refine aA (Fg x p wx) ?_;rintro _ w1 ⟨rfl,de⟩;have iK:=hb.trans (de.mono hb.size);push_cast -dsimp;refine⟨λmA=>⟨⟨by omega,by omega⟩,⟨m+1,j,rfl,rfl,by omega,hj,λk r hk Pw=>?_,Si,iK⟩,?_⟩,λpG=>⟨⟨i,m,rfl,rfl,by omega,by omega,ri,λk r hk Pw=>?_,iK⟩,?_⟩⟩
  ·have wK:x.2<p:=by
    by_cases h:x.2<p
    ·exact h
    rw[if_neg h]at mA;split at mA<;>omega
   rcases Nat.lt_or_ge k m with uK|aKt
   ·have:=(cu s (-2) hr k r Pw).2.2.2 m x uK hx
    have:=(cu s (-2) hr m x hx).2.1;omega
   have hkm:k=m:=by omega
   subst hkm;rw[hx]at Pw;cases Pw;exact wK
  ·rw[h9,nH];simp only[intOf];omega
  ·have wK:¬x.2<p:=by
    intro h;rw[if_pos h]at pG;omega
   rcases Nat.lt_or_ge m k with uK|aKt
   ·have:=(cu s (-2) hr m x hx).2.2.2 k r uK Pw
    have:=(cu s (-2) hr k r Pw).2.1;omega
   have hkm:k=m:=by omega
   subst hkm;rw[hx]at Pw;cases Pw;exact wK
  rw[h9,nH];simp only[intOf];omega
 have uI:j=i:=by omega
 subst uI;have hat:=aBv hr ri Si;refine⟨λNL=>?_,λfN=>?_⟩
 ·obtain⟨x,hx,lO,hdx,ht⟩:=bK (l:=s) (i:=j) (by omega);obtain⟨b,o,rfl,hX,aP⟩:=(hv.below hb).get hx;have c0:aB wx ⟨b,o+j*2,none⟩ 0 2=some [.int .i64 x.1,.int .i64 x.2]:=bL (encR x) 0 (λj u hu=>by simpa using aP j u hu);have wJ:=Si j x (Nat.le_refl _) hx;rw[hx]at hat;push_cast -dsimp[c0];refine⟨⟨by omega,by omega⟩,aA (Fg x p wx) ?_⟩;rintro _ w1 ⟨rfl,de⟩;push_cast -dsimp;refine⟨⟨j,?_⟩,hb.trans (de.mono hb.size)⟩;have aJ5:bm s p=decide (x.1<=p):=by rw[hat]
  have hdd:decide ((if p<x.1 then (1:Int) else 0)=0)=decide (x.1<=p):=by rw[decide_eq_decide];split<;>omega
  rw[aJ5,if_neg wJ,hdd]
 refine⟨⟨j,?_⟩,hb⟩;rw[hat,List.getElem?_eq_none (by omega)]
theorem aFR (s:List Rg)(hs:s.length<1000000000)(hr:aH (-2) s=true)(p:Int)(X:Nat->Prop)(v:Value)(w:World)(hv:Sl X 2 (En encR) w v s) :
  bD Tryz.prog 103 [v,.int .i64 p] w λr w'=>r=.bool (bm s p)/\Below w.heap.size w w':=by
 refine aE Tryz.func103 rfl (by kernel_rfl) [4] rfl ?_;push_cast -dsimp(maxSteps:=4000000) [Tryz.ntmps103];refine aA (Uw s hs hr p X v w hv) ?_;rintro _ w1 ⟨⟨i,rfl⟩,hb⟩;push_cast -dsimp;exact hb
theorem RB (l:List Rg)(hl:l.length<1000000000)(X:Nat->Prop)(v:Value)(w:World)(hv:Sl X 2 (En encR) w v l)(ha:Arg v) :
  bD Tryz.prog 126 [v] w λr w'=>Vc.Own w.heap.size 104 2 encR w' r l/\Below w.heap.size w w':=by
 obtain⟨a,c,rfl,hc⟩:=hv.shape;refine aE Tryz.func126 rfl (by kernel_rfl) [2] rfl ?_;push_cast -dsimp(maxSteps:=4000000) [Tryz.ntmps126];cases a with
 | none =>
  obtain⟨h0,rfl⟩:=ha _ _ rfl;have:l=[]:=List.eq_nil_of_length_eq_zero h0;subst this;push_cast -dsimp[aJp];exact⟨Vc.Own.nil (enc:=encR) _ _ (λ_=>rfl) _,Below.refl _ _⟩
 | some ad =>
  push_cast -dsimp[aJq];refine cY Rj rfl rfl (by omega) ?_;intro w1 au;have GK:=au.own (base:=w.heap.size) (k:=2) (n:=0) (enc:=encR) (l:=[]) rfl rfl (λ_=>rfl) (Nat.le_refl _) (by omega);have sT:=au.size;push_cast -dsimp;refine jh (base:=w.heap.size) (enc:=encR) (ys:=l) Rj GK (hv.below au.below) (λn c h=>by cases h) gS (by simp only[List.length_nil];omega) (by omega) ?_;intro v' w2 ow hg2 eW;rw[List.nil_append]at ow;push_cast -dsimp;exact⟨ow,au.below.trans eW⟩
def RF (x y:Int):Int:=if x<y then -1 else if y<x then 1 else 0
theorem LB (x:Int)(w:World):bD Tryz.prog 172 [.int .i64 x] w λr w'=>r=.bool false/\w'=w:=by
 refine aE Tryz.func172 rfl (by kernel_rfl) [2] rfl ?_;push_cast -dsimp(maxSteps:=4000000) [Tryz.ntmps172];simp
theorem MO (x y:Int)(w:World):bD Tryz.prog 129 [.int .i64 x,.int .i64 y] w λr w'=>r=.int .i64 (RF x y)/\w'=w:=by
 refine aE Tryz.func129 rfl (by kernel_rfl) [4] rfl ?_;push_cast -dsimp(maxSteps:=4000000) [Tryz.ntmps129];refine aA (LB x w) ?_;rintro _ w1 ⟨rfl,rfl⟩;push_cast -dsimp;refine aA (LB y w1) ?_;rintro _ w2 ⟨rfl,rfl⟩;push_cast -dsimp;unfold RF;refine⟨λh=>by rw[if_pos h],λh=>⟨λh2=>by rw[if_neg h,if_pos h2],λh2=>by rw[if_neg h,if_neg h2]⟩⟩
theorem ML (x y:Rg)(w:World):bD Tryz.prog 128 [.agg #[.int .i64 x.1,.int .i64 x.2],.agg #[.int .i64 y.1,.int .i64 y.2]] w λr w'=>r=.int .i64 (RF x.1 y.1)/\∃os,w'=Go.Sort.grow w os:=by
 refine aE Tryz.func128 rfl (by kernel_rfl) [4] rfl ?_;push_cast -dsimp(maxSteps:=4000000) [Tryz.ntmps128];refine ah ?_;intro w1 au;have sT:=au.size;push_cast -dsimp;refine ah ?_;intro w2 bT;have KN:=bT.size;have c0:w2.cell? ⟨w.heap.size,0,none⟩=some (.int .i64 x.1):=(bT.below.cell (by show w.heap.size<w1.heap.size;omega)).trans (au.cell rfl)
 have c1:w2.cell? ⟨w1.heap.size,0,none⟩=some (.int .i64 y.1):=bT.cell rfl;push_cast -dsimp[c0,c1];refine aA (MO x.1 y.1 w2) ?_;rintro _ w3 ⟨rfl,rfl⟩;push_cast -dsimp;refine⟨_,by rw[bT.is,au.is,Go.Sort.alloc_eq_grow,Go.Sort.alloc_eq_grow,Go.Sort.grow_grow]⟩
def Ak:Go.Shelf.Ren:=⟨λ| 4=>130|n=>n,λ| 22=>44|25=>104|3=>3|4=>4|9=>9|20=>20|0=>0|2=>3|n=>n,λ| n=>n⟩
theorem Zd:Go.Proofs.Lays8.n4 Tryz.prog Ak:={
 mixed:=by kernel_rfl
 f4:=⟨ "slices.Grow[caesura/api.Set,caesura/api.Range]",by decide,Tryz.func130.trans (congrArg some (by kernel_rfl))⟩
 t0:=Tryz.underlying0
 a0:=Tryz.isAgg0
 z0:=Tryz.sizeOf0
 v0:=Tryz.zeroValue0
 t3:=Tryz.underlying3
 a3:=Tryz.isAgg3
 z3:=Tryz.sizeOf3
 v3:=Tryz.zeroValue3
 t4:=Tryz.underlying4
 a4:=Tryz.isAgg4
 z4:=Tryz.sizeOf4
 v4:=Tryz.zeroValue4
 t9:=Tryz.underlying9
 a9:=Tryz.isAgg9
 z9:=Tryz.sizeOf9
 v9:=Tryz.zeroValue9
 t20:=Tryz.underlying20
 a20:=Tryz.isAgg20
 z20:=Tryz.sizeOf20
 v20:=Tryz.zeroValue20
 t22:=Tryz.underlying44
 a22:=Tryz.isAgg44
 z22:=Tryz.sizeOf44
 v22:=Tryz.zeroValue44 }
theorem aA8 (n:Nat)(hn:n<1000000000)(w:World) :
  bD Tryz.prog 130 [.slice none 0 0,.int .i64 (n:Int)] w λr w'=>Vc.Own w.heap.size 104 2 encR w' r ([]:List Rg)/\Below w.heap.size w w':=by
 refine bx Tryz.func130 (by kernel_rfl) (by kernel_rfl) ?_;rcases Nat.eq_zero_or_pos n with h0|h0
 ·subst h0;refine Calls.mono (Any8.slices_Grow_room Zd none 0 0 0 w (by omega) (by omega) (by omega) (by omega)) ?_;rintro e w' ⟨rfl,rfl⟩;exact⟨_,rfl,Vc.Own.nil (enc:=encR) _ _ (λ_=>rfl) _,Below.refl _ _⟩
 have he:=ll fQ;obtain⟨hu,i,z,hi,hz,JI,cp,JV,hk,ti⟩:=he;refine Calls.mono (Any8.slices_Grow_grow Zd i z hi hz (by omega) none 0 0 n [] w (by omega) (by omega) (by rw[cp];omega) (by omega) (by simp) (λ_=>rfl) (λa h=>by cases h)) ?_;rintro e w' ⟨rfl,rfl⟩;have hG:=grownCap_le_maxLen w (0+n) 0 104 (by unfold maxLen;omega);have hG2:=grownCap_ge w (0+n) 0 104;have hE:Ak.t 25=104:=rfl;rw[hE];generalize grownCap w (0+n) 0 104=G at hG hG2;refine⟨_,rfl,UP (λ_=>rfl) (Array.getElem?_push_size) hG ?_,?_⟩
 ·simp only[Array.size_append,size_zeroCells,JV,JI];simp;omega
 exact⟨rfl,rfl,rfl,by show w.heap.size<=(w.heap.push _).size;rw[Array.size_push];omega,λi hi=>by show (w.heap.push _)[i]?=_;rw[Array.getElem?_push,if_neg (by omega)]⟩
end Go.Proofs.YtodeeahdhnjpkaaGreatDoor
end
section
namespace Go.Proofs.YtodeeahdhnjpkaaGreatDoor
open Go.Vc Go.Proofs Go.RowKit Cae Go.Sort
theorem X0 {base:Nat}{e:TypeId}{w:World}{g n c:Nat}{l:List Rg}(h:Vc.Own base e 2 encR w (.slice (some ⟨g,0,none⟩) n c) l):HoldsK encR 2 w g 0 l.toArray:=by
 have ho:=Vc.Own.opened h rfl;obtain⟨cur,hB,hl,ht,_⟩:=ho;intro j hj;rw[size_flatK]at hj;rw[get_flatK _ _ _ _ hj];have hj':j<l.length*2:=by simpa using hj
 have hi:j / 2<l.length:=by omega
 have hx:=List.getElem?_eq_getElem hi;have hu:(encR l[j / 2])[j % 2]?=some (encR l[j / 2])[j % 2]! := by
  rw[List.getElem!_eq_getElem?_getD];have bZ:j % 2<(encR l[j / 2]).length:=by show j % 2<2;omega
  rw[List.getElem?_eq_getElem bZ];rfl
 have h1:=kI h.2 l (j / 2) (j % 2) _ _ hx hu;rw[<-ht,List.getElem?_take,if_pos (by omega),show j / 2*2+j % 2=j by omega]at h1
 have e2:(l.toArray)[j / 2]! = l[j / 2]:=by simp[hi]
 rw[e2];refine⟨?_,?_⟩
 ·rw[cell_of_row w g _ cur.toArray e (0,0) hB,Nat.zero_add];simpa using h1
 have Cq:w.heap[g]?=some (.cells cur.toArray e (0,0)):=hB;simp[World.frozen?,Cq]
theorem aCW {base:Nat}{e:TypeId}{w:World}{ad:Addr}{n c:Nat}{l:List Rg}(h:Vc.Own base e 2 encR w (.slice (some ad) n c) l):∃g,ad=⟨g,0,none⟩:=by
 rcases h.1.2 with ⟨he,_⟩|⟨g,cap,cr,he,_⟩
 ·cases he
 cases he;exact⟨_,rfl⟩
theorem VA {w':World}{g n c:Nat}{d':Array Rg}(hn:d'.size=n)(hc:n<=c)(hH':HoldsK encR 2 w' g 0 d'):Sl (λb=>(Value.slice (some ⟨g,0,none⟩) n c).ownBlock≠some b) 2 (En encR) w' (.slice (some ⟨g,0,none⟩) n c) d'.toList:=by
 subst hn;refine⟨_,c,by rw[Array.length_toList],by rw[Array.length_toList];exact hc,λi x hx=>⟨g,0,encR x,rfl,by simp[Value.ownBlock],rfl,λj u hu=>?_,rfl⟩⟩;have hi:=(List.getElem?_eq_some_iff.1 hx).1;rw[Array.length_toList]at hi;have hj:j<2:=(List.getElem?_eq_some_iff.1 hu).1;have h2:=(hH'.cell hi hj).1;have wJ:d'[i]! = x:=by rw[getElem!_pos d' i hi];rw[Array.getElem?_toList,Array.getElem?_eq_getElem hi]at hx;cases hx;rfl
 rw[wJ,List.getElem!_eq_getElem?_getD,hu]at h2;exact h2
end Go.Proofs.YtodeeahdhnjpkaaGreatDoor
namespace Go.Proofs.YtodeeahdhnjpkaaGreatDoor
open Go.Vc Go.Proofs Go.RowKit Cae
attribute [local irreducible] cw ag aq a8 runK bD Sl Vc.Own vc aW cN ai
open Go.Sort
def Oq:Go.Shelf.Ren:=⟨λ| 6=>127|15=>106|14=>171|28=>142|29=>143|20=>197|21=>198|22=>199|23=>200|24=>201|25=>202|26=>203|27=>204|46=>228|47=>174|48=>175|49=>229|50=>230|57=>239|n=>n,λ| 22=>43|24=>104|25=>191|3=>3|39=>109|0=>0|53=>206|55=>208|4=>4|46=>199|45=>198|50=>194|5=>5|9=>9|66=>244|70=>248|76=>272|77=>105|n=>n,λ| n=>n⟩
theorem aAr:Go.Proofs.SlLaysF0.n6 Tryz.prog Oq:={
 mixed:=by kernel_rfl
 f6:=⟨ "slices.SortFunc[[]caesura/api.Range,caesura/api.Range]",by decide,Tryz.func127.trans (congrArg some (by kernel_rfl))⟩
 f14:=⟨ "slices.pdqsortCmpFunc[caesura/api.Range]",by decide,Tryz.func171.trans (congrArg some (by kernel_rfl))⟩
 f15:=Tryz.func106.trans (congrArg some (by kernel_rfl))
 f20:=⟨ "slices.insertionSortCmpFunc[caesura/api.Range]",by decide,Tryz.func197.trans (congrArg some (by kernel_rfl))⟩
 f21:=⟨ "slices.heapSortCmpFunc[caesura/api.Range]",by decide,Tryz.func198.trans (congrArg some (by kernel_rfl))⟩
 f22:=⟨ "slices.breakPatternsCmpFunc[caesura/api.Range]",by decide,Tryz.func199.trans (congrArg some (by kernel_rfl))⟩
 f23:=⟨ "slices.choosePivotCmpFunc[caesura/api.Range]",by decide,Tryz.func200.trans (congrArg some (by kernel_rfl))⟩
 f24:=⟨ "slices.reverseRangeCmpFunc[caesura/api.Range]",by decide,Tryz.func201.trans (congrArg some (by kernel_rfl))⟩
 f25:=⟨ "slices.partialInsertionSortCmpFunc[caesura/api.Range]",by decide,Tryz.func202.trans (congrArg some (by kernel_rfl))⟩
 f26:=⟨ "slices.partitionEqualCmpFunc[caesura/api.Range]",by decide,Tryz.func203.trans (congrArg some (by kernel_rfl))⟩
 f27:=⟨ "slices.partitionCmpFunc[caesura/api.Range]",by decide,Tryz.func204.trans (congrArg some (by kernel_rfl))⟩
 f28:=Tryz.func142.trans (congrArg some (by kernel_rfl))
 f29:=Tryz.func143.trans (congrArg some (by kernel_rfl))
 f46:=⟨ "slices.siftDownCmpFunc[caesura/api.Range]",by decide,Tryz.func228.trans (congrArg some (by kernel_rfl))⟩
 f47:=Tryz.func174.trans (congrArg some (by kernel_rfl))
 f48:=Tryz.func175.trans (congrArg some (by kernel_rfl))
 f49:=⟨ "slices.medianAdjacentCmpFunc[caesura/api.Range]",by decide,Tryz.func229.trans (congrArg some (by kernel_rfl))⟩
 f50:=⟨ "slices.medianCmpFunc[caesura/api.Range]",by decide,Tryz.func230.trans (congrArg some (by kernel_rfl))⟩
 f57:=⟨ "slices.order2CmpFunc[caesura/api.Range]",by decide,Tryz.func239.trans (congrArg some (by kernel_rfl))⟩
 t0:=Tryz.underlying0
 a0:=Tryz.isAgg0
 z0:=Tryz.sizeOf0
 v0:=Tryz.zeroValue0
 t3:=Tryz.underlying3
 a3:=Tryz.isAgg3
 z3:=Tryz.sizeOf3
 v3:=Tryz.zeroValue3
 t4:=Tryz.underlying4
 a4:=Tryz.isAgg4
 z4:=Tryz.sizeOf4
 v4:=Tryz.zeroValue4
 t5:=Tryz.underlying5
 a5:=Tryz.isAgg5
 z5:=Tryz.sizeOf5
 v5:=Tryz.zeroValue5
 t9:=Tryz.underlying9
 a9:=Tryz.isAgg9
 z9:=Tryz.sizeOf9
 v9:=Tryz.zeroValue9
 t22:=Tryz.underlying43
 a22:=Tryz.isAgg43
 z22:=Tryz.sizeOf43
 v22:=Tryz.zeroValue43
 t25:=Tryz.underlying191
 a25:=Tryz.isAgg191
 z25:=Tryz.sizeOf191
 v25:=Tryz.zeroValue191
 t39:=Tryz.underlying109
 a39:=Tryz.isAgg109
 z39:=Tryz.sizeOf109
 v39:=Tryz.zeroValue109
 t45:=Tryz.underlying198
 a45:=Tryz.isAgg198
 z45:=Tryz.sizeOf198
 v45:=Tryz.zeroValue198
 t46:=Tryz.underlying199
 a46:=Tryz.isAgg199
 z46:=Tryz.sizeOf199
 v46:=Tryz.zeroValue199
 t50:=Tryz.underlying194
 a50:=Tryz.isAgg194
 z50:=Tryz.sizeOf194
 v50:=Tryz.zeroValue194
 t53:=Tryz.underlying206
 a53:=Tryz.isAgg206
 z53:=Tryz.sizeOf206
 v53:=Tryz.zeroValue206
 t55:=Tryz.underlying208
 a55:=Tryz.isAgg208
 z55:=Tryz.sizeOf208
 v55:=Tryz.zeroValue208
 t66:=Tryz.underlying244
 a66:=Tryz.isAgg244
 z66:=Tryz.sizeOf244
 v66:=Tryz.zeroValue244
 t70:=Tryz.underlying248
 a70:=Tryz.isAgg248
 z70:=Tryz.sizeOf248
 v70:=Tryz.zeroValue248
 t76:=Tryz.underlying272
 a76:=Tryz.isAgg272
 z76:=Tryz.sizeOf272
 v76:=Tryz.zeroValue272
 t77:=Tryz.underlying105
 a77:=Tryz.isAgg105
 z77:=Tryz.sizeOf105
 v77:=Tryz.zeroValue105 }
def RH (x y:Rg):Int:=RF x.1 y.1
theorem DN (x y:Rg):Go.Proofs.ltOf RH x y=decide (x.1<y.1):=by
 unfold Go.Proofs.ltOf RH RF;rw[decide_eq_decide];split
 ·simp[*]
 split<;>simp[*]
theorem aLN:SWO (Go.Proofs.ltOf RH) where
 irrefl x:=by rw[DN];simp
 trans x y z h1 h2:=by rw[DN]at *;simp at *;omega
 ntrans x y z h1 h2:=by rw[DN]at *;simp at *;omega
theorem RG (aN off size:Nat)(w:World):Go.Proofs.CmpLays Tryz.prog 128 #[] encR 2 RH aN off size w:=λm os dk hd x y=>by
 have h:=Bz (ML x y (Go.Proofs.sortWorldK encR 2 w aN off m dk os));have e:#[Value.agg (encR x).toArray,Value.agg (encR y).toArray]++#[]=[Value.agg #[.int .i64 x.1,.int .i64 x.2],Value.agg #[.int .i64 y.1,.int .i64 y.2]].toArray:=rfl;rw[e];refine h.mono ?_;rintro e w' ⟨v,rfl,rfl,os',rfl⟩;exact⟨rfl,0,os',rfl⟩
theorem J1 {w:World}{g n:Nat}{os:Array Obj}(d:Array Rg):Kept (λj=>j=g) w (Go.Proofs.sortWorldK encR 2 w g 0 n d os):=by
 refine⟨rfl,rfl,rfl,?_,λk hk dA=>?_⟩
 ·exact Go.Proofs.size_sortWorldK_c encR 2 w g 0 n d os
 unfold Go.Proofs.sortWorldK putRowK;rw[heap_grow_old _ _ (by simpa using hk)];simp[putRow,mapBlock,Go.Sort.ahead,Array.getElem?_modify,Ne.symm dA]
theorem aDf (l:List Rg)(hl:l.length<1000000000)(base:Nat)(v:Value)(w:World)(ho:Vc.Own base 104 2 encR w v l)(hb:base<=w.heap.size) :
  bD Tryz.prog 127 [v,.func (.func 128) #[] #[]] w λr w'=>(∃m,m.Perm l/\wW m/\Sl (λb=>v.ownBlock≠some b) 2 (En encR) w' v m)/\Kept (λj=>v.ownBlock=some j) w w':=by
 refine bx Tryz.func127 (by kernel_rfl) (by kernel_rfl) ?_;cases hn:l with
 | nil =>
  subst hn;have eM:=ho.slice;obtain⟨a,c,rfl⟩:=eM;refine(AnyF.slices_SortFunc_none aAr a c (.func (.func 128) #[] #[]) w).mono ?_;rintro e w' ⟨rfl,rfl⟩;exact⟨_,rfl,⟨[],List.Perm.refl _,List.Pairwise.nil,Sl.nil _ _ _ _ _ _⟩,Kept.refl _ _⟩
 | cons y ys =>
  rw[<-hn];have pG:0<l.length:=by rw[hn];exact Nat.succ_pos _
  have eM:=ho.slice;obtain⟨a,c,rfl⟩:=eM;cases a with
  | none=>have:=ho.dH _ _ rfl;omega
  | some ad =>
   have hg0:=aCW ho;obtain⟨g,rfl⟩:=hg0;have vh:=ho.block g rfl;have hH:=X0 ho;have Ft:=AnyQ.slices_SortFunc aAr 2 Tryz.isAgg104 Tryz.sizeOf104 encR (λ_=>rfl) gS RH aLN 128 #[] g 0 c l.toArray w (λargs w=>cR Tryz.func128 (by kernel_rfl) (by kernel_rfl)) (RG g 0 l.toArray.size w) hH vh.2 (by rw[List.size_toArray];omega);rw[List.size_toArray]at Ft;refine Calls.mono Ft ?_;rintro e w' ⟨rfl,d',n,os,hp,hs,rfl⟩;have Au:d'.size=l.length:=by have:=hp.1;simpa using this
   have lE:d'.toList.Perm l:=by
    have:=hp.2.2;rw[Array.extract_eq_self_of_le (by omega),Array.extract_eq_self_of_le (by simp)]at this;simpa using this
   have hH':=Go.Proofs.holdsK_sortWorldK_c encR 2 w g 0 l.toArray d' n os hH vh.2 (by simpa using Au);refine⟨_,rfl,⟨d'.toList,lE,?_,?_⟩,(J1 d').weaken (λi _ h=>by rw[h];rfl)⟩
   ·refine List.pairwise_iff_getElem.2 λi j hi hj hij=>?_;rw[Array.length_toList]at hi hj
    have:=hs i j (Nat.zero_le _) hij (by omega);rw[DN,decide_eq_false_iff_not]at this;simp only[getElem!_pos d' i hi,getElem!_pos d' j hj]at this;simp only[Array.getElem_toList];omega
   exact VA Au ((ho.sl.shape).elim (λa h=>h.elim λc' h=>by cases h.1;exact h.2)) hH'
end Go.Proofs.YtodeeahdhnjpkaaGreatDoor
end
section
namespace Go.Proofs.YtodeeahdhnjpkaaGreatDoor
open Go.Vc Go.Proofs Go.RowKit Cae
attribute [local irreducible] cw ag aq a8 runK bD Sl Vc.Own vc aW cN ai
theorem aLK (l:List Rg)(hl:l.length<100000000)(X:Nat->Prop)(v:Value)(w:World)(hv:Sl X 2 (En encR) w v l)(ha:Arg v) :
  bD Tryz.prog 100 [v] w λr w'=>Vc.Own w.heap.size 104 2 encR w' r (setOf l)/\Below w.heap.size w w':=by
 obtain⟨a,c,rfl,hc⟩:=hv.shape;refine aE Tryz.func100 rfl (by kernel_rfl) [2] rfl ?_;push_cast -dsimp(maxSteps:=4000000) [Tryz.ntmps100];refine aA (RB l (by omega) X _ w hv ha) ?_;rintro v1 w1 ⟨GK,de⟩;have sT:=de.size;push_cast -dsimp;refine aA (aDf l (by omega) w.heap.size v1 w1 GK sT) ?_;rintro r2 w2 ⟨⟨m,hp,hR,iP⟩,iY⟩;have KN:=iY.size;have hml:=hp.length_eq;have eW:Below w.heap.size w w2:=de.trans (iY.below sT (λg h=>(GK.block g h).1));have eM:=GK.slice;obtain⟨va,vc,rfl⟩:=eM;have hof:=Oe hp hR;have hgX:∃X1,X1=(λb=>(Value.slice va l.length vc).ownBlock≠some b):=⟨_,rfl⟩;obtain⟨X1,EC⟩:=hgX;rw[<-EC]at iP;have Vt:∀b,w2.heap.size<=b->X1 b:=λb hb=>by
  rw[EC];intro h
  have:=(GK.block b h).2;omega
 push_cast -dsimp;refine aM [3,5,6,13,14,15,16,17,18,19,20,21,22,23,24,25,26,27,28,29,30,31,32,33,34,35,36,37,38,39,40,41,42,43,44,45,46,47,48,49,50,51,52,53,54,55,56,57,58,59,60,61,62] (λz wx=>∃(i:Nat) (ov:Value),z 13=.int .i64 i/\z 3=ov/\i<=l.length/\Vc.Own w2.heap.size 104 2 encR wx ov (jH (m.take i))/\Below w2.heap.size w2 wx) (λz _=>l.length-(intOf (z 13)).toNat) ?_ ?_
 ·refine⟨0,_,rfl,rfl,Nat.zero_le _,?_,Below.refl _ _⟩;rw[List.take_zero];exact Vc.Own.nil (enc:=encR) _ _ (λ_=>rfl) _
 intro z wx hI;obtain⟨i,ov,zD,h3,hi,rK,bC⟩:=hI;have BV:=bC.size;push_cast -dsimp[zD,h3];refine⟨λbZ=>?_,λgh=>?_⟩
 ·have hg:=bK (l:=m) (i:=i) (by omega);obtain⟨x,hx,lO,_⟩:=hg;have zL:=iP.below bC;rw[<-hml]at zL;have hg:=zL.get hx;obtain⟨b,o,rfl,zJ,aP⟩:=hg;have cx:aB wx ⟨b,o+i*2,none⟩ 0 2=some [.int .i64 x.1,.int .i64 x.2]:=bL (encR x) 0 (λj u hu=>by simpa using aP j u hu);have Mm:jH (m.take (i+1))=gM (jH (m.take i)) x:=by
   unfold jH;rw[List.take_add_one,hx,List.foldl_append];rfl
  have NN:=yQ (m.take i);rw[List.length_take]at NN;have eM:=rK.slice;obtain⟨oa,oc,rfl⟩:=eM;have p6:∃out,jH (m.take i)=out:=⟨_,rfl⟩;obtain⟨out,fN⟩:=p6;rw[fN]at rK Mm NN;rw[fN];push_cast -dsimp[cx];refine⟨⟨by omega,by omega⟩,?_⟩;refine aR (z:=[.int .i64 0,.int .i64 0]) (by kernel_rfl) ?_;intro w3 bO;have Li:=bO.size;push_cast -dsimp;refine aF (n:=2) (by kernel_rfl) bO.aN rfl (by simp) (by simp[Value.oneCell']) ?_;intro w4 aj;have sz4:=aj.size;have c0:w4.cell? ⟨wx.heap.size,0,none⟩=some (.int .i64 x.1):=aj.aN.cell rfl;have c1:w4.cell? ⟨wx.heap.size,1,none⟩=some (.int .i64 x.2):=aj.aN.cell rfl;have hgl:∃lo,max x.1 0=lo:=⟨_,rfl⟩;obtain⟨lo,ri⟩:=hgl;have NJ:∃AI,min x.2 1114111=AI:=⟨_,rfl⟩;obtain⟨AI,Si⟩:=NJ;have aBV:(if 0>x.1 then 0 else x.1)=lo:=by rw[<-ri];split<;>omega
  have aGi:(if 1114111<x.2 then 1114111 else x.2)=AI:=by rw[<-Si];split<;>omega
  push_cast -dsimp[c0,c1,aBV,aGi];refine aC aj.aN (by simp) rfl ?_;intro w5 bW;have sz5:w5.heap.size=w4.heap.size:=bW.size;push_cast -dsimp;refine aC bW.aN (by simp) rfl ?_;intro w6 cB;have sz6:w6.heap.size=w5.heap.size:=cB.size;have hX6:aO w6 wx.heap.size 104 [.int .i64 lo,.int .i64 AI]:=cB.aN;have k6:Kept (λj=>j=wx.heap.size) wx w6:=(((Kept.new bO).trans aj.kept (λ_ _ h=>h)).trans bW.kept (λ_ _ h=>h)).trans cB.kept (λ_ _ h=>h);have GL:=rK.ak k6 (λg hg h=>by have:=rK.block g hg;omega);have jc:Below w2.heap.size w2 w6:=bC.trans (k6.below BV (λ_ h=>by omega));have e0:w6.cell? ⟨wx.heap.size,0,none⟩=some (.int .i64 lo):=hX6.cell rfl;have e1:w6.cell? ⟨wx.heap.size,1,none⟩=some (.int .i64 AI):=hX6.cell rfl;push_cast -dsimp[e0,e1];refine⟨λNK=>?_,λhle=>?_⟩
  ·have cO:gM out x=out:=by unfold gM;rw[ri,Si,if_pos (by omega)]
   rw[cO]at Mm;rw[<-Mm]at GL;exact⟨⟨by omega,by omega⟩,⟨i+1,_,rfl,by rw[Mm],by omega,GL,jc⟩,by rw[zD];simp only[intOf];omega⟩
  refine⟨⟨by omega,by omega⟩,?_⟩;cases hn:out.length with
  | zero =>
   have DD:out=[]:=List.eq_nil_of_length_eq_zero hn;subst DD;have cO:gM [] x=[]++[(lo,AI)]:=by unfold gM;rw[ri,Si,if_neg (by omega)];rfl
   refine aX (λw'=>w'=w6.drew) mixed (by kernel_rfl) rfl ?_;push_cast -dsimp;rw[cO]at Mm;have d7:aB w6.drew ⟨wx.heap.size,0,none⟩ 0 2=some [.int .i64 lo,.int .i64 AI]:=hX6.drew.aB;push_cast -dsimp[d7];refine cY fQ rfl rfl (by omega) ?_;intro w7 dN;have Yj:w7.heap.size=w6.heap.size+1:=dN.size;have pF:=(GL.ak (Kept.refl (λ_=>False) _).drew (λ_ _ h=>h)).new dN;push_cast -dsimp;refine ae (base:=w2.heap.size) [(lo,AI)] (enc:=encR) fQ pF (by rfl) (λj u hu=>by simpa[encR] using dN.cell hu) gS (by simp only[List.length_cons,List.length_nil];omega) (by omega) ?_;intro v8 w8 qu EF hn8;have k8:Kept (λj=>(Value.slice oa ([]:List Rg).length oc).ownBlock=some j) w6 w8:=(((Kept.refl _ w6).drew).trans (Kept.new (X:=λj=>(Value.slice oa ([]:List Rg).length oc).ownBlock=some j) dN) (λ_ _ h=>h)).trans (Kept.grown EF (λ_ h=>h)) (λ_ _ h=>h);rw[<-Mm]at qu;push_cast -dsimp;exact⟨⟨by omega,by omega⟩,⟨i+1,_,rfl,rfl,by omega,qu,jc.trans (k8.below (by omega) (λg h=>(GL.block g h).1))⟩,by rw[zD];simp only[intOf];omega⟩
  | succ n =>
   have e6:((n:Nat):Int)+1-1=((n:Nat):Int):=by omega
   have hq:=List.getElem?_eq_getElem (l:=out) (i:=n) (by omega);have uH:∃q,out[n]'(by omega)=q:=⟨_,rfl⟩;obtain⟨q,hqe⟩:=uH;rw[hqe]at hq;have xd:out.getLast?=some q:=by rw[List.getLast?_eq_getElem?,hn];exact hq
   have hinv:=(sB i m hR (by omega)).1.right;rw[fN]at hinv;have hqr:=cu out (-2) hinv n q hq;have hg:=GL.sl.get hq;obtain⟨g,o',rfl,_,Hq⟩:=hg;have ho0:o'=0:=Vc.Own.aEN GL;subst ho0;have c2:w6.drew.cell? ⟨g,n*2+1,none⟩=some (.int .i64 q.2):=by have:=Hq 1 _ rfl;simpa using this
   have f0:w6.drew.cell? ⟨wx.heap.size,0,none⟩=some (.int .i64 lo):=e0;have f1:w6.drew.cell? ⟨wx.heap.size,1,none⟩=some (.int .i64 AI):=e1;have L:∀{ad:Addr} {u:Value},w6.drew.cell? ad=some u->∀ar:World,ar=w6.drew->pJ (ar.cell? ad) (λx=>x=u) .mk:=λh ar e=>by rw[e,h];exact rfl
   refine aX (λw'=>w'=w6.drew) mixed (by kernel_rfl) rfl ?_;push_cast -dsimp[e6,f0,c2];rw[hn]at GL;refine⟨λ_=>⟨L f0,⟨by omega,by omega⟩,L c2,⟨by omega,by omega⟩,λhm=>?_,λhm=>?_⟩,λh=>absurd (Int.natCast_nonneg n) h⟩
   ·have cO:gM out x=out.set n (q.1,max q.2 AI):=by
     unfold gM;rw[ri,Si,if_neg (by omega),xd];dsimp only;rw[if_pos hm,List.dropLast_eq_take,hn,List.set_eq_take_append_cons_drop,if_pos (by omega),List.drop_eq_nil_of_le (by omega)];rfl
    rw[cO]at Mm;have L2:∀{ad:Addr} {u:Value},w6.drew.drew.cell? ad=some u->∀ar:World,ar=w6.drew.drew->pJ (ar.cell? ad) (λx=>x=u) .mk:=λh ar e=>by rw[e,h];exact rfl
    have c2':w6.drew.drew.cell? ⟨g,n*2+1,none⟩=some (.int .i64 q.2):=c2;have f1':w6.drew.drew.cell? ⟨wx.heap.size,1,none⟩=some (.int .i64 AI):=f1;have hmx:(if AI>q.2 then AI else q.2)=max q.2 AI:=by split<;>omega
    refine kT (λw'=>w'=w6.drew.drew) mixed (by kernel_rfl) (List.cons_ne_nil _ _) rfl ?_;push_cast -dsimp[c2',f1',hmx];refine⟨⟨by omega,by omega⟩,L2 c2',L2 f1',⟨by omega,by omega⟩,?_⟩;have Hu:=GL.ak ((Kept.refl (λ_=>False) _).drew.drew) (λ_ _ h=>h);refine BU (i:=n) (f:=1) (y:=(q.1,max q.2 AI)) Hu rfl hq (by omega) rfl rfl ?_;intro w8 qu hk8 sz8;have k8:Kept (λj=>j=g) w6 w8:=((Kept.refl (λj=>j=g) w6).drew.drew).trans hk8 (λ_ _ h=>h);have vh:=(GL.block g rfl).1;refine⟨trivial,?_⟩;push_cast -dsimp;rw[<-Mm]at qu;exact⟨⟨by omega,by omega⟩,⟨i+1,_,rfl,rfl,by omega,qu,jc.trans (k8.below (by omega) (λj h=>by omega))⟩,by rw[zD];simp only[intOf];omega⟩
   have cO:gM out x=out++[(lo,AI)]:=by
    unfold gM;rw[ri,Si,if_neg (by omega),xd];dsimp only;rw[if_neg hm]
   rw[cO]at Mm;have d7:aB w6.drew ⟨wx.heap.size,0,none⟩ 0 2=some [.int .i64 lo,.int .i64 AI]:=hX6.drew.aB;push_cast -dsimp[d7];refine cY fQ rfl rfl (by omega) ?_;intro w7 dN;have Yj:w7.heap.size=w6.heap.size+1:=dN.size;have pF:=(GL.ak (Kept.refl (λ_=>False) _).drew (λ_ _ h=>h)).new dN;push_cast -dsimp;refine ae (base:=w2.heap.size) [(lo,AI)] (enc:=encR) fQ pF (by rfl) (λj u hu=>by simpa[encR] using dN.cell hu) gS (by simp only[List.length_cons,List.length_nil];omega) (by omega) ?_;intro v8 w8 qu EF hn8;have k8:Kept (λj=>(Value.slice (some ⟨g,0,none⟩) (n+1) oc).ownBlock=some j) w6 w8:=(((Kept.refl _ w6).drew).trans (Kept.new (X:=λj=>(Value.slice (some ⟨g,0,none⟩) (n+1) oc).ownBlock=some j) dN) (λ_ _ h=>h)).trans (Kept.grown EF (λ_ h=>h)) (λ_ _ h=>h);rw[<-Mm]at qu;push_cast -dsimp;exact⟨⟨by omega,by omega⟩,⟨i+1,_,rfl,rfl,by omega,qu,jc.trans (k8.below (by omega) (λg h=>(GL.block g h).1))⟩,by rw[zD];simp only[intOf];omega⟩
 have NL:i=m.length:=by omega
 subst NL;have eM:=rK.slice;obtain⟨oa,oc,rfl⟩:=eM;rw[List.take_length,hof]at rK;rw[List.take_length,hof];exact⟨rK.mono (by omega),eW.trans (bC.mono (by omega))⟩
theorem Gk (s:List Rg)(hs:s.length<100000000)(hr:aH (-2) s=true)(X:Nat->Prop)(v:Value)(w:World)(hv:Sl X 2 (En encR) w v s) :
  bD Tryz.prog 67 [v] w λr w'=>Vc.Own w.heap.size 104 2 encR w' r (fm s)/\Below w.heap.size w w':=by
 obtain⟨a,c,rfl,hc⟩:=hv.shape;refine aE Tryz.func67 rfl (by kernel_rfl) [2] rfl ?_;push_cast -dsimp(maxSteps:=4000000) [Tryz.ntmps67];refine aM [3,4,6,9,10,11,12,13,14,15,16,17,18,19,20,21,22,23,24,25,26,27,28] (λz wx=>∃(i:Nat) (f:Int) (out:List Rg) (ov:Value),z 9=.int .i64 i/\z 4=.int .i64 f/\z 3=ov/\i<=s.length/\0<=f/\f<=1114112/\out.length<=i/\out++nh f (s.drop i)=fm s/\Vc.Own w.heap.size 104 2 encR wx ov out/\Below w.heap.size w wx) (λz _=>s.length-(intOf (z 9)).toNat) ?_ ?_
 ·exact⟨0,0,[],_,rfl,rfl,rfl,Nat.zero_le _,by omega,by omega,Nat.le_refl _,rfl,Vc.Own.nil (enc:=encR) _ _ (λ_=>rfl) _,Below.refl _ _⟩
 intro z wx hI;obtain⟨i,f,out,ov,h9,h4,h3,hi,hf0,hf1,NN,fN,rK,bC⟩:=hI;have BV:=bC.size;push_cast -dsimp[h9,h4,h3];refine⟨λbZ=>?_,λgh=>?_⟩
 ·have hg:=bK (l:=s) (i:=i) (by omega);obtain⟨x,hx,lO,hdx,_⟩:=hg;have hb:=cu s (-2) hr i x hx;obtain⟨b1,b2,b3,_⟩:=hb;have hg:=(hv.below bC).get hx;obtain⟨b,o,rfl,zJ,aP⟩:=hg;have cx:aB wx ⟨b,o+i*2,none⟩ 0 2=some [.int .i64 x.1,.int .i64 x.2]:=bL (encR x) 0 (λj u hu=>by simpa using aP j u hu);have eM:=rK.slice;obtain⟨oa,oc,rfl⟩:=eM;rw[hdx,nh]at fN;push_cast -dsimp[cx];refine⟨⟨by omega,by omega⟩,?_⟩;refine aR (z:=[.int .i64 0,.int .i64 0]) (by kernel_rfl) ?_;intro w3 bO;have Li:=bO.size;push_cast -dsimp;refine aF (n:=2) (by kernel_rfl) bO.aN rfl (by simp) (by simp[Value.oneCell']) ?_;intro w4 aj;have sz4:w4.heap.size=w3.heap.size:=aj.size;have c0:w4.cell? ⟨wx.heap.size,0,none⟩=some (.int .i64 x.1):=aj.aN.cell rfl;have c1:w4.cell? ⟨wx.heap.size,1,none⟩=some (.int .i64 x.2):=aj.aN.cell rfl;have k4:Kept (λj=>j=wx.heap.size) wx w4:=(Kept.new bO).trans aj.kept (λ_ _ h=>h);have Ht:=rK.ak k4 (λg hg h=>by have:=rK.block g hg;omega);have fo:Below w.heap.size w w4:=bC.trans (k4.below BV (λ_ h=>by omega));push_cast -dsimp[c0,c1];refine⟨λbZ=>?_,λgh=>?_⟩
  ·rw[if_pos bZ,<-List.append_assoc]at fN;refine⟨⟨by omega,by omega⟩,?_⟩;refine cY fQ rfl rfl (by omega) ?_;intro w7 dN;have Yj:=dN.size;have pF:=Ht.new dN;push_cast -dsimp;refine ae (base:=w.heap.size) [(f,x.1-1)] (enc:=encR) fQ pF (by rfl) (λj u hu=>by simpa[encR] using dN.cell hu) gS (by simp only[List.length_cons,List.length_nil];omega) (by omega) ?_;intro v8 w8 qu EF hn8;have k8:Kept (λj=>(Value.slice oa out.length oc).ownBlock=some j) w4 w8:=(Kept.new (X:=λj=>(Value.slice oa out.length oc).ownBlock=some j) dN).trans (Kept.grown EF (λ_ h=>h)) (λ_ _ h=>h);have kW:Below w.heap.size w w8:=fo.trans (k8.below (by omega) (λg h=>(Ht.block g h).1));have d1:w8.cell? ⟨wx.heap.size,1,none⟩=some (.int .i64 x.2):=k8.cell c1 (λh=>by have h2:w.heap.size<=wx.heap.size/\wx.heap.size<wx.heap.size:=rK.block _ h;omega);push_cast -dsimp[d1];exact⟨⟨by omega,by omega⟩,⟨by omega,by omega⟩,⟨i+1,x.2+1,out++[(f,x.1-1)],_,rfl,rfl,rfl,by omega,by omega,by omega,by rw[List.length_append,List.length_singleton];omega,fN,qu,kW⟩,by rw[h9];simp only[intOf];omega⟩
  rw[if_neg (by omega),List.nil_append]at fN;exact⟨⟨by omega,by omega⟩,⟨by omega,by omega⟩,⟨i+1,x.2+1,out,_,rfl,rfl,rfl,by omega,by omega,by omega,by omega,fN,Ht,fo⟩,by rw[h9];simp only[intOf];omega⟩
 have NL:i=s.length:=by omega
 subst NL;have eM:=rK.slice;obtain⟨oa,oc,rfl⟩:=eM;rw[List.drop_length,nh]at fN;refine⟨λhle=>?_,λNK=>?_⟩
 ·rw[if_pos hle]at fN;refine cY fQ rfl rfl (by omega) ?_;intro w7 dN;have Yj:=dN.size;have pF:=rK.new dN;push_cast -dsimp;refine ae (base:=w.heap.size) [(f,1114111)] (enc:=encR) fQ pF (by rfl) (λj u hu=>by simpa[encR] using dN.cell hu) gS (by simp only[List.length_cons,List.length_nil];omega) (by omega) ?_;intro v8 w8 qu EF hn8;have k8:Kept (λj=>(Value.slice oa out.length oc).ownBlock=some j) wx w8:=(Kept.new (X:=λj=>(Value.slice oa out.length oc).ownBlock=some j) dN).trans (Kept.grown EF (λ_ h=>h)) (λ_ _ h=>h);rw[fN]at qu;push_cast -dsimp;exact⟨qu,bC.trans (k8.below BV (λg h=>(rK.block g h).1))⟩
 rw[if_neg (by omega),List.append_nil]at fN;subst fN;exact⟨rK,bC⟩
theorem vx {α β:Type}(L:List α)(f:α->List β)(i:Nat):((L.take i).flatMap f).length<=(L.flatMap f).length:=by
 conv=>rhs;rw[<-List.take_append_drop i L,List.flatMap_append,List.length_append]
 omega
theorem RJ (Ls:List (Value×List Rg))(hl:(Ls.flatMap (·.2)).length<100000000)(hn:Ls.length<1000000)(X:Nat->Prop)(g c:Nat)(hc:Ls.length<=c)(w:World)
  (hv:∀(i:Nat) (p:Value×List Rg),Ls[i]?=some p->w.cell? ⟨g,i,none⟩=some p.1/\Sl X 2 (En encR) w p.1 p.2/\Arg p.1) :
  bD Tryz.prog 101 [.slice (some ⟨g,0,none⟩) Ls.length c] w λr w'=>Vc.Own w.heap.size 104 2 encR w' r (Ls.flatMap (·.2))/\Below w.heap.size w w':=by
 refine aE Tryz.func101 rfl (by kernel_rfl) [2] rfl ?_;push_cast -dsimp(maxSteps:=4000000) [Tryz.ntmps101];refine aM [3,5,11,12,13,14,15,16,17,18,19,20,21,22] (λz wx=>∃(i:Nat),z 11=.int .i64 i/\z 3=.int .i64 (((Ls.take i).flatMap (·.2)).length:Nat)/\i<=Ls.length/\wx=w) (λz _=>Ls.length-(intOf (z 11)).toNat) ?_ ?_
 ·exact⟨0,rfl,rfl,Nat.zero_le _,rfl⟩
 intro z wx hI;obtain⟨i,FZ,h3,hi,rfl⟩:=hI;have lC:=vx Ls (·.2) i;have aKg:=vx Ls (·.2) (i+1);push_cast -dsimp[FZ,h3];refine⟨λbZ=>?_,λgh=>?_⟩
 ·have hg:=bK (l:=Ls) (i:=i) (by omega);obtain⟨p,hp,_,_,ht⟩:=hg;have hvp:=hv i p hp;obtain⟨c0,hs,hA⟩:=hvp;have MI:=c0;have e1:((Ls.take (i+1)).flatMap (·.2)).length=((Ls.take i).flatMap (·.2)).length+p.2.length:=by
   rw[ht,List.flatMap_append,List.length_append];simp
  have eM:=hs.shape;obtain⟨pa,pc,hpv,nC⟩:=eM;rw[hpv]at MI;push_cast -dsimp[MI];refine⟨⟨by omega,by omega⟩,⟨by omega,by omega⟩,λh=>absurd h (by omega),λ_=>⟨⟨by omega,by omega⟩,⟨i+1,rfl,by rw[e1,Int.natCast_add],by omega⟩,by rw[FZ];simp only[intOf];omega⟩⟩
 have NL:i=Ls.length:=by omega
 subst NL;rw[List.take_length];refine aA (aA8 _ (by omega) wx) ?_;rintro v1 w1 ⟨GK,de⟩;have sT:=de.size;push_cast -dsimp;refine aM [6,8,27,28,29,30,31,32,33,34] (λz w2=>∃(i:Nat) (ov:Value),z 27=.int .i64 i/\z 6=ov/\i<=Ls.length/\Vc.Own wx.heap.size 104 2 encR w2 ov ((Ls.take i).flatMap (·.2))/\Below wx.heap.size wx w2) (λz _=>Ls.length-(intOf (z 27)).toNat) ?_ ?_
 ·exact⟨0,_,rfl,rfl,Nat.zero_le _,GK,de⟩
 intro y w2 hJ;obtain⟨i,ov,h27,h6,hi,ow,eW⟩:=hJ;have KN:=eW.size;have lC:=vx Ls (·.2) i;have aKg:=vx Ls (·.2) (i+1);push_cast -dsimp[h27,h6];refine⟨λbZ=>?_,λgh=>?_⟩
 ·have hg:=bK (l:=Ls) (i:=i) (by omega);obtain⟨p,hp,_,_,ht⟩:=hg;have hvp:=hv i p hp;obtain⟨c0,hs,hA⟩:=hvp;have MI:w2.cell? ⟨g,i,none⟩=some p.1:=(eW.cell (World.block_lt_of_cell? _ _ c0)).trans c0;have eM:=hs.shape;obtain⟨pa,pc,hpv,nC⟩:=eM;rw[hpv]at MI hs hA;have e1:(Ls.take (i+1)).flatMap (·.2)=(Ls.take i).flatMap (·.2)++p.2:=by
   rw[ht,List.flatMap_append];simp
  have e2:=congrArg List.length e1;rw[List.length_append]at e2;have eM:=ow.slice;obtain⟨oa,oc,rfl⟩:=eM;push_cast -dsimp[MI];refine⟨⟨by omega,by omega⟩,?_⟩;refine jh (base:=wx.heap.size) (enc:=encR) (ys:=p.2) fQ ow (hs.below eW) hA gS (by omega) (by omega) ?_;intro v3 w3 uM hg3 ft;rw[<-e1]at uM;push_cast -dsimp;exact⟨⟨by omega,by omega⟩,⟨i+1,_,rfl,rfl,by omega,uM,eW.trans ft⟩,by rw[h27];simp only[intOf];omega⟩
 have NL:i=Ls.length:=by omega
 subst NL;rw[List.take_length]at ow;have eM:=ow.slice;obtain⟨oa,oc,rfl⟩:=eM;exact⟨ow,eW⟩
theorem aHi (s t:List Rg)(hs:s.length<10000000)(ht:t.length<10000000)(X:Nat->Prop)(va vb:Value)(w:World)(sS:Sl X 2 (En encR) w va s)(tp:Sl X 2 (En encR) w vb t)(hA:Arg va)(hB:Arg vb) :
  bD Tryz.prog 68 [va,vb] w λr w'=>Vc.Own w.heap.size 104 2 encR w' r (pA s t)/\Below w.heap.size w w':=by
 have eM:=sS.shape;obtain⟨a1,c1,e1,_⟩:=eM;have eM:=tp.shape;obtain⟨a2,c2,e2,_⟩:=eM;refine aE Tryz.func68 rfl (by kernel_rfl) [4] rfl ?_;push_cast -dsimp(maxSteps:=4000000) [Tryz.ntmps68];refine cY Wv (by rw[e1,e2];rfl) rfl (by omega) ?_;intro w1 au;have sT:=au.size;have d0:=au.cell (j:=0) (u:=va) (by rw[e1,e2];rfl);have d1:=au.cell (j:=1) (u:=vb) (by rw[e1,e2];rfl);push_cast -dsimp;refine aA (RJ [(va,s),(vb,t)] (by simp;omega) (by simp) X w.heap.size 2 (by simp) w1 ?_) ?_
 ·intro i p hp;match i,hp with
  | 0,hp=>cases hp;exact⟨d0,sS.below au.below,hA⟩
  | 1,hp=>cases hp;exact⟨d1,tp.below au.below,hB⟩
  | n+2,hp=>cases hp
 rintro v2 w2 ⟨ow,eW⟩;rw[show [(va,s),(vb,t)].flatMap (·.2)=s++t by simp]at ow
 push_cast -dsimp;refine aA (aLK (s++t) (by rw[List.length_append];omega) _ _ w2 ow.sl ow.dH) ?_;rintro v3 w3 ⟨uM,ft⟩;push_cast -dsimp;have KN:=eW.size;exact⟨uM.mono (by omega),(au.below.trans (eW.mono (by omega))).trans (ft.mono (by omega))⟩
theorem ZW (s t:List Rg)(hs:s.length<1000000)(ht:t.length<1000000)(fO:aH (-2) s=true)(uO:aH (-2) t=true)(X:Nat->Prop)(va vb:Value)(w:World)(sS:Sl X 2 (En encR) w va s)(tp:Sl X 2 (En encR) w vb t) :
  bD Tryz.prog 69 [va,vb] w λr w'=>Vc.Own w.heap.size 104 2 encR w' r (nF s t)/\Below w.heap.size w w':=by
 have n1:=sE s;have n2:=sE t;have n3:=Og (fm s) (fm t);refine aE Tryz.func69 rfl (by kernel_rfl) [4] rfl ?_;push_cast -dsimp(maxSteps:=4000000) [Tryz.ntmps69];refine aA (Gk s (by omega) fO X va w sS) ?_;rintro v1 w1 ⟨GK,de⟩;have sT:=de.size;push_cast -dsimp;refine aA (Gk t (by omega) uO X vb w1 (tp.below de)) ?_;rintro v2 w2 ⟨ow,eW⟩;have KN:=eW.size;push_cast -dsimp;refine aA (aHi (fm s) (fm t) (by omega) (by omega) (λ_=>False) v1 v2 w2 ((GK.sl.weaken (λ_ h=>h.elim)).below eW) (ow.sl.weaken (λ_ h=>h.elim)) GK.dH ow.dH) ?_;rintro v3 w3 ⟨uM,ft⟩;have Li:=ft.size;push_cast -dsimp;refine aA (Gk (pA (fm s) (fm t)) (by omega) (kQ _ _) (λ_=>False) v3 w3 (uM.sl.weaken (λ_ h=>h.elim))) ?_;rintro v4 w4 ⟨Ht,fo⟩;push_cast -dsimp;exact⟨Ht.mono (by omega),((de.trans (eW.mono (by omega))).trans (ft.mono (by omega))).trans (fo.mono (by omega))⟩
theorem aCC (s t:List Rg)(hs:s.length<900000)(ht:t.length<900000)(fO:aH (-2) s=true)(uO:aH (-2) t=true)(X:Nat->Prop)(va vb:Value)(w:World)(sS:Sl X 2 (En encR) w va s)(tp:Sl X 2 (En encR) w vb t) :
  bD Tryz.prog 70 [va,vb] w λr w'=>Vc.Own w.heap.size 104 2 encR w' r (lU s t)/\Below w.heap.size w w':=by
 have n2:=sE t;refine aE Tryz.func70 rfl (by kernel_rfl) [4] rfl ?_;push_cast -dsimp(maxSteps:=4000000) [Tryz.ntmps70];refine aA (Gk t (by omega) uO X vb w tp) ?_;rintro v2 w2 ⟨ow,eW⟩;have KN:=eW.size;push_cast -dsimp;refine aA (ZW s (fm t) (by omega) (by omega) fO (gN uO) (λ_=>False) va v2 w2 ((sS.below eW).weaken (λ_ h=>h.elim)) (ow.sl.weaken (λ_ h=>h.elim))) ?_;rintro v3 w3 ⟨uM,ft⟩;push_cast -dsimp;exact⟨uM.mono (by omega),eW.trans (ft.mono (by omega))⟩
def gH (X:Nat->Prop)(w:World)(b:Nat)(nm:bP):Prop:=∃gD:List (List UInt8×Value),mP (λl:List UInt8=>str l) w b gD/\dd (λkv x=>kv.1=x.1/\Sl X 2 (En encR) w kv.2 x.2/\Arg kv.2) gD nm
theorem gH.below {X:Nat->Prop}{w w':World}{b:Nat}{nm:bP}(h:gH X w b nm)(hb:Below w.heap.size w w'):gH X w' b nm:=by
 obtain⟨gD,h2,h3⟩:=h;exact⟨gD,h2.below hb h2.lt,h3.imp λa b h=>⟨h.1,h.2.1.below hb,h.2.2⟩⟩
theorem gH.find {X:Nat->Prop}{w:World}{n:List UInt8}:∀{gD:List (List UInt8×Value)} {nm:bP},dd (λkv x=>kv.1=x.1/\Sl X 2 (En encR) w kv.2 x.2/\Arg kv.2) gD nm ->
  (rG n nm=none/\eN n gD=none)\/∃s u,rG n nm=some s/\eN n gD=some u/\Sl X 2 (En encR) w u s/\Arg u:=by
 intro gD nm h;induction h with
 | nil=>exact .inl ⟨rfl,rfl⟩
 | @cons kv x l m h1 h2 ih =>
  obtain⟨e,hs,ha⟩:=h1;by_cases hn:x.1=n
  ·exact .inr ⟨x.2,kv.2,by rw[rG,if_pos hn],by rw[eN,if_pos (by rw[e,hn])],hs,ha⟩
  rw[rG,if_neg hn,eN,if_neg (λh=>hn (by rw[<-e,<-h]))];exact ih
def dU (X:Nat->Prop)(B:Nat)(nm:bP)(k:ax)(r:Value)(w:World):Prop:=match ay nm k with
 | .ok s=>∃v,r=.tuple #[v,.nilIface]/\Sl (λb=>X b/\b<B) 2 (En encR) w v s/\Arg v
 | .error e=>∃b,B<=b/\r=.tuple #[.slice none 0 0,.iface 96 (.pointer (some ⟨b,0,none⟩))]/\aO w b 97 [.int .i64 7,.int .i64 e]
theorem CD:∀(k:ax),fY k->∀(nm:bP),fZ nm->∀(X:Nat->Prop) (v:Value) (b:Nat) (w:World),eC X w v k->gH X w b nm ->
  bD Tryz.prog 36 [v,.map (some b)] w λr w'=>dU X w.heap.size nm k r w'/\Below w.heap.size w w':=by
 intro k;induction k with
 | lit pos s =>
  rintro cD nm hr X v mb w ⟨b,sv,rfl,hb,hB,hs,ha⟩ hm;have d0:w.cell? ⟨b,0,none⟩=some (.int .i64 1):=hB.cell rfl;have d2:w.cell? ⟨b,2,none⟩=some sv:=hB.cell rfl;obtain⟨_,_,rfl,_⟩:=hs.shape
  (refine aE Tryz.func36 rfl (by kernel_rfl) [4,5] rfl ?_;push_cast -dsimp(maxSteps:=4000000) [Tryz.ntmps36]);push_cast -dsimp[d0,d2];exact⟨⟨_,rfl,hs.weaken (λb hh=>hh.1),ha⟩,Below.refl _ _⟩
 | ref pos n =>
  rintro cD nm hr X v mb w ⟨b,rfl,hb,hB⟩ hm;have d0:w.cell? ⟨b,0,none⟩=some (.int .i64 2):=hB.cell rfl;have d1:w.cell? ⟨b,1,none⟩=some (.int .i64 pos):=hB.cell rfl;have d3:w.cell? ⟨b,3,none⟩=some (str n):=hB.cell rfl;obtain⟨gD,hM,hA⟩:=hm;have hf:=gH.find (n:=n) hA
  (refine aE Tryz.func36 rfl (by kernel_rfl) [4,5] rfl ?_;push_cast -dsimp(maxSteps:=4000000) [Tryz.ntmps36]);push_cast -dsimp[d0,d1,d3];rcases hf with ⟨f1,f2⟩|⟨s,u,f1,f2,hs,ha⟩
  ·refine lP (kt:=9) (et:=44) (z:=.slice none 0 0) (by kernel_rfl) (gL (by kernel_rfl)) (by kernel_rfl) hM rfl f2 ?_;push_cast -dsimp;have d1d:w.drew.cell? ⟨b,1,none⟩=some (.int .i64 pos):=d1;refine aX (λw'=>w'.cell? ⟨b,1,none⟩=some (.int .i64 pos)) mixed (by kernel_rfl) d1 ?_;push_cast -dsimp[d1d];refine⟨λar h=>by rw[h];exact rfl,?_⟩;refine ah ?_;intro w2 bT;have bT:qR w.drew w2 97 [.int .i64 7,.int .i64 pos]:=bT;have bZ:=hB.lt;have eW:Below w.heap.size w w2:=((Kept.refl (λ_=>False) w).drew.below (Nat.le_refl _) (λ_ h=>h.elim)).trans bT.below;refine⟨(eW.cell (by show b<_;omega)).trans d1,?_⟩
   push_cast -dsimp;refine⟨?_,eW⟩;unfold dU;rw[show ay nm (.ref pos n)=.error pos from by rw[ay,f1]]
   exact⟨w.heap.size,Nat.le_refl _,rfl,bT.aN⟩
  refine lQ (kt:=9) (et:=44) (z:=.slice none 0 0) (by kernel_rfl) (gL (by kernel_rfl)) (by kernel_rfl) hM rfl f2 ?_;obtain⟨_,_,rfl,_⟩:=hs.shape;push_cast -dsimp;refine⟨?_,Below.refl _ _⟩;unfold dU;rw[show ay nm (.ref pos n)=.ok s from by rw[ay,f1]]
  exact⟨_,rfl,hs.weaken (λb hh=>hh.1),ha⟩
 | not pos k ih =>
  rintro cD nm hr X v mb w ⟨b,u,rfl,hb,hB,h1⟩ hm;obtain⟨b1,rfl,de⟩:=h1.ptr;have d0:w.cell? ⟨b,0,none⟩=some (.int .i64 6):=hB.cell rfl;have d4:w.cell? ⟨b,4,none⟩=some (.pointer (some ⟨b1,0,none⟩)):=hB.cell rfl
  (refine aE Tryz.func36 rfl (by kernel_rfl) [4,5] rfl ?_;push_cast -dsimp(maxSteps:=4000000) [Tryz.ntmps36]);push_cast -dsimp[d0,d4];refine aA (ih cD nm hr X _ mb w h1 hm) ?_;rintro r w1 ⟨hR,jd⟩;have z1:=jd.size;have iK:=hB.below jd hB.lt;have e0:w1.cell? ⟨b,0,none⟩=some (.int .i64 6):=iK.cell rfl;unfold dU at hR;cases hk:ay nm k with
  | ok s =>
   rw[hk]at hR;obtain⟨v1,rfl,eY,zH⟩:=hR;have fO:=cA (k:=k) hr cD hk;have hle:=dt fO;push_cast -dsimp[e0];refine aA (Gk s (by omega) fO _ _ w1 eY) ?_;rintro v2 w2 ⟨ow,eW⟩;have Hp:=jd.trans (eW.mono z1);have Pn:Arg v2:=ow.dH;obtain⟨_,_,rfl⟩:=ow.slice;push_cast -dsimp;refine⟨?_,Hp⟩;unfold dU;rw[show ay nm (.not pos k)=.ok (fm s) from by rw[ay,hk]]
   exact⟨_,rfl,ow.sl.weaken (λb hh=>by have:=hh.2;omega),Pn⟩
  | error e =>
   rw[hk]at hR;obtain⟨eb,zI,rfl,hE⟩:=hR;push_cast -dsimp;refine⟨?_,jd⟩;unfold dU;rw[show ay nm (.not pos k)=.error e from by rw[ay,hk]]
   exact⟨eb,zI,rfl,hE⟩
 | bin c pos k r ih TS =>
  rintro cD nm hr X v mb w ⟨b,u,x,rfl,hb,hB,h1,h2⟩ hm;obtain⟨b1,rfl,de⟩:=h1.ptr;obtain⟨b2,rfl,eW⟩:=h2.ptr;obtain⟨rk,uN,hc⟩:=cD;have d4:w.cell? ⟨b,4,none⟩=some (.pointer (some ⟨b1,0,none⟩)):=hB.cell rfl;rcases hc with rfl|rfl|rfl
  case inl =>
   have d0:w.cell? ⟨b,0,none⟩=some (.int .i64 3):=hB.cell rfl
   (refine aE Tryz.func36 rfl (by kernel_rfl) [4,5] rfl ?_;push_cast -dsimp(maxSteps:=4000000) [Tryz.ntmps36]);push_cast -dsimp[d0,d4];refine aA (ih rk nm hr X _ mb w h1 hm) ?_;rintro r1 w1 ⟨hR,jd⟩;have z1:=jd.size;have iK:=hB.below jd hB.lt;have e0:w1.cell? ⟨b,0,none⟩=some (.int .i64 3):=iK.cell rfl;have e5:w1.cell? ⟨b,5,none⟩=some (.pointer (some ⟨b2,0,none⟩)):=iK.cell rfl;unfold dU at hR;cases hk:ay nm k with
   | error e =>
    rw[hk]at hR;obtain⟨eb,zI,rfl,hE⟩:=hR;push_cast -dsimp;refine⟨?_,jd⟩;unfold dU;rw[show ay nm (.bin 3 pos k r)=.error e from by rw[ay,hk]]
    exact⟨eb,zI,rfl,hE⟩
   | ok s =>
    rw[hk]at hR;obtain⟨v1,rfl,eY,zH⟩:=hR;have fO:=cA hr rk hk;have hls:=dt fO;obtain⟨_,_,rfl,_⟩:=eY.shape;push_cast -dsimp[e0,e5];refine aA (TS uN nm hr X _ mb w1 (h2.below jd) (hm.below jd)) ?_;rintro r2 w2 ⟨Cy,sw⟩;have z2:=sw.size;have jD:=jd.trans (sw.mono z1);have jK:=iK.below sw iK.lt;have f0:w2.cell? ⟨b,0,none⟩=some (.int .i64 3):=jK.cell rfl;unfold dU at Cy;cases iY:ay nm r with
    | error e =>
     rw[iY]at Cy;obtain⟨eb,zI,rfl,hE⟩:=Cy;push_cast -dsimp;refine⟨?_,jD⟩;unfold dU;rw[show ay nm (.bin 3 pos k r)=.error e from by rw[ay,hk];dsimp only;rw[iY]]
     exact⟨eb,by omega,rfl,hE⟩
    | ok t =>
     rw[iY]at Cy;obtain⟨v2,rfl,iP,Pn⟩:=Cy;have uO:=cA hr uN iY;have bZ:=dt uO;obtain⟨_,_,rfl,_⟩:=iP.shape;push_cast -dsimp[f0];refine aA (aHi s t (by omega) (by omega) (λ_=>False) _ _ w2 ((eY.below sw).weaken (λ_ h=>h.elim)) (iP.weaken (λ_ h=>h.elim)) zH Pn) ?_;rintro v3 w3 ⟨uM,ft⟩;have mS:=jD.trans (ft.mono (by omega));have ha3:Arg v3:=uM.dH;obtain⟨_,_,rfl⟩:=uM.slice;push_cast -dsimp;refine⟨?_,mS⟩;unfold dU;rw[show ay nm (.bin 3 pos k r)=.ok (pA s t) from by rw[ay,hk];dsimp only;rw[iY];rfl]
     exact⟨_,rfl,uM.sl.weaken (λb hh=>by have:=hh.2;omega),ha3⟩
  case inr.inl =>
   have d0:w.cell? ⟨b,0,none⟩=some (.int .i64 4):=hB.cell rfl
   (refine aE Tryz.func36 rfl (by kernel_rfl) [4,5] rfl ?_;push_cast -dsimp(maxSteps:=4000000) [Tryz.ntmps36]);push_cast -dsimp[d0,d4];refine aA (ih rk nm hr X _ mb w h1 hm) ?_;rintro r1 w1 ⟨hR,jd⟩;have z1:=jd.size;have iK:=hB.below jd hB.lt;have e0:w1.cell? ⟨b,0,none⟩=some (.int .i64 4):=iK.cell rfl;have e5:w1.cell? ⟨b,5,none⟩=some (.pointer (some ⟨b2,0,none⟩)):=iK.cell rfl;unfold dU at hR;cases hk:ay nm k with
   | error e =>
    rw[hk]at hR;obtain⟨eb,zI,rfl,hE⟩:=hR;push_cast -dsimp;refine⟨?_,jd⟩;unfold dU;rw[show ay nm (.bin 4 pos k r)=.error e from by rw[ay,hk]]
    exact⟨eb,zI,rfl,hE⟩
   | ok s =>
    rw[hk]at hR;obtain⟨v1,rfl,eY,zH⟩:=hR;have fO:=cA hr rk hk;have hls:=dt fO;obtain⟨_,_,rfl,_⟩:=eY.shape;push_cast -dsimp[e0,e5];refine aA (TS uN nm hr X _ mb w1 (h2.below jd) (hm.below jd)) ?_;rintro r2 w2 ⟨Cy,sw⟩;have z2:=sw.size;have jD:=jd.trans (sw.mono z1);have jK:=iK.below sw iK.lt;have f0:w2.cell? ⟨b,0,none⟩=some (.int .i64 4):=jK.cell rfl;unfold dU at Cy;cases iY:ay nm r with
    | error e =>
     rw[iY]at Cy;obtain⟨eb,zI,rfl,hE⟩:=Cy;push_cast -dsimp;refine⟨?_,jD⟩;unfold dU;rw[show ay nm (.bin 4 pos k r)=.error e from by rw[ay,hk];dsimp only;rw[iY]]
     exact⟨eb,by omega,rfl,hE⟩
    | ok t =>
     rw[iY]at Cy;obtain⟨v2,rfl,iP,Pn⟩:=Cy;have uO:=cA hr uN iY;have bZ:=dt uO;obtain⟨_,_,rfl,_⟩:=iP.shape;push_cast -dsimp[f0];refine aA (ZW s t (by omega) (by omega) fO uO (λ_=>False) _ _ w2 ((eY.below sw).weaken (λ_ h=>h.elim)) (iP.weaken (λ_ h=>h.elim))) ?_;rintro v3 w3 ⟨uM,ft⟩;have mS:=jD.trans (ft.mono (by omega));have ha3:Arg v3:=uM.dH;obtain⟨_,_,rfl⟩:=uM.slice;push_cast -dsimp;refine⟨?_,mS⟩;unfold dU;rw[show ay nm (.bin 4 pos k r)=.ok (nF s t) from by rw[ay,hk];dsimp only;rw[iY];rfl]
     exact⟨_,rfl,uM.sl.weaken (λb hh=>by have:=hh.2;omega),ha3⟩
  case inr.inr =>
   have d0:w.cell? ⟨b,0,none⟩=some (.int .i64 5):=hB.cell rfl
   (refine aE Tryz.func36 rfl (by kernel_rfl) [4,5] rfl ?_;push_cast -dsimp(maxSteps:=4000000) [Tryz.ntmps36]);push_cast -dsimp[d0,d4];refine aA (ih rk nm hr X _ mb w h1 hm) ?_;rintro r1 w1 ⟨hR,jd⟩;have z1:=jd.size;have iK:=hB.below jd hB.lt;have e0:w1.cell? ⟨b,0,none⟩=some (.int .i64 5):=iK.cell rfl;have e5:w1.cell? ⟨b,5,none⟩=some (.pointer (some ⟨b2,0,none⟩)):=iK.cell rfl;unfold dU at hR;cases hk:ay nm k with
   | error e =>
    rw[hk]at hR;obtain⟨eb,zI,rfl,hE⟩:=hR;push_cast -dsimp;refine⟨?_,jd⟩;unfold dU;rw[show ay nm (.bin 5 pos k r)=.error e from by rw[ay,hk]]
    exact⟨eb,zI,rfl,hE⟩
   | ok s =>
    rw[hk]at hR;obtain⟨v1,rfl,eY,zH⟩:=hR;have fO:=cA hr rk hk;have hls:=dt fO;obtain⟨_,_,rfl,_⟩:=eY.shape;push_cast -dsimp[e0,e5];refine aA (TS uN nm hr X _ mb w1 (h2.below jd) (hm.below jd)) ?_;rintro r2 w2 ⟨Cy,sw⟩;have z2:=sw.size;have jD:=jd.trans (sw.mono z1);have jK:=iK.below sw iK.lt;have f0:w2.cell? ⟨b,0,none⟩=some (.int .i64 5):=jK.cell rfl;unfold dU at Cy;cases iY:ay nm r with
    | error e =>
     rw[iY]at Cy;obtain⟨eb,zI,rfl,hE⟩:=Cy;push_cast -dsimp;refine⟨?_,jD⟩;unfold dU;rw[show ay nm (.bin 5 pos k r)=.error e from by rw[ay,hk];dsimp only;rw[iY]]
     exact⟨eb,by omega,rfl,hE⟩
    | ok t =>
     rw[iY]at Cy;obtain⟨v2,rfl,iP,Pn⟩:=Cy;have uO:=cA hr uN iY;have bZ:=dt uO;obtain⟨_,_,rfl,_⟩:=iP.shape;push_cast -dsimp[f0];refine aA (aCC s t (by omega) (by omega) fO uO (λ_=>False) _ _ w2 ((eY.below sw).weaken (λ_ h=>h.elim)) (iP.weaken (λ_ h=>h.elim))) ?_;rintro v3 w3 ⟨uM,ft⟩;have mS:=jD.trans (ft.mono (by omega));have ha3:Arg v3:=uM.dH;obtain⟨_,_,rfl⟩:=uM.slice;push_cast -dsimp;refine⟨?_,mS⟩;unfold dU;rw[show ay nm (.bin 5 pos k r)=.ok (lU s t) from by rw[ay,hk];dsimp only;rw[iY];rfl]
     exact⟨_,rfl,uM.sl.weaken (λb hh=>by have:=hh.2;omega),ha3⟩
end Go.Proofs.YtodeeahdhnjpkaaGreatDoor
end
section
namespace Go.Proofs.YtodeeahdhnjpkaaGreatDoor
open Go.Vc Go.Proofs Go.RowKit Cae
attribute [local irreducible] cw ag aq a8 runK bD Sl Vc.Own vc aW cN ai
open Go.Sort
def Oo:Go.Shelf.Ren:=⟨λ| 191=>125|189=>80|125=>106|257=>105|128=>142|129=>143|294=>133|295=>134|296=>135|297=>136|298=>137|299=>138|216=>139|300=>140|301=>141|328=>173|329=>174|330=>175|331=>176|332=>177|215=>172|343=>205|n=>n,λ| 28=>50|0=>0|3=>3|46=>109|51=>206|53=>208|4=>4|183=>199|182=>198|131=>194|5=>5|9=>9|218=>244|222=>248|228=>272|229=>105|n=>n,λ| n=>n⟩
theorem aHs:Go.Proofs.Lays.n191 Tryz.prog Oo:={
 mixed:=by kernel_rfl
 f125:=Tryz.func106.trans (congrArg some (by kernel_rfl))
 f128:=Tryz.func142.trans (congrArg some (by kernel_rfl))
 f129:=Tryz.func143.trans (congrArg some (by kernel_rfl))
 f189:=Tryz.func80.trans (congrArg some (by kernel_rfl))
 f191:=Tryz.func125.trans (congrArg some (by kernel_rfl))
 f215:=Tryz.func172.trans (congrArg some (by kernel_rfl))
 f216:=Tryz.func139.trans (congrArg some (by kernel_rfl))
 f257:=Tryz.func105.trans (congrArg some (by kernel_rfl))
 f294:=Tryz.func133.trans (congrArg some (by kernel_rfl))
 f295:=Tryz.func134.trans (congrArg some (by kernel_rfl))
 f296:=Tryz.func135.trans (congrArg some (by kernel_rfl))
 f297:=Tryz.func136.trans (congrArg some (by kernel_rfl))
 f298:=Tryz.func137.trans (congrArg some (by kernel_rfl))
 f299:=Tryz.func138.trans (congrArg some (by kernel_rfl))
 f300:=Tryz.func140.trans (congrArg some (by kernel_rfl))
 f301:=Tryz.func141.trans (congrArg some (by kernel_rfl))
 f328:=Tryz.func173.trans (congrArg some (by kernel_rfl))
 f329:=Tryz.func174.trans (congrArg some (by kernel_rfl))
 f330:=Tryz.func175.trans (congrArg some (by kernel_rfl))
 f331:=Tryz.func176.trans (congrArg some (by kernel_rfl))
 f332:=Tryz.func177.trans (congrArg some (by kernel_rfl))
 f343:=Tryz.func205.trans (congrArg some (by kernel_rfl))
 t0:=Tryz.underlying0
 a0:=Tryz.isAgg0
 z0:=Tryz.sizeOf0
 v0:=Tryz.zeroValue0
 t3:=Tryz.underlying3
 a3:=Tryz.isAgg3
 z3:=Tryz.sizeOf3
 v3:=Tryz.zeroValue3
 t4:=Tryz.underlying4
 a4:=Tryz.isAgg4
 z4:=Tryz.sizeOf4
 v4:=Tryz.zeroValue4
 t5:=Tryz.underlying5
 a5:=Tryz.isAgg5
 z5:=Tryz.sizeOf5
 v5:=Tryz.zeroValue5
 t9:=Tryz.underlying9
 a9:=Tryz.isAgg9
 z9:=Tryz.sizeOf9
 v9:=Tryz.zeroValue9
 t28:=Tryz.underlying50
 a28:=Tryz.isAgg50
 z28:=Tryz.sizeOf50
 v28:=Tryz.zeroValue50
 t46:=Tryz.underlying109
 a46:=Tryz.isAgg109
 z46:=Tryz.sizeOf109
 v46:=Tryz.zeroValue109
 t51:=Tryz.underlying206
 a51:=Tryz.isAgg206
 z51:=Tryz.sizeOf206
 v51:=Tryz.zeroValue206
 t53:=Tryz.underlying208
 a53:=Tryz.isAgg208
 z53:=Tryz.sizeOf208
 v53:=Tryz.zeroValue208
 t131:=Tryz.underlying194
 a131:=Tryz.isAgg194
 z131:=Tryz.sizeOf194
 v131:=Tryz.zeroValue194
 t182:=Tryz.underlying198
 a182:=Tryz.isAgg198
 z182:=Tryz.sizeOf198
 v182:=Tryz.zeroValue198
 t183:=Tryz.underlying199
 a183:=Tryz.isAgg199
 z183:=Tryz.sizeOf199
 v183:=Tryz.zeroValue199
 t218:=Tryz.underlying244
 a218:=Tryz.isAgg244
 z218:=Tryz.sizeOf244
 v218:=Tryz.zeroValue244
 t222:=Tryz.underlying248
 a222:=Tryz.isAgg248
 z222:=Tryz.sizeOf248
 v222:=Tryz.zeroValue248
 t228:=Tryz.underlying272
 a228:=Tryz.isAgg272
 z228:=Tryz.sizeOf272
 v228:=Tryz.zeroValue272
 t229:=Tryz.underlying105
 a229:=Tryz.isAgg105
 z229:=Tryz.sizeOf105
 v229:=Tryz.zeroValue105 }
theorem Ag (l:List Int):l.flatMap eV=l.map (Value.int .i64):=by
 induction l with
 | nil=>rfl
 | cons x l ih=>rw[List.flatMap_cons,ih];rfl
theorem KI (l:List Int)(dA:l≠[])(hl:l.length<1000000000)(base:Nat)(v:Value)(w:World)(ho:Vc.Own base 3 1 eV w v l) :
  bD Tryz.prog 125 [v] w λr w'=>Vc.Own base 3 1 eV w' v (l.mergeSort λa b=>decide (a<=b))/\Kept (λj=>v.ownBlock=some j) w w':=by
 refine bx Tryz.func125 (by kernel_rfl) (by kernel_rfl) ?_;unfold Vc.Own at *
 obtain⟨hr,he⟩:=ho;obtain⟨hlen,⟨h0,_⟩|⟨g,cap,cur,hv,nV,hB,Ar,qm,je,rp⟩⟩:=id hr
 ·subst h0
  have:=hlen;simp at hlen;exact absurd (List.length_eq_zero_iff.1 (by omega)) dA
 subst hv;have hgs:=(Array.getElem?_eq_some_iff.1 hB).1;rw[Nat.mul_one,Ag]at rp;have hH:=holds_of_blockI (ss:=l) hB rp;refine Calls.mono (Any.sort_Ints aHs g 0 cap l w hH hgs (by omega)) ?_;rintro e w' ⟨rfl,n,os,rfl⟩;have hml:(l.mergeSort λa b=>decide (a<=b)).length=l.length:=(List.mergeSort_perm l _).length_eq;refine⟨_,rfl,⟨?_,he⟩,?_⟩
 ·have:=ownsRow_sortedI (n:=n) (os:=os) (ts:=l.mergeSort λa b=>decide (a<=b)) hml nV hB Ar qm je;rw[Ag,hml];exact this
 exact Kept.grown (grownBy_sortedI _) (λ_ h=>h)
end Go.Proofs.YtodeeahdhnjpkaaGreatDoor
end
section
namespace Go.Proofs.YtodeeahdhnjpkaaGreatDoor
open Go.Vc Go.Proofs Go.RowKit Cae
attribute [local irreducible] cw ag aq a8 runK bD Sl Vc.Own vc aW cN ai
theorem oF (s:List Rg)(p:Int)(hs:s.length<1000000000)(X:Nat->Prop)(v:Value)(w:World)(hv:Sl X 2 (En encR) w v s) :
  bD Tryz.prog 74 [v,.int .i64 p] w λr w'=>r=.bool (bm s p)/\Below w.heap.size w w':=by
 obtain⟨a,c,rfl,hc⟩:=hv.shape;refine aE Tryz.func74 rfl (by kernel_rfl) [4] rfl ?_;push_cast -dsimp(maxSteps:=4000000) [Tryz.ntmps74];refine aM [4,6,9,10,11,12,13,14,15,16,17,18,19,20,21,22,23] (λz wx=>∃(i:Nat),z 9=.int .i64 i/\i<=s.length/\(∀r∈s.take i,¬(r.1<=p/\p<=r.2))/\Below w.heap.size w wx) (λz _=>s.length-(intOf (z 9)).toNat) ?_ ?_
 ·exact⟨0,rfl,Nat.zero_le _,by simp,Below.refl _ _⟩
 intro z wx hI;obtain⟨i,h9,hi,cD,hb⟩:=hI;have BV:=hb.size;push_cast -dsimp[h9];refine⟨λbZ=>?_,λgh=>?_⟩
 ·obtain⟨r,hex⟩:=bK (l:=s) (i:=i) (by omega);have hrm:=hex.2.1;have ht:=hex.2.2.2;have qo:=(hv.below hb).get hex.1;obtain⟨b,o,rfl,hX,aP⟩:=qo;have ce:aB wx ⟨b,o+i*2,none⟩ 0 2=some [.int .i64 r.1,.int .i64 r.2]:=bL (encR r) 0 (λk u hu=>by simpa using aP k u hu);push_cast -dsimp[ce];refine⟨⟨by omega,by omega⟩,?_⟩;refine aR (z:=[.int .i64 0,.int .i64 0]) (by kernel_rfl) ?_;intro w1 au;push_cast -dsimp;refine aF (n:=2) (by kernel_rfl) au.aN rfl (by simp) (by simp[Value.oneCell']) ?_;intro w2 bT;have sT:=au.size;have jK:aO w2 wx.heap.size 104 [.int .i64 r.1,.int .i64 r.2]:=bT.aN;have f0:w2.cell? ⟨wx.heap.size,0,none⟩=some (.int .i64 r.1):=jK.cell rfl;have f1:w2.cell? ⟨wx.heap.size,1,none⟩=some (.int .i64 r.2):=jK.cell rfl;have eW:Below w.heap.size w w2:=hb.trans ((au.below.mono BV).trans (bT.kept.below (by omega) (λ_ h=>by omega)));have aLA:(r.1<=p/\p<=r.2)->Value.bool true=Value.bool (bm s p):=λh=>by
   congr 1;unfold bm;exact(List.any_eq_true.2 ⟨r,hrm,decide_eq_true h⟩).symm
  have gC:¬(r.1<=p/\p<=r.2)->∀y∈s.take (i+1),¬(y.1<=p/\p<=y.2):=λh y hy=>by
   rw[ht,List.mem_append,List.mem_singleton]at hy;rcases hy with hy|rfl
   ·exact cD y hy
   exact h
  push_cast -dsimp[f0,f1];exact⟨λq1=>⟨λq2=>⟨aLA ⟨q1,q2⟩,eW⟩,λq2=>⟨⟨by omega,by omega⟩,⟨i+1,rfl,by omega,gC (λh=>q2 h.2),eW⟩,by rw[h9];simp only[intOf];omega⟩⟩,
   λq1=>⟨⟨by omega,by omega⟩,⟨i+1,rfl,by omega,gC (λh=>q1 h.1),eW⟩,by rw[h9];simp only[intOf];omega⟩⟩
 rw[List.take_of_length_le (by omega)]at cD;refine⟨?_,hb⟩;congr 1;unfold bm;exact(List.any_eq_false.2 (λr hr h=>cD r hr (of_decide_eq_true h))).symm
def dZ (Ls:List (Value×List Rg)):List Rg:=Ls.flatMap (·.2)
theorem pR (x:Int):∀u∈eV x,u.oneCell'=true:=by simp[eV,Value.oneCell']
theorem Dj (g:Int->Bool)(f:FuncId)(cap:List Value)(Ls:List (Value×List Rg))(hl:(dZ Ls).length<3000000)(hn:Ls.length<1000)(X:Nat->Prop)(lb c:Nat)(hc:Ls.length<=c)(w:World)
  (hv:∀(i:Nat) (p:Value×List Rg),Ls[i]?=some p->w.cell? ⟨lb,i,none⟩=some p.1/\Sl X 2 (En encR) w p.1 p.2)
  (hg:wS g (dZ Ls)) (hF:∀(p:Int) (w':World),Below w.heap.size w w'->bD Tryz.prog f (.int .i64 p::cap) w' λr ar=>r=.bool (g p)/\Below w'.heap.size w' ar) :
  bD Tryz.prog 95 [.func (.func f) #[] cap.toArray,.slice (some ⟨lb,0,none⟩) Ls.length c] w λr w'=>Vc.Own w.heap.size 104 2 encR w' r (qL g (dZ Ls))/\Below w.heap.size w w':=by
 refine aE Tryz.func95 rfl (by kernel_rfl) [4] rfl ?_;push_cast -dsimp(maxSteps:=4000000) [Tryz.ntmps95];refine cY bw rfl rfl (by omega) ?_;intro w1 au;have sT:=au.size;have GK:Vc.Own w.heap.size 3 1 eV w1 (.slice (some ⟨w.heap.size,0,none⟩) 2 2) (turns (dZ (Ls.take 0))):=au.own (l:=turns (dZ (Ls.take 0))) rfl rfl (λ_=>rfl) (Nat.le_refl _) (by omega);have de:=au.below;push_cast -dsimp;refine aM [5,7,9,16,17,18,19,20,21,22,23,24,25,26,27,28,29,30,31,32,33,34,35,36,37,38,39,40,41,42,43,44] (λz wx=>∃(i:Nat) (ov:Value),z 16=.int .i64 i/\z 5=ov/\i<=Ls.length/\Vc.Own w.heap.size 3 1 eV wx ov (turns (dZ (Ls.take i)))/\Below w.heap.size w wx) (λz _=>Ls.length-(intOf (z 16)).toNat) ?_ ?_
 ·exact⟨0,_,rfl,rfl,Nat.zero_le _,GK,de⟩
 intro z wx hI;obtain⟨i,ov,zE,h5,hi,rK,bC⟩:=hI;have BV:=bC.size;push_cast -dsimp[zE,h5];refine⟨λbZ=>?_,λgh=>?_⟩
 ·obtain⟨p,hp,_,hpd,hpt⟩:=bK (l:=Ls) (i:=i) (by omega);have hvp:=hv i p hp;obtain⟨c0,hs⟩:=hvp;have MI:wx.cell? ⟨lb,i,none⟩=some p.1:=(bC.cell (World.block_lt_of_cell? _ _ c0)).trans c0;obtain⟨pv,pl⟩:=p;simp only at hs MI;obtain⟨pa,pc,rfl,nC⟩:=hs.shape;have eT:turns (dZ (Ls.take (i+1)))=turns (dZ (Ls.take i))++pl.flatMap fC:=by
   rw[hpt];unfold dZ;rw[List.flatMap_append,PJ];simp
  have aQT:(dZ (Ls.take i)).length+pl.length<=(dZ Ls).length:=by
   have e:=congrArg (λl=>(dZ l).length) (List.take_append_drop i Ls);simp only[dZ,hpd,List.flatMap_append,List.flatMap_cons,List.length_append]at e ⊢
   omega
  have hgT:∃T0,turns (dZ (Ls.take i))=T0:=⟨_,rfl⟩;obtain⟨T0,hT0⟩:=hgT;have hTl:=BW (dZ (Ls.take i));rw[hT0]at rK eT hTl;push_cast -dsimp[MI];refine⟨⟨by omega,by omega⟩,?_⟩;refine aM [5,9,22,23,24,25,26,27,28,29,30,31,32,33,34,35,36,37,38,39,40,41,42,43] (λy wy=>∃(j:Nat) (ou:Value),y 22=.int .i64 j/\y 5=ou/\j<=pl.length/\Vc.Own w.heap.size 3 1 eV wy ou (T0++(pl.take j).flatMap fC)/\Below w.heap.size w wy) (λy _=>pl.length-(intOf (y 22)).toNat) ?_ ?_
  ·exact⟨0,_,rfl,rfl,Nat.zero_le _,by rw[List.take_zero,List.flatMap_nil,List.append_nil];exact rK,bC⟩
  intro y wy hJ;obtain⟨j,ou,Zf,Dz,hj,Pv,cp⟩:=hJ;have szy:=cp.size;have Zs:=xS (pl.take j);rw[List.length_take]at Zs;push_cast -dsimp[Zf,Dz];refine⟨λJL=>?_,λSg=>?_⟩
  ·have hgx:=bK (l:=pl) (i:=j) (by omega);obtain⟨x,hx,lO,_,hxt⟩:=hgx;have hgx:=(hs.below cp).get hx;obtain⟨b,o,rfl,zJ,aP⟩:=hgx;have cx:aB wy ⟨b,o+j*2,none⟩ 0 2=some [.int .i64 x.1,.int .i64 x.2]:=bL (encR x) 0 (λj u hu=>by simpa using aP j u hu);have eT2:T0++(pl.take (j+1)).flatMap fC=T0++(pl.take j).flatMap fC++fC x:=by
    rw[hxt,List.flatMap_append];simp
   have hgU:∃U0,T0++(pl.take j).flatMap fC=U0:=⟨_,rfl⟩;obtain⟨U0,hU0⟩:=hgU;have hUl:=congrArg List.length hU0;rw[List.length_append]at hUl;rw[hU0]at Pv eT2;have eM:=Pv.slice;obtain⟨ya,yc,rfl⟩:=eM;push_cast -dsimp[cx];refine⟨⟨by omega,by omega⟩,?_⟩;refine aR (z:=[.int .i64 0,.int .i64 0]) (by kernel_rfl) ?_;intro w3 bO;have Li:=bO.size;push_cast -dsimp;refine aF (n:=2) (by kernel_rfl) bO.aN rfl (by simp) (by simp[Value.oneCell']) ?_;intro w4 aj;have sz4:=aj.size;have B4:aO w4 wy.heap.size 104 [.int .i64 x.1,.int .i64 x.2]:=aj.aN;have c1:w4.cell? ⟨wy.heap.size,0,none⟩=some (.int .i64 x.1):=B4.cell rfl;have c2:w4.cell? ⟨wy.heap.size,1,none⟩=some (.int .i64 x.2):=B4.cell rfl;have k4:Kept (λj=>j=wy.heap.size) wy w4:=(Kept.new bO).trans aj.kept (λ_ _ h=>h);have Ht:=Pv.ak k4 (λg hg h=>by have:=Pv.block g hg;omega);have fo:Below w.heap.size w w4:=cp.trans (k4.below szy (λ_ h=>by omega));push_cast -dsimp[c1];refine aA (HE x.1 0 1114111 w4) ?_;rintro _ w4 ⟨rfl,rfl⟩;have fin:∀(t5:Value) (w5:World) (V:List Int),fC x=V->Vc.Own w.heap.size 3 1 eV w5 t5 (U0++V)->Vc.Own w.heap.size 3 1 eV w5 t5 (T0++(pl.take (j+1)).flatMap fC):=λt5 w5 V e h=>by rw[eT2,e];exact h
   have dn:∀k:Int,¬(0<=k/\k<=1114111)->decide (0<=k/\k<=1114111)=false:=λk h=>decide_eq_false h;have dy:∀k:Int,(0<=k/\k<=1114111)->decide (0<=k/\k<=1114111)=true:=λk h=>decide_eq_true h;by_cases q1:0<=x.1/\x.1<=1114111
   ·have e1:=dy _ q1;push_cast -dsimp[c1,e1];refine cY bw rfl rfl (by omega) ?_;intro wa1 TM;have aRt:=TM.size;have aGB:=(Ht).new TM;push_cast -dsimp;refine ae (base:=w.heap.size) [x.1] (enc:=eV) bw aGB (by rfl) (λj u hu=>by simpa[eV] using TM.cell hu) pR (by simp only[List.length_append,List.length_cons,List.length_nil];omega) (by omega) ?_;intro vb1 wb1 p9 aKq _;have kk1:=Kept.grown aKq (λ_ h=>h);have aGl:Below w.heap.size w wb1:=((fo).trans (TM.below.mono (by omega))).trans (kk1.below (by omega) (λj h=>(aGB.block j h).1));have z1:=kk1.size;have e2:wb1.cell? ⟨wy.heap.size,1,none⟩=some (.int .i64 x.2):=((B4.below TM.below B4.lt).kept kk1 (λh=>by have:=Pv.block _ h;omega)).cell rfl;have eM:=p9.slice;obtain⟨za,zc,rfl⟩:=eM;push_cast -dsimp[e2];refine aA (HE x.2 0 1114111 wb1) ?_;rintro _ wb1 ⟨rfl,rfl⟩;by_cases q2:0<=x.2/\x.2<=1114111
    ·have e3:=dy _ q2;push_cast -dsimp[e2,e3];refine⟨⟨by omega,by omega⟩,?_⟩;refine cY bw rfl rfl (by omega) ?_;intro wa2 X5;have aRu:=X5.size;have aGC:=(p9).new X5;push_cast -dsimp;refine ae (base:=w.heap.size) [(x.2+1)] (enc:=eV) bw aGC (by rfl) (λj u hu=>by simpa[eV] using X5.cell hu) pR (by simp only[List.length_append,List.length_cons,List.length_nil];omega) (by omega) ?_;intro vb2 wb2 aGE aKr _;have kk2:=Kept.grown aKr (λ_ h=>h);have aKE:Below w.heap.size w wb2:=((aGl).trans (X5.below.mono (by omega))).trans (kk2.below (by omega) (λj h=>(aGC.block j h).1));push_cast -dsimp;exact⟨⟨by omega,by omega⟩,⟨j+1,_,rfl,rfl,by omega,fin _ _ [x.1,x.2+1] (by unfold fC;rw[if_pos q1,if_pos q2];rfl) (by rw[List.append_assoc]at aGE;exact aGE),aKE⟩,by rw[Zf];simp only[intOf];omega⟩
    have e3:=dn _ q2;push_cast -dsimp[e3];exact⟨⟨by omega,by omega⟩,⟨j+1,_,rfl,rfl,by omega,fin _ _ [x.1] (by unfold fC;rw[if_pos q1,if_neg q2];rfl) p9,aGl⟩,by rw[Zf];simp only[intOf];omega⟩
   have e1:=dn _ q1;push_cast -dsimp[c2,e1];refine aA (HE x.2 0 1114111 w4) ?_;rintro _ w4 ⟨rfl,rfl⟩;by_cases q2:0<=x.2/\x.2<=1114111
   ·have e3:=dy _ q2;push_cast -dsimp[c2,e3];refine⟨⟨by omega,by omega⟩,?_⟩;refine cY bw rfl rfl (by omega) ?_;intro wa3 X6;have aRv:=X6.size;have aGD:=(Ht).new X6;push_cast -dsimp;refine ae (base:=w.heap.size) [(x.2+1)] (enc:=eV) bw aGD (by rfl) (λj u hu=>by simpa[eV] using X6.cell hu) pR (by simp only[List.length_append,List.length_cons,List.length_nil];omega) (by omega) ?_;intro vb3 wb3 aK2 aKs _;have kk3:=Kept.grown aKs (λ_ h=>h);have aKF:Below w.heap.size w wb3:=((fo).trans (X6.below.mono (by omega))).trans (kk3.below (by omega) (λj h=>(aGD.block j h).1));push_cast -dsimp;exact⟨⟨by omega,by omega⟩,⟨j+1,_,rfl,rfl,by omega,fin _ _ [x.2+1] (by unfold fC;rw[if_neg q1,if_pos q2];rfl) aK2,aKF⟩,by rw[Zf];simp only[intOf];omega⟩
   have e3:=dn _ q2;push_cast -dsimp[e3];exact⟨⟨by omega,by omega⟩,⟨j+1,_,rfl,rfl,by omega,fin _ _ [] (by unfold fC;rw[if_neg q1,if_neg q2];rfl) (by rw[List.append_nil];exact Ht),fo⟩,by rw[Zf];simp only[intOf];omega⟩
  rw[List.take_of_length_le (by omega),<-eT]at Pv;exact⟨⟨by omega,by omega⟩,⟨i+1,_,rfl,rfl,by omega,Pv,cp⟩,by rw[zE];simp only[intOf];omega⟩
 rw[List.take_of_length_le (by omega)]at rK;have hts:=Dk (dZ Ls);have GO:=BW (dZ Ls);have hgA:∃A,(turns (dZ Ls)).mergeSort (λa b=>decide (a<=b))=A:=⟨_,rfl⟩;obtain⟨A,hA⟩:=hgA;refine aA (KI (turns (dZ Ls)) (λh=>by have:=congrArg List.length h;unfold turns at this;simp at this) (by omega) _ _ wx rK) ?_;rintro r2 w2 ⟨hoA,iY⟩;have KN:=iY.size;rw[hA]at hoA hts;have hAl:=hts.1.length_eq;have eW:Below w.heap.size w w2:=bC.trans (iY.below BV (λj h=>(rK.block j h).1));have hT:qL g (dZ Ls)=oZ g [] A:=by unfold qL;rw[hA]
 have eM:=hoA.slice;obtain⟨va,vc,rfl⟩:=eM;have aKm:=KQ (g:=g) hts.1 hts.2;have hA2:2<=A.length:=by rw[hAl];unfold turns;rw[List.length_append];simp
 have hsA:=hoA.sl;push_cast -dsimp;refine aM [10,11,12,47,48,49,50,51,52,53,54,55,56,57,58,59,60,61,62,63,64,65,66,67,68,69,70,71,72,73,74,75,76,77,78,79,80,81,82,83,84,85,86,87,88,89,90,91,92,93,94,95,96,97,98,99,100,101,102,103,104,105,106,107,108,109,110,111,112,113,114,115] (λy wy=>∃(k:Nat) (ov:Value) (out:List Rg) (a:Int),y 11=.int .i64 k/\y 10=ov/\A[k]?=some a/\mX g out a/\oZ g out (A.drop k)=qL g (dZ Ls)/\out.length<=k/\Vc.Own w2.heap.size 104 2 encR wy ov out/\Below w2.heap.size w2 wy) (λy _=>A.length-(intOf (y 11)).toNat) ?_ ?_
 ·obtain⟨a0,ha0,hI0⟩:=aKm;exact⟨0,_,[],a0,rfl,rfl,ha0,hI0,hT.symm,Nat.le_refl _,Vc.Own.nil (enc:=encR) _ _ (λ_=>rfl) _,Below.refl _ _⟩
 intro y wy hJ;obtain⟨k,ov,out,a,FZ,nH,ha,hIa,p6,NN,Pv,cp⟩:=hJ;have szy:=cp.size;have EG:=(List.getElem?_eq_some_iff.1 ha).1;push_cast -dsimp[FZ,nH];refine⟨⟨by omega,by omega⟩,λbZ=>?_,λgh=>?_⟩
 ·have vh:=bK (l:=A) (i:=k+1) (by omega);obtain⟨b,hb,_⟩:=vh;have qt:=PF hts.1 hts.2 hg ha hb hIa;obtain⟨XL,h0a,Ks,hbm⟩:=qt;have cO:=HZ (g:=g) (out:=out) ha hb;have rL:=KL g out a b;have ek:((k:Int)+1).toNat=k+1:=by omega
  have ox:=hsA.below cp;have qo:=ox.get ha;obtain⟨ab,ao,rfl,aQB,hca⟩:=qo;have qo:=ox.get hb;obtain⟨_,_,JG,_,hcb⟩:=qo;cases JG;have ca:wy.drew.cell? ⟨ab,ao+k,none⟩=some (.int .i64 a):=by have:=hca 0 _ rfl;simpa using this
  have cb:wy.drew.cell? ⟨ab,ao+(k+1),none⟩=some (.int .i64 b):=by have:=hcb 0 _ rfl;simpa using this
  have lab:=World.block_lt_of_cell? _ _ ca;refine aX (λw'=>Below w2.heap.size w2 w') mixed (by kernel_rfl) cp.drew ?_;have La:∀ar:World,Below w2.heap.size w2 ar->ar.cell? ⟨ab,ao+k,none⟩=some (.int .i64 a):=λar h=>by
   have h':=(hsA.below h).get ha;obtain⟨_,_,JG,_,Sb⟩:=h';cases JG
   have:=Sb 0 _ rfl;simpa using this
  have Lb:∀ar:World,Below w2.heap.size w2 ar->ar.cell? ⟨ab,ao+(k+1),none⟩=some (.int .i64 b):=λar h=>by
   have h':=(hsA.below h).get hb;obtain⟨_,_,JG,_,Sb⟩:=h';cases JG
   have:=Sb 0 _ rfl;simpa using this
  have La':∀ar:World,Below w2.heap.size w2 ar->pJ (ar.cell? ⟨ab,ao+k,none⟩) (λx=>x=.int .i64 a) .mk:=λar h=>by rw[La ar h];exact rfl
  have Lb':∀ar:World,Below w2.heap.size w2 ar->pJ (ar.cell? ⟨ab,ao+(k+1),none⟩) (λx=>x=.int .i64 b) .mk:=λar h=>by rw[Lb ar h];exact rfl
  push_cast -dsimp[ca,cb,ek];refine⟨⟨by omega,by omega⟩,La',⟨by omega,by omega⟩,⟨by omega,by omega⟩,Lb',λdA=>⟨⟨by omega,by omega⟩,La',?_⟩,λheq=>⟨⟨by omega,by omega⟩,?_,by rw[FZ];simp only[intOf];omega⟩⟩
  ·refine aA (hF a wy.drew (eW.trans (cp.mono eW.size).drew)) ?_;rintro _ w3 ⟨rfl,ft⟩;have Li:=ft.size;have aK4:=Pv.ak (Kept.refl (λ_=>False) wy).drew (λ_ _ h=>h);have GM:=aK4.below ft;have Fs:Below w2.heap.size w2 w3:=cp.drew.trans (ft.mono szy);refine⟨Fs,?_⟩;cases hga:g a with
   | false =>
    have hso:ju g out a b=out:=by unfold ju;rw[if_pos (.inr hga)]
    rw[hso]at XL cO;push_cast -dsimp;exact⟨⟨by omega,by omega⟩,⟨k+1,_,out,b,rfl,rfl,hb,XL,cO.symm.trans p6,by omega,GM,Fs⟩,by rw[FZ];simp only[intOf];omega⟩
   | true =>
    have hso:ju g out a b=nD out a b:=by unfold ju;rw[if_neg (by rintro(h|h);exact dA h;rw[hga]at h;cases h)]
    rw[hso]at XL cO rL;have eM:=GM.slice;obtain⟨oa,oc,rfl⟩:=eM;have ca3:=La _ Fs;have cb3:=Lb _ Fs;push_cast -dsimp;cases hn:out.length with
    | zero =>
     have DD:out=[]:=List.eq_nil_of_length_eq_zero hn;subst DD;refine aX (λw'=>w'=w3.drew) mixed (by kernel_rfl) rfl ?_;push_cast -dsimp;have hC0:=Fs.drew;have SL:=hC0.drew;have fa:=La _ SL;have fb:=Lb _ SL;have GL:=(GM.ak (Kept.refl (λ_=>False) _).drew (λ_ _ h=>h));have aBZ:=GL.ak (Kept.refl (λ_=>False) _).drew (λ_ _ h=>h);refine aX (λw'=>Below w2.heap.size w2 w') mixed (by kernel_rfl) SL ?_;push_cast -dsimp[fa,fb,ek];refine⟨⟨by omega,by omega⟩,La',⟨by omega,by omega⟩,⟨by omega,by omega⟩,Lb',⟨by omega,by omega⟩,?_⟩;refine cY fQ rfl rfl (by omega) ?_;intro w7 dN;have Yj:=dN.size;have XI:=SL.trans (dN.below.mono SL.size);have pF:=aBZ.new dN;refine⟨XI,?_⟩;push_cast -dsimp;refine ae (base:=w2.heap.size) [(a,b-1)] (enc:=encR) fQ pF (by rfl) (λj u hu=>by simpa[encR] using dN.cell hu) gS (by simp only[List.length_cons,List.length_nil];omega) XI.size ?_;intro v8 w8 qu EF _;have k8:=Kept.grown EF (λ_ h=>h);have hC8:=XI.trans (k8.below XI.size (λj h=>(pF.block j h).1));refine⟨hC8,?_⟩;push_cast -dsimp;exact⟨⟨by omega,by omega⟩,⟨k+1,_,_,b,rfl,rfl,hb,XL,cO.symm.trans p6,Nat.le_trans rL (by simp),qu,hC8⟩,by rw[FZ];simp only[intOf];omega⟩
    | succ n =>
     have e6:((n:Nat):Int)+1-1=((n:Nat):Int):=by omega
     have hq:=List.getElem?_eq_getElem (l:=out) (i:=n) (by omega);have uH:∃q,out[n]'(by omega)=q:=⟨_,rfl⟩;obtain⟨q,hqe⟩:=uH;rw[hqe]at hq;have xd:out.getLast?=some q:=by rw[List.getLast?_eq_getElem?,hn];exact hq
     have hqr:=cu out (-2) hIa.right n q hq;have hg:=GM.sl.get hq;obtain⟨gb,o',rfl,_,Hq⟩:=hg;have ho0:o'=0:=Vc.Own.aEN GM;subst ho0;have c2:w3.drew.cell? ⟨gb,n*2+1,none⟩=some (.int .i64 q.2):=by have:=Hq 1 _ rfl;simpa using this
     have L:∀{ad:Addr} {u:Value},w3.drew.cell? ad=some u->∀ar:World,ar=w3.drew->pJ (ar.cell? ad) (λx=>x=u) .mk:=λh ar e=>by rw[e,h];exact rfl
     have ca4:w3.drew.cell? ⟨ab,ao+k,none⟩=some (.int .i64 a):=ca3;refine aX (λw'=>w'=w3.drew) mixed (by kernel_rfl) rfl ?_;have Qy:w3.drew.cell? ⟨ab,ao+(k+1),none⟩=some (.int .i64 b):=cb3;push_cast -dsimp[e6,c2,ca4,Qy,ek];rw[hn]at GM;refine⟨λ_=>⟨⟨by omega,by omega⟩,⟨by omega,by omega⟩,L c2,⟨by omega,by omega⟩,⟨by omega,by omega⟩,L ca4,λhm=>?_,λhm=>?_⟩,λh=>absurd h (by omega)⟩
     ·have pH:nD out a b=out.set n (q.1,b-1):=by
       unfold nD;rw[xd];dsimp only;rw[if_pos hm,List.dropLast_eq_take,hn,List.set_eq_take_append_cons_drop,if_pos (by omega),List.drop_eq_nil_of_le (by omega)];rfl
      rw[pH]at XL cO rL;refine⟨⟨by omega,by omega⟩,⟨by omega,by omega⟩,⟨by omega,by omega⟩,⟨by omega,by omega⟩,⟨by omega,by omega⟩,?_⟩;have Hu:=GM.ak (Kept.refl (λ_=>False) _).drew (λ_ _ h=>h);refine BU (i:=n) (f:=1) (y:=(q.1,b-1)) Hu rfl hq (by omega) rfl rfl ?_;intro w8 qu hk8 sz8;have aP8:=(Hu.block gb rfl).1;have hC8:=Fs.drew.trans (hk8.below Fs.drew.size (λj h=>by omega));push_cast -dsimp;exact⟨⟨by omega,by omega⟩,⟨k+1,_,_,b,rfl,rfl,hb,XL,cO.symm.trans p6,by omega,qu,hC8⟩,by rw[FZ];simp only[intOf];omega⟩
     have pH:nD out a b=out++[(a,b-1)]:=by
      unfold nD;rw[xd];dsimp only;rw[if_neg hm]
     have hC0:=Fs.drew;have SL:=hC0.drew;have fa:=La _ SL;have fb:=Lb _ SL;have GL:=(GM.ak (Kept.refl (λ_=>False) _).drew (λ_ _ h=>h));have aBZ:=GL.ak (Kept.refl (λ_=>False) _).drew (λ_ _ h=>h);refine aX (λw'=>Below w2.heap.size w2 w') mixed (by kernel_rfl) SL ?_;push_cast -dsimp[fa,fb,ek];refine⟨⟨by omega,by omega⟩,La',⟨by omega,by omega⟩,⟨by omega,by omega⟩,Lb',⟨by omega,by omega⟩,?_⟩;refine cY fQ rfl rfl (by omega) ?_;intro w7 dN;have Yj:=dN.size;have XI:=SL.trans (dN.below.mono SL.size);have pF:=aBZ.new dN;refine⟨XI,?_⟩;push_cast -dsimp;refine ae (base:=w2.heap.size) [(a,b-1)] (enc:=encR) fQ pF (by rfl) (λj u hu=>by simpa[encR] using dN.cell hu) gS (by simp only[List.length_cons,List.length_nil];omega) XI.size ?_;intro v8 w8 qu EF _;have k8:=Kept.grown EF (λ_ h=>h);have hC8:=XI.trans (k8.below XI.size (λj h=>(pF.block j h).1));refine⟨hC8,?_⟩;push_cast -dsimp;exact⟨⟨by omega,by omega⟩,⟨k+1,_,_,b,rfl,rfl,hb,(pH▸XL),(by rw[<-pH];exact cO.symm.trans p6),(by rw[<-pH];omega),qu,hC8⟩,by rw[FZ];simp only[intOf];omega⟩
  have hso:ju g out a b=out:=by unfold ju;rw[if_pos (.inl heq)]
  rw[hso]at XL cO;exact⟨k+1,_,out,b,rfl,rfl,hb,XL,cO.symm.trans p6,by omega,Pv.ak (Kept.refl (λ_=>False) _).drew (λ_ _ h=>h),cp.drew⟩
 rw[KP (by omega)]at p6;rw[p6]at Pv;exact⟨Pv.mono (by omega),eW.trans (cp.mono (by omega))⟩
theorem aC5 (s t:List Rg)(hs:s.length<1000000)(ht:t.length<1000000)(X:Nat->Prop)(va vb:Value)(pa pb:Nat)(p:Int)(w:World)(sS:Sl X 2 (En encR) w va s)(tp:Sl X 2 (En encR) w vb t)(ca:w.cell? ⟨pa,0,none⟩=some va)(cb:w.cell? ⟨pb,0,none⟩=some vb) :
  bD Tryz.prog 97 [.int .i64 p,.pointer (some ⟨pa,0,none⟩),.pointer (some ⟨pb,0,none⟩)] w λr w'=>r=.bool ((λp=>bm s p || bm t p) p)/\Below w.heap.size w w':=by
 refine aE Tryz.func97 rfl (by kernel_rfl) [4] rfl ?_;push_cast -dsimp(maxSteps:=4000000) [Tryz.ntmps97];push_cast -dsimp[ca];refine aA (oF s p (by omega) X va w sS) ?_;rintro _ w1 ⟨rfl,de⟩;have cb1:w1.cell? ⟨pb,0,none⟩=some vb:=(de.cell (World.block_lt_of_cell? w _ cb)).trans cb;have hz:=de.size;cases hh:bm s p<;>push_cast -dsimp[cb1]<;>first|exact⟨by simp[hh],de⟩|(refine aA (oF t p (by omega) X vb w1 (tp.below de)) ?_;rintro _ w2 ⟨rfl,eW⟩;push_cast -dsimp;exact⟨by simp[hh],de.trans (eW.mono hz)⟩)
theorem aHn (s t:List Rg)(hs:s.length<600000)(ht:t.length<600000)(fO:aH (-2) s=true)(uO:aH (-2) t=true)(X:Nat->Prop)(va vb:Value)(w:World)(sS:Sl X 2 (En encR) w va s)(tp:Sl X 2 (En encR) w vb t) :
  bD Tryz.prog 64 [va,vb] w λr w'=>Vc.Own w.heap.size 104 2 encR w' r (pA s t)/\Below w.heap.size w w':=by
 have e1:=sS.shape;obtain⟨a1,c1,e1,_⟩:=e1;have e2:=tp.shape;obtain⟨a2,c2,e2,_⟩:=e2;refine aE Tryz.func64 rfl (by kernel_rfl) [4] rfl ?_;push_cast -dsimp(maxSteps:=4000000) [Tryz.ntmps64];refine ah ?_;intro w1 au;have sT:=au.size;have d1:=au.cell (j:=0) (u:=va) (by rw[e1];rfl);push_cast -dsimp;refine ah ?_;intro w2 bT;have KN:=bT.size;have d2:=bT.cell (j:=0) (u:=vb) (by rw[e2];rfl);have Z8:w2.cell? ⟨w.heap.size,0,none⟩=some va:=(bT.below.cell (by rw[sT];exact Nat.lt_succ_self _)).trans d1;have b2:Below w.heap.size w w2:=au.below.trans (bT.below.mono (by omega));push_cast -dsimp[Z8,d2];refine cY wB (by rw[e1,e2];rfl) rfl (by omega) ?_;intro w3 bO;have Li:=bO.size;have b3:Below w.heap.size w w3:=b2.trans (bO.below.mono (by omega));have c0:=bO.cell (j:=0) (u:=va) (by rw[e1,e2];rfl);have Z4:=bO.cell (j:=1) (u:=vb) (by rw[e1,e2];rfl);have f1:w3.cell? ⟨w.heap.size,0,none⟩=some va:=(bO.below.cell (by show w.heap.size<_;omega)).trans Z8
 have f2:w3.cell? ⟨w1.heap.size,0,none⟩=some vb:=(bO.below.cell (by show w1.heap.size<_;omega)).trans d2
 push_cast -dsimp;refine aA (Dj (λp=>bm s p || bm t p) _ [.pointer (some ⟨w.heap.size,0,none⟩),.pointer (some ⟨w1.heap.size,0,none⟩)] [(va,s),(vb,t)] (by simp[dZ];omega) (by simp) X w2.heap.size 2 (by simp) w3 ?_ ?_ ?_) ?_
 ·intro i p hp;match i,hp with
  | 0,hp=>cases hp;exact⟨c0,sS.below b3⟩
  | 1,hp=>cases hp;exact⟨Z4,tp.below b3⟩
  | n+2,hp=>cases hp
 ·intro p q hr;simp only;rw[fE s (λr h=>by simp[dZ,h]) p q hr,fE t (λr h=>by simp[dZ,h]) p q hr]
 ·intro p w' pW;exact aC5 s t (by omega) (by omega) X va vb _ _ p w' ((sS.below b3).below pW) ((tp.below b3).below pW) ((pW.cell (by show w.heap.size<_;omega)).trans f1) ((pW.cell (by show w1.heap.size<_;omega)).trans f2)
 rintro r w4 ⟨ho,fo⟩;have e:dZ [(va,s),(vb,t)]=s++t:=by simp[dZ]
 rw[e,Yq fO uO]at ho;push_cast -dsimp;exact⟨ho.mono (by omega),b3.trans (fo.mono (by omega))⟩
theorem Y5 (s t:List Rg)(hs:s.length<1000000)(ht:t.length<1000000)(X:Nat->Prop)(va vb:Value)(pa pb:Nat)(p:Int)(w:World)(sS:Sl X 2 (En encR) w va s)(tp:Sl X 2 (En encR) w vb t)(ca:w.cell? ⟨pa,0,none⟩=some va)(cb:w.cell? ⟨pb,0,none⟩=some vb) :
  bD Tryz.prog 98 [.int .i64 p,.pointer (some ⟨pa,0,none⟩),.pointer (some ⟨pb,0,none⟩)] w λr w'=>r=.bool ((λp=>bm s p && bm t p) p)/\Below w.heap.size w w':=by
 refine aE Tryz.func98 rfl (by kernel_rfl) [4] rfl ?_;push_cast -dsimp(maxSteps:=4000000) [Tryz.ntmps98];push_cast -dsimp[ca];refine aA (oF s p (by omega) X va w sS) ?_;rintro _ w1 ⟨rfl,de⟩;have cb1:w1.cell? ⟨pb,0,none⟩=some vb:=(de.cell (World.block_lt_of_cell? w _ cb)).trans cb;have hz:=de.size;cases hh:bm s p<;>push_cast -dsimp[cb1]<;>first|exact⟨by simp[hh],de⟩|(refine aA (oF t p (by omega) X vb w1 (tp.below de)) ?_;rintro _ w2 ⟨rfl,eW⟩;push_cast -dsimp;exact⟨by simp[hh],de.trans (eW.mono hz)⟩)
theorem aC3 (s t:List Rg)(hs:s.length<600000)(ht:t.length<600000)(fO:aH (-2) s=true)(uO:aH (-2) t=true)(X:Nat->Prop)(va vb:Value)(w:World)(sS:Sl X 2 (En encR) w va s)(tp:Sl X 2 (En encR) w vb t) :
  bD Tryz.prog 65 [va,vb] w λr w'=>Vc.Own w.heap.size 104 2 encR w' r (nF s t)/\Below w.heap.size w w':=by
 have e1:=sS.shape;obtain⟨a1,c1,e1,_⟩:=e1;have e2:=tp.shape;obtain⟨a2,c2,e2,_⟩:=e2;refine aE Tryz.func65 rfl (by kernel_rfl) [4] rfl ?_;push_cast -dsimp(maxSteps:=4000000) [Tryz.ntmps65];refine ah ?_;intro w1 au;have sT:=au.size;have d1:=au.cell (j:=0) (u:=va) (by rw[e1];rfl);push_cast -dsimp;refine ah ?_;intro w2 bT;have KN:=bT.size;have d2:=bT.cell (j:=0) (u:=vb) (by rw[e2];rfl);have Z8:w2.cell? ⟨w.heap.size,0,none⟩=some va:=(bT.below.cell (by rw[sT];exact Nat.lt_succ_self _)).trans d1;have b2:Below w.heap.size w w2:=au.below.trans (bT.below.mono (by omega));push_cast -dsimp[Z8,d2];refine cY wB (by rw[e1,e2];rfl) rfl (by omega) ?_;intro w3 bO;have Li:=bO.size;have b3:Below w.heap.size w w3:=b2.trans (bO.below.mono (by omega));have c0:=bO.cell (j:=0) (u:=va) (by rw[e1,e2];rfl);have Z4:=bO.cell (j:=1) (u:=vb) (by rw[e1,e2];rfl);have f1:w3.cell? ⟨w.heap.size,0,none⟩=some va:=(bO.below.cell (by show w.heap.size<_;omega)).trans Z8
 have f2:w3.cell? ⟨w1.heap.size,0,none⟩=some vb:=(bO.below.cell (by show w1.heap.size<_;omega)).trans d2
 push_cast -dsimp;refine aA (Dj (λp=>bm s p && bm t p) _ [.pointer (some ⟨w.heap.size,0,none⟩),.pointer (some ⟨w1.heap.size,0,none⟩)] [(va,s),(vb,t)] (by simp[dZ];omega) (by simp) X w2.heap.size 2 (by simp) w3 ?_ ?_ ?_) ?_
 ·intro i p hp;match i,hp with
  | 0,hp=>cases hp;exact⟨c0,sS.below b3⟩
  | 1,hp=>cases hp;exact⟨Z4,tp.below b3⟩
  | n+2,hp=>cases hp
 ·intro p q hr;simp only;rw[fE s (λr h=>by simp[dZ,h]) p q hr,fE t (λr h=>by simp[dZ,h]) p q hr]
 ·intro p w' pW;exact Y5 s t (by omega) (by omega) X va vb _ _ p w' ((sS.below b3).below pW) ((tp.below b3).below pW) ((pW.cell (by show w.heap.size<_;omega)).trans f1) ((pW.cell (by show w1.heap.size<_;omega)).trans f2)
 rintro r w4 ⟨ho,fo⟩;have e:dZ [(va,s),(vb,t)]=s++t:=by simp[dZ]
 rw[e,VQ fO uO]at ho;push_cast -dsimp;exact⟨ho.mono (by omega),b3.trans (fo.mono (by omega))⟩
theorem U9 (s t:List Rg)(hs:s.length<1000000)(ht:t.length<1000000)(X:Nat->Prop)(va vb:Value)(pa pb:Nat)(p:Int)(w:World)(sS:Sl X 2 (En encR) w va s)(tp:Sl X 2 (En encR) w vb t)(ca:w.cell? ⟨pa,0,none⟩=some va)(cb:w.cell? ⟨pb,0,none⟩=some vb) :
  bD Tryz.prog 99 [.int .i64 p,.pointer (some ⟨pa,0,none⟩),.pointer (some ⟨pb,0,none⟩)] w λr w'=>r=.bool ((λp=>bm s p && !bm t p) p)/\Below w.heap.size w w':=by
 refine aE Tryz.func99 rfl (by kernel_rfl) [4] rfl ?_;push_cast -dsimp(maxSteps:=4000000) [Tryz.ntmps99];push_cast -dsimp[ca];refine aA (oF s p (by omega) X va w sS) ?_;rintro _ w1 ⟨rfl,de⟩;have cb1:w1.cell? ⟨pb,0,none⟩=some vb:=(de.cell (World.block_lt_of_cell? w _ cb)).trans cb;have hz:=de.size;cases hh:bm s p<;>push_cast -dsimp[cb1]<;>first|exact⟨by simp[hh],de⟩|(refine aA (oF t p (by omega) X vb w1 (tp.below de)) ?_;rintro _ w2 ⟨rfl,eW⟩;push_cast -dsimp;exact⟨by simp[hh],de.trans (eW.mono hz)⟩)
theorem Y6 (s t:List Rg)(hs:s.length<600000)(ht:t.length<600000)(fO:aH (-2) s=true)(uO:aH (-2) t=true)(X:Nat->Prop)(va vb:Value)(w:World)(sS:Sl X 2 (En encR) w va s)(tp:Sl X 2 (En encR) w vb t) :
  bD Tryz.prog 66 [va,vb] w λr w'=>Vc.Own w.heap.size 104 2 encR w' r (lU s t)/\Below w.heap.size w w':=by
 have e1:=sS.shape;obtain⟨a1,c1,e1,_⟩:=e1;have e2:=tp.shape;obtain⟨a2,c2,e2,_⟩:=e2;refine aE Tryz.func66 rfl (by kernel_rfl) [4] rfl ?_;push_cast -dsimp(maxSteps:=4000000) [Tryz.ntmps66];refine ah ?_;intro w1 au;have sT:=au.size;have d1:=au.cell (j:=0) (u:=va) (by rw[e1];rfl);push_cast -dsimp;refine ah ?_;intro w2 bT;have KN:=bT.size;have d2:=bT.cell (j:=0) (u:=vb) (by rw[e2];rfl);have Z8:w2.cell? ⟨w.heap.size,0,none⟩=some va:=(bT.below.cell (by rw[sT];exact Nat.lt_succ_self _)).trans d1;have b2:Below w.heap.size w w2:=au.below.trans (bT.below.mono (by omega));push_cast -dsimp[Z8,d2];refine cY wB (by rw[e1,e2];rfl) rfl (by omega) ?_;intro w3 bO;have Li:=bO.size;have b3:Below w.heap.size w w3:=b2.trans (bO.below.mono (by omega));have c0:=bO.cell (j:=0) (u:=va) (by rw[e1,e2];rfl);have Z4:=bO.cell (j:=1) (u:=vb) (by rw[e1,e2];rfl);have f1:w3.cell? ⟨w.heap.size,0,none⟩=some va:=(bO.below.cell (by show w.heap.size<_;omega)).trans Z8
 have f2:w3.cell? ⟨w1.heap.size,0,none⟩=some vb:=(bO.below.cell (by show w1.heap.size<_;omega)).trans d2
 push_cast -dsimp;refine aA (Dj (λp=>bm s p && !bm t p) _ [.pointer (some ⟨w.heap.size,0,none⟩),.pointer (some ⟨w1.heap.size,0,none⟩)] [(va,s),(vb,t)] (by simp[dZ];omega) (by simp) X w2.heap.size 2 (by simp) w3 ?_ ?_ ?_) ?_
 ·intro i p hp;match i,hp with
  | 0,hp=>cases hp;exact⟨c0,sS.below b3⟩
  | 1,hp=>cases hp;exact⟨Z4,tp.below b3⟩
  | n+2,hp=>cases hp
 ·intro p q hr;simp only;rw[fE s (λr h=>by simp[dZ,h]) p q hr,fE t (λr h=>by simp[dZ,h]) p q hr]
 ·intro p w' pW;exact U9 s t (by omega) (by omega) X va vb _ _ p w' ((sS.below b3).below pW) ((tp.below b3).below pW) ((pW.cell (by show w.heap.size<_;omega)).trans f1) ((pW.cell (by show w1.heap.size<_;omega)).trans f2)
 rintro r w4 ⟨ho,fo⟩;have e:dZ [(va,s),(vb,t)]=s++t:=by simp[dZ]
 rw[e,PC fO uO]at ho;push_cast -dsimp;exact⟨ho.mono (by omega),b3.trans (fo.mono (by omega))⟩
theorem Y7 (s:List Rg)(hs:s.length<1000000)(X:Nat->Prop)(va:Value)(pa:Nat)(p:Int)(w:World)(sS:Sl X 2 (En encR) w va s)(ca:w.cell? ⟨pa,0,none⟩=some va) :
  bD Tryz.prog 96 [.int .i64 p,.pointer (some ⟨pa,0,none⟩)] w λr w'=>r=.bool ((λp=>!bm s p) p)/\Below w.heap.size w w':=by
 refine aE Tryz.func96 rfl (by kernel_rfl) [3] rfl ?_;push_cast -dsimp(maxSteps:=4000000) [Tryz.ntmps96];push_cast -dsimp[ca];refine aA (oF s p (by omega) X va w sS) ?_;rintro _ w1 ⟨rfl,de⟩;push_cast -dsimp;exact de
theorem aC4 (s:List Rg)(hs:s.length<600000)(fO:aH (-2) s=true)(X:Nat->Prop)(va:Value)(w:World)(sS:Sl X 2 (En encR) w va s) :
  bD Tryz.prog 63 [va] w λr w'=>Vc.Own w.heap.size 104 2 encR w' r (fm s)/\Below w.heap.size w w':=by
 have e1:=sS.shape;obtain⟨a1,c1,e1,_⟩:=e1;refine aE Tryz.func63 rfl (by kernel_rfl) [2] rfl ?_;push_cast -dsimp(maxSteps:=4000000) [Tryz.ntmps63];refine ah ?_;intro w1 au;have sT:=au.size;have d1:=au.cell (j:=0) (u:=va) (by rw[e1];rfl);push_cast -dsimp[d1];refine cY wB (by rw[e1];rfl) rfl (by omega) ?_;intro w3 bO;have Li:=bO.size;have b3:Below w.heap.size w w3:=au.below.trans (bO.below.mono (by omega));have c0:=bO.cell (j:=0) (u:=va) (by rw[e1];rfl);have f1:w3.cell? ⟨w.heap.size,0,none⟩=some va:=(bO.below.cell (by show w.heap.size<_;omega)).trans d1
 push_cast -dsimp;refine aA (Dj (λp=>!bm s p) _ [.pointer (some ⟨w.heap.size,0,none⟩)] [(va,s)] (by simp[dZ];omega) (by simp) X w1.heap.size 1 (by simp) w3 ?_ ?_ ?_) ?_
 ·intro i p hp;match i,hp with
  | 0,hp=>cases hp;exact⟨c0,sS.below b3⟩
  | n+1,hp=>cases hp
 ·intro p q hr;simp only;rw[fE s (λr h=>by simp[dZ,h]) p q hr]
 ·intro p w' pW;exact Y7 s (by omega) X va _ p w' ((sS.below b3).below pW) ((pW.cell (by show w.heap.size<_;omega)).trans f1)
 rintro r w4 ⟨ho,fo⟩;have e:dZ [(va,s)]=s:=by simp[dZ]
 rw[e,VR fO]at ho;push_cast -dsimp;exact⟨ho.mono (by omega),b3.trans (fo.mono (by omega))⟩
end Go.Proofs.YtodeeahdhnjpkaaGreatDoor
end
section
namespace Go.Vc
section
variable {P:Program}
def RU (id:Nat)(Q:EP)(M:List Nat)(t:Fr)(J:(Nat->Value)->World->Prop)(_:Ph (Q,t,J)):EP
 | .exit i,t',w'=>i=id/\t'=ov t M (at_ t')/\J (at_ t') w'
 | .panic c,t',w'=>Q (.panic c) t' w'
 | _,_,_=>False
theorem kR {c:Code}{id:Nat}{t:Fr}{w:World}{Q:EP}{p q}(M:List Nat)(J:(Nat->Value)->World->Prop)(h1:cw P c (RU id Q M t J .mk) t w .mk)
  (h2:∀z w',J z w'->Q .normal (ov t M z) w'):cw P c (jB id Q p) t w q:=by
 refine yw ?_ h1;intro e t' w' h;cases e<;>simp only[RU]at h
 case exit i =>
  obtain⟨rfl,ht,hJ⟩:=h;rw[ui,ht];exact h2 _ _ hJ
 case panic c=>exact h
theorem MV {id:Nat}{Q:EP}{M:List Nat}{t t':Fr}{w':World}{J:(Nat->Value)->World->Prop}(p):RU id Q M t J p (.exit id) t' w'=(t'=ov t M (at_ t')/\J (at_ t') w'):=by simp[RU]
theorem Ie {id:Nat}{Q:EP}{M:List Nat}{t t':Fr}{w':World}{J:(Nat->Value)->World->Prop}(c)(p):RU id Q M t J p (.panic c) t' w'=Q (.panic c) t' w':=(rfl)
attribute [push_cast] MV Ie
end
end Go.Vc
end
section
namespace Go.Vc
open Go.RowKit
section
variable {P:Program} {t:Fr} {w:World} {Q:EP}
theorem cC {c:Code}{p}(h:vc P c Q t w .mk):cw P c Q t w p:=nt c Q t w h
theorem fK {a b:Code}{p}(h:cw P a (np (λt w=>cw P b Q t w .mk) Q .mk) t w .mk):cw P (.seq a b) Q t w p:=by
 unfold cw at h ⊢
 refine wp_seq (Code.wp_mono ?_ h);rintro e a' w' ⟨hd,hh⟩;cases e<;>simp only[np]at hh<;>simp only[Exit.then]<;>first|exact⟨hd,hh⟩|skip
 rw[wX hd];exact hh
theorem aD {a b:Code}{p}(h:vc P a (np (λt w=>cw P b Q t w .mk) Q .mk) t w .mk):cw P (.seq a b) Q t w p:=fK (nt _ _ _ _ h)
theorem mO {a b:Code}{p}(M:List Nat)(J:(Nat->Value)->World->Prop)(h1:vc P a (λe t' w'=>e=.normal/\t'=ov t M (at_ t')/\J (at_ t') w') t w .mk)
  (h2:∀z w',J z w'->cw P b Q (ov t M z) w' .mk):cw P (.seq a b) Q t w p:=by
 refine fK (yw ?_ (nt _ _ _ _ h1));rintro e t' w' ⟨rfl,ht,hJ⟩
 show cw P b Q t' w' .mk
 rw[ht];exact h2 _ _ hJ
theorem dr {i:Nat}{c:Code}{p}(h:cw P c (jB i Q .mk) t w .mk):cw P (.block i c) Q t w p:=by
 unfold cw at h ⊢
 refine wp_block (Code.wp_mono ?_ h);rintro e a' w' ⟨hd,hh⟩;cases e<;>simp only[jB]at hh<;>simp only[Exit.inBlock]<;>first|exact⟨hd,hh⟩|skip
 split at hh
 ·rename_i e;simp only[e,if_true];exact⟨hd,hh⟩
 rename_i e;simp only[e,if_false];exact⟨hd,hh⟩
theorem jP {c:Code}{p}(M:List Nat)(I:(Nat->Value)->World->Prop)(μ:(Nat->Value)->World->Nat)(h0:I (at_ t) w)
  (hr:∀z w',I z w'->cw P c (np (λYk ar=>Yk=ov t M (at_ Yk)/\I (at_ Yk) ar/\μ (at_ Yk) ar<μ z w') Q .mk) (ov t M z) w' .mk):cw P (.loop c) Q t w p:=by
 unfold cw;refine wp_loop (λa w'=>a.defers=[]/\a.tmps.toList=ov t M (at_ a.tmps.toList)/\I (at_ a.tmps.toList) w') (λa w'=>μ (at_ a.tmps.toList) w') ⟨rfl,by simp[UO],by simpa using h0⟩ ?_;rintro a w' ⟨hd,ht,hI⟩;have h1:=hr _ w' hI;unfold cw at h1;rw[<-ht]at h1;rw[wX hd];refine Code.wp_mono ?_ h1;rintro e a' ar ⟨Zm,hh⟩;cases e<;>simp only[np]at hh<;>simp only[Exit.then]<;>first|exact⟨Zm,hh⟩|skip
 exact⟨⟨Zm,hh.1,hh.2.1⟩,by simpa using hh.2.2⟩
theorem Aj {f:FuncId}{fn:Func}{c:Code}{args:List Value}{R:VK}(hf:P.funcs[f]?=some fn)(hb:fn.body=some c)(hn:(fn.name == "runtime.NumGoroutine")=false)
  (rs:List Tmp) (fO:fn.results=(rs.map ResultVar.tmp).toArray) (h:cw P c (vm rs R .mk) (sq args fn.ntmps) w .mk):bD P f args w R:=by
 refine⟨cR hf (by simp[hb]) hn,calls_of_wp hf hb ?_⟩;unfold cw at h;have e:(args.toArray++Array.replicate (fn.ntmps-args.toArray.size) undef)=(sq args fn.ntmps).toArray:=by simp[sq]
 rw[e];refine Code.wp_mono ?_ h;rintro e a w' ⟨hd,hh⟩;have ha:a.tmps.toList.toArray=a.tmps:=by simp
 cases e<;>simp only[vm]at hh<;>first|exact hh.elim|skip
 ·exact⟨hd,_,by rw[<-ha];exact mj fn rs fO _,_,rfl,hh⟩
 exact⟨hd,_,by rw[<-ha];exact mj fn rs fO _,_,rfl,hh⟩
theorem cM {f:FuncId}{fn:Func}{c:Code}{args:List Value}{R:VK}(hf:P.funcs[f]?=some fn)(hb:fn.body=some c)(hn:(fn.name == "runtime.NumGoroutine")=false)
  (rs:List ResultVar) (fO:fn.results=rs.toArray) (h:cw P c (Gz P rs R .mk) (sq args fn.ntmps) w .mk):bD P f args w R:=by
 refine⟨cR hf (by simp[hb]) hn,calls_of_wp hf hb ?_⟩;unfold cw at h;have e:(args.toArray++Array.replicate (fn.ntmps-args.toArray.size) undef)=(sq args fn.ntmps).toArray:=by simp[sq]
 rw[e];refine Code.wp_mono ?_ h;rintro e a w' ⟨hd,hh⟩;have ha:a.tmps.toList.toArray=a.tmps:=by simp
 cases e<;>simp only[Gz]at hh<;>first|exact hh.elim|skip
 ·obtain⟨vs,hv,hk⟩:=dL fn rs fO _ _ hh;exact⟨hd,_,by rw[<-ha];exact hv,_,rfl,hk⟩
 obtain⟨vs,hv,hk⟩:=dL fn rs fO _ _ hh;exact⟨hd,_,by rw[<-ha];exact hv,_,rfl,hk⟩
end
end Go.Vc
end
