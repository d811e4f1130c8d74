/- Texts of this claim, merged: PatN, Has, So1, Grow, Sort, So2, Not, Conc, Mn1, Pwd0, Mn2, Mn3, Cl0, Ms, EqN, Mt, Pmean5, Putf, Utf, Dec, Mn4. -/
import Derived.Test.YtemjejfpadnljaaGreatDoorM8
import Derived.Sort.Grow
import Derived.Shelf.Spec.SlicesGrow
import Derived.Shelf.SlSortCmp.WholeK
import Derived.Shelf.SlSortCmp.NoneTotal
import Derived.Shelf.Sort.Plain
import Derived.Shelf.Slices.CompactI
import Derived.Lib.SlicesCompact
import Derived.Ground.Names2Prog
import Derived.Lib.RowBridge
import Derived.Shelf.Slices.In.SortNone
set_option maxRecDepth 100000
set_option linter.unusedSimpArgs false
set_option linter.unusedVariables false
set_option maxHeartbeats 8000000
section
namespace Go.Proofs.YtemjejfpadnljaaGreatDoor
open Go.Vc Go.Proofs Go.RowKit Cae
attribute [local irreducible] cg aa ag aX runK ar Sl Vc.Own vc aQ br a7
theorem dI (w:World):Below w.heap.size w w.drew:=((Kept.refl (λ_=>False) w).drew).below (Nat.le_refl _) (λ_ h=>h.elim)
theorem eX.drew {X:Nat->Prop}{w:World}{k:aw}{v:Value}(h:eX X w v k):eX X w.drew v k :=
 h.mono (X:=X) ((Kept.refl (λ_=>False) w).drew) (λ_ h=>h.elim) (λ_ h=>h)
theorem aP.nth {X:Nat->Prop}{w:World}:∀{l:List aG} {vs:List Nat} {i:Nat} {x:aG},aP X w vs l->l[i]?=some x->∃u,vs[i]?=some u/\bC X w (bw u) x
 | [],_,i,x,_,hx=>by simp at hx
 | _::_,[],_,_,h,_=>by simp only[aP]at h
 | y::l,v::vs,0,x,h,hx=>by
  simp only[aP]at h;cases hx;exact⟨v,rfl,h.1⟩
 | y::l,v::vs,i+1,x,h,hx=>by
  simp only[aP]at h;exact aP.nth (i:=i) h.2 (by simpa using hx)
theorem iu:∀{l:List aG} {x:aG},cQ l->x∈l->bI x
 | y::l,x,h,hx=>by
  simp only[cQ]at h;rcases List.mem_cons.1 hx with rfl|hx
  ·exact h.1
  exact iu h.2 hx
theorem kj.below {X:Nat->Prop}{w w':World}{v:Value}{f:dY}(h:kj X w v f)(hb:Below w.heap.size w w'):kj X w' v f:=by
 obtain⟨cv,rv,cs,rs,rfl,S1,S2,A1,A2⟩:=h;exact⟨cv,rv,cs,rs,rfl,S1.below hb,S2.below hb,A1.imp λa c h=>⟨h.1,h.2.1,h.2.2.below hb⟩,A2.imp λa c h=>⟨h.1,h.2.1,h.2.2.1.below hb,h.2.2.2.below hb⟩⟩
theorem IX (r:Rg)(p:Int)(w:World):ar Tryz.prog 127 [.agg #[.int .i64 r.1,.int .i64 r.2],.int .i64 p] w λv w'=>v=.int .i64 (if r.2<p then -1 else if p<r.1 then 1 else 0)/\Below w.heap.size w w':=by
 refine aE Tryz.func127 rfl (by kernel_rfl) [4] rfl ?_;push_cast -dsimp(maxSteps:=4000000) [Tryz.ntmps127];refine aR ?_;intro w1 aV;have c0:w1.cell? ⟨w.heap.size,0,none⟩=some (.int .i64 r.1):=aV.cell rfl;have c1:w1.cell? ⟨w.heap.size,1,none⟩=some (.int .i64 r.2):=aV.cell rfl;push_cast -dsimp[c0,c1];refine⟨λh=>?_,λh=>⟨λh2=>?_,λh2=>?_⟩⟩
 ·rw[if_pos h];exact⟨rfl,aV.below⟩
 ·rw[if_neg h,if_pos h2];exact⟨rfl,aV.below⟩
 rw[if_neg h,if_neg h2];exact⟨rfl,aV.below⟩
theorem aEx {s:List Rg}(hr:aO (-2) s=true){p:Int}{i:Nat}(h1:∀(k:Nat) (r:Rg),k<i->s[k]?=some r->r.2<p)(h2:∀(k:Nat) (r:Rg),i<=k->s[k]?=some r->¬r.2<p) :
  ew s p=match s[i]? with|some r=>decide (r.1<=p)|none=>false:=by
 unfold ew;cases hi:s[i]? with
 | none =>
  rw[List.any_eq_false];intro r hm;obtain⟨k,hk⟩:=List.getElem?_of_mem hm;have aj:=(List.getElem?_eq_some_iff.1 hk).1
  have:=List.getElem?_eq_none_iff.1 hi
  have:=h1 k r (by omega) hk;simp only[decide_eq_true_eq];omega
 | some r =>
  have uO:=h2 i r (Nat.le_refl _) hi;by_cases hp:r.1<=p
  ·dsimp only;rw[decide_eq_true hp,List.any_eq_true];exact⟨r,List.mem_of_getElem? hi,by simp only[decide_eq_true_eq];omega⟩
  dsimp only;rw[decide_eq_false hp,List.any_eq_false];intro q hm;obtain⟨k,hk⟩:=List.getElem?_of_mem hm;simp only[decide_eq_true_eq];rcases Nat.lt_trichotomy k i with aj|heq|HJ
  ·have:=h1 k q aj hk;omega
  ·subst heq;rw[hi]at hk;cases hk;omega
  have:=(bx s (-2) hr i r hi).2.2.2 k q HJ hk
  have:=(bx s (-2) hr i r hi).2.1;omega
theorem YK (s:List Rg)(hs:s.length<1000000000)(hr:aO (-2) s=true)(p:Int)(X:Nat->Prop)(v:Value)(w:World)(hv:Sl X 2 (En ay) w v s) :
  ar Tryz.prog 126 [v,.int .i64 p,.func (.func 127) #[] #[]] w λr w'=>(∃i:Int,r=.tuple #[.int .i64 i,.bool (ew s p)])/\Below w.heap.size w w':=by
 obtain⟨a,c,rfl,hc⟩:=hv.shape;refine aE Tryz.func126 rfl (by kernel_rfl) [6,7] rfl ?_;push_cast -dsimp(maxSteps:=4000000) [Tryz.ntmps126];refine aK [9,10,11,15,16,17,18,19,20,21,22,23,24,25,26,27,28,29,30,31,32,33,34] (λz wx=>∃(i j:Nat),z 9=.int .i64 i/\z 10=.int .i64 j/\i<=j/\j<=s.length/\(∀(k:Nat) (r:Rg),k<i->s[k]?=some r->r.2<p)/\(∀(k:Nat) (r:Rg),j<=k->s[k]?=some r->¬r.2<p)/\Below w.heap.size w wx) (λz _=>(intOf (z 10)).toNat-(intOf (z 9)).toNat) ?_ ?_
 ·refine⟨0,s.length,rfl,rfl,Nat.zero_le _,Nat.le_refl _,λk r hk=>absurd hk (by omega),λk r hk h=>?_,Below.refl _ _⟩
  have:=(List.getElem?_eq_some_iff.1 h).1;omega
 intro z wx hI;obtain⟨i,j,h9,K1,hij,hj,AF,WN,hb⟩:=hI;push_cast -dsimp[h9,K1];refine⟨λaj=>?_,λeo=>?_⟩
 ·have e:IntKind.i64.wrap ((IntKind.u64.wrap ((i:Int)+(j:Int))).fdiv (2 ^ min 1 IntKind.u64.bits))=(((i+j) / 2:Nat):Int):=by
   show IntKind.i64.wrap ((IntKind.u64.wrap ((i:Int)+(j:Int))).fdiv (2 ^ min (1:Int).toNat IntKind.u64.bits))=_
   rw[show (i:Int)+(j:Int)=((i+j:Nat):Int) by omega,fQ,Nat.mod_eq_of_lt (by omega),yi (k:=1) (kd:=.u64) rfl (by decide)]
   exact cU (by omega)
  have sE:i<=(i+j) / 2:=by omega
  have eE:(i+j) / 2<j:=by omega
  generalize (i+j) / 2=m at e sE eE;rw[e];obtain⟨x,hx,mm,hdx,ht⟩:=ah (l:=s) (i:=m) (by omega);obtain⟨b,o,rfl,hX,aU⟩:=(hv.below hb).get hx;have c0:aB wx ⟨b,o+m*2,none⟩ 0 2=some [.int .i64 x.1,.int .i64 x.2]:=ak (ay x) 0 (λj u hu=>by simpa using aU j u hu);push_cast -dsimp[c0];refine⟨⟨by omega,by omega⟩,⟨by omega,by omega⟩,?_⟩;refine aA (IX x p wx) ?_;rintro _ w1 ⟨rfl,gU⟩;have oT:=hb.trans (gU.mono hb.size);push_cast -dsimp;refine⟨λIh=>⟨⟨by omega,by omega⟩,⟨m+1,j,rfl,rfl,by omega,hj,λk r hk TS=>?_,WN,oT⟩,?_⟩,λyJ=>⟨⟨i,m,rfl,rfl,by omega,by omega,AF,λk r hk TS=>?_,oT⟩,?_⟩⟩
  ·have TV:x.2<p:=by
    by_cases h:x.2<p
    ·exact h
    rw[if_neg h]at Ih;split at Ih<;>omega
   rcases Nat.lt_or_ge k m with qO|aNc
   ·have:=(bx s (-2) hr k r TS).2.2.2 m x qO hx
    have:=(bx s (-2) hr m x hx).2.1;omega
   have vK:k=m:=by omega
   subst vK;rw[hx]at TS;cases TS;exact TV
  ·rw[h9,K1];simp only[intOf];omega
  ·have TV:¬x.2<p:=by
    intro h;rw[if_pos h]at yJ;omega
   rcases Nat.lt_or_ge m k with qO|aNc
   ·have:=(bx s (-2) hr m x hx).2.2.2 k r qO TS
    have:=(bx s (-2) hr k r TS).2.1;omega
   have vK:k=m:=by omega
   subst vK;rw[hx]at TS;cases TS;exact TV
  rw[h9,K1];simp only[intOf];omega
 have nD:j=i:=by omega
 subst nD;have Fs:=aEx hr AF WN;refine⟨λmc=>?_,λim=>?_⟩
 ·obtain⟨x,hx,mm,hdx,ht⟩:=ah (l:=s) (i:=j) (by omega);obtain⟨b,o,rfl,hX,aU⟩:=(hv.below hb).get hx;have c0:aB wx ⟨b,o+j*2,none⟩ 0 2=some [.int .i64 x.1,.int .i64 x.2]:=ak (ay x) 0 (λj u hu=>by simpa using aU j u hu);have y7:=WN j x (Nat.le_refl _) hx;rw[hx]at Fs;push_cast -dsimp[c0];refine⟨⟨by omega,by omega⟩,aA (IX x p wx) ?_⟩;rintro _ w1 ⟨rfl,gU⟩;push_cast -dsimp;refine⟨⟨j,?_⟩,hb.trans (gU.mono hb.size)⟩;have aMw:ew s p=decide (x.1<=p):=by rw[Fs]
  have hdd:decide ((if p<x.1 then (1:Int) else 0)=0)=decide (x.1<=p):=by rw[decide_eq_decide];split<;>omega
  rw[aMw,if_neg y7,hdd]
 refine⟨⟨j,?_⟩,hb⟩;rw[Fs,List.getElem?_eq_none (by omega)]
theorem aIw (s:List Rg)(hs:s.length<1000000000)(hr:aO (-2) s=true)(p:Int)(X:Nat->Prop)(v:Value)(w:World)(hv:Sl X 2 (En ay) w v s) :
  ar Tryz.prog 90 [v,.int .i64 p] w λr w'=>r=.bool (ew s p)/\Below w.heap.size w w':=by
 refine aE Tryz.func90 rfl (by kernel_rfl) [4] rfl ?_;push_cast -dsimp(maxSteps:=4000000) [Tryz.ntmps90];refine aA (YK s hs hr p X v w hv) ?_;rintro _ w1 ⟨⟨i,rfl⟩,hb⟩;push_cast -dsimp;exact hb
theorem U9 (l:List Rg)(hl:l.length<1000000000)(X:Nat->Prop)(v:Value)(w:World)(hv:Sl X 2 (En ay) w v l)(ha:Arg v) :
  ar Tryz.prog 147 [v] w λr w'=>Vc.Own w.heap.size 208 2 ay w' r l/\Below w.heap.size w w':=by
 obtain⟨a,c,rfl,hc⟩:=hv.shape;refine aE Tryz.func147 rfl (by kernel_rfl) [2] rfl ?_;push_cast -dsimp(maxSteps:=4000000) [Tryz.ntmps147];cases a with
 | none =>
  obtain⟨h0,rfl⟩:=ha _ _ rfl;have:l=[]:=List.eq_nil_of_length_eq_zero h0;subst this;push_cast -dsimp[aLB];exact⟨Vc.Own.nil (enc:=ay) _ _ (λ_=>rfl) _,Below.refl _ _⟩
 | some ad =>
  push_cast -dsimp[aHG];refine cG N1 rfl rfl (by omega) ?_;intro w1 aV;have uN:=aV.own (base:=w.heap.size) (k:=2) (n:=0) (enc:=ay) (l:=[]) rfl rfl (λ_=>rfl) (Nat.le_refl _) (by omega);have ph:=aV.size;push_cast -dsimp;refine lh (base:=w.heap.size) (enc:=ay) (ys:=l) N1 uN (hv.below aV.below) (λn c h=>by cases h) iL (by simp only[List.length_nil];omega) (by omega) ?_;intro v' w2 lC C0 dt;rw[List.nil_append]at lC;push_cast -dsimp;exact⟨lC,aV.below.trans dt⟩
def Uc (x y:Int):Int:=if x<y then -1 else if y<x then 1 else 0
theorem Ny (x:Int)(w:World):ar Tryz.prog 175 [.int .i64 x] w λr w'=>r=.bool false/\w'=w:=by
 refine aE Tryz.func175 rfl (by kernel_rfl) [2] rfl ?_;push_cast -dsimp(maxSteps:=4000000) [Tryz.ntmps175];simp
theorem PM (x y:Int)(w:World):ar Tryz.prog 150 [.int .i64 x,.int .i64 y] w λr w'=>r=.int .i64 (Uc x y)/\w'=w:=by
 refine aE Tryz.func150 rfl (by kernel_rfl) [4] rfl ?_;push_cast -dsimp(maxSteps:=4000000) [Tryz.ntmps150];refine aA (Ny x w) ?_;rintro _ w1 ⟨rfl,rfl⟩;push_cast -dsimp;refine aA (Ny y w1) ?_;rintro _ w2 ⟨rfl,rfl⟩;push_cast -dsimp;unfold Uc;refine⟨λh=>by rw[if_pos h],λh=>⟨λh2=>by rw[if_neg h,if_pos h2],λh2=>by rw[if_neg h,if_neg h2]⟩⟩
theorem PK (x y:Rg)(w:World):ar Tryz.prog 149 [.agg #[.int .i64 x.1,.int .i64 x.2],.agg #[.int .i64 y.1,.int .i64 y.2]] w λr w'=>r=.int .i64 (Uc x.1 y.1)/\∃os,w'=Go.Sort.grow w os:=by
 refine aE Tryz.func149 rfl (by kernel_rfl) [4] rfl ?_;push_cast -dsimp(maxSteps:=4000000) [Tryz.ntmps149];refine aR ?_;intro w1 aV;have ph:=aV.size;push_cast -dsimp;refine aR ?_;intro w2 bH;have BV:=bH.size;have c0:w2.cell? ⟨w.heap.size,0,none⟩=some (.int .i64 x.1):=(bH.below.cell (by show w.heap.size<w1.heap.size;omega)).trans (aV.cell rfl)
 have c1:w2.cell? ⟨w1.heap.size,0,none⟩=some (.int .i64 y.1):=bH.cell rfl;push_cast -dsimp[c0,c1];refine aA (PM x.1 y.1 w2) ?_;rintro _ w3 ⟨rfl,rfl⟩;push_cast -dsimp;refine⟨_,by rw[bH.is,aV.is,Go.Sort.alloc_eq_grow,Go.Sort.alloc_eq_grow,Go.Sort.grow_grow]⟩
def DS:Go.Shelf.Ren:=⟨λ| 4=>151|n=>n,λ| 22=>139|25=>208|3=>3|4=>4|9=>9|20=>20|0=>0|2=>3|n=>n,λ| n=>n⟩
theorem aCF:Go.Proofs.Lays8.n4 Tryz.prog DS:={
 mixed:=by kernel_rfl
 f4:=⟨ "slices.Grow[caesura/api.Set,caesura/api.Range]",by decide,Tryz.func151.trans (congrArg some (by kernel_rfl))⟩
 t0:=Tryz.underlying0
 a0:=Tryz.isAgg0
 z0:=Tryz.sizeOf0
 v0:=Tryz.zeroValue0
 t3:=Tryz.underlying3
 a3:=Tryz.isAgg3
 z3:=Tryz.sizeOf3
 v3:=Tryz.zeroValue3
 t4:=Tryz.underlying4
 a4:=Tryz.isAgg4
 z4:=Tryz.sizeOf4
 v4:=Tryz.zeroValue4
 t9:=Tryz.underlying9
 a9:=Tryz.isAgg9
 z9:=Tryz.sizeOf9
 v9:=Tryz.zeroValue9
 t20:=Tryz.underlying20
 a20:=Tryz.isAgg20
 z20:=Tryz.sizeOf20
 v20:=Tryz.zeroValue20
 t22:=Tryz.underlying139
 a22:=Tryz.isAgg139
 z22:=Tryz.sizeOf139
 v22:=Tryz.zeroValue139 }
theorem aD6 (n:Nat)(hn:n<1000000000)(w:World) :
  ar Tryz.prog 151 [.slice none 0 0,.int .i64 (n:Int)] w λr w'=>Vc.Own w.heap.size 208 2 ay w' r ([]:List Rg)/\Below w.heap.size w w':=by
 refine dL Tryz.func151 (by kernel_rfl) (by kernel_rfl) ?_;rcases Nat.eq_zero_or_pos n with h0|h0
 ·subst h0;refine Calls.mono (Any8.slices_Grow_room aCF none 0 0 0 w (by omega) (by omega) (by omega) (by omega)) ?_;rintro e w' ⟨rfl,rfl⟩;exact⟨_,rfl,Vc.Own.nil (enc:=ay) _ _ (λ_=>rfl) _,Below.refl _ _⟩
 have he:=nn fI;obtain⟨hu,i,z,hi,hz,hk0,yB,TW,hk,hb0⟩:=he;refine Calls.mono (Any8.slices_Grow_grow aCF i z hi hz (by omega) none 0 0 n [] w (by omega) (by omega) (by rw[yB];omega) (by omega) (by simp) (λ_=>rfl) (λa h=>by cases h)) ?_;rintro e w' ⟨rfl,rfl⟩;have hG:=grownCap_le_maxLen w (0+n) 0 208 (by unfold maxLen;omega);have hG2:=grownCap_ge w (0+n) 0 208;have hE:DS.t 25=208:=rfl;rw[hE];generalize grownCap w (0+n) 0 208=G at hG hG2;refine⟨_,rfl,X7 (λ_=>rfl) (Array.getElem?_push_size) hG ?_,?_⟩
 ·simp only[Array.size_append,size_zeroCells,TW,hk0];simp;omega
 exact⟨rfl,rfl,rfl,by show w.heap.size<=(w.heap.push _).size;rw[Array.size_push];omega,λi hi=>by show (w.heap.push _)[i]?=_;rw[Array.getElem?_push,if_neg (by omega)]⟩
end Go.Proofs.YtemjejfpadnljaaGreatDoor
end
section
namespace Go.Proofs.YtemjejfpadnljaaGreatDoor
open Go.Vc Go.Proofs Go.RowKit Cae Go.Sort
theorem aAI {base:Nat}{e:TypeId}{w:World}{g n c:Nat}{l:List Rg}(h:Vc.Own base e 2 ay w (.slice (some ⟨g,0,none⟩) n c) l):HoldsK ay 2 w g 0 l.toArray:=by
 have ho:=Vc.Own.opened h rfl;obtain⟨cur,hB,hl,ht,_⟩:=ho;intro j hj;rw[size_flatK]at hj;rw[get_flatK _ _ _ _ hj];have hj':j<l.length*2:=by simpa using hj
 have hi:j / 2<l.length:=by omega
 have hx:=List.getElem?_eq_getElem hi;have hu:(ay l[j / 2])[j % 2]?=some (ay l[j / 2])[j % 2]! := by
  rw[List.getElem!_eq_getElem?_getD];have aj:j % 2<(ay l[j / 2]).length:=by show j % 2<2;omega
  rw[List.getElem?_eq_getElem aj];rfl
 have h1:=nC h.2 l (j / 2) (j % 2) _ _ hx hu;rw[<-ht,List.getElem?_take,if_pos (by omega),show j / 2*2+j % 2=j by omega]at h1
 have e2:(l.toArray)[j / 2]! = l[j / 2]:=by simp[hi]
 rw[e2];refine⟨?_,?_⟩
 ·rw[cell_of_row w g _ cur.toArray e (0,0) hB,Nat.zero_add];simpa using h1
 have oS:w.heap[g]?=some (.cells cur.toArray e (0,0)):=hB;simp[World.frozen?,oS]
theorem aFX {base:Nat}{e:TypeId}{w:World}{ad:Addr}{n c:Nat}{l:List Rg}(h:Vc.Own base e 2 ay w (.slice (some ad) n c) l):∃g,ad=⟨g,0,none⟩:=by
 rcases h.1.2 with ⟨he,_⟩|⟨g,cap,cr,he,_⟩
 ·cases he
 cases he;exact⟨_,rfl⟩
theorem YU {w':World}{g n c:Nat}{d':Array Rg}(hn:d'.size=n)(hc:n<=c)(hH':HoldsK ay 2 w' g 0 d'):Sl (λb=>(Value.slice (some ⟨g,0,none⟩) n c).ownBlock≠some b) 2 (En ay) w' (.slice (some ⟨g,0,none⟩) n c) d'.toList:=by
 subst hn;refine⟨_,c,by rw[Array.length_toList],by rw[Array.length_toList];exact hc,λi x hx=>⟨g,0,ay x,rfl,by simp[Value.ownBlock],rfl,λj u hu=>?_,rfl⟩⟩;have hi:=(List.getElem?_eq_some_iff.1 hx).1;rw[Array.length_toList]at hi;have hj:j<2:=(List.getElem?_eq_some_iff.1 hu).1;have h2:=(hH'.cell hi hj).1;have y7:d'[i]! = x:=by rw[getElem!_pos d' i hi];rw[Array.getElem?_toList,Array.getElem?_eq_getElem hi]at hx;cases hx;rfl
 rw[y7,List.getElem!_eq_getElem?_getD,hu]at h2;exact h2
end Go.Proofs.YtemjejfpadnljaaGreatDoor
namespace Go.Proofs.YtemjejfpadnljaaGreatDoor
open Go.Vc Go.Proofs Go.RowKit Cae
attribute [local irreducible] cg aa ag aX runK ar Sl Vc.Own vc aQ br a7
open Go.Sort
def Sd:Go.Shelf.Ren:=⟨λ| 6=>148|15=>131|14=>174|28=>161|29=>162|20=>189|21=>190|22=>191|23=>192|24=>193|25=>194|26=>195|27=>196|46=>211|47=>177|48=>178|49=>212|50=>213|57=>222|n=>n,λ| 22=>138|24=>208|25=>232|3=>3|39=>133|0=>0|53=>168|55=>244|4=>4|46=>236|45=>235|50=>45|5=>5|9=>9|66=>258|70=>262|76=>272|77=>76|n=>n,λ| n=>n⟩
theorem aDr:Go.Proofs.SlLaysF0.n6 Tryz.prog Sd:={
 mixed:=by kernel_rfl
 f6:=⟨ "slices.SortFunc[[]caesura/api.Range,caesura/api.Range]",by decide,Tryz.func148.trans (congrArg some (by kernel_rfl))⟩
 f14:=⟨ "slices.pdqsortCmpFunc[caesura/api.Range]",by decide,Tryz.func174.trans (congrArg some (by kernel_rfl))⟩
 f15:=Tryz.func131.trans (congrArg some (by kernel_rfl))
 f20:=⟨ "slices.insertionSortCmpFunc[caesura/api.Range]",by decide,Tryz.func189.trans (congrArg some (by kernel_rfl))⟩
 f21:=⟨ "slices.heapSortCmpFunc[caesura/api.Range]",by decide,Tryz.func190.trans (congrArg some (by kernel_rfl))⟩
 f22:=⟨ "slices.breakPatternsCmpFunc[caesura/api.Range]",by decide,Tryz.func191.trans (congrArg some (by kernel_rfl))⟩
 f23:=⟨ "slices.choosePivotCmpFunc[caesura/api.Range]",by decide,Tryz.func192.trans (congrArg some (by kernel_rfl))⟩
 f24:=⟨ "slices.reverseRangeCmpFunc[caesura/api.Range]",by decide,Tryz.func193.trans (congrArg some (by kernel_rfl))⟩
 f25:=⟨ "slices.partialInsertionSortCmpFunc[caesura/api.Range]",by decide,Tryz.func194.trans (congrArg some (by kernel_rfl))⟩
 f26:=⟨ "slices.partitionEqualCmpFunc[caesura/api.Range]",by decide,Tryz.func195.trans (congrArg some (by kernel_rfl))⟩
 f27:=⟨ "slices.partitionCmpFunc[caesura/api.Range]",by decide,Tryz.func196.trans (congrArg some (by kernel_rfl))⟩
 f28:=Tryz.func161.trans (congrArg some (by kernel_rfl))
 f29:=Tryz.func162.trans (congrArg some (by kernel_rfl))
 f46:=⟨ "slices.siftDownCmpFunc[caesura/api.Range]",by decide,Tryz.func211.trans (congrArg some (by kernel_rfl))⟩
 f47:=Tryz.func177.trans (congrArg some (by kernel_rfl))
 f48:=Tryz.func178.trans (congrArg some (by kernel_rfl))
 f49:=⟨ "slices.medianAdjacentCmpFunc[caesura/api.Range]",by decide,Tryz.func212.trans (congrArg some (by kernel_rfl))⟩
 f50:=⟨ "slices.medianCmpFunc[caesura/api.Range]",by decide,Tryz.func213.trans (congrArg some (by kernel_rfl))⟩
 f57:=⟨ "slices.order2CmpFunc[caesura/api.Range]",by decide,Tryz.func222.trans (congrArg some (by kernel_rfl))⟩
 t0:=Tryz.underlying0
 a0:=Tryz.isAgg0
 z0:=Tryz.sizeOf0
 v0:=Tryz.zeroValue0
 t3:=Tryz.underlying3
 a3:=Tryz.isAgg3
 z3:=Tryz.sizeOf3
 v3:=Tryz.zeroValue3
 t4:=Tryz.underlying4
 a4:=Tryz.isAgg4
 z4:=Tryz.sizeOf4
 v4:=Tryz.zeroValue4
 t5:=Tryz.underlying5
 a5:=Tryz.isAgg5
 z5:=Tryz.sizeOf5
 v5:=Tryz.zeroValue5
 t9:=Tryz.underlying9
 a9:=Tryz.isAgg9
 z9:=Tryz.sizeOf9
 v9:=Tryz.zeroValue9
 t22:=Tryz.underlying138
 a22:=Tryz.isAgg138
 z22:=Tryz.sizeOf138
 v22:=Tryz.zeroValue138
 t25:=Tryz.underlying232
 a25:=Tryz.isAgg232
 z25:=Tryz.sizeOf232
 v25:=Tryz.zeroValue232
 t39:=Tryz.underlying133
 a39:=Tryz.isAgg133
 z39:=Tryz.sizeOf133
 v39:=Tryz.zeroValue133
 t45:=Tryz.underlying235
 a45:=Tryz.isAgg235
 z45:=Tryz.sizeOf235
 v45:=Tryz.zeroValue235
 t46:=Tryz.underlying236
 a46:=Tryz.isAgg236
 z46:=Tryz.sizeOf236
 v46:=Tryz.zeroValue236
 t50:=Tryz.underlying45
 a50:=Tryz.isAgg45
 z50:=Tryz.sizeOf45
 v50:=Tryz.zeroValue45
 t53:=Tryz.underlying168
 a53:=Tryz.isAgg168
 z53:=Tryz.sizeOf168
 v53:=Tryz.zeroValue168
 t55:=Tryz.underlying244
 a55:=Tryz.isAgg244
 z55:=Tryz.sizeOf244
 v55:=Tryz.zeroValue244
 t66:=Tryz.underlying258
 a66:=Tryz.isAgg258
 z66:=Tryz.sizeOf258
 v66:=Tryz.zeroValue258
 t70:=Tryz.underlying262
 a70:=Tryz.isAgg262
 z70:=Tryz.sizeOf262
 v70:=Tryz.zeroValue262
 t76:=Tryz.underlying272
 a76:=Tryz.isAgg272
 z76:=Tryz.sizeOf272
 v76:=Tryz.zeroValue272
 t77:=Tryz.underlying76
 a77:=Tryz.isAgg76
 z77:=Tryz.sizeOf76
 v77:=Tryz.zeroValue76 }
def Ue (x y:Rg):Int:=Uc x.1 y.1
theorem GV (x y:Rg):Go.Proofs.ltOf Ue x y=decide (x.1<y.1):=by
 unfold Go.Proofs.ltOf Ue Uc;rw[decide_eq_decide];split
 ·simp[*]
 split<;>simp[*]
theorem aOO:SWO (Go.Proofs.ltOf Ue) where
 irrefl x:=by rw[GV];simp
 trans x y z h1 h2:=by rw[GV]at *;simp at *;omega
 ntrans x y z h1 h2:=by rw[GV]at *;simp at *;omega
theorem Ud (aM off size:Nat)(w:World):Go.Proofs.CmpLays Tryz.prog 149 #[] ay 2 Ue aM off size w:=λm os dk hd x y=>by
 have h:=Ei (PK x y (Go.Proofs.sortWorldK ay 2 w aM off m dk os));have e:#[Value.agg (ay x).toArray,Value.agg (ay y).toArray]++#[]=[Value.agg #[.int .i64 x.1,.int .i64 x.2],Value.agg #[.int .i64 y.1,.int .i64 y.2]].toArray:=rfl;rw[e];refine h.mono ?_;rintro e w' ⟨v,rfl,rfl,os',rfl⟩;exact⟨rfl,0,os',rfl⟩
theorem MD {w:World}{g n:Nat}{os:Array Obj}(d:Array Rg):Kept (λj=>j=g) w (Go.Proofs.sortWorldK ay 2 w g 0 n d os):=by
 refine⟨rfl,rfl,rfl,?_,λk hk cW=>?_⟩
 ·exact Go.Proofs.size_sortWorldK_c ay 2 w g 0 n d os
 unfold Go.Proofs.sortWorldK putRowK;rw[heap_grow_old _ _ (by simpa using hk)];simp[putRow,mapBlock,Go.Sort.ahead,Array.getElem?_modify,Ne.symm cW]
theorem aF9 (l:List Rg)(hl:l.length<1000000000)(base:Nat)(v:Value)(w:World)(ho:Vc.Own base 208 2 ay w v l)(hb:base<=w.heap.size) :
  ar Tryz.prog 148 [v,.func (.func 149) #[] #[]] w λr w'=>(∃m,m.Perm l/\yr m/\Sl (λb=>v.ownBlock≠some b) 2 (En ay) w' v m)/\Kept (λj=>v.ownBlock=some j) w w':=by
 refine dL Tryz.func148 (by kernel_rfl) (by kernel_rfl) ?_;cases hn:l with
 | nil =>
  subst hn;have fa:=ho.slice;obtain⟨a,c,rfl⟩:=fa;refine(AnyF.slices_SortFunc_none aDr a c (.func (.func 149) #[] #[]) w).mono ?_;rintro e w' ⟨rfl,rfl⟩;exact⟨_,rfl,⟨[],List.Perm.refl _,List.Pairwise.nil,Sl.nil _ _ _ _ _ _⟩,Kept.refl _ _⟩
 | cons y ys =>
  rw[<-hn];have yJ:0<l.length:=by rw[hn];exact Nat.succ_pos _
  have fa:=ho.slice;obtain⟨a,c,rfl⟩:=fa;cases a with
  | none=>have:=ho.kT _ _ rfl;omega
  | some ad =>
   have hg0:=aFX ho;obtain⟨g,rfl⟩:=hg0;have CA:=ho.block g rfl;have hH:=aAI ho;have yC:=AnyQ.slices_SortFunc aDr 2 Tryz.isAgg208 Tryz.sizeOf208 ay (λ_=>rfl) iL Ue aOO 149 #[] g 0 c l.toArray w (λargs w=>bg Tryz.func149 (by kernel_rfl) (by kernel_rfl)) (Ud g 0 l.toArray.size w) hH CA.2 (by rw[List.size_toArray];omega);rw[List.size_toArray]at yC;refine Calls.mono yC ?_;rintro e w' ⟨rfl,d',n,os,hp,hs,rfl⟩;have D4:d'.size=l.length:=by have:=hp.1;simpa using this
   have aJr:d'.toList.Perm l:=by
    have:=hp.2.2;rw[Array.extract_eq_self_of_le (by omega),Array.extract_eq_self_of_le (by simp)]at this;simpa using this
   have hH':=Go.Proofs.holdsK_sortWorldK_c ay 2 w g 0 l.toArray d' n os hH CA.2 (by simpa using D4);refine⟨_,rfl,⟨d'.toList,aJr,?_,?_⟩,(MD d').weaken (λi _ h=>by rw[h];rfl)⟩
   ·refine List.pairwise_iff_getElem.2 λi j hi hj hij=>?_;rw[Array.length_toList]at hi hj
    have:=hs i j (Nat.zero_le _) hij (by omega);rw[GV,decide_eq_false_iff_not]at this;simp only[getElem!_pos d' i hi,getElem!_pos d' j hj]at this;simp only[Array.getElem_toList];omega
   exact YU D4 ((ho.sl.shape).elim (λa h=>h.elim λc' h=>by cases h.1;exact h.2)) hH'
end Go.Proofs.YtemjejfpadnljaaGreatDoor
end
section
namespace Go.Proofs.YtemjejfpadnljaaGreatDoor
open Go.Vc Go.Proofs Go.RowKit Cae
attribute [local irreducible] cg aa ag aX runK ar Sl Vc.Own vc aQ br a7
theorem aOF (l:List Rg)(hl:l.length<100000000)(X:Nat->Prop)(v:Value)(w:World)(hv:Sl X 2 (En ay) w v l)(ha:Arg v) :
  ar Tryz.prog 128 [v] w λr w'=>Vc.Own w.heap.size 208 2 ay w' r (setOf l)/\Below w.heap.size w w':=by
 obtain⟨a,c,rfl,hc⟩:=hv.shape;refine aE Tryz.func128 rfl (by kernel_rfl) [2] rfl ?_;push_cast -dsimp(maxSteps:=4000000) [Tryz.ntmps128];refine aA (U9 l (by omega) X _ w hv ha) ?_;rintro v1 w1 ⟨uN,gU⟩;have ph:=gU.size;push_cast -dsimp;refine aA (aF9 l (by omega) w.heap.size v1 w1 uN ph) ?_;rintro r2 w2 ⟨⟨m,hp,hR,gY⟩,jI⟩;have BV:=jI.size;have hml:=hp.length_eq;have dt:Below w.heap.size w w2:=gU.trans (jI.below ph (λg h=>(uN.block g h).1));have fa:=uN.slice;obtain⟨va,vc,rfl⟩:=fa;have hof:=S8 hp hR;have hgX:∃X1,X1=(λb=>(Value.slice va l.length vc).ownBlock≠some b):=⟨_,rfl⟩;obtain⟨X1,hX1⟩:=hgX;rw[<-hX1]at gY;have hX2:∀b,w2.heap.size<=b->X1 b:=λb hb=>by
  rw[hX1];intro h
  have:=(uN.block b h).2;omega
 push_cast -dsimp;refine aK [3,5,6,13,14,15,16,17,18,19,20,21,22,23,24,25,26,27,28,29,30,31,32,33,34,35,36,37,38,39,40,41,42,43,44,45,46,47,48,49,50,51,52,53,54,55,56,57,58,59,60,61,62] (λz wx=>∃(i:Nat) (ov:Value),z 13=.int .i64 i/\z 3=ov/\i<=l.length/\Vc.Own w2.heap.size 208 2 ay wx ov (ir (m.take i))/\Below w2.heap.size w2 wx) (λz _=>l.length-(intOf (z 13)).toNat) ?_ ?_
 ·refine⟨0,_,rfl,rfl,Nat.zero_le _,?_,Below.refl _ _⟩;rw[List.take_zero];exact Vc.Own.nil (enc:=ay) _ _ (λ_=>rfl) _
 intro z wx hI;obtain⟨i,ov,zm,h3,hi,eG,eW⟩:=hI;have yS:=eW.size;push_cast -dsimp[zm,h3];refine⟨λaj=>?_,λeo=>?_⟩
 ·have hg:=ah (l:=m) (i:=i) (by omega);obtain⟨x,hx,mm,_⟩:=hg;have ny:=gY.below eW;rw[<-hml]at ny;have hg:=ny.get hx;obtain⟨b,o,rfl,mJ,aU⟩:=hg;have cx:aB wx ⟨b,o+i*2,none⟩ 0 2=some [.int .i64 x.1,.int .i64 x.2]:=ak (ay x) 0 (λj u hu=>by simpa using aU j u hu);have QI:ir (m.take (i+1))=gC (ir (m.take i)) x:=by
   unfold ir;rw[List.take_add_one,hx,List.foldl_append];rfl
  have TR:=Aj (m.take i);rw[List.length_take]at TR;have fa:=eG.slice;obtain⟨oa,oc,rfl⟩:=fa;have K8:∃out,ir (m.take i)=out:=⟨_,rfl⟩;obtain⟨out,im⟩:=K8;rw[im]at eG QI TR;rw[im];push_cast -dsimp[cx];refine⟨⟨by omega,by omega⟩,?_⟩;refine ao (z:=[.int .i64 0,.int .i64 0]) (by kernel_rfl) ?_;intro w3 cM;have Kf:=cM.size;push_cast -dsimp;refine aH (n:=2) (by kernel_rfl) cM.aM rfl (by simp) (by simp[Value.oneCell']) ?_;intro w4 ae;have KB:=ae.size;have c0:w4.cell? ⟨wx.heap.size,0,none⟩=some (.int .i64 x.1):=ae.aM.cell rfl;have c1:w4.cell? ⟨wx.heap.size,1,none⟩=some (.int .i64 x.2):=ae.aM.cell rfl;have TN:∃lo,max x.1 0=lo:=⟨_,rfl⟩;obtain⟨lo,AF⟩:=TN;have Qg:∃yF,min x.2 1114111=yF:=⟨_,rfl⟩;obtain⟨yF,WN⟩:=Qg;have aJd:(if 0>x.1 then 0 else x.1)=lo:=by rw[<-AF];split<;>omega
  have aI7:(if 1114111<x.2 then 1114111 else x.2)=yF:=by rw[<-WN];split<;>omega
  push_cast -dsimp[c0,c1,aJd,aI7];refine aC ae.aM (by simp) rfl ?_;intro w5 cH;have Mq:w5.heap.size=w4.heap.size:=cH.size;push_cast -dsimp;refine aC cH.aM (by simp) rfl ?_;intro w6 bQ;have KC:w6.heap.size=w5.heap.size:=bQ.size;have hX6:aL w6 wx.heap.size 208 [.int .i64 lo,.int .i64 yF]:=bQ.aM;have k6:Kept (λj=>j=wx.heap.size) wx w6:=(((Kept.new cM).trans ae.kept (λ_ _ h=>h)).trans cH.kept (λ_ _ h=>h)).trans bQ.kept (λ_ _ h=>h);have po:=eG.aJ k6 (λg hg h=>by have:=eG.block g hg;omega);have mI:Below w2.heap.size w2 w6:=eW.trans (k6.below yS (λ_ h=>by omega));have e0:w6.cell? ⟨wx.heap.size,0,none⟩=some (.int .i64 lo):=hX6.cell rfl;have e1:w6.cell? ⟨wx.heap.size,1,none⟩=some (.int .i64 yF):=hX6.cell rfl;push_cast -dsimp[e0,e1];refine⟨λHJ=>?_,λhle=>?_⟩
  ·have cI:gC out x=out:=by unfold gC;rw[AF,WN,if_pos (by omega)]
   rw[cI]at QI;rw[<-QI]at po;exact⟨⟨by omega,by omega⟩,⟨i+1,_,rfl,by rw[QI],by omega,po,mI⟩,by rw[zm];simp only[intOf];omega⟩
  refine⟨⟨by omega,by omega⟩,?_⟩;cases hn:out.length with
  | zero =>
   have AG:out=[]:=List.eq_nil_of_length_eq_zero hn;subst AG;have cI:gC [] x=[]++[(lo,yF)]:=by unfold gC;rw[AF,WN,if_neg (by omega)];rfl
   refine ba (λw'=>w'=w6.drew) mixed (by kernel_rfl) rfl ?_;push_cast -dsimp;rw[cI]at QI;have d7:aB w6.drew ⟨wx.heap.size,0,none⟩ 0 2=some [.int .i64 lo,.int .i64 yF]:=hX6.drew.aB;push_cast -dsimp[d7];refine cG fI rfl rfl (by omega) ?_;intro w7 fK;have KD:w7.heap.size=w6.heap.size+1:=fK.size;have mL:=(po.aJ (Kept.refl (λ_=>False) _).drew (λ_ _ h=>h)).new fK;push_cast -dsimp;refine aW (base:=w2.heap.size) [(lo,yF)] (enc:=ay) fI mL (by rfl) (λj u hu=>by simpa[ay] using fK.cell hu) iL (by simp only[List.length_cons,List.length_nil];omega) (by omega) ?_;intro v8 w8 rK DY hn8;have k8:Kept (λj=>(Value.slice oa ([]:List Rg).length oc).ownBlock=some j) w6 w8:=(((Kept.refl _ w6).drew).trans (Kept.new (X:=λj=>(Value.slice oa ([]:List Rg).length oc).ownBlock=some j) fK) (λ_ _ h=>h)).trans (Kept.grown DY (λ_ h=>h)) (λ_ _ h=>h);rw[<-QI]at rK;push_cast -dsimp;exact⟨⟨by omega,by omega⟩,⟨i+1,_,rfl,rfl,by omega,rK,mI.trans (k8.below (by omega) (λg h=>(po.block g h).1))⟩,by rw[zm];simp only[intOf];omega⟩
  | succ n =>
   have e6:((n:Nat):Int)+1-1=((n:Nat):Int):=by omega
   have hq:=List.getElem?_eq_getElem (l:=out) (i:=n) (by omega);have hgq:∃q,out[n]'(by omega)=q:=⟨_,rfl⟩;obtain⟨q,hqe⟩:=hgq;rw[hqe]at hq;have AE:out.getLast?=some q:=by rw[List.getLast?_eq_getElem?,hn];exact hq
   have hinv:=(tC i m hR (by omega)).1.right;rw[im]at hinv;have hqr:=bx out (-2) hinv n q hq;have hg:=po.sl.get hq;obtain⟨g,o',rfl,_,hcq⟩:=hg;have ho0:o'=0:=Vc.Own.aLr po;subst ho0;have c2:w6.drew.cell? ⟨g,n*2+1,none⟩=some (.int .i64 q.2):=by have:=hcq 1 _ rfl;simpa using this
   have f0:w6.drew.cell? ⟨wx.heap.size,0,none⟩=some (.int .i64 lo):=e0;have f1:w6.drew.cell? ⟨wx.heap.size,1,none⟩=some (.int .i64 yF):=e1;have L:∀{ad:Addr} {u:Value},w6.drew.cell? ad=some u->∀bE:World,bE=w6.drew->mR (bE.cell? ad) (λx=>x=u) .mk:=λh bE e=>by rw[e,h];exact rfl
   refine ba (λw'=>w'=w6.drew) mixed (by kernel_rfl) rfl ?_;push_cast -dsimp[e6,f0,c2];rw[hn]at po;refine⟨λ_=>⟨L f0,⟨by omega,by omega⟩,L c2,⟨by omega,by omega⟩,λhm=>?_,λhm=>?_⟩,λh=>absurd (Int.natCast_nonneg n) h⟩
   ·have cI:gC out x=out.set n (q.1,max q.2 yF):=by
     unfold gC;rw[AF,WN,if_neg (by omega),AE];dsimp only;rw[if_pos hm,List.dropLast_eq_take,hn,List.set_eq_take_append_cons_drop,if_pos (by omega),List.drop_eq_nil_of_le (by omega)];rfl
    rw[cI]at QI;have L2:∀{ad:Addr} {u:Value},w6.drew.drew.cell? ad=some u->∀bE:World,bE=w6.drew.drew->mR (bE.cell? ad) (λx=>x=u) .mk:=λh bE e=>by rw[e,h];exact rfl
    have c2':w6.drew.drew.cell? ⟨g,n*2+1,none⟩=some (.int .i64 q.2):=c2;have f1':w6.drew.drew.cell? ⟨wx.heap.size,1,none⟩=some (.int .i64 yF):=f1;have hmx:(if yF>q.2 then yF else q.2)=max q.2 yF:=by split<;>omega
    refine dU (λw'=>w'=w6.drew.drew) mixed (by kernel_rfl) (List.cons_ne_nil _ _) rfl ?_;push_cast -dsimp[c2',f1',hmx];refine⟨⟨by omega,by omega⟩,L2 c2',L2 f1',⟨by omega,by omega⟩,?_⟩;have hod:=po.aJ ((Kept.refl (λ_=>False) _).drew.drew) (λ_ _ h=>h);refine fr (i:=n) (f:=1) (y:=(q.1,max q.2 yF)) hod rfl hq (by omega) rfl rfl ?_;intro w8 rK TP sz8;have k8:Kept (λj=>j=g) w6 w8:=((Kept.refl (λj=>j=g) w6).drew.drew).trans TP (λ_ _ h=>h);have CA:=(po.block g rfl).1;refine⟨trivial,?_⟩;push_cast -dsimp;rw[<-QI]at rK;exact⟨⟨by omega,by omega⟩,⟨i+1,_,rfl,rfl,by omega,rK,mI.trans (k8.below (by omega) (λj h=>by omega))⟩,by rw[zm];simp only[intOf];omega⟩
   have cI:gC out x=out++[(lo,yF)]:=by
    unfold gC;rw[AF,WN,if_neg (by omega),AE];dsimp only;rw[if_neg hm]
   rw[cI]at QI;have d7:aB w6.drew ⟨wx.heap.size,0,none⟩ 0 2=some [.int .i64 lo,.int .i64 yF]:=hX6.drew.aB;push_cast -dsimp[d7];refine cG fI rfl rfl (by omega) ?_;intro w7 fK;have KD:w7.heap.size=w6.heap.size+1:=fK.size;have mL:=(po.aJ (Kept.refl (λ_=>False) _).drew (λ_ _ h=>h)).new fK;push_cast -dsimp;refine aW (base:=w2.heap.size) [(lo,yF)] (enc:=ay) fI mL (by rfl) (λj u hu=>by simpa[ay] using fK.cell hu) iL (by simp only[List.length_cons,List.length_nil];omega) (by omega) ?_;intro v8 w8 rK DY hn8;have k8:Kept (λj=>(Value.slice (some ⟨g,0,none⟩) (n+1) oc).ownBlock=some j) w6 w8:=(((Kept.refl _ w6).drew).trans (Kept.new (X:=λj=>(Value.slice (some ⟨g,0,none⟩) (n+1) oc).ownBlock=some j) fK) (λ_ _ h=>h)).trans (Kept.grown DY (λ_ h=>h)) (λ_ _ h=>h);rw[<-QI]at rK;push_cast -dsimp;exact⟨⟨by omega,by omega⟩,⟨i+1,_,rfl,rfl,by omega,rK,mI.trans (k8.below (by omega) (λg h=>(po.block g h).1))⟩,by rw[zm];simp only[intOf];omega⟩
 have mc:i=m.length:=by omega
 subst mc;have fa:=eG.slice;obtain⟨oa,oc,rfl⟩:=fa;rw[List.take_length,hof]at eG;rw[List.take_length,hof];exact⟨eG.mono (by omega),dt.trans (eW.mono (by omega))⟩
theorem JV (s:List Rg)(hs:s.length<100000000)(hr:aO (-2) s=true)(X:Nat->Prop)(v:Value)(w:World)(hv:Sl X 2 (En ay) w v s) :
  ar Tryz.prog 92 [v] w λr w'=>Vc.Own w.heap.size 208 2 ay w' r (gq s)/\Below w.heap.size w w':=by
 obtain⟨a,c,rfl,hc⟩:=hv.shape;refine aE Tryz.func92 rfl (by kernel_rfl) [2] rfl ?_;push_cast -dsimp(maxSteps:=4000000) [Tryz.ntmps92];refine aK [3,4,6,9,10,11,12,13,14,15,16,17,18,19,20,21,22,23,24,25,26,27,28] (λz wx=>∃(i:Nat) (f:Int) (out:List Rg) (ov:Value),z 9=.int .i64 i/\z 4=.int .i64 f/\z 3=ov/\i<=s.length/\0<=f/\f<=1114112/\out.length<=i/\out++oD f (s.drop i)=gq s/\Vc.Own w.heap.size 208 2 ay wx ov out/\Below w.heap.size w wx) (λz _=>s.length-(intOf (z 9)).toNat) ?_ ?_
 ·exact⟨0,0,[],_,rfl,rfl,rfl,Nat.zero_le _,by omega,by omega,Nat.le_refl _,rfl,Vc.Own.nil (enc:=ay) _ _ (λ_=>rfl) _,Below.refl _ _⟩
 intro z wx hI;obtain⟨i,f,out,ov,h9,h4,h3,hi,hf0,hf1,TR,im,eG,eW⟩:=hI;have yS:=eW.size;push_cast -dsimp[h9,h4,h3];refine⟨λaj=>?_,λeo=>?_⟩
 ·have hg:=ah (l:=s) (i:=i) (by omega);obtain⟨x,hx,mm,hdx,_⟩:=hg;have hb:=bx s (-2) hr i x hx;obtain⟨b1,b2,b3,_⟩:=hb;have hg:=(hv.below eW).get hx;obtain⟨b,o,rfl,mJ,aU⟩:=hg;have cx:aB wx ⟨b,o+i*2,none⟩ 0 2=some [.int .i64 x.1,.int .i64 x.2]:=ak (ay x) 0 (λj u hu=>by simpa using aU j u hu);have fa:=eG.slice;obtain⟨oa,oc,rfl⟩:=fa;rw[hdx,oD]at im;push_cast -dsimp[cx];refine⟨⟨by omega,by omega⟩,?_⟩;refine ao (z:=[.int .i64 0,.int .i64 0]) (by kernel_rfl) ?_;intro w3 cM;have Kf:=cM.size;push_cast -dsimp;refine aH (n:=2) (by kernel_rfl) cM.aM rfl (by simp) (by simp[Value.oneCell']) ?_;intro w4 ae;have KB:w4.heap.size=w3.heap.size:=ae.size;have c0:w4.cell? ⟨wx.heap.size,0,none⟩=some (.int .i64 x.1):=ae.aM.cell rfl;have c1:w4.cell? ⟨wx.heap.size,1,none⟩=some (.int .i64 x.2):=ae.aM.cell rfl;have k4:Kept (λj=>j=wx.heap.size) wx w4:=(Kept.new cM).trans ae.kept (λ_ _ h=>h);have kQ:=eG.aJ k4 (λg hg h=>by have:=eG.block g hg;omega);have nd:Below w.heap.size w w4:=eW.trans (k4.below yS (λ_ h=>by omega));push_cast -dsimp[c0,c1];refine⟨λaj=>?_,λeo=>?_⟩
  ·rw[if_pos aj,<-List.append_assoc]at im;refine⟨⟨by omega,by omega⟩,?_⟩;refine cG fI rfl rfl (by omega) ?_;intro w7 fK;have KD:=fK.size;have mL:=kQ.new fK;push_cast -dsimp;refine aW (base:=w.heap.size) [(f,x.1-1)] (enc:=ay) fI mL (by rfl) (λj u hu=>by simpa[ay] using fK.cell hu) iL (by simp only[List.length_cons,List.length_nil];omega) (by omega) ?_;intro v8 w8 rK DY hn8;have k8:Kept (λj=>(Value.slice oa out.length oc).ownBlock=some j) w4 w8:=(Kept.new (X:=λj=>(Value.slice oa out.length oc).ownBlock=some j) fK).trans (Kept.grown DY (λ_ h=>h)) (λ_ _ h=>h);have ma:Below w.heap.size w w8:=nd.trans (k8.below (by omega) (λg h=>(kQ.block g h).1));have d1:w8.cell? ⟨wx.heap.size,1,none⟩=some (.int .i64 x.2):=k8.cell c1 (λh=>by have h2:w.heap.size<=wx.heap.size/\wx.heap.size<wx.heap.size:=eG.block _ h;omega);push_cast -dsimp[d1];exact⟨⟨by omega,by omega⟩,⟨by omega,by omega⟩,⟨i+1,x.2+1,out++[(f,x.1-1)],_,rfl,rfl,rfl,by omega,by omega,by omega,by rw[List.length_append,List.length_singleton];omega,im,rK,ma⟩,by rw[h9];simp only[intOf];omega⟩
  rw[if_neg (by omega),List.nil_append]at im;exact⟨⟨by omega,by omega⟩,⟨by omega,by omega⟩,⟨i+1,x.2+1,out,_,rfl,rfl,rfl,by omega,by omega,by omega,by omega,im,kQ,nd⟩,by rw[h9];simp only[intOf];omega⟩
 have mc:i=s.length:=by omega
 subst mc;have fa:=eG.slice;obtain⟨oa,oc,rfl⟩:=fa;rw[List.drop_length,oD]at im;refine⟨λhle=>?_,λHJ=>?_⟩
 ·rw[if_pos hle]at im;refine cG fI rfl rfl (by omega) ?_;intro w7 fK;have KD:=fK.size;have mL:=eG.new fK;push_cast -dsimp;refine aW (base:=w.heap.size) [(f,1114111)] (enc:=ay) fI mL (by rfl) (λj u hu=>by simpa[ay] using fK.cell hu) iL (by simp only[List.length_cons,List.length_nil];omega) (by omega) ?_;intro v8 w8 rK DY hn8;have k8:Kept (λj=>(Value.slice oa out.length oc).ownBlock=some j) wx w8:=(Kept.new (X:=λj=>(Value.slice oa out.length oc).ownBlock=some j) fK).trans (Kept.grown DY (λ_ h=>h)) (λ_ _ h=>h);rw[im]at rK;push_cast -dsimp;exact⟨rK,eW.trans (k8.below yS (λg h=>(eG.block g h).1))⟩
 rw[if_neg (by omega),List.append_nil]at im;subst im;exact⟨eG,eW⟩
theorem yW {α β:Type}(L:List α)(f:α->List β)(i:Nat):((L.take i).flatMap f).length<=(L.flatMap f).length:=by
 conv=>rhs;rw[<-List.take_append_drop i L,List.flatMap_append,List.length_append]
 omega
theorem Ug (Ls:List (Value×List Rg))(hl:(Ls.flatMap (·.2)).length<100000000)(hn:Ls.length<1000000)(X:Nat->Prop)(g c:Nat)(hc:Ls.length<=c)(w:World)
  (hv:∀(i:Nat) (p:Value×List Rg),Ls[i]?=some p->w.cell? ⟨g,i,none⟩=some p.1/\Sl X 2 (En ay) w p.1 p.2/\Arg p.1) :
  ar Tryz.prog 129 [.slice (some ⟨g,0,none⟩) Ls.length c] w λr w'=>Vc.Own w.heap.size 208 2 ay w' r (Ls.flatMap (·.2))/\Below w.heap.size w w':=by
 refine aE Tryz.func129 rfl (by kernel_rfl) [2] rfl ?_;push_cast -dsimp(maxSteps:=4000000) [Tryz.ntmps129];refine aK [3,5,11,12,13,14,15,16,17,18,19,20,21,22] (λz wx=>∃(i:Nat),z 11=.int .i64 i/\z 3=.int .i64 (((Ls.take i).flatMap (·.2)).length:Nat)/\i<=Ls.length/\wx=w) (λz _=>Ls.length-(intOf (z 11)).toNat) ?_ ?_
 ·exact⟨0,rfl,rfl,Nat.zero_le _,rfl⟩
 intro z wx hI;obtain⟨i,Vf,h3,hi,rfl⟩:=hI;have iQ:=yW Ls (·.2) i;have aMK:=yW Ls (·.2) (i+1);push_cast -dsimp[Vf,h3];refine⟨λaj=>?_,λeo=>?_⟩
 ·have hg:=ah (l:=Ls) (i:=i) (by omega);obtain⟨p,hp,_,_,ht⟩:=hg;have hvp:=hv i p hp;obtain⟨c0,hs,hA⟩:=hvp;have PH:=c0;have e1:((Ls.take (i+1)).flatMap (·.2)).length=((Ls.take i).flatMap (·.2)).length+p.2.length:=by
   rw[ht,List.flatMap_append,List.length_append];simp
  have fa:=hs.shape;obtain⟨pa,pc,Yx,CG⟩:=fa;rw[Yx]at PH;push_cast -dsimp[PH];refine⟨⟨by omega,by omega⟩,⟨by omega,by omega⟩,λh=>absurd h (by omega),λ_=>⟨⟨by omega,by omega⟩,⟨i+1,rfl,by rw[e1,Int.natCast_add],by omega⟩,by rw[Vf];simp only[intOf];omega⟩⟩
 have mc:i=Ls.length:=by omega
 subst mc;rw[List.take_length];refine aA (aD6 _ (by omega) wx) ?_;rintro v1 w1 ⟨uN,gU⟩;have ph:=gU.size;push_cast -dsimp;refine aK [6,8,27,28,29,30,31,32,33,34] (λz w2=>∃(i:Nat) (ov:Value),z 27=.int .i64 i/\z 6=ov/\i<=Ls.length/\Vc.Own wx.heap.size 208 2 ay w2 ov ((Ls.take i).flatMap (·.2))/\Below wx.heap.size wx w2) (λz _=>Ls.length-(intOf (z 27)).toNat) ?_ ?_
 ·exact⟨0,_,rfl,rfl,Nat.zero_le _,uN,gU⟩
 intro y w2 hJ;obtain⟨i,ov,h27,h6,hi,lC,dt⟩:=hJ;have BV:=dt.size;have iQ:=yW Ls (·.2) i;have aMK:=yW Ls (·.2) (i+1);push_cast -dsimp[h27,h6];refine⟨λaj=>?_,λeo=>?_⟩
 ·have hg:=ah (l:=Ls) (i:=i) (by omega);obtain⟨p,hp,_,_,ht⟩:=hg;have hvp:=hv i p hp;obtain⟨c0,hs,hA⟩:=hvp;have PH:w2.cell? ⟨g,i,none⟩=some p.1:=(dt.cell (World.block_lt_of_cell? _ _ c0)).trans c0;have fa:=hs.shape;obtain⟨pa,pc,Yx,CG⟩:=fa;rw[Yx]at PH hs hA;have e1:(Ls.take (i+1)).flatMap (·.2)=(Ls.take i).flatMap (·.2)++p.2:=by
   rw[ht,List.flatMap_append];simp
  have e2:=congrArg List.length e1;rw[List.length_append]at e2;have fa:=lC.slice;obtain⟨oa,oc,rfl⟩:=fa;push_cast -dsimp[PH];refine⟨⟨by omega,by omega⟩,?_⟩;refine lh (base:=wx.heap.size) (enc:=ay) (ys:=p.2) fI lC (hs.below dt) hA iL (by omega) (by omega) ?_;intro v3 w3 mK Ng gV;rw[<-e1]at mK;push_cast -dsimp;exact⟨⟨by omega,by omega⟩,⟨i+1,_,rfl,rfl,by omega,mK,dt.trans gV⟩,by rw[h27];simp only[intOf];omega⟩
 have mc:i=Ls.length:=by omega
 subst mc;rw[List.take_length]at lC;have fa:=lC.slice;obtain⟨oa,oc,rfl⟩:=fa;exact⟨lC,dt⟩
theorem aJ8 (s t:List Rg)(hs:s.length<10000000)(ht:t.length<10000000)(X:Nat->Prop)(va vb:Value)(w:World)(Wb:Sl X 2 (En ay) w va s)(Lu:Sl X 2 (En ay) w vb t)(hA:Arg va)(hB:Arg vb) :
  ar Tryz.prog 93 [va,vb] w λr w'=>Vc.Own w.heap.size 208 2 ay w' r (BO s t)/\Below w.heap.size w w':=by
 have fa:=Wb.shape;obtain⟨a1,c1,e1,_⟩:=fa;have fa:=Lu.shape;obtain⟨a2,c2,e2,_⟩:=fa;refine aE Tryz.func93 rfl (by kernel_rfl) [4] rfl ?_;push_cast -dsimp(maxSteps:=4000000) [Tryz.ntmps93];refine cG nA (by rw[e1,e2];rfl) rfl (by omega) ?_;intro w1 aV;have ph:=aV.size;have d0:=aV.cell (j:=0) (u:=va) (by rw[e1,e2];rfl);have d1:=aV.cell (j:=1) (u:=vb) (by rw[e1,e2];rfl);push_cast -dsimp;refine aA (Ug [(va,s),(vb,t)] (by simp;omega) (by simp) X w.heap.size 2 (by simp) w1 ?_) ?_
 ·intro i p hp;match i,hp with
  | 0,hp=>cases hp;exact⟨d0,Wb.below aV.below,hA⟩
  | 1,hp=>cases hp;exact⟨d1,Lu.below aV.below,hB⟩
  | n+2,hp=>cases hp
 rintro v2 w2 ⟨lC,dt⟩;rw[show [(va,s),(vb,t)].flatMap (·.2)=s++t by simp]at lC
 push_cast -dsimp;refine aA (aOF (s++t) (by rw[List.length_append];omega) _ _ w2 lC.sl lC.kT) ?_;rintro v3 w3 ⟨mK,gV⟩;push_cast -dsimp;have BV:=dt.size;exact⟨mK.mono (by omega),(aV.below.trans (dt.mono (by omega))).trans (gV.mono (by omega))⟩
theorem aCv (s t:List Rg)(hs:s.length<1000000)(ht:t.length<1000000)(jU:aO (-2) s=true)(Kb:aO (-2) t=true)(X:Nat->Prop)(va vb:Value)(w:World)(Wb:Sl X 2 (En ay) w va s)(Lu:Sl X 2 (En ay) w vb t) :
  ar Tryz.prog 94 [va,vb] w λr w'=>Vc.Own w.heap.size 208 2 ay w' r (BM s t)/\Below w.heap.size w w':=by
 have n1:=tJ s;have n2:=tJ t;have n3:=Sa (gq s) (gq t);refine aE Tryz.func94 rfl (by kernel_rfl) [4] rfl ?_;push_cast -dsimp(maxSteps:=4000000) [Tryz.ntmps94];refine aA (JV s (by omega) jU X va w Wb) ?_;rintro v1 w1 ⟨uN,gU⟩;have ph:=gU.size;push_cast -dsimp;refine aA (JV t (by omega) Kb X vb w1 (Lu.below gU)) ?_;rintro v2 w2 ⟨lC,dt⟩;have BV:=dt.size;push_cast -dsimp;refine aA (aJ8 (gq s) (gq t) (by omega) (by omega) (λ_=>False) v1 v2 w2 ((uN.sl.weaken (λ_ h=>h.elim)).below dt) (lC.sl.weaken (λ_ h=>h.elim)) uN.kT lC.kT) ?_;rintro v3 w3 ⟨mK,gV⟩;have Kf:=gV.size;push_cast -dsimp;refine aA (JV (BO (gq s) (gq t)) (by omega) (qw _ _) (λ_=>False) v3 w3 (mK.sl.weaken (λ_ h=>h.elim))) ?_;rintro v4 w4 ⟨kQ,nd⟩;push_cast -dsimp;exact⟨kQ.mono (by omega),((gU.trans (dt.mono (by omega))).trans (gV.mono (by omega))).trans (nd.mono (by omega))⟩
theorem aFG (s t:List Rg)(hs:s.length<900000)(ht:t.length<900000)(jU:aO (-2) s=true)(Kb:aO (-2) t=true)(X:Nat->Prop)(va vb:Value)(w:World)(Wb:Sl X 2 (En ay) w va s)(Lu:Sl X 2 (En ay) w vb t) :
  ar Tryz.prog 95 [va,vb] w λr w'=>Vc.Own w.heap.size 208 2 ay w' r (yg s t)/\Below w.heap.size w w':=by
 have n2:=tJ t;refine aE Tryz.func95 rfl (by kernel_rfl) [4] rfl ?_;push_cast -dsimp(maxSteps:=4000000) [Tryz.ntmps95];refine aA (JV t (by omega) Kb X vb w Lu) ?_;rintro v2 w2 ⟨lC,dt⟩;have BV:=dt.size;push_cast -dsimp;refine aA (aCv s (gq t) (by omega) (by omega) jU (pN Kb) (λ_=>False) va v2 w2 ((Wb.below dt).weaken (λ_ h=>h.elim)) (lC.sl.weaken (λ_ h=>h.elim))) ?_;rintro v3 w3 ⟨mK,gV⟩;push_cast -dsimp;exact⟨mK.mono (by omega),dt.trans (gV.mono (by omega))⟩
def fz (X:Nat->Prop)(w:World)(b:Nat)(nm:bZ):Prop:=∃gZ:List (List UInt8×Value),mf (λl:List UInt8=>str l) w b gZ/\dW (λkv x=>kv.1=x.1/\Sl X 2 (En ay) w kv.2 x.2/\Arg kv.2) gZ nm
theorem fz.below {X:Nat->Prop}{w w':World}{b:Nat}{nm:bZ}(h:fz X w b nm)(hb:Below w.heap.size w w'):fz X w' b nm:=by
 obtain⟨gZ,h2,h3⟩:=h;exact⟨gZ,h2.below hb h2.lt,h3.imp λa b h=>⟨h.1,h.2.1.below hb,h.2.2⟩⟩
theorem fz.lt {X:Nat->Prop}{w:World}{b:Nat}{nm:bZ}(h:fz X w b nm):b<w.heap.size:=by
 obtain⟨gZ,h2,h3⟩:=h;exact h2.lt
theorem fz.find {X:Nat->Prop}{w:World}{n:List UInt8}:∀{gZ:List (List UInt8×Value)} {nm:bZ},dW (λkv x=>kv.1=x.1/\Sl X 2 (En ay) w kv.2 x.2/\Arg kv.2) gZ nm ->
  (sB n nm=none/\eA n gZ=none)\/∃s u,sB n nm=some s/\eA n gZ=some u/\Sl X 2 (En ay) w u s/\Arg u:=by
 intro gZ nm h;induction h with
 | nil=>exact .inl ⟨rfl,rfl⟩
 | @cons kv x l m h1 h2 ih =>
  obtain⟨e,hs,ha⟩:=h1;by_cases hn:x.1=n
  ·exact .inr ⟨x.2,kv.2,by rw[sB,if_pos hn],by rw[eA,if_pos (by rw[e,hn])],hs,ha⟩
  rw[sB,if_neg hn,eA,if_neg (λh=>hn (by rw[<-e,<-h]))];exact ih
def cZ (X:Nat->Prop)(B:Nat)(nm:bZ)(k:aw)(r:Value)(w:World):Prop:=match cC nm k with
 | .ok s=>∃v,r=.tuple #[v,.nilIface]/\Sl (λb=>X b/\b<B) 2 (En ay) w v s/\Arg v
 | .error e=>∃b,B<=b/\r=.tuple #[.slice none 0 0,.iface 141 (.pointer (some ⟨b,0,none⟩))]/\aL w b 143 [.int .i64 7,.int .i64 e]
theorem Em:∀(k:aw),gO k->∀(nm:bZ),jL nm->∀(X:Nat->Prop) (v:Value) (b:Nat) (w:World),eX X w v k->fz X w b nm ->
  ar Tryz.prog 59 [v,.map (some b)] w λr w'=>cZ X w.heap.size nm k r w'/\Below w.heap.size w w':=by
 intro k;induction k with
 | lit pos s =>
  rintro bU nm hr X v mb w ⟨b,sv,rfl,hb,hB,hs,ha⟩ hm;have d0:w.cell? ⟨b,0,none⟩=some (.int .i64 1):=hB.cell rfl;have d2:w.cell? ⟨b,2,none⟩=some sv:=hB.cell rfl;obtain⟨_,_,rfl,_⟩:=hs.shape
  (refine aE Tryz.func59 rfl (by kernel_rfl) [4,5] rfl ?_;push_cast -dsimp(maxSteps:=4000000) [Tryz.ntmps59]);push_cast -dsimp[d0,d2];exact⟨⟨_,rfl,hs.weaken (λb hh=>hh.1),ha⟩,Below.refl _ _⟩
 | ref pos n =>
  rintro bU nm hr X v mb w ⟨b,rfl,hb,hB⟩ hm;have d0:w.cell? ⟨b,0,none⟩=some (.int .i64 2):=hB.cell rfl;have d1:w.cell? ⟨b,1,none⟩=some (.int .i64 pos):=hB.cell rfl;have d3:w.cell? ⟨b,3,none⟩=some (str n):=hB.cell rfl;obtain⟨gZ,hM,hA⟩:=hm;have hf:=fz.find (n:=n) hA
  (refine aE Tryz.func59 rfl (by kernel_rfl) [4,5] rfl ?_;push_cast -dsimp(maxSteps:=4000000) [Tryz.ntmps59]);push_cast -dsimp[d0,d1,d3];rcases hf with ⟨f1,f2⟩|⟨s,u,f1,f2,hs,ha⟩
  ·refine oy (kt:=9) (et:=139) (z:=.slice none 0 0) (by kernel_rfl) (nX (by kernel_rfl)) (by kernel_rfl) hM rfl f2 ?_;push_cast -dsimp;have d1d:w.drew.cell? ⟨b,1,none⟩=some (.int .i64 pos):=d1;refine ba (λw'=>w'.cell? ⟨b,1,none⟩=some (.int .i64 pos)) mixed (by kernel_rfl) d1 ?_;push_cast -dsimp[d1d];refine⟨λbE h=>by rw[h];exact rfl,?_⟩;refine aR ?_;intro w2 bH;have bH:mg w.drew w2 143 [.int .i64 7,.int .i64 pos]:=bH;have aj:=hB.lt;have dt:Below w.heap.size w w2:=((Kept.refl (λ_=>False) w).drew.below (Nat.le_refl _) (λ_ h=>h.elim)).trans bH.below;refine⟨(dt.cell (by show b<_;omega)).trans d1,?_⟩
   push_cast -dsimp;refine⟨?_,dt⟩;unfold cZ;rw[show cC nm (.ref pos n)=.error pos from by rw[cC,f1]]
   exact⟨w.heap.size,Nat.le_refl _,rfl,bH.aM⟩
  refine oz (kt:=9) (et:=139) (z:=.slice none 0 0) (by kernel_rfl) (nX (by kernel_rfl)) (by kernel_rfl) hM rfl f2 ?_;obtain⟨_,_,rfl,_⟩:=hs.shape;push_cast -dsimp;refine⟨?_,Below.refl _ _⟩;unfold cZ;rw[show cC nm (.ref pos n)=.ok s from by rw[cC,f1]]
  exact⟨_,rfl,hs.weaken (λb hh=>hh.1),ha⟩
 | not pos k ih =>
  rintro bU nm hr X v mb w ⟨b,u,rfl,hb,hB,h1⟩ hm;obtain⟨b1,rfl,gU⟩:=h1.ptr;have d0:w.cell? ⟨b,0,none⟩=some (.int .i64 6):=hB.cell rfl;have d4:w.cell? ⟨b,4,none⟩=some (.pointer (some ⟨b1,0,none⟩)):=hB.cell rfl
  (refine aE Tryz.func59 rfl (by kernel_rfl) [4,5] rfl ?_;push_cast -dsimp(maxSteps:=4000000) [Tryz.ntmps59]);push_cast -dsimp[d0,d4];refine aA (ih bU nm hr X _ mb w h1 hm) ?_;rintro r w1 ⟨hR,iM⟩;have z1:=iM.size;have oT:=hB.below iM hB.lt;have e0:w1.cell? ⟨b,0,none⟩=some (.int .i64 6):=oT.cell rfl;unfold cZ at hR;cases hk:cC nm k with
  | ok s =>
   rw[hk]at hR;obtain⟨v1,rfl,ft,La⟩:=hR;have jU:=eU (k:=k) hr bU hk;have hle:=eI jU;push_cast -dsimp[e0];refine aA (JV s (by omega) jU _ _ w1 ft) ?_;rintro v2 w2 ⟨lC,dt⟩;have Yr:=iM.trans (dt.mono z1);have ha2:Arg v2:=lC.kT;obtain⟨_,_,rfl⟩:=lC.slice;push_cast -dsimp;refine⟨?_,Yr⟩;unfold cZ;rw[show cC nm (.not pos k)=.ok (gq s) from by rw[cC,hk]]
   exact⟨_,rfl,lC.sl.weaken (λb hh=>by have:=hh.2;omega),ha2⟩
  | error e =>
   rw[hk]at hR;obtain⟨eb,DU,rfl,hE⟩:=hR;push_cast -dsimp;refine⟨?_,iM⟩;unfold cZ;rw[show cC nm (.not pos k)=.error e from by rw[cC,hk]]
   exact⟨eb,DU,rfl,hE⟩
 | bin c pos k r ih ih' =>
  rintro bU nm hr X v mb w ⟨b,u,x,rfl,hb,hB,h1,h2⟩ hm;obtain⟨b1,rfl,gU⟩:=h1.ptr;obtain⟨b2,rfl,dt⟩:=h2.ptr;obtain⟨Ql,Qm,hc⟩:=bU;have d4:w.cell? ⟨b,4,none⟩=some (.pointer (some ⟨b1,0,none⟩)):=hB.cell rfl;rcases hc with rfl|rfl|rfl
  case inl =>
   have d0:w.cell? ⟨b,0,none⟩=some (.int .i64 3):=hB.cell rfl
   (refine aE Tryz.func59 rfl (by kernel_rfl) [4,5] rfl ?_;push_cast -dsimp(maxSteps:=4000000) [Tryz.ntmps59]);push_cast -dsimp[d0,d4];refine aA (ih Ql nm hr X _ mb w h1 hm) ?_;rintro r1 w1 ⟨hR,iM⟩;have z1:=iM.size;have oT:=hB.below iM hB.lt;have e0:w1.cell? ⟨b,0,none⟩=some (.int .i64 3):=oT.cell rfl;have e5:w1.cell? ⟨b,5,none⟩=some (.pointer (some ⟨b2,0,none⟩)):=oT.cell rfl;unfold cZ at hR;cases hk:cC nm k with
   | error e =>
    rw[hk]at hR;obtain⟨eb,DU,rfl,hE⟩:=hR;push_cast -dsimp;refine⟨?_,iM⟩;unfold cZ;rw[show cC nm (.bin 3 pos k r)=.error e from by rw[cC,hk]]
    exact⟨eb,DU,rfl,hE⟩
   | ok s =>
    rw[hk]at hR;obtain⟨v1,rfl,ft,La⟩:=hR;have jU:=eU hr Ql hk;have hls:=eI jU;obtain⟨_,_,rfl,_⟩:=ft.shape;push_cast -dsimp[e0,e5];refine aA (ih' Qm nm hr X _ mb w1 (h2.below iM) (hm.below iM)) ?_;rintro r2 w2 ⟨xz,p6⟩;have z2:=p6.size;have iP:=iM.trans (p6.mono z1);have fx:=oT.below p6 oT.lt;have f0:w2.cell? ⟨b,0,none⟩=some (.int .i64 3):=fx.cell rfl;unfold cZ at xz;cases jI:cC nm r with
    | error e =>
     rw[jI]at xz;obtain⟨eb,DU,rfl,hE⟩:=xz;push_cast -dsimp;refine⟨?_,iP⟩;unfold cZ;rw[show cC nm (.bin 3 pos k r)=.error e from by rw[cC,hk];dsimp only;rw[jI]]
     exact⟨eb,by omega,rfl,hE⟩
    | ok t =>
     rw[jI]at xz;obtain⟨v2,rfl,gY,ha2⟩:=xz;have Kb:=eU hr Qm jI;have aj:=eI Kb;obtain⟨_,_,rfl,_⟩:=gY.shape;push_cast -dsimp[f0];refine aA (aJ8 s t (by omega) (by omega) (λ_=>False) _ _ w2 ((ft.below p6).weaken (λ_ h=>h.elim)) (gY.weaken (λ_ h=>h.elim)) La ha2) ?_;rintro v3 w3 ⟨mK,gV⟩;have qK:=iP.trans (gV.mono (by omega));have ha3:Arg v3:=mK.kT;obtain⟨_,_,rfl⟩:=mK.slice;push_cast -dsimp;refine⟨?_,qK⟩;unfold cZ;rw[show cC nm (.bin 3 pos k r)=.ok (BO s t) from by rw[cC,hk];dsimp only;rw[jI];rfl]
     exact⟨_,rfl,mK.sl.weaken (λb hh=>by have:=hh.2;omega),ha3⟩
  case inr.inl =>
   have d0:w.cell? ⟨b,0,none⟩=some (.int .i64 4):=hB.cell rfl
   (refine aE Tryz.func59 rfl (by kernel_rfl) [4,5] rfl ?_;push_cast -dsimp(maxSteps:=4000000) [Tryz.ntmps59]);push_cast -dsimp[d0,d4];refine aA (ih Ql nm hr X _ mb w h1 hm) ?_;rintro r1 w1 ⟨hR,iM⟩;have z1:=iM.size;have oT:=hB.below iM hB.lt;have e0:w1.cell? ⟨b,0,none⟩=some (.int .i64 4):=oT.cell rfl;have e5:w1.cell? ⟨b,5,none⟩=some (.pointer (some ⟨b2,0,none⟩)):=oT.cell rfl;unfold cZ at hR;cases hk:cC nm k with
   | error e =>
    rw[hk]at hR;obtain⟨eb,DU,rfl,hE⟩:=hR;push_cast -dsimp;refine⟨?_,iM⟩;unfold cZ;rw[show cC nm (.bin 4 pos k r)=.error e from by rw[cC,hk]]
    exact⟨eb,DU,rfl,hE⟩
   | ok s =>
    rw[hk]at hR;obtain⟨v1,rfl,ft,La⟩:=hR;have jU:=eU hr Ql hk;have hls:=eI jU;obtain⟨_,_,rfl,_⟩:=ft.shape;push_cast -dsimp[e0,e5];refine aA (ih' Qm nm hr X _ mb w1 (h2.below iM) (hm.below iM)) ?_;rintro r2 w2 ⟨xz,p6⟩;have z2:=p6.size;have iP:=iM.trans (p6.mono z1);have fx:=oT.below p6 oT.lt;have f0:w2.cell? ⟨b,0,none⟩=some (.int .i64 4):=fx.cell rfl;unfold cZ at xz;cases jI:cC nm r with
    | error e =>
     rw[jI]at xz;obtain⟨eb,DU,rfl,hE⟩:=xz;push_cast -dsimp;refine⟨?_,iP⟩;unfold cZ;rw[show cC nm (.bin 4 pos k r)=.error e from by rw[cC,hk];dsimp only;rw[jI]]
     exact⟨eb,by omega,rfl,hE⟩
    | ok t =>
     rw[jI]at xz;obtain⟨v2,rfl,gY,ha2⟩:=xz;have Kb:=eU hr Qm jI;have aj:=eI Kb;obtain⟨_,_,rfl,_⟩:=gY.shape;push_cast -dsimp[f0];refine aA (aCv s t (by omega) (by omega) jU Kb (λ_=>False) _ _ w2 ((ft.below p6).weaken (λ_ h=>h.elim)) (gY.weaken (λ_ h=>h.elim))) ?_;rintro v3 w3 ⟨mK,gV⟩;have qK:=iP.trans (gV.mono (by omega));have ha3:Arg v3:=mK.kT;obtain⟨_,_,rfl⟩:=mK.slice;push_cast -dsimp;refine⟨?_,qK⟩;unfold cZ;rw[show cC nm (.bin 4 pos k r)=.ok (BM s t) from by rw[cC,hk];dsimp only;rw[jI];rfl]
     exact⟨_,rfl,mK.sl.weaken (λb hh=>by have:=hh.2;omega),ha3⟩
  case inr.inr =>
   have d0:w.cell? ⟨b,0,none⟩=some (.int .i64 5):=hB.cell rfl
   (refine aE Tryz.func59 rfl (by kernel_rfl) [4,5] rfl ?_;push_cast -dsimp(maxSteps:=4000000) [Tryz.ntmps59]);push_cast -dsimp[d0,d4];refine aA (ih Ql nm hr X _ mb w h1 hm) ?_;rintro r1 w1 ⟨hR,iM⟩;have z1:=iM.size;have oT:=hB.below iM hB.lt;have e0:w1.cell? ⟨b,0,none⟩=some (.int .i64 5):=oT.cell rfl;have e5:w1.cell? ⟨b,5,none⟩=some (.pointer (some ⟨b2,0,none⟩)):=oT.cell rfl;unfold cZ at hR;cases hk:cC nm k with
   | error e =>
    rw[hk]at hR;obtain⟨eb,DU,rfl,hE⟩:=hR;push_cast -dsimp;refine⟨?_,iM⟩;unfold cZ;rw[show cC nm (.bin 5 pos k r)=.error e from by rw[cC,hk]]
    exact⟨eb,DU,rfl,hE⟩
   | ok s =>
    rw[hk]at hR;obtain⟨v1,rfl,ft,La⟩:=hR;have jU:=eU hr Ql hk;have hls:=eI jU;obtain⟨_,_,rfl,_⟩:=ft.shape;push_cast -dsimp[e0,e5];refine aA (ih' Qm nm hr X _ mb w1 (h2.below iM) (hm.below iM)) ?_;rintro r2 w2 ⟨xz,p6⟩;have z2:=p6.size;have iP:=iM.trans (p6.mono z1);have fx:=oT.below p6 oT.lt;have f0:w2.cell? ⟨b,0,none⟩=some (.int .i64 5):=fx.cell rfl;unfold cZ at xz;cases jI:cC nm r with
    | error e =>
     rw[jI]at xz;obtain⟨eb,DU,rfl,hE⟩:=xz;push_cast -dsimp;refine⟨?_,iP⟩;unfold cZ;rw[show cC nm (.bin 5 pos k r)=.error e from by rw[cC,hk];dsimp only;rw[jI]]
     exact⟨eb,by omega,rfl,hE⟩
    | ok t =>
     rw[jI]at xz;obtain⟨v2,rfl,gY,ha2⟩:=xz;have Kb:=eU hr Qm jI;have aj:=eI Kb;obtain⟨_,_,rfl,_⟩:=gY.shape;push_cast -dsimp[f0];refine aA (aFG s t (by omega) (by omega) jU Kb (λ_=>False) _ _ w2 ((ft.below p6).weaken (λ_ h=>h.elim)) (gY.weaken (λ_ h=>h.elim))) ?_;rintro v3 w3 ⟨mK,gV⟩;have qK:=iP.trans (gV.mono (by omega));have ha3:Arg v3:=mK.kT;obtain⟨_,_,rfl⟩:=mK.slice;push_cast -dsimp;refine⟨?_,qK⟩;unfold cZ;rw[show cC nm (.bin 5 pos k r)=.ok (yg s t) from by rw[cC,hk];dsimp only;rw[jI];rfl]
     exact⟨_,rfl,mK.sl.weaken (λb hh=>by have:=hh.2;omega),ha3⟩
end Go.Proofs.YtemjejfpadnljaaGreatDoor
end
section
namespace Cae
mutual
def wd:aG->Nat
 | .one _=>0
 | .any=>0
 | .gg=>0
 | .cat l=>Nat.max l.length (wds l)
 | .alt l=>Nat.max l.length (wds l)
 | .many x _ _=>wd x
def wds:List aG->Nat
 | []=>0
 | x::l=>Nat.max (wd x) (wds l)
end
theorem HD:∀{l:List aG} {x:aG},x∈l->wd x<=wds l
 | y::l,x,h=>by
  rw[wds];rcases List.mem_cons.1 h with rfl|h
  ·exact Nat.le_max_left _ _
  exact Nat.le_trans (HD h) (Nat.le_max_right _ _)
theorem NK {n:Nat}:∀{l:List aG},(∀x∈l,wd x<=n)->wds l<=n
 | [],_=>Nat.zero_le _
 | y::l,h=>by
  rw[wds];exact Nat.max_le.2 ⟨h y (List.mem_cons_self ..),NK λx hx=>h x (List.mem_cons_of_mem _ hx)⟩
theorem ER {l:List aG}:wds l<=wd (.cat l)/\l.length<=wd (.cat l)/\∀x∈l,wd x<=wd (.cat l):=by
 rw[wd];exact⟨Nat.le_max_right _ _,Nat.le_max_left _ _,λx hx=>Nat.le_trans (HD hx) (Nat.le_max_right _ _)⟩
theorem EO {l:List aG}:wds l<=wd (.alt l)/\l.length<=wd (.alt l)/\∀x∈l,wd x<=wd (.alt l):=by
 rw[wd];exact⟨Nat.le_max_right _ _,Nat.le_max_left _ _,λx hx=>Nat.le_trans (HD hx) (Nat.le_max_right _ _)⟩
theorem Bg {x:aG}{lo hi:Int}:wd x<=wd (.many x lo hi):=by rw[wd];exact Nat.le_refl _
mutual
theorem Ov:∀x:aG,wd x<=pn x
 | .one k=>Nat.zero_le _
 | .any=>Nat.zero_le _
 | .gg=>Nat.zero_le _
 | .cat l=>by
  rw[wd];exact Nat.max_le.2 ⟨Dn.2.1,NK λx hx=>Nat.le_trans (NL l x hx) (Dn.2.2 x hx)⟩
 | .alt l=>by
  rw[wd];exact Nat.max_le.2 ⟨Dm.2.1,NK λx hx=>Nat.le_trans (NL l x hx) (Dm.2.2 x hx)⟩
 | .many x lo hi=>by
  rw[wd];exact Nat.le_trans (Ov x) M4
theorem NL:∀(l:List aG) (x:aG),x∈l->wd x<=pn x
 | [],x,h=>by cases h
 | y::l,x,h=>by
  rcases List.mem_cons.1 h with h|h
  ·rw[h];exact Ov y
  exact NL l x h
end
end Cae
end
section
namespace Go.Proofs.YtemjejfpadnljaaGreatDoor
open Go.Vc Go.Proofs Go.RowKit Cae
attribute [local irreducible] cg aa ag aX runK ar Sl Vc.Own vc aQ br a7
def yn (B:Nat)(o:Option (Int×Nat))(r:Value)(w:World):Prop:=match o with
 | none=>r=.nilIface
 | some (c,e)=>∃b,B<=b/\r=.iface 141 (.pointer (some ⟨b,0,none⟩))/\aL w b 143 [.int .i64 c,.int .i64 e]
def yp (nm:bZ)(x:aG):Option (Int×Nat):=(gx nm x).map λe=>((7:Int),e)
def xi (x:aG):Prop:=bI x->wd x<=100000000->∀(nm:bZ),jL nm->∀(X:Nat->Prop) (v:Value) (b:Nat) (w:World),bC X w v x->fz X w b nm ->
 ar Tryz.prog 45 [v,.map (some b)] w λr w'=>yn w.heap.size (yp nm x) r w'/\Below w.heap.size w w'
theorem Z1 (k:aw):xi (.one k):=by
 intro bU oV nm hr X v mb w hV hm;simp only[bC]at hV;obtain⟨b,u,rfl,hb,hB,h1⟩:=hV;obtain⟨b1,rfl,gU⟩:=h1.ptr;have d0:w.cell? ⟨b,0,none⟩=some (.int .i64 1):=hB.cell rfl;have d1:w.cell? ⟨b,1,none⟩=some (.pointer (some ⟨b1,0,none⟩)):=hB.cell rfl;simp only[bI]at bU;refine aE Tryz.func45 rfl (by kernel_rfl) [4] rfl ?_;push_cast -dsimp(maxSteps:=4000000) [Tryz.ntmps45];push_cast -dsimp[d0,d1];refine aA (Em k bU nm hr X _ mb w h1 hm) ?_;rintro r w1 ⟨hR,iM⟩;unfold cZ at hR;cases hk:cC nm k with
 | ok s =>
  rw[hk]at hR;obtain⟨v1,rfl,ft,La⟩:=hR;push_cast -dsimp;refine⟨?_,iM⟩;unfold yp;rw[gx,hk];rfl
 | error e =>
  rw[hk]at hR;obtain⟨eb,DU,rfl,hE⟩:=hR;push_cast -dsimp;refine⟨?_,iM⟩;unfold yp;rw[gx,hk];exact⟨eb,DU,rfl,hE⟩
theorem rP {nm:bZ}:∀(a b:List aG),iW nm (a++b)=match iW nm a with
  | some e=>some e
  | none=>iW nm b
 | [],b=>by simp only[List.nil_append,iW]
 | x::a,b=>by
  simp only[List.cons_append,iW];cases gx nm x with
  | some e=>rfl
  | none=>exact rP a b
theorem nj (code lo hi:Int)(hc:code≠1)(l:List aG)(hl:∀x∈l,xi x)(bU:∀x∈l,bI x/\wd x<=100000000)(hlen:l.length<=100000000)(nm:bZ)(hr:jL nm)(X:Nat->Prop)(b mb:Nat)(pv sv:Value)(vs:List Nat)(w:World)
  (hB:aL w b 158 [.int .i64 code,pv,sv,.int .i64 lo,.int .i64 hi]) (hs:Sl X 1 (En fi) w sv vs) (hV:aP X w vs l) (hm:fz X w mb nm) :
  ar Tryz.prog 45 [.pointer (some ⟨b,0,none⟩),.map (some mb)] w λr w'=>yn w.heap.size ((iW nm l).map λe=>((7:Int),e)) r w'/\Below w.heap.size w w':=by
 have hvl:=hV.len;obtain⟨sa,sc,rfl,CH⟩:=hs.shape;have d0:w.cell? ⟨b,0,none⟩=some (.int .i64 code):=hB.cell rfl;have d2:w.cell? ⟨b,2,none⟩=some (.slice sa vs.length sc):=hB.cell rfl;refine aE Tryz.func45 rfl (by kernel_rfl) [4] rfl ?_;push_cast -dsimp(maxSteps:=4000000) [Tryz.ntmps45];push_cast -dsimp[d0,d2];refine⟨λh=>absurd h hc,λ_=>?_⟩;refine aK [4,8,9,30,31,32,33,34,35,36,37,38,39,40] (λz wx=>∃(i:Nat),z 30=.int .i64 i/\i<=l.length/\iW nm (l.take i)=none/\Below w.heap.size w wx) (λz _=>l.length-(intOf (z 30)).toNat) ?_ ?_
 ·exact⟨0,rfl,Nat.zero_le _,by simp[iW],Below.refl _ _⟩
 intro z wx hI;obtain⟨i,h30,hi,gG,eW⟩:=hI;have zx:=eW.size;push_cast -dsimp[h30];refine⟨λaj=>?_,λeo=>?_⟩
 ·obtain⟨x,hx,mm,_,ht⟩:=ah (l:=l) (i:=i) (by omega);obtain⟨u,hu,hVx⟩:=aP.nth hV hx;obtain⟨b1,o,rfl,mJ,aU⟩:=(hs.below eW).get hu;have c0:wx.cell? ⟨b1,o+i,none⟩=some (.pointer (some ⟨u,0,none⟩)):=by simpa[fi,bw] using aU 0 _ rfl
  push_cast -dsimp[c0,Nat.mul_one];refine⟨⟨by omega,by omega⟩,?_⟩;refine aA (hl x mm (bU x mm).1 (bU x mm).2 nm hr X _ mb wx (bC.below hVx eW) (hm.below eW)) ?_;rintro r wy ⟨hE,yB⟩;have aIF:=eW.trans (yB.mono zx);unfold yp at hE;cases hp:gx nm x with
  | none =>
   rw[hp]at hE;have hE:r=.nilIface:=hE;subst hE;push_cast -dsimp;refine⟨⟨by omega,by omega⟩,⟨i+1,rfl,by omega,?_,aIF⟩,by rw[h30];simp only[intOf];omega⟩;rw[ht,rP,gG];simp only[iW,hp]
  | some e =>
   rw[hp]at hE;obtain⟨eb,DU,rfl,Vk⟩:=hE;push_cast -dsimp;refine⟨?_,aIF⟩;have dA:iW nm l=some e:=by
    have tT:l=l.take (i+1)++l.drop (i+1):=(List.take_append_drop _ _).symm;rw[tT,rP,ht,rP,gG];simp only[iW,hp]
   rw[dA];exact⟨eb,by omega,rfl,Vk⟩
 rw[List.take_of_length_le (by omega)]at gG;refine⟨?_,eW⟩;rw[gG];rfl
theorem ZZ:xi .any:=by
 intro bU oV nm hr X v mb w hV hm;simp only[bC]at hV;obtain⟨b,rfl,hb,hB⟩:=hV;exact(nj 2 0 0 (by decide) [] (λx h=>by cases h) (λx h=>by cases h) (by simp) nm hr X b mb _ _ [] w hB (Sl.nil _ _ _ _ _ _) (by simp only[aP]) hm).mono λr w' ⟨h1,h2⟩=>⟨by simpa[yp,gx,iW] using h1,h2⟩
theorem U6:xi .gg:=by
 intro bU oV nm hr X v mb w hV hm;simp only[bC]at hV;obtain⟨b,rfl,hb,hB⟩:=hV;exact(nj 3 0 0 (by decide) [] (λx h=>by cases h) (λx h=>by cases h) (by simp) nm hr X b mb _ _ [] w hB (Sl.nil _ _ _ _ _ _) (by simp only[aP]) hm).mono λr w' ⟨h1,h2⟩=>⟨by simpa[yp,gx,iW] using h1,h2⟩
theorem Z0 (l:List aG)(hl:∀x∈l,xi x):xi (.cat l):=by
 intro bU oV nm hr X v mb w hV hm;simp only[bC]at hV;obtain⟨b,sv,vs,rfl,hb,hB,hs,hV⟩:=hV;have CG:=ER (l:=l);simp only[bI]at bU;exact(nj 4 0 0 (by decide) l hl (λx h=>⟨iu bU h,by have:=CG.2.2 x h;omega⟩) (by have:=CG.2.1;omega) nm hr X b mb _ sv vs w hB hs hV hm).mono λr w' ⟨h1,h2⟩=>⟨by simpa[yp,gx] using h1,h2⟩
theorem ZY (l:List aG)(hl:∀x∈l,xi x):xi (.alt l):=by
 intro bU oV nm hr X v mb w hV hm;simp only[bC]at hV;obtain⟨b,sv,vs,rfl,hb,hB,hs,hV⟩:=hV;have CG:=EO (l:=l);simp only[bI]at bU;exact(nj 5 0 0 (by decide) l hl (λx h=>⟨iu bU h,by have:=CG.2.2 x h;omega⟩) (by have:=CG.2.1;omega) nm hr X b mb _ sv vs w hB hs hV hm).mono λr w' ⟨h1,h2⟩=>⟨by simpa[yp,gx] using h1,h2⟩
theorem U7 (x:aG)(lo hi:Int)(hx:xi x):xi (.many x lo hi):=by
 intro bU oV nm hr X v mb w hV hm;simp only[bC]at hV;obtain⟨b,sv,u,rfl,hb,hB,hs,hV⟩:=hV;have hpm:=Bg (x:=x) (lo:=lo) (hi:=hi);simp only[bI]at bU;refine(nj 6 lo hi (by decide) [x] (λy h=>by rw[List.mem_singleton]at h;rw[h];exact hx) (λy h=>by rw[List.mem_singleton]at h;rw[h];exact⟨bU.1,by omega⟩) (by simp) nm hr X b mb _ sv [u] w hB hs (by simp only[aP];exact⟨hV,trivial⟩) hm).mono λr w' ⟨h1,h2⟩=>⟨?_,h2⟩;have e:iW nm [x]=gx nm x:=by
  simp only[iW];cases gx nm x<;>rfl
 rw[e]at h1;simpa[yp,gx] using h1
mutual
theorem NW:∀x,xi x
 | .one k=>Z1 k
 | .any=>ZZ
 | .gg=>U6
 | .cat l=>Z0 l (LJ l)
 | .alt l=>ZY l (LJ l)
 | .many x lo hi=>U7 x lo hi (NW x)
theorem LJ:∀(l:List aG) (x:aG),x∈l->xi x
 | [],x,h=>by cases h
 | y::l,x,h=>by
  have hy:=NW y;rcases List.mem_cons.1 h with h|h
  ·rw[h];exact hy
  exact LJ l x h
end
def aHH (p:Nat×Nat):Int×Nat:=(if p.1=5 then 9 else 7,p.2)
def ng (X:Nat->Prop)(B:Nat)(f:dY)(r:Value)(w:World):Prop:=match gk [] f.cN with
 | .ok nm=>∃mb,B<=mb/\r=.tuple #[.map (some mb),.nilIface]/\fz (λb=>X b/\b<B) w mb nm/\jL nm
 | .error e=>∃v,r=.tuple #[.map none,v]/\yn B (some (aHH e)) v w
theorem Je {nm:bZ}{n:List UInt8}{s:List Rg}(h:jL nm)(hs:aO (-2) s=true):jL (nm++[(n,s)]):=λx hx=>by
 rw[List.mem_append,List.mem_singleton]at hx;rcases hx with hx|rfl
 ·exact h x hx
 exact hs
theorem tA {nm:bZ}{c:fB}{l:List fB}:gk nm (c::l)=if (sB c.name nm).isSome then .error (5,c.pos) else match cC nm c.kind with
  | .error e=>.error (6,e)
  | .ok s=>gk (nm++[(c.name,s)]) l:=by
 first|(rw[gk];done)|(rw[gk];rfl)
theorem yw {α β:Type}{R:α->β->Prop}{l:List α}{m:List β}(h:dW R l m){i:Nat}{y:β}(hy:m[i]?=some y):∃x,l[i]?=some x/\R x y:=by
 induction h generalizing i with
 | nil=>simp at hy
 | cons h1 _ ih =>
  cases i with
  | zero=>cases hy;exact⟨_,rfl,h1⟩
  | succ i=>exact ih (by simpa using hy)
theorem OQ (f:dY)(bU:∀c∈f.cN,gO c.kind)(hlen:f.cN.length<=1000000)(X:Nat->Prop)(v:Value)(w:World)(hv:kj X w v f) :
  ar Tryz.prog 33 [v] w λr w'=>ng X w.heap.size f r w'/\Below w.heap.size w w':=by
 obtain⟨cv,rv,cs,rs,rfl,il,jU,hC,hR⟩:=hv;have iQ:=dW.len hC;obtain⟨ca,cc,rfl,hcc⟩:=il.shape;obtain⟨ra,rc,rfl,hrc⟩:=jU.shape;refine aE Tryz.func33 rfl (by kernel_rfl) [2,3] rfl ?_;push_cast -dsimp(maxSteps:=4000000) [Tryz.ntmps33];refine aR ?_;intro w1 aV;have aV:mg w w1 26 [.slice ca cs.length cc,.slice ra rs.length rc,.bool f.dD]:=aV;have z1:=aV.size;push_cast -dsimp;refine A6 (key:=λl:List UInt8=>str l) ?_;intro w2 m2 dt z2;have B2:=aV.aM.below dt (by omega);have d2:w2.cell? ⟨w.heap.size,0,none⟩=some (.slice ca cs.length cc):=B2.cell rfl;have iP:=aV.below.trans (dt.mono (by omega));have hN:∃Xn:Nat->Prop,Xn=(λb=>(X b/\b<w.heap.size)\/b=w1.heap.size):=⟨_,rfl⟩;obtain⟨Xn,Vr⟩:=hN;push_cast -dsimp[d2];refine aK [2,3,6,7,8,9,10,15,16,17,18,19,20,21,22,23,24,25,26,27,28,29,30,31,32,33,34,35,36,37,38,39,40,41,42,43,44,45,46] (λz wx=>∃(i:Nat) (nm:bZ),z 15=.int .i64 i/\i<=f.cN.length/\gk [] f.cN=gk nm (f.cN.drop i)/\fz Xn wx w1.heap.size nm/\jL nm/\Below w.heap.size w wx/\w2.heap.size<=wx.heap.size) (λz _=>f.cN.length-(intOf (z 15)).toNat) ?_ ?_
 ·exact⟨0,[],rfl,Nat.zero_le _,rfl,⟨[],m2,.nil⟩,(λx h=>(by cases h)),iP,Nat.le_refl _⟩
 intro z wx hI;obtain⟨i,nm,h15,hi,qP,hNV,Yq,eW,zx⟩:=hI;push_cast -dsimp[h15];refine⟨λaj=>?_,λeo=>?_⟩
 ·obtain⟨c,hc,tR,_,ht⟩:=ah (l:=f.cN) (i:=i) (by omega);obtain⟨x,hx,hxn,TV,TU⟩:=yw hC hc;obtain⟨xn,xp,xk⟩:=x;simp only at hxn TV TU;subst hxn;subst TV;obtain⟨b1,o,rfl,mJ,aU⟩:=(il.below eW).get hx;have c3:aB wx ⟨b1,o+i*3,none⟩ 0 3=some [str c.name,.int .i64 c.pos,bw xk]:=ak _ 0 (λj u hu=>by simpa[zX] using aU j u hu);have AM:bw xk=.pointer (some ⟨xk,0,none⟩):=rfl;rw[AM]at c3;push_cast -dsimp[c3];refine⟨⟨by omega,by omega⟩,?_⟩;refine ao (z:=[str [],.int .i64 0,.pointer none]) (by kernel_rfl) ?_;intro wa fu;have za:=fu.size;push_cast -dsimp;refine aH (n:=3) (by kernel_rfl) fu.aM rfl (by simp) (by simp[Value.oneCell',str]) ?_;intro wb dE;have zb:=dE.size;have j6:Below wx.heap.size wx wb:=fu.below.trans (dE.kept.below (by omega) (λi h=>by omega));have Fy:=eW.trans (j6.mono eW.size);have Cb:aL wb wx.heap.size 137 [str c.name,.int .i64 c.pos,.pointer (some ⟨xk,0,none⟩)]:=dE.aM;have e0:wb.cell? ⟨wx.heap.size,0,none⟩=some (str c.name):=Cb.cell rfl;have e1:wb.cell? ⟨wx.heap.size,1,none⟩=some (.int .i64 c.pos):=Cb.cell rfl;have e2:wb.cell? ⟨wx.heap.size,2,none⟩=some (.pointer (some ⟨xk,0,none⟩)):=Cb.cell rfl;have hNb:=hNV.below j6;obtain⟨gZ,hM,hA⟩:=hNb;have hf:=fz.find (n:=c.name) hA;have WG:f.cN.drop i=c::f.cN.drop (i+1):=by rw[List.drop_eq_getElem?_toList_append,hc];rfl
  push_cast -dsimp[e0];rcases hf with ⟨f1,f2⟩|⟨s,u,f1,f2,hs,ha⟩
  ·refine oy (kt:=9) (et:=139) (z:=.slice none 0 0) (by kernel_rfl) (nX (by kernel_rfl)) (by kernel_rfl) hM rfl f2 ?_;push_cast -dsimp[e2];have AD:eX Xn wb (.pointer (some ⟨xk,0,none⟩)) c.kind:=(TU.top.below Fy).mono (Kept.refl (λ_=>False) wb) (λ_ h=>h.elim) (λb hb=>by
    rw[Vr]at hb;rcases hb with hb|hb
    ·exact .inl hb.1
    exact .inr (by omega))
   refine aA (Em c.kind (bU c tR) nm Yq Xn _ w1.heap.size wb AD ⟨gZ,hM,hA⟩) ?_;rintro r wd ⟨hK,pd⟩;have zd:=pd.size;have aIE:=Fy.trans (pd.mono Fy.size);have Cd:=Cb.below pd Cb.lt;have g0:wd.cell? ⟨wx.heap.size,0,none⟩=some (str c.name):=Cd.cell rfl;unfold cZ at hK;cases hks:cC nm c.kind with
   | error e =>
    rw[hks]at hK;obtain⟨eb,DU,rfl,hE⟩:=hK;push_cast -dsimp;refine⟨?_,aIE⟩;unfold ng;rw[qP,WG,tA,f1,hks];exact⟨_,rfl,eb,by omega,rfl,hE⟩
   | ok s =>
    rw[hks]at hK;obtain⟨v1,rfl,ft,La⟩:=hK;have jU:=eU (k:=c.kind) Yq (bU c tR) hks;obtain⟨_,_,rfl,_⟩:=ft.shape;have hMd:=hM.below pd hM.lt;push_cast -dsimp[g0];refine jG (kt:=9) (et:=139) (by kernel_rfl) (nX (by kernel_rfl)) hMd rfl f2 ?_;intro we Vm eQ Cm;have aMG:Below w.heap.size w we:=aIE.trans (eQ.below (by omega) (λi h=>by omega));push_cast -dsimp;refine⟨⟨by omega,by omega⟩,⟨i+1,nm++[(c.name,s)],rfl,by omega,?_,⟨_,Vm,?_⟩,Je Yq jU,aMG,by omega⟩,by rw[h15];simp only[intOf];omega⟩
    ·rw[qP,WG,tA,f1,hks];rfl
    refine dW.snoc (hA.imp λa b h=>⟨h.1,(h.2.1.below pd).kept eQ (λi hi=>by rw[Vr];exact .inr hi),h.2.2⟩) ⟨rfl,(ft.kept eQ (λi hi=>?_)).weaken (λb hb=>?_),La⟩
    ·exact⟨by rw[Vr];exact .inr hi,by omega⟩
    refine⟨hb,?_⟩;rw[Vr]at hb;rcases hb with hb|hb
    ·omega
    omega
  refine oz (kt:=9) (et:=139) (z:=.slice none 0 0) (by kernel_rfl) (nX (by kernel_rfl)) (by kernel_rfl) hM rfl f2 ?_;obtain⟨_,_,rfl,_⟩:=hs.shape;push_cast -dsimp;have e1d:wb.drew.cell? ⟨wx.heap.size,1,none⟩=some (.int .i64 c.pos):=e1;refine ba (λw'=>w'.cell? ⟨wx.heap.size,1,none⟩=some (.int .i64 c.pos)) mixed (by kernel_rfl) e1 ?_;push_cast -dsimp[e1d];refine⟨λbE h=>by rw[h];exact rfl,?_⟩;refine aR ?_;intro wd iT;have iT:mg wb.drew wd 143 [.int .i64 9,.int .i64 c.pos]:=iT;have pd:Below wb.heap.size wb wd:=((Kept.refl (λ_=>False) wb).drew.below (Nat.le_refl _) (λ_ h=>h.elim)).trans iT.below;refine⟨(pd.cell (by show wx.heap.size<_;omega)).trans e1,?_⟩
  push_cast -dsimp;refine⟨?_,Fy.trans (pd.mono Fy.size)⟩;unfold ng;rw[qP,WG,tA,f1];exact⟨_,rfl,wb.heap.size,Fy.size,rfl,iT.aM⟩
 refine⟨?_,eW⟩;rw[List.drop_of_length_le (by omega),gk]at qP;unfold ng;rw[qP];obtain⟨gZ,hM,hA⟩:=hNV;exact⟨_,by omega,rfl,⟨gZ,hM,hA.imp λa b h=>⟨h.1,h.2.1.weaken (λb hb=>by rw[Vr];exact .inl hb),h.2.2⟩⟩,Yq⟩
theorem aCC (c:Bool)(n k n' k':Nat)(L:VP)(other:Prop)(p):cF 3 c .eql (.slice none n k) (.slice none n' k') L other p=L (.bool true):=by
 cases c<;>rfl
theorem aCD (c:Bool)(a:Addr)(n k n' k':Nat)(L:VP)(other:Prop)(p):cF 3 c .eql (.slice (some a) n k) (.slice none n' k') L other p=L (.bool false):=by
 cases c<;>rfl
theorem VJ:∀x,∀u∈Vc.p3 x,u.oneCell'=true:=by simp[Vc.p3,Value.oneCell']
theorem Z3 (l:List Int)(hl:l.length<1000000000)(X:Nat->Prop)(v:Value)(w:World)(hv:Sl X 1 (En Vc.p3) w v l)(ha:Arg v) :
  ar Tryz.prog 55 [v] w λr w'=>Vc.Own w.heap.size 3 1 Vc.p3 w' r l/\Below w.heap.size w w':=by
 obtain⟨a,c,rfl,hc⟩:=hv.shape;refine aE Tryz.func55 rfl (by kernel_rfl) [2] rfl ?_;push_cast -dsimp(maxSteps:=4000000) [Tryz.ntmps55];cases a with
 | none =>
  obtain⟨h0,rfl⟩:=ha _ _ rfl;have:l=[]:=List.eq_nil_of_length_eq_zero h0;subst this;push_cast -dsimp[aCC];exact⟨Vc.Own.nil (enc:=Vc.p3) _ _ (λ_=>rfl) _,Below.refl _ _⟩
 | some ad =>
  push_cast -dsimp[aCD];refine cG bm rfl rfl (by omega) ?_;intro w1 aV;have uN:=aV.own (base:=w.heap.size) (k:=1) (n:=0) (enc:=Vc.p3) (l:=[]) rfl rfl (λ_=>rfl) (Nat.le_refl _) (by omega);have ph:=aV.size;push_cast -dsimp;refine lh (base:=w.heap.size) (enc:=Vc.p3) (ys:=l) bm uN (hv.below aV.below) (λn c h=>by cases h) VJ (by simp only[List.length_nil];omega) (by omega) ?_;intro v' w2 lC C0 dt;rw[List.nil_append]at lC;push_cast -dsimp;exact⟨lC,aV.below.trans dt⟩
end Go.Proofs.YtemjejfpadnljaaGreatDoor
end
section
namespace Cae
open Go.Lib
end Cae
namespace Go.Proofs.YtemjejfpadnljaaGreatDoor
open Go.Vc Go.Proofs Go.RowKit Cae Go.Sort
end Go.Proofs.YtemjejfpadnljaaGreatDoor
end
section
namespace Go.Vc
open Go.RowKit
end Go.Vc
namespace Go.Proofs.YtemjejfpadnljaaGreatDoor
open Go.Vc Go.Proofs Go.RowKit Cae
attribute [local irreducible] cg aa ag aX runK ar Sl Vc.Own vc aQ br a7
theorem Hq (l l':List Nat)(hl:l.length<10000000)(X X':Nat->Prop)(v v':Value)(w:World)(hv:Sl X 1 (En bT) w v l)(Nv:Sl X' 1 (En bT) w v' l') :
  ar Tryz.prog 12 [v,v'] w λr w'=>r=.bool (decide (l=l'))/\Below w.heap.size w w':=by
 obtain⟨a,c,rfl,hc⟩:=hv.shape;obtain⟨a',c',rfl,hc'⟩:=Nv.shape;refine aE Tryz.func12 rfl (by kernel_rfl) [4] rfl ?_;push_cast -dsimp(maxSteps:=4000000) [Tryz.ntmps12];refine⟨λcW=>⟨?_,Below.refl _ _⟩,λhe=>?_⟩
 ·rw[decide_eq_false];intro h;subst h;omega
 have Nd:l.length=l'.length:=by omega
 refine aK [4,5,13,14,15,16,17,18,19,20,21,22,23,24,25] (λz wx=>∃(i:Nat),z 13=.int .i64 i/\i<=l.length/\l.take i=l'.take i/\Below w.heap.size w wx) (λz _=>l.length-(intOf (z 13)).toNat) ?_ ?_
 ·exact⟨0,rfl,Nat.zero_le _,rfl,Below.refl _ _⟩
 intro z wx hI;obtain⟨i,zm,hi,bU,hb⟩:=hI;push_cast -dsimp[zm];refine⟨λaj=>?_,λeo=>?_⟩
 ·obtain⟨x,hx,mm,hd,ht⟩:=ah (l:=l) (i:=i) (by omega);obtain⟨b,o,rfl,hX,aU⟩:=(hv.below hb).get hx;obtain⟨x',GJ,aJR,hd',Nr⟩:=ah (l:=l') (i:=i) (by omega);obtain⟨b',o',rfl,hX',AB⟩:=(Nv.below hb).get GJ;refine ba (λw'=>∀a,w'.cell? a=wx.cell? a) mixed (by kernel_rfl) (λ_=>rfl) ?_;have c0:wx.cell? ⟨b,o+i,none⟩=some (.int .i64 (x:Int)):=by simpa using aU 0 _ rfl
  have PH:wx.cell? ⟨b',o'+i,none⟩=some (.int .i64 (x':Int)):=by simpa using AB 0 _ rfl
  have d0:wx.drew.cell? ⟨b,o+i,none⟩=some (.int .i64 (x:Int)):=c0;have d0':wx.drew.cell? ⟨b',o'+i,none⟩=some (.int .i64 (x':Int)):=PH;push_cast -dsimp[d0,d0'];refine⟨⟨by omega,by omega⟩,λbE hC=>by rw[hC,c0];exact rfl,⟨by omega,by omega⟩,λbE hC=>by rw[hC,PH];exact rfl,λcW=>?_,λheq=>?_⟩
  ·refine⟨?_,hb.drew⟩;rw[decide_eq_false];intro h;subst h;rw[hx]at GJ;cases GJ;exact cW rfl
  have heq:x=x':=by omega
  exact⟨⟨by omega,by omega⟩,⟨i+1,rfl,by omega,by rw[ht,Nr,bU,heq],hb.drew⟩,by rw[zm];simp only[intOf];omega⟩
 refine⟨?_,hb⟩;rw[List.take_of_length_le (by omega),List.take_of_length_le (by omega)]at bU;rw[decide_eq_true bU]
end Go.Proofs.YtemjejfpadnljaaGreatDoor
end
section
namespace Go.Proofs.YtemjejfpadnljaaGreatDoor
open Go.Vc Go.Proofs Go.RowKit Cae Go.Sort
end Go.Proofs.YtemjejfpadnljaaGreatDoor
end
section
namespace Cae
section
variable {has:aw->Int->Prop} {bS:List Int} {back:Bool}
end
def usize (c:Nat):Nat:=if c<128 then 1 else if 194<=c/\c<224 then 2 else if 224<=c/\c<240 then 3 else if 240<=c/\c<245 then 4 else 0
theorem B8 (c:Nat):usize c<=4:=by unfold usize;grind
def Yb (n:Nat):Nat:=if n=2 then 128 else if n=3 then 2048 else if n=4 then 65536 else 0
def pW (n c:Nat):Nat:=if 1<n then c % 2 ^ (7-n) else c
def KJ (n p:Nat):Prop:=p<Yb n\/1114111<p\/(55296<=p/\p<57344)
instance (n p:Nat):Decidable (KJ n p):=by unfold KJ;infer_instance
def Kh:List UInt8->Nat->Option Nat
 | [],p=>some p
 | c::r,p=>if c.toNat / 64=2 then Kh r (p*64+c.toNat % 64) else none
def eS (s:List UInt8):Nat×Nat:=match s with
 | []=>(0,0)
 | c::_ =>
  let n:=usize c.toNat
  if n=0\/s.length<n then (0,0) else
  match Kh ((s.take n).drop 1) (pW n c.toNat) with
  | none=>(0,0)
  | some p=>if KJ n p then (0,0) else (p,n)
structure U where
 p:Nat
 at_:Nat
 n:Nat
 deriving DecidableEq
def fZ (s:List UInt8):Nat×Nat:=if (eS s).2=0 then (65533,1) else eS s
theorem rY (s:List UInt8):(eS s).2<=s.length/\(eS s).2<=4/\((eS s).2=0->eS s=(0,0))/\(eS s).1<=1114111:=by
 unfold eS;cases s with
 | nil=>simp
 | cons c s =>
  dsimp only;split
  ·simp
  rename_i h;have hu:=B8 c.toNat;have h1:usize c.toNat≠0:=λe=>h (.inl e);have h2:¬(c::s).length<usize c.toNat:=λe=>h (.inr e);split
  ·simp
  split
  ·simp
  rename_i hb;unfold KJ at hb;simp only[not_or,Nat.not_lt]at hb;exact⟨by omega,hu,λe=>absurd e h1,hb.2.1⟩
theorem oN (s:List UInt8):1<=(fZ s).2/\(fZ s).2<=4:=by
 unfold fZ
 have:=rY s;split<;>first|(simp;done)|(simp;omega)|omega
theorem Bd (s:List UInt8)(h:s≠[]):(fZ s).2<=s.length:=by
 unfold fZ
 have:=rY s;have:0<s.length:=List.length_pos_iff.2 h;split<;>first|(simp;done)|(simp;omega)|omega
def j7 (at_:Nat)(s:List UInt8):List U :=
 if _h:s=[] then [] else ⟨(fZ s).1,at_,(fZ s).2⟩::j7 (at_+(fZ s).2) (s.drop (fZ s).2)
 termination_by s.length
 decreasing_by
  have h1:=oN s
  have h2:0<s.length:=List.length_pos_iff.2 (by assumption)
  simp
  omega
theorem qy (a:Nat):j7 a []=[]:=by rw[j7];simp
theorem rX (a:Nat)(s:List UInt8)(h:s≠[]):j7 a s=⟨(fZ s).1,a,(fZ s).2⟩::j7 (a+(fZ s).2) (s.drop (fZ s).2):=by rw[j7];simp[h]
theorem xc (n:Nat):∀(s:List UInt8) (a:Nat),s.length=n->(j7 a s).length<=s.length:=by
 induction n using Nat.strongRecOn with
 | _ n ih =>
  intro s a hs;by_cases h:s=[]
  ·subst h;simp[qy]
  rw[rX a s h];have h1:=oN s;have h2:=Bd s h
  have:=ih (s.drop (fZ s).2).length (by rw[List.length_drop];omega) (s.drop (fZ s).2) (a+(fZ s).2) rfl;rw[List.length_drop]at this;simp only[List.length_cons];omega
def OU (p:Int):Prop:=0<=p/\p<=1114111/\¬(55296<=p/\p<57344)
instance (p:Int):Decidable (OU p):=by unfold OU;infer_instance
theorem KK {c:UInt8}{s:List UInt8}(h0:usize c.toNat≠0)(hl:usize c.toNat<=(c::s).length)
  (h:Kh (((c::s).take (usize c.toNat)).drop 1) (pW (usize c.toNat) c.toNat)=none):eS (c::s)=(0,0):=by
 unfold eS;dsimp only;rw[if_neg (by omega),h]
theorem KL {c:UInt8}{s:List UInt8}{p:Nat}(h0:usize c.toNat≠0)(hl:usize c.toNat<=(c::s).length)
  (h:Kh (((c::s).take (usize c.toNat)).drop 1) (pW (usize c.toNat) c.toNat)=some p) :
  eS (c::s)=if KJ (usize c.toNat) p then (0,0) else (p,usize c.toNat):=by
 unfold eS;dsimp only;rw[if_neg (by omega),h]
theorem Yc {s:List UInt8}{n i p:Nat}{R:Option Nat}(hi:i<n)(hn:n<=s.length)(h:Kh ((s.take n).drop i) p=R) :
  (if (s.getD i 0).toNat / 64=2 then Kh ((s.take n).drop (i+1)) (p*64+(s.getD i 0).toNat % 64) else none)=R:=by
 have hl:i<(s.take n).length:=by rw[List.length_take];omega
 rw[List.drop_eq_getElem_cons hl,Kh]at h;have e:(s.take n)[i]=s.getD i 0:=by
  rw[List.getElem_take,List.getD_eq_getElem?_getD,List.getElem?_eq_getElem (by omega)];rfl
 rw[e]at h;exact h
theorem aCi {s:List UInt8}{n i p:Nat}{R:Option Nat}(hi:n<=i)(h:Kh ((s.take n).drop i) p=R):R=some p:=by
 rw[List.drop_eq_nil_of_le (by rw[List.length_take];omega)]at h;exact h.symm
theorem Sr {p i k:Nat}(h:p<256*64 ^ (i-1))(h1:1<=i)(hk:k<64):p*64+k<256*64 ^ (i+1-1):=by
 obtain⟨j,rfl⟩:∃j,i=j+1:=⟨i-1,by omega⟩;simp only[Nat.add_sub_cancel]at h ⊢
 rw[Nat.pow_succ];omega
theorem Ss {p i:Nat}(h:p<256*64 ^ (i-1))(hi:i<=4):p<67108865:=by
 have:64 ^ (i-1)<=64 ^ 3:=Nat.pow_le_pow_right (by omega) (by omega);omega
end Cae
end
section
namespace Go.Proofs.YtemjejfpadnljaaGreatDoor
open Go.Vc Go.Proofs Go.RowKit Cae
attribute [local irreducible] cg aa ag aX runK ar Sl Vc.Own vc aQ br a7
def pw (w:World):Prop:=∀k:Nat,k<5->w.cell? ⟨0,k,none⟩=some (.int .i64 (Yb k))
theorem pw.below {w w':World}(h:pw w)(hb:Below w.heap.size w w'):pw w':=λk hk=>by
 have:=h k hk;exact(hb.cell (World.block_lt_of_cell? w _ this)).trans this
theorem aF8 (c:Nat)(w:World):ar Tryz.prog 58 [.int .u8 c] w λv w'=>v=.int .i64 (usize c)/\w'=w:=by
 refine aE Tryz.func58 rfl (by kernel_rfl) [2] rfl ?_;push_cast -dsimp(maxSteps:=4000000) [Tryz.ntmps58];simp only[Value.int.injEq,usize];grind
theorem Wq {n c:Nat}(hn:n<=4)(h1:1<n)(hc:c<256) :
  cD .and .i64 (IntKind.i64.wrap (c:Int)) (IntKind.i64.wrap (1*2 ^ min ((7:Int)-n).toNat IntKind.i64.bits)-1)=((pW n c:Nat):Int):=by
 have e:n=2\/n=3\/n=4:=by omega
 rw[cU (by omega)];rcases e with rfl|rfl|rfl
 ·rw[show IntKind.i64.wrap (1*2 ^ min ((7:Int)-(2:Nat)).toNat IntKind.i64.bits)-1=((2 ^ 5-1:Nat):Int) from by decide,lL (by omega) (by omega),lz];rfl
 ·rw[show IntKind.i64.wrap (1*2 ^ min ((7:Int)-(3:Nat)).toNat IntKind.i64.bits)-1=((2 ^ 4-1:Nat):Int) from by decide,lL (by omega) (by omega),lz];rfl
 rw[show IntKind.i64.wrap (1*2 ^ min ((7:Int)-(4:Nat)).toNat IntKind.i64.bits)-1=((2 ^ 3-1:Nat):Int) from by decide,lL (by omega) (by omega),lz];rfl
theorem KM {n c:Nat}(hc:c<256):pW n c<256:=by
 unfold pW;split
 ·exact Nat.lt_of_le_of_lt (Nat.mod_le _ _) hc
 exact hc
theorem Ul (c:UInt8):cD .and .u8 (c.toNat:Int) 192=((c.toNat / 64*64:Nat):Int):=by
 have hc:=c.toNat_lt;rw[show (192:Int)=((192:Nat):Int) from rfl,qA hc (by omega)]
 congr 1;have:∀k:Nat,k<256->k &&& 192=k / 64*64:=by decide
 exact this _ hc
theorem aBc (c:UInt8):cD .and .u8 (c.toNat:Int) 63=((c.toNat % 64:Nat):Int):=by
 have hc:=c.toNat_lt;rw[show (63:Int)=((2 ^ 6-1:Nat):Int) from rfl,qA hc (by omega),lz]
theorem aBl {p c:Nat}(hp:p<2147483648) :
  cD .or .i64 (IntKind.i64.wrap ((p:Int)*2 ^ min (6:Int).toNat IntKind.i64.bits)) (IntKind.i64.wrap ((c % 64:Nat):Int))=((p*64+c % 64:Nat):Int):=by
 rw[aBU (k:=6) rfl (by omega) (by omega),cU (by omega),kA (by omega) (by omega),pG (by omega)]
theorem zk {c:UInt8}{s':List UInt8}{i p:Nat}(h1:¬(usize c.toNat:Int)=0)(h2:¬(s'.length:Int)+1<usize c.toNat)
  (Nh:1<=i) (hp:p<256*64 ^ (i-1)) (Ni:i<=usize c.toNat)
  (hr:Kh (((c::s').take (usize c.toNat)).drop i) p=Kh (((c::s').take (usize c.toNat)).drop 1) (pW (usize c.toNat) c.toNat)) :
  (i<usize c.toNat ->
   (cD .and .u8 (((c::s').getD i 0).toNat:Int) 192≠128->eS (c::s')=(0,0)) /\
   (¬cD .and .u8 (((c::s').getD i 0).toNat:Int) 192≠128->∃q:Nat,
    cD .or .i64 (IntKind.i64.wrap ((p:Int)*2 ^ min (6:Int).toNat IntKind.i64.bits)) (IntKind.i64.wrap (cD .and .u8 (((c::s').getD i 0).toNat:Int) 63))=(q:Int) /\
    q<256*64 ^ (i+1-1)/\Kh (((c::s').take (usize c.toNat)).drop (i+1)) q=Kh (((c::s').take (usize c.toNat)).drop 1) (pW (usize c.toNat) c.toNat))) /\
  (¬i<usize c.toNat->eS (c::s')=if KJ (usize c.toNat) p then (0,0) else (p,usize c.toNat)):=by
 have hu:=B8 c.toNat;have hl:usize c.toNat<=(c::s').length:=by simp only[List.length_cons];omega
 have h0:usize c.toNat≠0:=by omega
 refine⟨λaj=>?_,λeo=>KL h0 hl (aCi (by omega) hr)⟩;have dC:=Yc aj hl hr;rw[Ul,aBc];generalize (c::s').getD i 0=x at dC ⊢
 refine⟨λhx=>?_,λhx=>?_⟩
 ·rw[if_neg (by omega)]at dC;exact KK h0 hl dC.symm
 rw[if_pos (by omega)]at dC;exact⟨_,aBl (by have:=Ss hp (by omega);omega),Sr hp Nh (Nat.mod_lt _ (by omega)),dC⟩
theorem Zh (s:List UInt8)(hs:s.length<1000000)(h0:s≠[])(w:World)(hg:pw w) :
  ar Tryz.prog 32 [str s] w λv w'=>v=.tuple #[.int .i64 (eS s).1,.int .i64 (eS s).2]/\Below w.heap.size w w':=by
 obtain⟨c,s',rfl⟩:=List.exists_cons_of_ne_nil h0;have hl:0<((c::s').length:Int):=by simp
 refine aE Tryz.func32 rfl (by kernel_rfl) [2,3] rfl ?_;push_cast -dsimp(maxSteps:=4000000) [Tryz.ntmps32];refine⟨hl,?_⟩;refine aA (aF8 _ w) ?_;rintro v w' ⟨rfl,rfl⟩;have hu:=B8 c.toNat;have hc:=c.toNat_lt;simp only[List.getD_cons_zero];push_cast -dsimp
 repeat' first|apply And.intro|intro _
 all_goals try exact hl
 all_goals try simp only[List.getD_cons_zero]
 all_goals try exact Below.refl _ _
 ·rename_i h1 h2;have e:eS (c::s')=(0,0):=by unfold eS;simp;intro h3;omega
  rw[e];rfl
 ·rename_i h1 h2 h3;refine ba (λ_=>True) mixed (by kernel_rfl) trivial ?_;push_cast -dsimp;refine⟨by omega,by omega,by omega,?_,?_⟩
  ·have e:usize c.toNat=2\/usize c.toNat=3\/usize c.toNat=4:=by omega
   rcases e with e|e|e<;>rw[e]<;>decide
  simp only[List.getD_cons_zero];rw[Wq hu (by omega) hc];refine aK [2,3,4,29,30,31,32,33,34,35,36,37,38,39,40,41,42,43,44,45,46] (λz wx=>∃i p:Nat,z 4=.int .i64 i/\z 2=.int .i64 p/\z 3=.int .i64 (usize c.toNat)/\1<=i/\i<=usize c.toNat/\p<256*64 ^ (i-1) /\
   Kh (((c::s').take (usize c.toNat)).drop i) p=Kh (((c::s').take (usize c.toNat)).drop 1) (pW (usize c.toNat) c.toNat)/\Below w'.heap.size w' wx) (λz _=>usize c.toNat-(intOf (z 4)).toNat) ?_ ?_
  ·exact⟨1,_,rfl,rfl,rfl,Nat.le_refl _,by omega,by simpa using KM hc,rfl,(Below.refl _ _).drew⟩
  intro z wx hI;obtain⟨i,p,h4,h2',h3',Nh,Ni,hp,hr,hb⟩:=hI;have hgn:=(hg.below hb) (usize c.toNat) (by omega);push_cast -dsimp[h4,h2',h3',hgn];obtain⟨hA,hB⟩:=zk h1 h2 Nh hp Ni hr;refine⟨λaj=>?_,λeo=>?_⟩
  ·obtain⟨hA1,TG⟩:=hA (by omega);refine⟨⟨by omega,by omega⟩,λhx=>⟨by rw[hA1 hx];rfl,hb⟩,λhx=>?_⟩;obtain⟨q,Lp,hq2,hq3⟩:=TG hx;exact⟨⟨by omega,by omega⟩,⟨by omega,by omega⟩,⟨i+1,q,rfl,congrArg _ Lp,by omega,by omega,hq2,hq3,hb⟩,by simp only[intOf];omega⟩
  have hB:=hB (by omega);rw[hB];simp only[KJ];refine⟨⟨by omega,by omega⟩,?_⟩
  repeat' first|apply And.intro|intro _
  all_goals first|exact hb|omega|skip
  all_goals grind
 ·rename_i h1 h2 h3;refine aK [2,3,4,29,30,31,32,33,34,35,36,37,38,39,40,41,42,43,44,45,46] (λz wx=>∃i p:Nat,z 4=.int .i64 i/\z 2=.int .i64 p/\z 3=.int .i64 (usize c.toNat)/\1<=i/\i<=usize c.toNat/\p<256*64 ^ (i-1) /\
   Kh (((c::s').take (usize c.toNat)).drop i) p=Kh (((c::s').take (usize c.toNat)).drop 1) (pW (usize c.toNat) c.toNat)/\Below w'.heap.size w' wx) (λz _=>usize c.toNat-(intOf (z 4)).toNat) ?_ ?_
  ·refine⟨1,_,rfl,?_,rfl,Nat.le_refl _,by omega,by simpa using KM hc,rfl,Below.refl _ _⟩;have e:pW (usize c.toNat) c.toNat=c.toNat:=by unfold pW;rw[if_neg (by omega)]
   rw[e];exact congrArg _ (cU (by omega))
  intro z wx hI;obtain⟨i,p,h4,h2',h3',Nh,Ni,hp,hr,hb⟩:=hI;have hgn:=(hg.below hb) (usize c.toNat) (by omega);push_cast -dsimp[h4,h2',h3',hgn];obtain⟨hA,hB⟩:=zk h1 h2 Nh hp Ni hr;refine⟨λaj=>?_,λeo=>?_⟩
  ·obtain⟨hA1,TG⟩:=hA (by omega);refine⟨⟨by omega,by omega⟩,λhx=>⟨by rw[hA1 hx];rfl,hb⟩,λhx=>?_⟩;obtain⟨q,Lp,hq2,hq3⟩:=TG hx;exact⟨⟨by omega,by omega⟩,⟨by omega,by omega⟩,⟨i+1,q,rfl,congrArg _ Lp,by omega,by omega,hq2,hq3,hb⟩,by simp only[intOf];omega⟩
  have hB:=hB (by omega);rw[hB];simp only[KJ];refine⟨⟨by omega,by omega⟩,?_⟩
  repeat' first|apply And.intro|intro _
  all_goals first|exact hb|omega|skip
  all_goals grind
 rename_i h1;have e:eS (c::s')=(0,0):=by unfold eS;simp;intro h3;omega
 rw[e];rfl
def Ey (u:U):List Value:=[.int .i64 u.p,.int .i64 u.at_,.int .i64 u.n]
theorem Ut (s:List UInt8)(hs:s.length<1000000)(w:World)(hg:pw w) :
  ar Tryz.prog 18 [str s] w λv w'=>Vc.Own w.heap.size 55 3 Ey w' v (j7 0 s)/\Below w.heap.size w w':=by
 refine aE Tryz.func18 rfl (by kernel_rfl) [2] rfl ?_;push_cast -dsimp(maxSteps:=4000000) [Tryz.ntmps18];refine aK [3,4,5,6,7,8,9,10,11,12,13,14,15,16,17,18,19,20,21,22,23,24,25,26,27,28,29] (λz wx=>∃(i:Nat) (acc:List U),z 4=.int .i64 i/\i<=s.length/\acc.length<=i/\acc++j7 i (s.drop i)=j7 0 s /\
  Vc.Own w.heap.size 55 3 Ey wx (z 3) acc/\Below w.heap.size w wx) (λz _=>s.length-(intOf (z 4)).toNat) ?_ ?_
 ·exact⟨0,[],rfl,Nat.zero_le _,Nat.le_refl _,rfl,Vc.Own.nil (enc:=Ey) _ _ (λ_=>rfl) _,Below.refl _ _⟩
 intro z wx hI;obtain⟨i,acc,h4,hi,ha,hd,ho,hb⟩:=hI;push_cast -dsimp[h4];refine⟨λaj=>⟨⟨by omega,by omega⟩,?_⟩,λeo=>?_⟩
 ·have cW:s.drop i≠[]:=by intro h;have:=congrArg List.length h;simp only[List.length_drop,List.length_nil]at this;omega
  refine aA (Zh (s.drop i) (by rw[List.length_drop];omega) cW wx (hg.below hb)) ?_;rintro v w1 ⟨rfl,gU⟩;push_cast -dsimp;have cI:=Bd (s.drop i) cW;have tT:=oN (s.drop i);have hu:=rY (s.drop i);have aC0:=rX i (s.drop i) cW;refine⟨λh0=>?_,λh0=>?_⟩
  ·have e:fZ (s.drop i)=(65533,1):=by unfold fZ;rw[if_pos (by omega)]
   refine cG Ew rfl rfl (by omega) ?_;intro w2 bH;push_cast -dsimp;refine NQ (ys:=[⟨65533,i,1⟩]) (enc:=Ey) Ew ((ho.below gU).below bH.below) (λj u hu=>by simpa using bH.cell hu) (by simp[Ey,Value.oneCell']) (by simp only[List.length_cons,List.length_nil];omega) (by have:=hb.size;have:=gU.size;have:=bH.size;omega) ?_;intro v' w3 mK _ gV;push_cast -dsimp;refine⟨⟨by omega,by omega⟩,⟨i+1,_,rfl,by rw[List.length_drop]at cI;rw[e]at cI;(try dsimp only at cI);omega,?_,?_,mK,
    (hb.trans (gU.mono hb.size)).trans ((bH.below.mono (Nat.le_trans hb.size gU.size)).trans gV)⟩,?_⟩
   ·rw[e]at tT;simp only[List.length_append,List.length_cons,List.length_nil];(try dsimp only at tT);omega
   ·rw[<-hd,aC0,e,List.drop_drop,List.append_assoc];rfl
   rw[e]at tT;rw[h4];simp only[intOf];(try dsimp only at tT);omega
  have e:fZ (s.drop i)=eS (s.drop i):=by unfold fZ;rw[if_neg (by omega)]
  refine cG Ew rfl rfl (by omega) ?_;intro w2 bH;push_cast -dsimp;refine NQ (ys:=[⟨(eS (s.drop i)).1,i,(eS (s.drop i)).2⟩]) (enc:=Ey) Ew ((ho.below gU).below bH.below) (λj u hu=>by simpa using bH.cell hu) (by simp[Ey,Value.oneCell']) (by simp only[List.length_cons,List.length_nil];omega) (by have:=hb.size;have:=gU.size;have:=bH.size;omega) ?_;intro v' w3 mK _ gV;push_cast -dsimp;refine⟨⟨by omega,by omega⟩,⟨i+(eS (s.drop i)).2,_,rfl,by rw[List.length_drop]at cI;rw[e]at cI;(try dsimp only at cI);omega,?_,?_,mK,
   (hb.trans (gU.mono hb.size)).trans ((bH.below.mono (Nat.le_trans hb.size gU.size)).trans gV)⟩,?_⟩
  ·rw[e]at tT;simp only[List.length_append,List.length_cons,List.length_nil];(try dsimp only at tT);omega
  ·rw[<-hd,aC0,e,List.drop_drop,List.append_assoc];rfl
  rw[e]at tT;rw[h4];simp only[intOf];(try dsimp only at tT);omega
 have e:s.drop i=[]:=List.drop_eq_nil_of_le (by omega);rw[e,qy,List.append_nil]at hd;rw[<-hd];exact⟨ho,hb⟩
def aKc (us:List U):List Int:=us.map λu=>(u.p:Int)
def gi (nm:bZ)(k:aw)(p:Int):Prop:=∃s,cC nm k=.ok s/\ew s p=true
structure Mr (X:Nat->Prop)(w:World)(rb mb:Nat)(us:List U)(nm:bZ)(back:Bool):Prop where
 st:∃lv,aL w rb 148 [lv,.map (some mb),.bool back]/\Sl X 3 (En Ey) w lv us
 nv:fz X w mb nm
 rt:jL nm
 len:us.length<=1000
end Go.Proofs.YtemjejfpadnljaaGreatDoor
end
