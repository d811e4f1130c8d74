/- Texts of this claim, merged: PatN, Has, So1, Grow, Sort, So2, Not, Conc, Mn1, Pwd0, Mn2, Mn3, Cl0, Ms, EqN, Mt, Pmean5, Putf, Utf, Dec, Mn4. -/
import Derived.Test.YtemjejfpadnljaaGreatDoorM8
import Derived.Sort.Grow
import Derived.Shelf.Spec.SlicesGrow
import Derived.Shelf.SlSortCmp.WholeK
import Derived.Shelf.SlSortCmp.NoneTotal
import Derived.Shelf.Sort.Plain
import Derived.Shelf.Slices.CompactI
import Derived.Lib.SlicesCompact
import Derived.Ground.Names2Prog
import Derived.Lib.RowBridge
import Derived.Shelf.Slices.In.SortNone
set_option maxRecDepth 100000
set_option linter.unusedSimpArgs false
set_option linter.unusedVariables false
set_option maxHeartbeats 8000000
namespace Go.Proofs.YtemjejfpadnljaaGreatDoor
open Go.Vc Go.Proofs Go.RowKit Cae
attribute [local irreducible] cZ ab ai aX runK ar Sl Vc.Own vc aS bu aZ
theorem cQ (w:World):Below w.heap.size w w.drew:=((Kept.refl (λ_=>False) w).drew).below (Nat.le_refl _) (λ_ h=>h.elim)
theorem eZ.drew {X:Nat->Prop}{w:World}{k:ax}{v:Value}(h:eZ X w v k):eZ X w.drew v k :=
 h.mono (X:=X) ((Kept.refl (λ_=>False) w).drew) (λ_ h=>h.elim) (λ_ h=>h)
theorem aQ.nth {X:Nat->Prop}{w:World}:∀{l:List aG} {vs:List Nat} {i:Nat} {x:aG},aQ X w vs l->l[i]?=some x->∃u,vs[i]?=some u/\bE X w (bx u) x
 | [],_,i,x,_,hx=>by simp at hx
 | _::_,[],_,_,h,_=>by simp only[aQ]at h
 | y::l,v::vs,0,x,h,hx=>by
  simp only[aQ]at h;cases hx;exact⟨v,rfl,h.1⟩
 | y::l,v::vs,i+1,x,h,hx=>by
  simp only[aQ]at h;exact aQ.nth (i:=i) h.2 (by simpa using hx)
theorem iw:∀{l:List aG} {x:aG},cU l->x∈l->bK x
 | y::l,x,h,hx=>by
  simp only[cU]at h;rcases List.mem_cons.1 hx with rfl|hx
  ·exact h.1
  exact iw h.2 hx
theorem kr.below {X:Nat->Prop}{w w':World}{v:Value}{f:de}(h:kr X w v f)(hb:Below w.heap.size w w'):kr X w' v f:=by
 obtain⟨cv,rv,cs,rs,rfl,S1,S2,A1,A2⟩:=h;exact⟨cv,rv,cs,rs,rfl,S1.below hb,S2.below hb,A1.imp λa c h=>⟨h.1,h.2.1,h.2.2.below hb⟩,A2.imp λa c h=>⟨h.1,h.2.1,h.2.2.1.below hb,h.2.2.2.below hb⟩⟩
theorem Ik (r:Rg)(p:Int)(w:World):ar Tryz.prog 127 [.agg #[.int .i64 r.1,.int .i64 r.2],.int .i64 p] w λv w'=>v=.int .i64 (if r.2<p then -1 else if p<r.1 then 1 else 0)/\Below w.heap.size w w':=by
 refine aE Tryz.func127 rfl (by kernel_rfl) [4] rfl ?_;push_cast -dsimp(maxSteps:=9^7) [Tryz.ntmps127];refine aR ?_;intro w1 aU;have c0:w1.cell? ⟨w.heap.size,0,none⟩=some (.int .i64 r.1):=aU.cell rfl;have c1:w1.cell? ⟨w.heap.size,1,none⟩=some (.int .i64 r.2):=aU.cell rfl;push_cast -dsimp[c0,c1];refine⟨λh=>?_,λh=>⟨λh2=>?_,λh2=>?_⟩⟩
 ·rw[if_pos h];exact⟨rfl,aU.below⟩
 ·rw[if_neg h,if_pos h2];exact⟨rfl,aU.below⟩
 rw[if_neg h,if_neg h2];exact⟨rfl,aU.below⟩
theorem aE7 {s:List Rg}(hr:aO (-2) s=true){p:Int}{i:Nat}(h1:∀(k:Nat) (r:Rg),k<i->s[k]?=some r->r.2<p)(h2:∀(k:Nat) (r:Rg),i<=k->s[k]?=some r->¬r.2<p) :
  fA s p=match s[i]? with|some r=>decide (r.1<=p)|none=>false:=by
 unfold fA;cases hi:s[i]? with
 | none =>
  rw[List.any_eq_false];intro r hm;obtain⟨k,hk⟩:=List.getElem?_of_mem hm;have ao:=(List.getElem?_eq_some_iff.1 hk).1
  have:=List.getElem?_eq_none_iff.1 hi
  have:=h1 k r (by omega) hk;simp only[decide_eq_true_eq];omega
 | some r =>
  have uV:=h2 i r (Nat.le_refl _) hi;by_cases hp:r.1<=p
  ·dsimp only;rw[decide_eq_true hp,List.any_eq_true];exact⟨r,List.mem_of_getElem? hi,by simp only[decide_eq_true_eq];omega⟩
  dsimp only;rw[decide_eq_false hp,List.any_eq_false];intro q hm;obtain⟨k,hk⟩:=List.getElem?_of_mem hm;simp only[decide_eq_true_eq];rcases Nat.lt_trichotomy k i with ao|heq|H3
  ·have:=h1 k q ao hk;omega
  ·subst heq;rw[hi]at hk;cases hk;omega
  have:=(bz s (-2) hr i r hi).2.2.2 k q H3 hk
  have:=(bz s (-2) hr i r hi).2.1;omega
theorem Yh (s:List Rg)(hs:s.length<1000000000)(hr:aO (-2) s=true)(p:Int)(X:Nat->Prop)(v:Value)(w:World)(hv:Sl X 2 (En bA) w v s) :
  ar Tryz.prog 126 [v,.int .i64 p,.func (.func 127) #[] #[]] w λr w'=>(∃i:Int,r=.tuple #[.int .i64 i,.bool (fA s p)])/\Below w.heap.size w w':=by
 obtain⟨a,c,rfl,hc⟩:=hv.shape;refine aE Tryz.func126 rfl (by kernel_rfl) [6,7] rfl ?_;push_cast -dsimp(maxSteps:=9^7) [Tryz.ntmps126];refine aK [9,10,11,15,16,17,18,19,20,21,22,23,24,25,26,27,28,29,30,31,32,33,34] (λz wx=>∃(i j:Nat),z 9=.int .i64 i/\z 10=.int .i64 j/\i<=j/\j<=s.length/\(∀(k:Nat) (r:Rg),k<i->s[k]?=some r->r.2<p)/\(∀(k:Nat) (r:Rg),j<=k->s[k]?=some r->¬r.2<p)/\Below w.heap.size w wx) (λz _=>(intOf (z 10)).toNat-(intOf (z 9)).toNat) ?_ ?_
 ·refine⟨0,s.length,rfl,rfl,Nat.zero_le _,Nat.le_refl _,λk r hk=>absurd hk (by omega),λk r hk h=>?_,Below.refl _ _⟩
  have:=(List.getElem?_eq_some_iff.1 h).1;omega
 intro z wx hI;obtain⟨i,j,h9,Kq,hij,hj,AV,Wn,hb⟩:=hI;push_cast -dsimp[h9,Kq];refine⟨λao=>?_,λeY=>?_⟩
 ·have e:IntKind.i64.wrap ((IntKind.u64.wrap ((i:Int)+(j:Int))).fdiv (2 ^ min 1 IntKind.u64.bits))=(((i+j) / 2:Nat):Int):=by
   show IntKind.i64.wrap ((IntKind.u64.wrap ((i:Int)+(j:Int))).fdiv (2 ^ min (1:Int).toNat IntKind.u64.bits))=_
   rw[show (i:Int)+(j:Int)=((i+j:Nat):Int) by omega,fS,Nat.mod_eq_of_lt (by omega),yw (k:=1) (kd:=.u64) rfl (by decide)]
   exact cX (by omega)
  have sJ:i<=(i+j) / 2:=by omega
  have eE:(i+j) / 2<j:=by omega
  generalize (i+j) / 2=m at e sJ eE;rw[e];obtain⟨x,hx,mR,hdx,ht⟩:=ae (l:=s) (i:=m) (by omega);obtain⟨b,o,rfl,hX,aP⟩:=(hv.below hb).get hx;have c0:aB wx ⟨b,o+m*2,none⟩ 0 2=some [.int .i64 x.1,.int .i64 x.2]:=aj (bA x) 0 (λj u hu=>by simpa using aP j u hu);push_cast -dsimp[c0];refine⟨⟨by omega,by omega⟩,⟨by omega,by omega⟩,?_⟩;refine aA (Ik x p wx) ?_;rintro _ w1 ⟨rfl,fe⟩;have n0:=hb.trans (fe.mono hb.size);push_cast -dsimp;refine⟨λJI=>⟨⟨by omega,by omega⟩,⟨m+1,j,rfl,rfl,by omega,hj,λk r hk Tp=>?_,Wn,n0⟩,?_⟩,λyX=>⟨⟨i,m,rfl,rfl,by omega,by omega,AV,λk r hk Tp=>?_,n0⟩,?_⟩⟩
  ·have Tr:x.2<p:=by
    by_cases h:x.2<p
    ·exact h
    rw[if_neg h]at JI;split at JI<;>omega
   rcases Nat.lt_or_ge k m with qX|aNW
   ·have:=(bz s (-2) hr k r Tp).2.2.2 m x qX hx
    have:=(bz s (-2) hr m x hx).2.1;omega
   have vW:k=m:=by omega
   subst vW;rw[hx]at Tp;cases Tp;exact Tr
  ·rw[h9,Kq];simp only[intOf];omega
  ·have Tr:¬x.2<p:=by
    intro h;rw[if_pos h]at yX;omega
   rcases Nat.lt_or_ge m k with qX|aNW
   ·have:=(bz s (-2) hr m x hx).2.2.2 k r qX Tp
    have:=(bz s (-2) hr k r Tp).2.1;omega
   have vW:k=m:=by omega
   subst vW;rw[hx]at Tp;cases Tp;exact Tr
  rw[h9,Kq];simp only[intOf];omega
 have nH:j=i:=by omega
 subst nH;have GN:=aE7 hr AV Wn;refine⟨λnG=>?_,λiq=>?_⟩
 ·obtain⟨x,hx,mR,hdx,ht⟩:=ae (l:=s) (i:=j) (by omega);obtain⟨b,o,rfl,hX,aP⟩:=(hv.below hb).get hx;have c0:aB wx ⟨b,o+j*2,none⟩ 0 2=some [.int .i64 x.1,.int .i64 x.2]:=aj (bA x) 0 (λj u hu=>by simpa using aP j u hu);have yi:=Wn j x (Nat.le_refl _) hx;rw[hx]at GN;push_cast -dsimp[c0];refine⟨⟨by omega,by omega⟩,aA (Ik x p wx) ?_⟩;rintro _ w1 ⟨rfl,fe⟩;push_cast -dsimp;refine⟨⟨j,?_⟩,hb.trans (fe.mono hb.size)⟩;have aNg:fA s p=decide (x.1<=p):=by rw[GN]
  have hdd:decide ((if p<x.1 then (1:Int) else 0)=0)=decide (x.1<=p):=by rw[decide_eq_decide];split<;>omega
  rw[aNg,if_neg yi,hdd]
 refine⟨⟨j,?_⟩,hb⟩;rw[GN,List.getElem?_eq_none (by omega)]
theorem aJd (s:List Rg)(hs:s.length<1000000000)(hr:aO (-2) s=true)(p:Int)(X:Nat->Prop)(v:Value)(w:World)(hv:Sl X 2 (En bA) w v s) :
  ar Tryz.prog 90 [v,.int .i64 p] w λr w'=>r=.bool (fA s p)/\Below w.heap.size w w':=by
 refine aE Tryz.func90 rfl (by kernel_rfl) [4] rfl ?_;push_cast -dsimp(maxSteps:=9^7) [Tryz.ntmps90];refine aA (Yh s hs hr p X v w hv) ?_;rintro _ w1 ⟨⟨i,rfl⟩,hb⟩;push_cast -dsimp;exact hb
theorem VD (l:List Rg)(hl:l.length<1000000000)(X:Nat->Prop)(v:Value)(w:World)(hv:Sl X 2 (En bA) w v l)(ha:Arg v) :
  ar Tryz.prog 147 [v] w λr w'=>Vc.Own w.heap.size 208 2 bA w' r l/\Below w.heap.size w w':=by
 obtain⟨a,c,rfl,hc⟩:=hv.shape;refine aE Tryz.func147 rfl (by kernel_rfl) [2] rfl ?_;push_cast -dsimp(maxSteps:=9^7) [Tryz.ntmps147];cases a with
 | none =>
  obtain⟨h0,rfl⟩:=ha _ _ rfl;have:l=[]:=List.eq_nil_of_length_eq_zero h0;subst this;push_cast -dsimp[aMk];exact⟨Vc.Own.nil (enc:=bA) _ _ (λ_=>rfl) _,Below.refl _ _⟩
 | some ad =>
  push_cast -dsimp[aIm];refine cH Nr rfl rfl (by omega) ?_;intro w1 aU;have uU:=aU.own (base:=w.heap.size) (k:=2) (n:=0) (enc:=bA) (l:=[]) rfl rfl (λ_=>rfl) (Nat.le_refl _) (by omega);have pY:=aU.size;push_cast -dsimp;refine lp (base:=w.heap.size) (enc:=bA) (ys:=l) Nr uU (hv.below aU.below) (λn c h=>by cases h) iM (by simp only[List.length_nil];omega) (by omega) ?_;intro v' w2 lF Cz dh;rw[List.nil_append]at lF;push_cast -dsimp;exact⟨lF,aU.below.trans dh⟩
def VF (x y:Int):Int:=if x<y then -1 else if y<x then 1 else 0
theorem OX (x:Int)(w:World):ar Tryz.prog 175 [.int .i64 x] w λr w'=>r=.bool false/\w'=w:=by
 refine aE Tryz.func175 rfl (by kernel_rfl) [2] rfl ?_;push_cast -dsimp(maxSteps:=9^7) [Tryz.ntmps175];simp
theorem QD (x y:Int)(w:World):ar Tryz.prog 150 [.int .i64 x,.int .i64 y] w λr w'=>r=.int .i64 (VF x y)/\w'=w:=by
 refine aE Tryz.func150 rfl (by kernel_rfl) [4] rfl ?_;push_cast -dsimp(maxSteps:=9^7) [Tryz.ntmps150];refine aA (OX x w) ?_;rintro _ w1 ⟨rfl,rfl⟩;push_cast -dsimp;refine aA (OX y w1) ?_;rintro _ w2 ⟨rfl,rfl⟩;push_cast -dsimp;unfold VF;refine⟨λh=>by rw[if_pos h],λh=>⟨λh2=>by rw[if_neg h,if_pos h2],λh2=>by rw[if_neg h,if_neg h2]⟩⟩
theorem QB (x y:Rg)(w:World):ar Tryz.prog 149 [.agg #[.int .i64 x.1,.int .i64 x.2],.agg #[.int .i64 y.1,.int .i64 y.2]] w λr w'=>r=.int .i64 (VF x.1 y.1)/\∃os,w'=Go.Sort.grow w os:=by
 refine aE Tryz.func149 rfl (by kernel_rfl) [4] rfl ?_;push_cast -dsimp(maxSteps:=9^7) [Tryz.ntmps149];refine aR ?_;intro w1 aU;have pY:=aU.size;push_cast -dsimp;refine aR ?_;intro w2 bJ;have Bn:=bJ.size;have c0:w2.cell? ⟨w.heap.size,0,none⟩=some (.int .i64 x.1):=(bJ.below.cell (by show w.heap.size<w1.heap.size;omega)).trans (aU.cell rfl)
 have c1:w2.cell? ⟨w1.heap.size,0,none⟩=some (.int .i64 y.1):=bJ.cell rfl;push_cast -dsimp[c0,c1];refine aA (QD x.1 y.1 w2) ?_;rintro _ w3 ⟨rfl,rfl⟩;push_cast -dsimp;refine⟨_,by rw[bJ.is,aU.is,Go.Sort.alloc_eq_grow,Go.Sort.alloc_eq_grow,Go.Sort.grow_grow]⟩
def D9:Go.Shelf.Ren:=⟨λ| 4=>151|n=>n,λ| 22=>139|25=>208|3=>3|4=>4|9=>9|20=>20|0=>0|2=>3|n=>n,λ| n=>n⟩
theorem aDh:Go.Proofs.Lays8.n4 Tryz.prog D9:={
 mixed:=by kernel_rfl
 f4:=⟨ "slices.Grow[caesura/api.Set,caesura/api.Range]",by decide,Tryz.func151.trans (congrArg some (by kernel_rfl))⟩
 t0:=Tryz.underlying0
 a0:=Tryz.isAgg0
 z0:=Tryz.sizeOf0
 v0:=Tryz.zeroValue0
 t3:=Tryz.underlying3
 a3:=Tryz.isAgg3
 z3:=Tryz.sizeOf3
 v3:=Tryz.zeroValue3
 t4:=Tryz.underlying4
 a4:=Tryz.isAgg4
 z4:=Tryz.sizeOf4
 v4:=Tryz.zeroValue4
 t9:=Tryz.underlying9
 a9:=Tryz.isAgg9
 z9:=Tryz.sizeOf9
 v9:=Tryz.zeroValue9
 t20:=Tryz.underlying20
 a20:=Tryz.isAgg20
 z20:=Tryz.sizeOf20
 v20:=Tryz.zeroValue20
 t22:=Tryz.underlying139
 a22:=Tryz.isAgg139
 z22:=Tryz.sizeOf139
 v22:=Tryz.zeroValue139 }
theorem aEF (n:Nat)(hn:n<1000000000)(w:World) :
  ar Tryz.prog 151 [.slice none 0 0,.int .i64 (n:Int)] w λr w'=>Vc.Own w.heap.size 208 2 bA w' r ([]:List Rg)/\Below w.heap.size w w':=by
 refine dM Tryz.func151 (by kernel_rfl) (by kernel_rfl) ?_;rcases Nat.eq_zero_or_pos n with h0|h0
 ·subst h0;refine Calls.mono (Any8.slices_Grow_room aDh none 0 0 0 w (by omega) (by omega) (by omega) (by omega)) ?_;rintro e w' ⟨rfl,rfl⟩;exact⟨_,rfl,Vc.Own.nil (enc:=bA) _ _ (λ_=>rfl) _,Below.refl _ _⟩
 have he:=ny fK;obtain⟨hu,i,z,hi,hz,hk0,vV,Ts,hk,HY⟩:=he;refine Calls.mono (Any8.slices_Grow_grow aDh i z hi hz (by omega) none 0 0 n [] w (by omega) (by omega) (by rw[vV];omega) (by omega) (by simp) (λ_=>rfl) (λa h=>by cases h)) ?_;rintro e w' ⟨rfl,rfl⟩;have hG:=grownCap_le_maxLen w (0+n) 0 208 (by unfold maxLen;omega);have hG2:=grownCap_ge w (0+n) 0 208;have hE:D9.t 25=208:=rfl;rw[hE];generalize grownCap w (0+n) 0 208=G at hG hG2;refine⟨_,rfl,YI (λ_=>rfl) (Array.getElem?_push_size) hG ?_,?_⟩
 ·simp only[Array.size_append,size_zeroCells,Ts,hk0];simp;omega
 exact⟨rfl,rfl,rfl,by show w.heap.size<=(w.heap.push _).size;rw[Array.size_push];omega,λi hi=>by show (w.heap.push _)[i]?=_;rw[Array.getElem?_push,if_neg (by omega)]⟩
end Go.Proofs.YtemjejfpadnljaaGreatDoor
namespace Go.Proofs.YtemjejfpadnljaaGreatDoor
open Go.Vc Go.Proofs Go.RowKit Cae Go.Sort
theorem aBj {base:Nat}{e:TypeId}{w:World}{g n c:Nat}{l:List Rg}(h:Vc.Own base e 2 bA w (.slice (some ⟨g,0,none⟩) n c) l):HoldsK bA 2 w g 0 l.toArray:=by
 have ho:=Vc.Own.opened h rfl;obtain⟨cur,hB,hl,ht,_⟩:=ho;intro j hj;rw[size_flatK]at hj;rw[get_flatK _ _ _ _ hj];have hj':j<l.length*2:=by simpa using hj
 have hi:j / 2<l.length:=by omega
 have hx:=List.getElem?_eq_getElem hi;have hu:(bA l[j / 2])[j % 2]?=some (bA l[j / 2])[j % 2]! := by
  rw[List.getElem!_eq_getElem?_getD];have ao:j % 2<(bA l[j / 2]).length:=by show j % 2<2;omega
  rw[List.getElem?_eq_getElem ao];rfl
 have h1:=nF h.2 l (j / 2) (j % 2) _ _ hx hu;rw[<-ht,List.getElem?_take,if_pos (by omega),show j / 2*2+j % 2=j by omega]at h1
 have e2:(l.toArray)[j / 2]! = l[j / 2]:=by simp[hi]
 rw[e2];refine⟨?_,?_⟩
 ·rw[cell_of_row w g _ cur.toArray e (0,0) hB,Nat.zero_add];simpa using h1
 have o8:w.heap[g]?=some (.cells cur.toArray e (0,0)):=hB;simp[World.frozen?,o8]
theorem aGz {base:Nat}{e:TypeId}{w:World}{ad:Addr}{n c:Nat}{l:List Rg}(h:Vc.Own base e 2 bA w (.slice (some ad) n c) l):∃g,ad=⟨g,0,none⟩:=by
 rcases h.1.2 with ⟨he,_⟩|⟨g,cap,cr,he,_⟩
 ·cases he
 cases he;exact⟨_,rfl⟩
theorem Yr {w':World}{g n c:Nat}{d':Array Rg}(hn:d'.size=n)(hc:n<=c)(hH':HoldsK bA 2 w' g 0 d'):Sl (λb=>(Value.slice (some ⟨g,0,none⟩) n c).ownBlock≠some b) 2 (En bA) w' (.slice (some ⟨g,0,none⟩) n c) d'.toList:=by
 subst hn;refine⟨_,c,by rw[Array.length_toList],by rw[Array.length_toList];exact hc,λi x hx=>⟨g,0,bA x,rfl,by simp[Value.ownBlock],rfl,λj u hu=>?_,rfl⟩⟩;have hi:=(List.getElem?_eq_some_iff.1 hx).1;rw[Array.length_toList]at hi;have hj:j<2:=(List.getElem?_eq_some_iff.1 hu).1;have h2:=(hH'.cell hi hj).1;have yi:d'[i]! = x:=by rw[getElem!_pos d' i hi];rw[Array.getElem?_toList,Array.getElem?_eq_getElem hi]at hx;cases hx;rfl
 rw[yi,List.getElem!_eq_getElem?_getD,hu]at h2;exact h2
end Go.Proofs.YtemjejfpadnljaaGreatDoor
namespace Go.Proofs.YtemjejfpadnljaaGreatDoor
open Go.Vc Go.Proofs Go.RowKit Cae
attribute [local irreducible] cZ ab ai aX runK ar Sl Vc.Own vc aS bu aZ
open Go.Sort
def TO:Go.Shelf.Ren:=⟨λ| 6=>148|15=>131|14=>174|28=>161|29=>162|20=>189|21=>190|22=>191|23=>192|24=>193|25=>194|26=>195|27=>196|46=>211|47=>177|48=>178|49=>212|50=>213|57=>222|n=>n,λ| 22=>138|24=>208|25=>232|3=>3|39=>133|0=>0|53=>168|55=>244|4=>4|46=>236|45=>235|50=>45|5=>5|9=>9|66=>258|70=>262|76=>272|77=>76|n=>n,λ| n=>n⟩
theorem aD1:Go.Proofs.SlLaysF0.n6 Tryz.prog TO:={
 mixed:=by kernel_rfl
 f6:=⟨ "slices.SortFunc[[]caesura/api.Range,caesura/api.Range]",by decide,Tryz.func148.trans (congrArg some (by kernel_rfl))⟩
 f14:=⟨ "slices.pdqsortCmpFunc[caesura/api.Range]",by decide,Tryz.func174.trans (congrArg some (by kernel_rfl))⟩
 f15:=Tryz.func131.trans (congrArg some (by kernel_rfl))
 f20:=⟨ "slices.insertionSortCmpFunc[caesura/api.Range]",by decide,Tryz.func189.trans (congrArg some (by kernel_rfl))⟩
 f21:=⟨ "slices.heapSortCmpFunc[caesura/api.Range]",by decide,Tryz.func190.trans (congrArg some (by kernel_rfl))⟩
 f22:=⟨ "slices.breakPatternsCmpFunc[caesura/api.Range]",by decide,Tryz.func191.trans (congrArg some (by kernel_rfl))⟩
 f23:=⟨ "slices.choosePivotCmpFunc[caesura/api.Range]",by decide,Tryz.func192.trans (congrArg some (by kernel_rfl))⟩
 f24:=⟨ "slices.reverseRangeCmpFunc[caesura/api.Range]",by decide,Tryz.func193.trans (congrArg some (by kernel_rfl))⟩
 f25:=⟨ "slices.partialInsertionSortCmpFunc[caesura/api.Range]",by decide,Tryz.func194.trans (congrArg some (by kernel_rfl))⟩
 f26:=⟨ "slices.partitionEqualCmpFunc[caesura/api.Range]",by decide,Tryz.func195.trans (congrArg some (by kernel_rfl))⟩
 f27:=⟨ "slices.partitionCmpFunc[caesura/api.Range]",by decide,Tryz.func196.trans (congrArg some (by kernel_rfl))⟩
 f28:=Tryz.func161.trans (congrArg some (by kernel_rfl))
 f29:=Tryz.func162.trans (congrArg some (by kernel_rfl))
 f46:=⟨ "slices.siftDownCmpFunc[caesura/api.Range]",by decide,Tryz.func211.trans (congrArg some (by kernel_rfl))⟩
 f47:=Tryz.func177.trans (congrArg some (by kernel_rfl))
 f48:=Tryz.func178.trans (congrArg some (by kernel_rfl))
 f49:=⟨ "slices.medianAdjacentCmpFunc[caesura/api.Range]",by decide,Tryz.func212.trans (congrArg some (by kernel_rfl))⟩
 f50:=⟨ "slices.medianCmpFunc[caesura/api.Range]",by decide,Tryz.func213.trans (congrArg some (by kernel_rfl))⟩
 f57:=⟨ "slices.order2CmpFunc[caesura/api.Range]",by decide,Tryz.func222.trans (congrArg some (by kernel_rfl))⟩
 t0:=Tryz.underlying0
 a0:=Tryz.isAgg0
 z0:=Tryz.sizeOf0
 v0:=Tryz.zeroValue0
 t3:=Tryz.underlying3
 a3:=Tryz.isAgg3
 z3:=Tryz.sizeOf3
 v3:=Tryz.zeroValue3
 t4:=Tryz.underlying4
 a4:=Tryz.isAgg4
 z4:=Tryz.sizeOf4
 v4:=Tryz.zeroValue4
 t5:=Tryz.underlying5
 a5:=Tryz.isAgg5
 z5:=Tryz.sizeOf5
 v5:=Tryz.zeroValue5
 t9:=Tryz.underlying9
 a9:=Tryz.isAgg9
 z9:=Tryz.sizeOf9
 v9:=Tryz.zeroValue9
 t22:=Tryz.underlying138
 a22:=Tryz.isAgg138
 z22:=Tryz.sizeOf138
 v22:=Tryz.zeroValue138
 t25:=Tryz.underlying232
 a25:=Tryz.isAgg232
 z25:=Tryz.sizeOf232
 v25:=Tryz.zeroValue232
 t39:=Tryz.underlying133
 a39:=Tryz.isAgg133
 z39:=Tryz.sizeOf133
 v39:=Tryz.zeroValue133
 t45:=Tryz.underlying235
 a45:=Tryz.isAgg235
 z45:=Tryz.sizeOf235
 v45:=Tryz.zeroValue235
 t46:=Tryz.underlying236
 a46:=Tryz.isAgg236
 z46:=Tryz.sizeOf236
 v46:=Tryz.zeroValue236
 t50:=Tryz.underlying45
 a50:=Tryz.isAgg45
 z50:=Tryz.sizeOf45
 v50:=Tryz.zeroValue45
 t53:=Tryz.underlying168
 a53:=Tryz.isAgg168
 z53:=Tryz.sizeOf168
 v53:=Tryz.zeroValue168
 t55:=Tryz.underlying244
 a55:=Tryz.isAgg244
 z55:=Tryz.sizeOf244
 v55:=Tryz.zeroValue244
 t66:=Tryz.underlying258
 a66:=Tryz.isAgg258
 z66:=Tryz.sizeOf258
 v66:=Tryz.zeroValue258
 t70:=Tryz.underlying262
 a70:=Tryz.isAgg262
 z70:=Tryz.sizeOf262
 v70:=Tryz.zeroValue262
 t76:=Tryz.underlying272
 a76:=Tryz.isAgg272
 z76:=Tryz.sizeOf272
 v76:=Tryz.zeroValue272
 t77:=Tryz.underlying76
 a77:=Tryz.isAgg76
 z77:=Tryz.sizeOf76
 v77:=Tryz.zeroValue76 }
def VH (x y:Rg):Int:=VF x.1 y.1
theorem Gd (x y:Rg):Go.Proofs.ltOf VH x y=decide (x.1<y.1):=by
 unfold Go.Proofs.ltOf VH VF;rw[decide_eq_decide];split
 ·simp[*]
 split<;>simp[*]
theorem aPy:SWO (Go.Proofs.ltOf VH) where
 irrefl x:=by rw[Gd];simp
 trans x y z h1 h2:=by rw[Gd]at *;simp at *;omega
 ntrans x y z h1 h2:=by rw[Gd]at *;simp at *;omega
theorem VG (aL off size:Nat)(w:World):Go.Proofs.CmpLays Tryz.prog 149 #[] bA 2 VH aL off size w:=λm os dk hd x y=>by
 have h:=FC (QB x y (Go.Proofs.sortWorldK bA 2 w aL off m dk os));have e:#[Value.agg (bA x).toArray,Value.agg (bA y).toArray]++#[]=[Value.agg #[.int .i64 x.1,.int .i64 x.2],Value.agg #[.int .i64 y.1,.int .i64 y.2]].toArray:=rfl;rw[e];refine h.mono ?_;rintro e w' ⟨v,rfl,rfl,os',rfl⟩;exact⟨rfl,0,os',rfl⟩
theorem M4 {w:World}{g n:Nat}{os:Array Obj}(d:Array Rg):Kept (λj=>j=g) w (Go.Proofs.sortWorldK bA 2 w g 0 n d os):=by
 refine⟨rfl,rfl,rfl,?_,λk hk cY=>?_⟩
 ·exact Go.Proofs.size_sortWorldK_c bA 2 w g 0 n d os
 unfold Go.Proofs.sortWorldK putRowK;rw[heap_grow_old _ _ (by simpa using hk)];simp[putRow,mapBlock,Go.Sort.ahead,Array.getElem?_modify,Ne.symm cY]
theorem aGM (l:List Rg)(hl:l.length<1000000000)(base:Nat)(v:Value)(w:World)(ho:Vc.Own base 208 2 bA w v l)(hb:base<=w.heap.size) :
  ar Tryz.prog 148 [v,.func (.func 149) #[] #[]] w λr w'=>(∃m,m.Perm l/\zI m/\Sl (λb=>v.ownBlock≠some b) 2 (En bA) w' v m)/\Kept (λj=>v.ownBlock=some j) w w':=by
 refine dM Tryz.func148 (by kernel_rfl) (by kernel_rfl) ?_;cases hn:l with
 | nil =>
  subst hn;have eN:=ho.slice;obtain⟨a,c,rfl⟩:=eN;refine(AnyF.slices_SortFunc_none aD1 a c (.func (.func 149) #[] #[]) w).mono ?_;rintro e w' ⟨rfl,rfl⟩;exact⟨_,rfl,⟨[],List.Perm.refl _,List.Pairwise.nil,Sl.nil _ _ _ _ _ _⟩,Kept.refl _ _⟩
 | cons y ys =>
  rw[<-hn];have yX:0<l.length:=by rw[hn];exact Nat.succ_pos _
  have eN:=ho.slice;obtain⟨a,c,rfl⟩:=eN;cases a with
  | none=>have:=ho.kW _ _ rfl;omega
  | some ad =>
   have hg0:=aGz ho;obtain⟨g,rfl⟩:=hg0;have CQ:=ho.block g rfl;have hH:=aBj ho;have yQ:=AnyQ.slices_SortFunc aD1 2 Tryz.isAgg208 Tryz.sizeOf208 bA (λ_=>rfl) iM VH aPy 149 #[] g 0 c l.toArray w (λargs w=>bh Tryz.func149 (by kernel_rfl) (by kernel_rfl)) (VG g 0 l.toArray.size w) hH CQ.2 (by rw[List.size_toArray];omega);rw[List.size_toArray]at yQ;refine Calls.mono yQ ?_;rintro e w' ⟨rfl,d',n,os,hp,hs,rfl⟩;have Dn:d'.size=l.length:=by have:=hp.1;simpa using this
   have aKb:d'.toList.Perm l:=by
    have:=hp.2.2;rw[Array.extract_eq_self_of_le (by omega),Array.extract_eq_self_of_le (by simp)]at this;simpa using this
   have hH':=Go.Proofs.holdsK_sortWorldK_c bA 2 w g 0 l.toArray d' n os hH CQ.2 (by simpa using Dn);refine⟨_,rfl,⟨d'.toList,aKb,?_,?_⟩,(M4 d').weaken (λi _ h=>by rw[h];rfl)⟩
   ·refine List.pairwise_iff_getElem.2 λi j hi hj hij=>?_;rw[Array.length_toList]at hi hj
    have:=hs i j (Nat.zero_le _) hij (by omega);rw[Gd,decide_eq_false_iff_not]at this;simp only[getElem!_pos d' i hi,getElem!_pos d' j hj]at this;simp only[Array.getElem_toList];omega
   exact Yr Dn ((ho.sl.shape).elim (λa h=>h.elim λc' h=>by cases h.1;exact h.2)) hH'
end Go.Proofs.YtemjejfpadnljaaGreatDoor
namespace Go.Proofs.YtemjejfpadnljaaGreatDoor
open Go.Vc Go.Proofs Go.RowKit Cae
attribute [local irreducible] cZ ab ai aX runK ar Sl Vc.Own vc aS bu aZ
theorem aPp (l:List Rg)(hl:l.length<100000000)(X:Nat->Prop)(v:Value)(w:World)(hv:Sl X 2 (En bA) w v l)(ha:Arg v) :
  ar Tryz.prog 128 [v] w λr w'=>Vc.Own w.heap.size 208 2 bA w' r (setOf l)/\Below w.heap.size w w':=by
 obtain⟨a,c,rfl,hc⟩:=hv.shape;refine aE Tryz.func128 rfl (by kernel_rfl) [2] rfl ?_;push_cast -dsimp(maxSteps:=9^7) [Tryz.ntmps128];refine aA (VD l (by omega) X _ w hv ha) ?_;rintro v1 w1 ⟨uU,fe⟩;have pY:=fe.size;push_cast -dsimp;refine aA (aGM l (by omega) w.heap.size v1 w1 uU pY) ?_;rintro r2 w2 ⟨⟨m,hp,hR,gZ⟩,lV⟩;have Bn:=lV.size;have hml:=hp.length_eq;have dh:Below w.heap.size w w2:=fe.trans (lV.below pY (λg h=>(uU.block g h).1));have eN:=uU.slice;obtain⟨va,vc,rfl⟩:=eN;have hof:=TI hp hR;have hgX:∃X1,X1=(λb=>(Value.slice va l.length vc).ownBlock≠some b):=⟨_,rfl⟩;obtain⟨X1,hX1⟩:=hgX;rw[<-hX1]at gZ;have hX2:∀b,w2.heap.size<=b->X1 b:=λb hb=>by
  rw[hX1];intro h
  have:=(uU.block b h).2;omega
 push_cast -dsimp;refine aK [3,5,6,13,14,15,16,17,18,19,20,21,22,23,24,25,26,27,28,29,30,31,32,33,34,35,36,37,38,39,40,41,42,43,44,45,46,47,48,49,50,51,52,53,54,55,56,57,58,59,60,61,62] (λz wx=>∃(i:Nat) (ov:Value),z 13=.int .i64 i/\z 3=ov/\i<=l.length/\Vc.Own w2.heap.size 208 2 bA wx ov (iu (m.take i))/\Below w2.heap.size w2 wx) (λz _=>l.length-(intOf (z 13)).toNat) ?_ ?_
 ·refine⟨0,_,rfl,rfl,Nat.zero_le _,?_,Below.refl _ _⟩;rw[List.take_zero];exact Vc.Own.nil (enc:=bA) _ _ (λ_=>rfl) _
 intro z wx hI;obtain⟨i,ov,GF,h3,hi,eG,eV⟩:=hI;have ya:=eV.size;push_cast -dsimp[GF,h3];refine⟨λao=>?_,λeY=>?_⟩
 ·have hg:=ae (l:=m) (i:=i) (by omega);obtain⟨x,hx,mR,_⟩:=hg;have oI:=gZ.below eV;rw[<-hml]at oI;have hg:=oI.get hx;obtain⟨b,o,rfl,mO,aP⟩:=hg;have cx:aB wx ⟨b,o+i*2,none⟩ 0 2=some [.int .i64 x.1,.int .i64 x.2]:=aj (bA x) 0 (λj u hu=>by simpa using aP j u hu);have Qd:iu (m.take (i+1))=gD (iu (m.take i)) x:=by
   unfold iu;rw[List.take_add_one,hx,List.foldl_append];rfl
  have To:=Az (m.take i);rw[List.length_take]at To;have eN:=eG.slice;obtain⟨oa,oc,rfl⟩:=eN;have Kw:∃out,iu (m.take i)=out:=⟨_,rfl⟩;obtain⟨out,iq⟩:=Kw;rw[iq]at eG Qd To;rw[iq];push_cast -dsimp[cx];refine⟨⟨by omega,by omega⟩,?_⟩;refine aq (z:=[.int .i64 0,.int .i64 0]) (by kernel_rfl) ?_;intro w3 cN;have LF:=cN.size;push_cast -dsimp;refine aH (n:=2) (by kernel_rfl) cN.aL rfl (by simp) (by simp[Value.oneCell']) ?_;intro w4 ah;have KZ:=ah.size;have c0:w4.cell? ⟨wx.heap.size,0,none⟩=some (.int .i64 x.1):=ah.aL.cell rfl;have c1:w4.cell? ⟨wx.heap.size,1,none⟩=some (.int .i64 x.2):=ah.aL.cell rfl;have OG:∃lo,max x.1 0=lo:=⟨_,rfl⟩;obtain⟨lo,AV⟩:=OG;have RL:∃yT,min x.2 1114111=yT:=⟨_,rfl⟩;obtain⟨yT,Wn⟩:=RL;have aJX:(if 0>x.1 then 0 else x.1)=lo:=by rw[<-AV];split<;>omega
  have aJQ:(if 1114111<x.2 then 1114111 else x.2)=yT:=by rw[<-Wn];split<;>omega
  push_cast -dsimp[c0,c1,aJX,aJQ];refine aC ah.aL (by simp) rfl ?_;intro w5 cI;have NQ:w5.heap.size=w4.heap.size:=cI.size;push_cast -dsimp;refine aC cI.aL (by simp) rfl ?_;intro w6 bQ;have K0:w6.heap.size=w5.heap.size:=bQ.size;have hX6:aM w6 wx.heap.size 208 [.int .i64 lo,.int .i64 yT]:=bQ.aL;have k6:Kept (λj=>j=wx.heap.size) wx w6:=(((Kept.new cN).trans ah.kept (λ_ _ h=>h)).trans cI.kept (λ_ _ h=>h)).trans bQ.kept (λ_ _ h=>h);have qD:=eG.aJ k6 (λg hg h=>by have:=eG.block g hg;omega);have ob:Below w2.heap.size w2 w6:=eV.trans (k6.below ya (λ_ h=>by omega));have e0:w6.cell? ⟨wx.heap.size,0,none⟩=some (.int .i64 lo):=hX6.cell rfl;have e1:w6.cell? ⟨wx.heap.size,1,none⟩=some (.int .i64 yT):=hX6.cell rfl;push_cast -dsimp[e0,e1];refine⟨λH3=>?_,λhle=>?_⟩
  ·have cJ:gD out x=out:=by unfold gD;rw[AV,Wn,if_pos (by omega)]
   rw[cJ]at Qd;rw[<-Qd]at qD;exact⟨⟨by omega,by omega⟩,⟨i+1,_,rfl,by rw[Qd],by omega,qD,ob⟩,by rw[GF];simp only[intOf];omega⟩
  refine⟨⟨by omega,by omega⟩,?_⟩;cases hn:out.length with
  | zero =>
   have AW:out=[]:=List.eq_nil_of_length_eq_zero hn;subst AW;have cJ:gD [] x=[]++[(lo,yT)]:=by unfold gD;rw[AV,Wn,if_neg (by omega)];rfl
   refine b8 (λw'=>w'=w6.drew) mixed (by kernel_rfl) rfl ?_;push_cast -dsimp;rw[cJ]at Qd;have d7:aB w6.drew ⟨wx.heap.size,0,none⟩ 0 2=some [.int .i64 lo,.int .i64 yT]:=hX6.drew.aB;push_cast -dsimp[d7];refine cH fK rfl rfl (by omega) ?_;intro w7 fB;have K1:w7.heap.size=w6.heap.size+1:=fB.size;have mQ:=(qD.aJ (Kept.refl (λ_=>False) _).drew (λ_ _ h=>h)).new fB;push_cast -dsimp;refine aW (base:=w2.heap.size) [(lo,yT)] (enc:=bA) fK mQ (by rfl) (λj u hu=>by simpa[bA] using fB.cell hu) iM (by simp only[List.length_cons,List.length_nil];omega) (by omega) ?_;intro v8 w8 rQ Dg hn8;have k8:Kept (λj=>(Value.slice oa ([]:List Rg).length oc).ownBlock=some j) w6 w8:=(((Kept.refl _ w6).drew).trans (Kept.new (X:=λj=>(Value.slice oa ([]:List Rg).length oc).ownBlock=some j) fB) (λ_ _ h=>h)).trans (Kept.grown Dg (λ_ h=>h)) (λ_ _ h=>h);rw[<-Qd]at rQ;push_cast -dsimp;exact⟨⟨by omega,by omega⟩,⟨i+1,_,rfl,rfl,by omega,rQ,ob.trans (k8.below (by omega) (λg h=>(qD.block g h).1))⟩,by rw[GF];simp only[intOf];omega⟩
  | succ n =>
   have e6:((n:Nat):Int)+1-1=((n:Nat):Int):=by omega
   have hq:=List.getElem?_eq_getElem (l:=out) (i:=n) (by omega);have hgq:∃q,out[n]'(by omega)=q:=⟨_,rfl⟩;obtain⟨q,hqe⟩:=hgq;rw[hqe]at hq;have AU:out.getLast?=some q:=by rw[List.getLast?_eq_getElem?,hn];exact hq
   have hinv:=(tL i m hR (by omega)).1.right;rw[iq]at hinv;have hqr:=bz out (-2) hinv n q hq;have hg:=qD.sl.get hq;obtain⟨g,o',rfl,_,hcq⟩:=hg;have ho0:o'=0:=Vc.Own.aMa qD;subst ho0;have c2:w6.drew.cell? ⟨g,n*2+1,none⟩=some (.int .i64 q.2):=by have:=hcq 1 _ rfl;simpa using this
   have f0:w6.drew.cell? ⟨wx.heap.size,0,none⟩=some (.int .i64 lo):=e0;have f1:w6.drew.cell? ⟨wx.heap.size,1,none⟩=some (.int .i64 yT):=e1;have L:∀{ad:Addr} {u:Value},w6.drew.cell? ad=some u->∀bB:World,bB=w6.drew->kI (bB.cell? ad) (λx=>x=u) .mk:=λh bB e=>by rw[e,h];exact rfl
   refine b8 (λw'=>w'=w6.drew) mixed (by kernel_rfl) rfl ?_;push_cast -dsimp[e6,f0,c2];rw[hn]at qD;refine⟨λ_=>⟨L f0,⟨by omega,by omega⟩,L c2,⟨by omega,by omega⟩,λhm=>?_,λhm=>?_⟩,λh=>absurd (Int.natCast_nonneg n) h⟩
   ·have cJ:gD out x=out.set n (q.1,max q.2 yT):=by
     unfold gD;rw[AV,Wn,if_neg (by omega),AU];dsimp only;rw[if_pos hm,List.dropLast_eq_take,hn,List.set_eq_take_append_cons_drop,if_pos (by omega),List.drop_eq_nil_of_le (by omega)];rfl
    rw[cJ]at Qd;have L2:∀{ad:Addr} {u:Value},w6.drew.drew.cell? ad=some u->∀bB:World,bB=w6.drew.drew->kI (bB.cell? ad) (λx=>x=u) .mk:=λh bB e=>by rw[e,h];exact rfl
    have c2':w6.drew.drew.cell? ⟨g,n*2+1,none⟩=some (.int .i64 q.2):=c2;have f1':w6.drew.drew.cell? ⟨wx.heap.size,1,none⟩=some (.int .i64 yT):=f1;have hmx:(if yT>q.2 then yT else q.2)=max q.2 yT:=by split<;>omega
    refine dV (λw'=>w'=w6.drew.drew) mixed (by kernel_rfl) (List.cons_ne_nil _ _) rfl ?_;push_cast -dsimp[c2',f1',hmx];refine⟨⟨by omega,by omega⟩,L2 c2',L2 f1',⟨by omega,by omega⟩,?_⟩;have hod:=qD.aJ ((Kept.refl (λ_=>False) _).drew.drew) (λ_ _ h=>h);refine fw (i:=n) (f:=1) (y:=(q.1,max q.2 yT)) hod rfl hq (by omega) rfl rfl ?_;intro w8 rQ Kx sz8;have k8:Kept (λj=>j=g) w6 w8:=((Kept.refl (λj=>j=g) w6).drew.drew).trans Kx (λ_ _ h=>h);have CQ:=(qD.block g rfl).1;refine⟨trivial,?_⟩;push_cast -dsimp;rw[<-Qd]at rQ;exact⟨⟨by omega,by omega⟩,⟨i+1,_,rfl,rfl,by omega,rQ,ob.trans (k8.below (by omega) (λj h=>by omega))⟩,by rw[GF];simp only[intOf];omega⟩
   have cJ:gD out x=out++[(lo,yT)]:=by
    unfold gD;rw[AV,Wn,if_neg (by omega),AU];dsimp only;rw[if_neg hm]
   rw[cJ]at Qd;have d7:aB w6.drew ⟨wx.heap.size,0,none⟩ 0 2=some [.int .i64 lo,.int .i64 yT]:=hX6.drew.aB;push_cast -dsimp[d7];refine cH fK rfl rfl (by omega) ?_;intro w7 fB;have K1:w7.heap.size=w6.heap.size+1:=fB.size;have mQ:=(qD.aJ (Kept.refl (λ_=>False) _).drew (λ_ _ h=>h)).new fB;push_cast -dsimp;refine aW (base:=w2.heap.size) [(lo,yT)] (enc:=bA) fK mQ (by rfl) (λj u hu=>by simpa[bA] using fB.cell hu) iM (by simp only[List.length_cons,List.length_nil];omega) (by omega) ?_;intro v8 w8 rQ Dg hn8;have k8:Kept (λj=>(Value.slice (some ⟨g,0,none⟩) (n+1) oc).ownBlock=some j) w6 w8:=(((Kept.refl _ w6).drew).trans (Kept.new (X:=λj=>(Value.slice (some ⟨g,0,none⟩) (n+1) oc).ownBlock=some j) fB) (λ_ _ h=>h)).trans (Kept.grown Dg (λ_ h=>h)) (λ_ _ h=>h);rw[<-Qd]at rQ;push_cast -dsimp;exact⟨⟨by omega,by omega⟩,⟨i+1,_,rfl,rfl,by omega,rQ,ob.trans (k8.below (by omega) (λg h=>(qD.block g h).1))⟩,by rw[GF];simp only[intOf];omega⟩
 have nG:i=m.length:=by omega
 subst nG;have eN:=eG.slice;obtain⟨oa,oc,rfl⟩:=eN;rw[List.take_length,hof]at eG;rw[List.take_length,hof];exact⟨eG.mono (by omega),dh.trans (eV.mono (by omega))⟩
theorem Jj (s:List Rg)(hs:s.length<100000000)(hr:aO (-2) s=true)(X:Nat->Prop)(v:Value)(w:World)(hv:Sl X 2 (En bA) w v s) :
  ar Tryz.prog 92 [v] w λr w'=>Vc.Own w.heap.size 208 2 bA w' r (gr s)/\Below w.heap.size w w':=by
 obtain⟨a,c,rfl,hc⟩:=hv.shape;refine aE Tryz.func92 rfl (by kernel_rfl) [2] rfl ?_;push_cast -dsimp(maxSteps:=9^7) [Tryz.ntmps92];refine aK [3,4,6,9,10,11,12,13,14,15,16,17,18,19,20,21,22,23,24,25,26,27,28] (λz wx=>∃(i:Nat) (f:Int) (out:List Rg) (ov:Value),z 9=.int .i64 i/\z 4=.int .i64 f/\z 3=ov/\i<=s.length/\0<=f/\f<=1114112/\out.length<=i/\out++oN f (s.drop i)=gr s/\Vc.Own w.heap.size 208 2 bA wx ov out/\Below w.heap.size w wx) (λz _=>s.length-(intOf (z 9)).toNat) ?_ ?_
 ·exact⟨0,0,[],_,rfl,rfl,rfl,Nat.zero_le _,by omega,by omega,Nat.le_refl _,rfl,Vc.Own.nil (enc:=bA) _ _ (λ_=>rfl) _,Below.refl _ _⟩
 intro z wx hI;obtain⟨i,f,out,ov,h9,h4,h3,hi,hf0,hf1,To,iq,eG,eV⟩:=hI;have ya:=eV.size;push_cast -dsimp[h9,h4,h3];refine⟨λao=>?_,λeY=>?_⟩
 ·have hg:=ae (l:=s) (i:=i) (by omega);obtain⟨x,hx,mR,hdx,_⟩:=hg;have hb:=bz s (-2) hr i x hx;obtain⟨b1,b2,b3,_⟩:=hb;have hg:=(hv.below eV).get hx;obtain⟨b,o,rfl,mO,aP⟩:=hg;have cx:aB wx ⟨b,o+i*2,none⟩ 0 2=some [.int .i64 x.1,.int .i64 x.2]:=aj (bA x) 0 (λj u hu=>by simpa using aP j u hu);have eN:=eG.slice;obtain⟨oa,oc,rfl⟩:=eN;rw[hdx,oN]at iq;push_cast -dsimp[cx];refine⟨⟨by omega,by omega⟩,?_⟩;refine aq (z:=[.int .i64 0,.int .i64 0]) (by kernel_rfl) ?_;intro w3 cN;have LF:=cN.size;push_cast -dsimp;refine aH (n:=2) (by kernel_rfl) cN.aL rfl (by simp) (by simp[Value.oneCell']) ?_;intro w4 ah;have KZ:w4.heap.size=w3.heap.size:=ah.size;have c0:w4.cell? ⟨wx.heap.size,0,none⟩=some (.int .i64 x.1):=ah.aL.cell rfl;have c1:w4.cell? ⟨wx.heap.size,1,none⟩=some (.int .i64 x.2):=ah.aL.cell rfl;have k4:Kept (λj=>j=wx.heap.size) wx w4:=(Kept.new cN).trans ah.kept (λ_ _ h=>h);have kU:=eG.aJ k4 (λg hg h=>by have:=eG.block g hg;omega);have nn:Below w.heap.size w w4:=eV.trans (k4.below ya (λ_ h=>by omega));push_cast -dsimp[c0,c1];refine⟨λao=>?_,λeY=>?_⟩
  ·rw[if_pos ao,<-List.append_assoc]at iq;refine⟨⟨by omega,by omega⟩,?_⟩;refine cH fK rfl rfl (by omega) ?_;intro w7 fB;have K1:=fB.size;have mQ:=kU.new fB;push_cast -dsimp;refine aW (base:=w.heap.size) [(f,x.1-1)] (enc:=bA) fK mQ (by rfl) (λj u hu=>by simpa[bA] using fB.cell hu) iM (by simp only[List.length_cons,List.length_nil];omega) (by omega) ?_;intro v8 w8 rQ Dg hn8;have k8:Kept (λj=>(Value.slice oa out.length oc).ownBlock=some j) w4 w8:=(Kept.new (X:=λj=>(Value.slice oa out.length oc).ownBlock=some j) fB).trans (Kept.grown Dg (λ_ h=>h)) (λ_ _ h=>h);have mh:Below w.heap.size w w8:=nn.trans (k8.below (by omega) (λg h=>(kU.block g h).1));have d1:w8.cell? ⟨wx.heap.size,1,none⟩=some (.int .i64 x.2):=k8.cell c1 (λh=>by have h2:w.heap.size<=wx.heap.size/\wx.heap.size<wx.heap.size:=eG.block _ h;omega);push_cast -dsimp[d1];exact⟨⟨by omega,by omega⟩,⟨by omega,by omega⟩,⟨i+1,x.2+1,out++[(f,x.1-1)],_,rfl,rfl,rfl,by omega,by omega,by omega,by rw[List.length_append,List.length_singleton];omega,iq,rQ,mh⟩,by rw[h9];simp only[intOf];omega⟩
  rw[if_neg (by omega),List.nil_append]at iq;exact⟨⟨by omega,by omega⟩,⟨by omega,by omega⟩,⟨i+1,x.2+1,out,_,rfl,rfl,rfl,by omega,by omega,by omega,by omega,iq,kU,nn⟩,by rw[h9];simp only[intOf];omega⟩
 have nG:i=s.length:=by omega
 subst nG;have eN:=eG.slice;obtain⟨oa,oc,rfl⟩:=eN;rw[List.drop_length,oN]at iq;refine⟨λhle=>?_,λH3=>?_⟩
 ·rw[if_pos hle]at iq;refine cH fK rfl rfl (by omega) ?_;intro w7 fB;have K1:=fB.size;have mQ:=eG.new fB;push_cast -dsimp;refine aW (base:=w.heap.size) [(f,1114111)] (enc:=bA) fK mQ (by rfl) (λj u hu=>by simpa[bA] using fB.cell hu) iM (by simp only[List.length_cons,List.length_nil];omega) (by omega) ?_;intro v8 w8 rQ Dg hn8;have k8:Kept (λj=>(Value.slice oa out.length oc).ownBlock=some j) wx w8:=(Kept.new (X:=λj=>(Value.slice oa out.length oc).ownBlock=some j) fB).trans (Kept.grown Dg (λ_ h=>h)) (λ_ _ h=>h);rw[iq]at rQ;push_cast -dsimp;exact⟨rQ,eV.trans (k8.below ya (λg h=>(eG.block g h).1))⟩
 rw[if_neg (by omega),List.append_nil]at iq;subst iq;exact⟨eG,eV⟩
theorem ye {α β:Type}(L:List α)(f:α->List β)(i:Nat):((L.take i).flatMap f).length<=(L.flatMap f).length:=by
 conv=>rhs;rw[<-List.take_append_drop i L,List.flatMap_append,List.length_append]
 omega
theorem VJ (Ls:List (Value×List Rg))(hl:(Ls.flatMap (·.2)).length<100000000)(hn:Ls.length<1000000)(X:Nat->Prop)(g c:Nat)(hc:Ls.length<=c)(w:World)
  (hv:∀(i:Nat) (p:Value×List Rg),Ls[i]?=some p->w.cell? ⟨g,i,none⟩=some p.1/\Sl X 2 (En bA) w p.1 p.2/\Arg p.1) :
  ar Tryz.prog 129 [.slice (some ⟨g,0,none⟩) Ls.length c] w λr w'=>Vc.Own w.heap.size 208 2 bA w' r (Ls.flatMap (·.2))/\Below w.heap.size w w':=by
 refine aE Tryz.func129 rfl (by kernel_rfl) [2] rfl ?_;push_cast -dsimp(maxSteps:=9^7) [Tryz.ntmps129];refine aK [3,5,11,12,13,14,15,16,17,18,19,20,21,22] (λz wx=>∃(i:Nat),z 11=.int .i64 i/\z 3=.int .i64 (((Ls.take i).flatMap (·.2)).length:Nat)/\i<=Ls.length/\wx=w) (λz _=>Ls.length-(intOf (z 11)).toNat) ?_ ?_
 ·exact⟨0,rfl,rfl,Nat.zero_le _,rfl⟩
 intro z wx hI;obtain⟨i,Qn,h3,hi,rfl⟩:=hI;have iQ:=ye Ls (·.2) i;have aNu:=ye Ls (·.2) (i+1);push_cast -dsimp[Qn,h3];refine⟨λao=>?_,λeY=>?_⟩
 ·have hg:=ae (l:=Ls) (i:=i) (by omega);obtain⟨p,hp,_,_,ht⟩:=hg;have hvp:=hv i p hp;obtain⟨c0,hs,hA⟩:=hvp;have Pw:=c0;have e1:((Ls.take (i+1)).flatMap (·.2)).length=((Ls.take i).flatMap (·.2)).length+p.2.length:=by
   rw[ht,List.flatMap_append,List.length_append];simp
  have eN:=hs.shape;obtain⟨pa,pc,Z7,CX⟩:=eN;rw[Z7]at Pw;push_cast -dsimp[Pw];refine⟨⟨by omega,by omega⟩,⟨by omega,by omega⟩,λh=>absurd h (by omega),λ_=>⟨⟨by omega,by omega⟩,⟨i+1,rfl,by rw[e1,Int.natCast_add],by omega⟩,by rw[Qn];simp only[intOf];omega⟩⟩
 have nG:i=Ls.length:=by omega
 subst nG;rw[List.take_length];refine aA (aEF _ (by omega) wx) ?_;rintro v1 w1 ⟨uU,fe⟩;have pY:=fe.size;push_cast -dsimp;refine aK [6,8,27,28,29,30,31,32,33,34] (λz w2=>∃(i:Nat) (ov:Value),z 27=.int .i64 i/\z 6=ov/\i<=Ls.length/\Vc.Own wx.heap.size 208 2 bA w2 ov ((Ls.take i).flatMap (·.2))/\Below wx.heap.size wx w2) (λz _=>Ls.length-(intOf (z 27)).toNat) ?_ ?_
 ·exact⟨0,_,rfl,rfl,Nat.zero_le _,uU,fe⟩
 intro y w2 hJ;obtain⟨i,ov,h27,h6,hi,lF,dh⟩:=hJ;have Bn:=dh.size;have iQ:=ye Ls (·.2) i;have aNu:=ye Ls (·.2) (i+1);push_cast -dsimp[h27,h6];refine⟨λao=>?_,λeY=>?_⟩
 ·have hg:=ae (l:=Ls) (i:=i) (by omega);obtain⟨p,hp,_,_,ht⟩:=hg;have hvp:=hv i p hp;obtain⟨c0,hs,hA⟩:=hvp;have Pw:w2.cell? ⟨g,i,none⟩=some p.1:=(dh.cell (World.block_lt_of_cell? _ _ c0)).trans c0;have eN:=hs.shape;obtain⟨pa,pc,Z7,CX⟩:=eN;rw[Z7]at Pw hs hA;have e1:(Ls.take (i+1)).flatMap (·.2)=(Ls.take i).flatMap (·.2)++p.2:=by
   rw[ht,List.flatMap_append];simp
  have e2:=congrArg List.length e1;rw[List.length_append]at e2;have eN:=lF.slice;obtain⟨oa,oc,rfl⟩:=eN;push_cast -dsimp[Pw];refine⟨⟨by omega,by omega⟩,?_⟩;refine lp (base:=wx.heap.size) (enc:=bA) (ys:=p.2) fK lF (hs.below dh) hA iM (by omega) (by omega) ?_;intro v3 w3 mP OF gV;rw[<-e1]at mP;push_cast -dsimp;exact⟨⟨by omega,by omega⟩,⟨i+1,_,rfl,rfl,by omega,mP,dh.trans gV⟩,by rw[h27];simp only[intOf];omega⟩
 have nG:i=Ls.length:=by omega
 subst nG;rw[List.take_length]at lF;have eN:=lF.slice;obtain⟨oa,oc,rfl⟩:=eN;exact⟨lF,dh⟩
theorem aKQ (s t:List Rg)(hs:s.length<10000000)(ht:t.length<10000000)(X:Nat->Prop)(va vb:Value)(w:World)(OV:Sl X 2 (En bA) w va s)(MU:Sl X 2 (En bA) w vb t)(hA:Arg va)(hB:Arg vb) :
  ar Tryz.prog 93 [va,vb] w λr w'=>Vc.Own w.heap.size 208 2 bA w' r (Bh s t)/\Below w.heap.size w w':=by
 have eN:=OV.shape;obtain⟨a1,c1,e1,_⟩:=eN;have eN:=MU.shape;obtain⟨a2,c2,e2,_⟩:=eN;refine aE Tryz.func93 rfl (by kernel_rfl) [4] rfl ?_;push_cast -dsimp(maxSteps:=9^7) [Tryz.ntmps93];refine cH nD (by rw[e1,e2];rfl) rfl (by omega) ?_;intro w1 aU;have pY:=aU.size;have d0:=aU.cell (j:=0) (u:=va) (by rw[e1,e2];rfl);have d1:=aU.cell (j:=1) (u:=vb) (by rw[e1,e2];rfl);push_cast -dsimp;refine aA (VJ [(va,s),(vb,t)] (by simp;omega) (by simp) X w.heap.size 2 (by simp) w1 ?_) ?_
 ·intro i p hp;match i,hp with
  | 0,hp=>cases hp;exact⟨d0,OV.below aU.below,hA⟩
  | 1,hp=>cases hp;exact⟨d1,MU.below aU.below,hB⟩
  | n+2,hp=>cases hp
 rintro v2 w2 ⟨lF,dh⟩;rw[show [(va,s),(vb,t)].flatMap (·.2)=s++t by simp]at lF
 push_cast -dsimp;refine aA (aPp (s++t) (by rw[List.length_append];omega) _ _ w2 lF.sl lF.kW) ?_;rintro v3 w3 ⟨mP,gV⟩;push_cast -dsimp;have Bn:=dh.size;exact⟨mP.mono (by omega),(aU.below.trans (dh.mono (by omega))).trans (gV.mono (by omega))⟩
theorem aC6 (s t:List Rg)(hs:s.length<1000000)(ht:t.length<1000000)(jV:aO (-2) s=true)(Kz:aO (-2) t=true)(X:Nat->Prop)(va vb:Value)(w:World)(OV:Sl X 2 (En bA) w va s)(MU:Sl X 2 (En bA) w vb t) :
  ar Tryz.prog 94 [va,vb] w λr w'=>Vc.Own w.heap.size 208 2 bA w' r (Bf s t)/\Below w.heap.size w w':=by
 have n1:=tS s;have n2:=tS t;have n3:=TK (gr s) (gr t);refine aE Tryz.func94 rfl (by kernel_rfl) [4] rfl ?_;push_cast -dsimp(maxSteps:=9^7) [Tryz.ntmps94];refine aA (Jj s (by omega) jV X va w OV) ?_;rintro v1 w1 ⟨uU,fe⟩;have pY:=fe.size;push_cast -dsimp;refine aA (Jj t (by omega) Kz X vb w1 (MU.below fe)) ?_;rintro v2 w2 ⟨lF,dh⟩;have Bn:=dh.size;push_cast -dsimp;refine aA (aKQ (gr s) (gr t) (by omega) (by omega) (λ_=>False) v1 v2 w2 ((uU.sl.weaken (λ_ h=>h.elim)).below dh) (lF.sl.weaken (λ_ h=>h.elim)) uU.kW lF.kW) ?_;rintro v3 w3 ⟨mP,gV⟩;have LF:=gV.size;push_cast -dsimp;refine aA (Jj (Bh (gr s) (gr t)) (by omega) (rC _ _) (λ_=>False) v3 w3 (mP.sl.weaken (λ_ h=>h.elim))) ?_;rintro v4 w4 ⟨kU,nn⟩;push_cast -dsimp;exact⟨kU.mono (by omega),((fe.trans (dh.mono (by omega))).trans (gV.mono (by omega))).trans (nn.mono (by omega))⟩
theorem aGi (s t:List Rg)(hs:s.length<900000)(ht:t.length<900000)(jV:aO (-2) s=true)(Kz:aO (-2) t=true)(X:Nat->Prop)(va vb:Value)(w:World)(OV:Sl X 2 (En bA) w va s)(MU:Sl X 2 (En bA) w vb t) :
  ar Tryz.prog 95 [va,vb] w λr w'=>Vc.Own w.heap.size 208 2 bA w' r (yr s t)/\Below w.heap.size w w':=by
 have n2:=tS t;refine aE Tryz.func95 rfl (by kernel_rfl) [4] rfl ?_;push_cast -dsimp(maxSteps:=9^7) [Tryz.ntmps95];refine aA (Jj t (by omega) Kz X vb w MU) ?_;rintro v2 w2 ⟨lF,dh⟩;have Bn:=dh.size;push_cast -dsimp;refine aA (aC6 s (gr t) (by omega) (by omega) jV (pW Kz) (λ_=>False) va v2 w2 ((OV.below dh).weaken (λ_ h=>h.elim)) (lF.sl.weaken (λ_ h=>h.elim))) ?_;rintro v3 w3 ⟨mP,gV⟩;push_cast -dsimp;exact⟨mP.mono (by omega),dh.trans (gV.mono (by omega))⟩
def gA (X:Nat->Prop)(w:World)(b:Nat)(nm:ba):Prop:=∃gb:List (List UInt8×Value),mi (λl:List UInt8=>str l) w b gb/\dX (λkv x=>kv.1=x.1/\Sl X 2 (En bA) w kv.2 x.2/\Arg kv.2) gb nm
theorem gA.below {X:Nat->Prop}{w w':World}{b:Nat}{nm:ba}(h:gA X w b nm)(hb:Below w.heap.size w w'):gA X w' b nm:=by
 obtain⟨gb,h2,h3⟩:=h;exact⟨gb,h2.below hb h2.lt,h3.imp λa b h=>⟨h.1,h.2.1.below hb,h.2.2⟩⟩
theorem gA.lt {X:Nat->Prop}{w:World}{b:Nat}{nm:ba}(h:gA X w b nm):b<w.heap.size:=by
 obtain⟨gb,h2,h3⟩:=h;exact h2.lt
theorem gA.find {X:Nat->Prop}{w:World}{n:List UInt8}:∀{gb:List (List UInt8×Value)} {nm:ba},dX (λkv x=>kv.1=x.1/\Sl X 2 (En bA) w kv.2 x.2/\Arg kv.2) gb nm ->
  (sG n nm=none/\eA n gb=none)\/∃s u,sG n nm=some s/\eA n gb=some u/\Sl X 2 (En bA) w u s/\Arg u:=by
 intro gb nm h;induction h with
 | nil=>exact .inl ⟨rfl,rfl⟩
 | @cons kv x l m h1 h2 ih =>
  obtain⟨e,hs,ha⟩:=h1;by_cases hn:x.1=n
  ·exact .inr ⟨x.2,kv.2,by rw[sG,if_pos hn],by rw[eA,if_pos (by rw[e,hn])],hs,ha⟩
  rw[sG,if_neg hn,eA,if_neg (λh=>hn (by rw[<-e,<-h]))];exact ih
def cz (X:Nat->Prop)(B:Nat)(nm:ba)(k:ax)(r:Value)(w:World):Prop:=match cD nm k with
 | .ok s=>∃v,r=.tuple #[v,.nilIface]/\Sl (λb=>X b/\b<B) 2 (En bA) w v s/\Arg v
 | .error e=>∃b,B<=b/\r=.tuple #[.slice none 0 0,.iface 141 (.pointer (some ⟨b,0,none⟩))]/\aM w b 143 [.int .i64 7,.int .i64 e]
theorem FG:∀(k:ax),gQ k->∀(nm:ba),jM nm->∀(X:Nat->Prop) (v:Value) (b:Nat) (w:World),eZ X w v k->gA X w b nm ->
  ar Tryz.prog 59 [v,.map (some b)] w λr w'=>cz X w.heap.size nm k r w'/\Below w.heap.size w w':=by
 intro k;induction k with
 | lit pos s =>
  rintro bO nm hr X v mb w ⟨b,sv,rfl,hb,hB,hs,ha⟩ hm;have d0:w.cell? ⟨b,0,none⟩=some (.int .i64 1):=hB.cell rfl;have d2:w.cell? ⟨b,2,none⟩=some sv:=hB.cell rfl;obtain⟨_,_,rfl,_⟩:=hs.shape
  (refine aE Tryz.func59 rfl (by kernel_rfl) [4,5] rfl ?_;push_cast -dsimp(maxSteps:=9^7) [Tryz.ntmps59]);push_cast -dsimp[d0,d2];exact⟨⟨_,rfl,hs.weaken (λb hh=>hh.1),ha⟩,Below.refl _ _⟩
 | ref pos n =>
  rintro bO nm hr X v mb w ⟨b,rfl,hb,hB⟩ hm;have d0:w.cell? ⟨b,0,none⟩=some (.int .i64 2):=hB.cell rfl;have d1:w.cell? ⟨b,1,none⟩=some (.int .i64 pos):=hB.cell rfl;have d3:w.cell? ⟨b,3,none⟩=some (str n):=hB.cell rfl;obtain⟨gb,hM,hA⟩:=hm;have hf:=gA.find (n:=n) hA
  (refine aE Tryz.func59 rfl (by kernel_rfl) [4,5] rfl ?_;push_cast -dsimp(maxSteps:=9^7) [Tryz.ntmps59]);push_cast -dsimp[d0,d1,d3];rcases hf with ⟨f1,f2⟩|⟨s,u,f1,f2,hs,ha⟩
  ·refine pJ (kt:=9) (et:=139) (z:=.slice none 0 0) (by kernel_rfl) (nf (by kernel_rfl)) (by kernel_rfl) hM rfl f2 ?_;push_cast -dsimp;have d1d:w.drew.cell? ⟨b,1,none⟩=some (.int .i64 pos):=d1;refine b8 (λw'=>w'.cell? ⟨b,1,none⟩=some (.int .i64 pos)) mixed (by kernel_rfl) d1 ?_;push_cast -dsimp[d1d];refine⟨λbB h=>by rw[h];exact rfl,?_⟩;refine aR ?_;intro w2 bJ;have bJ:mj w.drew w2 143 [.int .i64 7,.int .i64 pos]:=bJ;have ao:=hB.lt;have dh:Below w.heap.size w w2:=((Kept.refl (λ_=>False) w).drew.below (Nat.le_refl _) (λ_ h=>h.elim)).trans bJ.below;refine⟨(dh.cell (by show b<_;omega)).trans d1,?_⟩
   push_cast -dsimp;refine⟨?_,dh⟩;unfold cz;rw[show cD nm (.ref pos n)=.error pos from by rw[cD,f1]]
   exact⟨w.heap.size,Nat.le_refl _,rfl,bJ.aL⟩
  refine pK (kt:=9) (et:=139) (z:=.slice none 0 0) (by kernel_rfl) (nf (by kernel_rfl)) (by kernel_rfl) hM rfl f2 ?_;obtain⟨_,_,rfl,_⟩:=hs.shape;push_cast -dsimp;refine⟨?_,Below.refl _ _⟩;unfold cz;rw[show cD nm (.ref pos n)=.ok s from by rw[cD,f1]]
  exact⟨_,rfl,hs.weaken (λb hh=>hh.1),ha⟩
 | not pos k ih =>
  rintro bO nm hr X v mb w ⟨b,u,rfl,hb,hB,h1⟩ hm;obtain⟨b1,rfl,fe⟩:=h1.ptr;have d0:w.cell? ⟨b,0,none⟩=some (.int .i64 6):=hB.cell rfl;have d4:w.cell? ⟨b,4,none⟩=some (.pointer (some ⟨b1,0,none⟩)):=hB.cell rfl
  (refine aE Tryz.func59 rfl (by kernel_rfl) [4,5] rfl ?_;push_cast -dsimp(maxSteps:=9^7) [Tryz.ntmps59]);push_cast -dsimp[d0,d4];refine aA (ih bO nm hr X _ mb w h1 hm) ?_;rintro r w1 ⟨hR,j8⟩;have z1:=j8.size;have n0:=hB.below j8 hB.lt;have e0:w1.cell? ⟨b,0,none⟩=some (.int .i64 6):=n0.cell rfl;unfold cz at hR;cases hk:cD nm k with
  | ok s =>
   rw[hk]at hR;obtain⟨v1,rfl,fx,MD⟩:=hR;have jV:=eW (k:=k) hr bO hk;have hle:=eI jV;push_cast -dsimp[e0];refine aA (Jj s (by omega) jV _ _ w1 fx) ?_;rintro v2 w2 ⟨lF,dh⟩;have Z1:=j8.trans (dh.mono z1);have ha2:Arg v2:=lF.kW;obtain⟨_,_,rfl⟩:=lF.slice;push_cast -dsimp;refine⟨?_,Z1⟩;unfold cz;rw[show cD nm (.not pos k)=.ok (gr s) from by rw[cD,hk]]
   exact⟨_,rfl,lF.sl.weaken (λb hh=>by have:=hh.2;omega),ha2⟩
  | error e =>
   rw[hk]at hR;obtain⟨eb,Dd,rfl,hE⟩:=hR;push_cast -dsimp;refine⟨?_,j8⟩;unfold cz;rw[show cD nm (.not pos k)=.error e from by rw[cD,hk]]
   exact⟨eb,Dd,rfl,hE⟩
 | bin c pos k r ih ih' =>
  rintro bO nm hr X v mb w ⟨b,u,x,rfl,hb,hB,h1,h2⟩ hm;obtain⟨b1,rfl,fe⟩:=h1.ptr;obtain⟨b2,rfl,dh⟩:=h2.ptr;obtain⟨RR,RS,hc⟩:=bO;have d4:w.cell? ⟨b,4,none⟩=some (.pointer (some ⟨b1,0,none⟩)):=hB.cell rfl;rcases hc with rfl|rfl|rfl
  case inl =>
   have d0:w.cell? ⟨b,0,none⟩=some (.int .i64 3):=hB.cell rfl
   (refine aE Tryz.func59 rfl (by kernel_rfl) [4,5] rfl ?_;push_cast -dsimp(maxSteps:=9^7) [Tryz.ntmps59]);push_cast -dsimp[d0,d4];refine aA (ih RR nm hr X _ mb w h1 hm) ?_;rintro r1 w1 ⟨hR,j8⟩;have z1:=j8.size;have n0:=hB.below j8 hB.lt;have e0:w1.cell? ⟨b,0,none⟩=some (.int .i64 3):=n0.cell rfl;have e5:w1.cell? ⟨b,5,none⟩=some (.pointer (some ⟨b2,0,none⟩)):=n0.cell rfl;unfold cz at hR;cases hk:cD nm k with
   | error e =>
    rw[hk]at hR;obtain⟨eb,Dd,rfl,hE⟩:=hR;push_cast -dsimp;refine⟨?_,j8⟩;unfold cz;rw[show cD nm (.bin 3 pos k r)=.error e from by rw[cD,hk]]
    exact⟨eb,Dd,rfl,hE⟩
   | ok s =>
    rw[hk]at hR;obtain⟨v1,rfl,fx,MD⟩:=hR;have jV:=eW hr RR hk;have hls:=eI jV;obtain⟨_,_,rfl,_⟩:=fx.shape;push_cast -dsimp[e0,e5];refine aA (ih' RS nm hr X _ mb w1 (h2.below j8) (hm.below j8)) ?_;rintro r2 w2 ⟨yO,uM⟩;have z2:=uM.size;have iP:=j8.trans (uM.mono z1);have fL:=n0.below uM n0.lt;have f0:w2.cell? ⟨b,0,none⟩=some (.int .i64 3):=fL.cell rfl;unfold cz at yO;cases lV:cD nm r with
    | error e =>
     rw[lV]at yO;obtain⟨eb,Dd,rfl,hE⟩:=yO;push_cast -dsimp;refine⟨?_,iP⟩;unfold cz;rw[show cD nm (.bin 3 pos k r)=.error e from by rw[cD,hk];dsimp only;rw[lV]]
     exact⟨eb,by omega,rfl,hE⟩
    | ok t =>
     rw[lV]at yO;obtain⟨v2,rfl,gZ,ha2⟩:=yO;have Kz:=eW hr RS lV;have ao:=eI Kz;obtain⟨_,_,rfl,_⟩:=gZ.shape;push_cast -dsimp[f0];refine aA (aKQ s t (by omega) (by omega) (λ_=>False) _ _ w2 ((fx.below uM).weaken (λ_ h=>h.elim)) (gZ.weaken (λ_ h=>h.elim)) MD ha2) ?_;rintro v3 w3 ⟨mP,gV⟩;have qT:=iP.trans (gV.mono (by omega));have ha3:Arg v3:=mP.kW;obtain⟨_,_,rfl⟩:=mP.slice;push_cast -dsimp;refine⟨?_,qT⟩;unfold cz;rw[show cD nm (.bin 3 pos k r)=.ok (Bh s t) from by rw[cD,hk];dsimp only;rw[lV];rfl]
     exact⟨_,rfl,mP.sl.weaken (λb hh=>by have:=hh.2;omega),ha3⟩
  case inr.inl =>
   have d0:w.cell? ⟨b,0,none⟩=some (.int .i64 4):=hB.cell rfl
   (refine aE Tryz.func59 rfl (by kernel_rfl) [4,5] rfl ?_;push_cast -dsimp(maxSteps:=9^7) [Tryz.ntmps59]);push_cast -dsimp[d0,d4];refine aA (ih RR nm hr X _ mb w h1 hm) ?_;rintro r1 w1 ⟨hR,j8⟩;have z1:=j8.size;have n0:=hB.below j8 hB.lt;have e0:w1.cell? ⟨b,0,none⟩=some (.int .i64 4):=n0.cell rfl;have e5:w1.cell? ⟨b,5,none⟩=some (.pointer (some ⟨b2,0,none⟩)):=n0.cell rfl;unfold cz at hR;cases hk:cD nm k with
   | error e =>
    rw[hk]at hR;obtain⟨eb,Dd,rfl,hE⟩:=hR;push_cast -dsimp;refine⟨?_,j8⟩;unfold cz;rw[show cD nm (.bin 4 pos k r)=.error e from by rw[cD,hk]]
    exact⟨eb,Dd,rfl,hE⟩
   | ok s =>
    rw[hk]at hR;obtain⟨v1,rfl,fx,MD⟩:=hR;have jV:=eW hr RR hk;have hls:=eI jV;obtain⟨_,_,rfl,_⟩:=fx.shape;push_cast -dsimp[e0,e5];refine aA (ih' RS nm hr X _ mb w1 (h2.below j8) (hm.below j8)) ?_;rintro r2 w2 ⟨yO,uM⟩;have z2:=uM.size;have iP:=j8.trans (uM.mono z1);have fL:=n0.below uM n0.lt;have f0:w2.cell? ⟨b,0,none⟩=some (.int .i64 4):=fL.cell rfl;unfold cz at yO;cases lV:cD nm r with
    | error e =>
     rw[lV]at yO;obtain⟨eb,Dd,rfl,hE⟩:=yO;push_cast -dsimp;refine⟨?_,iP⟩;unfold cz;rw[show cD nm (.bin 4 pos k r)=.error e from by rw[cD,hk];dsimp only;rw[lV]]
     exact⟨eb,by omega,rfl,hE⟩
    | ok t =>
     rw[lV]at yO;obtain⟨v2,rfl,gZ,ha2⟩:=yO;have Kz:=eW hr RS lV;have ao:=eI Kz;obtain⟨_,_,rfl,_⟩:=gZ.shape;push_cast -dsimp[f0];refine aA (aC6 s t (by omega) (by omega) jV Kz (λ_=>False) _ _ w2 ((fx.below uM).weaken (λ_ h=>h.elim)) (gZ.weaken (λ_ h=>h.elim))) ?_;rintro v3 w3 ⟨mP,gV⟩;have qT:=iP.trans (gV.mono (by omega));have ha3:Arg v3:=mP.kW;obtain⟨_,_,rfl⟩:=mP.slice;push_cast -dsimp;refine⟨?_,qT⟩;unfold cz;rw[show cD nm (.bin 4 pos k r)=.ok (Bf s t) from by rw[cD,hk];dsimp only;rw[lV];rfl]
     exact⟨_,rfl,mP.sl.weaken (λb hh=>by have:=hh.2;omega),ha3⟩
  case inr.inr =>
   have d0:w.cell? ⟨b,0,none⟩=some (.int .i64 5):=hB.cell rfl
   (refine aE Tryz.func59 rfl (by kernel_rfl) [4,5] rfl ?_;push_cast -dsimp(maxSteps:=9^7) [Tryz.ntmps59]);push_cast -dsimp[d0,d4];refine aA (ih RR nm hr X _ mb w h1 hm) ?_;rintro r1 w1 ⟨hR,j8⟩;have z1:=j8.size;have n0:=hB.below j8 hB.lt;have e0:w1.cell? ⟨b,0,none⟩=some (.int .i64 5):=n0.cell rfl;have e5:w1.cell? ⟨b,5,none⟩=some (.pointer (some ⟨b2,0,none⟩)):=n0.cell rfl;unfold cz at hR;cases hk:cD nm k with
   | error e =>
    rw[hk]at hR;obtain⟨eb,Dd,rfl,hE⟩:=hR;push_cast -dsimp;refine⟨?_,j8⟩;unfold cz;rw[show cD nm (.bin 5 pos k r)=.error e from by rw[cD,hk]]
    exact⟨eb,Dd,rfl,hE⟩
   | ok s =>
    rw[hk]at hR;obtain⟨v1,rfl,fx,MD⟩:=hR;have jV:=eW hr RR hk;have hls:=eI jV;obtain⟨_,_,rfl,_⟩:=fx.shape;push_cast -dsimp[e0,e5];refine aA (ih' RS nm hr X _ mb w1 (h2.below j8) (hm.below j8)) ?_;rintro r2 w2 ⟨yO,uM⟩;have z2:=uM.size;have iP:=j8.trans (uM.mono z1);have fL:=n0.below uM n0.lt;have f0:w2.cell? ⟨b,0,none⟩=some (.int .i64 5):=fL.cell rfl;unfold cz at yO;cases lV:cD nm r with
    | error e =>
     rw[lV]at yO;obtain⟨eb,Dd,rfl,hE⟩:=yO;push_cast -dsimp;refine⟨?_,iP⟩;unfold cz;rw[show cD nm (.bin 5 pos k r)=.error e from by rw[cD,hk];dsimp only;rw[lV]]
     exact⟨eb,by omega,rfl,hE⟩
    | ok t =>
     rw[lV]at yO;obtain⟨v2,rfl,gZ,ha2⟩:=yO;have Kz:=eW hr RS lV;have ao:=eI Kz;obtain⟨_,_,rfl,_⟩:=gZ.shape;push_cast -dsimp[f0];refine aA (aGi s t (by omega) (by omega) jV Kz (λ_=>False) _ _ w2 ((fx.below uM).weaken (λ_ h=>h.elim)) (gZ.weaken (λ_ h=>h.elim))) ?_;rintro v3 w3 ⟨mP,gV⟩;have qT:=iP.trans (gV.mono (by omega));have ha3:Arg v3:=mP.kW;obtain⟨_,_,rfl⟩:=mP.slice;push_cast -dsimp;refine⟨?_,qT⟩;unfold cz;rw[show cD nm (.bin 5 pos k r)=.ok (yr s t) from by rw[cD,hk];dsimp only;rw[lV];rfl]
     exact⟨_,rfl,mP.sl.weaken (λb hh=>by have:=hh.2;omega),ha3⟩
end Go.Proofs.YtemjejfpadnljaaGreatDoor
namespace Cae
mutual
def wd:aG->Nat
 | .one _=>0
 | .any=>0
 | .gh=>0
 | .cat l=>Nat.max l.length (wds l)
 | .alt l=>Nat.max l.length (wds l)
 | .many x _ _=>wd x
def wds:List aG->Nat
 | []=>0
 | x::l=>Nat.max (wd x) (wds l)
end
theorem HU:∀{l:List aG} {x:aG},x∈l->wd x<=wds l
 | y::l,x,h=>by
  rw[wds];rcases List.mem_cons.1 h with rfl|h
  ·exact Nat.le_max_left _ _
  exact Nat.le_trans (HU h) (Nat.le_max_right _ _)
theorem N7 {n:Nat}:∀{l:List aG},(∀x∈l,wd x<=n)->wds l<=n
 | [],_=>Nat.zero_le _
 | y::l,h=>by
  rw[wds];exact Nat.max_le.2 ⟨h y (List.mem_cons_self ..),N7 λx hx=>h x (List.mem_cons_of_mem _ hx)⟩
theorem Eg {l:List aG}:wds l<=wd (.cat l)/\l.length<=wd (.cat l)/\∀x∈l,wd x<=wd (.cat l):=by
 rw[wd];exact⟨Nat.le_max_right _ _,Nat.le_max_left _ _,λx hx=>Nat.le_trans (HU hx) (Nat.le_max_right _ _)⟩
theorem Ef {l:List aG}:wds l<=wd (.alt l)/\l.length<=wd (.alt l)/\∀x∈l,wd x<=wd (.alt l):=by
 rw[wd];exact⟨Nat.le_max_right _ _,Nat.le_max_left _ _,λx hx=>Nat.le_trans (HU hx) (Nat.le_max_right _ _)⟩
theorem Bx {x:aG}{lo hi:Int}:wd x<=wd (.many x lo hi):=by rw[wd];exact Nat.le_refl _
mutual
theorem PZ:∀x:aG,wd x<=pn x
 | .one k=>Nat.zero_le _
 | .any=>Nat.zero_le _
 | .gh=>Nat.zero_le _
 | .cat l=>by
  rw[wd];exact Nat.max_le.2 ⟨EH.2.1,N7 λx hx=>Nat.le_trans (N8 l x hx) (EH.2.2 x hx)⟩
 | .alt l=>by
  rw[wd];exact Nat.max_le.2 ⟨EG.2.1,N7 λx hx=>Nat.le_trans (N8 l x hx) (EG.2.2 x hx)⟩
 | .many x lo hi=>by
  rw[wd];exact Nat.le_trans (PZ x) My
theorem N8:∀(l:List aG) (x:aG),x∈l->wd x<=pn x
 | [],x,h=>by cases h
 | y::l,x,h=>by
  rcases List.mem_cons.1 h with h|h
  ·rw[h];exact PZ y
  exact N8 l x h
end
end Cae
namespace Go.Proofs.YtemjejfpadnljaaGreatDoor
open Go.Vc Go.Proofs Go.RowKit Cae
attribute [local irreducible] cZ ab ai aX runK ar Sl Vc.Own vc aS bu aZ
def zD (B:Nat)(o:Option (Int×Nat))(r:Value)(w:World):Prop:=match o with
 | none=>r=.nilIface
 | some (c,e)=>∃b,B<=b/\r=.iface 141 (.pointer (some ⟨b,0,none⟩))/\aM w b 143 [.int .i64 c,.int .i64 e]
def zG (nm:ba)(x:aG):Option (Int×Nat):=(gy nm x).map λe=>((7:Int),e)
def yC (x:aG):Prop:=bK x->wd x<=100000000->∀(nm:ba),jM nm->∀(X:Nat->Prop) (v:Value) (b:Nat) (w:World),bE X w v x->gA X w b nm ->
 ar Tryz.prog 45 [v,.map (some b)] w λr w'=>zD w.heap.size (zG nm x) r w'/\Below w.heap.size w w'
theorem aAc (k:ax):yC (.one k):=by
 intro bO od nm hr X v mb w hV hm;simp only[bE]at hV;obtain⟨b,u,rfl,hb,hB,h1⟩:=hV;obtain⟨b1,rfl,fe⟩:=h1.ptr;have d0:w.cell? ⟨b,0,none⟩=some (.int .i64 1):=hB.cell rfl;have d1:w.cell? ⟨b,1,none⟩=some (.pointer (some ⟨b1,0,none⟩)):=hB.cell rfl;simp only[bK]at bO;refine aE Tryz.func45 rfl (by kernel_rfl) [4] rfl ?_;push_cast -dsimp(maxSteps:=9^7) [Tryz.ntmps45];push_cast -dsimp[d0,d1];refine aA (FG k bO nm hr X _ mb w h1 hm) ?_;rintro r w1 ⟨hR,j8⟩;unfold cz at hR;cases hk:cD nm k with
 | ok s =>
  rw[hk]at hR;obtain⟨v1,rfl,fx,MD⟩:=hR;push_cast -dsimp;refine⟨?_,j8⟩;unfold zG;rw[gy,hk];rfl
 | error e =>
  rw[hk]at hR;obtain⟨eb,Dd,rfl,hE⟩:=hR;push_cast -dsimp;refine⟨?_,j8⟩;unfold zG;rw[gy,hk];exact⟨eb,Dd,rfl,hE⟩
theorem rV {nm:ba}:∀(a b:List aG),iX nm (a++b)=match iX nm a with
  | some e=>some e
  | none=>iX nm b
 | [],b=>by simp only[List.nil_append,iX]
 | x::a,b=>by
  simp only[List.cons_append,iX];cases gy nm x with
  | some e=>rfl
  | none=>exact rV a b
theorem nt (code lo hi:Int)(hc:code≠1)(l:List aG)(hl:∀x∈l,yC x)(bO:∀x∈l,bK x/\wd x<=100000000)(hlen:l.length<=100000000)(nm:ba)(hr:jM nm)(X:Nat->Prop)(b mb:Nat)(pv sv:Value)(vs:List Nat)(w:World)
  (hB:aM w b 158 [.int .i64 code,pv,sv,.int .i64 lo,.int .i64 hi]) (hs:Sl X 1 (En fm) w sv vs) (hV:aQ X w vs l) (hm:gA X w mb nm) :
  ar Tryz.prog 45 [.pointer (some ⟨b,0,none⟩),.map (some mb)] w λr w'=>zD w.heap.size ((iX nm l).map λe=>((7:Int),e)) r w'/\Below w.heap.size w w':=by
 have hvl:=hV.len;obtain⟨sa,sc,rfl,CY⟩:=hs.shape;have d0:w.cell? ⟨b,0,none⟩=some (.int .i64 code):=hB.cell rfl;have d2:w.cell? ⟨b,2,none⟩=some (.slice sa vs.length sc):=hB.cell rfl;refine aE Tryz.func45 rfl (by kernel_rfl) [4] rfl ?_;push_cast -dsimp(maxSteps:=9^7) [Tryz.ntmps45];push_cast -dsimp[d0,d2];refine⟨λh=>absurd h hc,λ_=>?_⟩;refine aK [4,8,9,30,31,32,33,34,35,36,37,38,39,40] (λz wx=>∃(i:Nat),z 30=.int .i64 i/\i<=l.length/\iX nm (l.take i)=none/\Below w.heap.size w wx) (λz _=>l.length-(intOf (z 30)).toNat) ?_ ?_
 ·exact⟨0,rfl,Nat.zero_le _,by simp[iX],Below.refl _ _⟩
 intro z wx hI;obtain⟨i,h30,hi,gH,eV⟩:=hI;have zx:=eV.size;push_cast -dsimp[h30];refine⟨λao=>?_,λeY=>?_⟩
 ·obtain⟨x,hx,mR,_,ht⟩:=ae (l:=l) (i:=i) (by omega);obtain⟨u,hu,hVx⟩:=aQ.nth hV hx;obtain⟨b1,o,rfl,mO,aP⟩:=(hs.below eV).get hu;have c0:wx.cell? ⟨b1,o+i,none⟩=some (.pointer (some ⟨u,0,none⟩)):=by simpa[fm,bx] using aP 0 _ rfl
  push_cast -dsimp[c0,Nat.mul_one];refine⟨⟨by omega,by omega⟩,?_⟩;refine aA (hl x mR (bO x mR).1 (bO x mR).2 nm hr X _ mb wx (bE.below hVx eV) (hm.below eV)) ?_;rintro r wy ⟨hE,vV⟩;have aJn:=eV.trans (vV.mono zx);unfold zG at hE;cases hp:gy nm x with
  | none =>
   rw[hp]at hE;have hE:r=.nilIface:=hE;subst hE;push_cast -dsimp;refine⟨⟨by omega,by omega⟩,⟨i+1,rfl,by omega,?_,aJn⟩,by rw[h30];simp only[intOf];omega⟩;rw[ht,rV,gH];simp only[iX,hp]
  | some e =>
   rw[hp]at hE;obtain⟨eb,Dd,rfl,WU⟩:=hE;push_cast -dsimp;refine⟨?_,aJn⟩;have dD:iX nm l=some e:=by
    have sK:l=l.take (i+1)++l.drop (i+1):=(List.take_append_drop _ _).symm;rw[sK,rV,ht,rV,gH];simp only[iX,hp]
   rw[dD];exact⟨eb,by omega,rfl,WU⟩
 rw[List.take_of_length_le (by omega)]at gH;refine⟨?_,eV⟩;rw[gH];rfl
theorem aAa:yC .any:=by
 intro bO od nm hr X v mb w hV hm;simp only[bE]at hV;obtain⟨b,rfl,hb,hB⟩:=hV;exact(nt 2 0 0 (by decide) [] (λx h=>by cases h) (λx h=>by cases h) (by simp) nm hr X b mb _ _ [] w hB (Sl.nil _ _ _ _ _ _) (by simp only[aQ]) hm).mono λr w' ⟨h1,h2⟩=>⟨by simpa[zG,gy,iX] using h1,h2⟩
theorem Uz:yC .gh:=by
 intro bO od nm hr X v mb w hV hm;simp only[bE]at hV;obtain⟨b,rfl,hb,hB⟩:=hV;exact(nt 3 0 0 (by decide) [] (λx h=>by cases h) (λx h=>by cases h) (by simp) nm hr X b mb _ _ [] w hB (Sl.nil _ _ _ _ _ _) (by simp only[aQ]) hm).mono λr w' ⟨h1,h2⟩=>⟨by simpa[zG,gy,iX] using h1,h2⟩
theorem aAb (l:List aG)(hl:∀x∈l,yC x):yC (.cat l):=by
 intro bO od nm hr X v mb w hV hm;simp only[bE]at hV;obtain⟨b,sv,vs,rfl,hb,hB,hs,hV⟩:=hV;have CX:=Eg (l:=l);simp only[bK]at bO;exact(nt 4 0 0 (by decide) l hl (λx h=>⟨iw bO h,by have:=CX.2.2 x h;omega⟩) (by have:=CX.2.1;omega) nm hr X b mb _ sv vs w hB hs hV hm).mono λr w' ⟨h1,h2⟩=>⟨by simpa[zG,gy] using h1,h2⟩
theorem Zz (l:List aG)(hl:∀x∈l,yC x):yC (.alt l):=by
 intro bO od nm hr X v mb w hV hm;simp only[bE]at hV;obtain⟨b,sv,vs,rfl,hb,hB,hs,hV⟩:=hV;have CX:=Ef (l:=l);simp only[bK]at bO;exact(nt 5 0 0 (by decide) l hl (λx h=>⟨iw bO h,by have:=CX.2.2 x h;omega⟩) (by have:=CX.2.1;omega) nm hr X b mb _ sv vs w hB hs hV hm).mono λr w' ⟨h1,h2⟩=>⟨by simpa[zG,gy] using h1,h2⟩
theorem VA (x:aG)(lo hi:Int)(hx:yC x):yC (.many x lo hi):=by
 intro bO od nm hr X v mb w hV hm;simp only[bE]at hV;obtain⟨b,sv,u,rfl,hb,hB,hs,hV⟩:=hV;have hpm:=Bx (x:=x) (lo:=lo) (hi:=hi);simp only[bK]at bO;refine(nt 6 lo hi (by decide) [x] (λy h=>by rw[List.mem_singleton]at h;rw[h];exact hx) (λy h=>by rw[List.mem_singleton]at h;rw[h];exact⟨bO.1,by omega⟩) (by simp) nm hr X b mb _ sv [u] w hB hs (by simp only[aQ];exact⟨hV,trivial⟩) hm).mono λr w' ⟨h1,h2⟩=>⟨?_,h2⟩;have e:iX nm [x]=gy nm x:=by
  simp only[iX];cases gy nm x<;>rfl
 rw[e]at h1;simpa[zG,gy] using h1
mutual
theorem Nn:∀x,yC x
 | .one k=>aAc k
 | .any=>aAa
 | .gh=>Uz
 | .cat l=>aAb l (Ld l)
 | .alt l=>Zz l (Ld l)
 | .many x lo hi=>VA x lo hi (Nn x)
theorem Ld:∀(l:List aG) (x:aG),x∈l->yC x
 | [],x,h=>by cases h
 | y::l,x,h=>by
  have hy:=Nn y;rcases List.mem_cons.1 h with h|h
  ·rw[h];exact hy
  exact Ld l x h
end
def aIn (p:Nat×Nat):Int×Nat:=(if p.1=5 then 9 else 7,p.2)
def nq (X:Nat->Prop)(B:Nat)(f:de)(r:Value)(w:World):Prop:=match gm [] f.cO with
 | .ok nm=>∃mb,B<=mb/\r=.tuple #[.map (some mb),.nilIface]/\gA (λb=>X b/\b<B) w mb nm/\jM nm
 | .error e=>∃v,r=.tuple #[.map none,v]/\zD B (some (aIn e)) v w
theorem KD {nm:ba}{n:List UInt8}{s:List Rg}(h:jM nm)(hs:aO (-2) s=true):jM (nm++[(n,s)]):=λx hx=>by
 rw[List.mem_append,List.mem_singleton]at hx;rcases hx with hx|rfl
 ·exact h x hx
 exact hs
theorem tJ {nm:ba}{c:fD}{l:List fD}:gm nm (c::l)=if (sG c.name nm).isSome then .error (5,c.pos) else match cD nm c.kind with
  | .error e=>.error (6,e)
  | .ok s=>gm (nm++[(c.name,s)]) l:=by
 first|(rw[gm];done)|(rw[gm];rfl)
theorem zK {α β:Type}{R:α->β->Prop}{l:List α}{m:List β}(h:dX R l m){i:Nat}{y:β}(hy:m[i]?=some y):∃x,l[i]?=some x/\R x y:=by
 induction h generalizing i with
 | nil=>simp at hy
 | cons h1 _ ih =>
  cases i with
  | zero=>cases hy;exact⟨_,rfl,h1⟩
  | succ i=>exact ih (by simpa using hy)
theorem Oh (f:de)(bO:∀c∈f.cO,gQ c.kind)(hlen:f.cO.length<=1000000)(X:Nat->Prop)(v:Value)(w:World)(hv:kr X w v f) :
  ar Tryz.prog 33 [v] w λr w'=>nq X w.heap.size f r w'/\Below w.heap.size w w':=by
 obtain⟨cv,rv,cs,rs,rfl,iS,jV,hC,hR⟩:=hv;have iQ:=dX.len hC;obtain⟨ca,cc,rfl,hcc⟩:=iS.shape;obtain⟨ra,rc,rfl,hrc⟩:=jV.shape;refine aE Tryz.func33 rfl (by kernel_rfl) [2,3] rfl ?_;push_cast -dsimp(maxSteps:=9^7) [Tryz.ntmps33];refine aR ?_;intro w1 aU;have aU:mj w w1 26 [.slice ca cs.length cc,.slice ra rs.length rc,.bool f.dG]:=aU;have z1:=aU.size;push_cast -dsimp;refine Al (key:=λl:List UInt8=>str l) ?_;intro w2 m2 dh z2;have B2:=aU.aL.below dh (by omega);have d2:w2.cell? ⟨w.heap.size,0,none⟩=some (.slice ca cs.length cc):=B2.cell rfl;have iP:=aU.below.trans (dh.mono (by omega));have hN:∃Xn:Nat->Prop,Xn=(λb=>(X b/\b<w.heap.size)\/b=w1.heap.size):=⟨_,rfl⟩;obtain⟨Xn,W0⟩:=hN;push_cast -dsimp[d2];refine aK [2,3,6,7,8,9,10,15,16,17,18,19,20,21,22,23,24,25,26,27,28,29,30,31,32,33,34,35,36,37,38,39,40,41,42,43,44,45,46] (λz wx=>∃(i:Nat) (nm:ba),z 15=.int .i64 i/\i<=f.cO.length/\gm [] f.cO=gm nm (f.cO.drop i)/\gA Xn wx w1.heap.size nm/\jM nm/\Below w.heap.size w wx/\w2.heap.size<=wx.heap.size) (λz _=>f.cO.length-(intOf (z 15)).toNat) ?_ ?_
 ·exact⟨0,[],rfl,Nat.zero_le _,rfl,⟨[],m2,.nil⟩,(λx h=>(by cases h)),iP,Nat.le_refl _⟩
 intro z wx hI;obtain⟨i,nm,h15,hi,qY,hNV,ZY,eV,zx⟩:=hI;push_cast -dsimp[h15];refine⟨λao=>?_,λeY=>?_⟩
 ·obtain⟨c,hc,tc,_,ht⟩:=ae (l:=f.cO) (i:=i) (by omega);obtain⟨x,hx,hxn,Tr,Tq⟩:=zK hC hc;obtain⟨xn,xp,xk⟩:=x;simp only at hxn Tr Tq;subst hxn;subst Tr;obtain⟨b1,o,rfl,mO,aP⟩:=(iS.below eV).get hx;have c3:aB wx ⟨b1,o+i*3,none⟩ 0 3=some [str c.name,.int .i64 c.pos,bx xk]:=aj _ 0 (λj u hu=>by simpa[AD] using aP j u hu);have A3:bx xk=.pointer (some ⟨xk,0,none⟩):=rfl;rw[A3]at c3;push_cast -dsimp[c3];refine⟨⟨by omega,by omega⟩,?_⟩;refine aq (z:=[str [],.int .i64 0,.pointer none]) (by kernel_rfl) ?_;intro wa fy;have za:=fy.size;push_cast -dsimp;refine aH (n:=3) (by kernel_rfl) fy.aL rfl (by simp) (by simp[Value.oneCell',str]) ?_;intro wb dH;have zb:=dH.size;have j7:Below wx.heap.size wx wb:=fy.below.trans (dH.kept.below (by omega) (λi h=>by omega));have GR:=eV.trans (j7.mono eV.size);have Cb:aM wb wx.heap.size 137 [str c.name,.int .i64 c.pos,.pointer (some ⟨xk,0,none⟩)]:=dH.aL;have e0:wb.cell? ⟨wx.heap.size,0,none⟩=some (str c.name):=Cb.cell rfl;have e1:wb.cell? ⟨wx.heap.size,1,none⟩=some (.int .i64 c.pos):=Cb.cell rfl;have e2:wb.cell? ⟨wx.heap.size,2,none⟩=some (.pointer (some ⟨xk,0,none⟩)):=Cb.cell rfl;have hNb:=hNV.below j7;obtain⟨gb,hM,hA⟩:=hNb;have hf:=gA.find (n:=c.name) hA;have Wg:f.cO.drop i=c::f.cO.drop (i+1):=by rw[List.drop_eq_getElem?_toList_append,hc];rfl
  push_cast -dsimp[e0];rcases hf with ⟨f1,f2⟩|⟨s,u,f1,f2,hs,ha⟩
  ·refine pJ (kt:=9) (et:=139) (z:=.slice none 0 0) (by kernel_rfl) (nf (by kernel_rfl)) (by kernel_rfl) hM rfl f2 ?_;push_cast -dsimp[e2];have AS:eZ Xn wb (.pointer (some ⟨xk,0,none⟩)) c.kind:=(Tq.top.below GR).mono (Kept.refl (λ_=>False) wb) (λ_ h=>h.elim) (λb hb=>by
    rw[W0]at hb;rcases hb with hb|hb
    ·exact .inl hb.1
    exact .inr (by omega))
   refine aA (FG c.kind (bO c tc) nm ZY Xn _ w1.heap.size wb AS ⟨gb,hM,hA⟩) ?_;rintro r wd ⟨hK,pz⟩;have zd:=pz.size;have aJm:=GR.trans (pz.mono GR.size);have Cd:=Cb.below pz Cb.lt;have g0:wd.cell? ⟨wx.heap.size,0,none⟩=some (str c.name):=Cd.cell rfl;unfold cz at hK;cases hks:cD nm c.kind with
   | error e =>
    rw[hks]at hK;obtain⟨eb,Dd,rfl,hE⟩:=hK;push_cast -dsimp;refine⟨?_,aJm⟩;unfold nq;rw[qY,Wg,tJ,f1,hks];exact⟨_,rfl,eb,by omega,rfl,hE⟩
   | ok s =>
    rw[hks]at hK;obtain⟨v1,rfl,fx,MD⟩:=hK;have jV:=eW (k:=c.kind) ZY (bO c tc) hks;obtain⟨_,_,rfl,_⟩:=fx.shape;have hMd:=hM.below pz hM.lt;push_cast -dsimp[g0];refine jH (kt:=9) (et:=139) (by kernel_rfl) (nf (by kernel_rfl)) hMd rfl f2 ?_;intro we WV eR DG;have aNq:Below w.heap.size w we:=aJm.trans (eR.below (by omega) (λi h=>by omega));push_cast -dsimp;refine⟨⟨by omega,by omega⟩,⟨i+1,nm++[(c.name,s)],rfl,by omega,?_,⟨_,WV,?_⟩,KD ZY jV,aNq,by omega⟩,by rw[h15];simp only[intOf];omega⟩
    ·rw[qY,Wg,tJ,f1,hks];rfl
    refine dX.snoc (hA.imp λa b h=>⟨h.1,(h.2.1.below pz).kept eR (λi hi=>by rw[W0];exact .inr hi),h.2.2⟩) ⟨rfl,(fx.kept eR (λi hi=>?_)).weaken (λb hb=>?_),MD⟩
    ·exact⟨by rw[W0];exact .inr hi,by omega⟩
    refine⟨hb,?_⟩;rw[W0]at hb;rcases hb with hb|hb
    ·omega
    omega
  refine pK (kt:=9) (et:=139) (z:=.slice none 0 0) (by kernel_rfl) (nf (by kernel_rfl)) (by kernel_rfl) hM rfl f2 ?_;obtain⟨_,_,rfl,_⟩:=hs.shape;push_cast -dsimp;have e1d:wb.drew.cell? ⟨wx.heap.size,1,none⟩=some (.int .i64 c.pos):=e1;refine b8 (λw'=>w'.cell? ⟨wx.heap.size,1,none⟩=some (.int .i64 c.pos)) mixed (by kernel_rfl) e1 ?_;push_cast -dsimp[e1d];refine⟨λbB h=>by rw[h];exact rfl,?_⟩;refine aR ?_;intro wd iU;have iU:mj wb.drew wd 143 [.int .i64 9,.int .i64 c.pos]:=iU;have pz:Below wb.heap.size wb wd:=((Kept.refl (λ_=>False) wb).drew.below (Nat.le_refl _) (λ_ h=>h.elim)).trans iU.below;refine⟨(pz.cell (by show wx.heap.size<_;omega)).trans e1,?_⟩
  push_cast -dsimp;refine⟨?_,GR.trans (pz.mono GR.size)⟩;unfold nq;rw[qY,Wg,tJ,f1];exact⟨_,rfl,wb.heap.size,GR.size,rfl,iU.aL⟩
 refine⟨?_,eV⟩;rw[List.drop_of_length_le (by omega),gm]at qY;unfold nq;rw[qY];obtain⟨gb,hM,hA⟩:=hNV;exact⟨_,by omega,rfl,⟨gb,hM,hA.imp λa b h=>⟨h.1,h.2.1.weaken (λb hb=>by rw[W0];exact .inl hb),h.2.2⟩⟩,ZY⟩
theorem aDe (c:Bool)(n k n' k':Nat)(L:VP)(other:Prop)(p):cG 3 c .eql (.slice none n k) (.slice none n' k') L other p=L (.bool true):=by
 cases c<;>rfl
theorem aDf (c:Bool)(a:Addr)(n k n' k':Nat)(L:VP)(other:Prop)(p):cG 3 c .eql (.slice (some a) n k) (.slice none n' k') L other p=L (.bool false):=by
 cases c<;>rfl
theorem Vv:∀x,∀u∈Vc.pq x,u.oneCell'=true:=by simp[Vc.pq,Value.oneCell']
theorem aAe (l:List Int)(hl:l.length<1000000000)(X:Nat->Prop)(v:Value)(w:World)(hv:Sl X 1 (En Vc.pq) w v l)(ha:Arg v) :
  ar Tryz.prog 55 [v] w λr w'=>Vc.Own w.heap.size 3 1 Vc.pq w' r l/\Below w.heap.size w w':=by
 obtain⟨a,c,rfl,hc⟩:=hv.shape;refine aE Tryz.func55 rfl (by kernel_rfl) [2] rfl ?_;push_cast -dsimp(maxSteps:=9^7) [Tryz.ntmps55];cases a with
 | none =>
  obtain⟨h0,rfl⟩:=ha _ _ rfl;have:l=[]:=List.eq_nil_of_length_eq_zero h0;subst this;push_cast -dsimp[aDe];exact⟨Vc.Own.nil (enc:=Vc.pq) _ _ (λ_=>rfl) _,Below.refl _ _⟩
 | some ad =>
  push_cast -dsimp[aDf];refine cH bo rfl rfl (by omega) ?_;intro w1 aU;have uU:=aU.own (base:=w.heap.size) (k:=1) (n:=0) (enc:=Vc.pq) (l:=[]) rfl rfl (λ_=>rfl) (Nat.le_refl _) (by omega);have pY:=aU.size;push_cast -dsimp;refine lp (base:=w.heap.size) (enc:=Vc.pq) (ys:=l) bo uU (hv.below aU.below) (λn c h=>by cases h) Vv (by simp only[List.length_nil];omega) (by omega) ?_;intro v' w2 lF Cz dh;rw[List.nil_append]at lF;push_cast -dsimp;exact⟨lF,aU.below.trans dh⟩
theorem AF (l l':List Nat)(hl:l.length<10000000)(X X':Nat->Prop)(v v':Value)(w:World)(hv:Sl X 1 (En bH) w v l)(OU:Sl X' 1 (En bH) w v' l') :
  ar Tryz.prog 12 [v,v'] w λr w'=>r=.bool (decide (l=l'))/\Below w.heap.size w w':=by
 obtain⟨a,c,rfl,hc⟩:=hv.shape;obtain⟨a',c',rfl,hc'⟩:=OU.shape;refine aE Tryz.func12 rfl (by kernel_rfl) [4] rfl ?_;push_cast -dsimp(maxSteps:=9^7) [Tryz.ntmps12];refine⟨λcY=>⟨?_,Below.refl _ _⟩,λhe=>?_⟩
 ·rw[decide_eq_false];intro h;subst h;omega
 have OD:l.length=l'.length:=by omega
 refine aK [4,5,13,14,15,16,17,18,19,20,21,22,23,24,25] (λz wx=>∃(i:Nat),z 13=.int .i64 i/\i<=l.length/\l.take i=l'.take i/\Below w.heap.size w wx) (λz _=>l.length-(intOf (z 13)).toNat) ?_ ?_
 ·exact⟨0,rfl,Nat.zero_le _,rfl,Below.refl _ _⟩
 intro z wx hI;obtain⟨i,GF,hi,bO,hb⟩:=hI;push_cast -dsimp[GF];refine⟨λao=>?_,λeY=>?_⟩
 ·obtain⟨x,hx,mR,hd,ht⟩:=ae (l:=l) (i:=i) (by omega);obtain⟨b,o,rfl,hX,aP⟩:=(hv.below hb).get hx;obtain⟨x',G2,aKz,hd',OR⟩:=ae (l:=l') (i:=i) (by omega);obtain⟨b',o',rfl,hX',sq⟩:=(OU.below hb).get G2;refine b8 (λw'=>∀a,w'.cell? a=wx.cell? a) mixed (by kernel_rfl) (λ_=>rfl) ?_;have c0:wx.cell? ⟨b,o+i,none⟩=some (.int .i64 (x:Int)):=by simpa using aP 0 _ rfl
  have Pw:wx.cell? ⟨b',o'+i,none⟩=some (.int .i64 (x':Int)):=by simpa using sq 0 _ rfl
  have d0:wx.drew.cell? ⟨b,o+i,none⟩=some (.int .i64 (x:Int)):=c0;have d0':wx.drew.cell? ⟨b',o'+i,none⟩=some (.int .i64 (x':Int)):=Pw;push_cast -dsimp[d0,d0'];refine⟨⟨by omega,by omega⟩,λbB hC=>by rw[hC,c0];exact rfl,⟨by omega,by omega⟩,λbB hC=>by rw[hC,Pw];exact rfl,λcY=>?_,λheq=>?_⟩
  ·refine⟨?_,hb.drew⟩;rw[decide_eq_false];intro h;subst h;rw[hx]at G2;cases G2;exact cY rfl
  have heq:x=x':=by omega
  exact⟨⟨by omega,by omega⟩,⟨i+1,rfl,by omega,by rw[ht,OR,bO,heq],hb.drew⟩,by rw[GF];simp only[intOf];omega⟩
 refine⟨?_,hb⟩;rw[List.take_of_length_le (by omega),List.take_of_length_le (by omega)]at bO;rw[decide_eq_true bO]
end Go.Proofs.YtemjejfpadnljaaGreatDoor
namespace Cae
def usize (c:Nat):Nat:=if c<128 then 1 else if 194<=c/\c<224 then 2 else if 224<=c/\c<240 then 3 else if 240<=c/\c<245 then 4 else 0
theorem Bs (c:Nat):usize c<=4:=by unfold usize;grind
def ZI (n:Nat):Nat:=if n=2 then 128 else if n=3 then 2048 else if n=4 then 65536 else 0
def ph (n c:Nat):Nat:=if 1<n then c % 2 ^ (7-n) else c
def K6 (n p:Nat):Prop:=p<ZI n\/1114111<p\/(55296<=p/\p<57344)
instance (n p:Nat):Decidable (K6 n p):=by unfold K6;infer_instance
def LH:List UInt8->Nat->Option Nat
 | [],p=>some p
 | c::r,p=>if c.toNat / 64=2 then LH r (p*64+c.toNat % 64) else none
def eT (s:List UInt8):Nat×Nat:=match s with
 | []=>(0,0)
 | c::_ =>
  let n:=usize c.toNat
  if n=0\/s.length<n then (0,0) else
  match LH ((s.take n).drop 1) (ph n c.toNat) with
  | none=>(0,0)
  | some p=>if K6 n p then (0,0) else (p,n)
structure U where
 p:Nat
 at_:Nat
 n:Nat
 deriving DecidableEq
def fb (s:List UInt8):Nat×Nat:=if (eT s).2=0 then (65533,1) else eT s
theorem re (s:List UInt8):(eT s).2<=s.length/\(eT s).2<=4/\((eT s).2=0->eT s=(0,0))/\(eT s).1<=1114111:=by
 unfold eT;cases s with
 | nil=>simp
 | cons c s =>
  dsimp only;split
  ·simp
  rename_i h;have hu:=Bs c.toNat;have h1:usize c.toNat≠0:=λe=>h (.inl e);have h2:¬(c::s).length<usize c.toNat:=λe=>h (.inr e);split
  ·simp
  split
  ·simp
  rename_i hb;unfold K6 at hb;simp only[not_or,Nat.not_lt]at hb;exact⟨by omega,hu,λe=>absurd e h1,hb.2.1⟩
theorem oY (s:List UInt8):1<=(fb s).2/\(fb s).2<=4:=by
 unfold fb
 have:=re s;split<;>first|(simp;done)|(simp;omega)|omega
theorem Bt (s:List UInt8)(h:s≠[]):(fb s).2<=s.length:=by
 unfold fb
 have:=re s;have:0<s.length:=List.length_pos_iff.2 h;split<;>first|(simp;done)|(simp;omega)|omega
def j9 (at_:Nat)(s:List UInt8):List U :=
 if _h:s=[] then [] else ⟨(fb s).1,at_,(fb s).2⟩::j9 (at_+(fb s).2) (s.drop (fb s).2)
 termination_by s.length
 decreasing_by
  have h1:=oY s
  have h2:0<s.length:=List.length_pos_iff.2 (by assumption)
  simp
  omega
theorem rE (a:Nat):j9 a []=[]:=by rw[j9];simp
theorem r8 (a:Nat)(s:List UInt8)(h:s≠[]):j9 a s=⟨(fb s).1,a,(fb s).2⟩::j9 (a+(fb s).2) (s.drop (fb s).2):=by rw[j9];simp[h]
theorem xw (n:Nat):∀(s:List UInt8) (a:Nat),s.length=n->(j9 a s).length<=s.length:=by
 induction n using Nat.strongRecOn with
 | _ n ih =>
  intro s a hs;by_cases h:s=[]
  ·subst h;simp[rE]
  rw[r8 a s h];have h1:=oY s;have h2:=Bt s h
  have:=ih (s.drop (fb s).2).length (by rw[List.length_drop];omega) (s.drop (fb s).2) (a+(fb s).2) rfl;rw[List.length_drop]at this;simp only[List.length_cons];omega
def Om (p:Int):Prop:=0<=p/\p<=1114111/\¬(55296<=p/\p<57344)
instance (p:Int):Decidable (Om p):=by unfold Om;infer_instance
theorem K7 {c:UInt8}{s:List UInt8}(h0:usize c.toNat≠0)(hl:usize c.toNat<=(c::s).length)
  (h:LH (((c::s).take (usize c.toNat)).drop 1) (ph (usize c.toNat) c.toNat)=none):eT (c::s)=(0,0):=by
 unfold eT;dsimp only;rw[if_neg (by omega),h]
theorem K8 {c:UInt8}{s:List UInt8}{p:Nat}(h0:usize c.toNat≠0)(hl:usize c.toNat<=(c::s).length)
  (h:LH (((c::s).take (usize c.toNat)).drop 1) (ph (usize c.toNat) c.toNat)=some p) :
  eT (c::s)=if K6 (usize c.toNat) p then (0,0) else (p,usize c.toNat):=by
 unfold eT;dsimp only;rw[if_neg (by omega),h]
theorem ZJ {s:List UInt8}{n i p:Nat}{R:Option Nat}(hi:i<n)(hn:n<=s.length)(h:LH ((s.take n).drop i) p=R) :
  (if (s.getD i 0).toNat / 64=2 then LH ((s.take n).drop (i+1)) (p*64+(s.getD i 0).toNat % 64) else none)=R:=by
 have hl:i<(s.take n).length:=by rw[List.length_take];omega
 rw[List.drop_eq_getElem_cons hl,LH]at h;have e:(s.take n)[i]=s.getD i 0:=by
  rw[List.getElem_take,List.getD_eq_getElem?_getD,List.getElem?_eq_getElem (by omega)];rfl
 rw[e]at h;exact h
theorem aCT {s:List UInt8}{n i p:Nat}{R:Option Nat}(hi:n<=i)(h:LH ((s.take n).drop i) p=R):R=some p:=by
 rw[List.drop_eq_nil_of_le (by rw[List.length_take];omega)]at h;exact h.symm
theorem TZ {p i k:Nat}(h:p<256*64 ^ (i-1))(h1:1<=i)(hk:k<64):p*64+k<256*64 ^ (i+1-1):=by
 obtain⟨j,rfl⟩:∃j,i=j+1:=⟨i-1,by omega⟩;simp only[Nat.add_sub_cancel]at h ⊢
 rw[Nat.pow_succ];omega
theorem T0 {p i:Nat}(h:p<256*64 ^ (i-1))(hi:i<=4):p<67108865:=by
 have:64 ^ (i-1)<=64 ^ 3:=Nat.pow_le_pow_right (by omega) (by omega);omega
end Cae
namespace Go.Proofs.YtemjejfpadnljaaGreatDoor
open Go.Vc Go.Proofs Go.RowKit Cae
attribute [local irreducible] cZ ab ai aX runK ar Sl Vc.Own vc aS bu aZ
def p6 (w:World):Prop:=∀k:Nat,k<5->w.cell? ⟨0,k,none⟩=some (.int .i64 (ZI k))
theorem p6.below {w w':World}(h:p6 w)(hb:Below w.heap.size w w'):p6 w':=λk hk=>by
 have:=h k hk;exact(hb.cell (World.block_lt_of_cell? w _ this)).trans this
theorem aGL (c:Nat)(w:World):ar Tryz.prog 58 [.int .u8 c] w λv w'=>v=.int .i64 (usize c)/\w'=w:=by
 refine aE Tryz.func58 rfl (by kernel_rfl) [2] rfl ?_;push_cast -dsimp(maxSteps:=9^7) [Tryz.ntmps58];simp only[Value.int.injEq,usize];grind
theorem XW {n c:Nat}(hn:n<=4)(h1:1<n)(hc:c<256) :
  cE .and .i64 (IntKind.i64.wrap (c:Int)) (IntKind.i64.wrap (1*2 ^ min ((7:Int)-n).toNat IntKind.i64.bits)-1)=((ph n c:Nat):Int):=by
 have e:n=2\/n=3\/n=4:=by omega
 rw[cX (by omega)];rcases e with rfl|rfl|rfl
 ·rw[show IntKind.i64.wrap (1*2 ^ min ((7:Int)-(2:Nat)).toNat IntKind.i64.bits)-1=((2 ^ 5-1:Nat):Int) from by decide,lO (by omega) (by omega),mF];rfl
 ·rw[show IntKind.i64.wrap (1*2 ^ min ((7:Int)-(3:Nat)).toNat IntKind.i64.bits)-1=((2 ^ 4-1:Nat):Int) from by decide,lO (by omega) (by omega),mF];rfl
 rw[show IntKind.i64.wrap (1*2 ^ min ((7:Int)-(4:Nat)).toNat IntKind.i64.bits)-1=((2 ^ 3-1:Nat):Int) from by decide,lO (by omega) (by omega),mF];rfl
theorem K9 {n c:Nat}(hc:c<256):ph n c<256:=by
 unfold ph;split
 ·exact Nat.lt_of_le_of_lt (Nat.mod_le _ _) hc
 exact hc
theorem VQ (c:UInt8):cE .and .u8 (c.toNat:Int) 192=((c.toNat / 64*64:Nat):Int):=by
 have hc:=c.toNat_lt;rw[show (192:Int)=((192:Nat):Int) from rfl,qH hc (by omega)]
 congr 1;have:∀k:Nat,k<256->k &&& 192=k / 64*64:=by decide
 exact this _ hc
theorem aBM (c:UInt8):cE .and .u8 (c.toNat:Int) 63=((c.toNat % 64:Nat):Int):=by
 have hc:=c.toNat_lt;rw[show (63:Int)=((2 ^ 6-1:Nat):Int) from rfl,qH hc (by omega),mF]
theorem aBV {p c:Nat}(hp:p<2147483648) :
  cE .or .i64 (IntKind.i64.wrap ((p:Int)*2 ^ min (6:Int).toNat IntKind.i64.bits)) (IntKind.i64.wrap ((c % 64:Nat):Int))=((p*64+c % 64:Nat):Int):=by
 rw[aCv (k:=6) rfl (by omega) (by omega),cX (by omega),kB (by omega) (by omega),pP (by omega)]
theorem AI {c:UInt8}{s':List UInt8}{i p:Nat}(h1:¬(usize c.toNat:Int)=0)(h2:¬(s'.length:Int)+1<usize c.toNat)
  (OH:1<=i) (hp:p<256*64 ^ (i-1)) (OI:i<=usize c.toNat)
  (hr:LH (((c::s').take (usize c.toNat)).drop i) p=LH (((c::s').take (usize c.toNat)).drop 1) (ph (usize c.toNat) c.toNat)) :
  (i<usize c.toNat ->
   (cE .and .u8 (((c::s').getD i 0).toNat:Int) 192≠128->eT (c::s')=(0,0)) /\
   (¬cE .and .u8 (((c::s').getD i 0).toNat:Int) 192≠128->∃q:Nat,
    cE .or .i64 (IntKind.i64.wrap ((p:Int)*2 ^ min (6:Int).toNat IntKind.i64.bits)) (IntKind.i64.wrap (cE .and .u8 (((c::s').getD i 0).toNat:Int) 63))=(q:Int) /\
    q<256*64 ^ (i+1-1)/\LH (((c::s').take (usize c.toNat)).drop (i+1)) q=LH (((c::s').take (usize c.toNat)).drop 1) (ph (usize c.toNat) c.toNat))) /\
  (¬i<usize c.toNat->eT (c::s')=if K6 (usize c.toNat) p then (0,0) else (p,usize c.toNat)):=by
 have hu:=Bs c.toNat;have hl:usize c.toNat<=(c::s').length:=by simp only[List.length_cons];omega
 have h0:usize c.toNat≠0:=by omega
 refine⟨λao=>?_,λeY=>K8 h0 hl (aCT (by omega) hr)⟩;have dF:=ZJ ao hl hr;rw[VQ,aBM];generalize (c::s').getD i 0=x at dF ⊢
 refine⟨λhx=>?_,λhx=>?_⟩
 ·rw[if_neg (by omega)]at dF;exact K7 h0 hl dF.symm
 rw[if_pos (by omega)]at dF;exact⟨_,aBV (by have:=T0 hp (by omega);omega),TZ hp OH (Nat.mod_lt _ (by omega)),dF⟩
theorem aAu (s:List UInt8)(hs:s.length<1000000)(h0:s≠[])(w:World)(hg:p6 w) :
  ar Tryz.prog 32 [str s] w λv w'=>v=.tuple #[.int .i64 (eT s).1,.int .i64 (eT s).2]/\Below w.heap.size w w':=by
 obtain⟨c,s',rfl⟩:=List.exists_cons_of_ne_nil h0;have hl:0<((c::s').length:Int):=by simp
 refine aE Tryz.func32 rfl (by kernel_rfl) [2,3] rfl ?_;push_cast -dsimp(maxSteps:=9^7) [Tryz.ntmps32];refine⟨hl,?_⟩;refine aA (aGL _ w) ?_;rintro v w' ⟨rfl,rfl⟩;have hu:=Bs c.toNat;have hc:=c.toNat_lt;simp only[List.getD_cons_zero];push_cast -dsimp
 repeat' first|apply And.intro|intro _
 all_goals try exact hl
 all_goals try simp only[List.getD_cons_zero]
 all_goals try exact Below.refl _ _
 ·rename_i h1 h2;have e:eT (c::s')=(0,0):=by unfold eT;simp;intro h3;omega
  rw[e];rfl
 ·rename_i h1 h2 h3;refine b8 (λ_=>True) mixed (by kernel_rfl) trivial ?_;push_cast -dsimp;refine⟨by omega,by omega,by omega,?_,?_⟩
  ·have e:usize c.toNat=2\/usize c.toNat=3\/usize c.toNat=4:=by omega
   rcases e with e|e|e<;>rw[e]<;>decide
  simp only[List.getD_cons_zero];rw[XW hu (by omega) hc];refine aK [2,3,4,29,30,31,32,33,34,35,36,37,38,39,40,41,42,43,44,45,46] (λz wx=>∃i p:Nat,z 4=.int .i64 i/\z 2=.int .i64 p/\z 3=.int .i64 (usize c.toNat)/\1<=i/\i<=usize c.toNat/\p<256*64 ^ (i-1) /\
   LH (((c::s').take (usize c.toNat)).drop i) p=LH (((c::s').take (usize c.toNat)).drop 1) (ph (usize c.toNat) c.toNat)/\Below w'.heap.size w' wx) (λz _=>usize c.toNat-(intOf (z 4)).toNat) ?_ ?_
  ·exact⟨1,_,rfl,rfl,rfl,Nat.le_refl _,by omega,by simpa using K9 hc,rfl,(Below.refl _ _).drew⟩
  intro z wx hI;obtain⟨i,p,h4,WO,h3',OH,OI,hp,hr,hb⟩:=hI;have hgn:=(hg.below hb) (usize c.toNat) (by omega);push_cast -dsimp[h4,WO,h3',hgn];obtain⟨hA,hB⟩:=AI h1 h2 OH hp OI hr;refine⟨λao=>?_,λeY=>?_⟩
  ·obtain⟨hA1,hA2⟩:=hA (by omega);refine⟨⟨by omega,by omega⟩,λhx=>⟨by rw[hA1 hx];rfl,hb⟩,λhx=>?_⟩;obtain⟨q,MQ,hq2,hq3⟩:=hA2 hx;exact⟨⟨by omega,by omega⟩,⟨by omega,by omega⟩,⟨i+1,q,rfl,congrArg _ MQ,by omega,by omega,hq2,hq3,hb⟩,by simp only[intOf];omega⟩
  have hB:=hB (by omega);rw[hB];simp only[K6];refine⟨⟨by omega,by omega⟩,?_⟩
  repeat' first|apply And.intro|intro _
  all_goals first|exact hb|omega|skip
  all_goals grind
 ·rename_i h1 h2 h3;refine aK [2,3,4,29,30,31,32,33,34,35,36,37,38,39,40,41,42,43,44,45,46] (λz wx=>∃i p:Nat,z 4=.int .i64 i/\z 2=.int .i64 p/\z 3=.int .i64 (usize c.toNat)/\1<=i/\i<=usize c.toNat/\p<256*64 ^ (i-1) /\
   LH (((c::s').take (usize c.toNat)).drop i) p=LH (((c::s').take (usize c.toNat)).drop 1) (ph (usize c.toNat) c.toNat)/\Below w'.heap.size w' wx) (λz _=>usize c.toNat-(intOf (z 4)).toNat) ?_ ?_
  ·refine⟨1,_,rfl,?_,rfl,Nat.le_refl _,by omega,by simpa using K9 hc,rfl,Below.refl _ _⟩;have e:ph (usize c.toNat) c.toNat=c.toNat:=by unfold ph;rw[if_neg (by omega)]
   rw[e];exact congrArg _ (cX (by omega))
  intro z wx hI;obtain⟨i,p,h4,WO,h3',OH,OI,hp,hr,hb⟩:=hI;have hgn:=(hg.below hb) (usize c.toNat) (by omega);push_cast -dsimp[h4,WO,h3',hgn];obtain⟨hA,hB⟩:=AI h1 h2 OH hp OI hr;refine⟨λao=>?_,λeY=>?_⟩
  ·obtain⟨hA1,hA2⟩:=hA (by omega);refine⟨⟨by omega,by omega⟩,λhx=>⟨by rw[hA1 hx];rfl,hb⟩,λhx=>?_⟩;obtain⟨q,MQ,hq2,hq3⟩:=hA2 hx;exact⟨⟨by omega,by omega⟩,⟨by omega,by omega⟩,⟨i+1,q,rfl,congrArg _ MQ,by omega,by omega,hq2,hq3,hb⟩,by simp only[intOf];omega⟩
  have hB:=hB (by omega);rw[hB];simp only[K6];refine⟨⟨by omega,by omega⟩,?_⟩
  repeat' first|apply And.intro|intro _
  all_goals first|exact hb|omega|skip
  all_goals grind
 rename_i h1;have e:eT (c::s')=(0,0):=by unfold eT;simp;intro h3;omega
 rw[e];rfl
def FQ (u:U):List Value:=[.int .i64 u.p,.int .i64 u.at_,.int .i64 u.n]
theorem VZ (s:List UInt8)(hs:s.length<1000000)(w:World)(hg:p6 w) :
  ar Tryz.prog 18 [str s] w λv w'=>Vc.Own w.heap.size 55 3 FQ w' v (j9 0 s)/\Below w.heap.size w w':=by
 refine aE Tryz.func18 rfl (by kernel_rfl) [2] rfl ?_;push_cast -dsimp(maxSteps:=9^7) [Tryz.ntmps18];refine aK [3,4,5,6,7,8,9,10,11,12,13,14,15,16,17,18,19,20,21,22,23,24,25,26,27,28,29] (λz wx=>∃(i:Nat) (acc:List U),z 4=.int .i64 i/\i<=s.length/\acc.length<=i/\acc++j9 i (s.drop i)=j9 0 s /\
  Vc.Own w.heap.size 55 3 FQ wx (z 3) acc/\Below w.heap.size w wx) (λz _=>s.length-(intOf (z 4)).toNat) ?_ ?_
 ·exact⟨0,[],rfl,Nat.zero_le _,Nat.le_refl _,rfl,Vc.Own.nil (enc:=FQ) _ _ (λ_=>rfl) _,Below.refl _ _⟩
 intro z wx hI;obtain⟨i,acc,h4,hi,ha,hd,ho,hb⟩:=hI;push_cast -dsimp[h4];refine⟨λao=>⟨⟨by omega,by omega⟩,?_⟩,λeY=>?_⟩
 ·have cY:s.drop i≠[]:=by intro h;have:=congrArg List.length h;simp only[List.length_drop,List.length_nil]at this;omega
  refine aA (aAu (s.drop i) (by rw[List.length_drop];omega) cY wx (hg.below hb)) ?_;rintro v w1 ⟨rfl,fe⟩;push_cast -dsimp;have cJ:=Bt (s.drop i) cY;have sK:=oY (s.drop i);have hu:=re (s.drop i);have aDA:=r8 i (s.drop i) cY;refine⟨λh0=>?_,λh0=>?_⟩
  ·have e:fb (s.drop i)=(65533,1):=by unfold fb;rw[if_pos (by omega)]
   refine cH FO rfl rfl (by omega) ?_;intro w2 bJ;push_cast -dsimp;refine Nf (ys:=[⟨65533,i,1⟩]) (enc:=FQ) FO ((ho.below fe).below bJ.below) (λj u hu=>by simpa using bJ.cell hu) (by simp[FQ,Value.oneCell']) (by simp only[List.length_cons,List.length_nil];omega) (by have:=hb.size;have:=fe.size;have:=bJ.size;omega) ?_;intro v' w3 mP _ gV;push_cast -dsimp;refine⟨⟨by omega,by omega⟩,⟨i+1,_,rfl,by rw[List.length_drop]at cJ;rw[e]at cJ;(try dsimp only at cJ);omega,?_,?_,mP,
    (hb.trans (fe.mono hb.size)).trans ((bJ.below.mono (Nat.le_trans hb.size fe.size)).trans gV)⟩,?_⟩
   ·rw[e]at sK;simp only[List.length_append,List.length_cons,List.length_nil];(try dsimp only at sK);omega
   ·rw[<-hd,aDA,e,List.drop_drop,List.append_assoc];rfl
   rw[e]at sK;rw[h4];simp only[intOf];(try dsimp only at sK);omega
  have e:fb (s.drop i)=eT (s.drop i):=by unfold fb;rw[if_neg (by omega)]
  refine cH FO rfl rfl (by omega) ?_;intro w2 bJ;push_cast -dsimp;refine Nf (ys:=[⟨(eT (s.drop i)).1,i,(eT (s.drop i)).2⟩]) (enc:=FQ) FO ((ho.below fe).below bJ.below) (λj u hu=>by simpa using bJ.cell hu) (by simp[FQ,Value.oneCell']) (by simp only[List.length_cons,List.length_nil];omega) (by have:=hb.size;have:=fe.size;have:=bJ.size;omega) ?_;intro v' w3 mP _ gV;push_cast -dsimp;refine⟨⟨by omega,by omega⟩,⟨i+(eT (s.drop i)).2,_,rfl,by rw[List.length_drop]at cJ;rw[e]at cJ;(try dsimp only at cJ);omega,?_,?_,mP,
   (hb.trans (fe.mono hb.size)).trans ((bJ.below.mono (Nat.le_trans hb.size fe.size)).trans gV)⟩,?_⟩
  ·rw[e]at sK;simp only[List.length_append,List.length_cons,List.length_nil];(try dsimp only at sK);omega
  ·rw[<-hd,aDA,e,List.drop_drop,List.append_assoc];rfl
  rw[e]at sK;rw[h4];simp only[intOf];(try dsimp only at sK);omega
 have e:s.drop i=[]:=List.drop_eq_nil_of_le (by omega);rw[e,rE,List.append_nil]at hd;rw[<-hd];exact⟨ho,hb⟩
def aKU (us:List U):List Int:=us.map λu=>(u.p:Int)
def gj (nm:ba)(k:ax)(p:Int):Prop:=∃s,cD nm k=.ok s/\fA s p=true
structure Mr (X:Nat->Prop)(w:World)(rb mb:Nat)(us:List U)(nm:ba)(back:Bool):Prop where
 st:∃lv,aM w rb 148 [lv,.map (some mb),.bool back]/\Sl X 3 (En FQ) w lv us
 nv:gA X w mb nm
 rt:jM nm
 len:us.length<=1000
end Go.Proofs.YtemjejfpadnljaaGreatDoor
