/- Part. -/
import Derived.Test.YtemjejfpadnljaaGreatDoorM8
import Derived.Sort.Grow
import Derived.Shelf.Spec.SlicesGrow
import Derived.Shelf.SlSortCmp.WholeK
import Derived.Shelf.SlSortCmp.NoneTotal
import Derived.Shelf.Sort.Plain
import Derived.Shelf.Slices.CompactI
import Derived.Lib.SlicesCompact
import Derived.Ground.Names2Prog
import Derived.Lib.RowBridge
import Derived.Shelf.Slices.In.SortNone
set_option maxRecDepth 100000
set_option linter.unusedSimpArgs false
set_option linter.unusedVariables false
set_option maxHeartbeats 8000000
namespace Go.Proofs.YtemjejfpadnljaaGreatDoor
section
open Go.Vc Go.Proofs Go.RowKit Cae
attribute [local irreducible] dN ae ak aY runK aw Sl Vc.Own vc aV cJ a7
theorem da (w:World):Below w.heap.size w w.drew:=((Kept.refl (λ_=>False) w).drew).below (Nat.le_refl _) (λ_ h=>h.elim)
theorem fE.drew {X:Nat->Prop}{w:World}{k:bB}{v:Value}(h:fE X w v k):fE X w.drew v k :=
 h.mono (X:=X) ((Kept.refl (λ_=>False) w).drew) (λ_ h=>h.elim) (λ_ h=>h)
theorem aR.nth {X:Nat->Prop}{w:World}:∀{l:List aG} {vs:List Nat} {i:Nat} {x:aG},aR X w vs l->l[i]?=some x->∃u,vs[i]?=some u/\au X w (bx u) x
 | [],_,i,x,_,hx=>by simp at hx
 | _::_,[],_,_,h,_=>by simp only[aR]at h
 | y::l,v::vs,0,x,h,hx=>by
  simp only[aR]at h;cases hx;exact⟨v,rfl,h.1⟩
 | y::l,v::vs,i+1,x,h,hx=>by
  simp only[aR]at h;exact aR.nth (i:=i) h.2 (by simpa using hx)
theorem fz:∀{l:List aG} {x:aG},dE l->x∈l->bD x
 | y::l,x,h,hx=>by
  simp only[dE]at h;rcases List.mem_cons.1 hx with rfl|hx
  ·exact h.1
  exact fz h.2 hx
theorem kI.below {X:Nat->Prop}{w w':World}{v:Value}{f:dX}(h:kI X w v f)(hb:Below w.heap.size w w'):kI X w' v f:=by
 obtain⟨cv,rv,cs,rs,rfl,S1,S2,A1,A2⟩:=h;exact⟨cv,rv,cs,rs,rfl,S1.below hb,S2.below hb,A1.imp λa c h=>⟨h.1,h.2.1,h.2.2.below hb⟩,A2.imp λa c h=>⟨h.1,h.2.1,h.2.2.1.below hb,h.2.2.2.below hb⟩⟩
theorem KY (r:Rg)(p:Int)(w:World):aw Tryz.prog 127 [.agg #[.int .i64 r.1,.int .i64 r.2],.int .i64 p] w λv w'=>v=.int .i64 (if r.2<p then -1 else if p<r.1 then 1 else 0)/\Below w.heap.size w w':=by
 refine aD Tryz.func127 rfl (by kernel_rfl) [4] rfl ?_;push_cast -dsimp(maxSteps:=9^7) [Tryz.ntmps127];refine aS ?_;intro w1 aU;have c0:w1.cell? ⟨w.heap.size,0,none⟩=some (.int .i64 r.1):=aU.cell rfl;have c1:w1.cell? ⟨w.heap.size,1,none⟩=some (.int .i64 r.2):=aU.cell rfl;push_cast -dsimp[c0,c1];refine⟨λh=>?_,λh=>⟨λh2=>?_,λh2=>?_⟩⟩
 ·rw[if_pos h];exact⟨rfl,aU.below⟩
 ·rw[if_neg h,if_pos h2];exact⟨rfl,aU.below⟩
 rw[if_neg h,if_neg h2];exact⟨rfl,aU.below⟩
theorem aGV {s:List Rg}(hr:aO (-2) s=true){p:Int}{i:Nat}(h1:∀(k:Nat) (r:Rg),k<i->s[k]?=some r->r.2<p)(h2:∀(k:Nat) (r:Rg),i<=k->s[k]?=some r->¬r.2<p) :
  fO s p=match s[i]? with|some r=>decide (r.1<=p)|none=>false:=by
 unfold fO;cases hi:s[i]? with
 | none =>
  rw[List.any_eq_false];intro r hm;obtain⟨k,hk⟩:=List.getElem?_of_mem hm;have aq:=(List.getElem?_eq_some_iff.1 hk).1
  have:=List.getElem?_eq_none_iff.1 hi
  have:=h1 k r (by omega) hk;simp only[decide_eq_true_eq];omega
 | some r =>
  have rZ:=h2 i r (Nat.le_refl _) hi;by_cases hp:r.1<=p
  ·dsimp only;rw[decide_eq_true hp,List.any_eq_true];exact⟨r,List.mem_of_getElem? hi,by simp only[decide_eq_true_eq];omega⟩
  dsimp only;rw[decide_eq_false hp,List.any_eq_false];intro q hm;obtain⟨k,hk⟩:=List.getElem?_of_mem hm;simp only[decide_eq_true_eq];rcases Nat.lt_trichotomy k i with aq|heq|JQ
  ·have:=h1 k q aq hk;omega
  ·subst heq;rw[hi]at hk;cases hk;omega
  have:=(cM s (-2) hr i r hi).2.2.2 k q JQ hk
  have:=(cM s (-2) hr i r hi).2.1;omega
theorem aAA (s:List Rg)(hs:s.length<1000000000)(hr:aO (-2) s=true)(p:Int)(X:Nat->Prop)(v:Value)(w:World)(hv:Sl X 2 (En bF) w v s) :
  aw Tryz.prog 126 [v,.int .i64 p,.func (.func 127) #[] #[]] w λr w'=>(∃i:Int,r=.tuple #[.int .i64 i,.bool (fO s p)])/\Below w.heap.size w w':=by
 obtain⟨a,c,rfl,hc⟩:=hv.shape;refine aD Tryz.func126 rfl (by kernel_rfl) [6,7] rfl ?_;push_cast -dsimp(maxSteps:=9^7) [Tryz.ntmps126];refine aK [9,10,11,15,16,17,18,19,20,21,22,23,24,25,26,27,28,29,30,31,32,33,34] (λz wx=>∃(i j:Nat),z 9=.int .i64 i/\z 10=.int .i64 j/\i<=j/\j<=s.length/\(∀(k:Nat) (r:Rg),k<i->s[k]?=some r->r.2<p)/\(∀(k:Nat) (r:Rg),j<=k->s[k]?=some r->¬r.2<p)/\Below w.heap.size w wx) (λz _=>(intOf (z 10)).toNat-(intOf (z 9)).toNat) ?_ ?_
 ·refine⟨0,s.length,rfl,rfl,Nat.zero_le _,Nat.le_refl _,λk r hk=>absurd hk (by omega),λk r hk h=>?_,Below.refl _ _⟩
  have:=(List.getElem?_eq_some_iff.1 h).1;omega
 intro z wx hI;obtain⟨i,j,h9,uH,hij,hj,Ag,Ve,hb⟩:=hI;push_cast -dsimp[h9,uH];refine⟨λaq=>?_,λeo=>?_⟩
 ·have e:IntKind.i64.wrap ((IntKind.u64.wrap ((i:Int)+(j:Int))).fdiv (2 ^ min 1 IntKind.u64.bits))=(((i+j) / 2:Nat):Int):=by
   show IntKind.i64.wrap ((IntKind.u64.wrap ((i:Int)+(j:Int))).fdiv (2 ^ min (1:Int).toNat IntKind.u64.bits))=_
   rw[show (i:Int)+(j:Int)=((i+j:Nat):Int) by omega,fo,Nat.mod_eq_of_lt (by omega),As (k:=1) (kd:=.u64) rfl (by decide)]
   exact dJ (by omega)
  have j6:i<=(i+j) / 2:=by omega
  have dK:(i+j) / 2<j:=by omega
  generalize (i+j) / 2=m at e j6 dK;rw[e];obtain⟨x,hx,jJ,hdx,ht⟩:=ag (l:=s) (i:=m) (by omega);obtain⟨b,o,rfl,hX,aM⟩:=(hv.below hb).get hx;have c0:aB wx ⟨b,o+m*2,none⟩ 0 2=some [.int .i64 x.1,.int .i64 x.2]:=ao (bF x) 0 (λj u hu=>by simpa using aM j u hu);push_cast -dsimp[c0];refine⟨⟨by omega,by omega⟩,⟨by omega,by omega⟩,?_⟩;refine aA (KY x p wx) ?_;rintro _ w1 ⟨rfl,gS⟩;have oU:=hb.trans (gS.mono hb.size);push_cast -dsimp;refine⟨λvw=>⟨⟨by omega,by omega⟩,⟨m+1,j,rfl,rfl,by omega,hj,λk r hk Vj=>?_,Ve,oU⟩,?_⟩,λqB=>⟨⟨i,m,rfl,rfl,by omega,by omega,Ag,λk r hk Vj=>?_,oU⟩,?_⟩⟩
  ·have JX:x.2<p:=by
    by_cases h:x.2<p
    ·exact h
    rw[if_neg h]at vw;split at vw<;>omega
   rcases Nat.lt_or_ge k m with rW|aP7
   ·have:=(cM s (-2) hr k r Vj).2.2.2 m x rW hx
    have:=(cM s (-2) hr m x hx).2.1;omega
   have vB:k=m:=by omega
   subst vB;rw[hx]at Vj;cases Vj;exact JX
  ·rw[h9,uH];simp only[intOf];omega
  ·have JX:¬x.2<p:=by
    intro h;rw[if_pos h]at qB;omega
   rcases Nat.lt_or_ge m k with rW|aP7
   ·have:=(cM s (-2) hr m x hx).2.2.2 k r rW Vj
    have:=(cM s (-2) hr k r Vj).2.1;omega
   have vB:k=m:=by omega
   subst vB;rw[hx]at Vj;cases Vj;exact JX
  rw[h9,uH];simp only[intOf];omega
 have oA:j=i:=by omega
 subst oA;have Hi:=aGV hr Ag Ve;refine⟨λoh=>?_,λjV=>?_⟩
 ·obtain⟨x,hx,jJ,hdx,ht⟩:=ag (l:=s) (i:=j) (by omega);obtain⟨b,o,rfl,hX,aM⟩:=(hv.below hb).get hx;have c0:aB wx ⟨b,o+j*2,none⟩ 0 2=some [.int .i64 x.1,.int .i64 x.2]:=ao (bF x) 0 (λj u hu=>by simpa using aM j u hu);have wE:=Ve j x (Nat.le_refl _) hx;rw[hx]at Hi;push_cast -dsimp[c0];refine⟨⟨by omega,by omega⟩,aA (KY x p wx) ?_⟩;rintro _ w1 ⟨rfl,gS⟩;push_cast -dsimp;refine⟨⟨j,?_⟩,hb.trans (gS.mono hb.size)⟩;have aPr:fO s p=decide (x.1<=p):=by rw[Hi]
  have hdd:decide ((if p<x.1 then (1:Int) else 0)=0)=decide (x.1<=p):=by rw[decide_eq_decide];split<;>omega
  rw[aPr,if_neg wE,hdd]
 refine⟨⟨j,?_⟩,hb⟩;rw[Hi,List.getElem?_eq_none (by omega)]
theorem aFn (s:List Rg)(hs:s.length<1000000000)(hr:aO (-2) s=true)(p:Int)(X:Nat->Prop)(v:Value)(w:World)(hv:Sl X 2 (En bF) w v s) :
  aw Tryz.prog 90 [v,.int .i64 p] w λr w'=>r=.bool (fO s p)/\Below w.heap.size w w':=by
 refine aD Tryz.func90 rfl (by kernel_rfl) [4] rfl ?_;push_cast -dsimp(maxSteps:=9^7) [Tryz.ntmps90];refine aA (aAA s hs hr p X v w hv) ?_;rintro _ w1 ⟨⟨i,rfl⟩,hb⟩;push_cast -dsimp;exact hb
theorem XB (l:List Rg)(hl:l.length<1000000000)(X:Nat->Prop)(v:Value)(w:World)(hv:Sl X 2 (En bF) w v l)(ha:Arg v) :
  aw Tryz.prog 147 [v] w λr w'=>Vc.Own w.heap.size 208 2 bF w' r l/\Below w.heap.size w w':=by
 obtain⟨a,c,rfl,hc⟩:=hv.shape;refine aD Tryz.func147 rfl (by kernel_rfl) [2] rfl ?_;push_cast -dsimp(maxSteps:=9^7) [Tryz.ntmps147];cases a with
 | none =>
  obtain⟨h0,rfl⟩:=ha _ _ rfl;have:l=[]:=List.eq_nil_of_length_eq_zero h0;subst this;push_cast -dsimp[aOr];exact⟨Vc.Own.nil (enc:=bF) _ _ (λ_=>rfl) _,Below.refl _ _⟩
 | some ad =>
  push_cast -dsimp[aKk];refine cF QD rfl rfl (by omega) ?_;intro w1 aU;have vy:=aU.own (base:=w.heap.size) (k:=2) (n:=0) (enc:=bF) (l:=[]) rfl rfl (λ_=>rfl) (Nat.le_refl _) (by omega);have qw:=aU.size;push_cast -dsimp;refine mi (base:=w.heap.size) (enc:=bF) (ys:=l) QD vy (hv.below aU.below) (λn c h=>by cases h) jC (by simp only[List.length_nil];omega) (by omega) ?_;intro v' w2 ln EZ dt;rw[List.nil_append]at ln;push_cast -dsimp;exact⟨ln,aU.below.trans dt⟩
def XD (x y:Int):Int:=if x<y then -1 else if y<x then 1 else 0
theorem Q9 (x:Int)(w:World):aw Tryz.prog 175 [.int .i64 x] w λr w'=>r=.bool false/\w'=w:=by
 refine aD Tryz.func175 rfl (by kernel_rfl) [2] rfl ?_;push_cast -dsimp(maxSteps:=9^7) [Tryz.ntmps175];simp
theorem Ry (x y:Int)(w:World):aw Tryz.prog 150 [.int .i64 x,.int .i64 y] w λr w'=>r=.int .i64 (XD x y)/\w'=w:=by
 refine aD Tryz.func150 rfl (by kernel_rfl) [4] rfl ?_;push_cast -dsimp(maxSteps:=9^7) [Tryz.ntmps150];refine aA (Q9 x w) ?_;rintro _ w1 ⟨rfl,rfl⟩;push_cast -dsimp;refine aA (Q9 y w1) ?_;rintro _ w2 ⟨rfl,rfl⟩;push_cast -dsimp;unfold XD;refine⟨λh=>by rw[if_pos h],λh=>⟨λh2=>by rw[if_neg h,if_pos h2],λh2=>by rw[if_neg h,if_neg h2]⟩⟩
theorem Rw (x y:Rg)(w:World):aw Tryz.prog 149 [.agg #[.int .i64 x.1,.int .i64 x.2],.agg #[.int .i64 y.1,.int .i64 y.2]] w λr w'=>r=.int .i64 (XD x.1 y.1)/\∃os,w'=Go.Sort.grow w os:=by
 refine aD Tryz.func149 rfl (by kernel_rfl) [4] rfl ?_;push_cast -dsimp(maxSteps:=9^7) [Tryz.ntmps149];refine aS ?_;intro w1 aU;have qw:=aU.size;push_cast -dsimp;refine aS ?_;intro w2 bP;have EE:=bP.size;have c0:w2.cell? ⟨w.heap.size,0,none⟩=some (.int .i64 x.1):=(bP.below.cell (by show w.heap.size<w1.heap.size;omega)).trans (aU.cell rfl)
 have c1:w2.cell? ⟨w1.heap.size,0,none⟩=some (.int .i64 y.1):=bP.cell rfl;push_cast -dsimp[c0,c1];refine aA (Ry x.1 y.1 w2) ?_;rintro _ w3 ⟨rfl,rfl⟩;push_cast -dsimp;refine⟨_,by rw[bP.is,aU.is,Go.Sort.alloc_eq_grow,Go.Sort.alloc_eq_grow,Go.Sort.grow_grow]⟩
def FT:Go.Shelf.Ren:=⟨λ| 4=>151|n=>n,λ| 22=>139|25=>208|3=>3|4=>4|9=>9|20=>20|0=>0|2=>3|n=>n,λ| n=>n⟩
theorem aE5:Go.Proofs.Lays8.n4 Tryz.prog FT:={
 mixed:=by kernel_rfl
 f4:=⟨ "slices.Grow[caesura/api.Set,caesura/api.Range]",by decide,Tryz.func151.trans (congrArg some (by kernel_rfl))⟩
 t0:=Tryz.underlying0
 a0:=Tryz.isAgg0
 z0:=Tryz.sizeOf0
 v0:=Tryz.zeroValue0
 t3:=Tryz.underlying3
 a3:=Tryz.isAgg3
 z3:=Tryz.sizeOf3
 v3:=Tryz.zeroValue3
 t4:=Tryz.underlying4
 a4:=Tryz.isAgg4
 z4:=Tryz.sizeOf4
 v4:=Tryz.zeroValue4
 t9:=Tryz.underlying9
 a9:=Tryz.isAgg9
 z9:=Tryz.sizeOf9
 v9:=Tryz.zeroValue9
 t20:=Tryz.underlying20
 a20:=Tryz.isAgg20
 z20:=Tryz.sizeOf20
 v20:=Tryz.zeroValue20
 t22:=Tryz.underlying139
 a22:=Tryz.isAgg139
 z22:=Tryz.sizeOf139
 v22:=Tryz.zeroValue139 }
theorem aGw (n:Nat)(hn:n<1000000000)(w:World) :
  aw Tryz.prog 151 [.slice none 0 0,.int .i64 (n:Int)] w λr w'=>Vc.Own w.heap.size 208 2 bF w' r ([]:List Rg)/\Below w.heap.size w w':=by
 refine dB Tryz.func151 (by kernel_rfl) (by kernel_rfl) ?_;rcases Nat.eq_zero_or_pos n with h0|h0
 ·subst h0;refine Calls.mono (Any8.slices_Grow_room aE5 none 0 0 0 w (by omega) (by omega) (by omega) (by omega)) ?_;rintro e w' ⟨rfl,rfl⟩;exact⟨_,rfl,Vc.Own.nil (enc:=bF) _ _ (λ_=>rfl) _,Below.refl _ _⟩
 have he:=nE fe;obtain⟨hu,i,z,hi,hz,hk0,gn,OH,hk,hb0⟩:=he;refine Calls.mono (Any8.slices_Grow_grow aE5 i z hi hz (by omega) none 0 0 n [] w (by omega) (by omega) (by rw[gn];omega) (by omega) (by simp) (λ_=>rfl) (λa h=>by cases h)) ?_;rintro e w' ⟨rfl,rfl⟩;have hG:=grownCap_le_maxLen w (0+n) 0 208 (by unfold maxLen;omega);have hG2:=grownCap_ge w (0+n) 0 208;have hE:FT.t 25=208:=rfl;rw[hE];generalize grownCap w (0+n) 0 208=G at hG hG2;refine⟨_,rfl,Zm (λ_=>rfl) (Array.getElem?_push_size) hG ?_,?_⟩
 ·simp only[Array.size_append,size_zeroCells,OH,hk0];simp;omega
 exact⟨rfl,rfl,rfl,by show w.heap.size<=(w.heap.push _).size;rw[Array.size_push];omega,λi hi=>by show (w.heap.push _)[i]?=_;rw[Array.getElem?_push,if_neg (by omega)]⟩
end
section
open Go.Vc Go.Proofs Go.RowKit Cae Go.Sort
theorem aC3 {base:Nat}{e:TypeId}{w:World}{g n c:Nat}{l:List Rg}(h:Vc.Own base e 2 bF w (.slice (some ⟨g,0,none⟩) n c) l):HoldsK bF 2 w g 0 l.toArray:=by
 have ho:=Vc.Own.opened h rfl;obtain⟨cur,hB,hl,ht,_⟩:=ho;intro j hj;rw[size_flatK]at hj;rw[get_flatK _ _ _ _ hj];have Vf:j<l.length*2:=by simpa using hj
 have hi:j / 2<l.length:=by omega
 have hx:=List.getElem?_eq_getElem hi;have hu:(bF l[j / 2])[j % 2]?=some (bF l[j / 2])[j % 2]! := by
  rw[List.getElem!_eq_getElem?_getD];have aq:j % 2<(bF l[j / 2]).length:=by show j % 2<2;omega
  rw[List.getElem?_eq_getElem aq];rfl
 have h1:=lR h.2 l (j / 2) (j % 2) _ _ hx hu;rw[<-ht,List.getElem?_take,if_pos (by omega),show j / 2*2+j % 2=j by omega]at h1
 have e2:(l.toArray)[j / 2]! = l[j / 2]:=by simp[hi]
 rw[e2];refine⟨?_,?_⟩
 ·rw[cell_of_row w g _ cur.toArray e (0,0) hB,Nat.zero_add];simpa using h1
 have nz:w.heap[g]?=some (.cells cur.toArray e (0,0)):=hB;simp[World.frozen?,nz]
theorem aIx {base:Nat}{e:TypeId}{w:World}{ad:Addr}{n c:Nat}{l:List Rg}(h:Vc.Own base e 2 bF w (.slice (some ad) n c) l):∃g,ad=⟨g,0,none⟩:=by
 rcases h.1.2 with ⟨he,_⟩|⟨g,cap,cr,he,_⟩
 ·cases he
 cases he;exact⟨_,rfl⟩
theorem aAK {w':World}{g n c:Nat}{d':Array Rg}(hn:d'.size=n)(hc:n<=c)(hH':HoldsK bF 2 w' g 0 d'):Sl (λb=>(Value.slice (some ⟨g,0,none⟩) n c).ownBlock≠some b) 2 (En bF) w' (.slice (some ⟨g,0,none⟩) n c) d'.toList:=by
 subst hn;refine⟨_,c,by rw[Array.length_toList],by rw[Array.length_toList];exact hc,λi x hx=>⟨g,0,bF x,rfl,by simp[Value.ownBlock],rfl,λj u hu=>?_,rfl⟩⟩;have hi:=(List.getElem?_eq_some_iff.1 hx).1;rw[Array.length_toList]at hi;have hj:j<2:=(List.getElem?_eq_some_iff.1 hu).1;have h2:=(hH'.cell hi hj).1;have wE:d'[i]! = x:=by rw[getElem!_pos d' i hi];rw[Array.getElem?_toList,Array.getElem?_eq_getElem hi]at hx;cases hx;rfl
 rw[wE,List.getElem!_eq_getElem?_getD,hu]at h2;exact h2
end
section
open Go.Vc Go.Proofs Go.RowKit Cae
attribute [local irreducible] dN ae ak aY runK aw Sl Vc.Own vc aV cJ a7
open Go.Sort
def Uu:Go.Shelf.Ren:=⟨λ| 6=>148|15=>131|14=>174|28=>161|29=>162|20=>189|21=>190|22=>191|23=>192|24=>193|25=>194|26=>195|27=>196|46=>211|47=>177|48=>178|49=>212|50=>213|57=>222|n=>n,λ| 22=>138|24=>208|25=>232|3=>3|39=>133|0=>0|53=>168|55=>244|4=>4|46=>236|45=>235|50=>45|5=>5|9=>9|66=>258|70=>262|76=>272|77=>76|n=>n,λ| n=>n⟩
theorem aFU:Go.Proofs.SlLaysF0.n6 Tryz.prog Uu:={
 mixed:=by kernel_rfl
 f6:=⟨ "slices.SortFunc[[]caesura/api.Range,caesura/api.Range]",by decide,Tryz.func148.trans (congrArg some (by kernel_rfl))⟩
 f14:=⟨ "slices.pdqsortCmpFunc[caesura/api.Range]",by decide,Tryz.func174.trans (congrArg some (by kernel_rfl))⟩
 f15:=Tryz.func131.trans (congrArg some (by kernel_rfl))
 f20:=⟨ "slices.insertionSortCmpFunc[caesura/api.Range]",by decide,Tryz.func189.trans (congrArg some (by kernel_rfl))⟩
 f21:=⟨ "slices.heapSortCmpFunc[caesura/api.Range]",by decide,Tryz.func190.trans (congrArg some (by kernel_rfl))⟩
 f22:=⟨ "slices.breakPatternsCmpFunc[caesura/api.Range]",by decide,Tryz.func191.trans (congrArg some (by kernel_rfl))⟩
 f23:=⟨ "slices.choosePivotCmpFunc[caesura/api.Range]",by decide,Tryz.func192.trans (congrArg some (by kernel_rfl))⟩
 f24:=⟨ "slices.reverseRangeCmpFunc[caesura/api.Range]",by decide,Tryz.func193.trans (congrArg some (by kernel_rfl))⟩
 f25:=⟨ "slices.partialInsertionSortCmpFunc[caesura/api.Range]",by decide,Tryz.func194.trans (congrArg some (by kernel_rfl))⟩
 f26:=⟨ "slices.partitionEqualCmpFunc[caesura/api.Range]",by decide,Tryz.func195.trans (congrArg some (by kernel_rfl))⟩
 f27:=⟨ "slices.partitionCmpFunc[caesura/api.Range]",by decide,Tryz.func196.trans (congrArg some (by kernel_rfl))⟩
 f28:=Tryz.func161.trans (congrArg some (by kernel_rfl))
 f29:=Tryz.func162.trans (congrArg some (by kernel_rfl))
 f46:=⟨ "slices.siftDownCmpFunc[caesura/api.Range]",by decide,Tryz.func211.trans (congrArg some (by kernel_rfl))⟩
 f47:=Tryz.func177.trans (congrArg some (by kernel_rfl))
 f48:=Tryz.func178.trans (congrArg some (by kernel_rfl))
 f49:=⟨ "slices.medianAdjacentCmpFunc[caesura/api.Range]",by decide,Tryz.func212.trans (congrArg some (by kernel_rfl))⟩
 f50:=⟨ "slices.medianCmpFunc[caesura/api.Range]",by decide,Tryz.func213.trans (congrArg some (by kernel_rfl))⟩
 f57:=⟨ "slices.order2CmpFunc[caesura/api.Range]",by decide,Tryz.func222.trans (congrArg some (by kernel_rfl))⟩
 t0:=Tryz.underlying0
 a0:=Tryz.isAgg0
 z0:=Tryz.sizeOf0
 v0:=Tryz.zeroValue0
 t3:=Tryz.underlying3
 a3:=Tryz.isAgg3
 z3:=Tryz.sizeOf3
 v3:=Tryz.zeroValue3
 t4:=Tryz.underlying4
 a4:=Tryz.isAgg4
 z4:=Tryz.sizeOf4
 v4:=Tryz.zeroValue4
 t5:=Tryz.underlying5
 a5:=Tryz.isAgg5
 z5:=Tryz.sizeOf5
 v5:=Tryz.zeroValue5
 t9:=Tryz.underlying9
 a9:=Tryz.isAgg9
 z9:=Tryz.sizeOf9
 v9:=Tryz.zeroValue9
 t22:=Tryz.underlying138
 a22:=Tryz.isAgg138
 z22:=Tryz.sizeOf138
 v22:=Tryz.zeroValue138
 t25:=Tryz.underlying232
 a25:=Tryz.isAgg232
 z25:=Tryz.sizeOf232
 v25:=Tryz.zeroValue232
 t39:=Tryz.underlying133
 a39:=Tryz.isAgg133
 z39:=Tryz.sizeOf133
 v39:=Tryz.zeroValue133
 t45:=Tryz.underlying235
 a45:=Tryz.isAgg235
 z45:=Tryz.sizeOf235
 v45:=Tryz.zeroValue235
 t46:=Tryz.underlying236
 a46:=Tryz.isAgg236
 z46:=Tryz.sizeOf236
 v46:=Tryz.zeroValue236
 t50:=Tryz.underlying45
 a50:=Tryz.isAgg45
 z50:=Tryz.sizeOf45
 v50:=Tryz.zeroValue45
 t53:=Tryz.underlying168
 a53:=Tryz.isAgg168
 z53:=Tryz.sizeOf168
 v53:=Tryz.zeroValue168
 t55:=Tryz.underlying244
 a55:=Tryz.isAgg244
 z55:=Tryz.sizeOf244
 v55:=Tryz.zeroValue244
 t66:=Tryz.underlying258
 a66:=Tryz.isAgg258
 z66:=Tryz.sizeOf258
 v66:=Tryz.zeroValue258
 t70:=Tryz.underlying262
 a70:=Tryz.isAgg262
 z70:=Tryz.sizeOf262
 v70:=Tryz.zeroValue262
 t76:=Tryz.underlying272
 a76:=Tryz.isAgg272
 z76:=Tryz.sizeOf272
 v76:=Tryz.zeroValue272
 t77:=Tryz.underlying76
 a77:=Tryz.isAgg76
 z77:=Tryz.sizeOf76
 v77:=Tryz.zeroValue76 }
def XF (x y:Rg):Int:=XD x.1 y.1
theorem IS (x y:Rg):Go.Proofs.ltOf XF x y=decide (x.1<y.1):=by
 unfold Go.Proofs.ltOf XF XD;rw[decide_eq_decide];split
 ·simp[*]
 split<;>simp[*]
theorem aRH:SWO (Go.Proofs.ltOf XF) where
 irrefl x:=by rw[IS];simp
 trans x y z h1 h2:=by rw[IS]at *;simp at *;omega
 ntrans x y z h1 h2:=by rw[IS]at *;simp at *;omega
theorem XE (aL off size:Nat)(w:World):Go.Proofs.CmpLays Tryz.prog 149 #[] bF 2 XF aL off size w:=λm os dk hd x y=>by
 have h:=Gf (Rw x y (Go.Proofs.sortWorldK bF 2 w aL off m dk os));have e:#[Value.agg (bF x).toArray,Value.agg (bF y).toArray]++#[]=[Value.agg #[.int .i64 x.1,.int .i64 x.2],Value.agg #[.int .i64 y.1,.int .i64 y.2]].toArray:=rfl;rw[e];refine h.mono ?_;rintro e w' ⟨v,rfl,rfl,os',rfl⟩;exact⟨rfl,0,os',rfl⟩
theorem ON {w:World}{g n:Nat}{os:Array Obj}(d:Array Rg):Kept (λj=>j=g) w (Go.Proofs.sortWorldK bF 2 w g 0 n d os):=by
 refine⟨rfl,rfl,rfl,?_,λk hk cf=>?_⟩
 ·exact Go.Proofs.size_sortWorldK_c bF 2 w g 0 n d os
 unfold Go.Proofs.sortWorldK putRowK;rw[heap_grow_old _ _ (by simpa using hk)];simp[putRow,mapBlock,Go.Sort.ahead,Array.getElem?_modify,Ne.symm cf]
theorem aIJ (l:List Rg)(hl:l.length<1000000000)(base:Nat)(v:Value)(w:World)(ho:Vc.Own base 208 2 bF w v l)(hb:base<=w.heap.size) :
  aw Tryz.prog 148 [v,.func (.func 149) #[] #[]] w λr w'=>(∃m,m.Perm l/\BD m/\Sl (λb=>v.ownBlock≠some b) 2 (En bF) w' v m)/\Kept (λj=>v.ownBlock=some j) w w':=by
 refine dB Tryz.func148 (by kernel_rfl) (by kernel_rfl) ?_;cases hn:l with
 | nil =>
  subst hn;have eN:=ho.slice;obtain⟨a,c,rfl⟩:=eN;refine(AnyF.slices_SortFunc_none aFU a c (.func (.func 149) #[] #[]) w).mono ?_;rintro e w' ⟨rfl,rfl⟩;exact⟨_,rfl,⟨[],List.Perm.refl _,List.Pairwise.nil,Sl.nil _ _ _ _ _ _⟩,Kept.refl _ _⟩
 | cons y ys =>
  rw[<-hn];have qB:0<l.length:=by rw[hn];exact Nat.succ_pos _
  have eN:=ho.slice;obtain⟨a,c,rfl⟩:=eN;cases a with
  | none=>have:=ho.di _ _ rfl;omega
  | some ad =>
   have hg0:=aIx ho;obtain⟨g,rfl⟩:=hg0;have Ad:=ho.block g rfl;have hH:=aC3 ho;have qq:=AnyQ.slices_SortFunc aFU 2 Tryz.isAgg208 Tryz.sizeOf208 bF (λ_=>rfl) jC XF aRH 149 #[] g 0 c l.toArray w (λargs w=>cC Tryz.func149 (by kernel_rfl) (by kernel_rfl)) (XE g 0 l.toArray.size w) hH Ad.2 (by rw[List.size_toArray];omega);rw[List.size_toArray]at qq;refine Calls.mono qq ?_;rintro e w' ⟨rfl,d',n,os,hp,hs,rfl⟩;have ED:d'.size=l.length:=by have:=hp.1;simpa using this
   have aMb:d'.toList.Perm l:=by
    have:=hp.2.2;rw[Array.extract_eq_self_of_le (by omega),Array.extract_eq_self_of_le (by simp)]at this;simpa using this
   have hH':=Go.Proofs.holdsK_sortWorldK_c bF 2 w g 0 l.toArray d' n os hH Ad.2 (by simpa using ED);refine⟨_,rfl,⟨d'.toList,aMb,?_,?_⟩,(ON d').weaken (λi _ h=>by rw[h];rfl)⟩
   ·refine List.pairwise_iff_getElem.2 λi j hi hj hij=>?_;rw[Array.length_toList]at hi hj
    have:=hs i j (Nat.zero_le _) hij (by omega);rw[IS,decide_eq_false_iff_not]at this;simp only[getElem!_pos d' i hi,getElem!_pos d' j hj]at this;simp only[Array.getElem_toList];omega
   exact aAK ED ((ho.sl.shape).elim (λa h=>h.elim λc' h=>by cases h.1;exact h.2)) hH'
end
section
open Go.Vc Go.Proofs Go.RowKit Cae
attribute [local irreducible] dN ae ak aY runK aw Sl Vc.Own vc aV cJ a7
theorem aRz (l:List Rg)(hl:l.length<100000000)(X:Nat->Prop)(v:Value)(w:World)(hv:Sl X 2 (En bF) w v l)(ha:Arg v) :
  aw Tryz.prog 128 [v] w λr w'=>Vc.Own w.heap.size 208 2 bF w' r (setOf l)/\Below w.heap.size w w':=by
 obtain⟨a,c,rfl,hc⟩:=hv.shape;refine aD Tryz.func128 rfl (by kernel_rfl) [2] rfl ?_;push_cast -dsimp(maxSteps:=9^7) [Tryz.ntmps128];refine aA (XB l (by omega) X _ w hv ha) ?_;rintro v1 w1 ⟨vy,gS⟩;have qw:=gS.size;push_cast -dsimp;refine aA (aIJ l (by omega) w.heap.size v1 w1 vy qw) ?_;rintro r2 w2 ⟨⟨m,hp,hR,iC⟩,nh⟩;have EE:=nh.size;have hml:=hp.length_eq;have dt:Below w.heap.size w w2:=gS.trans (nh.below qw (λg h=>(vy.block g h).1));have eN:=vy.slice;obtain⟨va,vc,rfl⟩:=eN;have hof:=Up hp hR;have hgX:∃X1,X1=(λb=>(Value.slice va l.length vc).ownBlock≠some b):=⟨_,rfl⟩;obtain⟨X1,hX1⟩:=hgX;rw[<-hX1]at iC;have hX2:∀b,w2.heap.size<=b->X1 b:=λb hb=>by
  rw[hX1];intro h
  have:=(vy.block b h).2;omega
 push_cast -dsimp;refine aK [3,5,6,13,14,15,16,17,18,19,20,21,22,23,24,25,26,27,28,29,30,31,32,33,34,35,36,37,38,39,40,41,42,43,44,45,46,47,48,49,50,51,52,53,54,55,56,57,58,59,60,61,62] (λz wx=>∃(i:Nat) (ov:Value),z 13=.int .i64 i/\z 3=ov/\i<=l.length/\Vc.Own w2.heap.size 208 2 bF wx ov (jX (m.take i))/\Below w2.heap.size w2 wx) (λz _=>l.length-(intOf (z 13)).toNat) ?_ ?_
 ·refine⟨0,_,rfl,rfl,Nat.zero_le _,?_,Below.refl _ _⟩;rw[List.take_zero];exact Vc.Own.nil (enc:=bF) _ _ (λ_=>rfl) _
 intro z wx hI;obtain⟨i,ov,Hc,h3,hi,eU,bS⟩:=hI;have A5:=bS.size;push_cast -dsimp[Hc,h3];refine⟨λaq=>?_,λeo=>?_⟩
 ·have hg:=ag (l:=m) (i:=i) (by omega);obtain⟨x,hx,jJ,_⟩:=hg;have pG:=iC.below bS;rw[<-hml]at pG;have hg:=pG.get hx;obtain⟨b,o,rfl,kL,aM⟩:=hg;have cx:aB wx ⟨b,o+i*2,none⟩ 0 2=some [.int .i64 x.1,.int .i64 x.2]:=ao (bF x) 0 (λj u hu=>by simpa using aM j u hu);have S9:jX (m.take (i+1))=gX (jX (m.take i)) x:=by
   unfold jX;rw[List.take_add_one,hx,List.foldl_append];rfl
  have Vi:=Cr (m.take i);rw[List.length_take]at Vi;have eN:=eU.slice;obtain⟨oa,oc,rfl⟩:=eN;have Ae:∃out,jX (m.take i)=out:=⟨_,rfl⟩;obtain⟨out,jV⟩:=Ae;rw[jV]at eU S9 Vi;rw[jV];push_cast -dsimp[cx];refine⟨⟨by omega,by omega⟩,?_⟩;refine ah (z:=[.int .i64 0,.int .i64 0]) (by kernel_rfl) ?_;intro w3 dA;have PA:=dA.size;push_cast -dsimp;refine aI (n:=2) (by kernel_rfl) dA.aL rfl (by simp) (by simp[Value.oneCell']) ?_;intro w4 aj;have Mn:=aj.size;have c0:w4.cell? ⟨wx.heap.size,0,none⟩=some (.int .i64 x.1):=aj.aL.cell rfl;have c1:w4.cell? ⟨wx.heap.size,1,none⟩=some (.int .i64 x.2):=aj.aL.cell rfl;have hgl:∃lo,max x.1 0=lo:=⟨_,rfl⟩;obtain⟨lo,Ag⟩:=hgl;have TK:∃AS,min x.2 1114111=AS:=⟨_,rfl⟩;obtain⟨AS,Ve⟩:=TK;have aLX:(if 0>x.1 then 0 else x.1)=lo:=by rw[<-Ag];split<;>omega
  have aLR:(if 1114111<x.2 then 1114111 else x.2)=AS:=by rw[<-Ve];split<;>omega
  push_cast -dsimp[c0,c1,aLX,aLR];refine aC aj.aL (by simp) rfl ?_;intro w5 cG;have PC:w5.heap.size=w4.heap.size:=cG.size;push_cast -dsimp;refine aC cG.aL (by simp) rfl ?_;intro w6 bW;have MN:w6.heap.size=w5.heap.size:=bW.size;have hX6:aN w6 wx.heap.size 208 [.int .i64 lo,.int .i64 AS]:=bW.aL;have k6:Kept (λj=>j=wx.heap.size) wx w6:=(((Kept.new dA).trans aj.kept (λ_ _ h=>h)).trans cG.kept (λ_ _ h=>h)).trans bW.kept (λ_ _ h=>h);have rA:=eU.aH k6 (λg hg h=>by have:=eU.block g hg;omega);have lk:Below w2.heap.size w2 w6:=bS.trans (k6.below A5 (λ_ h=>by omega));have e0:w6.cell? ⟨wx.heap.size,0,none⟩=some (.int .i64 lo):=hX6.cell rfl;have e1:w6.cell? ⟨wx.heap.size,1,none⟩=some (.int .i64 AS):=hX6.cell rfl;push_cast -dsimp[e0,e1];refine⟨λJQ=>?_,λhle=>?_⟩
  ·have bm:gX out x=out:=by unfold gX;rw[Ag,Ve,if_pos (by omega)]
   rw[bm]at S9;rw[<-S9]at rA;exact⟨⟨by omega,by omega⟩,⟨i+1,_,rfl,by rw[S9],by omega,rA,lk⟩,by rw[Hc];simp only[intOf];omega⟩
  refine⟨⟨by omega,by omega⟩,?_⟩;cases hn:out.length with
  | zero =>
   have uN:out=[]:=List.eq_nil_of_length_eq_zero hn;subst uN;have bm:gX [] x=[]++[(lo,AS)]:=by unfold gX;rw[Ag,Ve,if_neg (by omega)];rfl
   refine bu (λw'=>w'=w6.drew) mixed (by kernel_rfl) rfl ?_;push_cast -dsimp;rw[bm]at S9;have d7:aB w6.drew ⟨wx.heap.size,0,none⟩ 0 2=some [.int .i64 lo,.int .i64 AS]:=hX6.drew.aB;push_cast -dsimp[d7];refine cF fe rfl rfl (by omega) ?_;intro w7 fQ;have MO:w7.heap.size=w6.heap.size+1:=fQ.size;have nM:=(rA.aH (Kept.refl (λ_=>False) _).drew (λ_ _ h=>h)).new fQ;push_cast -dsimp;refine aP (base:=w2.heap.size) [(lo,AS)] (enc:=bF) fe nM (by rfl) (λj u hu=>by simpa[bF] using fQ.cell hu) jC (by simp only[List.length_cons,List.length_nil];omega) (by omega) ?_;intro v8 w8 sd E0 hn8;have k8:Kept (λj=>(Value.slice oa ([]:List Rg).length oc).ownBlock=some j) w6 w8:=(((Kept.refl _ w6).drew).trans (Kept.new (X:=λj=>(Value.slice oa ([]:List Rg).length oc).ownBlock=some j) fQ) (λ_ _ h=>h)).trans (Kept.grown E0 (λ_ h=>h)) (λ_ _ h=>h);rw[<-S9]at sd;push_cast -dsimp;exact⟨⟨by omega,by omega⟩,⟨i+1,_,rfl,rfl,by omega,sd,lk.trans (k8.below (by omega) (λg h=>(rA.block g h).1))⟩,by rw[Hc];simp only[intOf];omega⟩
  | succ n =>
   have e6:((n:Nat):Int)+1-1=((n:Nat):Int):=by omega
   have hq:=List.getElem?_eq_getElem (l:=out) (i:=n) (by omega);have Eb:∃q,out[n]'(by omega)=q:=⟨_,rfl⟩;obtain⟨q,hqe⟩:=Eb;rw[hqe]at hq;have Bu:out.getLast?=some q:=by rw[List.getLast?_eq_getElem?,hn];exact hq
   have hinv:=(ud i m hR (by omega)).1.right;rw[jV]at hinv;have hqr:=cM out (-2) hinv n q hq;have hg:=rA.sl.get hq;obtain⟨g,o',rfl,_,hcq⟩:=hg;have ho0:o'=0:=Vc.Own.aOd rA;subst ho0;have c2:w6.drew.cell? ⟨g,n*2+1,none⟩=some (.int .i64 q.2):=by have:=hcq 1 _ rfl;simpa using this
   have f0:w6.drew.cell? ⟨wx.heap.size,0,none⟩=some (.int .i64 lo):=e0;have f1:w6.drew.cell? ⟨wx.heap.size,1,none⟩=some (.int .i64 AS):=e1;have L:∀{ad:Addr} {u:Value},w6.drew.cell? ad=some u->∀bQ:World,bQ=w6.drew->pP (bQ.cell? ad) (λx=>x=u) .mk:=λh bQ e=>by rw[e,h];exact rfl
   refine bu (λw'=>w'=w6.drew) mixed (by kernel_rfl) rfl ?_;push_cast -dsimp[e6,f0,c2];rw[hn]at rA;refine⟨λ_=>⟨L f0,⟨by omega,by omega⟩,L c2,⟨by omega,by omega⟩,λhm=>?_,λhm=>?_⟩,λh=>absurd (Int.natCast_nonneg n) h⟩
   ·have bm:gX out x=out.set n (q.1,max q.2 AS):=by
     unfold gX;rw[Ag,Ve,if_neg (by omega),Bu];dsimp only;rw[if_pos hm,List.dropLast_eq_take,hn,List.set_eq_take_append_cons_drop,if_pos (by omega),List.drop_eq_nil_of_le (by omega)];rfl
    rw[bm]at S9;have L2:∀{ad:Addr} {u:Value},w6.drew.drew.cell? ad=some u->∀bQ:World,bQ=w6.drew.drew->pP (bQ.cell? ad) (λx=>x=u) .mk:=λh bQ e=>by rw[e,h];exact rfl
    have c2':w6.drew.drew.cell? ⟨g,n*2+1,none⟩=some (.int .i64 q.2):=c2;have f1':w6.drew.drew.cell? ⟨wx.heap.size,1,none⟩=some (.int .i64 AS):=f1;have hmx:(if AS>q.2 then AS else q.2)=max q.2 AS:=by split<;>omega
    refine eC (λw'=>w'=w6.drew.drew) mixed (by kernel_rfl) (List.cons_ne_nil _ _) rfl ?_;push_cast -dsimp[c2',f1',hmx];refine⟨⟨by omega,by omega⟩,L2 c2',L2 f1',⟨by omega,by omega⟩,?_⟩;have Ei:=rA.aH ((Kept.refl (λ_=>False) _).drew.drew) (λ_ _ h=>h);refine gR (i:=n) (f:=1) (y:=(q.1,max q.2 AS)) Ei rfl hq (by omega) rfl rfl ?_;intro w8 sd Vg sz8;have k8:Kept (λj=>j=g) w6 w8:=((Kept.refl (λj=>j=g) w6).drew.drew).trans Vg (λ_ _ h=>h);have Ad:=(rA.block g rfl).1;refine⟨trivial,?_⟩;push_cast -dsimp;rw[<-S9]at sd;exact⟨⟨by omega,by omega⟩,⟨i+1,_,rfl,rfl,by omega,sd,lk.trans (k8.below (by omega) (λj h=>by omega))⟩,by rw[Hc];simp only[intOf];omega⟩
   have bm:gX out x=out++[(lo,AS)]:=by
    unfold gX;rw[Ag,Ve,if_neg (by omega),Bu];dsimp only;rw[if_neg hm]
   rw[bm]at S9;have d7:aB w6.drew ⟨wx.heap.size,0,none⟩ 0 2=some [.int .i64 lo,.int .i64 AS]:=hX6.drew.aB;push_cast -dsimp[d7];refine cF fe rfl rfl (by omega) ?_;intro w7 fQ;have MO:w7.heap.size=w6.heap.size+1:=fQ.size;have nM:=(rA.aH (Kept.refl (λ_=>False) _).drew (λ_ _ h=>h)).new fQ;push_cast -dsimp;refine aP (base:=w2.heap.size) [(lo,AS)] (enc:=bF) fe nM (by rfl) (λj u hu=>by simpa[bF] using fQ.cell hu) jC (by simp only[List.length_cons,List.length_nil];omega) (by omega) ?_;intro v8 w8 sd E0 hn8;have k8:Kept (λj=>(Value.slice (some ⟨g,0,none⟩) (n+1) oc).ownBlock=some j) w6 w8:=(((Kept.refl _ w6).drew).trans (Kept.new (X:=λj=>(Value.slice (some ⟨g,0,none⟩) (n+1) oc).ownBlock=some j) fQ) (λ_ _ h=>h)).trans (Kept.grown E0 (λ_ h=>h)) (λ_ _ h=>h);rw[<-S9]at sd;push_cast -dsimp;exact⟨⟨by omega,by omega⟩,⟨i+1,_,rfl,rfl,by omega,sd,lk.trans (k8.below (by omega) (λg h=>(rA.block g h).1))⟩,by rw[Hc];simp only[intOf];omega⟩
 have oh:i=m.length:=by omega
 subst oh;have eN:=eU.slice;obtain⟨oa,oc,rfl⟩:=eN;rw[List.take_length,hof]at eU;rw[List.take_length,hof];exact⟨eU.mono (by omega),dt.trans (bS.mono (by omega))⟩
theorem LY (s:List Rg)(hs:s.length<100000000)(hr:aO (-2) s=true)(X:Nat->Prop)(v:Value)(w:World)(hv:Sl X 2 (En bF) w v s) :
  aw Tryz.prog 92 [v] w λr w'=>Vc.Own w.heap.size 208 2 bF w' r (iQ s)/\Below w.heap.size w w':=by
 obtain⟨a,c,rfl,hc⟩:=hv.shape;refine aD Tryz.func92 rfl (by kernel_rfl) [2] rfl ?_;push_cast -dsimp(maxSteps:=9^7) [Tryz.ntmps92];refine aK [3,4,6,9,10,11,12,13,14,15,16,17,18,19,20,21,22,23,24,25,26,27,28] (λz wx=>∃(i:Nat) (f:Int) (out:List Rg) (ov:Value),z 9=.int .i64 i/\z 4=.int .i64 f/\z 3=ov/\i<=s.length/\0<=f/\f<=1114112/\out.length<=i/\out++pM f (s.drop i)=iQ s/\Vc.Own w.heap.size 208 2 bF wx ov out/\Below w.heap.size w wx) (λz _=>s.length-(intOf (z 9)).toNat) ?_ ?_
 ·exact⟨0,0,[],_,rfl,rfl,rfl,Nat.zero_le _,by omega,by omega,Nat.le_refl _,rfl,Vc.Own.nil (enc:=bF) _ _ (λ_=>rfl) _,Below.refl _ _⟩
 intro z wx hI;obtain⟨i,f,out,ov,h9,h4,h3,hi,hf0,hf1,Vi,jV,eU,bS⟩:=hI;have A5:=bS.size;push_cast -dsimp[h9,h4,h3];refine⟨λaq=>?_,λeo=>?_⟩
 ·have hg:=ag (l:=s) (i:=i) (by omega);obtain⟨x,hx,jJ,hdx,_⟩:=hg;have hb:=cM s (-2) hr i x hx;obtain⟨b1,b2,b3,_⟩:=hb;have hg:=(hv.below bS).get hx;obtain⟨b,o,rfl,kL,aM⟩:=hg;have cx:aB wx ⟨b,o+i*2,none⟩ 0 2=some [.int .i64 x.1,.int .i64 x.2]:=ao (bF x) 0 (λj u hu=>by simpa using aM j u hu);have eN:=eU.slice;obtain⟨oa,oc,rfl⟩:=eN;rw[hdx,pM]at jV;push_cast -dsimp[cx];refine⟨⟨by omega,by omega⟩,?_⟩;refine ah (z:=[.int .i64 0,.int .i64 0]) (by kernel_rfl) ?_;intro w3 dA;have PA:=dA.size;push_cast -dsimp;refine aI (n:=2) (by kernel_rfl) dA.aL rfl (by simp) (by simp[Value.oneCell']) ?_;intro w4 aj;have Mn:w4.heap.size=w3.heap.size:=aj.size;have c0:w4.cell? ⟨wx.heap.size,0,none⟩=some (.int .i64 x.1):=aj.aL.cell rfl;have c1:w4.cell? ⟨wx.heap.size,1,none⟩=some (.int .i64 x.2):=aj.aL.cell rfl;have k4:Kept (λj=>j=wx.heap.size) wx w4:=(Kept.new dA).trans aj.kept (λ_ _ h=>h);have ly:=eU.aH k4 (λg hg h=>by have:=eU.block g hg;omega);have kK:Below w.heap.size w w4:=bS.trans (k4.below A5 (λ_ h=>by omega));push_cast -dsimp[c0,c1];refine⟨λaq=>?_,λeo=>?_⟩
  ·rw[if_pos aq,<-List.append_assoc]at jV;refine⟨⟨by omega,by omega⟩,?_⟩;refine cF fe rfl rfl (by omega) ?_;intro w7 fQ;have MO:=fQ.size;have nM:=ly.new fQ;push_cast -dsimp;refine aP (base:=w.heap.size) [(f,x.1-1)] (enc:=bF) fe nM (by rfl) (λj u hu=>by simpa[bF] using fQ.cell hu) jC (by simp only[List.length_cons,List.length_nil];omega) (by omega) ?_;intro v8 w8 sd E0 hn8;have k8:Kept (λj=>(Value.slice oa out.length oc).ownBlock=some j) w4 w8:=(Kept.new (X:=λj=>(Value.slice oa out.length oc).ownBlock=some j) fQ).trans (Kept.grown E0 (λ_ h=>h)) (λ_ _ h=>h);have j5:Below w.heap.size w w8:=kK.trans (k8.below (by omega) (λg h=>(ly.block g h).1));have d1:w8.cell? ⟨wx.heap.size,1,none⟩=some (.int .i64 x.2):=k8.cell c1 (λh=>by have h2:w.heap.size<=wx.heap.size/\wx.heap.size<wx.heap.size:=eU.block _ h;omega);push_cast -dsimp[d1];exact⟨⟨by omega,by omega⟩,⟨by omega,by omega⟩,⟨i+1,x.2+1,out++[(f,x.1-1)],_,rfl,rfl,rfl,by omega,by omega,by omega,by rw[List.length_append,List.length_singleton];omega,jV,sd,j5⟩,by rw[h9];simp only[intOf];omega⟩
  rw[if_neg (by omega),List.nil_append]at jV;exact⟨⟨by omega,by omega⟩,⟨by omega,by omega⟩,⟨i+1,x.2+1,out,_,rfl,rfl,rfl,by omega,by omega,by omega,by omega,jV,ly,kK⟩,by rw[h9];simp only[intOf];omega⟩
 have oh:i=s.length:=by omega
 subst oh;have eN:=eU.slice;obtain⟨oa,oc,rfl⟩:=eN;rw[List.drop_length,pM]at jV;refine⟨λhle=>?_,λJQ=>?_⟩
 ·rw[if_pos hle]at jV;refine cF fe rfl rfl (by omega) ?_;intro w7 fQ;have MO:=fQ.size;have nM:=eU.new fQ;push_cast -dsimp;refine aP (base:=w.heap.size) [(f,1114111)] (enc:=bF) fe nM (by rfl) (λj u hu=>by simpa[bF] using fQ.cell hu) jC (by simp only[List.length_cons,List.length_nil];omega) (by omega) ?_;intro v8 w8 sd E0 hn8;have k8:Kept (λj=>(Value.slice oa out.length oc).ownBlock=some j) wx w8:=(Kept.new (X:=λj=>(Value.slice oa out.length oc).ownBlock=some j) fQ).trans (Kept.grown E0 (λ_ h=>h)) (λ_ _ h=>h);rw[jV]at sd;push_cast -dsimp;exact⟨sd,bS.trans (k8.below A5 (λg h=>(eU.block g h).1))⟩
 rw[if_neg (by omega),List.append_nil]at jV;subst jV;exact⟨eU,bS⟩
theorem Aa {α β:Type}(L:List α)(f:α->List β)(i:Nat):((L.take i).flatMap f).length<=(L.flatMap f).length:=by
 conv=>rhs;rw[<-List.take_append_drop i L,List.flatMap_append,List.length_append]
 omega
theorem XI (Ls:List (Value×List Rg))(hl:(Ls.flatMap (·.2)).length<100000000)(hn:Ls.length<1000000)(X:Nat->Prop)(g c:Nat)(hc:Ls.length<=c)(w:World)
  (hv:∀(i:Nat) (p:Value×List Rg),Ls[i]?=some p->w.cell? ⟨g,i,none⟩=some p.1/\Sl X 2 (En bF) w p.1 p.2/\Arg p.1) :
  aw Tryz.prog 129 [.slice (some ⟨g,0,none⟩) Ls.length c] w λr w'=>Vc.Own w.heap.size 208 2 bF w' r (Ls.flatMap (·.2))/\Below w.heap.size w w':=by
 refine aD Tryz.func129 rfl (by kernel_rfl) [2] rfl ?_;push_cast -dsimp(maxSteps:=9^7) [Tryz.ntmps129];refine aK [3,5,11,12,13,14,15,16,17,18,19,20,21,22] (λz wx=>∃(i:Nat),z 11=.int .i64 i/\z 3=.int .i64 (((Ls.take i).flatMap (·.2)).length:Nat)/\i<=Ls.length/\wx=w) (λz _=>Ls.length-(intOf (z 11)).toNat) ?_ ?_
 ·exact⟨0,rfl,rfl,Nat.zero_le _,rfl⟩
 intro z wx hI;obtain⟨i,Xw,h3,hi,rfl⟩:=hI;have jE:=Aa Ls (·.2) i;have aPE:=Aa Ls (·.2) (i+1);push_cast -dsimp[Xw,h3];refine⟨λaq=>?_,λeo=>?_⟩
 ·have hg:=ag (l:=Ls) (i:=i) (by omega);obtain⟨p,hp,_,_,ht⟩:=hg;have hvp:=hv i p hp;obtain⟨c0,hs,hA⟩:=hvp;have Rt:=c0;have e1:((Ls.take (i+1)).flatMap (·.2)).length=((Ls.take i).flatMap (·.2)).length+p.2.length:=by
   rw[ht,List.flatMap_append,List.length_append];simp
  have eN:=hs.shape;obtain⟨pa,pc,hpv,wC⟩:=eN;rw[hpv]at Rt;push_cast -dsimp[Rt];refine⟨⟨by omega,by omega⟩,⟨by omega,by omega⟩,λh=>absurd h (by omega),λ_=>⟨⟨by omega,by omega⟩,⟨i+1,rfl,by rw[e1,Int.natCast_add],by omega⟩,by rw[Xw];simp only[intOf];omega⟩⟩
 have oh:i=Ls.length:=by omega
 subst oh;rw[List.take_length];refine aA (aGw _ (by omega) wx) ?_;rintro v1 w1 ⟨vy,gS⟩;have qw:=gS.size;push_cast -dsimp;refine aK [6,8,27,28,29,30,31,32,33,34] (λz w2=>∃(i:Nat) (ov:Value),z 27=.int .i64 i/\z 6=ov/\i<=Ls.length/\Vc.Own wx.heap.size 208 2 bF w2 ov ((Ls.take i).flatMap (·.2))/\Below wx.heap.size wx w2) (λz _=>Ls.length-(intOf (z 27)).toNat) ?_ ?_
 ·exact⟨0,_,rfl,rfl,Nat.zero_le _,vy,gS⟩
 intro y w2 hJ;obtain⟨i,ov,h27,h6,hi,ln,dt⟩:=hJ;have EE:=dt.size;have jE:=Aa Ls (·.2) i;have aPE:=Aa Ls (·.2) (i+1);push_cast -dsimp[h27,h6];refine⟨λaq=>?_,λeo=>?_⟩
 ·have hg:=ag (l:=Ls) (i:=i) (by omega);obtain⟨p,hp,_,_,ht⟩:=hg;have hvp:=hv i p hp;obtain⟨c0,hs,hA⟩:=hvp;have Rt:w2.cell? ⟨g,i,none⟩=some p.1:=(dt.cell (World.block_lt_of_cell? _ _ c0)).trans c0;have eN:=hs.shape;obtain⟨pa,pc,hpv,wC⟩:=eN;rw[hpv]at Rt hs hA;have e1:(Ls.take (i+1)).flatMap (·.2)=(Ls.take i).flatMap (·.2)++p.2:=by
   rw[ht,List.flatMap_append];simp
  have e2:=congrArg List.length e1;rw[List.length_append]at e2;have eN:=ln.slice;obtain⟨oa,oc,rfl⟩:=eN;push_cast -dsimp[Rt];refine⟨⟨by omega,by omega⟩,?_⟩;refine mi (base:=wx.heap.size) (enc:=bF) (ys:=p.2) fe ln (hs.below dt) hA jC (by omega) (by omega) ?_;intro v3 w3 nL QQ gB;rw[<-e1]at nL;push_cast -dsimp;exact⟨⟨by omega,by omega⟩,⟨i+1,_,rfl,rfl,by omega,nL,dt.trans gB⟩,by rw[h27];simp only[intOf];omega⟩
 have oh:i=Ls.length:=by omega
 subst oh;rw[List.take_length]at ln;have eN:=ln.slice;obtain⟨oa,oc,rfl⟩:=eN;exact⟨ln,dt⟩
theorem aMS (s t:List Rg)(hs:s.length<10000000)(ht:t.length<10000000)(X:Nat->Prop)(va vb:Value)(w:World)(Yo:Sl X 2 (En bF) w va s)(OD:Sl X 2 (En bF) w vb t)(hA:Arg va)(hB:Arg vb) :
  aw Tryz.prog 93 [va,vb] w λr w'=>Vc.Own w.heap.size 208 2 bF w' r (D1 s t)/\Below w.heap.size w w':=by
 have eN:=Yo.shape;obtain⟨a1,c1,e1,_⟩:=eN;have eN:=OD.shape;obtain⟨a2,c2,e2,_⟩:=eN;refine aD Tryz.func93 rfl (by kernel_rfl) [4] rfl ?_;push_cast -dsimp(maxSteps:=9^7) [Tryz.ntmps93];refine cF nw (by rw[e1,e2];rfl) rfl (by omega) ?_;intro w1 aU;have qw:=aU.size;have d0:=aU.cell (j:=0) (u:=va) (by rw[e1,e2];rfl);have d1:=aU.cell (j:=1) (u:=vb) (by rw[e1,e2];rfl);push_cast -dsimp;refine aA (XI [(va,s),(vb,t)] (by simp;omega) (by simp) X w.heap.size 2 (by simp) w1 ?_) ?_
 ·intro i p hp;match i,hp with
  | 0,hp=>cases hp;exact⟨d0,Yo.below aU.below,hA⟩
  | 1,hp=>cases hp;exact⟨d1,OD.below aU.below,hB⟩
  | n+2,hp=>cases hp
 rintro v2 w2 ⟨ln,dt⟩;rw[show [(va,s),(vb,t)].flatMap (·.2)=s++t by simp]at ln
 push_cast -dsimp;refine aA (aRz (s++t) (by rw[List.length_append];omega) _ _ w2 ln.sl ln.di) ?_;rintro v3 w3 ⟨nL,gB⟩;push_cast -dsimp;have EE:=dt.size;exact⟨nL.mono (by omega),(aU.below.trans (dt.mono (by omega))).trans (gB.mono (by omega))⟩
theorem aEV (s t:List Rg)(hs:s.length<1000000)(ht:t.length<1000000)(iW:aO (-2) s=true)(Mi:aO (-2) t=true)(X:Nat->Prop)(va vb:Value)(w:World)(Yo:Sl X 2 (En bF) w va s)(OD:Sl X 2 (En bF) w vb t) :
  aw Tryz.prog 94 [va,vb] w λr w'=>Vc.Own w.heap.size 208 2 bF w' r (DZ s t)/\Below w.heap.size w w':=by
 have n1:=uk s;have n2:=uk t;have n3:=Ur (iQ s) (iQ t);refine aD Tryz.func94 rfl (by kernel_rfl) [4] rfl ?_;push_cast -dsimp(maxSteps:=9^7) [Tryz.ntmps94];refine aA (LY s (by omega) iW X va w Yo) ?_;rintro v1 w1 ⟨vy,gS⟩;have qw:=gS.size;push_cast -dsimp;refine aA (LY t (by omega) Mi X vb w1 (OD.below gS)) ?_;rintro v2 w2 ⟨ln,dt⟩;have EE:=dt.size;push_cast -dsimp;refine aA (aMS (iQ s) (iQ t) (by omega) (by omega) (λ_=>False) v1 v2 w2 ((vy.sl.weaken (λ_ h=>h.elim)).below dt) (ln.sl.weaken (λ_ h=>h.elim)) vy.di ln.di) ?_;rintro v3 w3 ⟨nL,gB⟩;have PA:=gB.size;push_cast -dsimp;refine aA (LY (D1 (iQ s) (iQ t)) (by omega) (sG _ _) (λ_=>False) v3 w3 (nL.sl.weaken (λ_ h=>h.elim))) ?_;rintro v4 w4 ⟨ly,kK⟩;push_cast -dsimp;exact⟨ly.mono (by omega),((gS.trans (dt.mono (by omega))).trans (gB.mono (by omega))).trans (kK.mono (by omega))⟩
theorem aIf (s t:List Rg)(hs:s.length<900000)(ht:t.length<900000)(iW:aO (-2) s=true)(Mi:aO (-2) t=true)(X:Nat->Prop)(va vb:Value)(w:World)(Yo:Sl X 2 (En bF) w va s)(OD:Sl X 2 (En bF) w vb t) :
  aw Tryz.prog 95 [va,vb] w λr w'=>Vc.Own w.heap.size 208 2 bF w' r (Aq s t)/\Below w.heap.size w w':=by
 have n2:=uk t;refine aD Tryz.func95 rfl (by kernel_rfl) [4] rfl ?_;push_cast -dsimp(maxSteps:=9^7) [Tryz.ntmps95];refine aA (LY t (by omega) Mi X vb w OD) ?_;rintro v2 w2 ⟨ln,dt⟩;have EE:=dt.size;push_cast -dsimp;refine aA (aEV s (iQ t) (by omega) (by omega) iW (qV Mi) (λ_=>False) va v2 w2 ((Yo.below dt).weaken (λ_ h=>h.elim)) (ln.sl.weaken (λ_ h=>h.elim))) ?_;rintro v3 w3 ⟨nL,gB⟩;push_cast -dsimp;exact⟨nL.mono (by omega),dt.trans (gB.mono (by omega))⟩
def fu (X:Nat->Prop)(w:World)(b:Nat)(nm:bK):Prop:=∃iD:List (List UInt8×Value),nd (λl:List UInt8=>str l) w b iD/\dT (λkv x=>kv.1=x.1/\Sl X 2 (En bF) w kv.2 x.2/\Arg kv.2) iD nm
theorem fu.below {X:Nat->Prop}{w w':World}{b:Nat}{nm:bK}(h:fu X w b nm)(hb:Below w.heap.size w w'):fu X w' b nm:=by
 obtain⟨iD,h2,h3⟩:=h;exact⟨iD,h2.below hb h2.lt,h3.imp λa b h=>⟨h.1,h.2.1.below hb,h.2.2⟩⟩
theorem fu.lt {X:Nat->Prop}{w:World}{b:Nat}{nm:bK}(h:fu X w b nm):b<w.heap.size:=by
 obtain⟨iD,h2,h3⟩:=h;exact h2.lt
theorem fu.find {X:Nat->Prop}{w:World}{n:List UInt8}:∀{iD:List (List UInt8×Value)} {nm:bK},dT (λkv x=>kv.1=x.1/\Sl X 2 (En bF) w kv.2 x.2/\Arg kv.2) iD nm ->
  (tc n nm=none/\eM n iD=none)\/∃s u,tc n nm=some s/\eM n iD=some u/\Sl X 2 (En bF) w u s/\Arg u:=by
 intro iD nm h;induction h with
 | nil=>exact .inl ⟨rfl,rfl⟩
 | @cons kv x l m h1 h2 ih =>
  obtain⟨e,hs,ha⟩:=h1;by_cases hn:x.1=n
  ·exact .inr ⟨x.2,kv.2,by rw[tc,if_pos hn],by rw[eM,if_pos (by rw[e,hn])],hs,ha⟩
  rw[tc,if_neg hn,eM,if_neg (λh=>hn (by rw[<-e,<-h]))];exact ih
def dG (X:Nat->Prop)(B:Nat)(nm:bK)(k:bB)(r:Value)(w:World):Prop:=match cK nm k with
 | .ok s=>∃v,r=.tuple #[v,.nilIface]/\Sl (λb=>X b/\b<B) 2 (En bF) w v s/\Arg v
 | .error e=>∃b,B<=b/\r=.tuple #[.slice none 0 0,.iface 141 (.pointer (some ⟨b,0,none⟩))]/\aN w b 143 [.int .i64 7,.int .i64 e]
theorem A9:∀(k:bB),gU k->∀(nm:bK),iG nm->∀(X:Nat->Prop) (v:Value) (b:Nat) (w:World),fE X w v k->fu X w b nm ->
  aw Tryz.prog 59 [v,.map (some b)] w λr w'=>dG X w.heap.size nm k r w'/\Below w.heap.size w w':=by
 intro k;induction k with
 | lit pos s =>
  rintro bI nm hr X v mb w ⟨b,sv,rfl,hb,hB,hs,ha⟩ hm;have d0:w.cell? ⟨b,0,none⟩=some (.int .i64 1):=hB.cell rfl;have d2:w.cell? ⟨b,2,none⟩=some sv:=hB.cell rfl;obtain⟨_,_,rfl,_⟩:=hs.shape
  (refine aD Tryz.func59 rfl (by kernel_rfl) [4,5] rfl ?_;push_cast -dsimp(maxSteps:=9^7) [Tryz.ntmps59]);push_cast -dsimp[d0,d2];exact⟨⟨_,rfl,hs.weaken (λb hh=>hh.1),ha⟩,Below.refl _ _⟩
 | ref pos n =>
  rintro bI nm hr X v mb w ⟨b,rfl,hb,hB⟩ hm;have d0:w.cell? ⟨b,0,none⟩=some (.int .i64 2):=hB.cell rfl;have d1:w.cell? ⟨b,1,none⟩=some (.int .i64 pos):=hB.cell rfl;have d3:w.cell? ⟨b,3,none⟩=some (str n):=hB.cell rfl;obtain⟨iD,hM,hA⟩:=hm;have hf:=fu.find (n:=n) hA
  (refine aD Tryz.func59 rfl (by kernel_rfl) [4,5] rfl ?_;push_cast -dsimp(maxSteps:=9^7) [Tryz.ntmps59]);push_cast -dsimp[d0,d1,d3];rcases hf with ⟨f1,f2⟩|⟨s,u,f1,f2,hs,ha⟩
  ·refine qI (kt:=9) (et:=139) (z:=.slice none 0 0) (by kernel_rfl) (o6 (by kernel_rfl)) (by kernel_rfl) hM rfl f2 ?_;push_cast -dsimp;have d1d:w.drew.cell? ⟨b,1,none⟩=some (.int .i64 pos):=d1;refine bu (λw'=>w'.cell? ⟨b,1,none⟩=some (.int .i64 pos)) mixed (by kernel_rfl) d1 ?_;push_cast -dsimp[d1d];refine⟨λbQ h=>by rw[h];exact rfl,?_⟩;refine aS ?_;intro w2 bP;have bP:mN w.drew w2 143 [.int .i64 7,.int .i64 pos]:=bP;have aq:=hB.lt;have dt:Below w.heap.size w w2:=((Kept.refl (λ_=>False) w).drew.below (Nat.le_refl _) (λ_ h=>h.elim)).trans bP.below;refine⟨(dt.cell (by show b<_;omega)).trans d1,?_⟩
   push_cast -dsimp;refine⟨?_,dt⟩;unfold dG;rw[show cK nm (.ref pos n)=.error pos from by rw[cK,f1]]
   exact⟨w.heap.size,Nat.le_refl _,rfl,bP.aL⟩
  refine qJ (kt:=9) (et:=139) (z:=.slice none 0 0) (by kernel_rfl) (o6 (by kernel_rfl)) (by kernel_rfl) hM rfl f2 ?_;obtain⟨_,_,rfl,_⟩:=hs.shape;push_cast -dsimp;refine⟨?_,Below.refl _ _⟩;unfold dG;rw[show cK nm (.ref pos n)=.ok s from by rw[cK,f1]]
  exact⟨_,rfl,hs.weaken (λb hh=>hh.1),ha⟩
 | not pos k ih =>
  rintro bI nm hr X v mb w ⟨b,u,rfl,hb,hB,h1⟩ hm;obtain⟨b1,rfl,gS⟩:=h1.ptr;have d0:w.cell? ⟨b,0,none⟩=some (.int .i64 6):=hB.cell rfl;have d4:w.cell? ⟨b,4,none⟩=some (.pointer (some ⟨b1,0,none⟩)):=hB.cell rfl
  (refine aD Tryz.func59 rfl (by kernel_rfl) [4,5] rfl ?_;push_cast -dsimp(maxSteps:=9^7) [Tryz.ntmps59]);push_cast -dsimp[d0,d4];refine aA (ih bI nm hr X _ mb w h1 hm) ?_;rintro r w1 ⟨hR,kG⟩;have z1:=kG.size;have oU:=hB.below kG hB.lt;have e0:w1.cell? ⟨b,0,none⟩=some (.int .i64 6):=oU.cell rfl;unfold dG at hR;cases hk:cK nm k with
  | ok s =>
   rw[hk]at hR;obtain⟨v1,rfl,gE,Mg⟩:=hR;have iW:=eQ (k:=k) hr bI hk;have hle:=eW iW;push_cast -dsimp[e0];refine aA (LY s (by omega) iW _ _ w1 gE) ?_;rintro v2 w2 ⟨ln,dt⟩;have hbw:=kG.trans (dt.mono z1);have ha2:Arg v2:=ln.di;obtain⟨_,_,rfl⟩:=ln.slice;push_cast -dsimp;refine⟨?_,hbw⟩;unfold dG;rw[show cK nm (.not pos k)=.ok (iQ s) from by rw[cK,hk]]
   exact⟨_,rfl,ln.sl.weaken (λb hh=>by have:=hh.2;omega),ha2⟩
  | error e =>
   rw[hk]at hR;obtain⟨eb,Dx,rfl,hE⟩:=hR;push_cast -dsimp;refine⟨?_,kG⟩;unfold dG;rw[show cK nm (.not pos k)=.error e from by rw[cK,hk]]
   exact⟨eb,Dx,rfl,hE⟩
 | bin c pos k r ih ih' =>
  rintro bI nm hr X v mb w ⟨b,u,x,rfl,hb,hB,h1,h2⟩ hm;obtain⟨b1,rfl,gS⟩:=h1.ptr;obtain⟨b2,rfl,dt⟩:=h2.ptr;obtain⟨Km,TR,hc⟩:=bI;have d4:w.cell? ⟨b,4,none⟩=some (.pointer (some ⟨b1,0,none⟩)):=hB.cell rfl;rcases hc with rfl|rfl|rfl
  case inl =>
   have d0:w.cell? ⟨b,0,none⟩=some (.int .i64 3):=hB.cell rfl
   (refine aD Tryz.func59 rfl (by kernel_rfl) [4,5] rfl ?_;push_cast -dsimp(maxSteps:=9^7) [Tryz.ntmps59]);push_cast -dsimp[d0,d4];refine aA (ih Km nm hr X _ mb w h1 hm) ?_;rintro r1 w1 ⟨hR,kG⟩;have z1:=kG.size;have oU:=hB.below kG hB.lt;have e0:w1.cell? ⟨b,0,none⟩=some (.int .i64 3):=oU.cell rfl;have e5:w1.cell? ⟨b,5,none⟩=some (.pointer (some ⟨b2,0,none⟩)):=oU.cell rfl;unfold dG at hR;cases hk:cK nm k with
   | error e =>
    rw[hk]at hR;obtain⟨eb,Dx,rfl,hE⟩:=hR;push_cast -dsimp;refine⟨?_,kG⟩;unfold dG;rw[show cK nm (.bin 3 pos k r)=.error e from by rw[cK,hk]]
    exact⟨eb,Dx,rfl,hE⟩
   | ok s =>
    rw[hk]at hR;obtain⟨v1,rfl,gE,Mg⟩:=hR;have iW:=eQ hr Km hk;have hls:=eW iW;obtain⟨_,_,rfl,_⟩:=gE.shape;push_cast -dsimp[e0,e5];refine aA (ih' TR nm hr X _ mb w1 (h2.below kG) (hm.below kG)) ?_;rintro r2 w2 ⟨AP,vk⟩;have z2:=vk.size;have fP:=kG.trans (vk.mono z1);have gy:=oU.below vk oU.lt;have f0:w2.cell? ⟨b,0,none⟩=some (.int .i64 3):=gy.cell rfl;unfold dG at AP;cases nh:cK nm r with
    | error e =>
     rw[nh]at AP;obtain⟨eb,Dx,rfl,hE⟩:=AP;push_cast -dsimp;refine⟨?_,fP⟩;unfold dG;rw[show cK nm (.bin 3 pos k r)=.error e from by rw[cK,hk];dsimp only;rw[nh]]
     exact⟨eb,by omega,rfl,hE⟩
    | ok t =>
     rw[nh]at AP;obtain⟨v2,rfl,iC,ha2⟩:=AP;have Mi:=eQ hr TR nh;have aq:=eW Mi;obtain⟨_,_,rfl,_⟩:=iC.shape;push_cast -dsimp[f0];refine aA (aMS s t (by omega) (by omega) (λ_=>False) _ _ w2 ((gE.below vk).weaken (λ_ h=>h.elim)) (iC.weaken (λ_ h=>h.elim)) Mg ha2) ?_;rintro v3 w3 ⟨nL,gB⟩;have oV:=fP.trans (gB.mono (by omega));have ha3:Arg v3:=nL.di;obtain⟨_,_,rfl⟩:=nL.slice;push_cast -dsimp;refine⟨?_,oV⟩;unfold dG;rw[show cK nm (.bin 3 pos k r)=.ok (D1 s t) from by rw[cK,hk];dsimp only;rw[nh];rfl]
     exact⟨_,rfl,nL.sl.weaken (λb hh=>by have:=hh.2;omega),ha3⟩
  case inr.inl =>
   have d0:w.cell? ⟨b,0,none⟩=some (.int .i64 4):=hB.cell rfl
   (refine aD Tryz.func59 rfl (by kernel_rfl) [4,5] rfl ?_;push_cast -dsimp(maxSteps:=9^7) [Tryz.ntmps59]);push_cast -dsimp[d0,d4];refine aA (ih Km nm hr X _ mb w h1 hm) ?_;rintro r1 w1 ⟨hR,kG⟩;have z1:=kG.size;have oU:=hB.below kG hB.lt;have e0:w1.cell? ⟨b,0,none⟩=some (.int .i64 4):=oU.cell rfl;have e5:w1.cell? ⟨b,5,none⟩=some (.pointer (some ⟨b2,0,none⟩)):=oU.cell rfl;unfold dG at hR;cases hk:cK nm k with
   | error e =>
    rw[hk]at hR;obtain⟨eb,Dx,rfl,hE⟩:=hR;push_cast -dsimp;refine⟨?_,kG⟩;unfold dG;rw[show cK nm (.bin 4 pos k r)=.error e from by rw[cK,hk]]
    exact⟨eb,Dx,rfl,hE⟩
   | ok s =>
    rw[hk]at hR;obtain⟨v1,rfl,gE,Mg⟩:=hR;have iW:=eQ hr Km hk;have hls:=eW iW;obtain⟨_,_,rfl,_⟩:=gE.shape;push_cast -dsimp[e0,e5];refine aA (ih' TR nm hr X _ mb w1 (h2.below kG) (hm.below kG)) ?_;rintro r2 w2 ⟨AP,vk⟩;have z2:=vk.size;have fP:=kG.trans (vk.mono z1);have gy:=oU.below vk oU.lt;have f0:w2.cell? ⟨b,0,none⟩=some (.int .i64 4):=gy.cell rfl;unfold dG at AP;cases nh:cK nm r with
    | error e =>
     rw[nh]at AP;obtain⟨eb,Dx,rfl,hE⟩:=AP;push_cast -dsimp;refine⟨?_,fP⟩;unfold dG;rw[show cK nm (.bin 4 pos k r)=.error e from by rw[cK,hk];dsimp only;rw[nh]]
     exact⟨eb,by omega,rfl,hE⟩
    | ok t =>
     rw[nh]at AP;obtain⟨v2,rfl,iC,ha2⟩:=AP;have Mi:=eQ hr TR nh;have aq:=eW Mi;obtain⟨_,_,rfl,_⟩:=iC.shape;push_cast -dsimp[f0];refine aA (aEV s t (by omega) (by omega) iW Mi (λ_=>False) _ _ w2 ((gE.below vk).weaken (λ_ h=>h.elim)) (iC.weaken (λ_ h=>h.elim))) ?_;rintro v3 w3 ⟨nL,gB⟩;have oV:=fP.trans (gB.mono (by omega));have ha3:Arg v3:=nL.di;obtain⟨_,_,rfl⟩:=nL.slice;push_cast -dsimp;refine⟨?_,oV⟩;unfold dG;rw[show cK nm (.bin 4 pos k r)=.ok (DZ s t) from by rw[cK,hk];dsimp only;rw[nh];rfl]
     exact⟨_,rfl,nL.sl.weaken (λb hh=>by have:=hh.2;omega),ha3⟩
  case inr.inr =>
   have d0:w.cell? ⟨b,0,none⟩=some (.int .i64 5):=hB.cell rfl
   (refine aD Tryz.func59 rfl (by kernel_rfl) [4,5] rfl ?_;push_cast -dsimp(maxSteps:=9^7) [Tryz.ntmps59]);push_cast -dsimp[d0,d4];refine aA (ih Km nm hr X _ mb w h1 hm) ?_;rintro r1 w1 ⟨hR,kG⟩;have z1:=kG.size;have oU:=hB.below kG hB.lt;have e0:w1.cell? ⟨b,0,none⟩=some (.int .i64 5):=oU.cell rfl;have e5:w1.cell? ⟨b,5,none⟩=some (.pointer (some ⟨b2,0,none⟩)):=oU.cell rfl;unfold dG at hR;cases hk:cK nm k with
   | error e =>
    rw[hk]at hR;obtain⟨eb,Dx,rfl,hE⟩:=hR;push_cast -dsimp;refine⟨?_,kG⟩;unfold dG;rw[show cK nm (.bin 5 pos k r)=.error e from by rw[cK,hk]]
    exact⟨eb,Dx,rfl,hE⟩
   | ok s =>
    rw[hk]at hR;obtain⟨v1,rfl,gE,Mg⟩:=hR;have iW:=eQ hr Km hk;have hls:=eW iW;obtain⟨_,_,rfl,_⟩:=gE.shape;push_cast -dsimp[e0,e5];refine aA (ih' TR nm hr X _ mb w1 (h2.below kG) (hm.below kG)) ?_;rintro r2 w2 ⟨AP,vk⟩;have z2:=vk.size;have fP:=kG.trans (vk.mono z1);have gy:=oU.below vk oU.lt;have f0:w2.cell? ⟨b,0,none⟩=some (.int .i64 5):=gy.cell rfl;unfold dG at AP;cases nh:cK nm r with
    | error e =>
     rw[nh]at AP;obtain⟨eb,Dx,rfl,hE⟩:=AP;push_cast -dsimp;refine⟨?_,fP⟩;unfold dG;rw[show cK nm (.bin 5 pos k r)=.error e from by rw[cK,hk];dsimp only;rw[nh]]
     exact⟨eb,by omega,rfl,hE⟩
    | ok t =>
     rw[nh]at AP;obtain⟨v2,rfl,iC,ha2⟩:=AP;have Mi:=eQ hr TR nh;have aq:=eW Mi;obtain⟨_,_,rfl,_⟩:=iC.shape;push_cast -dsimp[f0];refine aA (aIf s t (by omega) (by omega) iW Mi (λ_=>False) _ _ w2 ((gE.below vk).weaken (λ_ h=>h.elim)) (iC.weaken (λ_ h=>h.elim))) ?_;rintro v3 w3 ⟨nL,gB⟩;have oV:=fP.trans (gB.mono (by omega));have ha3:Arg v3:=nL.di;obtain⟨_,_,rfl⟩:=nL.slice;push_cast -dsimp;refine⟨?_,oV⟩;unfold dG;rw[show cK nm (.bin 5 pos k r)=.ok (Aq s t) from by rw[cK,hk];dsimp only;rw[nh];rfl]
     exact⟨_,rfl,nL.sl.weaken (λb hh=>by have:=hh.2;omega),ha3⟩
end
end Go.Proofs.YtemjejfpadnljaaGreatDoor
namespace Cae
mutual
def wd:aG->Nat
 | .one _=>0
 | .any=>0
 | .gh=>0
 | .cat l=>Nat.max l.length (wds l)
 | .alt l=>Nat.max l.length (wds l)
 | .many x _ _=>wd x
def wds:List aG->Nat
 | []=>0
 | x::l=>Nat.max (wd x) (wds l)
end
theorem JH:∀{l:List aG} {x:aG},x∈l->wd x<=wds l
 | y::l,x,h=>by
  rw[wds];rcases List.mem_cons.1 h with rfl|h
  ·exact Nat.le_max_left _ _
  exact Nat.le_trans (JH h) (Nat.le_max_right _ _)
theorem PX {n:Nat}:∀{l:List aG},(∀x∈l,wd x<=n)->wds l<=n
 | [],_=>Nat.zero_le _
 | y::l,h=>by
  rw[wds];exact Nat.max_le.2 ⟨h y (List.mem_cons_self ..),PX λx hx=>h x (List.mem_cons_of_mem _ hx)⟩
theorem y6 {l:List aG}:wds l<=wd (.cat l)/\l.length<=wd (.cat l)/\∀x∈l,wd x<=wd (.cat l):=by
 rw[wd];exact⟨Nat.le_max_right _ _,Nat.le_max_left _ _,λx hx=>Nat.le_trans (JH hx) (Nat.le_max_right _ _)⟩
theorem yZ {l:List aG}:wds l<=wd (.alt l)/\l.length<=wd (.alt l)/\∀x∈l,wd x<=wd (.alt l):=by
 rw[wd];exact⟨Nat.le_max_right _ _,Nat.le_max_left _ _,λx hx=>Nat.le_trans (JH hx) (Nat.le_max_right _ _)⟩
theorem uw {x:aG}{lo hi:Int}:wd x<=wd (.many x lo hi):=by rw[wd];exact Nat.le_refl _
mutual
theorem Rj:∀x:aG,wd x<=pn x
 | .one k=>Nat.zero_le _
 | .any=>Nat.zero_le _
 | .gh=>Nat.zero_le _
 | .cat l=>by
  rw[wd];exact Nat.max_le.2 ⟨Fz.2.1,PX λx hx=>Nat.le_trans (PY l x hx) (Fz.2.2 x hx)⟩
 | .alt l=>by
  rw[wd];exact Nat.max_le.2 ⟨Fv.2.1,PX λx hx=>Nat.le_trans (PY l x hx) (Fv.2.2 x hx)⟩
 | .many x lo hi=>by
  rw[wd];exact Nat.le_trans (Rj x) Od
theorem PY:∀(l:List aG) (x:aG),x∈l->wd x<=pn x
 | [],x,h=>by cases h
 | y::l,x,h=>by
  rcases List.mem_cons.1 h with h|h
  ·rw[h];exact Rj y
  exact PY l x h
end
end Cae
namespace Go.Proofs.YtemjejfpadnljaaGreatDoor
open Go.Vc Go.Proofs Go.RowKit Cae
attribute [local irreducible] dN ae ak aY runK aw Sl Vc.Own vc aV cJ a7
def q9 (B:Nat)(o:Option (Int×Nat))(r:Value)(w:World):Prop:=match o with
 | none=>r=.nilIface
 | some (c,e)=>∃b,B<=b/\r=.iface 141 (.pointer (some ⟨b,0,none⟩))/\aN w b 143 [.int .i64 c,.int .i64 e]
theorem q9.mono {B B':Nat}{o:Option (Int×Nat)}{r:Value}{w:World}(h:q9 B o r w)(hb:B'<=B):q9 B' o r w:=by
 unfold q9 at h ⊢
 cases o with
 | none=>exact h
 | some p=>obtain⟨b,h1,h2,h3⟩:=h;exact⟨b,by omega,h2,h3⟩
def BB (nm:bK)(x:aG):Option (Int×Nat):=(iY nm x).map λe=>((7:Int),e)
def AD (x:aG):Prop:=bD x->wd x<=100000000->∀(nm:bK),iG nm->∀(X:Nat->Prop) (v:Value) (b:Nat) (w:World),au X w v x->fu X w b nm ->
 aw Tryz.prog 45 [v,.map (some b)] w λr w'=>q9 w.heap.size (BB nm x) r w'/\Below w.heap.size w w'
theorem aB0 (k:bB):AD (.one k):=by
 intro bI j8 nm hr X v mb w hV hm;simp only[au]at hV;obtain⟨b,u,rfl,hb,hB,h1⟩:=hV;obtain⟨b1,rfl,gS⟩:=h1.ptr;have d0:w.cell? ⟨b,0,none⟩=some (.int .i64 1):=hB.cell rfl;have d1:w.cell? ⟨b,1,none⟩=some (.pointer (some ⟨b1,0,none⟩)):=hB.cell rfl;simp only[bD]at bI;refine aD Tryz.func45 rfl (by kernel_rfl) [4] rfl ?_;push_cast -dsimp(maxSteps:=9^7) [Tryz.ntmps45];push_cast -dsimp[d0,d1];refine aA (A9 k bI nm hr X _ mb w h1 hm) ?_;rintro r w1 ⟨hR,kG⟩;unfold dG at hR;cases hk:cK nm k with
 | ok s =>
  rw[hk]at hR;obtain⟨v1,rfl,gE,Mg⟩:=hR;push_cast -dsimp;refine⟨?_,kG⟩;unfold BB;rw[iY,hk];rfl
 | error e =>
  rw[hk]at hR;obtain⟨eb,Dx,rfl,hE⟩:=hR;push_cast -dsimp;refine⟨?_,kG⟩;unfold BB;rw[iY,hk];exact⟨eb,Dx,rfl,hE⟩
theorem sk {nm:bK}:∀(a b:List aG),jN nm (a++b)=match jN nm a with
  | some e=>some e
  | none=>jN nm b
 | [],b=>by simp only[List.nil_append,jN]
 | x::a,b=>by
  simp only[List.cons_append,jN];cases iY nm x with
  | some e=>rfl
  | none=>exact sk a b
theorem ow (code lo hi:Int)(hc:code≠1)(l:List aG)(hl:∀x∈l,AD x)(bI:∀x∈l,bD x/\wd x<=100000000)(hlen:l.length<=100000000)(nm:bK)(hr:iG nm)(X:Nat->Prop)(b mb:Nat)(pv sv:Value)(vs:List Nat)(w:World)
  (hB:aN w b 158 [.int .i64 code,pv,sv,.int .i64 lo,.int .i64 hi]) (hs:Sl X 1 (En fU) w sv vs) (hV:aR X w vs l) (hm:fu X w mb nm) :
  aw Tryz.prog 45 [.pointer (some ⟨b,0,none⟩),.map (some mb)] w λr w'=>q9 w.heap.size ((jN nm l).map λe=>((7:Int),e)) r w'/\Below w.heap.size w w':=by
 have hvl:=hV.len;obtain⟨sa,sc,rfl,yI⟩:=hs.shape;have d0:w.cell? ⟨b,0,none⟩=some (.int .i64 code):=hB.cell rfl;have d2:w.cell? ⟨b,2,none⟩=some (.slice sa vs.length sc):=hB.cell rfl;refine aD Tryz.func45 rfl (by kernel_rfl) [4] rfl ?_;push_cast -dsimp(maxSteps:=9^7) [Tryz.ntmps45];push_cast -dsimp[d0,d2];refine⟨λh=>absurd h hc,λ_=>?_⟩;refine aK [4,8,9,30,31,32,33,34,35,36,37,38,39,40] (λz wx=>∃(i:Nat),z 30=.int .i64 i/\i<=l.length/\jN nm (l.take i)=none/\Below w.heap.size w wx) (λz _=>l.length-(intOf (z 30)).toNat) ?_ ?_
 ·exact⟨0,rfl,Nat.zero_le _,by simp[jN],Below.refl _ _⟩
 intro z wx hI;obtain⟨i,h30,hi,ep,bS⟩:=hI;have zx:=bS.size;push_cast -dsimp[h30];refine⟨λaq=>?_,λeo=>?_⟩
 ·obtain⟨x,hx,jJ,_,ht⟩:=ag (l:=l) (i:=i) (by omega);obtain⟨u,hu,Ss⟩:=aR.nth hV hx;obtain⟨b1,o,rfl,kL,aM⟩:=(hs.below bS).get hu;have c0:wx.cell? ⟨b1,o+i,none⟩=some (.pointer (some ⟨u,0,none⟩)):=by simpa[fU,bx] using aM 0 _ rfl
  push_cast -dsimp[c0,Nat.mul_one];refine⟨⟨by omega,by omega⟩,?_⟩;refine aA (hl x jJ (bI x jJ).1 (bI x jJ).2 nm hr X _ mb wx (au.below Ss bS) (hm.below bS)) ?_;rintro r wy ⟨hE,gn⟩;have lY:=bS.trans (gn.mono zx);unfold BB at hE;cases hp:iY nm x with
  | none =>
   rw[hp]at hE;have hE:r=.nilIface:=hE;subst hE;push_cast -dsimp;refine⟨⟨by omega,by omega⟩,⟨i+1,rfl,by omega,?_,lY⟩,by rw[h30];simp only[intOf];omega⟩;rw[ht,sk,ep];simp only[jN,hp]
  | some e =>
   rw[hp]at hE;obtain⟨eb,Dx,rfl,VV⟩:=hE;push_cast -dsimp;refine⟨?_,lY⟩;have cg:jN nm l=some e:=by
    have vC:l=l.take (i+1)++l.drop (i+1):=(List.take_append_drop _ _).symm;rw[vC,sk,ht,sk,ep];simp only[jN,hp]
   rw[cg];exact⟨eb,by omega,rfl,VV⟩
 rw[List.take_of_length_le (by omega)]at ep;refine⟨?_,bS⟩;rw[ep];rfl
theorem aBY:AD .any:=by
 intro bI j8 nm hr X v mb w hV hm;simp only[au]at hV;obtain⟨b,rfl,hb,hB⟩:=hV;exact(ow 2 0 0 (by decide) [] (λx h=>by cases h) (λx h=>by cases h) (by simp) nm hr X b mb _ _ [] w hB (Sl.nil _ _ _ _ _ _) (by simp only[aR]) hm).mono λr w' ⟨h1,h2⟩=>⟨by simpa[BB,iY,jN] using h1,h2⟩
theorem Wy:AD .gh:=by
 intro bI j8 nm hr X v mb w hV hm;simp only[au]at hV;obtain⟨b,rfl,hb,hB⟩:=hV;exact(ow 3 0 0 (by decide) [] (λx h=>by cases h) (λx h=>by cases h) (by simp) nm hr X b mb _ _ [] w hB (Sl.nil _ _ _ _ _ _) (by simp only[aR]) hm).mono λr w' ⟨h1,h2⟩=>⟨by simpa[BB,iY,jN] using h1,h2⟩
theorem aBZ (l:List aG)(hl:∀x∈l,AD x):AD (.cat l):=by
 intro bI j8 nm hr X v mb w hV hm;simp only[au]at hV;obtain⟨b,sv,vs,rfl,hb,hB,hs,hV⟩:=hV;have wC:=y6 (l:=l);simp only[bD]at bI;exact(ow 4 0 0 (by decide) l hl (λx h=>⟨fz bI h,by have:=wC.2.2 x h;omega⟩) (by have:=wC.2.1;omega) nm hr X b mb _ sv vs w hB hs hV hm).mono λr w' ⟨h1,h2⟩=>⟨by simpa[BB,iY] using h1,h2⟩
theorem aBX (l:List aG)(hl:∀x∈l,AD x):AD (.alt l):=by
 intro bI j8 nm hr X v mb w hV hm;simp only[au]at hV;obtain⟨b,sv,vs,rfl,hb,hB,hs,hV⟩:=hV;have wC:=yZ (l:=l);simp only[bD]at bI;exact(ow 5 0 0 (by decide) l hl (λx h=>⟨fz bI h,by have:=wC.2.2 x h;omega⟩) (by have:=wC.2.1;omega) nm hr X b mb _ sv vs w hB hs hV hm).mono λr w' ⟨h1,h2⟩=>⟨by simpa[BB,iY] using h1,h2⟩
theorem Wz (x:aG)(lo hi:Int)(hx:AD x):AD (.many x lo hi):=by
 intro bI j8 nm hr X v mb w hV hm;simp only[au]at hV;obtain⟨b,sv,u,rfl,hb,hB,hs,hV⟩:=hV;have hpm:=uw (x:=x) (lo:=lo) (hi:=hi);simp only[bD]at bI;refine(ow 6 lo hi (by decide) [x] (λy h=>by rw[List.mem_singleton]at h;rw[h];exact hx) (λy h=>by rw[List.mem_singleton]at h;rw[h];exact⟨bI.1,by omega⟩) (by simp) nm hr X b mb _ sv [u] w hB hs (by simp only[aR];exact⟨hV,trivial⟩) hm).mono λr w' ⟨h1,h2⟩=>⟨?_,h2⟩;have e:jN nm [x]=iY nm x:=by
  simp only[jN];cases iY nm x<;>rfl
 rw[e]at h1;simpa[BB,iY] using h1
mutual
theorem Pw:∀x,AD x
 | .one k=>aB0 k
 | .any=>aBY
 | .gh=>Wy
 | .cat l=>aBZ l (NU l)
 | .alt l=>aBX l (NU l)
 | .many x lo hi=>Wz x lo hi (Pw x)
theorem NU:∀(l:List aG) (x:aG),x∈l->AD x
 | [],x,h=>by cases h
 | y::l,x,h=>by
  have hy:=Pw y;rcases List.mem_cons.1 h with h|h
  ·rw[h];exact hy
  exact NU l x h
end
def aKl (p:Nat×Nat):Int×Nat:=(if p.1=5 then 9 else 7,p.2)
def mq (X:Nat->Prop)(B:Nat)(f:dX)(r:Value)(w:World):Prop:=match gv [] f.cT with
 | .ok nm=>∃mb,B<=mb/\r=.tuple #[.map (some mb),.nilIface]/\fu (λb=>X b/\b<B) w mb nm/\iG nm
 | .error e=>∃v,r=.tuple #[.map none,v]/\q9 B (some (aKl e)) v w
theorem Ll {nm:bK}{n:List UInt8}{s:List Rg}(h:iG nm)(hs:aO (-2) s=true):iG (nm++[(n,s)]):=λx hx=>by
 rw[List.mem_append,List.mem_singleton]at hx;rcases hx with hx|rfl
 ·exact h x hx
 exact hs
theorem u7 {nm:bK}{c:fT}{l:List fT}:gv nm (c::l)=if (tc c.name nm).isSome then .error (5,c.pos) else match cK nm c.kind with
  | .error e=>.error (6,e)
  | .ok s=>gv (nm++[(c.name,s)]) l:=by
 first|(rw[gv];done)|(rw[gv];rfl)
theorem rF {α β:Type}{R:α->β->Prop}{l:List α}{m:List β}(h:dT R l m){i:Nat}{y:β}(hy:m[i]?=some y):∃x,l[i]?=some x/\R x y:=by
 induction h generalizing i with
 | nil=>simp at hy
 | cons h1 _ ih =>
  cases i with
  | zero=>cases hy;exact⟨_,rfl,h1⟩
  | succ i=>exact ih (by simpa using hy)
theorem IZ (f:dX)(bI:∀c∈f.cT,gU c.kind)(hlen:f.cT.length<=1000000)(X:Nat->Prop)(v:Value)(w:World)(hv:kI X w v f) :
  aw Tryz.prog 33 [v] w λr w'=>mq X w.heap.size f r w'/\Below w.heap.size w w':=by
 obtain⟨cv,rv,cs,rs,rfl,il,iW,hC,hR⟩:=hv;have jE:=dT.len hC;obtain⟨ca,cc,rfl,hcc⟩:=il.shape;obtain⟨ra,rc,rfl,hrc⟩:=iW.shape;refine aD Tryz.func33 rfl (by kernel_rfl) [2,3] rfl ?_;push_cast -dsimp(maxSteps:=9^7) [Tryz.ntmps33];refine aS ?_;intro w1 aU;have aU:mN w w1 26 [.slice ca cs.length cc,.slice ra rs.length rc,.bool f.els]:=aU;have z1:=aU.size;push_cast -dsimp;refine CZ (key:=λl:List UInt8=>str l) ?_;intro w2 m2 dt z2;have B2:=aU.aL.below dt (by omega);have d2:w2.cell? ⟨w.heap.size,0,none⟩=some (.slice ca cs.length cc):=B2.cell rfl;have fP:=aU.below.trans (dt.mono (by omega));have hN:∃Xn:Nat->Prop,Xn=(λb=>(X b/\b<w.heap.size)\/b=w1.heap.size):=⟨_,rfl⟩;obtain⟨Xn,No⟩:=hN;push_cast -dsimp[d2];refine aK [2,3,6,7,8,9,10,15,16,17,18,19,20,21,22,23,24,25,26,27,28,29,30,31,32,33,34,35,36,37,38,39,40,41,42,43,44,45,46] (λz wx=>∃(i:Nat) (nm:bK),z 15=.int .i64 i/\i<=f.cT.length/\gv [] f.cT=gv nm (f.cT.drop i)/\fu Xn wx w1.heap.size nm/\iG nm/\Below w.heap.size w wx/\w2.heap.size<=wx.heap.size) (λz _=>f.cT.length-(intOf (z 15)).toNat) ?_ ?_
 ·exact⟨0,[],rfl,Nat.zero_le _,rfl,⟨[],m2,.nil⟩,(λx h=>(by cases h)),fP,Nat.le_refl _⟩
 intro z wx hI;obtain⟨i,nm,h15,hi,oo,hNV,VW,bS,zx⟩:=hI;push_cast -dsimp[h15];refine⟨λaq=>?_,λeo=>?_⟩
 ·obtain⟨c,hc,s9,_,ht⟩:=ag (l:=f.cT) (i:=i) (by omega);obtain⟨x,hx,hxn,JX,Vk⟩:=rF hC hc;obtain⟨xn,xp,xk⟩:=x;simp only at hxn JX Vk;subst hxn;subst JX;obtain⟨b1,o,rfl,kL,aM⟩:=(il.below bS).get hx;have c3:aB wx ⟨b1,o+i*3,none⟩ 0 3=some [str c.name,.int .i64 c.pos,bx xk]:=ao _ 0 (λj u hu=>by simpa[Bf] using aM j u hu);have CG:bx xk=.pointer (some ⟨xk,0,none⟩):=rfl;rw[CG]at c3;push_cast -dsimp[c3];refine⟨⟨by omega,by omega⟩,?_⟩;refine ah (z:=[str [],.int .i64 0,.pointer none]) (by kernel_rfl) ?_;intro wa eB;have za:=eB.size;push_cast -dsimp;refine aI (n:=3) (by kernel_rfl) eB.aL rfl (by simp) (by simp[Value.oneCell',str]) ?_;intro wb cH;have zb:=cH.size;have jf:Below wx.heap.size wx wb:=eB.below.trans (cH.kept.below (by omega) (λi h=>by omega));have Hn:=bS.trans (jf.mono bS.size);have Cb:aN wb wx.heap.size 137 [str c.name,.int .i64 c.pos,.pointer (some ⟨xk,0,none⟩)]:=cH.aL;have e0:wb.cell? ⟨wx.heap.size,0,none⟩=some (str c.name):=Cb.cell rfl;have e1:wb.cell? ⟨wx.heap.size,1,none⟩=some (.int .i64 c.pos):=Cb.cell rfl;have e2:wb.cell? ⟨wx.heap.size,2,none⟩=some (.pointer (some ⟨xk,0,none⟩)):=Cb.cell rfl;have hNb:=hNV.below jf;obtain⟨iD,hM,hA⟩:=hNb;have hf:=fu.find (n:=c.name) hA;have YT:f.cT.drop i=c::f.cT.drop (i+1):=by rw[List.drop_eq_getElem?_toList_append,hc];rfl
  push_cast -dsimp[e0];rcases hf with ⟨f1,f2⟩|⟨s,u,f1,f2,hs,ha⟩
  ·refine qI (kt:=9) (et:=139) (z:=.slice none 0 0) (by kernel_rfl) (o6 (by kernel_rfl)) (by kernel_rfl) hM rfl f2 ?_;push_cast -dsimp[e2];have Bt:fE Xn wb (.pointer (some ⟨xk,0,none⟩)) c.kind:=(Vk.top.below Hn).mono (Kept.refl (λ_=>False) wb) (λ_ h=>h.elim) (λb hb=>by
    rw[No]at hb;rcases hb with hb|hb
    ·exact .inl hb.1
    exact .inr (by omega))
   refine aA (A9 c.kind (bI c s9) nm VW Xn _ w1.heap.size wb Bt ⟨iD,hM,hA⟩) ?_;rintro r wd ⟨hK,qp⟩;have zd:=qp.size;have aLp:=Hn.trans (qp.mono Hn.size);have Cd:=Cb.below qp Cb.lt;have g0:wd.cell? ⟨wx.heap.size,0,none⟩=some (str c.name):=Cd.cell rfl;unfold dG at hK;cases Nv:cK nm c.kind with
   | error e =>
    rw[Nv]at hK;obtain⟨eb,Dx,rfl,hE⟩:=hK;push_cast -dsimp;refine⟨?_,aLp⟩;unfold mq;rw[oo,YT,u7,f1,Nv];exact⟨_,rfl,eb,by omega,rfl,hE⟩
   | ok s =>
    rw[Nv]at hK;obtain⟨v1,rfl,gE,Mg⟩:=hK;have iW:=eQ (k:=c.kind) VW (bI c s9) Nv;obtain⟨_,_,rfl,_⟩:=gE.shape;have hMd:=hM.below qp hM.lt;push_cast -dsimp[g0];refine jd (kt:=9) (et:=139) (by kernel_rfl) (o6 (by kernel_rfl)) hMd rfl f2 ?_;intro we YB eD Ek;have aPz:Below w.heap.size w we:=aLp.trans (eD.below (by omega) (λi h=>by omega));push_cast -dsimp;refine⟨⟨by omega,by omega⟩,⟨i+1,nm++[(c.name,s)],rfl,by omega,?_,⟨_,YB,?_⟩,Ll VW iW,aPz,by omega⟩,by rw[h15];simp only[intOf];omega⟩
    ·rw[oo,YT,u7,f1,Nv];rfl
    refine dT.snoc (hA.imp λa b h=>⟨h.1,(h.2.1.below qp).kept eD (λi hi=>by rw[No];exact .inr hi),h.2.2⟩) ⟨rfl,(gE.kept eD (λi hi=>?_)).weaken (λb hb=>?_),Mg⟩
    ·exact⟨by rw[No];exact .inr hi,by omega⟩
    refine⟨hb,?_⟩;rw[No]at hb;rcases hb with hb|hb
    ·omega
    omega
  refine qJ (kt:=9) (et:=139) (z:=.slice none 0 0) (by kernel_rfl) (o6 (by kernel_rfl)) (by kernel_rfl) hM rfl f2 ?_;obtain⟨_,_,rfl,_⟩:=hs.shape;push_cast -dsimp;have e1d:wb.drew.cell? ⟨wx.heap.size,1,none⟩=some (.int .i64 c.pos):=e1;refine bu (λw'=>w'.cell? ⟨wx.heap.size,1,none⟩=some (.int .i64 c.pos)) mixed (by kernel_rfl) e1 ?_;push_cast -dsimp[e1d];refine⟨λbQ h=>by rw[h];exact rfl,?_⟩;refine aS ?_;intro wd jI;have jI:mN wb.drew wd 143 [.int .i64 9,.int .i64 c.pos]:=jI;have qp:Below wb.heap.size wb wd:=((Kept.refl (λ_=>False) wb).drew.below (Nat.le_refl _) (λ_ h=>h.elim)).trans jI.below;refine⟨(qp.cell (by show wx.heap.size<_;omega)).trans e1,?_⟩
  push_cast -dsimp;refine⟨?_,Hn.trans (qp.mono Hn.size)⟩;unfold mq;rw[oo,YT,u7,f1];exact⟨_,rfl,wb.heap.size,Hn.size,rfl,jI.aL⟩
 refine⟨?_,bS⟩;rw[List.drop_of_length_le (by omega),gv]at oo;unfold mq;rw[oo];obtain⟨iD,hM,hA⟩:=hNV;exact⟨_,by omega,rfl,⟨iD,hM,hA.imp λa b h=>⟨h.1,h.2.1.weaken (λb hb=>by rw[No];exact .inl hb),h.2.2⟩⟩,VW⟩
theorem aE2 (c:Bool)(n k n' k':Nat)(L:VP)(other:Prop)(p):cX 3 c .eql (.slice none n k) (.slice none n' k') L other p=L (.bool true):=by
 cases c<;>rfl
theorem aE3 (c:Bool)(a:Addr)(n k n' k':Nat)(L:VP)(other:Prop)(p):cX 3 c .eql (.slice (some a) n k) (.slice none n' k') L other p=L (.bool false):=by
 cases c<;>rfl
theorem X9:∀x,∀u∈Vc.oS x,u.oneCell'=true:=by simp[Vc.oS,Value.oneCell']
theorem Py (l:List Int)(hl:l.length<1000000000)(X:Nat->Prop)(v:Value)(w:World)(hv:Sl X 1 (En Vc.oS) w v l)(ha:Arg v) :
  aw Tryz.prog 55 [v] w λr w'=>Vc.Own w.heap.size 3 1 Vc.oS w' r l/\Below w.heap.size w w':=by
 obtain⟨a,c,rfl,hc⟩:=hv.shape;refine aD Tryz.func55 rfl (by kernel_rfl) [2] rfl ?_;push_cast -dsimp(maxSteps:=9^7) [Tryz.ntmps55];cases a with
 | none =>
  obtain⟨h0,rfl⟩:=ha _ _ rfl;have:l=[]:=List.eq_nil_of_length_eq_zero h0;subst this;push_cast -dsimp[aE2];exact⟨Vc.Own.nil (enc:=Vc.oS) _ _ (λ_=>rfl) _,Below.refl _ _⟩
 | some ad =>
  push_cast -dsimp[aE3];refine cF ay rfl rfl (by omega) ?_;intro w1 aU;have vy:=aU.own (base:=w.heap.size) (k:=1) (n:=0) (enc:=Vc.oS) (l:=[]) rfl rfl (λ_=>rfl) (Nat.le_refl _) (by omega);have qw:=aU.size;push_cast -dsimp;refine mi (base:=w.heap.size) (enc:=Vc.oS) (ys:=l) ay vy (hv.below aU.below) (λn c h=>by cases h) X9 (by simp only[List.length_nil];omega) (by omega) ?_;intro v' w2 ln EZ dt;rw[List.nil_append]at ln;push_cast -dsimp;exact⟨ln,aU.below.trans dt⟩
end Go.Proofs.YtemjejfpadnljaaGreatDoor
namespace Cae
open Go.Lib
theorem B7 (zs:List Int)(h:zs.Pairwise (·<=·)):(compact zs).Pairwise (·<·)/\∀x,x∈compact zs↔x∈zs:=by
 have get:∀j,j<zs.length->zs.toArray[j]! = zs[j]! := λj hj=>by simp
 have mono:∀i j,i<=j->j<zs.length->zs.toArray[i]! <= zs.toArray[j]! := λi j hij hj=>by
  rw[get i (by omega),get j hj,getElem!_pos zs i (by omega),getElem!_pos zs j hj];rcases Nat.lt_or_eq_of_le hij with hl|he
  ·exact List.pairwise_iff_getElem.1 h i j (by omega) hj hl
  subst he;exact Int.le_refl _
 have key:∀m,m<=zs.length->(compactUpTo zs.toArray m).Pairwise (·<·)/\(∀x∈compactUpTo zs.toArray m,∃j,j<m/\zs.toArray[j]! = x)/\∀j,j<m->zs.toArray[j]! ∈ compactUpTo zs.toArray m:=by
  intro m;induction m with
  | zero=>intro _;simp[compactUpTo]
  | succ m ih =>
   intro hm;obtain⟨h1,h2,h3⟩:=ih (by omega);rw[compactUpTo_succ];by_cases hk:keeps zs.toArray m=true
   ·rw[if_pos hk];refine⟨List.pairwise_append.2 ⟨h1,by simp,λx hx y hy=>?_⟩,λx hx=>?_,λj hj=>?_⟩
    ·rw[List.mem_singleton]at hy;subst hy;obtain⟨j,hj,rfl⟩:=h2 x hx;unfold keeps at hk;have hk:=of_decide_eq_true hk;rcases hk with hk|hk
     ·omega
     have a1:=mono j (m-1) (by omega) (by omega);have a2:=mono (m-1) m (by omega) (by omega);omega
    ·rw[List.mem_append,List.mem_singleton]at hx;rcases hx with hx|rfl
     ·obtain⟨j,hj,e⟩:=h2 x hx;exact⟨j,by omega,e⟩
     exact⟨m,by omega,rfl⟩
    rw[List.mem_append,List.mem_singleton];by_cases Ht:j=m
    ·subst Ht;exact .inr rfl
    exact .inl (h3 j (by omega))
   rw[if_neg hk,List.append_nil];refine⟨h1,λx hx=>?_,λj hj=>?_⟩
   ·obtain⟨j,hj,e⟩:=h2 x hx;exact⟨j,by omega,e⟩
   by_cases Ht:j=m
   ·subst Ht;unfold keeps at hk;have hk:¬(j=0\/zs.toArray[j]! ≠ zs.toArray[j-1]!):=λhh=>hk (decide_eq_true hh);have e:zs.toArray[j]! = zs.toArray[j-1]! := Classical.byContradiction λcf=>hk (.inr cf);rw[e];exact h3 (j-1) (by omega)
   exact h3 j (by omega)
 obtain⟨h1,h2,h3⟩:=key zs.length (Nat.le_refl _);refine⟨h1,λx=>⟨λhx=>?_,λhx=>?_⟩⟩
 ·obtain⟨j,hj,rfl⟩:=h2 x hx;rw[get j hj,getElem!_pos zs j hj];exact List.getElem_mem _
 obtain⟨j,hj,rfl⟩:=List.getElem_of_mem hx
 have:=h3 j hj;rwa [get j hj,getElem!_pos zs j hj]at this
def bM (l:List Nat):List Int:=l.map λn:Nat=>(n:Int)
theorem uY {zs:List Int}(h:∀z∈zs,0<=z):bM (zs.map Int.toNat)=zs:=by
 unfold bM;rw[List.map_map]
 conv=>rhs;rw[<-List.map_id zs]
 exact List.map_congr_left λz hz=>by have:=h z hz;simp[Function.comp];omega
theorem sH (l:List Nat):∃m:List Nat,compact (bM l |>.mergeSort λx y=>decide (x<=y))=bM m/\m.Pairwise (·<·)/\∀x,x∈m↔x∈l:=by
 have hp:=List.mergeSort_perm (bM l) (λx y=>decide (x<=y));have hs:((bM l).mergeSort λx y=>decide (x<=y)).Pairwise (·<=·):=by
  have:=List.pairwise_mergeSort (le:=λx y:Int=>decide (x<=y)) (λa b c h1 h2=>by simp at *;omega) (λa b=>by simp;omega) (bM l);exact this.imp λh=>of_decide_eq_true h
 obtain⟨h1,h2⟩:=B7 _ hs;have h0:∀z∈compact ((bM l).mergeSort λx y=>decide (x<=y)),∃n:Nat,n∈l/\z=n:=λz hz=>by
  have:=(hp.mem_iff).1 ((h2 z).1 hz);unfold bM at this;obtain⟨n,hn,rfl⟩:=List.mem_map.1 this;exact⟨n,hn,rfl⟩
 refine⟨_,(uY (λz hz=>by obtain⟨n,_,rfl⟩:=h0 z hz;omega)).symm,?_,λx=>?_⟩
 ·rw[List.pairwise_map];refine h1.imp_of_mem λ{a b} ha hb hab=>?_;obtain⟨n,_,rfl⟩:=h0 a ha;obtain⟨k,_,rfl⟩:=h0 b hb;simp;omega
 rw[List.mem_map];constructor
 ·rintro⟨z,hz,rfl⟩;obtain⟨n,hn,rfl⟩:=h0 z hz;simpa using hn
 intro hx;refine⟨(x:Int),(h2 _).2 (hp.mem_iff.2 ?_),by simp⟩;unfold bM;exact List.mem_map.2 ⟨x,hx,rfl⟩
end Cae
namespace Go.Vc
open Go.RowKit
theorem aM0 {α:Type}{X:Nat->Prop}{k:Nat}{enc:α->List Value}{w:World}{a:Option Addr}{c n:Nat}{us:List α}(hl:us.length=n)(hc:n<=c)(hk:∀x,(enc x).length=k)
  (h:∀(i:Nat) (u:α),us[i]?=some u->∃b o,a=some ⟨b,o,none⟩/\¬X b/\∀j x,(enc u)[j]?=some x->w.cell? ⟨b,o+i*k+j,none⟩=some x):Sl X k (En enc) w (.slice a n c) us:=by
 subst hl;refine⟨a,c,rfl,hc,λi u hu=>?_⟩;obtain⟨b,o,e,hX,aM⟩:=h i u hu;exact⟨b,o,_,e,hX,hk u,aM,rfl⟩
end Go.Vc
namespace Go.Proofs.YtemjejfpadnljaaGreatDoor
open Go.Vc Go.Proofs Go.RowKit Cae Go.Sort
theorem Xj (l:List Nat):l.flatMap aX=l.map (λn:Nat=>Value.int .i64 (n:Int)):=by
 induction l with
 | nil=>rfl
 | cons x l ih=>simp[List.flatMap_cons,aX,ih]
theorem Y9 {base:Nat}{e:TypeId}{w:World}{g n c:Nat}{l:List Nat}(h:Vc.Own base e 1 aX w (.slice (some ⟨g,0,none⟩) n c) l):Holds (Value.int .i64) w g 0 (bM l).toArray:=by
 obtain⟨cur,hB,hl,ht,_⟩:=Vc.Own.opened h rfl;intro j hj;have Vf:j<l.length:=by simpa[bM] using hj
 have h1:cur[j]?=some (.int .i64 (l[j]:Int)):=by
  have h2:(cur.take (l.length*1))[j]?=(l.flatMap aX)[j]?:=by rw[ht]
  rw[Xj,List.getElem?_take,if_pos (by omega)]at h2;rw[h2];simp[Vf]
 have e2:((bM l).toArray)[j]! = (l[j]:Int):=by simp[bM,Vf]
 rw[e2];refine⟨?_,?_⟩
 ·rw[Nat.zero_add];exact hB.cell h1
 have nz:w.heap[g]?=some (.cells cur.toArray e (0,0)):=hB;simp[World.frozen?,nz]
theorem aMW {base:Nat}{e:TypeId}{w:World}{g n c q:Nat}{os:Array Obj}{l m:List Nat}(h:Vc.Own base e 1 aX w (.slice (some ⟨g,0,none⟩) n c) l)(ds:List Int)(hd:ds=bM m)(hm:m.length=l.length) :
  Vc.Own base e 1 aX (Go.Sort.grow (putRow (Value.int .i64) (Sort.ahead w q) g 0 ds.toArray) os) (.slice (some ⟨g,0,none⟩) n c) m/\Kept (λj=>j=g) w (Go.Sort.grow (putRow (Value.int .i64) (Sort.ahead w q) g 0 ds.toArray) os):=by
 subst hd;have hg:=(h.block g rfl).2;obtain⟨cur,hB,hl,ht,rR⟩:=Vc.Own.opened h rfl;have ED:(putRow (Value.int .i64) (Sort.ahead w q) g 0 (bM m).toArray).heap.size=w.heap.size:=by simp[putRow,mapBlock,Sort.ahead]
 constructor
 ·refine rR _ (putCells (Value.int .i64) 0 (bM m).toArray cur.toArray).toList m ?_ (by simp[putCells]) hm ?_
  ·show (Go.Sort.grow _ os).heap[g]?=_
   rw[heap_grow_old _ _ (by omega)];have nz:w.heap[g]?=some (.cells cur.toArray e (0,0)):=hB;simp[putRow,mapBlock,Sort.ahead,Array.getElem?_modify,nz,onCells]
  apply List.ext_getElem?;intro k;rw[Xj,List.getElem?_take];by_cases hk:k<m.length
  ·rw[if_pos (by omega)];have hkc:k<cur.length:=by omega
   simp[putCells,hkc,hk,bM]
  rw[if_neg (by omega),List.getElem?_eq_none (by simp;omega)]
 refine⟨rfl,rfl,rfl,?_,λk hk cf=>?_⟩
 ·simp[Go.Sort.grow,ED]
 rw[heap_grow_old _ _ (by omega)];simp[putRow,mapBlock,Sort.ahead,Array.getElem?_modify,Ne.symm cf]
def aAP:Go.Shelf.Ren:=⟨λ| 189=>99|125=>131|257=>130|128=>161|129=>162|294=>152|295=>153|296=>154|297=>155|298=>156|299=>157|216=>158|300=>159|301=>160|328=>176|329=>177|330=>178|331=>179|332=>180|215=>175|343=>197|n=>n,λ| 28=>36|3=>3|46=>133|0=>0|51=>168|53=>244|4=>4|183=>236|182=>235|131=>45|5=>5|9=>9|218=>258|222=>262|228=>272|229=>76|n=>n,λ| n=>n⟩
theorem aM1:Go.Proofs.Lays.n189 Tryz.prog aAP:={
 mixed:=by kernel_rfl
 f125:=Tryz.func131.trans (congrArg some (by kernel_rfl))
 f128:=Tryz.func161.trans (congrArg some (by kernel_rfl))
 f129:=Tryz.func162.trans (congrArg some (by kernel_rfl))
 f189:=Tryz.func99.trans (congrArg some (by kernel_rfl))
 f215:=Tryz.func175.trans (congrArg some (by kernel_rfl))
 f216:=Tryz.func158.trans (congrArg some (by kernel_rfl))
 f257:=Tryz.func130.trans (congrArg some (by kernel_rfl))
 f294:=Tryz.func152.trans (congrArg some (by kernel_rfl))
 f295:=Tryz.func153.trans (congrArg some (by kernel_rfl))
 f296:=Tryz.func154.trans (congrArg some (by kernel_rfl))
 f297:=Tryz.func155.trans (congrArg some (by kernel_rfl))
 f298:=Tryz.func156.trans (congrArg some (by kernel_rfl))
 f299:=Tryz.func157.trans (congrArg some (by kernel_rfl))
 f300:=Tryz.func159.trans (congrArg some (by kernel_rfl))
 f301:=Tryz.func160.trans (congrArg some (by kernel_rfl))
 f328:=Tryz.func176.trans (congrArg some (by kernel_rfl))
 f329:=Tryz.func177.trans (congrArg some (by kernel_rfl))
 f330:=Tryz.func178.trans (congrArg some (by kernel_rfl))
 f331:=Tryz.func179.trans (congrArg some (by kernel_rfl))
 f332:=Tryz.func180.trans (congrArg some (by kernel_rfl))
 f343:=Tryz.func197.trans (congrArg some (by kernel_rfl))
 t0:=Tryz.underlying0
 a0:=Tryz.isAgg0
 z0:=Tryz.sizeOf0
 v0:=Tryz.zeroValue0
 t3:=Tryz.underlying3
 a3:=Tryz.isAgg3
 z3:=Tryz.sizeOf3
 v3:=Tryz.zeroValue3
 t4:=Tryz.underlying4
 a4:=Tryz.isAgg4
 z4:=Tryz.sizeOf4
 v4:=Tryz.zeroValue4
 t5:=Tryz.underlying5
 a5:=Tryz.isAgg5
 z5:=Tryz.sizeOf5
 v5:=Tryz.zeroValue5
 t9:=Tryz.underlying9
 a9:=Tryz.isAgg9
 z9:=Tryz.sizeOf9
 v9:=Tryz.zeroValue9
 t28:=Tryz.underlying36
 a28:=Tryz.isAgg36
 z28:=Tryz.sizeOf36
 v28:=Tryz.zeroValue36
 t46:=Tryz.underlying133
 a46:=Tryz.isAgg133
 z46:=Tryz.sizeOf133
 v46:=Tryz.zeroValue133
 t51:=Tryz.underlying168
 a51:=Tryz.isAgg168
 z51:=Tryz.sizeOf168
 v51:=Tryz.zeroValue168
 t53:=Tryz.underlying244
 a53:=Tryz.isAgg244
 z53:=Tryz.sizeOf244
 v53:=Tryz.zeroValue244
 t131:=Tryz.underlying45
 a131:=Tryz.isAgg45
 z131:=Tryz.sizeOf45
 v131:=Tryz.zeroValue45
 t182:=Tryz.underlying235
 a182:=Tryz.isAgg235
 z182:=Tryz.sizeOf235
 v182:=Tryz.zeroValue235
 t183:=Tryz.underlying236
 a183:=Tryz.isAgg236
 z183:=Tryz.sizeOf236
 v183:=Tryz.zeroValue236
 t218:=Tryz.underlying258
 a218:=Tryz.isAgg258
 z218:=Tryz.sizeOf258
 v218:=Tryz.zeroValue258
 t222:=Tryz.underlying262
 a222:=Tryz.isAgg262
 z222:=Tryz.sizeOf262
 v222:=Tryz.zeroValue262
 t228:=Tryz.underlying272
 a228:=Tryz.isAgg272
 z228:=Tryz.sizeOf272
 v228:=Tryz.zeroValue272
 t229:=Tryz.underlying76
 a229:=Tryz.isAgg76
 z229:=Tryz.sizeOf76
 v229:=Tryz.zeroValue76 }
def NX:Go.Shelf.Ren:=⟨λ| 20=>100|n=>n,λ| 22=>36|3=>3|4=>4|0=>0|n=>n,λ| n=>n⟩
theorem XG:Go.Proofs.Lays2.n20 Tryz.prog NX:={
 mixed:=by kernel_rfl
 f20:=Tryz.func100.trans (congrArg some (by kernel_rfl))
 t0:=Tryz.underlying0
 a0:=Tryz.isAgg0
 z0:=Tryz.sizeOf0
 v0:=Tryz.zeroValue0
 t3:=Tryz.underlying3
 a3:=Tryz.isAgg3
 z3:=Tryz.sizeOf3
 v3:=Tryz.zeroValue3
 t4:=Tryz.underlying4
 a4:=Tryz.isAgg4
 z4:=Tryz.sizeOf4
 v4:=Tryz.zeroValue4
 t22:=Tryz.underlying36
 a22:=Tryz.isAgg36
 z22:=Tryz.sizeOf36
 v22:=Tryz.zeroValue36
 i3:=by kernel_rfl }
theorem aFS {base:Nat}{e:TypeId}{w:World}{ad:Addr}{n c:Nat}{l:List Nat}(h:Vc.Own base e 1 aX w (.slice (some ad) n c) l):∃g,ad=⟨g,0,none⟩:=by
 rcases h.1.2 with ⟨he,_⟩|⟨g,cap,cr,he,_⟩
 ·cases he
 cases he;exact⟨_,rfl⟩
theorem lJ (l:List Nat)(hl:l.length<1000000000)(base:Nat)(v:Value)(w:World)(ho:Vc.Own base 3 1 aX w v l) :
  aw Tryz.prog 99 [v] w λr w'=>(∃m,bM m=((bM l).mergeSort λx y=>decide (x<=y))/\Vc.Own base 3 1 aX w' v m)/\Kept (λj=>v.ownBlock=some j) w w':=by
 refine dB Tryz.func99 (by kernel_rfl) (by kernel_rfl) ?_;obtain⟨a,c,rfl⟩:=ho.slice;cases a with
 | none =>
  have hz:=(ho.di _ _ rfl).1;have hn:l=[]:=List.eq_nil_of_length_eq_zero hz;subst hn;refine(Any.slices_Sort_int_none aM1 none c w).mono ?_;rintro e w' ⟨rfl,rfl⟩;exact⟨_,rfl,⟨[],by simp[bM],ho⟩,Kept.refl _ _⟩
 | some ad =>
  obtain⟨g,rfl⟩:=aFS ho;have Ad:=ho.block g rfl;have Af:(bM l).length=l.length:=by simp[bM]
  have qq:=Any.slices_Sort_int aM1 g 0 c (bM l) w (Y9 ho) Ad.2 (by omega);rw[Af]at qq;refine Calls.mono qq ?_;rintro e w' ⟨rfl,n,os,rfl⟩;have hp:=List.mergeSort_perm (bM l) (λx y=>decide (x<=y));have rR:bM (((bM l).mergeSort λx y=>decide (x<=y)).map Int.toNat)=((bM l).mergeSort λx y=>decide (x<=y)):=uY λz hz=>by
   have:=hp.mem_iff.1 hz;unfold bM at this;obtain⟨k,_,rfl⟩:=List.mem_map.1 this;omega
  have TU:=aMW (q:=n) (os:=os) ho _ rR.symm (by rw[List.length_map,hp.length_eq,Af]);exact⟨_,rfl,⟨_,rR,TU.1⟩,TU.2.weaken (λi _ h=>by rw[h];rfl)⟩
theorem fw (l:List Nat)(hl:l.length<1000000000)(base:Nat)(v:Value)(w:World)(ho:Vc.Own base 3 1 aX w v l) :
  aw Tryz.prog 100 [v] w λr w'=>(∃m,bM m=Lib.compact (bM l)/\Vc.Own base 3 1 aX w' r m/\∀j,r.ownBlock=some j->v.ownBlock=some j)/\Kept (λj=>v.ownBlock=some j) w w':=by
 refine dB Tryz.func100 (by kernel_rfl) (by kernel_rfl) ?_;obtain⟨a,c,rfl⟩:=ho.slice;cases a with
 | none =>
  have hz:=(ho.di _ _ rfl).1;have hn:l=[]:=List.eq_nil_of_length_eq_zero hz;subst hn;refine(Any.slices_Compact_int_empty XG none c w).mono ?_;rintro e w' ⟨rfl,rfl⟩;exact⟨_,rfl,⟨[],rfl,ho,λj h=>h⟩,Kept.refl _ _⟩
 | some ad =>
  obtain⟨g,rfl⟩:=aFS ho;have Af:(bM l).length=l.length:=by simp[bM]
  have lZ:=Vc.Own.cut ho;have aPC:l.length<=c:=by
   rcases lZ with ⟨h,_⟩|⟨g',_,_,hc,_⟩
   ·cases h
   exact hc
  have qq:=Any.slices_Compact_int XG g 0 c (bM l) w (Y9 ho) (by omega) (by omega);rw[Af]at qq;refine Calls.mono qq ?_;rintro e w' ⟨rfl,q,rfl⟩;have hle:=Lib.compact_length_le (bM l);have rR:bM ((Lib.compact (bM l)).map Int.toNat)=Lib.compact (bM l):=uY λz hz=>by
   unfold Lib.compact Lib.compactUpTo at hz;obtain⟨k,hk,rfl⟩:=List.mem_map.1 hz;have nh:=List.mem_range.1 (List.mem_filter.1 hk).1;have Bs:k<l.length:=by omega
   simp[bM,Bs]
  have aLO:Lib.compact (bM l)++List.replicate (l.length-(Lib.compact (bM l)).length) 0=bM ((Lib.compact (bM l)).map Int.toNat++List.replicate (l.length-(Lib.compact (bM l)).length) 0):=by
   unfold bM;rw[List.map_append];have h1:=rR;unfold bM at h1;rw[h1];simp
  have TU:=aMW (q:=q) (os:=#[]) ho _ aLO (by rw[List.length_append,List.length_map,List.length_replicate];omega);rw[Sort.grow_empty]at TU;have tJ:=Vc.Own.cut TU.1;rcases tJ with ⟨h,_⟩|⟨g',x6,_,_,cg⟩
  ·cases h
  cases x6;have h3:=cg (Lib.compact (bM l)).length (by omega);rw[List.take_left' (by simp)]at h3;exact⟨_,rfl,⟨_,rR,h3,λj h=>h⟩,TU.2.weaken (λi _ h=>by rw[h];rfl)⟩
theorem aEm {X:Nat->Prop}{w:World}{v:Value}{l:List Nat}(h:Sl X 1 (En aX) w v l):Sl X 1 (En Go.Vc.oS) w v (bM l):=by
 obtain⟨a,c,rfl,hc⟩:=h.shape;refine aM0 (by simp[bM]) hc (λ_=>rfl) λi u hu=>?_;unfold bM at hu;rw[List.getElem?_map]at hu;obtain⟨n,hn,rfl⟩:=Option.map_eq_some_iff.1 hu;obtain⟨b,o,e,hX,aM⟩:=h.get hn;exact⟨b,o,e,hX,λj x hx=>aM j x hx⟩
theorem aDn (l:List Nat):(bM l).flatMap Go.Vc.oS=l.flatMap aX:=by
 rw[Xj];unfold bM;induction l with
 | nil=>rfl
 | cons x l ih=>rw[List.map_cons,List.flatMap_cons,List.map_cons,ih];rfl
theorem Zn {base:Nat}{e:TypeId}{w:World}{v:Value}{l:List Nat}(h:Vc.Own base e 1 Go.Vc.oS w v (bM l)):Vc.Own base e 1 aX w v l:=by
 have e1:=aDn l;have e2:(bM l).length=l.length:=by simp[bM]
 refine⟨?_,λ_=>rfl⟩
 have:=h.1;rw[e1,e2]at this;exact this
theorem lQ (l:List Nat)(hl:l.length<1000000000)(X:Nat->Prop)(v:Value)(w:World)(hv:Sl X 1 (En aX) w v l)(ha:Arg v) :
  aw Tryz.prog 55 [v] w λr w'=>Vc.Own w.heap.size 3 1 aX w' r l/\Below w.heap.size w w' :=
 (Py (bM l) (by simp[bM];omega) X v w (aEm hv) ha).mono λr w' ⟨h1,h2⟩=>⟨Zn h1,h2⟩
end Go.Proofs.YtemjejfpadnljaaGreatDoor
namespace Cae
theorem aDi {N:Nat}{R:Nat->Nat->Prop}{l m:List Nat}(hm:m.Pairwise (·<·))(h:∀j,j∈m↔j<=N/\∃i∈l,R i j):m=kH N R l :=
 xJ hm (cO N R l) λj=>by rw[h j,gM]
def EM (has:bB->Int->Prop)(az:List Int)(back:Bool)(l:List aG)(n:Nat):Nat->Nat->Prop:=if back then tz has az back (l.drop (l.length-n)) else oL has az back (l.take n)
section
variable {has:bB->Int->Prop} {az:List Int} {back:Bool}
theorem FN {l:List aG}{i j:Nat}:EM has az back l 0 i j↔i=j:=by
 unfold EM;cases back
 ·simp[oL]
 simp[tz]
theorem Wv {l:List aG}{i j:Nat}:EM has az back l l.length i j↔fG has az back (.cat l) i j:=by
 unfold EM;rw[aEd];cases back
 ·simp
 simp
theorem sS {l:List aG}{n:Nat}{x:aG}{i j:Nat}(hn:n<l.length)(hx:l[if back then l.length-1-n else n]?=some x):EM has az back l (n+1) i j↔∃m,EM has az back l n i m/\fG has az back x m j:=by
 unfold EM;cases back with
 | false =>
  have hx:l[n]?=some x:=hx;rw[if_neg (by simp),if_neg (by simp),List.take_add_one,hx]
  show oL has az false (l.take n++[x]) i j↔_
  rw[aAh];refine exists_congr λm=>and_congr Iff.rfl ?_;simp only[oL];constructor
  ·rintro⟨k,h1,rfl⟩;exact h1
  intro h;exact⟨j,h,rfl⟩
 | true =>
  have hx:l[l.length-1-n]?=some x:=hx;rw[if_pos rfl,if_pos rfl];have aq:l.length-(n+1)<l.length:=by omega
  have e:l.drop (l.length-(n+1))=x::l.drop (l.length-n):=by
   rw[List.drop_eq_getElem_cons aq];have e1:l.length-(n+1)+1=l.length-n:=by omega
   rw[e1];congr 1;have e2:l.length-1-n=l.length-(n+1):=by omega
   rw[e2,List.getElem?_eq_getElem aq]at hx;exact Option.some.inj hx
  rw[e];simp only[tz]
theorem Ps {l:List aG}{n i j:Nat}(hi:i<=az.length)(h:EM has az back l n i j):j<=az.length:=by
 unfold EM at h;split at h
 ·exact Am _ hi h
 exact Ig _ hi h
theorem ZO {x:aG}{lo:Nat}{hi:Int}{from_:List Nat}{j:Nat}:(∃i∈from_,fG has az back (.many x (lo:Int) hi) i j)↔∃t,(hi<0\/((lo+t:Nat):Int)<=hi)/\stM (fG has az back x) from_ (lo+t) j:=by
 constructor
 ·rintro⟨i,hm,h⟩;obtain⟨n,h1,h2,h3⟩:=xH.1 h;refine⟨n-lo,?_,i,hm,?_⟩
  ·rw[show lo+(n-lo)=n by omega];exact h2
  rw[show lo+(n-lo)=n by omega];exact h3
 rintro⟨t,h1,i,hm,h2⟩;exact⟨i,hm,xH.2 ⟨lo+t,by omega,h1,h2⟩⟩
end
theorem sr {l m:List Nat}(hl:l.Pairwise (·<·))(hm:m.Pairwise (·<·))(h:∀x∈l,x∈m)(hlen:l.length=m.length):l=m:=by
 have e:l=m.filter λx=>decide (x∈l):=xJ hl (List.Pairwise.filter _ hm) λx=>by
  rw[List.mem_filter,decide_eq_true_iff];exact⟨λhx=>⟨h x hx,hx⟩,λhx=>hx.2⟩
 have e2:(m.filter λx=>decide (x∈l)).length=m.length:=by rw[<-e];exact hlen
 have cg:=List.length_filter_eq_length_iff.1 e2;exact xJ hl hm λx=>⟨h x,λhx=>of_decide_eq_true (cg x hx)⟩
def usize (c:Nat):Nat:=if c<128 then 1 else if 194<=c/\c<224 then 2 else if 224<=c/\c<240 then 3 else if 240<=c/\c<245 then 4 else 0
theorem Dc (c:Nat):usize c<=4:=by unfold usize;grind
def aA2 (n:Nat):Nat:=if n=2 then 128 else if n=3 then 2048 else if n=4 then 65536 else 0
def qi (n c:Nat):Nat:=if 1<n then c % 2 ^ (7-n) else c
def MT (n p:Nat):Prop:=p<aA2 n\/1114111<p\/(55296<=p/\p<57344)
instance (n p:Nat):Decidable (MT n p):=by unfold MT;infer_instance
def Mp:List UInt8->Nat->Option Nat
 | [],p=>some p
 | c::r,p=>if c.toNat / 64=2 then Mp r (p*64+c.toNat % 64) else none
def fC (s:List UInt8):Nat×Nat:=match s with
 | []=>(0,0)
 | c::_ =>
  let n:=usize c.toNat
  if n=0\/s.length<n then (0,0) else
  match Mp ((s.take n).drop 1) (qi n c.toNat) with
  | none=>(0,0)
  | some p=>if MT n p then (0,0) else (p,n)
structure U where
 p:Nat
 at_:Nat
 n:Nat
 deriving DecidableEq
def gC (s:List UInt8):Nat×Nat:=if (fC s).2=0 then (65533,1) else fC s
theorem tD (s:List UInt8):(fC s).2<=s.length/\(fC s).2<=4/\((fC s).2=0->fC s=(0,0))/\(fC s).1<=1114111:=by
 unfold fC;cases s with
 | nil=>simp
 | cons c s =>
  dsimp only;split
  ·simp
  rename_i h;have hu:=Dc c.toNat;have h1:usize c.toNat≠0:=λe=>h (.inl e);have h2:¬(c::s).length<usize c.toNat:=λe=>h (.inr e);split
  ·simp
  split
  ·simp
  rename_i hb;unfold MT at hb;simp only[not_or,Nat.not_lt]at hb;exact⟨by omega,hu,λe=>absurd e h1,hb.2.1⟩
theorem pZ (s:List UInt8):1<=(gC s).2/\(gC s).2<=4:=by
 unfold gC
 have:=tD s;split<;>first|(simp;done)|(simp;omega)|omega
theorem Dd (s:List UInt8)(h:s≠[]):(gC s).2<=s.length:=by
 unfold gC
 have:=tD s;have:0<s.length:=List.length_pos_iff.2 h;split<;>first|(simp;done)|(simp;omega)|omega
def ix (at_:Nat)(s:List UInt8):List U :=
 if _h:s=[] then [] else ⟨(gC s).1,at_,(gC s).2⟩::ix (at_+(gC s).2) (s.drop (gC s).2)
 termination_by s.length
 decreasing_by
  have h1:=pZ s
  have h2:0<s.length:=List.length_pos_iff.2 (by assumption)
  simp
  omega
theorem sM (a:Nat):ix a []=[]:=by rw[ix];simp
theorem pY (a:Nat)(s:List UInt8)(h:s≠[]):ix a s=⟨(gC s).1,a,(gC s).2⟩::ix (a+(gC s).2) (s.drop (gC s).2):=by rw[ix];simp[h]
theorem sL (n:Nat):∀(s:List UInt8) (a:Nat),s.length=n->(ix a s).length<=s.length:=by
 induction n using Nat.strongRecOn with
 | _ n ih =>
  intro s a hs;by_cases h:s=[]
  ·subst h;simp[sM]
  rw[pY a s h];have h1:=pZ s;have h2:=Dd s h
  have:=ih (s.drop (gC s).2).length (by rw[List.length_drop];omega) (s.drop (gC s).2) (a+(gC s).2) rfl;rw[List.length_drop]at this;simp only[List.length_cons];omega
def Qv (p:Int):Prop:=0<=p/\p<=1114111/\¬(55296<=p/\p<57344)
instance (p:Int):Decidable (Qv p):=by unfold Qv;infer_instance
theorem MU {c:UInt8}{s:List UInt8}(h0:usize c.toNat≠0)(hl:usize c.toNat<=(c::s).length)
  (h:Mp (((c::s).take (usize c.toNat)).drop 1) (qi (usize c.toNat) c.toNat)=none):fC (c::s)=(0,0):=by
 unfold fC;dsimp only;rw[if_neg (by omega),h]
theorem MV {c:UInt8}{s:List UInt8}{p:Nat}(h0:usize c.toNat≠0)(hl:usize c.toNat<=(c::s).length)
  (h:Mp (((c::s).take (usize c.toNat)).drop 1) (qi (usize c.toNat) c.toNat)=some p) :
  fC (c::s)=if MT (usize c.toNat) p then (0,0) else (p,usize c.toNat):=by
 unfold fC;dsimp only;rw[if_neg (by omega),h]
theorem aA4 {s:List UInt8}{n i p:Nat}{R:Option Nat}(hi:i<n)(hn:n<=s.length)(h:Mp ((s.take n).drop i) p=R) :
  (if (s.getD i 0).toNat / 64=2 then Mp ((s.take n).drop (i+1)) (p*64+(s.getD i 0).toNat % 64) else none)=R:=by
 have hl:i<(s.take n).length:=by rw[List.length_take];omega
 rw[List.drop_eq_getElem_cons hl,Mp]at h;have e:(s.take n)[i]=s.getD i 0:=by
  rw[List.getElem_take,List.getD_eq_getElem?_getD,List.getElem?_eq_getElem (by omega)];rfl
 rw[e]at h;exact h
theorem aEI {s:List UInt8}{n i p:Nat}{R:Option Nat}(hi:n<=i)(h:Mp ((s.take n).drop i) p=R):R=some p:=by
 rw[List.drop_eq_nil_of_le (by rw[List.length_take];omega)]at h;exact h.symm
theorem VF {p i k:Nat}(h:p<256*64 ^ (i-1))(h1:1<=i)(hk:k<64):p*64+k<256*64 ^ (i+1-1):=by
 obtain⟨j,rfl⟩:∃j,i=j+1:=⟨i-1,by omega⟩;simp only[Nat.add_sub_cancel]at h ⊢
 rw[Nat.pow_succ];omega
theorem VG {p i:Nat}(h:p<256*64 ^ (i-1))(hi:i<=4):p<67108865:=by
 have:64 ^ (i-1)<=64 ^ 3:=Nat.pow_le_pow_right (by omega) (by omega);omega
end Cae
namespace Go.Proofs.YtemjejfpadnljaaGreatDoor
open Go.Vc Go.Proofs Go.RowKit Cae
attribute [local irreducible] dN ae ak aY runK aw Sl Vc.Own vc aV cJ a7
theorem Jy (l l':List Nat)(hl:l.length<10000000)(X X':Nat->Prop)(v v':Value)(w:World)(hv:Sl X 1 (En aX) w v l)(Q5:Sl X' 1 (En aX) w v' l') :
  aw Tryz.prog 12 [v,v'] w λr w'=>r=.bool (decide (l=l'))/\Below w.heap.size w w':=by
 obtain⟨a,c,rfl,hc⟩:=hv.shape;obtain⟨a',c',rfl,hc'⟩:=Q5.shape;refine aD Tryz.func12 rfl (by kernel_rfl) [4] rfl ?_;push_cast -dsimp(maxSteps:=9^7) [Tryz.ntmps12];refine⟨λcf=>⟨?_,Below.refl _ _⟩,λhe=>?_⟩
 ·rw[decide_eq_false];intro h;subst h;omega
 have QO:l.length=l'.length:=by omega
 refine aK [4,5,13,14,15,16,17,18,19,20,21,22,23,24,25] (λz wx=>∃(i:Nat),z 13=.int .i64 i/\i<=l.length/\l.take i=l'.take i/\Below w.heap.size w wx) (λz _=>l.length-(intOf (z 13)).toNat) ?_ ?_
 ·exact⟨0,rfl,Nat.zero_le _,rfl,Below.refl _ _⟩
 intro z wx hI;obtain⟨i,Hc,hi,bI,hb⟩:=hI;push_cast -dsimp[Hc];refine⟨λaq=>?_,λeo=>?_⟩
 ·obtain⟨x,hx,jJ,hd,ht⟩:=ag (l:=l) (i:=i) (by omega);obtain⟨b,o,rfl,hX,aM⟩:=(hv.below hb).get hx;obtain⟨x',ID,aMB,hd',ht'⟩:=ag (l:=l') (i:=i) (by omega);obtain⟨b',o',rfl,hX',Br⟩:=(Q5.below hb).get ID;refine bu (λw'=>∀a,w'.cell? a=wx.cell? a) mixed (by kernel_rfl) (λ_=>rfl) ?_;have c0:wx.cell? ⟨b,o+i,none⟩=some (.int .i64 (x:Int)):=by simpa using aM 0 _ rfl
  have Rt:wx.cell? ⟨b',o'+i,none⟩=some (.int .i64 (x':Int)):=by simpa using Br 0 _ rfl
  have d0:wx.drew.cell? ⟨b,o+i,none⟩=some (.int .i64 (x:Int)):=c0;have d0':wx.drew.cell? ⟨b',o'+i,none⟩=some (.int .i64 (x':Int)):=Rt;push_cast -dsimp[d0,d0'];refine⟨⟨by omega,by omega⟩,λbQ hC=>by rw[hC,c0];exact rfl,⟨by omega,by omega⟩,λbQ hC=>by rw[hC,Rt];exact rfl,λcf=>?_,λheq=>?_⟩
  ·refine⟨?_,hb.drew⟩;rw[decide_eq_false];intro h;subst h;rw[hx]at ID;cases ID;exact cf rfl
  have heq:x=x':=by omega
  exact⟨⟨by omega,by omega⟩,⟨i+1,rfl,by omega,by rw[ht,ht',bI,heq],hb.drew⟩,by rw[Hc];simp only[intOf];omega⟩
 refine⟨?_,hb⟩;rw[List.take_of_length_le (by omega),List.take_of_length_le (by omega)]at bI;rw[decide_eq_true bI]
def vH (w:World):Prop:=∀k:Nat,k<5->w.cell? ⟨0,k,none⟩=some (.int .i64 (aA2 k))
theorem vH.below {w w':World}(h:vH w)(hb:Below w.heap.size w w'):vH w':=λk hk=>by
 have:=h k hk;exact(hb.cell (World.block_lt_of_cell? w _ this)).trans this
theorem aII (c:Nat)(w:World):aw Tryz.prog 58 [.int .u8 c] w λv w'=>v=.int .i64 (usize c)/\w'=w:=by
 refine aD Tryz.func58 rfl (by kernel_rfl) [2] rfl ?_;push_cast -dsimp(maxSteps:=9^7) [Tryz.ntmps58];simp only[Value.int.injEq,usize];grind
theorem ZF {n c:Nat}(hn:n<=4)(h1:1<n)(hc:c<256) :
  cR .and .i64 (IntKind.i64.wrap (c:Int)) (IntKind.i64.wrap (1*2 ^ min ((7:Int)-n).toNat IntKind.i64.bits)-1)=((qi n c:Nat):Int):=by
 have e:n=2\/n=3\/n=4:=by omega
 rw[dJ (by omega)];rcases e with rfl|rfl|rfl
 ·rw[show IntKind.i64.wrap (1*2 ^ min ((7:Int)-(2:Nat)).toNat IntKind.i64.bits)-1=((2 ^ 5-1:Nat):Int) from by decide,mS (by omega) (by omega),mz];rfl
 ·rw[show IntKind.i64.wrap (1*2 ^ min ((7:Int)-(3:Nat)).toNat IntKind.i64.bits)-1=((2 ^ 4-1:Nat):Int) from by decide,mS (by omega) (by omega),mz];rfl
 rw[show IntKind.i64.wrap (1*2 ^ min ((7:Int)-(4:Nat)).toNat IntKind.i64.bits)-1=((2 ^ 3-1:Nat):Int) from by decide,mS (by omega) (by omega),mz];rfl
theorem MW {n c:Nat}(hc:c<256):qi n c<256:=by
 unfold qi;split
 ·exact Nat.lt_of_le_of_lt (Nat.mod_le _ _) hc
 exact hc
theorem XN (c:UInt8):cR .and .u8 (c.toNat:Int) 192=((c.toNat / 64*64:Nat):Int):=by
 have hc:=c.toNat_lt;rw[show (192:Int)=((192:Nat):Int) from rfl,rG hc (by omega)]
 congr 1;have:∀k:Nat,k<256->k &&& 192=k / 64*64:=by decide
 exact this _ hc
theorem aDz (c:UInt8):cR .and .u8 (c.toNat:Int) 63=((c.toNat % 64:Nat):Int):=by
 have hc:=c.toNat_lt;rw[show (63:Int)=((2 ^ 6-1:Nat):Int) from rfl,rG hc (by omega),mz]
theorem aDJ {p c:Nat}(hp:p<2147483648) :
  cR .or .i64 (IntKind.i64.wrap ((p:Int)*2 ^ min (6:Int).toNat IntKind.i64.bits)) (IntKind.i64.wrap ((c % 64:Nat):Int))=((p*64+c % 64:Nat):Int):=by
 rw[aEj (k:=6) rfl (by omega) (by omega),dJ (by omega),lN (by omega) (by omega),qO (by omega)]
theorem Bj {c:UInt8}{s':List UInt8}{i p:Nat}(h1:¬(usize c.toNat:Int)=0)(h2:¬(s'.length:Int)+1<usize c.toNat)
  (QR:1<=i) (hp:p<256*64 ^ (i-1)) (QS:i<=usize c.toNat)
  (hr:Mp (((c::s').take (usize c.toNat)).drop i) p=Mp (((c::s').take (usize c.toNat)).drop 1) (qi (usize c.toNat) c.toNat)) :
  (i<usize c.toNat ->
   (cR .and .u8 (((c::s').getD i 0).toNat:Int) 192≠128->fC (c::s')=(0,0)) /\
   (¬cR .and .u8 (((c::s').getD i 0).toNat:Int) 192≠128->∃q:Nat,
    cR .or .i64 (IntKind.i64.wrap ((p:Int)*2 ^ min (6:Int).toNat IntKind.i64.bits)) (IntKind.i64.wrap (cR .and .u8 (((c::s').getD i 0).toNat:Int) 63))=(q:Int) /\
    q<256*64 ^ (i+1-1)/\Mp (((c::s').take (usize c.toNat)).drop (i+1)) q=Mp (((c::s').take (usize c.toNat)).drop 1) (qi (usize c.toNat) c.toNat))) /\
  (¬i<usize c.toNat->fC (c::s')=if MT (usize c.toNat) p then (0,0) else (p,usize c.toNat)):=by
 have hu:=Dc c.toNat;have hl:usize c.toNat<=(c::s').length:=by simp only[List.length_cons];omega
 have h0:usize c.toNat≠0:=by omega
 refine⟨λaq=>?_,λeo=>MV h0 hl (aEI (by omega) hr)⟩;have dW:=aA4 aq hl hr;rw[XN,aDz];generalize (c::s').getD i 0=x at dW ⊢
 refine⟨λhx=>?_,λhx=>?_⟩
 ·rw[if_neg (by omega)]at dW;exact MU h0 hl dW.symm
 rw[if_pos (by omega)]at dW;exact⟨_,aDJ (by have:=VG hp (by omega);omega),VF hp QR (Nat.mod_lt _ (by omega)),dW⟩
theorem aCf (s:List UInt8)(hs:s.length<1000000)(h0:s≠[])(w:World)(hg:vH w) :
  aw Tryz.prog 32 [str s] w λv w'=>v=.tuple #[.int .i64 (fC s).1,.int .i64 (fC s).2]/\Below w.heap.size w w':=by
 obtain⟨c,s',rfl⟩:=List.exists_cons_of_ne_nil h0;have hl:0<((c::s').length:Int):=by simp
 refine aD Tryz.func32 rfl (by kernel_rfl) [2,3] rfl ?_;push_cast -dsimp(maxSteps:=9^7) [Tryz.ntmps32];refine⟨hl,?_⟩;refine aA (aII _ w) ?_;rintro v w' ⟨rfl,rfl⟩;have hu:=Dc c.toNat;have hc:=c.toNat_lt;simp only[List.getD_cons_zero];push_cast -dsimp
 repeat' first|apply And.intro|intro _
 all_goals try exact hl
 all_goals try simp only[List.getD_cons_zero]
 all_goals try exact Below.refl _ _
 ·rename_i h1 h2;have e:fC (c::s')=(0,0):=by unfold fC;simp;intro h3;omega
  rw[e];rfl
 ·rename_i h1 h2 h3;refine bu (λ_=>True) mixed (by kernel_rfl) trivial ?_;push_cast -dsimp;refine⟨by omega,by omega,by omega,?_,?_⟩
  ·have e:usize c.toNat=2\/usize c.toNat=3\/usize c.toNat=4:=by omega
   rcases e with e|e|e<;>rw[e]<;>decide
  simp only[List.getD_cons_zero];rw[ZF hu (by omega) hc];refine aK [2,3,4,29,30,31,32,33,34,35,36,37,38,39,40,41,42,43,44,45,46] (λz wx=>∃i p:Nat,z 4=.int .i64 i/\z 2=.int .i64 p/\z 3=.int .i64 (usize c.toNat)/\1<=i/\i<=usize c.toNat/\p<256*64 ^ (i-1) /\
   Mp (((c::s').take (usize c.toNat)).drop i) p=Mp (((c::s').take (usize c.toNat)).drop 1) (qi (usize c.toNat) c.toNat)/\Below w'.heap.size w' wx) (λz _=>usize c.toNat-(intOf (z 4)).toNat) ?_ ?_
  ·exact⟨1,_,rfl,rfl,rfl,Nat.le_refl _,by omega,by simpa using MW hc,rfl,(Below.refl _ _).drew⟩
  intro z wx hI;obtain⟨i,p,h4,h2',h3',QR,QS,hp,hr,hb⟩:=hI;have hgn:=(hg.below hb) (usize c.toNat) (by omega);push_cast -dsimp[h4,h2',h3',hgn];obtain⟨hA,hB⟩:=Bj h1 h2 QR hp QS hr;refine⟨λaq=>?_,λeo=>?_⟩
  ·obtain⟨hA1,hA2⟩:=hA (by omega);refine⟨⟨by omega,by omega⟩,λhx=>⟨by rw[hA1 hx];rfl,hb⟩,λhx=>?_⟩;obtain⟨q,OA,hq2,hq3⟩:=hA2 hx;exact⟨⟨by omega,by omega⟩,⟨by omega,by omega⟩,⟨i+1,q,rfl,congrArg _ OA,by omega,by omega,hq2,hq3,hb⟩,by simp only[intOf];omega⟩
  have hB:=hB (by omega);rw[hB];simp only[MT];refine⟨⟨by omega,by omega⟩,?_⟩
  repeat' first|apply And.intro|intro _
  all_goals first|exact hb|omega|skip
  all_goals grind
 ·rename_i h1 h2 h3;refine aK [2,3,4,29,30,31,32,33,34,35,36,37,38,39,40,41,42,43,44,45,46] (λz wx=>∃i p:Nat,z 4=.int .i64 i/\z 2=.int .i64 p/\z 3=.int .i64 (usize c.toNat)/\1<=i/\i<=usize c.toNat/\p<256*64 ^ (i-1) /\
   Mp (((c::s').take (usize c.toNat)).drop i) p=Mp (((c::s').take (usize c.toNat)).drop 1) (qi (usize c.toNat) c.toNat)/\Below w'.heap.size w' wx) (λz _=>usize c.toNat-(intOf (z 4)).toNat) ?_ ?_
  ·refine⟨1,_,rfl,?_,rfl,Nat.le_refl _,by omega,by simpa using MW hc,rfl,Below.refl _ _⟩;have e:qi (usize c.toNat) c.toNat=c.toNat:=by unfold qi;rw[if_neg (by omega)]
   rw[e];exact congrArg _ (dJ (by omega))
  intro z wx hI;obtain⟨i,p,h4,h2',h3',QR,QS,hp,hr,hb⟩:=hI;have hgn:=(hg.below hb) (usize c.toNat) (by omega);push_cast -dsimp[h4,h2',h3',hgn];obtain⟨hA,hB⟩:=Bj h1 h2 QR hp QS hr;refine⟨λaq=>?_,λeo=>?_⟩
  ·obtain⟨hA1,hA2⟩:=hA (by omega);refine⟨⟨by omega,by omega⟩,λhx=>⟨by rw[hA1 hx];rfl,hb⟩,λhx=>?_⟩;obtain⟨q,OA,hq2,hq3⟩:=hA2 hx;exact⟨⟨by omega,by omega⟩,⟨by omega,by omega⟩,⟨i+1,q,rfl,congrArg _ OA,by omega,by omega,hq2,hq3,hb⟩,by simp only[intOf];omega⟩
  have hB:=hB (by omega);rw[hB];simp only[MT];refine⟨⟨by omega,by omega⟩,?_⟩
  repeat' first|apply And.intro|intro _
  all_goals first|exact hb|omega|skip
  all_goals grind
 rename_i h1;have e:fC (c::s')=(0,0):=by unfold fC;simp;intro h3;omega
 rw[e];rfl
def xq (u:U):List Value:=[.int .i64 u.p,.int .i64 u.at_,.int .i64 u.n]
theorem Jq (s:List UInt8)(hs:s.length<1000000)(w:World)(hg:vH w) :
  aw Tryz.prog 18 [str s] w λv w'=>Vc.Own w.heap.size 55 3 xq w' v (ix 0 s)/\Below w.heap.size w w':=by
 refine aD Tryz.func18 rfl (by kernel_rfl) [2] rfl ?_;push_cast -dsimp(maxSteps:=9^7) [Tryz.ntmps18];refine aK [3,4,5,6,7,8,9,10,11,12,13,14,15,16,17,18,19,20,21,22,23,24,25,26,27,28,29] (λz wx=>∃(i:Nat) (acc:List U),z 4=.int .i64 i/\i<=s.length/\acc.length<=i/\acc++ix i (s.drop i)=ix 0 s /\
  Vc.Own w.heap.size 55 3 xq wx (z 3) acc/\Below w.heap.size w wx) (λz _=>s.length-(intOf (z 4)).toNat) ?_ ?_
 ·exact⟨0,[],rfl,Nat.zero_le _,Nat.le_refl _,rfl,Vc.Own.nil (enc:=xq) _ _ (λ_=>rfl) _,Below.refl _ _⟩
 intro z wx hI;obtain⟨i,acc,h4,hi,ha,hd,ho,hb⟩:=hI;push_cast -dsimp[h4];refine⟨λaq=>⟨⟨by omega,by omega⟩,?_⟩,λeo=>?_⟩
 ·have cf:s.drop i≠[]:=by intro h;have:=congrArg List.length h;simp only[List.length_drop,List.length_nil]at this;omega
  refine aA (aCf (s.drop i) (by rw[List.length_drop];omega) cf wx (hg.below hb)) ?_;rintro v w1 ⟨rfl,gS⟩;push_cast -dsimp;have bm:=Dd (s.drop i) cf;have vC:=pZ (s.drop i);have hu:=tD (s.drop i);have aFr:=pY i (s.drop i) cf;refine⟨λh0=>?_,λh0=>?_⟩
  ·have e:gC (s.drop i)=(65533,1):=by unfold gC;rw[if_pos (by omega)]
   refine cF Gt rfl rfl (by omega) ?_;intro w2 bP;push_cast -dsimp;refine Po (ys:=[⟨65533,i,1⟩]) (enc:=xq) Gt ((ho.below gS).below bP.below) (λj u hu=>by simpa using bP.cell hu) (by simp[xq,Value.oneCell']) (by simp only[List.length_cons,List.length_nil];omega) (by have:=hb.size;have:=gS.size;have:=bP.size;omega) ?_;intro v' w3 nL _ gB;push_cast -dsimp;refine⟨⟨by omega,by omega⟩,⟨i+1,_,rfl,by rw[List.length_drop]at bm;rw[e]at bm;(try dsimp only at bm);omega,?_,?_,nL,
    (hb.trans (gS.mono hb.size)).trans ((bP.below.mono (Nat.le_trans hb.size gS.size)).trans gB)⟩,?_⟩
   ·rw[e]at vC;simp only[List.length_append,List.length_cons,List.length_nil];(try dsimp only at vC);omega
   ·rw[<-hd,aFr,e,List.drop_drop,List.append_assoc];rfl
   rw[e]at vC;rw[h4];simp only[intOf];(try dsimp only at vC);omega
  have e:gC (s.drop i)=fC (s.drop i):=by unfold gC;rw[if_neg (by omega)]
  refine cF Gt rfl rfl (by omega) ?_;intro w2 bP;push_cast -dsimp;refine Po (ys:=[⟨(fC (s.drop i)).1,i,(fC (s.drop i)).2⟩]) (enc:=xq) Gt ((ho.below gS).below bP.below) (λj u hu=>by simpa using bP.cell hu) (by simp[xq,Value.oneCell']) (by simp only[List.length_cons,List.length_nil];omega) (by have:=hb.size;have:=gS.size;have:=bP.size;omega) ?_;intro v' w3 nL _ gB;push_cast -dsimp;refine⟨⟨by omega,by omega⟩,⟨i+(fC (s.drop i)).2,_,rfl,by rw[List.length_drop]at bm;rw[e]at bm;(try dsimp only at bm);omega,?_,?_,nL,
   (hb.trans (gS.mono hb.size)).trans ((bP.below.mono (Nat.le_trans hb.size gS.size)).trans gB)⟩,?_⟩
  ·rw[e]at vC;simp only[List.length_append,List.length_cons,List.length_nil];(try dsimp only at vC);omega
  ·rw[<-hd,aFr,e,List.drop_drop,List.append_assoc];rfl
  rw[e]at vC;rw[h4];simp only[intOf];(try dsimp only at vC);omega
 have e:s.drop i=[]:=List.drop_eq_nil_of_le (by omega);rw[e,sM,List.append_nil]at hd;rw[<-hd];exact⟨ho,hb⟩
def bJ (us:List U):List Int:=us.map λu=>(u.p:Int)
theorem fI (us:List U):(bJ us).length=us.length:=by simp[bJ]
theorem Ld {us:List U}{i:Nat}{u:U}(h:us[i]?=some u):(bJ us)[i]?=some (u.p:Int):=by unfold bJ;rw[List.getElem?_map,h];rfl
def bC (nm:bK)(k:bB)(p:Int):Prop:=∃s,cK nm k=.ok s/\fO s p=true
structure Mr (X:Nat->Prop)(w:World)(rb mb:Nat)(us:List U)(nm:bK)(back:Bool):Prop where
 st:∃lv,aN w rb 148 [lv,.map (some mb),.bool back]/\Sl X 3 (En xq) w lv us
 nv:fu X w mb nm
 rt:iG nm
 len:us.length<=1000
theorem Mr.below {X:Nat->Prop}{w w':World}{rb mb:Nat}{us:List U}{nm:bK}{back:Bool}(h:Mr X w rb mb us nm back)(hb:Below w.heap.size w w'):Mr X w' rb mb us nm back:=by
 obtain⟨lv,h1,h2⟩:=h.st;exact⟨⟨lv,h1.below hb h1.lt,h2.below hb⟩,h.nv.below hb,h.rt,h.len⟩
theorem yc (w:World):Below w.heap.size w w.drew:=((Kept.refl (λ_=>False) w).drew).below (Nat.le_refl _) (λ_ h=>h.elim)
def aJV (az:List Int)(back:Bool)(i:Nat)(r:Value):Prop:=(∃(j:Nat) (p:Int),fS az back i=some (j,p)/\r=.tuple #[.int .i64 j,.int .i64 p])\/(fS az back i=none/\r=.tuple #[.int .i64 (-1),.int .i64 0])
theorem Ox {X:Nat->Prop}{w:World}{rb mb:Nat}{us:List U}{nm:bK}{back:Bool}(h:Mr X w rb mb us nm back)(i:Nat)(hi:i<=us.length) :
  aw Tryz.prog 96 [.pointer (some ⟨rb,0,none⟩),.int .i64 i] w λr w'=>aJV (bJ us) back i r/\Below w.heap.size w w':=by
 have hlen:=h.len;obtain⟨lv,hB,hs⟩:=h.st;obtain⟨la,lc,rfl,Kf⟩:=hs.shape;have d0:w.cell? ⟨rb,0,none⟩=some (.slice la us.length lc):=hB.cell rfl;have d2:w.cell? ⟨rb,2,none⟩=some (.bool back):=hB.cell rfl;have d0d:w.drew.cell? ⟨rb,0,none⟩=some (.slice la us.length lc):=d0;cases back with
 | true =>
  (refine aD Tryz.func96 rfl (by kernel_rfl) [4,5] rfl ?_;push_cast -dsimp(maxSteps:=9^7) [Tryz.ntmps96]);push_cast -dsimp[d2];refine⟨λh0=>⟨.inr ⟨?_,rfl⟩,Below.refl _ _⟩,λh0=>?_⟩
  ·have:i=0:=by omega
   subst this;simp[fS]
  obtain⟨u,hu⟩:∃u,us[i-1]?=some u:=⟨us[i-1]'(by omega),List.getElem?_eq_getElem (by omega)⟩;obtain⟨b,o,rfl,hX,aM⟩:=hs.get hu;have c0:w.cell? ⟨b,o+(i-1)*3,none⟩=some (.int .i64 u.p):=by simpa using aM 0 _ rfl
  have c0d:w.drew.cell? ⟨b,o+(i-1)*3,none⟩=some (.int .i64 u.p):=c0;have tn:((i:Int)-1).toNat=i-1:=by omega
  refine bu (λw'=>∀a,w'.cell? a=w.cell? a) mixed (by kernel_rfl) (λ_=>rfl) ?_;push_cast -dsimp[d0d,tn,c0d];have ei:((i:Int)-1)=((i-1:Nat):Int):=by omega
  refine⟨⟨by omega,by omega⟩,λbQ h=>by rw[h,d0];exact rfl,⟨by omega,by omega⟩,⟨by omega,by omega⟩,λbQ h=>by rw[h,c0];exact rfl,.inl ⟨i-1,u.p,?_,by rw[ei]⟩,yc w⟩;unfold fS;rw[if_pos rfl,if_neg (by omega),Ld hu];rfl
 | false =>
  (refine aD Tryz.func96 rfl (by kernel_rfl) [4,5] rfl ?_;push_cast -dsimp(maxSteps:=9^7) [Tryz.ntmps96]);push_cast -dsimp[d2,d0];refine⟨λh0=>⟨.inr ⟨?_,rfl⟩,Below.refl _ _⟩,λh0=>?_⟩
  ·unfold fS;rw[if_neg (by simp),List.getElem?_eq_none (by rw[fI];omega)];rfl
  obtain⟨u,hu⟩:∃u,us[i]?=some u:=⟨us[i]'(by omega),List.getElem?_eq_getElem (by omega)⟩;obtain⟨b,o,rfl,hX,aM⟩:=hs.get hu;have c0:w.cell? ⟨b,o+i*3,none⟩=some (.int .i64 u.p):=by simpa using aM 0 _ rfl
  have c0d:w.drew.cell? ⟨b,o+i*3,none⟩=some (.int .i64 u.p):=c0;refine bu (λw'=>∀a,w'.cell? a=w.cell? a) mixed (by kernel_rfl) (λ_=>rfl) ?_;push_cast -dsimp[d0d,c0d];have ei:((i:Int)+1)=((i+1:Nat):Int):=by omega
  refine⟨⟨by omega,by omega⟩,λbQ h=>by rw[h,d0];exact rfl,⟨by omega,by omega⟩,λbQ h=>by rw[h,c0];exact rfl,.inl ⟨i+1,u.p,?_,by rw[ei]⟩,yc w⟩;unfold fS;rw[if_neg (by simp),Ld hu];rfl
theorem aGW {X:Nat->Prop}{w:World}{rb mb:Nat}{us:List U}{nm:bK}{back:Bool}(h:Mr X w rb mb us nm back)(k:bB)(hk:gU k)(v:Value)(hv:fE X w v k)(p:Int) :
  aw Tryz.prog 97 [.pointer (some ⟨rb,0,none⟩),v,.int .i64 p] w λr w'=>(∃b:Bool,r=.bool b/\(b=true↔bC nm k p))/\Below w.heap.size w w':=by
 obtain⟨lv,hB,hs⟩:=h.st;have d1:w.cell? ⟨rb,1,none⟩=some (.map (some mb)):=hB.cell rfl;refine aD Tryz.func97 rfl (by kernel_rfl) [6] rfl ?_;push_cast -dsimp(maxSteps:=9^7) [Tryz.ntmps97];push_cast -dsimp[d1];refine aA (A9 k hk nm h.rt X v mb w hv h.nv) ?_;rintro r w1 ⟨hR,gS⟩;have z1:=gS.size;unfold dG at hR;cases Nv:cK nm k with
 | ok s =>
  rw[Nv]at hR;obtain⟨v1,rfl,gE,Mg⟩:=hR;have iW:=eQ h.rt hk Nv;have hls:=eW iW;obtain⟨_,_,rfl,_⟩:=gE.shape;push_cast -dsimp;refine aA (aFn s (by omega) iW p _ _ w1 gE) ?_;rintro _ w2 ⟨rfl,dt⟩;push_cast -dsimp;exact⟨⟨_,rfl,λhh=>⟨s,Nv,hh⟩,λ⟨t,ht,hh⟩=>by rw[Nv]at ht;cases ht;exact hh⟩,gS.trans (dt.mono z1)⟩
 | error e =>
  rw[Nv]at hR;obtain⟨eb,Dx,rfl,hE⟩:=hR;push_cast -dsimp;refine⟨⟨false,rfl,?_⟩,gS⟩;constructor
  ·intro hh;cases hh
  rintro⟨t,ht,hh⟩;rw[Nv]at ht;cases ht
end Go.Proofs.YtemjejfpadnljaaGreatDoor
