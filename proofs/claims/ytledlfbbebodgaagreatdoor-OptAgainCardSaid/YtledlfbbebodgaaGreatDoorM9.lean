/- Texts of this claim, merged: PatN, Has, So1, Grow, Sort, So2, Not, Conc, Mn1, Pwd0, Mn2, Mn3, Cl0, EncN, Ms, EqN, Mt, Pmean5, Putf, Utf, Dec, Mn4. -/
import Derived.Test.YtledlfbbebodgaaGreatDoorM8
import Derived.Sort.Grow
import Derived.Shelf.Spec.SlicesGrow
import Derived.Shelf.SlSortCmp.WholeK
import Derived.Shelf.SlSortCmp.NoneTotal
import Derived.Shelf.Sort.Plain
import Derived.Shelf.Slices.CompactI
import Derived.Lib.SlicesCompact
import Derived.Ground.Names2Prog
import Derived.Lib.RowBridge
import Derived.Shelf.Slices.In.SortNone
set_option maxRecDepth 100000
set_option linter.unusedSimpArgs false
set_option linter.unusedVariables false
set_option maxHeartbeats 8000000
section
namespace Go.Proofs.YtledlfbbebodgaaGreatDoor
open Go.Vc Go.Proofs Go.RowKit Cae
attribute [local irreducible] dd ae ak a7 runK bE Sl Vc.Own vc aU cJ a8
theorem bl (w:World):Below w.heap.size w w.drew:=((Kept.refl (λ_=>False) w).drew).below (Nat.le_refl _) (λ_ h=>h.elim)
theorem eY.drew {X:Nat->Prop}{w:World}{k:ao}{v:Value}(h:eY X w v k):eY X w.drew v k :=
 h.mono (X:=X) ((Kept.refl (λ_=>False) w).drew) (λ_ h=>h.elim) (λ_ h=>h)
theorem aQ.nth {X:Nat->Prop}{w:World}:∀{l:List aF} {vs:List Nat} {i:Nat} {x:aF},aQ X w vs l->l[i]?=some x->∃u,vs[i]?=some u/\ai X w (bd u) x
 | [],_,i,x,_,hx=>by simp at hx
 | _::_,[],_,_,h,_=>by simp only[aQ]at h
 | y::l,v::vs,0,x,h,hx=>by
  simp only[aQ]at h;cases hx;exact⟨v,rfl,h.1⟩
 | y::l,v::vs,i+1,x,h,hx=>by
  simp only[aQ]at h;exact aQ.nth (i:=i) h.2 (by simpa using hx)
theorem fe:∀{l:List aF} {x:aF},bz l->x∈l->aj x
 | y::l,x,h,hx=>by
  simp only[bz]at h;rcases List.mem_cons.1 hx with rfl|hx
  ·exact h.1
  exact fe h.2 hx
theorem jf.below {X:Nat->Prop}{w w':World}{v:Value}{f:dw}(h:jf X w v f)(hb:Below w.heap.size w w'):jf X w' v f:=by
 obtain⟨cv,rv,cs,rs,rfl,S1,S2,A1,A2⟩:=h;exact⟨cv,rv,cs,rs,rfl,S1.below hb,S2.below hb,A1.imp λa c h=>⟨h.1,h.2.1,h.2.2.below hb⟩,A2.imp λa c h=>⟨h.1,h.2.1,h.2.2.1.below hb,h.2.2.2.below hb⟩⟩
theorem I4 (r:Rg)(p:Int)(w:World):bE Tryz.prog 90 [.agg #[.int .i64 r.1,.int .i64 r.2],.int .i64 p] w λv w'=>v=.int .i64 (if r.2<p then -1 else if p<r.1 then 1 else 0)/\Below w.heap.size w w':=by
 refine aE Tryz.func90 rfl (by kernel_rfl) [4] rfl ?_;push_cast -dsimp(maxSteps:=4000000) [Tryz.ntmps90];refine aR ?_;intro w1 aZ;have c0:w1.cell? ⟨w.heap.size,0,none⟩=some (.int .i64 r.1):=aZ.cell rfl;have c1:w1.cell? ⟨w.heap.size,1,none⟩=some (.int .i64 r.2):=aZ.cell rfl;push_cast -dsimp[c0,c1];refine⟨λh=>?_,λh=>⟨λh2=>?_,λh2=>?_⟩⟩
 ·rw[if_pos h];exact⟨rfl,aZ.below⟩
 ·rw[if_neg h,if_pos h2];exact⟨rfl,aZ.below⟩
 rw[if_neg h,if_neg h2];exact⟨rfl,aZ.below⟩
theorem aEg {s:List Rg}(hr:aP (-2) s=true){p:Int}{i:Nat}(h1:∀(k:Nat) (r:Rg),k<i->s[k]?=some r->r.2<p)(h2:∀(k:Nat) (r:Rg),i<=k->s[k]?=some r->¬r.2<p) :
  fK s p=match s[i]? with|some r=>decide (r.1<=p)|none=>false:=by
 unfold fK;cases hi:s[i]? with
 | none =>
  rw[List.any_eq_false];intro r hm;obtain⟨k,hk⟩:=List.getElem?_of_mem hm;have aw:=(List.getElem?_eq_some_iff.1 hk).1
  have:=List.getElem?_eq_none_iff.1 hi
  have:=h1 k r (by omega) hk;simp only[decide_eq_true_eq];omega
 | some r =>
  have vx:=h2 i r (Nat.le_refl _) hi;by_cases hp:r.1<=p
  ·dsimp only;rw[decide_eq_true hp,List.any_eq_true];exact⟨r,List.mem_of_getElem? hi,by simp only[decide_eq_true_eq];omega⟩
  dsimp only;rw[decide_eq_false hp,List.any_eq_false];intro q hm;obtain⟨k,hk⟩:=List.getElem?_of_mem hm;simp only[decide_eq_true_eq];rcases Nat.lt_trichotomy k i with aw|heq|HF
  ·have:=h1 k q aw hk;omega
  ·subst heq;rw[hi]at hk;cases hk;omega
  have:=(cf s (-2) hr i r hi).2.2.2 k q HF hk
  have:=(cf s (-2) hr i r hi).2.1;omega
theorem YD (s:List Rg)(hs:s.length<1000000000)(hr:aP (-2) s=true)(p:Int)(X:Nat->Prop)(v:Value)(w:World)(hv:Sl X 2 (En bL) w v s) :
  bE Tryz.prog 89 [v,.int .i64 p,.func (.func 90) #[] #[]] w λr w'=>(∃i:Int,r=.tuple #[.int .i64 i,.bool (fK s p)])/\Below w.heap.size w w':=by
 obtain⟨a,c,rfl,hc⟩:=hv.shape;refine aE Tryz.func89 rfl (by kernel_rfl) [6,7] rfl ?_;push_cast -dsimp(maxSteps:=4000000) [Tryz.ntmps89];refine aL [9,10,11,15,16,17,18,19,20,21,22,23,24,25,26,27,28,29,30,31,32,33,34] (λz wx=>∃(i j:Nat),z 9=.int .i64 i/\z 10=.int .i64 j/\i<=j/\j<=s.length/\(∀(k:Nat) (r:Rg),k<i->s[k]?=some r->r.2<p)/\(∀(k:Nat) (r:Rg),j<=k->s[k]?=some r->¬r.2<p)/\Below w.heap.size w wx) (λz _=>(intOf (z 10)).toNat-(intOf (z 9)).toNat) ?_ ?_
 ·refine⟨0,s.length,rfl,rfl,Nat.zero_le _,Nat.le_refl _,λk r hk=>absurd hk (by omega),λk r hk h=>?_,Below.refl _ _⟩
  have:=(List.getElem?_eq_some_iff.1 h).1;omega
 intro z wx hI;obtain⟨i,j,h9,vK,Yi,hj,yn,Sz,hb⟩:=hI;push_cast -dsimp[h9,vK];refine⟨λaw=>?_,λfT=>?_⟩
 ·have e:IntKind.i64.wrap ((IntKind.u64.wrap ((i:Int)+(j:Int))).fdiv (2 ^ min 1 IntKind.u64.bits))=(((i+j) / 2:Nat):Int):=by
   show IntKind.i64.wrap ((IntKind.u64.wrap ((i:Int)+(j:Int))).fdiv (2 ^ min (1:Int).toNat IntKind.u64.bits))=_
   rw[show (i:Int)+(j:Int)=((i+j:Nat):Int) by omega,fS,Nat.mod_eq_of_lt (by omega),OZ (k:=1) (kd:=.u64) rfl (by decide)]
   exact gH (by omega)
  have jC:i<=(i+j) / 2:=by omega
  have dG:(i+j) / 2<j:=by omega
  generalize (i+j) / 2=m at e jC dG;rw[e];obtain⟨x,hx,jQ,hdx,ht⟩:=au (l:=s) (i:=m) (by omega);obtain⟨b,o,rfl,hX,aK⟩:=(hv.below hb).get hx;have c0:aB wx ⟨b,o+m*2,none⟩ 0 2=some [.int .i64 x.1,.int .i64 x.2]:=ax (bL x) 0 (λj u hu=>by simpa using aK j u hu);push_cast -dsimp[c0];refine⟨⟨by omega,by omega⟩,⟨by omega,by omega⟩,?_⟩;refine aA (I4 x p wx) ?_;rintro _ w1 ⟨rfl,gX⟩;have nF:=hb.trans (gX.mono hb.size);push_cast -dsimp;refine⟨λuN=>⟨⟨by omega,by omega⟩,⟨m+1,j,rfl,rfl,by omega,hj,λk r hk Nf=>?_,Sz,nF⟩,?_⟩,λpC=>⟨⟨i,m,rfl,rfl,by omega,by omega,yn,λk r hk Nf=>?_,nF⟩,?_⟩⟩
  ·have HN:x.2<p:=by
    by_cases h:x.2<p
    ·exact h
    rw[if_neg h]at uN;split at uN<;>omega
   rcases Nat.lt_or_ge k m with AZ|aNg
   ·have:=(cf s (-2) hr k r Nf).2.2.2 m x AZ hx
    have:=(cf s (-2) hr m x hx).2.1;omega
   have xO:k=m:=by omega
   subst xO;rw[hx]at Nf;cases Nf;exact HN
  ·rw[h9,vK];simp only[intOf];omega
  ·have HN:¬x.2<p:=by
    intro h;rw[if_pos h]at pC;omega
   rcases Nat.lt_or_ge m k with AZ|aNg
   ·have:=(cf s (-2) hr m x hx).2.2.2 k r AZ Nf
    have:=(cf s (-2) hr k r Nf).2.1;omega
   have xO:k=m:=by omega
   subst xO;rw[hx]at Nf;cases Nf;exact HN
  rw[h9,vK];simp only[intOf];omega
 have nI:j=i:=by omega
 subst nI;have Fj:=aEg hr yn Sz;refine⟨λnH=>?_,λiu=>?_⟩
 ·obtain⟨x,hx,jQ,hdx,ht⟩:=au (l:=s) (i:=j) (by omega);obtain⟨b,o,rfl,hX,aK⟩:=(hv.below hb).get hx;have c0:aB wx ⟨b,o+j*2,none⟩ 0 2=some [.int .i64 x.1,.int .i64 x.2]:=ax (bL x) 0 (λj u hu=>by simpa using aK j u hu);have xV:=Sz j x (Nat.le_refl _) hx;rw[hx]at Fj;push_cast -dsimp[c0];refine⟨⟨by omega,by omega⟩,aA (I4 x p wx) ?_⟩;rintro _ w1 ⟨rfl,gX⟩;push_cast -dsimp;refine⟨⟨j,?_⟩,hb.trans (gX.mono hb.size)⟩;have aMC:fK s p=decide (x.1<=p):=by rw[Fj]
  have hdd:decide ((if p<x.1 then (1:Int) else 0)=0)=decide (x.1<=p):=by rw[decide_eq_decide];split<;>omega
  rw[aMC,if_neg xV,hdd]
 refine⟨⟨j,?_⟩,hb⟩;rw[Fj,List.getElem?_eq_none (by omega)]
theorem aCG (s:List Rg)(hs:s.length<1000000000)(hr:aP (-2) s=true)(p:Int)(X:Nat->Prop)(v:Value)(w:World)(hv:Sl X 2 (En bL) w v s) :
  bE Tryz.prog 53 [v,.int .i64 p] w λr w'=>r=.bool (fK s p)/\Below w.heap.size w w':=by
 refine aE Tryz.func53 rfl (by kernel_rfl) [4] rfl ?_;push_cast -dsimp(maxSteps:=4000000) [Tryz.ntmps53];refine aA (YD s hs hr p X v w hv) ?_;rintro _ w1 ⟨⟨i,rfl⟩,hb⟩;push_cast -dsimp;exact hb
theorem US (l:List Rg)(hl:l.length<1000000000)(X:Nat->Prop)(v:Value)(w:World)(hv:Sl X 2 (En bL) w v l)(ha:Arg v) :
  bE Tryz.prog 111 [v] w λr w'=>Vc.Own w.heap.size 46 2 bL w' r l/\Below w.heap.size w w':=by
 obtain⟨a,c,rfl,hc⟩:=hv.shape;refine aE Tryz.func111 rfl (by kernel_rfl) [2] rfl ?_;push_cast -dsimp(maxSteps:=4000000) [Tryz.ntmps111];cases a with
 | none =>
  obtain⟨h0,rfl⟩:=ha _ _ rfl;have:l=[]:=List.eq_nil_of_length_eq_zero h0;subst this;push_cast -dsimp[aLH];exact⟨Vc.Own.nil (enc:=bL) _ _ (λ_=>rfl) _,Below.refl _ _⟩
 | some ad =>
  push_cast -dsimp[aHI];refine cT Ui rfl rfl (by omega) ?_;intro w1 aZ;have uP:=aZ.own (base:=w.heap.size) (k:=2) (n:=0) (enc:=bL) (l:=[]) rfl rfl (λ_=>rfl) (Nat.le_refl _) (by omega);have sM:=aZ.size;push_cast -dsimp;refine ln (base:=w.heap.size) (enc:=bL) (ys:=l) Ui uP (hv.below aZ.below) (λn c h=>by cases h) jX (by simp only[List.length_nil];omega) (by omega) ?_;intro v' w2 ob hg2 eR;rw[List.nil_append]at ob;push_cast -dsimp;exact⟨ob,aZ.below.trans eR⟩
def UU (x y:Int):Int:=if x<y then -1 else if y<x then 1 else 0
theorem Nj (x:Int)(w:World):bE Tryz.prog 146 [.int .i64 x] w λr w'=>r=.bool false/\w'=w:=by
 refine aE Tryz.func146 rfl (by kernel_rfl) [2] rfl ?_;push_cast -dsimp(maxSteps:=4000000) [Tryz.ntmps146];simp
theorem Oo (x y:Int)(w:World):bE Tryz.prog 114 [.int .i64 x,.int .i64 y] w λr w'=>r=.int .i64 (UU x y)/\w'=w:=by
 refine aE Tryz.func114 rfl (by kernel_rfl) [4] rfl ?_;push_cast -dsimp(maxSteps:=4000000) [Tryz.ntmps114];refine aA (Nj x w) ?_;rintro _ w1 ⟨rfl,rfl⟩;push_cast -dsimp;refine aA (Nj y w1) ?_;rintro _ w2 ⟨rfl,rfl⟩;push_cast -dsimp;unfold UU;refine⟨λh=>by rw[if_pos h],λh=>⟨λh2=>by rw[if_neg h,if_pos h2],λh2=>by rw[if_neg h,if_neg h2]⟩⟩
theorem Om (x y:Rg)(w:World):bE Tryz.prog 113 [.agg #[.int .i64 x.1,.int .i64 x.2],.agg #[.int .i64 y.1,.int .i64 y.2]] w λr w'=>r=.int .i64 (UU x.1 y.1)/\∃os,w'=Go.Sort.grow w os:=by
 refine aE Tryz.func113 rfl (by kernel_rfl) [4] rfl ?_;push_cast -dsimp(maxSteps:=4000000) [Tryz.ntmps113];refine aR ?_;intro w1 aZ;have sM:=aZ.size;push_cast -dsimp;refine aR ?_;intro w2 bw;have HQ:=bw.size;have c0:w2.cell? ⟨w.heap.size,0,none⟩=some (.int .i64 x.1):=(bw.below.cell (by show w.heap.size<w1.heap.size;omega)).trans (aZ.cell rfl)
 have c1:w2.cell? ⟨w1.heap.size,0,none⟩=some (.int .i64 y.1):=bw.cell rfl;push_cast -dsimp[c0,c1];refine aA (Oo x.1 y.1 w2) ?_;rintro _ w3 ⟨rfl,rfl⟩;push_cast -dsimp;refine⟨_,by rw[bw.is,aZ.is,Go.Sort.alloc_eq_grow,Go.Sort.alloc_eq_grow,Go.Sort.grow_grow]⟩
def D5:Go.Shelf.Ren:=⟨λ| 4=>115|n=>n,λ| 22=>41|25=>46|3=>3|4=>4|9=>9|20=>20|0=>0|2=>3|n=>n,λ| n=>n⟩
theorem aCq:Go.Proofs.Lays8.n4 Tryz.prog D5:={
 mixed:=by kernel_rfl
 f4:=⟨ "slices.Grow[caesura/api.Set,caesura/api.Range]",by decide,Tryz.func115.trans (congrArg some (by kernel_rfl))⟩
 t0:=Tryz.underlying0
 a0:=Tryz.isAgg0
 z0:=Tryz.sizeOf0
 v0:=Tryz.zeroValue0
 t3:=Tryz.underlying3
 a3:=Tryz.isAgg3
 z3:=Tryz.sizeOf3
 v3:=Tryz.zeroValue3
 t4:=Tryz.underlying4
 a4:=Tryz.isAgg4
 z4:=Tryz.sizeOf4
 v4:=Tryz.zeroValue4
 t9:=Tryz.underlying9
 a9:=Tryz.isAgg9
 z9:=Tryz.sizeOf9
 v9:=Tryz.zeroValue9
 t20:=Tryz.underlying20
 a20:=Tryz.isAgg20
 z20:=Tryz.sizeOf20
 v20:=Tryz.zeroValue20
 t22:=Tryz.underlying41
 a22:=Tryz.isAgg41
 z22:=Tryz.sizeOf41
 v22:=Tryz.zeroValue41 }
theorem aDP (n:Nat)(hn:n<1000000000)(w:World) :
  bE Tryz.prog 115 [.slice none 0 0,.int .i64 (n:Int)] w λr w'=>Vc.Own w.heap.size 46 2 bL w' r ([]:List Rg)/\Below w.heap.size w w':=by
 refine cR Tryz.func115 (by kernel_rfl) (by kernel_rfl) ?_;rcases Nat.eq_zero_or_pos n with h0|h0
 ·subst h0;refine Calls.mono (Any8.slices_Grow_room aCq none 0 0 0 w (by omega) (by omega) (by omega) (by omega)) ?_;rintro e w' ⟨rfl,rfl⟩;exact⟨_,rfl,Vc.Own.nil (enc:=bL) _ _ (λ_=>rfl) _,Below.refl _ _⟩
 have he:=mJ ir;obtain⟨hu,i,z,hi,hz,hk0,iD,Lu,hk,hb0⟩:=he;refine Calls.mono (Any8.slices_Grow_grow aCq i z hi hz (by omega) none 0 0 n [] w (by omega) (by omega) (by rw[iD];omega) (by omega) (by simp) (λ_=>rfl) (λa h=>by cases h)) ?_;rintro e w' ⟨rfl,rfl⟩;have hG:=grownCap_le_maxLen w (0+n) 0 46 (by unfold maxLen;omega);have hG2:=grownCap_ge w (0+n) 0 46;have hE:D5.t 25=46:=rfl;rw[hE];generalize grownCap w (0+n) 0 46=G at hG hG2;refine⟨_,rfl,XW (λ_=>rfl) (Array.getElem?_push_size) hG ?_,?_⟩
 ·simp only[Array.size_append,size_zeroCells,Lu,hk0];simp;omega
 exact⟨rfl,rfl,rfl,by show w.heap.size<=(w.heap.push _).size;rw[Array.size_push];omega,λi hi=>by show (w.heap.push _)[i]?=_;rw[Array.getElem?_push,if_neg (by omega)]⟩
end Go.Proofs.YtledlfbbebodgaaGreatDoor
end
section
namespace Go.Proofs.YtledlfbbebodgaaGreatDoor
open Go.Vc Go.Proofs Go.RowKit Cae Go.Sort
theorem aAD {base:Nat}{e:TypeId}{w:World}{g n c:Nat}{l:List Rg}(h:Vc.Own base e 2 bL w (.slice (some ⟨g,0,none⟩) n c) l):HoldsK bL 2 w g 0 l.toArray:=by
 have ho:=Vc.Own.opened h rfl;obtain⟨cur,hB,hl,ht,_⟩:=ho;intro j hj;rw[size_flatK]at hj;rw[get_flatK _ _ _ _ hj];have TA:j<l.length*2:=by simpa using hj
 have hi:j / 2<l.length:=by omega
 have hx:=List.getElem?_eq_getElem hi;have hu:(bL l[j / 2])[j % 2]?=some (bL l[j / 2])[j % 2]! := by
  rw[List.getElem!_eq_getElem?_getD];have aw:j % 2<(bL l[j / 2]).length:=by show j % 2<2;omega
  rw[List.getElem?_eq_getElem aw];rfl
 have h1:=kM h.2 l (j / 2) (j % 2) _ _ hx hu;rw[<-ht,List.getElem?_take,if_pos (by omega),show j / 2*2+j % 2=j by omega]at h1
 have e2:(l.toArray)[j / 2]! = l[j / 2]:=by simp[hi]
 rw[e2];refine⟨?_,?_⟩
 ·rw[cell_of_row w g _ cur.toArray e (0,0) hB,Nat.zero_add];simpa using h1
 have qH:w.heap[g]?=some (.cells cur.toArray e (0,0)):=hB;simp[World.frozen?,qH]
theorem aFS {base:Nat}{e:TypeId}{w:World}{ad:Addr}{n c:Nat}{l:List Rg}(h:Vc.Own base e 2 bL w (.slice (some ad) n c) l):∃g,ad=⟨g,0,none⟩:=by
 rcases h.1.2 with ⟨he,_⟩|⟨g,cap,cr,he,_⟩
 ·cases he
 cases he;exact⟨_,rfl⟩
theorem YK {w':World}{g n c:Nat}{d':Array Rg}(hn:d'.size=n)(hc:n<=c)(hH':HoldsK bL 2 w' g 0 d'):Sl (λb=>(Value.slice (some ⟨g,0,none⟩) n c).ownBlock≠some b) 2 (En bL) w' (.slice (some ⟨g,0,none⟩) n c) d'.toList:=by
 subst hn;refine⟨_,c,by rw[Array.length_toList],by rw[Array.length_toList];exact hc,λi x hx=>⟨g,0,bL x,rfl,by simp[Value.ownBlock],rfl,λj u hu=>?_,rfl⟩⟩;have hi:=(List.getElem?_eq_some_iff.1 hx).1;rw[Array.length_toList]at hi;have hj:j<2:=(List.getElem?_eq_some_iff.1 hu).1;have h2:=(hH'.cell hi hj).1;have xV:d'[i]! = x:=by rw[getElem!_pos d' i hi];rw[Array.getElem?_toList,Array.getElem?_eq_getElem hi]at hx;cases hx;rfl
 rw[xV,List.getElem!_eq_getElem?_getD,hu]at h2;exact h2
end Go.Proofs.YtledlfbbebodgaaGreatDoor
namespace Go.Proofs.YtledlfbbebodgaaGreatDoor
open Go.Vc Go.Proofs Go.RowKit Cae
attribute [local irreducible] dd ae ak a7 runK bE Sl Vc.Own vc aU cJ a8
open Go.Sort
def SO:Go.Shelf.Ren:=⟨λ| 6=>112|15=>117|14=>145|28=>156|29=>157|20=>165|21=>166|22=>167|23=>168|24=>169|25=>170|26=>171|27=>172|46=>192|47=>174|48=>175|49=>193|50=>194|57=>207|n=>n,λ| 22=>40|24=>46|25=>197|3=>3|39=>103|0=>0|53=>244|55=>246|4=>4|46=>237|45=>236|50=>168|5=>5|9=>9|66=>254|70=>258|76=>278|77=>97|n=>n,λ| n=>n⟩
theorem aDg:Go.Proofs.SlLaysF0.n6 Tryz.prog SO:={
 mixed:=by kernel_rfl
 f6:=⟨ "slices.SortFunc[[]caesura/api.Range,caesura/api.Range]",by decide,Tryz.func112.trans (congrArg some (by kernel_rfl))⟩
 f14:=⟨ "slices.pdqsortCmpFunc[caesura/api.Range]",by decide,Tryz.func145.trans (congrArg some (by kernel_rfl))⟩
 f15:=Tryz.func117.trans (congrArg some (by kernel_rfl))
 f20:=⟨ "slices.insertionSortCmpFunc[caesura/api.Range]",by decide,Tryz.func165.trans (congrArg some (by kernel_rfl))⟩
 f21:=⟨ "slices.heapSortCmpFunc[caesura/api.Range]",by decide,Tryz.func166.trans (congrArg some (by kernel_rfl))⟩
 f22:=⟨ "slices.breakPatternsCmpFunc[caesura/api.Range]",by decide,Tryz.func167.trans (congrArg some (by kernel_rfl))⟩
 f23:=⟨ "slices.choosePivotCmpFunc[caesura/api.Range]",by decide,Tryz.func168.trans (congrArg some (by kernel_rfl))⟩
 f24:=⟨ "slices.reverseRangeCmpFunc[caesura/api.Range]",by decide,Tryz.func169.trans (congrArg some (by kernel_rfl))⟩
 f25:=⟨ "slices.partialInsertionSortCmpFunc[caesura/api.Range]",by decide,Tryz.func170.trans (congrArg some (by kernel_rfl))⟩
 f26:=⟨ "slices.partitionEqualCmpFunc[caesura/api.Range]",by decide,Tryz.func171.trans (congrArg some (by kernel_rfl))⟩
 f27:=⟨ "slices.partitionCmpFunc[caesura/api.Range]",by decide,Tryz.func172.trans (congrArg some (by kernel_rfl))⟩
 f28:=Tryz.func156.trans (congrArg some (by kernel_rfl))
 f29:=Tryz.func157.trans (congrArg some (by kernel_rfl))
 f46:=⟨ "slices.siftDownCmpFunc[caesura/api.Range]",by decide,Tryz.func192.trans (congrArg some (by kernel_rfl))⟩
 f47:=Tryz.func174.trans (congrArg some (by kernel_rfl))
 f48:=Tryz.func175.trans (congrArg some (by kernel_rfl))
 f49:=⟨ "slices.medianAdjacentCmpFunc[caesura/api.Range]",by decide,Tryz.func193.trans (congrArg some (by kernel_rfl))⟩
 f50:=⟨ "slices.medianCmpFunc[caesura/api.Range]",by decide,Tryz.func194.trans (congrArg some (by kernel_rfl))⟩
 f57:=⟨ "slices.order2CmpFunc[caesura/api.Range]",by decide,Tryz.func207.trans (congrArg some (by kernel_rfl))⟩
 t0:=Tryz.underlying0
 a0:=Tryz.isAgg0
 z0:=Tryz.sizeOf0
 v0:=Tryz.zeroValue0
 t3:=Tryz.underlying3
 a3:=Tryz.isAgg3
 z3:=Tryz.sizeOf3
 v3:=Tryz.zeroValue3
 t4:=Tryz.underlying4
 a4:=Tryz.isAgg4
 z4:=Tryz.sizeOf4
 v4:=Tryz.zeroValue4
 t5:=Tryz.underlying5
 a5:=Tryz.isAgg5
 z5:=Tryz.sizeOf5
 v5:=Tryz.zeroValue5
 t9:=Tryz.underlying9
 a9:=Tryz.isAgg9
 z9:=Tryz.sizeOf9
 v9:=Tryz.zeroValue9
 t22:=Tryz.underlying40
 a22:=Tryz.isAgg40
 z22:=Tryz.sizeOf40
 v22:=Tryz.zeroValue40
 t25:=Tryz.underlying197
 a25:=Tryz.isAgg197
 z25:=Tryz.sizeOf197
 v25:=Tryz.zeroValue197
 t39:=Tryz.underlying103
 a39:=Tryz.isAgg103
 z39:=Tryz.sizeOf103
 v39:=Tryz.zeroValue103
 t45:=Tryz.underlying236
 a45:=Tryz.isAgg236
 z45:=Tryz.sizeOf236
 v45:=Tryz.zeroValue236
 t46:=Tryz.underlying237
 a46:=Tryz.isAgg237
 z46:=Tryz.sizeOf237
 v46:=Tryz.zeroValue237
 t50:=Tryz.underlying168
 a50:=Tryz.isAgg168
 z50:=Tryz.sizeOf168
 v50:=Tryz.zeroValue168
 t53:=Tryz.underlying244
 a53:=Tryz.isAgg244
 z53:=Tryz.sizeOf244
 v53:=Tryz.zeroValue244
 t55:=Tryz.underlying246
 a55:=Tryz.isAgg246
 z55:=Tryz.sizeOf246
 v55:=Tryz.zeroValue246
 t66:=Tryz.underlying254
 a66:=Tryz.isAgg254
 z66:=Tryz.sizeOf254
 v66:=Tryz.zeroValue254
 t70:=Tryz.underlying258
 a70:=Tryz.isAgg258
 z70:=Tryz.sizeOf258
 v70:=Tryz.zeroValue258
 t76:=Tryz.underlying278
 a76:=Tryz.isAgg278
 z76:=Tryz.sizeOf278
 v76:=Tryz.zeroValue278
 t77:=Tryz.underlying97
 a77:=Tryz.isAgg97
 z77:=Tryz.sizeOf97
 v77:=Tryz.zeroValue97 }
def UX (x y:Rg):Int:=UU x.1 y.1
theorem GU (x y:Rg):Go.Proofs.ltOf UX x y=decide (x.1<y.1):=by
 unfold Go.Proofs.ltOf UX UU;rw[decide_eq_decide];split
 ·simp[*]
 split<;>simp[*]
theorem aOQ:SWO (Go.Proofs.ltOf UX) where
 irrefl x:=by rw[GU];simp
 trans x y z h1 h2:=by rw[GU]at *;simp at *;omega
 ntrans x y z h1 h2:=by rw[GU]at *;simp at *;omega
theorem UW (aN off size:Nat)(w:World):Go.Proofs.CmpLays Tryz.prog 113 #[] bL 2 UX aN off size w:=λm os dk hd x y=>by
 have h:=Eu (Om x y (Go.Proofs.sortWorldK bL 2 w aN off m dk os));have e:#[Value.agg (bL x).toArray,Value.agg (bL y).toArray]++#[]=[Value.agg #[.int .i64 x.1,.int .i64 x.2],Value.agg #[.int .i64 y.1,.int .i64 y.2]].toArray:=rfl;rw[e];refine h.mono ?_;rintro e w' ⟨v,rfl,rfl,os',rfl⟩;exact⟨rfl,0,os',rfl⟩
theorem MB {w:World}{g n:Nat}{os:Array Obj}(d:Array Rg):Kept (λj=>j=g) w (Go.Proofs.sortWorldK bL 2 w g 0 n d os):=by
 refine⟨rfl,rfl,rfl,?_,λk hk dD=>?_⟩
 ·exact Go.Proofs.size_sortWorldK_c bL 2 w g 0 n d os
 unfold Go.Proofs.sortWorldK putRowK;rw[heap_grow_old _ _ (by simpa using hk)];simp[putRow,mapBlock,Go.Sort.ahead,Array.getElem?_modify,Ne.symm dD]
theorem aF5 (l:List Rg)(hl:l.length<1000000000)(base:Nat)(v:Value)(w:World)(ho:Vc.Own base 46 2 bL w v l)(hb:base<=w.heap.size) :
  bE Tryz.prog 112 [v,.func (.func 113) #[] #[]] w λr w'=>(∃m,m.Perm l/\zM m/\Sl (λb=>v.ownBlock≠some b) 2 (En bL) w' v m)/\Kept (λj=>v.ownBlock=some j) w w':=by
 refine cR Tryz.func112 (by kernel_rfl) (by kernel_rfl) ?_;cases hn:l with
 | nil =>
  subst hn;have eW:=ho.slice;obtain⟨a,c,rfl⟩:=eW;refine(AnyF.slices_SortFunc_none aDg a c (.func (.func 113) #[] #[]) w).mono ?_;rintro e w' ⟨rfl,rfl⟩;exact⟨_,rfl,⟨[],List.Perm.refl _,List.Pairwise.nil,Sl.nil _ _ _ _ _ _⟩,Kept.refl _ _⟩
 | cons y ys =>
  rw[<-hn];have pC:0<l.length:=by rw[hn];exact Nat.succ_pos _
  have eW:=ho.slice;obtain⟨a,c,rfl⟩:=eW;cases a with
  | none=>have:=ho.dR _ _ rfl;omega
  | some ad =>
   have hg0:=aFS ho;obtain⟨g,rfl⟩:=hg0;have yl:=ho.block g rfl;have hH:=aAD ho;have p9:=AnyQ.slices_SortFunc aDg 2 Tryz.isAgg46 Tryz.sizeOf46 bL (λ_=>rfl) jX UX aOQ 113 #[] g 0 c l.toArray w (λargs w=>bo Tryz.func113 (by kernel_rfl) (by kernel_rfl)) (UW g 0 l.toArray.size w) hH yl.2 (by rw[List.size_toArray];omega);rw[List.size_toArray]at p9;refine Calls.mono p9 ?_;rintro e w' ⟨rfl,d',n,os,hp,hs,rfl⟩;have GG:d'.size=l.length:=by have:=hp.1;simpa using this
   have aJw:d'.toList.Perm l:=by
    have:=hp.2.2;rw[Array.extract_eq_self_of_le (by omega),Array.extract_eq_self_of_le (by simp)]at this;simpa using this
   have hH':=Go.Proofs.holdsK_sortWorldK_c bL 2 w g 0 l.toArray d' n os hH yl.2 (by simpa using GG);refine⟨_,rfl,⟨d'.toList,aJw,?_,?_⟩,(MB d').weaken (λi _ h=>by rw[h];rfl)⟩
   ·refine List.pairwise_iff_getElem.2 λi j hi hj Yi=>?_;rw[Array.length_toList]at hi hj
    have:=hs i j (Nat.zero_le _) Yi (by omega);rw[GU,decide_eq_false_iff_not]at this;simp only[getElem!_pos d' i hi,getElem!_pos d' j hj]at this;simp only[Array.getElem_toList];omega
   exact YK GG ((ho.sl.shape).elim (λa h=>h.elim λc' h=>by cases h.1;exact h.2)) hH'
end Go.Proofs.YtledlfbbebodgaaGreatDoor
end
section
namespace Go.Proofs.YtledlfbbebodgaaGreatDoor
open Go.Vc Go.Proofs Go.RowKit Cae
attribute [local irreducible] dd ae ak a7 runK bE Sl Vc.Own vc aU cJ a8
theorem aOI (l:List Rg)(hl:l.length<100000000)(X:Nat->Prop)(v:Value)(w:World)(hv:Sl X 2 (En bL) w v l)(ha:Arg v) :
  bE Tryz.prog 67 [v] w λr w'=>Vc.Own w.heap.size 46 2 bL w' r (setOf l)/\Below w.heap.size w w':=by
 obtain⟨a,c,rfl,hc⟩:=hv.shape;refine aE Tryz.func67 rfl (by kernel_rfl) [2] rfl ?_;simp -dsimp (maxSteps:=4000000) only[push_cast,oy,Tryz.ntmps67,List.length_cons,List.length_nil,Nat.reduceAdd,Nat.reduceSub,Nat.reduceBEq,List.replicate_succ,List.replicate_zero];refine aA (US l (by omega) X _ w hv ha) ?_;rintro v1 w1 ⟨uP,gX⟩;have sM:=gX.size;simp -dsimp only[push_cast,Nat.reduceAdd,Nat.reduceLeDiff,Nat.reduceBEq,Int.reduceNe,Int.reduceEq,Int.reduceLT,Int.reduceLE];refine aA (aF5 l (by omega) w.heap.size v1 w1 uP sM) ?_;rintro r2 w2 ⟨⟨m,hp,hR,gd⟩,nj⟩;have HQ:=nj.size;have hml:=hp.length_eq;have eR:Below w.heap.size w w2:=gX.trans (nj.below sM (λg h=>(uP.block g h).1));have eW:=uP.slice;obtain⟨va,vc,rfl⟩:=eW;have hof:=SJ hp hR;have hgX:∃X1,X1=(λb=>(Value.slice va l.length vc).ownBlock≠some b):=⟨_,rfl⟩;obtain⟨X1,hX1⟩:=hgX;rw[<-hX1]at gd;have hX2:∀b,w2.heap.size<=b->X1 b:=λb hb=>by
  rw[hX1];intro h
  have:=(uP.block b h).2;omega
 simp -dsimp only[push_cast,Nat.reduceAdd,Nat.reduceLeDiff,Nat.reduceBEq,Int.reduceNe,Int.reduceEq,Int.reduceLT,Int.reduceLE];refine aL [3,5,6,13,14,15,16,17,18,19,20,21,22,23,24,25,26,27,28,29,30,31,32,33,34,35,36,37,38,39,40,41,42,43,44,45,46,47,48,49,50,51,52,53,54,55,56,57,58,59,60,61,62] (λz wx=>∃(i:Nat) (ov:Value),z 13=.int .i64 i/\z 3=ov/\i<=l.length/\Vc.Own w2.heap.size 46 2 bL wx ov (ix (m.take i))/\Below w2.heap.size w2 wx) (λz _=>l.length-(intOf (z 13)).toNat) ?_ ?_
 ·refine⟨0,_,rfl,rfl,Nat.zero_le _,?_,Below.refl _ _⟩;rw[List.take_zero];exact Vc.Own.nil (enc:=bL) _ _ (λ_=>rfl) _
 intro z wx hI;obtain⟨i,ov,K9,h3,hi,kB,bT⟩:=hI;have EZ:=bT.size;simp -dsimp only[push_cast,Nat.reduceAdd,Nat.reduceLeDiff,Nat.reduceBEq,Int.reduceNe,Int.reduceEq,Int.reduceLT,Int.reduceLE,K9,h3];refine⟨λaw=>?_,λfT=>?_⟩
 ·have hg:=au (l:=m) (i:=i) (by omega);obtain⟨x,hx,jQ,_⟩:=hg;have od:=gd.below bT;rw[<-hml]at od;have hg:=od.get hx;obtain⟨b,o,rfl,jh,aK⟩:=hg;have cx:aB wx ⟨b,o+i*2,none⟩ 0 2=some [.int .i64 x.1,.int .i64 x.2]:=ax (bL x) 0 (λj u hu=>by simpa using aK j u hu);have K8:ix (m.take (i+1))=gE (ix (m.take i)) x:=by
   unfold ix;rw[List.take_add_one,hx,List.foldl_append];rfl
  have Q9:=BJ (m.take i);rw[List.length_take]at Q9;have eW:=kB.slice;obtain⟨oa,oc,rfl⟩:=eW;have ym:∃out,ix (m.take i)=out:=⟨_,rfl⟩;obtain⟨out,iu⟩:=ym;rw[iu]at kB K8 Q9;rw[iu];simp -dsimp only[push_cast,Nat.reduceAdd,Nat.reduceLeDiff,Nat.reduceBEq,Int.reduceNe,Int.reduceEq,Int.reduceLT,Int.reduceLE,cx];refine⟨⟨by omega,by omega⟩,?_⟩;refine ag (z:=[.int .i64 0,.int .i64 0]) (by kernel_rfl) ?_;intro w3 dZ;have TJ:=dZ.size;simp -dsimp only[push_cast,Nat.reduceAdd,Nat.reduceLeDiff,Nat.reduceBEq,Int.reduceNe,Int.reduceEq,Int.reduceLT,Int.reduceLE];refine aJ (n:=2) (by kernel_rfl) dZ.aN rfl (by simp) (by simp[Value.oneCell']) ?_;intro w4 az;have Yu:=az.size;have c0:w4.cell? ⟨wx.heap.size,0,none⟩=some (.int .i64 x.1):=az.aN.cell rfl;have c1:w4.cell? ⟨wx.heap.size,1,none⟩=some (.int .i64 x.2):=az.aN.cell rfl;have hgl:∃lo,max x.1 0=lo:=⟨_,rfl⟩;obtain⟨lo,yn⟩:=hgl;have QV:∃xM,min x.2 1114111=xM:=⟨_,rfl⟩;obtain⟨xM,Sz⟩:=QV;have aJh:(if 0>x.1 then 0 else x.1)=lo:=by rw[<-yn];split<;>omega
  have aJd:(if 1114111<x.2 then 1114111 else x.2)=xM:=by rw[<-Sz];split<;>omega
  simp -dsimp only[push_cast,Nat.reduceAdd,Nat.reduceLeDiff,Nat.reduceBEq,Int.reduceNe,Int.reduceEq,Int.reduceLT,Int.reduceLE,c0,c1,aJh,aJd];refine aC az.aN (by simp) rfl ?_;intro w5 cO;have SX:w5.heap.size=w4.heap.size:=cO.size;simp -dsimp only[push_cast,Nat.reduceAdd,Nat.reduceLeDiff,Nat.reduceBEq,Int.reduceNe,Int.reduceEq,Int.reduceLT,Int.reduceLE];refine aC cO.aN (by simp) rfl ?_;intro w6 bZ;have Mm:w6.heap.size=w5.heap.size:=bZ.size;have hX6:aM w6 wx.heap.size 46 [.int .i64 lo,.int .i64 xM]:=bZ.aN;have k6:Kept (λj=>j=wx.heap.size) wx w6:=(((Kept.new dZ).trans az.kept (λ_ _ h=>h)).trans cO.kept (λ_ _ h=>h)).trans bZ.kept (λ_ _ h=>h);have vv:=kB.aI k6 (λg hg h=>by have:=kB.block g hg;omega);have lp:Below w2.heap.size w2 w6:=bT.trans (k6.below EZ (λ_ h=>by omega));have e0:w6.cell? ⟨wx.heap.size,0,none⟩=some (.int .i64 lo):=hX6.cell rfl;have e1:w6.cell? ⟨wx.heap.size,1,none⟩=some (.int .i64 xM):=hX6.cell rfl;simp -dsimp only[push_cast,Nat.reduceAdd,Nat.reduceLeDiff,Nat.reduceBEq,Int.reduceNe,Int.reduceEq,Int.reduceLT,Int.reduceLE,e0,e1];refine⟨λHF=>?_,λhle=>?_⟩
  ·have ba:gE out x=out:=by unfold gE;rw[yn,Sz,if_pos (by omega)]
   rw[ba]at K8;rw[<-K8]at vv;exact⟨⟨by omega,by omega⟩,⟨i+1,_,rfl,by rw[K8],by omega,vv,lp⟩,by rw[K9];simp only[intOf];omega⟩
  refine⟨⟨by omega,by omega⟩,?_⟩;cases hn:out.length with
  | zero =>
   have yP:out=[]:=List.eq_nil_of_length_eq_zero hn;subst yP;have ba:gE [] x=[]++[(lo,xM)]:=by unfold gE;rw[yn,Sz,if_neg (by omega)];rfl
   refine bx (λw'=>w'=w6.drew) mixed (by kernel_rfl) rfl ?_;simp -dsimp only[push_cast,Nat.reduceAdd,Nat.reduceLeDiff,Nat.reduceBEq,Int.reduceNe,Int.reduceEq,Int.reduceLT,Int.reduceLE];refine⟨λh=>absurd h (by simp),λ_=>?_⟩;rw[ba]at K8;have d7:aB w6.drew ⟨wx.heap.size,0,none⟩ 0 2=some [.int .i64 lo,.int .i64 xM]:=hX6.drew.aB;simp -dsimp only[push_cast,Nat.reduceAdd,Nat.reduceLeDiff,Nat.reduceBEq,Int.reduceNe,Int.reduceEq,Int.reduceLT,Int.reduceLE,d7];refine cT ir rfl rfl (by omega) ?_;intro w7 fh;have Mn:w7.heap.size=w6.heap.size+1:=fh.size;have rN:=(vv.aI (Kept.refl (λ_=>False) _).drew (λ_ _ h=>h)).new fh;simp -dsimp only[push_cast,Nat.reduceAdd,Nat.reduceLeDiff,Nat.reduceBEq,Int.reduceNe,Int.reduceEq,Int.reduceLT,Int.reduceLE];refine aS (base:=w2.heap.size) [(lo,xM)] (enc:=bL) ir rN (by rfl) (λj u hu=>by simpa[bL] using fh.cell hu) jX (by simp only[List.length_cons,List.length_nil];omega) (by omega) ?_;intro v8 w8 tU Sy hn8;have k8:Kept (λj=>(Value.slice oa ([]:List Rg).length oc).ownBlock=some j) w6 w8:=(((Kept.refl _ w6).drew).trans (Kept.new (X:=λj=>(Value.slice oa ([]:List Rg).length oc).ownBlock=some j) fh) (λ_ _ h=>h)).trans (Kept.grown Sy (λ_ h=>h)) (λ_ _ h=>h);rw[<-K8]at tU;simp -dsimp only[push_cast,Nat.reduceAdd,Nat.reduceLeDiff,Nat.reduceBEq,Int.reduceNe,Int.reduceEq,Int.reduceLT,Int.reduceLE];exact⟨⟨by omega,by omega⟩,⟨i+1,_,rfl,rfl,by omega,tU,lp.trans (k8.below (by omega) (λg h=>(vv.block g h).1))⟩,by rw[K9];simp only[intOf];omega⟩
  | succ n =>
   have e6:((n:Nat):Int)+1-1=((n:Nat):Int):=by omega
   have hq:=List.getElem?_eq_getElem (l:=out) (i:=n) (by omega);have Cq:∃q,out[n]'(by omega)=q:=⟨_,rfl⟩;obtain⟨q,hqe⟩:=Cq;rw[hqe]at hq;have Dg:out.getLast?=some q:=by rw[List.getLast?_eq_getElem?,hn];exact hq
   have hinv:=(tG i m hR (by omega)).1.right;rw[iu]at hinv;have hqr:=cf out (-2) hinv n q hq;have hg:=vv.sl.get hq;obtain⟨g,o',rfl,_,hcq⟩:=hg;have ho0:o'=0:=Vc.Own.aLp vv;subst ho0;have c2:w6.drew.cell? ⟨g,n*2+1,none⟩=some (.int .i64 q.2):=by have:=hcq 1 _ rfl;simpa using this
   have f0:w6.drew.cell? ⟨wx.heap.size,0,none⟩=some (.int .i64 lo):=e0;have f1:w6.drew.cell? ⟨wx.heap.size,1,none⟩=some (.int .i64 xM):=e1;have L:∀{ad:Addr} {u:Value},w6.drew.cell? ad=some u->∀bU:World,bU=w6.drew->pg (bU.cell? ad) (λx=>x=u) .mk:=λh bU e=>by rw[e,h];exact rfl
   refine bx (λw'=>w'=w6.drew) mixed (by kernel_rfl) rfl ?_;simp -dsimp only[push_cast,Nat.reduceAdd,Nat.reduceLeDiff,Nat.reduceBEq,Int.reduceNe,Int.reduceEq,Int.reduceLT,Int.reduceLE,e6,f0,c2];rw[hn]at vv;refine⟨λ_=>⟨L f0,⟨by omega,by omega⟩,L c2,⟨by omega,by omega⟩,λhm=>?_,λhm=>?_⟩,λh=>absurd (Int.natCast_nonneg n) h⟩
   ·have ba:gE out x=out.set n (q.1,max q.2 xM):=by
     unfold gE;rw[yn,Sz,if_neg (by omega),Dg];dsimp only;rw[if_pos hm,List.dropLast_eq_take,hn,List.set_eq_take_append_cons_drop,if_pos (by omega),List.drop_eq_nil_of_le (by omega)];rfl
    rw[ba]at K8;have L2:∀{ad:Addr} {u:Value},w6.drew.drew.cell? ad=some u->∀bU:World,bU=w6.drew.drew->pg (bU.cell? ad) (λx=>x=u) .mk:=λh bU e=>by rw[e,h];exact rfl
    have c2':w6.drew.drew.cell? ⟨g,n*2+1,none⟩=some (.int .i64 q.2):=c2;have f1':w6.drew.drew.cell? ⟨wx.heap.size,1,none⟩=some (.int .i64 xM):=f1;have hmx:(if xM>q.2 then xM else q.2)=max q.2 xM:=by split<;>omega
    refine eE (λw'=>w'=w6.drew.drew) mixed (by kernel_rfl) (List.cons_ne_nil _ _) rfl ?_;simp -dsimp only[push_cast,Nat.reduceAdd,Nat.reduceLeDiff,Nat.reduceBEq,Int.reduceNe,Int.reduceEq,Int.reduceLT,Int.reduceLE,c2',f1',hmx];refine⟨⟨by omega,by omega⟩,L2 c2',L2 f1',⟨by omega,by omega⟩,?_⟩;have GB:=vv.aI ((Kept.refl (λ_=>False) _).drew.drew) (λ_ _ h=>h);refine fy (i:=n) (f:=1) (y:=(q.1,max q.2 xM)) GB rfl hq (by omega) rfl rfl ?_;intro w8 tU TC sz8;have k8:Kept (λj=>j=g) w6 w8:=((Kept.refl (λj=>j=g) w6).drew.drew).trans TC (λ_ _ h=>h);have yl:=(vv.block g rfl).1;refine⟨trivial,?_⟩;simp -dsimp only[push_cast,Nat.reduceAdd,Nat.reduceLeDiff,Nat.reduceBEq,Int.reduceNe,Int.reduceEq,Int.reduceLT,Int.reduceLE];rw[<-K8]at tU;exact⟨⟨by omega,by omega⟩,⟨i+1,_,rfl,rfl,by omega,tU,lp.trans (k8.below (by omega) (λj h=>by omega))⟩,by rw[K9];simp only[intOf];omega⟩
   have ba:gE out x=out++[(lo,xM)]:=by
    unfold gE;rw[yn,Sz,if_neg (by omega),Dg];dsimp only;rw[if_neg hm]
   rw[ba]at K8;have d7:aB w6.drew ⟨wx.heap.size,0,none⟩ 0 2=some [.int .i64 lo,.int .i64 xM]:=hX6.drew.aB;simp -dsimp only[push_cast,Nat.reduceAdd,Nat.reduceLeDiff,Nat.reduceBEq,Int.reduceNe,Int.reduceEq,Int.reduceLT,Int.reduceLE,d7];refine cT ir rfl rfl (by omega) ?_;intro w7 fh;have Mn:w7.heap.size=w6.heap.size+1:=fh.size;have rN:=(vv.aI (Kept.refl (λ_=>False) _).drew (λ_ _ h=>h)).new fh;simp -dsimp only[push_cast,Nat.reduceAdd,Nat.reduceLeDiff,Nat.reduceBEq,Int.reduceNe,Int.reduceEq,Int.reduceLT,Int.reduceLE];refine aS (base:=w2.heap.size) [(lo,xM)] (enc:=bL) ir rN (by rfl) (λj u hu=>by simpa[bL] using fh.cell hu) jX (by simp only[List.length_cons,List.length_nil];omega) (by omega) ?_;intro v8 w8 tU Sy hn8;have k8:Kept (λj=>(Value.slice (some ⟨g,0,none⟩) (n+1) oc).ownBlock=some j) w6 w8:=(((Kept.refl _ w6).drew).trans (Kept.new (X:=λj=>(Value.slice (some ⟨g,0,none⟩) (n+1) oc).ownBlock=some j) fh) (λ_ _ h=>h)).trans (Kept.grown Sy (λ_ h=>h)) (λ_ _ h=>h);rw[<-K8]at tU;simp -dsimp only[push_cast,Nat.reduceAdd,Nat.reduceLeDiff,Nat.reduceBEq,Int.reduceNe,Int.reduceEq,Int.reduceLT,Int.reduceLE];exact⟨⟨by omega,by omega⟩,⟨i+1,_,rfl,rfl,by omega,tU,lp.trans (k8.below (by omega) (λg h=>(vv.block g h).1))⟩,by rw[K9];simp only[intOf];omega⟩
 have nH:i=m.length:=by omega
 subst nH;have eW:=kB.slice;obtain⟨oa,oc,rfl⟩:=eW;rw[List.take_length,hof]at kB;rw[List.take_length,hof];exact⟨kB.mono (by omega),eR.trans (bT.mono (by omega))⟩
theorem J2 (s:List Rg)(hs:s.length<100000000)(hr:aP (-2) s=true)(X:Nat->Prop)(v:Value)(w:World)(hv:Sl X 2 (En bL) w v s) :
  bE Tryz.prog 39 [v] w λr w'=>Vc.Own w.heap.size 46 2 bL w' r (gw s)/\Below w.heap.size w w':=by
 obtain⟨a,c,rfl,hc⟩:=hv.shape;refine aE Tryz.func39 rfl (by kernel_rfl) [2] rfl ?_;push_cast -dsimp(maxSteps:=4000000) [Tryz.ntmps39];refine aL [3,4,6,9,10,11,12,13,14,15,16,17,18,19,20,21,22,23,24,25,26,27,28] (λz wx=>∃(i:Nat) (f:Int) (out:List Rg) (ov:Value),z 9=.int .i64 i/\z 4=.int .i64 f/\z 3=ov/\i<=s.length/\0<=f/\f<=1114112/\out.length<=i/\out++oQ f (s.drop i)=gw s/\Vc.Own w.heap.size 46 2 bL wx ov out/\Below w.heap.size w wx) (λz _=>s.length-(intOf (z 9)).toNat) ?_ ?_
 ·exact⟨0,0,[],_,rfl,rfl,rfl,Nat.zero_le _,by omega,by omega,Nat.le_refl _,rfl,Vc.Own.nil (enc:=bL) _ _ (λ_=>rfl) _,Below.refl _ _⟩
 intro z wx hI;obtain⟨i,f,out,ov,h9,h4,h3,hi,hf0,hf1,Q9,iu,kB,bT⟩:=hI;have EZ:=bT.size;push_cast -dsimp[h9,h4,h3];refine⟨λaw=>?_,λfT=>?_⟩
 ·have hg:=au (l:=s) (i:=i) (by omega);obtain⟨x,hx,jQ,hdx,_⟩:=hg;have hb:=cf s (-2) hr i x hx;obtain⟨b1,b2,b3,_⟩:=hb;have hg:=(hv.below bT).get hx;obtain⟨b,o,rfl,jh,aK⟩:=hg;have cx:aB wx ⟨b,o+i*2,none⟩ 0 2=some [.int .i64 x.1,.int .i64 x.2]:=ax (bL x) 0 (λj u hu=>by simpa using aK j u hu);have eW:=kB.slice;obtain⟨oa,oc,rfl⟩:=eW;rw[hdx,oQ]at iu;push_cast -dsimp[cx];refine⟨⟨by omega,by omega⟩,?_⟩;refine ag (z:=[.int .i64 0,.int .i64 0]) (by kernel_rfl) ?_;intro w3 dZ;have TJ:=dZ.size;push_cast -dsimp;refine aJ (n:=2) (by kernel_rfl) dZ.aN rfl (by simp) (by simp[Value.oneCell']) ?_;intro w4 az;have Yu:w4.heap.size=w3.heap.size:=az.size;have c0:w4.cell? ⟨wx.heap.size,0,none⟩=some (.int .i64 x.1):=az.aN.cell rfl;have c1:w4.cell? ⟨wx.heap.size,1,none⟩=some (.int .i64 x.2):=az.aN.cell rfl;have k4:Kept (λj=>j=wx.heap.size) wx w4:=(Kept.new dZ).trans az.kept (λ_ _ h=>h);have qQ:=kB.aI k4 (λg hg h=>by have:=kB.block g hg;omega);have kj:Below w.heap.size w w4:=bT.trans (k4.below EZ (λ_ h=>by omega));push_cast -dsimp[c0,c1];refine⟨λaw=>?_,λfT=>?_⟩
  ·rw[if_pos aw,<-List.append_assoc]at iu;refine⟨⟨by omega,by omega⟩,?_⟩;refine cT ir rfl rfl (by omega) ?_;intro w7 fh;have Mn:=fh.size;have rN:=qQ.new fh;push_cast -dsimp;refine aS (base:=w.heap.size) [(f,x.1-1)] (enc:=bL) ir rN (by rfl) (λj u hu=>by simpa[bL] using fh.cell hu) jX (by simp only[List.length_cons,List.length_nil];omega) (by omega) ?_;intro v8 w8 tU Sy hn8;have k8:Kept (λj=>(Value.slice oa out.length oc).ownBlock=some j) w4 w8:=(Kept.new (X:=λj=>(Value.slice oa out.length oc).ownBlock=some j) fh).trans (Kept.grown Sy (λ_ h=>h)) (λ_ _ h=>h);have jg:Below w.heap.size w w8:=kj.trans (k8.below (by omega) (λg h=>(qQ.block g h).1));have d1:w8.cell? ⟨wx.heap.size,1,none⟩=some (.int .i64 x.2):=k8.cell c1 (λh=>by have h2:w.heap.size<=wx.heap.size/\wx.heap.size<wx.heap.size:=kB.block _ h;omega);push_cast -dsimp[d1];exact⟨⟨by omega,by omega⟩,⟨by omega,by omega⟩,⟨i+1,x.2+1,out++[(f,x.1-1)],_,rfl,rfl,rfl,by omega,by omega,by omega,by rw[List.length_append,List.length_singleton];omega,iu,tU,jg⟩,by rw[h9];simp only[intOf];omega⟩
  rw[if_neg (by omega),List.nil_append]at iu;exact⟨⟨by omega,by omega⟩,⟨by omega,by omega⟩,⟨i+1,x.2+1,out,_,rfl,rfl,rfl,by omega,by omega,by omega,by omega,iu,qQ,kj⟩,by rw[h9];simp only[intOf];omega⟩
 have nH:i=s.length:=by omega
 subst nH;have eW:=kB.slice;obtain⟨oa,oc,rfl⟩:=eW;rw[List.drop_length,oQ]at iu;refine⟨λhle=>?_,λHF=>?_⟩
 ·rw[if_pos hle]at iu;refine cT ir rfl rfl (by omega) ?_;intro w7 fh;have Mn:=fh.size;have rN:=kB.new fh;push_cast -dsimp;refine aS (base:=w.heap.size) [(f,1114111)] (enc:=bL) ir rN (by rfl) (λj u hu=>by simpa[bL] using fh.cell hu) jX (by simp only[List.length_cons,List.length_nil];omega) (by omega) ?_;intro v8 w8 tU Sy hn8;have k8:Kept (λj=>(Value.slice oa out.length oc).ownBlock=some j) wx w8:=(Kept.new (X:=λj=>(Value.slice oa out.length oc).ownBlock=some j) fh).trans (Kept.grown Sy (λ_ h=>h)) (λ_ _ h=>h);rw[iu]at tU;push_cast -dsimp;exact⟨tU,bT.trans (k8.below EZ (λg h=>(kB.block g h).1))⟩
 rw[if_neg (by omega),List.append_nil]at iu;subst iu;exact⟨kB,bT⟩
theorem ye {α β:Type}(L:List α)(f:α->List β)(i:Nat):((L.take i).flatMap f).length<=(L.flatMap f).length:=by
 conv=>rhs;rw[<-List.take_append_drop i L,List.flatMap_append,List.length_append]
 omega
theorem UZ (Ls:List (Value×List Rg))(hl:(Ls.flatMap (·.2)).length<100000000)(hn:Ls.length<1000000)(X:Nat->Prop)(g c:Nat)(hc:Ls.length<=c)(w:World)
  (hv:∀(i:Nat) (p:Value×List Rg),Ls[i]?=some p->w.cell? ⟨g,i,none⟩=some p.1/\Sl X 2 (En bL) w p.1 p.2/\Arg p.1) :
  bE Tryz.prog 68 [.slice (some ⟨g,0,none⟩) Ls.length c] w λr w'=>Vc.Own w.heap.size 46 2 bL w' r (Ls.flatMap (·.2))/\Below w.heap.size w w':=by
 refine aE Tryz.func68 rfl (by kernel_rfl) [2] rfl ?_;push_cast -dsimp(maxSteps:=4000000) [Tryz.ntmps68];refine aL [3,5,11,12,13,14,15,16,17,18,19,20,21,22] (λz wx=>∃(i:Nat),z 11=.int .i64 i/\z 3=.int .i64 (((Ls.take i).flatMap (·.2)).length:Nat)/\i<=Ls.length/\wx=w) (λz _=>Ls.length-(intOf (z 11)).toNat) ?_ ?_
 ·exact⟨0,rfl,rfl,Nat.zero_le _,rfl⟩
 intro z wx hI;obtain⟨i,Zm,h3,hi,rfl⟩:=hI;have j1:=ye Ls (·.2) i;have aMQ:=ye Ls (·.2) (i+1);push_cast -dsimp[Zm,h3];refine⟨λaw=>?_,λfT=>?_⟩
 ·have hg:=au (l:=Ls) (i:=i) (by omega);obtain⟨p,hp,_,_,ht⟩:=hg;have hvp:=hv i p hp;obtain⟨c0,hs,hA⟩:=hvp;have Ya:=c0;have e1:((Ls.take (i+1)).flatMap (·.2)).length=((Ls.take i).flatMap (·.2)).length+p.2.length:=by
   rw[ht,List.flatMap_append,List.length_append];simp
  have eW:=hs.shape;obtain⟨pa,pc,Ym,uR⟩:=eW;rw[Ym]at Ya;push_cast -dsimp[Ya];refine⟨⟨by omega,by omega⟩,⟨by omega,by omega⟩,λh=>absurd h (by omega),λ_=>⟨⟨by omega,by omega⟩,⟨i+1,rfl,by rw[e1,Int.natCast_add],by omega⟩,by rw[Zm];simp only[intOf];omega⟩⟩
 have nH:i=Ls.length:=by omega
 subst nH;rw[List.take_length];refine aA (aDP _ (by omega) wx) ?_;rintro v1 w1 ⟨uP,gX⟩;have sM:=gX.size;push_cast -dsimp;refine aL [6,8,27,28,29,30,31,32,33,34] (λz w2=>∃(i:Nat) (ov:Value),z 27=.int .i64 i/\z 6=ov/\i<=Ls.length/\Vc.Own wx.heap.size 46 2 bL w2 ov ((Ls.take i).flatMap (·.2))/\Below wx.heap.size wx w2) (λz _=>Ls.length-(intOf (z 27)).toNat) ?_ ?_
 ·exact⟨0,_,rfl,rfl,Nat.zero_le _,uP,gX⟩
 intro y w2 hJ;obtain⟨i,ov,h27,h6,hi,ob,eR⟩:=hJ;have HQ:=eR.size;have j1:=ye Ls (·.2) i;have aMQ:=ye Ls (·.2) (i+1);push_cast -dsimp[h27,h6];refine⟨λaw=>?_,λfT=>?_⟩
 ·have hg:=au (l:=Ls) (i:=i) (by omega);obtain⟨p,hp,_,_,ht⟩:=hg;have hvp:=hv i p hp;obtain⟨c0,hs,hA⟩:=hvp;have Ya:w2.cell? ⟨g,i,none⟩=some p.1:=(eR.cell (World.block_lt_of_cell? _ _ c0)).trans c0;have eW:=hs.shape;obtain⟨pa,pc,Ym,uR⟩:=eW;rw[Ym]at Ya hs hA;have e1:(Ls.take (i+1)).flatMap (·.2)=(Ls.take i).flatMap (·.2)++p.2:=by
   rw[ht,List.flatMap_append];simp
  have e2:=congrArg List.length e1;rw[List.length_append]at e2;have eW:=ob.slice;obtain⟨oa,oc,rfl⟩:=eW;push_cast -dsimp[Ya];refine⟨⟨by omega,by omega⟩,?_⟩;refine ln (base:=wx.heap.size) (enc:=bL) (ys:=p.2) ir ob (hs.below eR) hA jX (by omega) (by omega) ?_;intro v3 w3 oH hg3 fL;rw[<-e1]at oH;push_cast -dsimp;exact⟨⟨by omega,by omega⟩,⟨i+1,_,rfl,rfl,by omega,oH,eR.trans fL⟩,by rw[h27];simp only[intOf];omega⟩
 have nH:i=Ls.length:=by omega
 subst nH;rw[List.take_length]at ob;have eW:=ob.slice;obtain⟨oa,oc,rfl⟩:=eW;exact⟨ob,eR⟩
theorem aJ4 (s t:List Rg)(hs:s.length<10000000)(ht:t.length<10000000)(X:Nat->Prop)(va vb:Value)(w:World)(WX:Sl X 2 (En bL) w va s)(TG:Sl X 2 (En bL) w vb t)(hA:Arg va)(hB:Arg vb) :
  bE Tryz.prog 40 [va,vb] w λr w'=>Vc.Own w.heap.size 46 2 bL w' r (Bk s t)/\Below w.heap.size w w':=by
 have eW:=WX.shape;obtain⟨a1,c1,e1,_⟩:=eW;have eW:=TG.shape;obtain⟨a2,c2,e2,_⟩:=eW;refine aE Tryz.func40 rfl (by kernel_rfl) [4] rfl ?_;push_cast -dsimp(maxSteps:=4000000) [Tryz.ntmps40];refine cT vW (by rw[e1,e2];rfl) rfl (by omega) ?_;intro w1 aZ;have sM:=aZ.size;have d0:=aZ.cell (j:=0) (u:=va) (by rw[e1,e2];rfl);have d1:=aZ.cell (j:=1) (u:=vb) (by rw[e1,e2];rfl);push_cast -dsimp;refine aA (UZ [(va,s),(vb,t)] (by simp;omega) (by simp) X w.heap.size 2 (by simp) w1 ?_) ?_
 ·intro i p hp;match i,hp with
  | 0,hp=>cases hp;exact⟨d0,WX.below aZ.below,hA⟩
  | 1,hp=>cases hp;exact⟨d1,TG.below aZ.below,hB⟩
  | n+2,hp=>cases hp
 rintro v2 w2 ⟨ob,eR⟩;rw[show [(va,s),(vb,t)].flatMap (·.2)=s++t by simp]at ob
 push_cast -dsimp;refine aA (aOI (s++t) (by rw[List.length_append];omega) _ _ w2 ob.sl ob.dR) ?_;rintro v3 w3 ⟨oH,fL⟩;push_cast -dsimp;have HQ:=eR.size;exact⟨oH.mono (by omega),(aZ.below.trans (eR.mono (by omega))).trans (fL.mono (by omega))⟩
theorem aCi (s t:List Rg)(hs:s.length<1000000)(ht:t.length<1000000)(jO:aP (-2) s=true)(TF:aP (-2) t=true)(X:Nat->Prop)(va vb:Value)(w:World)(WX:Sl X 2 (En bL) w va s)(TG:Sl X 2 (En bL) w vb t) :
  bE Tryz.prog 41 [va,vb] w λr w'=>Vc.Own w.heap.size 46 2 bL w' r (Bi s t)/\Below w.heap.size w w':=by
 have n1:=tK s;have n2:=tK t;have n3:=SL (gw s) (gw t);refine aE Tryz.func41 rfl (by kernel_rfl) [4] rfl ?_;push_cast -dsimp(maxSteps:=4000000) [Tryz.ntmps41];refine aA (J2 s (by omega) jO X va w WX) ?_;rintro v1 w1 ⟨uP,gX⟩;have sM:=gX.size;push_cast -dsimp;refine aA (J2 t (by omega) TF X vb w1 (TG.below gX)) ?_;rintro v2 w2 ⟨ob,eR⟩;have HQ:=eR.size;push_cast -dsimp;refine aA (aJ4 (gw s) (gw t) (by omega) (by omega) (λ_=>False) v1 v2 w2 ((uP.sl.weaken (λ_ h=>h.elim)).below eR) (ob.sl.weaken (λ_ h=>h.elim)) uP.dR ob.dR) ?_;rintro v3 w3 ⟨oH,fL⟩;have TJ:=fL.size;push_cast -dsimp;refine aA (J2 (Bk (gw s) (gw t)) (by omega) (qw _ _) (λ_=>False) v3 w3 (oH.sl.weaken (λ_ h=>h.elim))) ?_;rintro v4 w4 ⟨qQ,kj⟩;push_cast -dsimp;exact⟨qQ.mono (by omega),((gX.trans (eR.mono (by omega))).trans (fL.mono (by omega))).trans (kj.mono (by omega))⟩
theorem aFz (s t:List Rg)(hs:s.length<900000)(ht:t.length<900000)(jO:aP (-2) s=true)(TF:aP (-2) t=true)(X:Nat->Prop)(va vb:Value)(w:World)(WX:Sl X 2 (En bL) w va s)(TG:Sl X 2 (En bL) w vb t) :
  bE Tryz.prog 42 [va,vb] w λr w'=>Vc.Own w.heap.size 46 2 bL w' r (zE s t)/\Below w.heap.size w w':=by
 have n2:=tK t;refine aE Tryz.func42 rfl (by kernel_rfl) [4] rfl ?_;push_cast -dsimp(maxSteps:=4000000) [Tryz.ntmps42];refine aA (J2 t (by omega) TF X vb w TG) ?_;rintro v2 w2 ⟨ob,eR⟩;have HQ:=eR.size;push_cast -dsimp;refine aA (aCi s (gw t) (by omega) (by omega) jO (pR TF) (λ_=>False) va v2 w2 ((WX.below eR).weaken (λ_ h=>h.elim)) (ob.sl.weaken (λ_ h=>h.elim))) ?_;rintro v3 w3 ⟨oH,fL⟩;push_cast -dsimp;exact⟨oH.mono (by omega),eR.trans (fL.mono (by omega))⟩
def fW (X:Nat->Prop)(w:World)(b:Nat)(nm:bG):Prop:=∃gg:List (List UInt8×Value),ml (λl:List UInt8=>str l) w b gg/\cU (λkv x=>kv.1=x.1/\Sl X 2 (En bL) w kv.2 x.2/\Arg kv.2) gg nm
theorem fW.below {X:Nat->Prop}{w w':World}{b:Nat}{nm:bG}(h:fW X w b nm)(hb:Below w.heap.size w w'):fW X w' b nm:=by
 obtain⟨gg,h2,h3⟩:=h;exact⟨gg,h2.below hb h2.lt,h3.imp λa b h=>⟨h.1,h.2.1.below hb,h.2.2⟩⟩
theorem fW.lt {X:Nat->Prop}{w:World}{b:Nat}{nm:bG}(h:fW X w b nm):b<w.heap.size:=by
 obtain⟨gg,h2,h3⟩:=h;exact h2.lt
theorem fW.find {X:Nat->Prop}{w:World}{n:List UInt8}:∀{gg:List (List UInt8×Value)} {nm:bG},cU (λkv x=>kv.1=x.1/\Sl X 2 (En bL) w kv.2 x.2/\Arg kv.2) gg nm ->
  (sA n nm=none/\eA n gg=none)\/∃s u,sA n nm=some s/\eA n gg=some u/\Sl X 2 (En bL) w u s/\Arg u:=by
 intro gg nm h;induction h with
 | nil=>exact .inl ⟨rfl,rfl⟩
 | @cons kv x l m h1 h2 ih =>
  obtain⟨e,hs,ha⟩:=h1;by_cases hn:x.1=n
  ·exact .inr ⟨x.2,kv.2,by rw[sA,if_pos hn],by rw[eA,if_pos (by rw[e,hn])],hs,ha⟩
  rw[sA,if_neg hn,eA,if_neg (λh=>hn (by rw[<-e,<-h]))];exact ih
def cY (X:Nat->Prop)(B:Nat)(nm:bG)(k:ao)(r:Value)(w:World):Prop:=match cH nm k with
 | .ok s=>∃v,r=.tuple #[v,.nilIface]/\Sl (λb=>X b/\b<B) 2 (En bL) w v s/\Arg v
 | .error e=>∃b,B<=b/\r=.tuple #[.slice none 0 0,.iface 92 (.pointer (some ⟨b,0,none⟩))]/\aM w b 94 [.int .i64 7,.int .i64 e]
theorem yd:∀(k:ao),gB k->∀(nm:bG),gh nm->∀(X:Nat->Prop) (v:Value) (b:Nat) (w:World),eY X w v k->fW X w b nm ->
  bE Tryz.prog 12 [v,.map (some b)] w λr w'=>cY X w.heap.size nm k r w'/\Below w.heap.size w w':=by
 intro k;induction k with
 | lit pos s =>
  rintro bJ nm hr X v mb w ⟨b,sv,rfl,hb,hB,hs,ha⟩ hm;have d0:w.cell? ⟨b,0,none⟩=some (.int .i64 1):=hB.cell rfl;have d2:w.cell? ⟨b,2,none⟩=some sv:=hB.cell rfl;obtain⟨_,_,rfl,_⟩:=hs.shape
  (refine aE Tryz.func12 rfl (by kernel_rfl) [4,5] rfl ?_;push_cast -dsimp(maxSteps:=4000000) [Tryz.ntmps12]);push_cast -dsimp[d0,d2];exact⟨⟨_,rfl,hs.weaken (λb hh=>hh.1),ha⟩,Below.refl _ _⟩
 | ref pos n =>
  rintro bJ nm hr X v mb w ⟨b,rfl,hb,hB⟩ hm;have d0:w.cell? ⟨b,0,none⟩=some (.int .i64 2):=hB.cell rfl;have d1:w.cell? ⟨b,1,none⟩=some (.int .i64 pos):=hB.cell rfl;have d3:w.cell? ⟨b,3,none⟩=some (str n):=hB.cell rfl;obtain⟨gg,hM,hA⟩:=hm;have hf:=fW.find (n:=n) hA
  (refine aE Tryz.func12 rfl (by kernel_rfl) [4,5] rfl ?_;push_cast -dsimp(maxSteps:=4000000) [Tryz.ntmps12]);push_cast -dsimp[d0,d1,d3];rcases hf with ⟨f1,f2⟩|⟨s,u,f1,f2,hs,ha⟩
  ·refine pJ (kt:=9) (et:=41) (z:=.slice none 0 0) (by kernel_rfl) (np (by kernel_rfl)) (by kernel_rfl) hM rfl f2 ?_;push_cast -dsimp;have d1d:w.drew.cell? ⟨b,1,none⟩=some (.int .i64 pos):=d1;refine bx (λw'=>w'.cell? ⟨b,1,none⟩=some (.int .i64 pos)) mixed (by kernel_rfl) d1 ?_;push_cast -dsimp[d1d];refine⟨λbU h=>by rw[h];exact rfl,?_⟩;refine aR ?_;intro w2 bw;have bw:ly w.drew w2 94 [.int .i64 7,.int .i64 pos]:=bw;have aw:=hB.lt;have eR:Below w.heap.size w w2:=((Kept.refl (λ_=>False) w).drew.below (Nat.le_refl _) (λ_ h=>h.elim)).trans bw.below;refine⟨(eR.cell (by show b<_;omega)).trans d1,?_⟩
   push_cast -dsimp;refine⟨?_,eR⟩;unfold cY;rw[show cH nm (.ref pos n)=.error pos from by rw[cH,f1]]
   exact⟨w.heap.size,Nat.le_refl _,rfl,bw.aN⟩
  refine pK (kt:=9) (et:=41) (z:=.slice none 0 0) (by kernel_rfl) (np (by kernel_rfl)) (by kernel_rfl) hM rfl f2 ?_;obtain⟨_,_,rfl,_⟩:=hs.shape;push_cast -dsimp;refine⟨?_,Below.refl _ _⟩;unfold cY;rw[show cH nm (.ref pos n)=.ok s from by rw[cH,f1]]
  exact⟨_,rfl,hs.weaken (λb hh=>hh.1),ha⟩
 | not pos k ih =>
  rintro bJ nm hr X v mb w ⟨b,u,rfl,hb,hB,h1⟩ hm;obtain⟨b1,rfl,gX⟩:=h1.ptr;have d0:w.cell? ⟨b,0,none⟩=some (.int .i64 6):=hB.cell rfl;have d4:w.cell? ⟨b,4,none⟩=some (.pointer (some ⟨b1,0,none⟩)):=hB.cell rfl
  (refine aE Tryz.func12 rfl (by kernel_rfl) [4,5] rfl ?_;push_cast -dsimp(maxSteps:=4000000) [Tryz.ntmps12]);push_cast -dsimp[d0,d4];refine aA (ih bJ nm hr X _ mb w h1 hm) ?_;rintro r w1 ⟨hR,jb⟩;have z1:=jb.size;have nF:=hB.below jb hB.lt;have e0:w1.cell? ⟨b,0,none⟩=some (.int .i64 6):=nF.cell rfl;unfold cY at hR;cases hk:cH nm k with
  | ok s =>
   rw[hk]at hR;obtain⟨v1,rfl,gA,Kb⟩:=hR;have jO:=eC (k:=k) hr bJ hk;have hle:=fu jO;push_cast -dsimp[e0];refine aA (J2 s (by omega) jO _ _ w1 gA) ?_;rintro v2 w2 ⟨ob,eR⟩;have Sv:=jb.trans (eR.mono z1);have ha2:Arg v2:=ob.dR;obtain⟨_,_,rfl⟩:=ob.slice;push_cast -dsimp;refine⟨?_,Sv⟩;unfold cY;rw[show cH nm (.not pos k)=.ok (gw s) from by rw[cH,hk]]
   exact⟨_,rfl,ob.sl.weaken (λb hh=>by have:=hh.2;omega),ha2⟩
  | error e =>
   rw[hk]at hR;obtain⟨eb,CP,rfl,hE⟩:=hR;push_cast -dsimp;refine⟨?_,jb⟩;unfold cY;rw[show cH nm (.not pos k)=.error e from by rw[cH,hk]]
   exact⟨eb,CP,rfl,hE⟩
 | bin c pos k r ih ih' =>
  rintro bJ nm hr X v mb w ⟨b,u,x,rfl,hb,hB,h1,h2⟩ hm;obtain⟨b1,rfl,gX⟩:=h1.ptr;obtain⟨b2,rfl,eR⟩:=h2.ptr;obtain⟨It,Q8,hc⟩:=bJ;have d4:w.cell? ⟨b,4,none⟩=some (.pointer (some ⟨b1,0,none⟩)):=hB.cell rfl;rcases hc with rfl|rfl|rfl
  case inl =>
   have d0:w.cell? ⟨b,0,none⟩=some (.int .i64 3):=hB.cell rfl
   (refine aE Tryz.func12 rfl (by kernel_rfl) [4,5] rfl ?_;push_cast -dsimp(maxSteps:=4000000) [Tryz.ntmps12]);push_cast -dsimp[d0,d4];refine aA (ih It nm hr X _ mb w h1 hm) ?_;rintro r1 w1 ⟨hR,jb⟩;have z1:=jb.size;have nF:=hB.below jb hB.lt;have e0:w1.cell? ⟨b,0,none⟩=some (.int .i64 3):=nF.cell rfl;have e5:w1.cell? ⟨b,5,none⟩=some (.pointer (some ⟨b2,0,none⟩)):=nF.cell rfl;unfold cY at hR;cases hk:cH nm k with
   | error e =>
    rw[hk]at hR;obtain⟨eb,CP,rfl,hE⟩:=hR;push_cast -dsimp;refine⟨?_,jb⟩;unfold cY;rw[show cH nm (.bin 3 pos k r)=.error e from by rw[cH,hk]]
    exact⟨eb,CP,rfl,hE⟩
   | ok s =>
    rw[hk]at hR;obtain⟨v1,rfl,gA,Kb⟩:=hR;have jO:=eC hr It hk;have hls:=fu jO;obtain⟨_,_,rfl,_⟩:=gA.shape;push_cast -dsimp[e0,e5];refine aA (ih' Q8 nm hr X _ mb w1 (h2.below jb) (hm.below jb)) ?_;rintro r2 w2 ⟨AS,uH⟩;have z2:=uH.size;have fo:=jb.trans (uH.mono z1);have iL:=nF.below uH nF.lt;have f0:w2.cell? ⟨b,0,none⟩=some (.int .i64 3):=iL.cell rfl;unfold cY at AS;cases nj:cH nm r with
    | error e =>
     rw[nj]at AS;obtain⟨eb,CP,rfl,hE⟩:=AS;push_cast -dsimp;refine⟨?_,fo⟩;unfold cY;rw[show cH nm (.bin 3 pos k r)=.error e from by rw[cH,hk];dsimp only;rw[nj]]
     exact⟨eb,by omega,rfl,hE⟩
    | ok t =>
     rw[nj]at AS;obtain⟨v2,rfl,gd,ha2⟩:=AS;have TF:=eC hr Q8 nj;have aw:=fu TF;obtain⟨_,_,rfl,_⟩:=gd.shape;push_cast -dsimp[f0];refine aA (aJ4 s t (by omega) (by omega) (λ_=>False) _ _ w2 ((gA.below uH).weaken (λ_ h=>h.elim)) (gd.weaken (λ_ h=>h.elim)) Kb ha2) ?_;rintro v3 w3 ⟨oH,fL⟩;have qM:=fo.trans (fL.mono (by omega));have ha3:Arg v3:=oH.dR;obtain⟨_,_,rfl⟩:=oH.slice;push_cast -dsimp;refine⟨?_,qM⟩;unfold cY;rw[show cH nm (.bin 3 pos k r)=.ok (Bk s t) from by rw[cH,hk];dsimp only;rw[nj];rfl]
     exact⟨_,rfl,oH.sl.weaken (λb hh=>by have:=hh.2;omega),ha3⟩
  case inr.inl =>
   have d0:w.cell? ⟨b,0,none⟩=some (.int .i64 4):=hB.cell rfl
   (refine aE Tryz.func12 rfl (by kernel_rfl) [4,5] rfl ?_;push_cast -dsimp(maxSteps:=4000000) [Tryz.ntmps12]);push_cast -dsimp[d0,d4];refine aA (ih It nm hr X _ mb w h1 hm) ?_;rintro r1 w1 ⟨hR,jb⟩;have z1:=jb.size;have nF:=hB.below jb hB.lt;have e0:w1.cell? ⟨b,0,none⟩=some (.int .i64 4):=nF.cell rfl;have e5:w1.cell? ⟨b,5,none⟩=some (.pointer (some ⟨b2,0,none⟩)):=nF.cell rfl;unfold cY at hR;cases hk:cH nm k with
   | error e =>
    rw[hk]at hR;obtain⟨eb,CP,rfl,hE⟩:=hR;push_cast -dsimp;refine⟨?_,jb⟩;unfold cY;rw[show cH nm (.bin 4 pos k r)=.error e from by rw[cH,hk]]
    exact⟨eb,CP,rfl,hE⟩
   | ok s =>
    rw[hk]at hR;obtain⟨v1,rfl,gA,Kb⟩:=hR;have jO:=eC hr It hk;have hls:=fu jO;obtain⟨_,_,rfl,_⟩:=gA.shape;push_cast -dsimp[e0,e5];refine aA (ih' Q8 nm hr X _ mb w1 (h2.below jb) (hm.below jb)) ?_;rintro r2 w2 ⟨AS,uH⟩;have z2:=uH.size;have fo:=jb.trans (uH.mono z1);have iL:=nF.below uH nF.lt;have f0:w2.cell? ⟨b,0,none⟩=some (.int .i64 4):=iL.cell rfl;unfold cY at AS;cases nj:cH nm r with
    | error e =>
     rw[nj]at AS;obtain⟨eb,CP,rfl,hE⟩:=AS;push_cast -dsimp;refine⟨?_,fo⟩;unfold cY;rw[show cH nm (.bin 4 pos k r)=.error e from by rw[cH,hk];dsimp only;rw[nj]]
     exact⟨eb,by omega,rfl,hE⟩
    | ok t =>
     rw[nj]at AS;obtain⟨v2,rfl,gd,ha2⟩:=AS;have TF:=eC hr Q8 nj;have aw:=fu TF;obtain⟨_,_,rfl,_⟩:=gd.shape;push_cast -dsimp[f0];refine aA (aCi s t (by omega) (by omega) jO TF (λ_=>False) _ _ w2 ((gA.below uH).weaken (λ_ h=>h.elim)) (gd.weaken (λ_ h=>h.elim))) ?_;rintro v3 w3 ⟨oH,fL⟩;have qM:=fo.trans (fL.mono (by omega));have ha3:Arg v3:=oH.dR;obtain⟨_,_,rfl⟩:=oH.slice;push_cast -dsimp;refine⟨?_,qM⟩;unfold cY;rw[show cH nm (.bin 4 pos k r)=.ok (Bi s t) from by rw[cH,hk];dsimp only;rw[nj];rfl]
     exact⟨_,rfl,oH.sl.weaken (λb hh=>by have:=hh.2;omega),ha3⟩
  case inr.inr =>
   have d0:w.cell? ⟨b,0,none⟩=some (.int .i64 5):=hB.cell rfl
   (refine aE Tryz.func12 rfl (by kernel_rfl) [4,5] rfl ?_;push_cast -dsimp(maxSteps:=4000000) [Tryz.ntmps12]);push_cast -dsimp[d0,d4];refine aA (ih It nm hr X _ mb w h1 hm) ?_;rintro r1 w1 ⟨hR,jb⟩;have z1:=jb.size;have nF:=hB.below jb hB.lt;have e0:w1.cell? ⟨b,0,none⟩=some (.int .i64 5):=nF.cell rfl;have e5:w1.cell? ⟨b,5,none⟩=some (.pointer (some ⟨b2,0,none⟩)):=nF.cell rfl;unfold cY at hR;cases hk:cH nm k with
   | error e =>
    rw[hk]at hR;obtain⟨eb,CP,rfl,hE⟩:=hR;push_cast -dsimp;refine⟨?_,jb⟩;unfold cY;rw[show cH nm (.bin 5 pos k r)=.error e from by rw[cH,hk]]
    exact⟨eb,CP,rfl,hE⟩
   | ok s =>
    rw[hk]at hR;obtain⟨v1,rfl,gA,Kb⟩:=hR;have jO:=eC hr It hk;have hls:=fu jO;obtain⟨_,_,rfl,_⟩:=gA.shape;push_cast -dsimp[e0,e5];refine aA (ih' Q8 nm hr X _ mb w1 (h2.below jb) (hm.below jb)) ?_;rintro r2 w2 ⟨AS,uH⟩;have z2:=uH.size;have fo:=jb.trans (uH.mono z1);have iL:=nF.below uH nF.lt;have f0:w2.cell? ⟨b,0,none⟩=some (.int .i64 5):=iL.cell rfl;unfold cY at AS;cases nj:cH nm r with
    | error e =>
     rw[nj]at AS;obtain⟨eb,CP,rfl,hE⟩:=AS;push_cast -dsimp;refine⟨?_,fo⟩;unfold cY;rw[show cH nm (.bin 5 pos k r)=.error e from by rw[cH,hk];dsimp only;rw[nj]]
     exact⟨eb,by omega,rfl,hE⟩
    | ok t =>
     rw[nj]at AS;obtain⟨v2,rfl,gd,ha2⟩:=AS;have TF:=eC hr Q8 nj;have aw:=fu TF;obtain⟨_,_,rfl,_⟩:=gd.shape;push_cast -dsimp[f0];refine aA (aFz s t (by omega) (by omega) jO TF (λ_=>False) _ _ w2 ((gA.below uH).weaken (λ_ h=>h.elim)) (gd.weaken (λ_ h=>h.elim))) ?_;rintro v3 w3 ⟨oH,fL⟩;have qM:=fo.trans (fL.mono (by omega));have ha3:Arg v3:=oH.dR;obtain⟨_,_,rfl⟩:=oH.slice;push_cast -dsimp;refine⟨?_,qM⟩;unfold cY;rw[show cH nm (.bin 5 pos k r)=.ok (zE s t) from by rw[cH,hk];dsimp only;rw[nj];rfl]
     exact⟨_,rfl,oH.sl.weaken (λb hh=>by have:=hh.2;omega),ha3⟩
end Go.Proofs.YtledlfbbebodgaaGreatDoor
end
section
namespace Cae
mutual
def wd:aF->Nat
 | .one _=>0
 | .any=>0
 | .fY=>0
 | .cat l=>Nat.max l.length (wds l)
 | .alt l=>Nat.max l.length (wds l)
 | .many x _ _=>wd x
def wds:List aF->Nat
 | []=>0
 | x::l=>Nat.max (wd x) (wds l)
end
theorem Gx:∀{l:List aF} {x:aF},x∈l->wd x<=wds l
 | y::l,x,h=>by
  rw[wds];rcases List.mem_cons.1 h with rfl|h
  ·exact Nat.le_max_left _ _
  exact Nat.le_trans (Gx h) (Nat.le_max_right _ _)
theorem NF {n:Nat}:∀{l:List aF},(∀x∈l,wd x<=n)->wds l<=n
 | [],_=>Nat.zero_le _
 | y::l,h=>by
  rw[wds];exact Nat.max_le.2 ⟨h y (List.mem_cons_self ..),NF λx hx=>h x (List.mem_cons_of_mem _ hx)⟩
theorem wW {l:List aF}:wds l<=wd (.cat l)/\l.length<=wd (.cat l)/\∀x∈l,wd x<=wd (.cat l):=by
 rw[wd];exact⟨Nat.le_max_right _ _,Nat.le_max_left _ _,λx hx=>Nat.le_trans (Gx hx) (Nat.le_max_right _ _)⟩
theorem wV {l:List aF}:wds l<=wd (.alt l)/\l.length<=wd (.alt l)/\∀x∈l,wd x<=wd (.alt l):=by
 rw[wd];exact⟨Nat.le_max_right _ _,Nat.le_max_left _ _,λx hx=>Nat.le_trans (Gx hx) (Nat.le_max_right _ _)⟩
theorem tP {x:aF}{lo hi:Int}:wd x<=wd (.many x lo hi):=by rw[wd];exact Nat.le_refl _
mutual
theorem O9:∀x:aF,wd x<=pn x
 | .one k=>Nat.zero_le _
 | .any=>Nat.zero_le _
 | .fY=>Nat.zero_le _
 | .cat l=>by
  rw[wd];exact Nat.max_le.2 ⟨ED.2.1,NF λx hx=>Nat.le_trans (NG l x hx) (ED.2.2 x hx)⟩
 | .alt l=>by
  rw[wd];exact Nat.max_le.2 ⟨EC.2.1,NF λx hx=>Nat.le_trans (NG l x hx) (EC.2.2 x hx)⟩
 | .many x lo hi=>by
  rw[wd];exact Nat.le_trans (O9 x) M4
theorem NG:∀(l:List aF) (x:aF),x∈l->wd x<=pn x
 | [],x,h=>by cases h
 | y::l,x,h=>by
  rcases List.mem_cons.1 h with h|h
  ·rw[h];exact O9 y
  exact NG l x h
end
end Cae
end
section
namespace Go.Proofs.YtledlfbbebodgaaGreatDoor
open Go.Vc Go.Proofs Go.RowKit Cae
attribute [local irreducible] dd ae ak a7 runK bE Sl Vc.Own vc aU cJ a8
def po (B:Nat)(o:Option (Int×Nat))(r:Value)(w:World):Prop:=match o with
 | none=>r=.nilIface
 | some (c,e)=>∃b,B<=b/\r=.iface 92 (.pointer (some ⟨b,0,none⟩))/\aM w b 94 [.int .i64 c,.int .i64 e]
theorem po.mono {B B':Nat}{o:Option (Int×Nat)}{r:Value}{w:World}(h:po B o r w)(hb:B'<=B):po B' o r w:=by
 unfold po at h ⊢
 cases o with
 | none=>exact h
 | some p=>obtain⟨b,h1,h2,h3⟩:=h;exact⟨b,by omega,h2,h3⟩
def zL (nm:bG)(x:aF):Option (Int×Nat):=(fi nm x).map λe=>((7:Int),e)
def yA (x:aF):Prop:=aj x->wd x<=100000000->∀(nm:bG),gh nm->∀(X:Nat->Prop) (v:Value) (b:Nat) (w:World),ai X w v x->fW X w b nm ->
 bE Tryz.prog 59 [v,.map (some b)] w λr w'=>po w.heap.size (zL nm x) r w'/\Below w.heap.size w w'
theorem Z3 (k:ao):yA (.one k):=by
 intro bJ jE nm hr X v mb w hV hm;simp only[ai]at hV;obtain⟨b,u,rfl,hb,hB,h1⟩:=hV;obtain⟨b1,rfl,gX⟩:=h1.ptr;have d0:w.cell? ⟨b,0,none⟩=some (.int .i64 1):=hB.cell rfl;have d1:w.cell? ⟨b,1,none⟩=some (.pointer (some ⟨b1,0,none⟩)):=hB.cell rfl;simp only[aj]at bJ;refine aE Tryz.func59 rfl (by kernel_rfl) [4] rfl ?_;push_cast -dsimp(maxSteps:=4000000) [Tryz.ntmps59];push_cast -dsimp[d0,d1];refine aA (yd k bJ nm hr X _ mb w h1 hm) ?_;rintro r w1 ⟨hR,jb⟩;unfold cY at hR;cases hk:cH nm k with
 | ok s =>
  rw[hk]at hR;obtain⟨v1,rfl,gA,Kb⟩:=hR;push_cast -dsimp;refine⟨?_,jb⟩;unfold zL;rw[fi,hk];rfl
 | error e =>
  rw[hk]at hR;obtain⟨eb,CP,rfl,hE⟩:=hR;push_cast -dsimp;refine⟨?_,jb⟩;unfold zL;rw[fi,hk];exact⟨eb,CP,rfl,hE⟩
theorem rU {nm:bG}:∀(a b:List aF),gu nm (a++b)=match gu nm a with
  | some e=>some e
  | none=>gu nm b
 | [],b=>by simp only[List.nil_append,gu]
 | x::a,b=>by
  simp only[List.cons_append,gu];cases fi nm x with
  | some e=>rfl
  | none=>exact rU a b
theorem oB (code lo hi:Int)(hc:code≠1)(l:List aF)(hl:∀x∈l,yA x)(bJ:∀x∈l,aj x/\wd x<=100000000)(hlen:l.length<=100000000)(nm:bG)(hr:gh nm)(X:Nat->Prop)(b mb:Nat)(pv sv:Value)(vs:List Nat)(w:World)
  (hB:aM w b 39 [.int .i64 code,pv,sv,.int .i64 lo,.int .i64 hi]) (hs:Sl X 1 (En fB) w sv vs) (hV:aQ X w vs l) (hm:fW X w mb nm) :
  bE Tryz.prog 59 [.pointer (some ⟨b,0,none⟩),.map (some mb)] w λr w'=>po w.heap.size ((gu nm l).map λe=>((7:Int),e)) r w'/\Below w.heap.size w w':=by
 have hvl:=hV.len;obtain⟨sa,sc,rfl,vz⟩:=hs.shape;have d0:w.cell? ⟨b,0,none⟩=some (.int .i64 code):=hB.cell rfl;have d2:w.cell? ⟨b,2,none⟩=some (.slice sa vs.length sc):=hB.cell rfl;refine aE Tryz.func59 rfl (by kernel_rfl) [4] rfl ?_;push_cast -dsimp(maxSteps:=4000000) [Tryz.ntmps59];push_cast -dsimp[d0,d2];refine⟨λh=>absurd h hc,λ_=>?_⟩;refine aL [4,8,9,30,31,32,33,34,35,36,37,38,39,40] (λz wx=>∃(i:Nat),z 30=.int .i64 i/\i<=l.length/\gu nm (l.take i)=none/\Below w.heap.size w wx) (λz _=>l.length-(intOf (z 30)).toNat) ?_ ?_
 ·exact⟨0,rfl,Nat.zero_le _,by simp[gu],Below.refl _ _⟩
 intro z wx hI;obtain⟨i,h30,hi,eZ,bT⟩:=hI;have zx:=bT.size;push_cast -dsimp[h30];refine⟨λaw=>?_,λfT=>?_⟩
 ·obtain⟨x,hx,jQ,_,ht⟩:=au (l:=l) (i:=i) (by omega);obtain⟨u,hu,QF⟩:=aQ.nth hV hx;obtain⟨b1,o,rfl,jh,aK⟩:=(hs.below bT).get hu;have c0:wx.cell? ⟨b1,o+i,none⟩=some (.pointer (some ⟨u,0,none⟩)):=by simpa[fB,bd] using aK 0 _ rfl
  push_cast -dsimp[c0,Nat.mul_one];refine⟨⟨by omega,by omega⟩,?_⟩;refine aA (hl x jQ (bJ x jQ).1 (bJ x jQ).2 nm hr X _ mb wx (ai.below QF bT) (hm.below bT)) ?_;rintro r wy ⟨hE,iD⟩;have jc:=bT.trans (iD.mono zx);unfold zL at hE;cases hp:fi nm x with
  | none =>
   rw[hp]at hE;have hE:r=.nilIface:=hE;subst hE;push_cast -dsimp;refine⟨⟨by omega,by omega⟩,⟨i+1,rfl,by omega,?_,jc⟩,by rw[h30];simp only[intOf];omega⟩;rw[ht,rU,eZ];simp only[gu,hp]
  | some e =>
   rw[hp]at hE;obtain⟨eb,CP,rfl,Sq⟩:=hE;push_cast -dsimp;refine⟨?_,jc⟩;have cN:gu nm l=some e:=by
    have tV:l=l.take (i+1)++l.drop (i+1):=(List.take_append_drop _ _).symm;rw[tV,rU,ht,rU,eZ];simp only[gu,hp]
   rw[cN];exact⟨eb,by omega,rfl,Sq⟩
 rw[List.take_of_length_le (by omega)]at eZ;refine⟨?_,bT⟩;rw[eZ];rfl
theorem Z1:yA .any:=by
 intro bJ jE nm hr X v mb w hV hm;simp only[ai]at hV;obtain⟨b,rfl,hb,hB⟩:=hV;exact(oB 2 0 0 (by decide) [] (λx h=>by cases h) (λx h=>by cases h) (by simp) nm hr X b mb _ _ [] w hB (Sl.nil _ _ _ _ _ _) (by simp only[aQ]) hm).mono λr w' ⟨h1,h2⟩=>⟨by simpa[zL,fi,gu] using h1,h2⟩
theorem UP:yA .fY:=by
 intro bJ jE nm hr X v mb w hV hm;simp only[ai]at hV;obtain⟨b,rfl,hb,hB⟩:=hV;exact(oB 3 0 0 (by decide) [] (λx h=>by cases h) (λx h=>by cases h) (by simp) nm hr X b mb _ _ [] w hB (Sl.nil _ _ _ _ _ _) (by simp only[aQ]) hm).mono λr w' ⟨h1,h2⟩=>⟨by simpa[zL,fi,gu] using h1,h2⟩
theorem Z2 (l:List aF)(hl:∀x∈l,yA x):yA (.cat l):=by
 intro bJ jE nm hr X v mb w hV hm;simp only[ai]at hV;obtain⟨b,sv,vs,rfl,hb,hB,hs,hV⟩:=hV;have uR:=wW (l:=l);simp only[aj]at bJ;exact(oB 4 0 0 (by decide) l hl (λx h=>⟨fe bJ h,by have:=uR.2.2 x h;omega⟩) (by have:=uR.2.1;omega) nm hr X b mb _ sv vs w hB hs hV hm).mono λr w' ⟨h1,h2⟩=>⟨by simpa[zL,fi] using h1,h2⟩
theorem Z0 (l:List aF)(hl:∀x∈l,yA x):yA (.alt l):=by
 intro bJ jE nm hr X v mb w hV hm;simp only[ai]at hV;obtain⟨b,sv,vs,rfl,hb,hB,hs,hV⟩:=hV;have uR:=wV (l:=l);simp only[aj]at bJ;exact(oB 5 0 0 (by decide) l hl (λx h=>⟨fe bJ h,by have:=uR.2.2 x h;omega⟩) (by have:=uR.2.1;omega) nm hr X b mb _ sv vs w hB hs hV hm).mono λr w' ⟨h1,h2⟩=>⟨by simpa[zL,fi] using h1,h2⟩
theorem UQ (x:aF)(lo hi:Int)(hx:yA x):yA (.many x lo hi):=by
 intro bJ jE nm hr X v mb w hV hm;simp only[ai]at hV;obtain⟨b,sv,u,rfl,hb,hB,hs,hV⟩:=hV;have hpm:=tP (x:=x) (lo:=lo) (hi:=hi);simp only[aj]at bJ;refine(oB 6 lo hi (by decide) [x] (λy h=>by rw[List.mem_singleton]at h;rw[h];exact hx) (λy h=>by rw[List.mem_singleton]at h;rw[h];exact⟨bJ.1,by omega⟩) (by simp) nm hr X b mb _ sv [u] w hB hs (by simp only[aQ];exact⟨hV,trivial⟩) hm).mono λr w' ⟨h1,h2⟩=>⟨?_,h2⟩;have e:gu nm [x]=fi nm x:=by
  simp only[gu];cases fi nm x<;>rfl
 rw[e]at h1;simpa[zL,fi] using h1
mutual
theorem NN:∀x,yA x
 | .one k=>Z3 k
 | .any=>Z1
 | .fY=>UP
 | .cat l=>Z2 l (LL l)
 | .alt l=>Z0 l (LL l)
 | .many x lo hi=>UQ x lo hi (NN x)
theorem LL:∀(l:List aF) (x:aF),x∈l->yA x
 | [],x,h=>by cases h
 | y::l,x,h=>by
  have hy:=NN y;rcases List.mem_cons.1 h with h|h
  ·rw[h];exact hy
  exact LL l x h
end
def aHJ (p:Nat×Nat):Int×Nat:=(if p.1=5 then 9 else 7,p.2)
def lx (X:Nat->Prop)(B:Nat)(f:dw)(r:Value)(w:World):Prop:=match iQ [] f.cQ with
 | .ok nm=>∃mb,B<=mb/\r=.tuple #[.map (some mb),.nilIface]/\fW (λb=>X b/\b<B) w mb nm/\gh nm
 | .error e=>∃v,r=.tuple #[.map none,v]/\po B (some (aHJ e)) v w
theorem Jk {nm:bG}{n:List UInt8}{s:List Rg}(h:gh nm)(hs:aP (-2) s=true):gh (nm++[(n,s)]):=λx hx=>by
 rw[List.mem_append,List.mem_singleton]at hx;rcases hx with hx|rfl
 ·exact h x hx
 exact hs
theorem tE {nm:bG}{c:fA}{l:List fA}:iQ nm (c::l)=if (sA c.name nm).isSome then .error (5,c.pos) else match cH nm c.kind with
  | .error e=>.error (6,e)
  | .ok s=>iQ (nm++[(c.name,s)]) l:=by
 first|(rw[iQ];done)|(rw[iQ];rfl)
theorem pt {α β:Type}{R:α->β->Prop}{l:List α}{m:List β}(h:cU R l m){i:Nat}{y:β}(hy:m[i]?=some y):∃x,l[i]?=some x/\R x y:=by
 induction h generalizing i with
 | nil=>simp at hy
 | cons h1 _ ih =>
  cases i with
  | zero=>cases hy;exact⟨_,rfl,h1⟩
  | succ i=>exact ih (by simpa using hy)
theorem G1 (f:dw)(bJ:∀c∈f.cQ,gB c.kind)(hlen:f.cQ.length<=1000000)(X:Nat->Prop)(v:Value)(w:World)(hv:jf X w v f) :
  bE Tryz.prog 10 [v] w λr w'=>lx X w.heap.size f r w'/\Below w.heap.size w w':=by
 obtain⟨cv,rv,cs,rs,rfl,iW,jO,hC,hR⟩:=hv;have j1:=cU.len hC;obtain⟨ca,cc,rfl,hcc⟩:=iW.shape;obtain⟨ra,rc,rfl,hrc⟩:=jO.shape;refine aE Tryz.func10 rfl (by kernel_rfl) [2,3] rfl ?_;push_cast -dsimp(maxSteps:=4000000) [Tryz.ntmps10];refine aR ?_;intro w1 aZ;have aZ:ly w w1 26 [.slice ca cs.length cc,.slice ra rs.length rc,.bool f.els]:=aZ;have z1:=aZ.size;push_cast -dsimp;refine Aw (key:=λl:List UInt8=>str l) ?_;intro w2 m2 eR z2;have B2:=aZ.aN.below eR (by omega);have d2:w2.cell? ⟨w.heap.size,0,none⟩=some (.slice ca cs.length cc):=B2.cell rfl;have fo:=aZ.below.trans (eR.mono (by omega));have hN:∃Xn:Nat->Prop,Xn=(λb=>(X b/\b<w.heap.size)\/b=w1.heap.size):=⟨_,rfl⟩;obtain⟨Xn,Ss⟩:=hN;push_cast -dsimp[d2];refine aL [2,3,6,7,8,9,10,15,16,17,18,19,20,21,22,23,24,25,26,27,28,29,30,31,32,33,34,35,36,37,38,39,40,41,42,43,44,45,46] (λz wx=>∃(i:Nat) (nm:bG),z 15=.int .i64 i/\i<=f.cQ.length/\iQ [] f.cQ=iQ nm (f.cQ.drop i)/\fW Xn wx w1.heap.size nm/\gh nm/\Below w.heap.size w wx/\w2.heap.size<=wx.heap.size) (λz _=>f.cQ.length-(intOf (z 15)).toNat) ?_ ?_
 ·exact⟨0,[],rfl,Nat.zero_le _,rfl,⟨[],m2,.nil⟩,(λx h=>(by cases h)),fo,Nat.le_refl _⟩
 intro z wx hI;obtain⟨i,nm,h15,hi,o8,Yd,Sr,bT,zx⟩:=hI;push_cast -dsimp[h15];refine⟨λaw=>?_,λfT=>?_⟩
 ·obtain⟨c,hc,sC,_,ht⟩:=au (l:=f.cQ) (i:=i) (by omega);obtain⟨x,hx,hxn,HN,TH⟩:=pt hC hc;obtain⟨xn,xp,xk⟩:=x;simp only at hxn HN TH;subst hxn;subst HN;obtain⟨b1,o,rfl,jh,aK⟩:=(iW.below bT).get hx;have c3:aB wx ⟨b1,o+i*3,none⟩ 0 3=some [str c.name,.int .i64 c.pos,bd xk]:=ax _ 0 (λj u hu=>by simpa[AI] using aK j u hu);have Ab:bd xk=.pointer (some ⟨xk,0,none⟩):=rfl;rw[Ab]at c3;push_cast -dsimp[c3];refine⟨⟨by omega,by omega⟩,?_⟩;refine ag (z:=[str [],.int .i64 0,.pointer none]) (by kernel_rfl) ?_;intro wa dt;have za:=dt.size;push_cast -dsimp;refine aJ (n:=3) (by kernel_rfl) dt.aN rfl (by simp) (by simp[Value.oneCell',str]) ?_;intro wb cL;have zb:=cL.size;have jK:Below wx.heap.size wx wb:=dt.below.trans (cL.kept.below (by omega) (λi h=>by omega));have Fm:=bT.trans (jK.mono bT.size);have Cb:aM wb wx.heap.size 90 [str c.name,.int .i64 c.pos,.pointer (some ⟨xk,0,none⟩)]:=cL.aN;have e0:wb.cell? ⟨wx.heap.size,0,none⟩=some (str c.name):=Cb.cell rfl;have e1:wb.cell? ⟨wx.heap.size,1,none⟩=some (.int .i64 c.pos):=Cb.cell rfl;have e2:wb.cell? ⟨wx.heap.size,2,none⟩=some (.pointer (some ⟨xk,0,none⟩)):=Cb.cell rfl;have hNb:=Yd.below jK;obtain⟨gg,hM,hA⟩:=hNb;have hf:=fW.find (n:=c.name) hA;have Vr:f.cQ.drop i=c::f.cQ.drop (i+1):=by rw[List.drop_eq_getElem?_toList_append,hc];rfl
  push_cast -dsimp[e0];rcases hf with ⟨f1,f2⟩|⟨s,u,f1,f2,hs,ha⟩
  ·refine pJ (kt:=9) (et:=41) (z:=.slice none 0 0) (by kernel_rfl) (np (by kernel_rfl)) (by kernel_rfl) hM rfl f2 ?_;push_cast -dsimp[e2];have AY:eY Xn wb (.pointer (some ⟨xk,0,none⟩)) c.kind:=(TH.top.below Fm).mono (Kept.refl (λ_=>False) wb) (λ_ h=>h.elim) (λb hb=>by
    rw[Ss]at hb;rcases hb with hb|hb
    ·exact .inl hb.1
    exact .inr (by omega))
   refine aA (yd c.kind (bJ c sC) nm Sr Xn _ w1.heap.size wb AY ⟨gg,hM,hA⟩) ?_;rintro r wd ⟨hK,vL⟩;have zd:=vL.size;have aIL:=Fm.trans (vL.mono Fm.size);have Cd:=Cb.below vL Cb.lt;have g0:wd.cell? ⟨wx.heap.size,0,none⟩=some (str c.name):=Cd.cell rfl;unfold cY at hK;cases TD:cH nm c.kind with
   | error e =>
    rw[TD]at hK;obtain⟨eb,CP,rfl,hE⟩:=hK;push_cast -dsimp;refine⟨?_,aIL⟩;unfold lx;rw[o8,Vr,tE,f1,TD];exact⟨_,rfl,eb,by omega,rfl,hE⟩
   | ok s =>
    rw[TD]at hK;obtain⟨v1,rfl,gA,Kb⟩:=hK;have jO:=eC (k:=c.kind) Sr (bJ c sC) TD;obtain⟨_,_,rfl,_⟩:=gA.shape;have hMd:=hM.below vL hM.lt;push_cast -dsimp[g0];refine jJ (kt:=9) (et:=41) (by kernel_rfl) (np (by kernel_rfl)) hMd rfl f2 ?_;intro we VT eN DA;have aML:Below w.heap.size w we:=aIL.trans (eN.below (by omega) (λi h=>by omega));push_cast -dsimp;refine⟨⟨by omega,by omega⟩,⟨i+1,nm++[(c.name,s)],rfl,by omega,?_,⟨_,VT,?_⟩,Jk Sr jO,aML,by omega⟩,by rw[h15];simp only[intOf];omega⟩
    ·rw[o8,Vr,tE,f1,TD];rfl
    refine cU.snoc (hA.imp λa b h=>⟨h.1,(h.2.1.below vL).kept eN (λi hi=>by rw[Ss];exact .inr hi),h.2.2⟩) ⟨rfl,(gA.kept eN (λi hi=>?_)).weaken (λb hb=>?_),Kb⟩
    ·exact⟨by rw[Ss];exact .inr hi,by omega⟩
    refine⟨hb,?_⟩;rw[Ss]at hb;rcases hb with hb|hb
    ·omega
    omega
  refine pK (kt:=9) (et:=41) (z:=.slice none 0 0) (by kernel_rfl) (np (by kernel_rfl)) (by kernel_rfl) hM rfl f2 ?_;obtain⟨_,_,rfl,_⟩:=hs.shape;push_cast -dsimp;have e1d:wb.drew.cell? ⟨wx.heap.size,1,none⟩=some (.int .i64 c.pos):=e1;refine bx (λw'=>w'.cell? ⟨wx.heap.size,1,none⟩=some (.int .i64 c.pos)) mixed (by kernel_rfl) e1 ?_;push_cast -dsimp[e1d];refine⟨λbU h=>by rw[h];exact rfl,?_⟩;refine aR ?_;intro wd lG;have lG:ly wb.drew wd 94 [.int .i64 9,.int .i64 c.pos]:=lG;have vL:Below wb.heap.size wb wd:=((Kept.refl (λ_=>False) wb).drew.below (Nat.le_refl _) (λ_ h=>h.elim)).trans lG.below;refine⟨(vL.cell (by show wx.heap.size<_;omega)).trans e1,?_⟩
  push_cast -dsimp;refine⟨?_,Fm.trans (vL.mono Fm.size)⟩;unfold lx;rw[o8,Vr,tE,f1];exact⟨_,rfl,wb.heap.size,Fm.size,rfl,lG.aN⟩
 refine⟨?_,bT⟩;rw[List.drop_of_length_le (by omega),iQ]at o8;unfold lx;rw[o8];obtain⟨gg,hM,hA⟩:=Yd;exact⟨_,by omega,rfl,⟨gg,hM,hA.imp λa b h=>⟨h.1,h.2.1.weaken (λb hb=>by rw[Ss];exact .inl hb),h.2.2⟩⟩,Sr⟩
theorem aCn (c:Bool)(n k n' k':Nat)(L:VP)(other:Prop)(p):cK 3 c .eql (.slice none n k) (.slice none n' k') L other p=L (.bool true):=by
 cases c<;>rfl
theorem aCo (c:Bool)(a:Addr)(n k n' k':Nat)(L:VP)(other:Prop)(p):cK 3 c .eql (.slice (some a) n k) (.slice none n' k') L other p=L (.bool false):=by
 cases c<;>rfl
theorem Uv:∀x,∀u∈Vc.nd x,u.oneCell'=true:=by simp[Vc.nd,Value.oneCell']
theorem NO (l:List Int)(hl:l.length<1000000000)(X:Nat->Prop)(v:Value)(w:World)(hv:Sl X 1 (En Vc.nd) w v l)(ha:Arg v) :
  bE Tryz.prog 63 [v] w λr w'=>Vc.Own w.heap.size 3 1 Vc.nd w' r l/\Below w.heap.size w w':=by
 obtain⟨a,c,rfl,hc⟩:=hv.shape;refine aE Tryz.func63 rfl (by kernel_rfl) [2] rfl ?_;push_cast -dsimp(maxSteps:=4000000) [Tryz.ntmps63];cases a with
 | none =>
  obtain⟨h0,rfl⟩:=ha _ _ rfl;have:l=[]:=List.eq_nil_of_length_eq_zero h0;subst this;push_cast -dsimp[aCn];exact⟨Vc.Own.nil (enc:=Vc.nd) _ _ (λ_=>rfl) _,Below.refl _ _⟩
 | some ad =>
  push_cast -dsimp[aCo];refine cT bA rfl rfl (by omega) ?_;intro w1 aZ;have uP:=aZ.own (base:=w.heap.size) (k:=1) (n:=0) (enc:=Vc.nd) (l:=[]) rfl rfl (λ_=>rfl) (Nat.le_refl _) (by omega);have sM:=aZ.size;push_cast -dsimp;refine ln (base:=w.heap.size) (enc:=Vc.nd) (ys:=l) bA uP (hv.below aZ.below) (λn c h=>by cases h) Uv (by simp only[List.length_nil];omega) (by omega) ?_;intro v' w2 ob hg2 eR;rw[List.nil_append]at ob;push_cast -dsimp;exact⟨ob,aZ.below.trans eR⟩
end Go.Proofs.YtledlfbbebodgaaGreatDoor
end
section
namespace Go.Proofs.YtledlfbbebodgaaGreatDoor
open Go.Vc Go.Proofs Go.RowKit
def aY (k:Nat):List Value:=[.int .i64 k]
end Go.Proofs.YtledlfbbebodgaaGreatDoor
end
section
namespace Cae
open Go.Lib
theorem AF (zs:List Int)(h:zs.Pairwise (·<=·)):(compact zs).Pairwise (·<·)/\∀x,x∈compact zs↔x∈zs:=by
 have get:∀j,j<zs.length->zs.toArray[j]! = zs[j]! := λj hj=>by simp
 have mono:∀i j,i<=j->j<zs.length->zs.toArray[i]! <= zs.toArray[j]! := λi j Yi hj=>by
  rw[get i (by omega),get j hj,getElem!_pos zs i (by omega),getElem!_pos zs j hj];rcases Nat.lt_or_eq_of_le Yi with hl|he
  ·exact List.pairwise_iff_getElem.1 h i j (by omega) hj hl
  subst he;exact Int.le_refl _
 have key:∀m,m<=zs.length->(compactUpTo zs.toArray m).Pairwise (·<·)/\(∀x∈compactUpTo zs.toArray m,∃j,j<m/\zs.toArray[j]! = x)/\∀j,j<m->zs.toArray[j]! ∈ compactUpTo zs.toArray m:=by
  intro m;induction m with
  | zero=>intro _;simp[compactUpTo]
  | succ m ih =>
   intro hm;obtain⟨h1,h2,h3⟩:=ih (by omega);rw[compactUpTo_succ];by_cases hk:keeps zs.toArray m=true
   ·rw[if_pos hk];refine⟨List.pairwise_append.2 ⟨h1,by simp,λx hx y hy=>?_⟩,λx hx=>?_,λj hj=>?_⟩
    ·rw[List.mem_singleton]at hy;subst hy;obtain⟨j,hj,rfl⟩:=h2 x hx;unfold keeps at hk;have hk:=of_decide_eq_true hk;rcases hk with hk|hk
     ·omega
     have a1:=mono j (m-1) (by omega) (by omega);have a2:=mono (m-1) m (by omega) (by omega);omega
    ·rw[List.mem_append,List.mem_singleton]at hx;rcases hx with hx|rfl
     ·obtain⟨j,hj,e⟩:=h2 x hx;exact⟨j,by omega,e⟩
     exact⟨m,by omega,rfl⟩
    rw[List.mem_append,List.mem_singleton];by_cases Fv:j=m
    ·subst Fv;exact .inr rfl
    exact .inl (h3 j (by omega))
   rw[if_neg hk,List.append_nil];refine⟨h1,λx hx=>?_,λj hj=>?_⟩
   ·obtain⟨j,hj,e⟩:=h2 x hx;exact⟨j,by omega,e⟩
   by_cases Fv:j=m
   ·subst Fv;unfold keeps at hk;have hk:¬(j=0\/zs.toArray[j]! ≠ zs.toArray[j-1]!):=λhh=>hk (decide_eq_true hh);have e:zs.toArray[j]! = zs.toArray[j-1]! := Classical.byContradiction λdD=>hk (.inr dD);rw[e];exact h3 (j-1) (by omega)
   exact h3 j (by omega)
 obtain⟨h1,h2,h3⟩:=key zs.length (Nat.le_refl _);refine⟨h1,λx=>⟨λhx=>?_,λhx=>?_⟩⟩
 ·obtain⟨j,hj,rfl⟩:=h2 x hx;rw[get j hj,getElem!_pos zs j hj];exact List.getElem_mem _
 obtain⟨j,hj,rfl⟩:=List.getElem_of_mem hx
 have:=h3 j hj;rwa [get j hj,getElem!_pos zs j hj]at this
def bH (l:List Nat):List Int:=l.map λn:Nat=>(n:Int)
theorem tA {zs:List Int}(h:∀z∈zs,0<=z):bH (zs.map Int.toNat)=zs:=by
 unfold bH;rw[List.map_map]
 conv=>rhs;rw[<-List.map_id zs]
 exact List.map_congr_left λz hz=>by have:=h z hz;simp[Function.comp];omega
theorem qx (l:List Nat):∃m:List Nat,compact (bH l |>.mergeSort λx y=>decide (x<=y))=bH m/\m.Pairwise (·<·)/\∀x,x∈m↔x∈l:=by
 have hp:=List.mergeSort_perm (bH l) (λx y=>decide (x<=y));have hs:((bH l).mergeSort λx y=>decide (x<=y)).Pairwise (·<=·):=by
  have:=List.pairwise_mergeSort (le:=λx y:Int=>decide (x<=y)) (λa b c h1 h2=>by simp at *;omega) (λa b=>by simp;omega) (bH l);exact this.imp λh=>of_decide_eq_true h
 obtain⟨h1,h2⟩:=AF _ hs;have h0:∀z∈compact ((bH l).mergeSort λx y=>decide (x<=y)),∃n:Nat,n∈l/\z=n:=λz hz=>by
  have:=(hp.mem_iff).1 ((h2 z).1 hz);unfold bH at this;obtain⟨n,hn,rfl⟩:=List.mem_map.1 this;exact⟨n,hn,rfl⟩
 refine⟨_,(tA (λz hz=>by obtain⟨n,_,rfl⟩:=h0 z hz;omega)).symm,?_,λx=>?_⟩
 ·rw[List.pairwise_map];refine h1.imp_of_mem λ{a b} ha hb hab=>?_;obtain⟨n,_,rfl⟩:=h0 a ha;obtain⟨k,_,rfl⟩:=h0 b hb;simp;omega
 rw[List.mem_map];constructor
 ·rintro⟨z,hz,rfl⟩;obtain⟨n,hn,rfl⟩:=h0 z hz;simpa using hn
 intro hx;refine⟨(x:Int),(h2 _).2 (hp.mem_iff.2 ?_),by simp⟩;unfold bH;exact List.mem_map.2 ⟨x,hx,rfl⟩
end Cae
namespace Go.Proofs.YtledlfbbebodgaaGreatDoor
open Go.Vc Go.Proofs Go.RowKit Cae Go.Sort
theorem VD (l:List Nat):l.flatMap aY=l.map (λn:Nat=>Value.int .i64 (n:Int)):=by
 induction l with
 | nil=>rfl
 | cons x l ih=>simp[List.flatMap_cons,aY,ih]
theorem WJ {base:Nat}{e:TypeId}{w:World}{g n c:Nat}{l:List Nat}(h:Vc.Own base e 1 aY w (.slice (some ⟨g,0,none⟩) n c) l):Holds (Value.int .i64) w g 0 (bH l).toArray:=by
 obtain⟨cur,hB,hl,ht,_⟩:=Vc.Own.opened h rfl;intro j hj;have TA:j<l.length:=by simpa[bH] using hj
 have h1:cur[j]?=some (.int .i64 (l[j]:Int)):=by
  have h2:(cur.take (l.length*1))[j]?=(l.flatMap aY)[j]?:=by rw[ht]
  rw[VD,List.getElem?_take,if_pos (by omega)]at h2;rw[h2];simp[TA]
 have e2:((bH l).toArray)[j]! = (l[j]:Int):=by simp[bH,TA]
 rw[e2];refine⟨?_,?_⟩
 ·rw[Nat.zero_add];exact hB.cell h1
 have qH:w.heap[g]?=some (.cells cur.toArray e (0,0)):=hB;simp[World.frozen?,qH]
theorem aJ8 {base:Nat}{e:TypeId}{w:World}{g n c q:Nat}{os:Array Obj}{l m:List Nat}(h:Vc.Own base e 1 aY w (.slice (some ⟨g,0,none⟩) n c) l)(ds:List Int)(hd:ds=bH m)(hm:m.length=l.length) :
  Vc.Own base e 1 aY (Go.Sort.grow (putRow (Value.int .i64) (Sort.ahead w q) g 0 ds.toArray) os) (.slice (some ⟨g,0,none⟩) n c) m/\Kept (λj=>j=g) w (Go.Sort.grow (putRow (Value.int .i64) (Sort.ahead w q) g 0 ds.toArray) os):=by
 subst hd;have hg:=(h.block g rfl).2;obtain⟨cur,hB,hl,ht,qK⟩:=Vc.Own.opened h rfl;have GG:(putRow (Value.int .i64) (Sort.ahead w q) g 0 (bH m).toArray).heap.size=w.heap.size:=by simp[putRow,mapBlock,Sort.ahead]
 constructor
 ·refine qK _ (putCells (Value.int .i64) 0 (bH m).toArray cur.toArray).toList m ?_ (by simp[putCells]) hm ?_
  ·show (Go.Sort.grow _ os).heap[g]?=_
   rw[heap_grow_old _ _ (by omega)];have qH:w.heap[g]?=some (.cells cur.toArray e (0,0)):=hB;simp[putRow,mapBlock,Sort.ahead,Array.getElem?_modify,qH,onCells]
  apply List.ext_getElem?;intro k;rw[VD,List.getElem?_take];by_cases hk:k<m.length
  ·rw[if_pos (by omega)];have hkc:k<cur.length:=by omega
   simp[putCells,hkc,hk,bH]
  rw[if_neg (by omega),List.getElem?_eq_none (by simp;omega)]
 refine⟨rfl,rfl,rfl,?_,λk hk dD=>?_⟩
 ·simp[Go.Sort.grow,GG]
 rw[heap_grow_old _ _ (by omega)];simp[putRow,mapBlock,Sort.ahead,Array.getElem?_modify,Ne.symm dD]
end Go.Proofs.YtledlfbbebodgaaGreatDoor
end
section
namespace Go.Vc
open Go.RowKit
theorem aKc {α:Type}{X:Nat->Prop}{k:Nat}{enc:α->List Value}{w:World}{a:Option Addr}{c n:Nat}{us:List α}(hl:us.length=n)(hc:n<=c)(hk:∀x,(enc x).length=k)
  (h:∀(i:Nat) (u:α),us[i]?=some u->∃b o,a=some ⟨b,o,none⟩/\¬X b/\∀j x,(enc u)[j]?=some x->w.cell? ⟨b,o+i*k+j,none⟩=some x):Sl X k (En enc) w (.slice a n c) us:=by
 subst hl;refine⟨a,c,rfl,hc,λi u hu=>?_⟩;obtain⟨b,o,e,hX,aK⟩:=h i u hu;exact⟨b,o,_,e,hX,hk u,aK,rfl⟩
end Go.Vc
namespace Go.Proofs.YtledlfbbebodgaaGreatDoor
open Go.Vc Go.Proofs Go.RowKit Cae
attribute [local irreducible] dd ae ak a7 runK bE Sl Vc.Own vc aU cJ a8
theorem AK (l l':List Nat)(hl:l.length<10000000)(X X':Nat->Prop)(v v':Value)(w:World)(hv:Sl X 1 (En aY) w v l)(WW:Sl X' 1 (En aY) w v' l') :
  bE Tryz.prog 16 [v,v'] w λr w'=>r=.bool (decide (l=l'))/\Below w.heap.size w w':=by
 obtain⟨a,c,rfl,hc⟩:=hv.shape;obtain⟨a',c',rfl,hc'⟩:=WW.shape;refine aE Tryz.func16 rfl (by kernel_rfl) [4] rfl ?_;push_cast -dsimp(maxSteps:=4000000) [Tryz.ntmps16];refine⟨λdD=>⟨?_,Below.refl _ _⟩,λhe=>?_⟩
 ·rw[decide_eq_false];intro h;subst h;omega
 have Vt:l.length=l'.length:=by omega
 refine aL [4,5,13,14,15,16,17,18,19,20,21,22,23,24,25] (λz wx=>∃(i:Nat),z 13=.int .i64 i/\i<=l.length/\l.take i=l'.take i/\Below w.heap.size w wx) (λz _=>l.length-(intOf (z 13)).toNat) ?_ ?_
 ·exact⟨0,rfl,Nat.zero_le _,rfl,Below.refl _ _⟩
 intro z wx hI;obtain⟨i,K9,hi,bJ,hb⟩:=hI;push_cast -dsimp[K9];refine⟨λaw=>?_,λfT=>?_⟩
 ·obtain⟨x,hx,jQ,hd,ht⟩:=au (l:=l) (i:=i) (by omega);obtain⟨b,o,rfl,hX,aK⟩:=(hv.below hb).get hx;obtain⟨x',Lr,aOA,hd',ht'⟩:=au (l:=l') (i:=i) (by omega);obtain⟨b',o',rfl,hX',Lc⟩:=(WW.below hb).get Lr;refine bx (λw'=>∀a,w'.cell? a=wx.cell? a) mixed (by kernel_rfl) (λ_=>rfl) ?_;have c0:wx.cell? ⟨b,o+i,none⟩=some (.int .i64 (x:Int)):=by simpa using aK 0 _ rfl
  have Ya:wx.cell? ⟨b',o'+i,none⟩=some (.int .i64 (x':Int)):=by simpa using Lc 0 _ rfl
  have d0:wx.drew.cell? ⟨b,o+i,none⟩=some (.int .i64 (x:Int)):=c0;have d0':wx.drew.cell? ⟨b',o'+i,none⟩=some (.int .i64 (x':Int)):=Ya;push_cast -dsimp[d0,d0'];refine⟨⟨by omega,by omega⟩,λbU hC=>by rw[hC,c0];exact rfl,⟨by omega,by omega⟩,λbU hC=>by rw[hC,Ya];exact rfl,λdD=>?_,λheq=>?_⟩
  ·refine⟨?_,hb.drew⟩;rw[decide_eq_false];intro h;subst h;rw[hx]at Lr;cases Lr;exact dD rfl
  have heq:x=x':=by omega
  exact⟨⟨by omega,by omega⟩,⟨i+1,rfl,by omega,by rw[ht,ht',bJ,heq],hb.drew⟩,by rw[K9];simp only[intOf];omega⟩
 refine⟨?_,hb⟩;rw[List.take_of_length_le (by omega),List.take_of_length_le (by omega)]at bJ;rw[decide_eq_true bJ]
end Go.Proofs.YtledlfbbebodgaaGreatDoor
end
section
namespace Go.Proofs.YtledlfbbebodgaaGreatDoor
open Go.Vc Go.Proofs Go.RowKit Cae Go.Sort
def YP:Go.Shelf.Ren:=⟨λ| 189=>73|125=>117|257=>116|128=>156|129=>157|294=>147|295=>148|296=>149|297=>150|298=>151|299=>152|216=>153|300=>154|301=>155|328=>173|329=>174|330=>175|331=>176|332=>177|215=>146|343=>195|n=>n,λ| 28=>53|3=>3|46=>103|0=>0|51=>244|53=>246|4=>4|183=>237|182=>236|131=>168|5=>5|9=>9|218=>254|222=>258|228=>278|229=>97|n=>n,λ| n=>n⟩
theorem aKd:Go.Proofs.Lays.n189 Tryz.prog YP:={
 mixed:=by kernel_rfl
 f125:=Tryz.func117.trans (congrArg some (by kernel_rfl))
 f128:=Tryz.func156.trans (congrArg some (by kernel_rfl))
 f129:=Tryz.func157.trans (congrArg some (by kernel_rfl))
 f189:=Tryz.func73.trans (congrArg some (by kernel_rfl))
 f215:=Tryz.func146.trans (congrArg some (by kernel_rfl))
 f216:=Tryz.func153.trans (congrArg some (by kernel_rfl))
 f257:=Tryz.func116.trans (congrArg some (by kernel_rfl))
 f294:=Tryz.func147.trans (congrArg some (by kernel_rfl))
 f295:=Tryz.func148.trans (congrArg some (by kernel_rfl))
 f296:=Tryz.func149.trans (congrArg some (by kernel_rfl))
 f297:=Tryz.func150.trans (congrArg some (by kernel_rfl))
 f298:=Tryz.func151.trans (congrArg some (by kernel_rfl))
 f299:=Tryz.func152.trans (congrArg some (by kernel_rfl))
 f300:=Tryz.func154.trans (congrArg some (by kernel_rfl))
 f301:=Tryz.func155.trans (congrArg some (by kernel_rfl))
 f328:=Tryz.func173.trans (congrArg some (by kernel_rfl))
 f329:=Tryz.func174.trans (congrArg some (by kernel_rfl))
 f330:=Tryz.func175.trans (congrArg some (by kernel_rfl))
 f331:=Tryz.func176.trans (congrArg some (by kernel_rfl))
 f332:=Tryz.func177.trans (congrArg some (by kernel_rfl))
 f343:=Tryz.func195.trans (congrArg some (by kernel_rfl))
 t0:=Tryz.underlying0
 a0:=Tryz.isAgg0
 z0:=Tryz.sizeOf0
 v0:=Tryz.zeroValue0
 t3:=Tryz.underlying3
 a3:=Tryz.isAgg3
 z3:=Tryz.sizeOf3
 v3:=Tryz.zeroValue3
 t4:=Tryz.underlying4
 a4:=Tryz.isAgg4
 z4:=Tryz.sizeOf4
 v4:=Tryz.zeroValue4
 t5:=Tryz.underlying5
 a5:=Tryz.isAgg5
 z5:=Tryz.sizeOf5
 v5:=Tryz.zeroValue5
 t9:=Tryz.underlying9
 a9:=Tryz.isAgg9
 z9:=Tryz.sizeOf9
 v9:=Tryz.zeroValue9
 t28:=Tryz.underlying53
 a28:=Tryz.isAgg53
 z28:=Tryz.sizeOf53
 v28:=Tryz.zeroValue53
 t46:=Tryz.underlying103
 a46:=Tryz.isAgg103
 z46:=Tryz.sizeOf103
 v46:=Tryz.zeroValue103
 t51:=Tryz.underlying244
 a51:=Tryz.isAgg244
 z51:=Tryz.sizeOf244
 v51:=Tryz.zeroValue244
 t53:=Tryz.underlying246
 a53:=Tryz.isAgg246
 z53:=Tryz.sizeOf246
 v53:=Tryz.zeroValue246
 t131:=Tryz.underlying168
 a131:=Tryz.isAgg168
 z131:=Tryz.sizeOf168
 v131:=Tryz.zeroValue168
 t182:=Tryz.underlying236
 a182:=Tryz.isAgg236
 z182:=Tryz.sizeOf236
 v182:=Tryz.zeroValue236
 t183:=Tryz.underlying237
 a183:=Tryz.isAgg237
 z183:=Tryz.sizeOf237
 v183:=Tryz.zeroValue237
 t218:=Tryz.underlying254
 a218:=Tryz.isAgg254
 z218:=Tryz.sizeOf254
 v218:=Tryz.zeroValue254
 t222:=Tryz.underlying258
 a222:=Tryz.isAgg258
 z222:=Tryz.sizeOf258
 v222:=Tryz.zeroValue258
 t228:=Tryz.underlying278
 a228:=Tryz.isAgg278
 z228:=Tryz.sizeOf278
 v228:=Tryz.zeroValue278
 t229:=Tryz.underlying97
 a229:=Tryz.isAgg97
 z229:=Tryz.sizeOf97
 v229:=Tryz.zeroValue97 }
def LO:Go.Shelf.Ren:=⟨λ| 20=>74|n=>n,λ| 22=>53|3=>3|4=>4|0=>0|n=>n,λ| n=>n⟩
theorem UY:Go.Proofs.Lays2.n20 Tryz.prog LO:={
 mixed:=by kernel_rfl
 f20:=Tryz.func74.trans (congrArg some (by kernel_rfl))
 t0:=Tryz.underlying0
 a0:=Tryz.isAgg0
 z0:=Tryz.sizeOf0
 v0:=Tryz.zeroValue0
 t3:=Tryz.underlying3
 a3:=Tryz.isAgg3
 z3:=Tryz.sizeOf3
 v3:=Tryz.zeroValue3
 t4:=Tryz.underlying4
 a4:=Tryz.isAgg4
 z4:=Tryz.sizeOf4
 v4:=Tryz.zeroValue4
 t22:=Tryz.underlying53
 a22:=Tryz.isAgg53
 z22:=Tryz.sizeOf53
 v22:=Tryz.zeroValue53
 i3:=by kernel_rfl }
theorem aDf {base:Nat}{e:TypeId}{w:World}{ad:Addr}{n c:Nat}{l:List Nat}(h:Vc.Own base e 1 aY w (.slice (some ad) n c) l):∃g,ad=⟨g,0,none⟩:=by
 rcases h.1.2 with ⟨he,_⟩|⟨g,cap,cr,he,_⟩
 ·cases he
 cases he;exact⟨_,rfl⟩
theorem kF (l:List Nat)(hl:l.length<1000000000)(base:Nat)(v:Value)(w:World)(ho:Vc.Own base 3 1 aY w v l) :
  bE Tryz.prog 73 [v] w λr w'=>(∃m,bH m=((bH l).mergeSort λx y=>decide (x<=y))/\Vc.Own base 3 1 aY w' v m)/\Kept (λj=>v.ownBlock=some j) w w':=by
 refine cR Tryz.func73 (by kernel_rfl) (by kernel_rfl) ?_;obtain⟨a,c,rfl⟩:=ho.slice;cases a with
 | none =>
  have hz:=(ho.dR _ _ rfl).1;have hn:l=[]:=List.eq_nil_of_length_eq_zero hz;subst hn;refine(Any.slices_Sort_int_none aKd none c w).mono ?_;rintro e w' ⟨rfl,rfl⟩;exact⟨_,rfl,⟨[],by simp[bH],ho⟩,Kept.refl _ _⟩
 | some ad =>
  obtain⟨g,rfl⟩:=aDf ho;have yl:=ho.block g rfl;have HG:(bH l).length=l.length:=by simp[bH]
  have p9:=Any.slices_Sort_int aKd g 0 c (bH l) w (WJ ho) yl.2 (by omega);rw[HG]at p9;refine Calls.mono p9 ?_;rintro e w' ⟨rfl,n,os,rfl⟩;have hp:=List.mergeSort_perm (bH l) (λx y=>decide (x<=y));have qK:bH (((bH l).mergeSort λx y=>decide (x<=y)).map Int.toNat)=((bH l).mergeSort λx y=>decide (x<=y)):=tA λz hz=>by
   have:=hp.mem_iff.1 hz;unfold bH at this;obtain⟨k,_,rfl⟩:=List.mem_map.1 this;omega
  have Qc:=aJ8 (q:=n) (os:=os) ho _ qK.symm (by rw[List.length_map,hp.length_eq,HG]);exact⟨_,rfl,⟨_,qK,Qc.1⟩,Qc.2.weaken (λi _ h=>by rw[h];rfl)⟩
theorem fX (l:List Nat)(hl:l.length<1000000000)(base:Nat)(v:Value)(w:World)(ho:Vc.Own base 3 1 aY w v l) :
  bE Tryz.prog 74 [v] w λr w'=>(∃m,bH m=Lib.compact (bH l)/\Vc.Own base 3 1 aY w' r m/\∀j,r.ownBlock=some j->v.ownBlock=some j)/\Kept (λj=>v.ownBlock=some j) w w':=by
 refine cR Tryz.func74 (by kernel_rfl) (by kernel_rfl) ?_;obtain⟨a,c,rfl⟩:=ho.slice;cases a with
 | none =>
  have hz:=(ho.dR _ _ rfl).1;have hn:l=[]:=List.eq_nil_of_length_eq_zero hz;subst hn;refine(Any.slices_Compact_int_empty UY none c w).mono ?_;rintro e w' ⟨rfl,rfl⟩;exact⟨_,rfl,⟨[],rfl,ho,λj h=>h⟩,Kept.refl _ _⟩
 | some ad =>
  obtain⟨g,rfl⟩:=aDf ho;have HG:(bH l).length=l.length:=by simp[bH]
  have kT:=Vc.Own.cut ho;have aMP:l.length<=c:=by
   rcases kT with ⟨h,_⟩|⟨g',_,_,hc,_⟩
   ·cases h
   exact hc
  have p9:=Any.slices_Compact_int UY g 0 c (bH l) w (WJ ho) (by omega) (by omega);rw[HG]at p9;refine Calls.mono p9 ?_;rintro e w' ⟨rfl,q,rfl⟩;have hle:=Lib.compact_length_le (bH l);have qK:bH ((Lib.compact (bH l)).map Int.toNat)=Lib.compact (bH l):=tA λz hz=>by
   unfold Lib.compact Lib.compactUpTo at hz;obtain⟨k,hk,rfl⟩:=List.mem_map.1 hz;have nj:=List.mem_range.1 (List.mem_filter.1 hk).1;have AX:k<l.length:=by omega
   simp[bH,AX]
  have aI9:Lib.compact (bH l)++List.replicate (l.length-(Lib.compact (bH l)).length) 0=bH ((Lib.compact (bH l)).map Int.toNat++List.replicate (l.length-(Lib.compact (bH l)).length) 0):=by
   unfold bH;rw[List.map_append];have h1:=qK;unfold bH at h1;rw[h1];simp
  have Qc:=aJ8 (q:=q) (os:=#[]) ho _ aI9 (by rw[List.length_append,List.length_map,List.length_replicate];omega);rw[Sort.grow_empty]at Qc;have yM:=Vc.Own.cut Qc.1;rcases yM with ⟨h,_⟩|⟨g',vM,_,_,cN⟩
  ·cases h
  cases vM;have h3:=cN (Lib.compact (bH l)).length (by omega);rw[List.take_left' (by simp)]at h3;exact⟨_,rfl,⟨_,qK,h3,λj h=>h⟩,Qc.2.weaken (λi _ h=>by rw[h];rfl)⟩
theorem aBR {X:Nat->Prop}{w:World}{v:Value}{l:List Nat}(h:Sl X 1 (En aY) w v l):Sl X 1 (En Go.Vc.nd) w v (bH l):=by
 obtain⟨a,c,rfl,hc⟩:=h.shape;refine aKc (by simp[bH]) hc (λ_=>rfl) λi u hu=>?_;unfold bH at hu;rw[List.getElem?_map]at hu;obtain⟨n,hn,rfl⟩:=Option.map_eq_some_iff.1 hu;obtain⟨b,o,e,hX,aK⟩:=h.get hn;exact⟨b,o,e,hX,λj x hx=>aK j x hx⟩
theorem aAU (l:List Nat):(bH l).flatMap Go.Vc.nd=l.flatMap aY:=by
 rw[VD];unfold bH;induction l with
 | nil=>rfl
 | cons x l ih=>rw[List.map_cons,List.flatMap_cons,List.map_cons,ih];rfl
theorem XX {base:Nat}{e:TypeId}{w:World}{v:Value}{l:List Nat}(h:Vc.Own base e 1 Go.Vc.nd w v (bH l)):Vc.Own base e 1 aY w v l:=by
 have e1:=aAU l;have e2:(bH l).length=l.length:=by simp[bH]
 refine⟨?_,λ_=>rfl⟩
 have:=h.1;rw[e1,e2]at this;exact this
theorem kL (l:List Nat)(hl:l.length<1000000000)(X:Nat->Prop)(v:Value)(w:World)(hv:Sl X 1 (En aY) w v l)(ha:Arg v) :
  bE Tryz.prog 63 [v] w λr w'=>Vc.Own w.heap.size 3 1 aY w' r l/\Below w.heap.size w w' :=
 (NO (bH l) (by simp[bH];omega) X v w (aBR hv) ha).mono λr w' ⟨h1,h2⟩=>⟨XX h1,h2⟩
end Go.Proofs.YtledlfbbebodgaaGreatDoor
end
section
namespace Cae
theorem aAP {N:Nat}{R:Nat->Nat->Prop}{l m:List Nat}(hm:m.Pairwise (·<·))(h:∀j,j∈m↔j<=N/\∃i∈l,R i j):m=jd N R l :=
 uy hm (cG N R l) λj=>by rw[h j,fr]
def Cg (has:ao->Int->Prop)(pts:List Int)(back:Bool)(l:List aF)(n:Nat):Nat->Nat->Prop:=if back then iq has pts back (l.drop (l.length-n)) else iS has pts back (l.take n)
section
variable {has:ao->Int->Prop} {pts:List Int} {back:Bool}
theorem DY {l:List aF}{i j:Nat}:Cg has pts back l 0 i j↔i=j:=by
 unfold Cg;cases back
 ·simp[iS]
 simp[iq]
theorem UM {l:List aF}{i j:Nat}:Cg has pts back l l.length i j↔dF has pts back (.cat l) i j:=by
 unfold Cg;rw[aBJ];cases back
 ·simp
 simp
theorem rI {l:List aF}{n:Nat}{x:aF}{i j:Nat}(hn:n<l.length)(hx:l[if back then l.length-1-n else n]?=some x):Cg has pts back l (n+1) i j↔∃m,Cg has pts back l n i m/\dF has pts back x m j:=by
 unfold Cg;cases back with
 | false =>
  have hx:l[n]?=some x:=hx;rw[if_neg (by simp),if_neg (by simp),List.take_add_one,hx]
  show iS has pts false (l.take n++[x]) i j↔_
  rw[Je];refine exists_congr λm=>and_congr Iff.rfl ?_;simp only[iS];constructor
  ·rintro⟨k,h1,rfl⟩;exact h1
  intro h;exact⟨j,h,rfl⟩
 | true =>
  have hx:l[l.length-1-n]?=some x:=hx;rw[if_pos rfl,if_pos rfl];have aw:l.length-(n+1)<l.length:=by omega
  have e:l.drop (l.length-(n+1))=x::l.drop (l.length-n):=by
   rw[List.drop_eq_getElem_cons aw];have e1:l.length-(n+1)+1=l.length-n:=by omega
   rw[e1];congr 1;have e2:l.length-1-n=l.length-(n+1):=by omega
   rw[e2,List.getElem?_eq_getElem aw]at hx;exact Option.some.inj hx
  rw[e];simp only[iq]
theorem NL {l:List aF}{n i j:Nat}(hi:i<=pts.length)(h:Cg has pts back l n i j):j<=pts.length:=by
 unfold Cg at h;split at h
 ·exact uu _ hi h
 exact yy _ hi h
theorem Wn {x:aF}{lo:Nat}{hi:Int}{from_:List Nat}{j:Nat}:(∃i∈from_,dF has pts back (.many x (lo:Int) hi) i j)↔∃t,(hi<0\/((lo+t:Nat):Int)<=hi)/\stM (dF has pts back x) from_ (lo+t) j:=by
 constructor
 ·rintro⟨i,hm,h⟩;obtain⟨n,h1,h2,h3⟩:=uw.1 h;refine⟨n-lo,?_,i,hm,?_⟩
  ·rw[show lo+(n-lo)=n by omega];exact h2
  rw[show lo+(n-lo)=n by omega];exact h3
 rintro⟨t,h1,i,hm,h2⟩;exact⟨i,hm,uw.2 ⟨lo+t,by omega,h1,h2⟩⟩
end
theorem rY {l m:List Nat}(hl:l.Pairwise (·<·))(hm:m.Pairwise (·<·))(h:∀x∈l,x∈m)(hlen:l.length=m.length):l=m:=by
 have e:l=m.filter λx=>decide (x∈l):=uy hl (List.Pairwise.filter _ hm) λx=>by
  rw[List.mem_filter,decide_eq_true_iff];exact⟨λhx=>⟨h x hx,hx⟩,λhx=>hx.2⟩
 have e2:(m.filter λx=>decide (x∈l)).length=m.length:=by rw[<-e];exact hlen
 have cN:=List.length_filter_eq_length_iff.1 e2;exact uy hl hm λx=>⟨h x,λhx=>of_decide_eq_true (cN x hx)⟩
def usize (c:Nat):Nat:=if c<128 then 1 else if 194<=c/\c<224 then 2 else if 224<=c/\c<240 then 3 else if 240<=c/\c<245 then 4 else 0
theorem Bt (c:Nat):usize c<=4:=by unfold usize;grind
def Y1 (n:Nat):Nat:=if n=2 then 128 else if n=3 then 2048 else if n=4 then 65536 else 0
def p3 (n c:Nat):Nat:=if 1<n then c % 2 ^ (7-n) else c
def KP (n p:Nat):Prop:=p<Y1 n\/1114111<p\/(55296<=p/\p<57344)
instance (n p:Nat):Decidable (KP n p):=by unfold KP;infer_instance
def Kh:List UInt8->Nat->Option Nat
 | [],p=>some p
 | c::r,p=>if c.toNat / 64=2 then Kh r (p*64+c.toNat % 64) else none
def eX (s:List UInt8):Nat×Nat:=match s with
 | []=>(0,0)
 | c::_ =>
  let n:=usize c.toNat
  if n=0\/s.length<n then (0,0) else
  match Kh ((s.take n).drop 1) (p3 n c.toNat) with
  | none=>(0,0)
  | some p=>if KP n p then (0,0) else (p,n)
structure U where
 p:Nat
 at_:Nat
 n:Nat
 deriving DecidableEq
def gz (s:List UInt8):Nat×Nat:=if (eX s).2=0 then (65533,1) else eX s
theorem r7 (s:List UInt8):(eX s).2<=s.length/\(eX s).2<=4/\((eX s).2=0->eX s=(0,0))/\(eX s).1<=1114111:=by
 unfold eX;cases s with
 | nil=>simp
 | cons c s =>
  dsimp only;split
  ·simp
  rename_i h;have hu:=Bt c.toNat;have h1:usize c.toNat≠0:=λe=>h (.inl e);have h2:¬(c::s).length<usize c.toNat:=λe=>h (.inr e);split
  ·simp
  split
  ·simp
  rename_i hb;unfold KP at hb;simp only[not_or,Nat.not_lt]at hb;exact⟨by omega,hu,λe=>absurd e h1,hb.2.1⟩
theorem r8 (s:List UInt8):1<=(gz s).2/\(gz s).2<=4:=by
 unfold gz
 have:=r7 s;split<;>first|(simp;done)|(simp;omega)|omega
theorem KV (s:List UInt8)(h:s≠[]):(gz s).2<=s.length:=by
 unfold gz
 have:=r7 s;have:0<s.length:=List.length_pos_iff.2 h;split<;>first|(simp;done)|(simp;omega)|omega
def jw (at_:Nat)(s:List UInt8):List U :=
 if _h:s=[] then [] else ⟨(gz s).1,at_,(gz s).2⟩::jw (at_+(gz s).2) (s.drop (gz s).2)
 termination_by s.length
 decreasing_by
  have h1:=r8 s
  have h2:0<s.length:=List.length_pos_iff.2 (by assumption)
  simp
  omega
theorem Br (a:Nat):jw a []=[]:=by rw[jw];simp
theorem wT (a:Nat)(s:List UInt8)(h:s≠[]):jw a s=⟨(gz s).1,a,(gz s).2⟩::jw (a+(gz s).2) (s.drop (gz s).2):=by rw[jw];simp[h]
theorem rB (n:Nat):∀(s:List UInt8) (a:Nat),s.length=n->(jw a s).length<=s.length:=by
 induction n using Nat.strongRecOn with
 | _ n ih =>
  intro s a hs;by_cases h:s=[]
  ·subst h;simp[Br]
  rw[wT a s h];have h1:=r8 s;have h2:=KV s h
  have:=ih (s.drop (gz s).2).length (by rw[List.length_drop];omega) (s.drop (gz s).2) (a+(gz s).2) rfl;rw[List.length_drop]at this;simp only[List.length_cons];omega
def OG (p:Int):Prop:=0<=p/\p<=1114111/\¬(55296<=p/\p<57344)
instance (p:Int):Decidable (OG p):=by unfold OG;infer_instance
theorem KQ {c:UInt8}{s:List UInt8}(h0:usize c.toNat≠0)(hl:usize c.toNat<=(c::s).length)
  (h:Kh (((c::s).take (usize c.toNat)).drop 1) (p3 (usize c.toNat) c.toNat)=none):eX (c::s)=(0,0):=by
 unfold eX;dsimp only;rw[if_neg (by omega),h]
theorem KR {c:UInt8}{s:List UInt8}{p:Nat}(h0:usize c.toNat≠0)(hl:usize c.toNat<=(c::s).length)
  (h:Kh (((c::s).take (usize c.toNat)).drop 1) (p3 (usize c.toNat) c.toNat)=some p) :
  eX (c::s)=if KP (usize c.toNat) p then (0,0) else (p,usize c.toNat):=by
 unfold eX;dsimp only;rw[if_neg (by omega),h]
theorem Y3 {s:List UInt8}{n i p:Nat}{R:Option Nat}(hi:i<n)(hn:n<=s.length)(h:Kh ((s.take n).drop i) p=R) :
  (if (s.getD i 0).toNat / 64=2 then Kh ((s.take n).drop (i+1)) (p*64+(s.getD i 0).toNat % 64) else none)=R:=by
 have hl:i<(s.take n).length:=by rw[List.length_take];omega
 rw[List.drop_eq_getElem_cons hl,Kh]at h;have e:(s.take n)[i]=s.getD i 0:=by
  rw[List.getElem_take,List.getD_eq_getElem?_getD,List.getElem?_eq_getElem (by omega)];rfl
 rw[e]at h;exact h
theorem aB5 {s:List UInt8}{n i p:Nat}{R:Option Nat}(hi:n<=i)(h:Kh ((s.take n).drop i) p=R):R=some p:=by
 rw[List.drop_eq_nil_of_le (by rw[List.length_take];omega)]at h;exact h.symm
theorem S7 {p i k:Nat}(h:p<256*64 ^ (i-1))(h1:1<=i)(hk:k<64):p*64+k<256*64 ^ (i+1-1):=by
 obtain⟨j,rfl⟩:∃j,i=j+1:=⟨i-1,by omega⟩;simp only[Nat.add_sub_cancel]at h ⊢
 rw[Nat.pow_succ];omega
theorem S8 {p i:Nat}(h:p<256*64 ^ (i-1))(hi:i<=4):p<67108865:=by
 have:64 ^ (i-1)<=64 ^ 3:=Nat.pow_le_pow_right (by omega) (by omega);omega
end Cae
end
section
namespace Go.Proofs.YtledlfbbebodgaaGreatDoor
open Go.Vc Go.Proofs Go.RowKit Cae
attribute [local irreducible] dd ae ak a7 runK bE Sl Vc.Own vc aU cJ a8
def xA (w:World):Prop:=∀k:Nat,k<5->w.cell? ⟨0,k,none⟩=some (.int .i64 (Y1 k))
theorem xA.below {w w':World}(h:xA w)(hb:Below w.heap.size w w'):xA w':=λk hk=>by
 have:=h k hk;exact(hb.cell (World.block_lt_of_cell? w _ this)).trans this
theorem aF4 (c:Nat)(w:World):bE Tryz.prog 69 [.int .u8 c] w λv w'=>v=.int .i64 (usize c)/\w'=w:=by
 refine aE Tryz.func69 rfl (by kernel_rfl) [2] rfl ?_;push_cast -dsimp(maxSteps:=4000000) [Tryz.ntmps69];simp only[Value.int.injEq,usize];grind
theorem Wf {n c:Nat}(hn:n<=4)(h1:1<n)(hc:c<256) :
  eF .and .i64 (IntKind.i64.wrap (c:Int)) (IntKind.i64.wrap (1*2 ^ min ((7:Int)-n).toNat IntKind.i64.bits)-1)=((p3 n c:Nat):Int):=by
 have e:n=2\/n=3\/n=4:=by omega
 rw[gH (by omega)];rcases e with rfl|rfl|rfl
 ·rw[show IntKind.i64.wrap (1*2 ^ min ((7:Int)-(2:Nat)).toNat IntKind.i64.bits)-1=((2 ^ 5-1:Nat):Int) from by decide,oo (by omega) (by omega),pw];rfl
 ·rw[show IntKind.i64.wrap (1*2 ^ min ((7:Int)-(3:Nat)).toNat IntKind.i64.bits)-1=((2 ^ 4-1:Nat):Int) from by decide,oo (by omega) (by omega),pw];rfl
 rw[show IntKind.i64.wrap (1*2 ^ min ((7:Int)-(4:Nat)).toNat IntKind.i64.bits)-1=((2 ^ 3-1:Nat):Int) from by decide,oo (by omega) (by omega),pw];rfl
theorem KS {n c:Nat}(hc:c<256):p3 n c<256:=by
 unfold p3;split
 ·exact Nat.lt_of_le_of_lt (Nat.mod_le _ _) hc
 exact hc
theorem U5 (c:UInt8):eF .and .u8 (c.toNat:Int) 192=((c.toNat / 64*64:Nat):Int):=by
 have hc:=c.toNat_lt;rw[show (192:Int)=((192:Nat):Int) from rfl,xE hc (by omega)]
 congr 1;have:∀k:Nat,k<256->k &&& 192=k / 64*64:=by decide
 exact this _ hc
theorem aA6 (c:UInt8):eF .and .u8 (c.toNat:Int) 63=((c.toNat % 64:Nat):Int):=by
 have hc:=c.toNat_lt;rw[show (63:Int)=((2 ^ 6-1:Nat):Int) from rfl,xE hc (by omega),pw]
theorem aBg {p c:Nat}(hp:p<2147483648) :
  eF .or .i64 (IntKind.i64.wrap ((p:Int)*2 ^ min (6:Int).toNat IntKind.i64.bits)) (IntKind.i64.wrap ((c % 64:Nat):Int))=((p*64+c % 64:Nat):Int):=by
 rw[aBP (k:=6) rfl (by omega) (by omega),gH (by omega),HZ (by omega) (by omega),aFQ (by omega)]
theorem AO {c:UInt8}{s':List UInt8}{i p:Nat}(h1:¬(usize c.toNat:Int)=0)(h2:¬(s'.length:Int)+1<usize c.toNat)
  (N5:1<=i) (hp:p<256*64 ^ (i-1)) (hi2:i<=usize c.toNat)
  (hr:Kh (((c::s').take (usize c.toNat)).drop i) p=Kh (((c::s').take (usize c.toNat)).drop 1) (p3 (usize c.toNat) c.toNat)) :
  (i<usize c.toNat ->
   (eF .and .u8 (((c::s').getD i 0).toNat:Int) 192≠128->eX (c::s')=(0,0)) /\
   (¬eF .and .u8 (((c::s').getD i 0).toNat:Int) 192≠128->∃q:Nat,
    eF .or .i64 (IntKind.i64.wrap ((p:Int)*2 ^ min (6:Int).toNat IntKind.i64.bits)) (IntKind.i64.wrap (eF .and .u8 (((c::s').getD i 0).toNat:Int) 63))=(q:Int) /\
    q<256*64 ^ (i+1-1)/\Kh (((c::s').take (usize c.toNat)).drop (i+1)) q=Kh (((c::s').take (usize c.toNat)).drop 1) (p3 (usize c.toNat) c.toNat))) /\
  (¬i<usize c.toNat->eX (c::s')=if KP (usize c.toNat) p then (0,0) else (p,usize c.toNat)):=by
 have hu:=Bt c.toNat;have hl:usize c.toNat<=(c::s').length:=by simp only[List.length_cons];omega
 have h0:usize c.toNat≠0:=by omega
 refine⟨λaw=>?_,λfT=>KR h0 hl (aB5 (by omega) hr)⟩;have dE:=Y3 aw hl hr;rw[U5,aA6];generalize (c::s').getD i 0=x at dE ⊢
 refine⟨λhx=>?_,λhx=>?_⟩
 ·rw[if_neg (by omega)]at dE;exact KQ h0 hl dE.symm
 rw[if_pos (by omega)]at dE;exact⟨_,aBg (by have:=S8 hp (by omega);omega),S7 hp N5 (Nat.mod_lt _ (by omega)),dE⟩
theorem Zi (s:List UInt8)(hs:s.length<1000000)(h0:s≠[])(w:World)(hg:xA w) :
  bE Tryz.prog 43 [str s] w λv w'=>v=.tuple #[.int .i64 (eX s).1,.int .i64 (eX s).2]/\Below w.heap.size w w':=by
 obtain⟨c,s',rfl⟩:=List.exists_cons_of_ne_nil h0;have hl:0<((c::s').length:Int):=by simp
 refine aE Tryz.func43 rfl (by kernel_rfl) [2,3] rfl ?_;push_cast -dsimp(maxSteps:=4000000) [Tryz.ntmps43];refine⟨hl,?_⟩;refine aA (aF4 _ w) ?_;rintro v w' ⟨rfl,rfl⟩;have hu:=Bt c.toNat;have hc:=c.toNat_lt;simp only[List.getD_cons_zero];push_cast -dsimp
 repeat' first|apply And.intro|intro _
 all_goals try exact hl
 all_goals try simp only[List.getD_cons_zero]
 all_goals try exact Below.refl _ _
 ·rename_i h1 h2;have e:eX (c::s')=(0,0):=by unfold eX;simp;intro h3;omega
  rw[e];rfl
 ·rename_i h1 h2 h3;refine bx (λ_=>True) mixed (by kernel_rfl) trivial ?_;push_cast -dsimp;refine⟨by omega,by omega,by omega,?_,?_⟩
  ·have e:usize c.toNat=2\/usize c.toNat=3\/usize c.toNat=4:=by omega
   rcases e with e|e|e<;>rw[e]<;>decide
  simp only[List.getD_cons_zero];rw[Wf hu (by omega) hc];refine aL [2,3,4,29,30,31,32,33,34,35,36,37,38,39,40,41,42,43,44,45,46] (λz wx=>∃i p:Nat,z 4=.int .i64 i/\z 2=.int .i64 p/\z 3=.int .i64 (usize c.toNat)/\1<=i/\i<=usize c.toNat/\p<256*64 ^ (i-1) /\
   Kh (((c::s').take (usize c.toNat)).drop i) p=Kh (((c::s').take (usize c.toNat)).drop 1) (p3 (usize c.toNat) c.toNat)/\Below w'.heap.size w' wx) (λz _=>usize c.toNat-(intOf (z 4)).toNat) ?_ ?_
  ·exact⟨1,_,rfl,rfl,rfl,Nat.le_refl _,by omega,by simpa using KS hc,rfl,(Below.refl _ _).drew⟩
  intro z wx hI;obtain⟨i,p,h4,h2',h3',N5,hi2,hp,hr,hb⟩:=hI;have hgn:=(hg.below hb) (usize c.toNat) (by omega);push_cast -dsimp[h4,h2',h3',hgn];obtain⟨hA,hB⟩:=AO h1 h2 N5 hp hi2 hr;refine⟨λaw=>?_,λfT=>?_⟩
  ·obtain⟨hA1,hA2⟩:=hA (by omega);refine⟨⟨by omega,by omega⟩,λhx=>⟨by rw[hA1 hx];rfl,hb⟩,λhx=>?_⟩;obtain⟨q,hq1,hq2,hq3⟩:=hA2 hx;exact⟨⟨by omega,by omega⟩,⟨by omega,by omega⟩,⟨i+1,q,rfl,congrArg _ hq1,by omega,by omega,hq2,hq3,hb⟩,by simp only[intOf];omega⟩
  have hB:=hB (by omega);rw[hB];simp only[KP];refine⟨⟨by omega,by omega⟩,?_⟩
  repeat' first|apply And.intro|intro _
  all_goals first|exact hb|omega|skip
  all_goals grind
 ·rename_i h1 h2 h3;refine aL [2,3,4,29,30,31,32,33,34,35,36,37,38,39,40,41,42,43,44,45,46] (λz wx=>∃i p:Nat,z 4=.int .i64 i/\z 2=.int .i64 p/\z 3=.int .i64 (usize c.toNat)/\1<=i/\i<=usize c.toNat/\p<256*64 ^ (i-1) /\
   Kh (((c::s').take (usize c.toNat)).drop i) p=Kh (((c::s').take (usize c.toNat)).drop 1) (p3 (usize c.toNat) c.toNat)/\Below w'.heap.size w' wx) (λz _=>usize c.toNat-(intOf (z 4)).toNat) ?_ ?_
  ·refine⟨1,_,rfl,?_,rfl,Nat.le_refl _,by omega,by simpa using KS hc,rfl,Below.refl _ _⟩;have e:p3 (usize c.toNat) c.toNat=c.toNat:=by unfold p3;rw[if_neg (by omega)]
   rw[e];exact congrArg _ (gH (by omega))
  intro z wx hI;obtain⟨i,p,h4,h2',h3',N5,hi2,hp,hr,hb⟩:=hI;have hgn:=(hg.below hb) (usize c.toNat) (by omega);push_cast -dsimp[h4,h2',h3',hgn];obtain⟨hA,hB⟩:=AO h1 h2 N5 hp hi2 hr;refine⟨λaw=>?_,λfT=>?_⟩
  ·obtain⟨hA1,hA2⟩:=hA (by omega);refine⟨⟨by omega,by omega⟩,λhx=>⟨by rw[hA1 hx];rfl,hb⟩,λhx=>?_⟩;obtain⟨q,hq1,hq2,hq3⟩:=hA2 hx;exact⟨⟨by omega,by omega⟩,⟨by omega,by omega⟩,⟨i+1,q,rfl,congrArg _ hq1,by omega,by omega,hq2,hq3,hb⟩,by simp only[intOf];omega⟩
  have hB:=hB (by omega);rw[hB];simp only[KP];refine⟨⟨by omega,by omega⟩,?_⟩
  repeat' first|apply And.intro|intro _
  all_goals first|exact hb|omega|skip
  all_goals grind
 rename_i h1;have e:eX (c::s')=(0,0):=by unfold eX;simp;intro h3;omega
 rw[e];rfl
def yE (u:U):List Value:=[.int .i64 u.p,.int .i64 u.at_,.int .i64 u.n]
theorem Hj (s:List UInt8)(hs:s.length<1000000)(w:World)(hg:xA w) :
  bE Tryz.prog 14 [str s] w λv w'=>Vc.Own w.heap.size 100 3 yE w' v (jw 0 s)/\Below w.heap.size w w':=by
 refine aE Tryz.func14 rfl (by kernel_rfl) [2] rfl ?_;push_cast -dsimp(maxSteps:=4000000) [Tryz.ntmps14];refine aL [3,4,5,6,7,8,9,10,11,12,13,14,15,16,17,18,19,20,21,22,23,24,25,26,27,28,29] (λz wx=>∃(i:Nat) (acc:List U),z 4=.int .i64 i/\i<=s.length/\acc.length<=i/\acc++jw i (s.drop i)=jw 0 s /\
  Vc.Own w.heap.size 100 3 yE wx (z 3) acc/\Below w.heap.size w wx) (λz _=>s.length-(intOf (z 4)).toNat) ?_ ?_
 ·exact⟨0,[],rfl,Nat.zero_le _,Nat.le_refl _,rfl,Vc.Own.nil (enc:=yE) _ _ (λ_=>rfl) _,Below.refl _ _⟩
 intro z wx hI;obtain⟨i,acc,h4,hi,ha,hd,ho,hb⟩:=hI;push_cast -dsimp[h4];refine⟨λaw=>⟨⟨by omega,by omega⟩,?_⟩,λfT=>?_⟩
 ·have dD:s.drop i≠[]:=by intro h;have:=congrArg List.length h;simp only[List.length_drop,List.length_nil]at this;omega
  refine aA (Zi (s.drop i) (by rw[List.length_drop];omega) dD wx (hg.below hb)) ?_;rintro v w1 ⟨rfl,gX⟩;push_cast -dsimp;have ba:=KV (s.drop i) dD;have tV:=r8 (s.drop i);have hu:=r7 (s.drop i);have aCK:=wT i (s.drop i) dD;refine⟨λh0=>?_,λh0=>?_⟩
  ·have e:gz (s.drop i)=(65533,1):=by unfold gz;rw[if_pos (by omega)]
   refine cT FH rfl rfl (by omega) ?_;intro w2 bw;push_cast -dsimp;refine Ed (ys:=[⟨65533,i,1⟩]) (enc:=yE) FH ((ho.below gX).below bw.below) (λj u hu=>by simpa using bw.cell hu) (by simp[yE,Value.oneCell']) (by simp only[List.length_cons,List.length_nil];omega) (by have:=hb.size;have:=gX.size;have:=bw.size;omega) ?_;intro v' w3 oH _ fL;push_cast -dsimp;refine⟨⟨by omega,by omega⟩,⟨i+1,_,rfl,by rw[List.length_drop]at ba;rw[e]at ba;(try dsimp only at ba);omega,?_,?_,oH,
    (hb.trans (gX.mono hb.size)).trans ((bw.below.mono (Nat.le_trans hb.size gX.size)).trans fL)⟩,?_⟩
   ·rw[e]at tV;simp only[List.length_append,List.length_cons,List.length_nil];(try dsimp only at tV);omega
   ·rw[<-hd,aCK,e,List.drop_drop,List.append_assoc];rfl
   rw[e]at tV;rw[h4];simp only[intOf];(try dsimp only at tV);omega
  have e:gz (s.drop i)=eX (s.drop i):=by unfold gz;rw[if_neg (by omega)]
  refine cT FH rfl rfl (by omega) ?_;intro w2 bw;push_cast -dsimp;refine Ed (ys:=[⟨(eX (s.drop i)).1,i,(eX (s.drop i)).2⟩]) (enc:=yE) FH ((ho.below gX).below bw.below) (λj u hu=>by simpa using bw.cell hu) (by simp[yE,Value.oneCell']) (by simp only[List.length_cons,List.length_nil];omega) (by have:=hb.size;have:=gX.size;have:=bw.size;omega) ?_;intro v' w3 oH _ fL;push_cast -dsimp;refine⟨⟨by omega,by omega⟩,⟨i+(eX (s.drop i)).2,_,rfl,by rw[List.length_drop]at ba;rw[e]at ba;(try dsimp only at ba);omega,?_,?_,oH,
   (hb.trans (gX.mono hb.size)).trans ((bw.below.mono (Nat.le_trans hb.size gX.size)).trans fL)⟩,?_⟩
  ·rw[e]at tV;simp only[List.length_append,List.length_cons,List.length_nil];(try dsimp only at tV);omega
  ·rw[<-hd,aCK,e,List.drop_drop,List.append_assoc];rfl
  rw[e]at tV;rw[h4];simp only[intOf];(try dsimp only at tV);omega
 have e:s.drop i=[]:=List.drop_eq_nil_of_le (by omega);rw[e,Br,List.append_nil]at hd;rw[<-hd];exact⟨ho,hb⟩
def bC (us:List U):List Int:=us.map λu=>(u.p:Int)
theorem eU (us:List U):(bC us).length=us.length:=by simp[bC]
theorem Jc {us:List U}{i:Nat}{u:U}(h:us[i]?=some u):(bC us)[i]?=some (u.p:Int):=by unfold bC;rw[List.getElem?_map,h];rfl
def bD (nm:bG)(k:ao)(p:Int):Prop:=∃s,cH nm k=.ok s/\fK s p=true
structure Mr (X:Nat->Prop)(w:World)(rb mb:Nat)(us:List U)(nm:bG)(back:Bool):Prop where
 st:∃lv,aM w rb 106 [lv,.map (some mb),.bool back]/\Sl X 3 (En yE) w lv us
 nv:fW X w mb nm
 rt:gh nm
 len:us.length<=1000
theorem Mr.below {X:Nat->Prop}{w w':World}{rb mb:Nat}{us:List U}{nm:bG}{back:Bool}(h:Mr X w rb mb us nm back)(hb:Below w.heap.size w w'):Mr X w' rb mb us nm back:=by
 obtain⟨lv,h1,h2⟩:=h.st;exact⟨⟨lv,h1.below hb h1.lt,h2.below hb⟩,h.nv.below hb,h.rt,h.len⟩
theorem xD (w:World):Below w.heap.size w w.drew:=((Kept.refl (λ_=>False) w).drew).below (Nat.le_refl _) (λ_ h=>h.elim)
def aHk (pts:List Int)(back:Bool)(i:Nat)(r:Value):Prop:=(∃(j:Nat) (p:Int),eJ pts back i=some (j,p)/\r=.tuple #[.int .i64 j,.int .i64 p])\/(eJ pts back i=none/\r=.tuple #[.int .i64 (-1),.int .i64 0])
theorem Mj {X:Nat->Prop}{w:World}{rb mb:Nat}{us:List U}{nm:bG}{back:Bool}(h:Mr X w rb mb us nm back)(i:Nat)(hi:i<=us.length) :
  bE Tryz.prog 70 [.pointer (some ⟨rb,0,none⟩),.int .i64 i] w λr w'=>aHk (bC us) back i r/\Below w.heap.size w w':=by
 have hlen:=h.len;obtain⟨lv,hB,hs⟩:=h.st;obtain⟨la,lc,rfl,Ke⟩:=hs.shape;have d0:w.cell? ⟨rb,0,none⟩=some (.slice la us.length lc):=hB.cell rfl;have d2:w.cell? ⟨rb,2,none⟩=some (.bool back):=hB.cell rfl;have d0d:w.drew.cell? ⟨rb,0,none⟩=some (.slice la us.length lc):=d0;cases back with
 | true =>
  (refine aE Tryz.func70 rfl (by kernel_rfl) [4,5] rfl ?_;push_cast -dsimp(maxSteps:=4000000) [Tryz.ntmps70]);push_cast -dsimp[d2];refine⟨λh0=>⟨.inr ⟨?_,rfl⟩,Below.refl _ _⟩,λh0=>?_⟩
  ·have:i=0:=by omega
   subst this;simp[eJ]
  obtain⟨u,hu⟩:∃u,us[i-1]?=some u:=⟨us[i-1]'(by omega),List.getElem?_eq_getElem (by omega)⟩;obtain⟨b,o,rfl,hX,aK⟩:=hs.get hu;have c0:w.cell? ⟨b,o+(i-1)*3,none⟩=some (.int .i64 u.p):=by simpa using aK 0 _ rfl
  have c0d:w.drew.cell? ⟨b,o+(i-1)*3,none⟩=some (.int .i64 u.p):=c0;have tn:((i:Int)-1).toNat=i-1:=by omega
  refine bx (λw'=>∀a,w'.cell? a=w.cell? a) mixed (by kernel_rfl) (λ_=>rfl) ?_;push_cast -dsimp[d0d,tn,c0d];have ei:((i:Int)-1)=((i-1:Nat):Int):=by omega
  refine⟨⟨by omega,by omega⟩,λbU h=>by rw[h,d0];exact rfl,⟨by omega,by omega⟩,⟨by omega,by omega⟩,λbU h=>by rw[h,c0];exact rfl,.inl ⟨i-1,u.p,?_,by rw[ei]⟩,xD w⟩;unfold eJ;rw[if_pos rfl,if_neg (by omega),Jc hu];rfl
 | false =>
  (refine aE Tryz.func70 rfl (by kernel_rfl) [4,5] rfl ?_;push_cast -dsimp(maxSteps:=4000000) [Tryz.ntmps70]);push_cast -dsimp[d2,d0];refine⟨λh0=>⟨.inr ⟨?_,rfl⟩,Below.refl _ _⟩,λh0=>?_⟩
  ·unfold eJ;rw[if_neg (by simp),List.getElem?_eq_none (by rw[eU];omega)];rfl
  obtain⟨u,hu⟩:∃u,us[i]?=some u:=⟨us[i]'(by omega),List.getElem?_eq_getElem (by omega)⟩;obtain⟨b,o,rfl,hX,aK⟩:=hs.get hu;have c0:w.cell? ⟨b,o+i*3,none⟩=some (.int .i64 u.p):=by simpa using aK 0 _ rfl
  have c0d:w.drew.cell? ⟨b,o+i*3,none⟩=some (.int .i64 u.p):=c0;refine bx (λw'=>∀a,w'.cell? a=w.cell? a) mixed (by kernel_rfl) (λ_=>rfl) ?_;push_cast -dsimp[d0d,c0d];have ei:((i:Int)+1)=((i+1:Nat):Int):=by omega
  refine⟨⟨by omega,by omega⟩,λbU h=>by rw[h,d0];exact rfl,⟨by omega,by omega⟩,λbU h=>by rw[h,c0];exact rfl,.inl ⟨i+1,u.p,?_,by rw[ei]⟩,xD w⟩;unfold eJ;rw[if_neg (by simp),Jc hu];rfl
theorem aEh {X:Nat->Prop}{w:World}{rb mb:Nat}{us:List U}{nm:bG}{back:Bool}(h:Mr X w rb mb us nm back)(k:ao)(hk:gB k)(v:Value)(hv:eY X w v k)(p:Int) :
  bE Tryz.prog 71 [.pointer (some ⟨rb,0,none⟩),v,.int .i64 p] w λr w'=>(∃b:Bool,r=.bool b/\(b=true↔bD nm k p))/\Below w.heap.size w w':=by
 obtain⟨lv,hB,hs⟩:=h.st;have d1:w.cell? ⟨rb,1,none⟩=some (.map (some mb)):=hB.cell rfl;refine aE Tryz.func71 rfl (by kernel_rfl) [6] rfl ?_;push_cast -dsimp(maxSteps:=4000000) [Tryz.ntmps71];push_cast -dsimp[d1];refine aA (yd k hk nm h.rt X v mb w hv h.nv) ?_;rintro r w1 ⟨hR,gX⟩;have z1:=gX.size;unfold cY at hR;cases TD:cH nm k with
 | ok s =>
  rw[TD]at hR;obtain⟨v1,rfl,gA,Kb⟩:=hR;have jO:=eC h.rt hk TD;have hls:=fu jO;obtain⟨_,_,rfl,_⟩:=gA.shape;push_cast -dsimp;refine aA (aCG s (by omega) jO p _ _ w1 gA) ?_;rintro _ w2 ⟨rfl,eR⟩;push_cast -dsimp;exact⟨⟨_,rfl,λhh=>⟨s,TD,hh⟩,λ⟨t,ht,hh⟩=>by rw[TD]at ht;cases ht;exact hh⟩,gX.trans (eR.mono z1)⟩
 | error e =>
  rw[TD]at hR;obtain⟨eb,CP,rfl,hE⟩:=hR;push_cast -dsimp;refine⟨⟨false,rfl,?_⟩,gX⟩;constructor
  ·intro hh;cases hh
  rintro⟨t,ht,hh⟩;rw[TD]at ht;cases ht
end Go.Proofs.YtledlfbbebodgaaGreatDoor
end
