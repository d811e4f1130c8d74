/- Texts of this claim, merged: Cfm, Pmean5, Prld, Ld0, Make, Cl0, Ms, EqN, Mt, Putf, Utf, Dec, Mn4, At0, Ld1, Ld2. -/
import Derived.Test.YtodeeahdhnjpkaaGreatDoorM13
import Derived.Shelf.Slices.CompactI
import Derived.Lib.SlicesCompact
import Derived.Ground.Names2Prog
import Derived.Lib.RowBridge
import Derived.Shelf.Slices.In.SortNone
import Derived.Laws.CopyRow
set_option maxRecDepth 100000
set_option linter.unusedSimpArgs false
set_option linter.unusedVariables false
set_option maxHeartbeats 8000000
section
namespace Cae
end Cae
namespace Go.Proofs.YtodeeahdhnjpkaaGreatDoor
open Go.Vc Go.Proofs Go.RowKit Cae
attribute [local irreducible] cw ag aq a8 runK bD Sl Vc.Own vc aW cN ai
theorem gn.aLS {X:Nat->Prop}{w:World}{v:Value}{f:dQ}(h:gn X w v f):gn (λb=>X b\/w.heap.size<=b) w v f:=by
 obtain⟨cv,rv,cs,rs,rfl,je,fO,hC,hR⟩:=h;exact⟨_,_,cs,rs,rfl,Sl.top (by decide) je,Sl.top (by decide) fO,hC.imp λa c h=>h.top,hR.imp λa c h=>h.top⟩
theorem gn.LQ {X X' Y:Nat->Prop}{w w':World}{v:Value}{f:dQ}(h:gn X w v f)(hk:Kept Y w w')(hY:∀i,Y i->X i)(hX:∀i,X' i->X i):gn X' w' v f:=by
 obtain⟨cv,rv,cs,rs,rfl,S1,S2,A1,A2⟩:=h;exact⟨cv,rv,cs,rs,rfl,(S1.kept hk hY).weaken hX,(S2.kept hk hY).weaken hX,A1.imp λa c h=>qj.mono hk hY hX h,A2.imp λa c h=>kG.mono hk hY hX h⟩
theorem gH.aG8 {X Y X':Nat->Prop}{w w':World}{b:Nat}{nm:bP}(h:gH X w b nm)(hk:Kept Y w w')(hY:∀i,Y i->X i)(hb:¬Y b)(hX:∀i,X' i->X i):gH X' w' b nm:=by
 obtain⟨gD,h2,h3⟩:=h;exact⟨gD,h2.kept hk hb,h3.imp λa b h=>⟨h.1,(h.2.1.kept hk hY).weaken hX,h.2.2⟩⟩
theorem OZ {w w':World}{s:List UInt8}{r:Value}(h:K9 w s r w'):∃v ev,r=.tuple #[v,ev]/\QG w w' s v/\IG w' ev (fr s).1 (fr s).2 /\
  ((ev=.nilIface/\fr s=(0,-1)/\dM s=.ok (fileOf s))\/∃(b:Nat) (e p:Nat),ev=.iface 96 (.pointer (some ⟨b,0,none⟩))/\fr s=((e:Int),(p:Int))):=by
 rcases h with ⟨f,v,hp,rfl,hv⟩|⟨e,p,b,hp,rfl,_,hB⟩
 ·have hf:fileOf s=f:=by unfold fileOf;rw[hp]
  have hq:fr s=(0,-1):=by unfold fr;rw[hp]
  refine⟨v,_,rfl,tT (by rw[hf];exact hv),?_,.inl ⟨rfl,hq,by rw[hf];exact hp⟩⟩;rw[hq];exact .inl ⟨rfl,rfl,rfl⟩
 have hf:fileOf s=⟨[],[],false⟩:=by unfold fileOf;rw[hp]
 have hq:fr s=((e:Int),(p:Int)):=by unfold fr;rw[hp]
 refine⟨_,_,rfl,tT (by rw[hf];exact xQ _ _),?_,.inr ⟨b,e,p,rfl,hq⟩⟩;rw[hq];exact .inr (.at_ b _ _ (hB.cell rfl) (hB.cell rfl))
theorem Y2 {s:List UInt8}(hs:s.length<=1200)(h:dM s=.ok (fileOf s)):QE (fileOf s):=λr hr=>by
 have h1:=HY h;have h2:=Gu hr;have h3:=Lq r.before;have h4:=Lq r.after;omega
end Go.Proofs.YtodeeahdhnjpkaaGreatDoor
end
section
namespace Cae
theorem X7 {N:Nat}{R:Nat->Nat->Prop}{l m:List Nat}(hm:m.Pairwise (·<·))(h:∀j,j∈m↔j<=N/\∃i∈l,R i j):m=jf N R l :=
 tU hm (cU N R l) λj=>by rw[h j,fw]
def zY (has:ax->Int->Prop)(pts:List Int)(back:Bool)(l:List aI)(n:Nat):Nat->Nat->Prop:=if back then lJ has pts back (l.drop (l.length-n)) else jU has pts back (l.take n)
section
variable {has:ax->Int->Prop} {pts:List Int} {back:Bool}
theorem Aa {l:List aI}{i j:Nat}:zY has pts back l 0 i j↔i=j:=by
 unfold zY;cases back
 ·simp[jU]
 simp[lJ]
theorem Qx {l:List aI}{i j:Nat}:zY has pts back l l.length i j↔dK has pts back (.cat l) i j:=by
 unfold zY;rw[Y9];cases back
 ·simp
 simp
theorem qS {l:List aI}{n:Nat}{x:aI}{i j:Nat}(hn:n<l.length)(hx:l[if back then l.length-1-n else n]?=some x):zY has pts back l (n+1) i j↔∃m,zY has pts back l n i m/\dK has pts back x m j:=by
 unfold zY;cases back with
 | false =>
  have hx:l[n]?=some x:=hx;rw[if_neg (by simp),if_neg (by simp),List.take_add_one,hx]
  show jU has pts false (l.take n++[x]) i j↔_
  rw[tR];refine exists_congr λm=>and_congr Iff.rfl ?_;simp only[jU];constructor
  ·rintro⟨k,h1,rfl⟩;exact h1
  intro h;exact⟨j,h,rfl⟩
 | true =>
  have hx:l[l.length-1-n]?=some x:=hx;rw[if_pos rfl,if_pos rfl];have bZ:l.length-(n+1)<l.length:=by omega
  have e:l.drop (l.length-(n+1))=x::l.drop (l.length-n):=by
   rw[List.drop_eq_getElem_cons bZ];have e1:l.length-(n+1)+1=l.length-n:=by omega
   rw[e1];congr 1;have e2:l.length-1-n=l.length-(n+1):=by omega
   rw[e2,List.getElem?_eq_getElem bZ]at hx;exact Option.some.inj hx
  rw[e];simp only[lJ]
theorem Kk {l:List aI}{n i j:Nat}(hi:i<=pts.length)(h:zY has pts back l n i j):j<=pts.length:=by
 unfold zY at h;split at h
 ·exact q5 _ hi h
 exact wP _ hi h
theorem Ti {x:aI}{lo:Nat}{hi:Int}{from_:List Nat}{j:Nat}:(∃i∈from_,dK has pts back (.many x (lo:Int) hi) i j)↔∃t,(hi<0\/((lo+t:Nat):Int)<=hi)/\stM (dK has pts back x) from_ (lo+t) j:=by
 constructor
 ·rintro⟨i,hm,h⟩;obtain⟨n,h1,h2,h3⟩:=tS.1 h;refine⟨n-lo,?_,i,hm,?_⟩
  ·rw[show lo+(n-lo)=n by omega];exact h2
  rw[show lo+(n-lo)=n by omega];exact h3
 rintro⟨t,h1,i,hm,h2⟩;exact⟨i,hm,tS.2 ⟨lo+t,by omega,h1,h2⟩⟩
end
theorem q6 {l m:List Nat}(hl:l.Pairwise (·<·))(hm:m.Pairwise (·<·))(h:∀x∈l,x∈m)(hlen:l.length=m.length):l=m:=by
 have e:l=m.filter λx=>decide (x∈l):=tU hl (List.Pairwise.filter _ hm) λx=>by
  rw[List.mem_filter,decide_eq_true_iff];exact⟨λhx=>⟨h x hx,hx⟩,λhx=>hx.2⟩
 have e2:(m.filter λx=>decide (x∈l)).length=m.length:=by rw[<-e];exact hlen
 have cg:=List.length_filter_eq_length_iff.1 e2;exact tU hl hm λx=>⟨h x,λhx=>of_decide_eq_true (cg x hx)⟩
open Classical
theorem oP {R S:Nat->Nat->Prop}{a:Nat}(h:∀i m,R (a+i) m↔∃j,m=a+j/\S i j):∀{n i m:Nat},iterM R n (a+i) m↔∃j,m=a+j/\iterM S n i j
 | 0,i,m=>by
  simp only[iterM];exact⟨λe=>⟨i,e.symm,rfl⟩,λ⟨j,e,e'⟩=>by omega⟩
 | n+1,i,m=>by
  simp only[iterM];constructor
  ·rintro⟨k,h1,h2⟩;obtain⟨j,rfl,h3⟩:=(h i k).1 h1;obtain⟨q,rfl,h4⟩:=(oP h).1 h2;exact⟨q,rfl,j,h3,h4⟩
  rintro⟨q,rfl,j,h3,h4⟩;exact⟨a+j,(h i _).2 ⟨j,rfl,h3⟩,(oP h).2 ⟨q,rfl,h4⟩⟩
theorem uT {R S:Nat->Nat->Prop}{N:Nat}(hS:∀i j,i<=N->S i j->j<=N)(h:∀i m,i<=N->(S i m↔R i m)):∀{n i m:Nat},i<=N->(iterM S n i m↔iterM R n i m)
 | 0,i,m,_=>Iff.rfl
 | n+1,i,m,hi=>by
  simp only[iterM];constructor
  ·rintro⟨k,h1,h2⟩;exact⟨k,(h i k hi).1 h1,(uT hS h (hS _ _ hi h1)).1 h2⟩
  rintro⟨k,h1,h2⟩;have qV:=(h i k hi).2 h1;exact⟨k,qV,(uT hS h (hS _ _ hi qV)).2 h2⟩
section
variable {has:ax->Int->Prop} {pts:List Int}
theorem step_drop {a i:Nat}:cz pts false (a+i)=(cz (pts.drop a) false i).map λq=>(a+q.1,q.2):=by
 unfold cz;simp only[Bool.false_eq_true,if_false,List.getElem?_drop,Option.map_map];rfl
theorem step_take {a i:Nat}(hi:i<=a):cz (pts.take a) true i=cz pts true i:=by
 unfold cz;simp only[if_true];by_cases h0:i=0
 ·rw[if_pos h0,if_pos h0]
 rw[if_neg h0,if_neg h0,List.getElem?_take_of_lt (by omega)]
mutual
theorem mH (a:Nat):∀(x:aI) {i m:Nat},dK has pts false x (a+i) m↔∃j,m=a+j/\dK has (pts.drop a) false x i j
 | .one k,i,m=>by
  simp only[dK];rw[step_drop];cases h:cz (pts.drop a) false i with
  | none=>simp
  | some q =>
   obtain⟨j',p'⟩:=q;constructor
   ·rintro⟨p,h1,h2⟩;cases h1;exact⟨j',rfl,p',rfl,h2⟩
   rintro⟨j,rfl,p,h1,h2⟩;cases h1;exact⟨p',rfl,h2⟩
 | .any,i,m=>by
  simp only[dK];rw[step_drop];cases h:cz (pts.drop a) false i with
  | none=>simp
  | some q =>
   obtain⟨j',p'⟩:=q;constructor
   ·rintro⟨p,h1⟩;cases h1;exact⟨j',rfl,p',rfl⟩
   rintro⟨j,rfl,p,h1⟩;cases h1;exact⟨p',rfl⟩
 | .iA,i,m=>by
  simp only[dK];rw[step_drop,Option.map_eq_none_iff];constructor
  ·rintro⟨e,h⟩;exact⟨i,e.symm,rfl,h⟩
  rintro⟨j,rfl,rfl,h⟩;exact⟨rfl,h⟩
 | .cat l,i,m=>by
  simp only[dK,Bool.false_eq_true,if_false];exact uZ a l
 | .alt l,i,m=>by
  simp only[dK];exact BG a l
 | .many x lo hi,i,m=>by
  simp only[dK];constructor
  ·rintro⟨n,h1,h2,h3⟩;obtain⟨j,rfl,h4⟩:=(oP (λi m=>mH a x)).1 h3;exact⟨j,rfl,n,h1,h2,h4⟩
  rintro⟨j,rfl,n,h1,h2,h4⟩;exact⟨n,h1,h2,(oP (λi m=>mH a x)).2 ⟨j,rfl,h4⟩⟩
theorem uZ (a:Nat):∀(l:List aI) {i m:Nat},jU has pts false l (a+i) m↔∃j,m=a+j/\jU has (pts.drop a) false l i j
 | [],i,m=>by
  simp only[jU];exact⟨λe=>⟨i,e.symm,rfl⟩,λ⟨j,e,e'⟩=>by omega⟩
 | x::l,i,m=>by
  simp only[jU];constructor
  ·rintro⟨k,h1,h2⟩;obtain⟨j,rfl,h3⟩:=(mH a x).1 h1;obtain⟨q,rfl,h4⟩:=(uZ a l).1 h2;exact⟨q,rfl,j,h3,h4⟩
  rintro⟨q,rfl,j,h3,h4⟩;exact⟨a+j,(mH a x).2 ⟨j,rfl,h3⟩,(uZ a l).2 ⟨q,rfl,h4⟩⟩
theorem BG (a:Nat):∀(l:List aI) {i m:Nat},nJ has pts false l (a+i) m↔∃j,m=a+j/\nJ has (pts.drop a) false l i j
 | [],i,m=>by simp only[nJ,and_false,exists_false]
 | x::l,i,m=>by
  simp only[nJ];rw[mH a x,BG a l];constructor
  ·rintro(⟨j,e,h⟩|⟨j,e,h⟩)
   ·exact⟨j,e,.inl h⟩
   exact⟨j,e,.inr h⟩
  rintro⟨j,e,h|h⟩
  ·exact .inl ⟨j,e,h⟩
  exact .inr ⟨j,e,h⟩
end
theorem mL {a:Nat}(ha:a<=pts.length):(pts.take a).length=a:=by rw[List.length_take];omega
mutual
theorem nk (a:Nat)(ha:a<=pts.length):∀(x:aI) {i m:Nat},i<=a->(dK has (pts.take a) true x i m↔dK has pts true x i m)
 | .one k,i,m,hi=>by simp only[dK];rw[step_take hi]
 | .any,i,m,hi=>by simp only[dK];rw[step_take hi]
 | .iA,i,m,hi=>by simp only[dK];rw[step_take hi]
 | .cat l,i,m,hi=>by
  simp only[dK,if_true];exact uY a ha l hi
 | .alt l,i,m,hi=>by
  simp only[dK];exact BH a ha l hi
 | .many x lo AI,i,m,hi=>by
  simp only[dK];refine exists_congr λn=>and_congr Iff.rfl (and_congr Iff.rfl ?_);exact uT (N:=a) (λi j h1 h2=>by have:=ja x (pts:=pts.take a) (by rw[mL ha];exact h1) h2;rwa [mL ha]at this) (λi m h=>nk a ha x h) hi
theorem uY (a:Nat)(ha:a<=pts.length):∀(l:List aI) {i m:Nat},i<=a->(lJ has (pts.take a) true l i m↔lJ has pts true l i m)
 | [],i,m,hi=>by simp only[lJ]
 | x::l,i,m,hi=>by
  simp only[lJ];constructor
  ·rintro⟨k,h1,h2⟩;have hk:=q5 l (pts:=pts.take a) (by rw[mL ha];exact hi) h1;rw[mL ha]at hk;exact⟨k,(uY a ha l hi).1 h1,(nk a ha x hk).1 h2⟩
  rintro⟨k,h1,h2⟩;have qV:=(uY a ha l hi).2 h1;have hk:=q5 l (pts:=pts.take a) (by rw[mL ha];exact hi) qV;rw[mL ha]at hk;exact⟨k,qV,(nk a ha x hk).2 h2⟩
theorem BH (a:Nat)(ha:a<=pts.length):∀(l:List aI) {i m:Nat},i<=a->(nJ has (pts.take a) true l i m↔nJ has pts true l i m)
 | [],i,m,hi=>by simp only[nJ]
 | x::l,i,m,hi=>by
  simp only[nJ];rw[nk a ha x hi,BH a ha l hi]
end
def tP (t:Bool)(x:aI):aI:=if t then pt x else x
theorem vK {x:aI}{a:Nat}(ha:a<=pts.length):qd has pts x a true↔∃j,dK has (pts.take a).reverse false (tP true x) 0 j:=by
 have hl:=mL ha
 show (∃j,dK has pts true x a j)↔∃j,dK has (pts.take a).reverse false (pt x) 0 j
 constructor
 ·rintro⟨j,h⟩;have h:=(nk a ha x (Nat.le_refl a)).2 h;have hj:=ja x (pts:=pts.take a) (by omega) h
  have:=(mi (pts:=pts.take a) true x (by omega) hj).2 h;rw[hl,Nat.sub_self]at this;exact⟨_,this⟩
 rintro⟨j,h⟩;have hj:=ja (pt x) (pts:=(pts.take a).reverse) (Nat.zero_le _) h;rw[List.length_reverse,hl]at hj;have e:j=(pts.take a).length-(a-j):=by omega
 have e0:0=(pts.take a).length-a:=by omega
 rw[e,e0]at h;exact⟨a-j,(nk a ha x (Nat.le_refl a)).1 ((mi (pts:=pts.take a) true x (by omega) (by omega)).1 h)⟩
theorem tY {x:aI}{a:Nat}:qd has pts x a false↔∃j,dK has (pts.drop a) false (tP false x) 0 j:=by
 show (∃j,dK has pts false x (a+0) j)↔∃j,dK has (pts.drop a) false x 0 j
 constructor
 ·rintro⟨m,h⟩;obtain⟨j,_,h⟩:=(mH a x).1 h;exact⟨j,h⟩
 rintro⟨j,h⟩;exact⟨a+j,(mH a x).2 ⟨j,rfl,h⟩⟩
end
def gd (l:List Bool)(i:Nat):Prop:=l[i]?=some true
theorem rZ {l:List Bool}{i:Nat}(h:gd l i):i<l.length:=(List.getElem?_eq_some_iff.1 h).1
theorem mc {a b:List Bool}(hl:a.length=b.length)(h:∀i,gd a i↔gd b i):a=b:=by
 refine List.ext_getElem? λi=>?_;by_cases hi:i<a.length
 ·have ea:=List.getElem?_eq_getElem hi;have eb:=List.getElem?_eq_getElem (show i<b.length by omega)
  have hh:=h i;unfold gd at hh;rw[ea,eb]at hh ⊢
  generalize a[i]=x at hh;generalize b[i]=y at hh;cases x<;>cases y<;>simp at hh ⊢
 rw[List.getElem?_eq_none (by omega),List.getElem?_eq_none (by omega)]
section
variable (has:ax->Int->Prop) (ps:List Int) (t:Bool)
noncomputable def ny (x:aI)(l:List Bool):List Bool:=(List.range (ps.length+1)).map λj=>decide (∃i,gd l i/\dK has ps false (tP t x) i j)
noncomputable def lH (x:aI)(l:List Bool):Nat->List Bool
 | 0=>l
 | n+1=>ny has ps t x (lH x l n)
end
section
variable {has:ax->Int->Prop} {ps:List Int} {t:Bool}
theorem j7 {x:aI}{l:List Bool}:(ny has ps t x l).length=ps.length+1:=by simp[ny]
theorem lA {x:aI}{l:List Bool}(hl:l.length=ps.length+1){j:Nat}:gd (ny has ps t x l) j↔∃i,gd l i/\dK has ps false (tP t x) i j:=by
 show (ny has ps t x l)[j]?=some true↔_
 unfold ny;rw[List.getElem?_map];constructor
 ·intro h;cases hr:(List.range (ps.length+1))[j]? with
  | none=>rw[hr]at h;cases h
  | some k =>
   rw[hr]at h;have hk:k=j:=by
    have:=(List.getElem?_eq_some_iff.1 hr).2;simpa using this.symm
   subst hk;simpa using h
 intro h;obtain⟨i,h1,h2⟩:=h;have hi:=rZ h1;have hj:=ja _ (show i<=ps.length by omega) h2
 rw[List.getElem?_range (by omega)];exact congrArg some (decide_eq_true ⟨i,h1,h2⟩)
theorem iT {x:aI}{l:List Bool}(hl:l.length=ps.length+1):∀n,(lH has ps t x l n).length=ps.length+1
 | 0=>hl
 | _+1=>j7
theorem Df {x:aI}{l:List Bool}(hl:l.length=ps.length+1):∀{n j:Nat},gd (lH has ps t x l n) j↔∃i,gd l i/\iterM (dK has ps false (tP t x)) n i j
 | 0,j=>by simp only[lH,iterM];exact⟨λh=>⟨j,h,rfl⟩,λ⟨i,h,e⟩=>e▸h⟩
 | n+1,j=>by
  rw[lH,lA (iT hl n)];constructor
  ·rintro⟨i,h1,h2⟩;obtain⟨k,h3,h4⟩:=(Df hl).1 h1;exact⟨k,h3,jm.2 ⟨i,h4,h2⟩⟩
  rintro⟨k,h3,h4⟩;obtain⟨i,h5,h6⟩:=jm.1 h4;exact⟨i,(Df hl).2 ⟨k,h3,h5⟩,h6⟩
theorem Dg {x:aI}{l:List Bool}{n:Nat}(h:lH has ps t x l n=lH has ps t x l (n+1)):∀k,lH has ps t x l (n+k)=lH has ps t x l n
 | 0=>rfl
 | k+1=>by
  have:lH has ps t x l (n+(k+1))=ny has ps t x (lH has ps t x l (n+k)):=rfl;rw[this,Dg h k];exact h.symm
def IA (a b:List Bool):List Bool:=List.zipWith (· || ·) a b
theorem DZ {a b:List Bool}(h:a.length=b.length):(IA a b).length=a.length:=by simp[IA,h]
theorem Jq {a b:List Bool}(h:a.length=b.length){j:Nat}:gd (IA a b) j↔gd a j\/gd b j:=by
 unfold gd IA;rw[List.getElem?_zipWith];by_cases hj:j<a.length
 ·rw[List.getElem?_eq_getElem hj,List.getElem?_eq_getElem (show j<b.length by omega)]
  simp
 rw[List.getElem?_eq_none (by omega),List.getElem?_eq_none (by omega)];simp
noncomputable def sU (has:ax->Int->Prop)(ps:List Int)(t:Bool)(x:aI)(l:List Bool)(lo:Nat):Nat->List Bool
 | 0=>lH has ps t x l lo
 | k+1=>IA (sU has ps t x l lo k) (lH has ps t x l (lo+k+1))
theorem mq {x:aI}{l:List Bool}{lo:Nat}(hl:l.length=ps.length+1):∀k,(sU has ps t x l lo k).length=ps.length+1
 | 0=>iT hl lo
 | k+1=>by rw[sU,DZ (by rw[mq hl k,iT hl]),mq hl k]
theorem u7 {x:aI}{l:List Bool}{lo:Nat}(hl:l.length=ps.length+1){j:Nat}:∀{k:Nat},gd (sU has ps t x l lo k) j↔∃s,s<=k/\gd (lH has ps t x l (lo+s)) j
 | 0=>by
  rw[sU];constructor
  ·exact λh=>⟨0,Nat.le_refl _,h⟩
  rintro⟨s,h1,h2⟩;obtain rfl:s=0:=by omega
  exact h2
 | k+1=>by
  rw[sU,Jq (by rw[mq hl,iT hl]),u7 hl];constructor
  ·rintro(⟨s,h1,h2⟩|h)
   ·exact⟨s,by omega,h2⟩
   exact⟨k+1,Nat.le_refl _,h⟩
  rintro⟨s,h1,h2⟩;by_cases hs:s=k+1
  ·subst hs;exact .inr h2
  exact .inl ⟨s,by omega,h2⟩
theorem Yl {x:aI}{lo hi:Int}:tP t (.many x lo hi)=.many (tP t x) lo hi:=by unfold tP;cases t<;>simp[pt]
theorem T3 {x:aI}{l:List Bool}{lo:Nat}{hi:Int}(hl:l.length=ps.length+1){j:Nat}:gd (ny has ps t (.many x lo hi) l) j↔∃s:Nat,(hi<0\/((lo+s:Nat):Int)<=hi)/\gd (lH has ps t x l (lo+s)) j:=by
 rw[lA hl,Yl];constructor
 ·rintro⟨i,h1,h2⟩;obtain⟨n,h3,h4,h5⟩:=tS.1 h2;refine⟨n-lo,?_,?_⟩
  ·have:lo+(n-lo)=n:=by omega
   rw[this];exact h4
  rw[show lo+(n-lo)=n by omega,Df hl]
  exact⟨i,h1,h5⟩
 rintro⟨s,h1,h2⟩;obtain⟨i,h3,h4⟩:=(Df hl).1 h2;exact⟨i,h3,tS.2 ⟨lo+s,by omega,h1,h4⟩⟩
theorem KV {x:aI}{l:List Bool}{lo k:Nat}{hi:Int}(hl:l.length=ps.length+1)(hk:hi<0\/((lo+k:Nat):Int)<=hi)
  (h:∀s j,(hi<0\/((lo+s:Nat):Int)<=hi)->gd (lH has ps t x l (lo+s)) j->∃s',s'<=k/\gd (lH has ps t x l (lo+s')) j):sU has ps t x l lo k=ny has ps t (.many x lo hi) l:=by
 refine mc (by rw[mq hl,j7]) λj=>?_;rw[u7 hl,T3 hl];constructor
 ·rintro⟨s,h1,h2⟩;exact⟨s,by rcases hk with hk|hk<;>omega,h2⟩
 rintro⟨s,h1,h2⟩;exact h s j h1 h2
theorem aHG {x:aI}{l:List Bool}{lo k:Nat}{hi:Int}(hl:l.length=ps.length+1)(hk:((lo+k:Nat):Int)=hi):sU has ps t x l lo k=ny has ps t (.many x lo hi) l :=
 KV hl (.inr (by omega)) λs j h1 h2=>⟨s,by omega,h2⟩
theorem VU {x:aI}{l:List Bool}{lo k:Nat}{hi:Int}(hl:l.length=ps.length+1)(hk:hi<0\/((lo+(k+1):Nat):Int)<=hi)(h:lH has ps t x l (lo+k)=lH has ps t x l (lo+k+1)):sU has ps t x l lo (k+1)=ny has ps t (.many x lo hi) l :=
 KV hl hk λs j h1 h2=>by
  by_cases hs:s<=k
  ·exact⟨s,by omega,h2⟩
  have e:lo+s=lo+k+(s-k):=by omega
  rw[e,Dg h]at h2;exact⟨k,by omega,h2⟩
theorem ZD {x:aI}{l:List Bool}{lo k:Nat}{hi:Int}(hl:l.length=ps.length+1)(hn:hi<0)(h:sU has ps t x l lo k=sU has ps t x l lo (k+1)):sU has ps t x l lo (k+1)=ny has ps t (.many x lo hi) l:=by
 refine KV hl (.inl hn) λs j h1 h2=>?_;have key:∀s j,gd (lH has ps t x l (lo+s)) j->gd (sU has ps t x l lo k) j:=by
  intro s;induction s with
  | zero=>exact λj h=>(u7 hl).2 ⟨0,Nat.zero_le _,h⟩
  | succ s ih =>
   intro j hj;have e:lo+(s+1)=(lo+s)+1:=by omega
   rw[e,lH,lA (iT hl _)]at hj;obtain⟨i,h3,h4⟩:=hj;obtain⟨s',h5,h6⟩:=(u7 hl).1 (ih i h3);rw[h];refine(u7 hl).2 ⟨s'+1,by omega,?_⟩;rw[show lo+(s'+1)=(lo+s')+1 by omega,lH,lA (iT hl _)]
   exact⟨i,h6,h4⟩
 obtain⟨s',h5,h6⟩:=(u7 hl).1 (key s j h2);exact⟨s',by omega,h6⟩
def sb (l:List Bool):Nat:=l.countP (·=true)
theorem Wl (l:List Bool):sb l<=l.length:=List.countP_le_length
theorem Km:∀{a b:List Bool},a.length=b.length->sb a<=sb (IA a b)/\(a≠IA a b->sb a<sb (IA a b))
 | [],[],_=>⟨Nat.le_refl _,λh=>absurd rfl h⟩
 | [],_::_,h=>by simp at h
 | _::_,[],h=>by simp at h
 | x::a,y::b,h=>by
  have ih:=Km (a:=a) (b:=b) (by simpa using h);have e:IA (x::a) (y::b)=(x || y)::IA a b:=rfl;rw[e];have c1:sb (x::a)=sb a+if x=true then 1 else 0:=by unfold sb;rw[List.countP_cons];simp
  have c2:sb ((x || y)::IA a b)=sb (IA a b)+if (x || y)=true then 1 else 0:=by unfold sb;rw[List.countP_cons];simp
  rw[c1,c2];cases x with
  | true =>
   simp only[Bool.true_or,if_true];exact⟨by omega,λdA=>by have:=ih.2 (λhh=>dA (by rw[<-hh]));omega⟩
  | false =>
   cases y with
   | true=>simp only[Bool.or_true,if_true,Bool.false_eq_true,if_false];exact⟨by omega,λ_=>by omega⟩
   | false =>
    simp only[Bool.or_false,Bool.false_eq_true,if_false];exact⟨by omega,λdA=>by have:=ih.2 (λhh=>dA (by rw[<-hh]));omega⟩
end
theorem s8 {l:List Bool}{n j:Nat}{b:Bool}(hn:n<l.length):gd (l.set n b) j↔(j=n/\b=true)\/(j≠n/\gd l j):=by
 unfold gd;rw[List.getElem?_set];by_cases h:n=j
 ·subst h;rw[if_pos rfl,if_pos hn];simp
 rw[if_neg h];simp[Ne.symm h]
theorem nM {n j:Nat}:¬gd (List.replicate n false) j:=by
 unfold gd;rw[List.getElem?_replicate];split<;>simp
theorem VG {has:ax->Int->Prop}{ps:List Int}{t:Bool}{x:aI}{bl:List Bool}:lH has ps t x bl 0=bl:=rfl
theorem VT {has:ax->Int->Prop}{ps:List Int}{t:Bool}{x:aI}{bl:List Bool}{lo:Nat}:sU has ps t x bl lo 0=lH has ps t x bl lo:=rfl
theorem H5 {has:ax->Int->Prop}{ps:List Int}{t:Bool}{x:aI}{bl:List Bool}{lo k:Nat}:sU has ps t x bl lo (k+1)=IA (sU has ps t x bl lo k) (lH has ps t x bl (lo+k+1)):=rfl
theorem yn {has:ax->Int->Prop}{ps:List Int}{t:Bool}{x:aI}{bl:List Bool}{n:Nat}:ny has ps t x (lH has ps t x bl n)=lH has ps t x bl (n+1):=rfl
end Cae
namespace Go.Proofs.YtodeeahdhnjpkaaGreatDoor
open Go.Vc Go.Proofs Go.RowKit Cae
attribute [local irreducible] cw ag aq a8 runK bD Sl Vc.Own vc aW cN ai
def cH (b:Bool):List Value:=[.bool b]
theorem Da (a b:List Bool)(hl:a.length=b.length)(hs:a.length<=1000000)(X X':Nat->Prop)(v v':Value)(w:World)(hv:Sl X 1 (En cH) w v a)(NV:Sl X' 1 (En cH) w v' b) :
  bD Tryz.prog 102 [v,v'] w λr w'=>r=.bool (decide (a=b))/\Below w.heap.size w w':=by
 obtain⟨s,c,rfl,hc⟩:=hv.shape;obtain⟨s',c',rfl,XW⟩:=NV.shape;refine aE Tryz.func102 rfl (by kernel_rfl) [4] rfl ?_;push_cast -dsimp(maxSteps:=4000000) [Tryz.ntmps102];refine aM [4,5,8,9,10,11,12,13,14,15,16,17,18,19,20] (λz wx=>∃(i:Nat),z 8=.int .i64 i/\i<=a.length/\a.take i=b.take i/\Below w.heap.size w wx) (λz _=>a.length-(intOf (z 8)).toNat) ?_ ?_
 ·exact⟨0,rfl,Nat.zero_le _,rfl,Below.refl _ _⟩
 intro z wx hI;obtain⟨i,h8,hi,he,hb⟩:=hI;push_cast -dsimp[h8];refine⟨λbZ=>?_,λgh=>?_⟩
 ·obtain⟨x,hx,lO,_,ht⟩:=bK (l:=a) (i:=i) (by omega);obtain⟨y,hy,hym,_,ht'⟩:=bK (l:=b) (i:=i) (by omega);obtain⟨g,o,rfl,hX,aP⟩:=(hv.below hb).get hx;obtain⟨g',o',rfl,hX',uE⟩:=(NV.below hb).get hy;have c0:wx.cell? ⟨g,o+i,none⟩=some (.bool x):=by simpa[cH] using aP 0 _ rfl
  have c1:wx.cell? ⟨g',o'+i,none⟩=some (.bool y):=by simpa[cH] using uE 0 _ rfl
  have dA:x≠y->a≠b:=λh e=>by
   rw[e,hy]at hx;exact h (Option.some.inj hx).symm
  cases hq:(x == y) with
  | true =>
   have exy:x=y:=by simpa using hq
   refine aX (λw'=>∀a,w'.cell? a=wx.cell? a) mixed (by kernel_rfl) (λ_=>rfl) ?_;have c0d:wx.drew.cell? ⟨g,o+i,none⟩=some _:=c0;have c1d:wx.drew.cell? ⟨g',o'+i,none⟩=some _:=c1;push_cast -dsimp[c0d,c1d,hq,Nat.mul_one];refine⟨⟨by omega,by omega⟩,λar h=>by rw[h,c0];exact rfl,⟨by omega,by omega⟩,λar h=>by rw[h,c1];exact rfl,?_⟩;exact⟨⟨by omega,by omega⟩,⟨i+1,rfl,by omega,by rw[ht,ht',he,exy],hb.drew⟩,by rw[h8];simp only[intOf];omega⟩
  | false =>
   have exy:x≠y:=by simpa using hq
   refine aX (λw'=>∀a,w'.cell? a=wx.cell? a) mixed (by kernel_rfl) (λ_=>rfl) ?_;have c0d:wx.drew.cell? ⟨g,o+i,none⟩=some _:=c0;have c1d:wx.drew.cell? ⟨g',o'+i,none⟩=some _:=c1;push_cast -dsimp[c0d,c1d,hq,Nat.mul_one];refine⟨⟨by omega,by omega⟩,λar h=>by rw[h,c0];exact rfl,⟨by omega,by omega⟩,λar h=>by rw[h,c1];exact rfl,?_⟩;exact⟨by rw[decide_eq_false (dA exy)],hb.drew⟩
 rw[List.take_of_length_le (by omega),List.take_of_length_le (by omega)]at he;exact⟨by rw[decide_eq_true he],hb⟩
end Go.Proofs.YtodeeahdhnjpkaaGreatDoor
end
section
namespace Go.Proofs.YtodeeahdhnjpkaaGreatDoor
open Go.Vc Go.Proofs Go.RowKit Cae
attribute [local irreducible] cw ag aq a8 runK bD Sl Vc.Own vc aW cN ai
theorem yG {P:Program}{bt e:TypeId}{bytes:Nat}{z:Value}{n:Nat}{t:Fr}{w:World}{K:VK}{Q:EP}{p}(hE:zC P bt=some (e,1,bytes))(hz:(P.info? e).bind (·.zero)=some z)(hz1:kA z=true)(hb:bytes*n<=281474976710656)(hn:n<=140737488355328)
  (kk:∀w',qR w w' e (List.replicate n z)->K (.slice (some ⟨w.heap.size,0,none⟩) n n) w'):aq P (Instr.makeSlice bt (.int .i64 n) (.int .i64 n)) t w K Q p:=by
 obtain⟨hu,i,z',hi,hz',hk,rfl,JV,_,_⟩:=ll hE;rw[hi]at hz;simp only[Option.bind_some]at hz;rw[hz']at hz;cases hz
 have:=run_make (P:=P) w bt e i z hu hi hz' .i64 .i64 n n (by omega) (Int.le_refl _) (by rw[<-Int.natCast_mul];omega) (by omega);refine dq this ?_;simp only[Int.toNat_natCast];refine kk _ ⟨?_⟩;congr 2;have hzc:z.cells=#[z]:=by cases z<;>simp_all [kA,Value.cells]
 rw[hzc,hk];apply Array.ext';simp only[madeCells,Array.toList_map,Array.toList_range];apply List.ext_getElem?;intro j;simp only[List.getElem?_map,List.getElem?_replicate,Nat.mul_one];by_cases hj:j<n
 ·simp[hj,Nat.mod_one]
 simp[hj]
theorem aE8 (c:Bool)(n k n' k':Nat)(L:VP)(other:Prop)(p):cd 3 c .eql (.slice none n k) (.slice none n' k') L other p=L (.bool true):=by
 cases c<;>rfl
theorem aE9 (c:Bool)(a:Addr)(n k n' k':Nat)(L:VP)(other:Prop)(p):cd 3 c .eql (.slice (some a) n k) (.slice none n' k') L other p=L (.bool false):=by
 cases c<;>rfl
theorem Wj (l:List Int)(hl:l.length<1000000000)(X:Nat->Prop)(v:Value)(w:World)(hv:Sl X 1 (En Vc.eV) w v l)(ha:Arg v) :
  bD Tryz.prog 79 [v] w λr w'=>Vc.Own w.heap.size 3 1 Vc.eV w' r l/\Below w.heap.size w w':=by
 obtain⟨a,c,rfl,hc⟩:=hv.shape;refine aE Tryz.func79 rfl (by kernel_rfl) [2] rfl ?_;push_cast -dsimp(maxSteps:=4000000) [Tryz.ntmps79];cases a with
 | none =>
  obtain⟨h0,rfl⟩:=ha _ _ rfl;have:l=[]:=List.eq_nil_of_length_eq_zero h0;subst this;push_cast -dsimp[aE8];exact⟨Vc.Own.nil (enc:=Vc.eV) _ _ (λ_=>rfl) _,Below.refl _ _⟩
 | some ad =>
  push_cast -dsimp[aE9];refine cY bw rfl rfl (by omega) ?_;intro w1 au;have GK:=au.own (base:=w.heap.size) (k:=1) (n:=0) (enc:=Vc.eV) (l:=[]) rfl rfl (λ_=>rfl) (Nat.le_refl _) (by omega);have sT:=au.size;push_cast -dsimp;refine jh (base:=w.heap.size) (enc:=Vc.eV) (ys:=l) bw GK (hv.below au.below) (λn c h=>by cases h) pR (by simp only[List.length_nil];omega) (by omega) ?_;intro v' w2 ow hg2 eW;rw[List.nil_append]at ow;push_cast -dsimp;exact⟨ow,au.below.trans eW⟩
end Go.Proofs.YtodeeahdhnjpkaaGreatDoor
end
section
namespace Cae
open Go.Lib
theorem xL (zs:List Int)(h:zs.Pairwise (·<=·)):(compact zs).Pairwise (·<·)/\∀x,x∈compact zs↔x∈zs:=by
 have get:∀j,j<zs.length->zs.toArray[j]! = zs[j]! := λj hj=>by simp
 have mono:∀i j,i<=j->j<zs.length->zs.toArray[i]! <= zs.toArray[j]! := λi j hij hj=>by
  rw[get i (by omega),get j hj,getElem!_pos zs i (by omega),getElem!_pos zs j hj];rcases Nat.lt_or_eq_of_le hij with hl|he
  ·exact List.pairwise_iff_getElem.1 h i j (by omega) hj hl
  subst he;exact Int.le_refl _
 have key:∀m,m<=zs.length->(compactUpTo zs.toArray m).Pairwise (·<·)/\(∀x∈compactUpTo zs.toArray m,∃j,j<m/\zs.toArray[j]! = x)/\∀j,j<m->zs.toArray[j]! ∈ compactUpTo zs.toArray m:=by
  intro m;induction m with
  | zero=>intro _;simp[compactUpTo]
  | succ m ih =>
   intro hm;obtain⟨h1,h2,h3⟩:=ih (by omega);rw[compactUpTo_succ];by_cases hk:keeps zs.toArray m=true
   ·rw[if_pos hk];refine⟨List.pairwise_append.2 ⟨h1,by simp,λx hx y hy=>?_⟩,λx hx=>?_,λj hj=>?_⟩
    ·rw[List.mem_singleton]at hy;subst hy;obtain⟨j,hj,rfl⟩:=h2 x hx;unfold keeps at hk;have hk:=of_decide_eq_true hk;rcases hk with hk|hk
     ·omega
     have a1:=mono j (m-1) (by omega) (by omega);have a2:=mono (m-1) m (by omega) (by omega);omega
    ·rw[List.mem_append,List.mem_singleton]at hx;rcases hx with hx|rfl
     ·obtain⟨j,hj,e⟩:=h2 x hx;exact⟨j,by omega,e⟩
     exact⟨m,by omega,rfl⟩
    rw[List.mem_append,List.mem_singleton];by_cases Zt:j=m
    ·subst Zt;exact .inr rfl
    exact .inl (h3 j (by omega))
   rw[if_neg hk,List.append_nil];refine⟨h1,λx hx=>?_,λj hj=>?_⟩
   ·obtain⟨j,hj,e⟩:=h2 x hx;exact⟨j,by omega,e⟩
   by_cases Zt:j=m
   ·subst Zt;unfold keeps at hk;have hk:¬(j=0\/zs.toArray[j]! ≠ zs.toArray[j-1]!):=λhh=>hk (decide_eq_true hh);have e:zs.toArray[j]! = zs.toArray[j-1]! := Classical.byContradiction λdA=>hk (.inr dA);rw[e];exact h3 (j-1) (by omega)
   exact h3 j (by omega)
 obtain⟨h1,h2,h3⟩:=key zs.length (Nat.le_refl _);refine⟨h1,λx=>⟨λhx=>?_,λhx=>?_⟩⟩
 ·obtain⟨j,hj,rfl⟩:=h2 x hx;rw[get j hj,getElem!_pos zs j hj];exact List.getElem_mem _
 obtain⟨j,hj,rfl⟩:=List.getElem_of_mem hx
 have:=h3 j hj;rwa [get j hj,getElem!_pos zs j hj]at this
def bM (l:List Nat):List Int:=l.map λn:Nat=>(n:Int)
theorem ry {zs:List Int}(h:∀z∈zs,0<=z):bM (zs.map Int.toNat)=zs:=by
 unfold bM;rw[List.map_map]
 conv=>rhs;rw[<-List.map_id zs]
 exact List.map_congr_left λz hz=>by have:=h z hz;simp[Function.comp];omega
theorem qG (l:List Nat):∃m:List Nat,compact (bM l |>.mergeSort λx y=>decide (x<=y))=bM m/\m.Pairwise (·<·)/\∀x,x∈m↔x∈l:=by
 have hp:=List.mergeSort_perm (bM l) (λx y=>decide (x<=y));have hs:((bM l).mergeSort λx y=>decide (x<=y)).Pairwise (·<=·):=by
  have:=List.pairwise_mergeSort (le:=λx y:Int=>decide (x<=y)) (λa b c h1 h2=>by simp at *;omega) (λa b=>by simp;omega) (bM l);exact this.imp λh=>of_decide_eq_true h
 obtain⟨h1,h2⟩:=xL _ hs;have h0:∀z∈compact ((bM l).mergeSort λx y=>decide (x<=y)),∃n:Nat,n∈l/\z=n:=λz hz=>by
  have:=(hp.mem_iff).1 ((h2 z).1 hz);unfold bM at this;obtain⟨n,hn,rfl⟩:=List.mem_map.1 this;exact⟨n,hn,rfl⟩
 refine⟨_,(ry (λz hz=>by obtain⟨n,_,rfl⟩:=h0 z hz;omega)).symm,?_,λx=>?_⟩
 ·rw[List.pairwise_map];refine h1.imp_of_mem λ{a b} ha hb Ks=>?_;obtain⟨n,_,rfl⟩:=h0 a ha;obtain⟨k,_,rfl⟩:=h0 b hb;simp;omega
 rw[List.mem_map];constructor
 ·rintro⟨z,hz,rfl⟩;obtain⟨n,hn,rfl⟩:=h0 z hz;simpa using hn
 intro hx;refine⟨(x:Int),(h2 _).2 (hp.mem_iff.2 ?_),by simp⟩;unfold bM;exact List.mem_map.2 ⟨x,hx,rfl⟩
end Cae
namespace Go.Proofs.YtodeeahdhnjpkaaGreatDoor
open Go.Vc Go.Proofs Go.RowKit Cae Go.Sort
theorem SB (l:List Nat):l.flatMap br=l.map (λn:Nat=>Value.int .i64 (n:Int)):=by
 induction l with
 | nil=>rfl
 | cons x l ih=>simp[List.flatMap_cons,br,ih]
theorem TA {base:Nat}{e:TypeId}{w:World}{g n c:Nat}{l:List Nat}(h:Vc.Own base e 1 br w (.slice (some ⟨g,0,none⟩) n c) l):Holds (Value.int .i64) w g 0 (bM l).toArray:=by
 obtain⟨cur,hB,hl,ht,_⟩:=Vc.Own.opened h rfl;intro j hj;have hj':j<l.length:=by simpa[bM] using hj
 have h1:cur[j]?=some (.int .i64 (l[j]:Int)):=by
  have h2:(cur.take (l.length*1))[j]?=(l.flatMap br)[j]?:=by rw[ht]
  rw[SB,List.getElem?_take,if_pos (by omega)]at h2;rw[h2];simp[hj']
 have e2:((bM l).toArray)[j]! = (l[j]:Int):=by simp[bM,hj']
 rw[e2];refine⟨?_,?_⟩
 ·rw[Nat.zero_add];exact hB.cell h1
 have Cq:w.heap[g]?=some (.cells cur.toArray e (0,0)):=hB;simp[World.frozen?,Cq]
theorem aHm {base:Nat}{e:TypeId}{w:World}{g n c q:Nat}{os:Array Obj}{l m:List Nat}(h:Vc.Own base e 1 br w (.slice (some ⟨g,0,none⟩) n c) l)(ds:List Int)(hd:ds=bM m)(hm:m.length=l.length) :
  Vc.Own base e 1 br (Go.Sort.grow (putRow (Value.int .i64) (Sort.ahead w q) g 0 ds.toArray) os) (.slice (some ⟨g,0,none⟩) n c) m/\Kept (λj=>j=g) w (Go.Sort.grow (putRow (Value.int .i64) (Sort.ahead w q) g 0 ds.toArray) os):=by
 subst hd;have hg:=(h.block g rfl).2;obtain⟨cur,hB,hl,ht,sx⟩:=Vc.Own.opened h rfl;have Au:(putRow (Value.int .i64) (Sort.ahead w q) g 0 (bM m).toArray).heap.size=w.heap.size:=by simp[putRow,mapBlock,Sort.ahead]
 constructor
 ·refine sx _ (putCells (Value.int .i64) 0 (bM m).toArray cur.toArray).toList m ?_ (by simp[putCells]) hm ?_
  ·show (Go.Sort.grow _ os).heap[g]?=_
   rw[heap_grow_old _ _ (by omega)];have Cq:w.heap[g]?=some (.cells cur.toArray e (0,0)):=hB;simp[putRow,mapBlock,Sort.ahead,Array.getElem?_modify,Cq,onCells]
  apply List.ext_getElem?;intro k;rw[SB,List.getElem?_take];by_cases hk:k<m.length
  ·rw[if_pos (by omega)];have hkc:k<cur.length:=by omega
   simp[putCells,hkc,hk,bM]
  rw[if_neg (by omega),List.getElem?_eq_none (by simp;omega)]
 refine⟨rfl,rfl,rfl,?_,λk hk dA=>?_⟩
 ·simp[Go.Sort.grow,Au]
 rw[heap_grow_old _ _ (by omega)];simp[putRow,mapBlock,Sort.ahead,Array.getElem?_modify,Ne.symm dA]
end Go.Proofs.YtodeeahdhnjpkaaGreatDoor
end
section
namespace Go.Vc
open Go.RowKit
theorem aHr {α:Type}{X:Nat->Prop}{k:Nat}{enc:α->List Value}{w:World}{a:Option Addr}{c n:Nat}{us:List α}(hl:us.length=n)(hc:n<=c)(hk:∀x,(enc x).length=k)
  (h:∀(i:Nat) (u:α),us[i]?=some u->∃b o,a=some ⟨b,o,none⟩/\¬X b/\∀j x,(enc u)[j]?=some x->w.cell? ⟨b,o+i*k+j,none⟩=some x):Sl X k (En enc) w (.slice a n c) us:=by
 subst hl;refine⟨a,c,rfl,hc,λi u hu=>?_⟩;obtain⟨b,o,e,hX,aP⟩:=h i u hu;exact⟨b,o,_,e,hX,hk u,aP,rfl⟩
end Go.Vc
namespace Go.Proofs.YtodeeahdhnjpkaaGreatDoor
open Go.Vc Go.Proofs Go.RowKit Cae
attribute [local irreducible] cw ag aq a8 runK bD Sl Vc.Own vc aW cN ai
theorem Rw (l l':List Nat)(hl:l.length<10000000)(X X':Nat->Prop)(v v':Value)(w:World)(hv:Sl X 1 (En br) w v l)(NV:Sl X' 1 (En br) w v' l') :
  bD Tryz.prog 104 [v,v'] w λr w'=>r=.bool (decide (l=l'))/\Below w.heap.size w w':=by
 obtain⟨a,c,rfl,hc⟩:=hv.shape;obtain⟨a',c',rfl,XW⟩:=NV.shape;refine aE Tryz.func104 rfl (by kernel_rfl) [4] rfl ?_;push_cast -dsimp(maxSteps:=4000000) [Tryz.ntmps104];refine⟨λdA=>⟨?_,Below.refl _ _⟩,λhe=>?_⟩
 ·rw[decide_eq_false];intro h;subst h;omega
 have Zn:l.length=l'.length:=by omega
 refine aM [4,5,13,14,15,16,17,18,19,20,21,22,23,24,25] (λz wx=>∃(i:Nat),z 13=.int .i64 i/\i<=l.length/\l.take i=l'.take i/\Below w.heap.size w wx) (λz _=>l.length-(intOf (z 13)).toNat) ?_ ?_
 ·exact⟨0,rfl,Nat.zero_le _,rfl,Below.refl _ _⟩
 intro z wx hI;obtain⟨i,zD,hi,cD,hb⟩:=hI;push_cast -dsimp[zD];refine⟨λbZ=>?_,λgh=>?_⟩
 ·obtain⟨x,hx,lO,hd,ht⟩:=bK (l:=l) (i:=i) (by omega);obtain⟨b,o,rfl,hX,aP⟩:=(hv.below hb).get hx;obtain⟨x',NW,aQ2,Zm,ht'⟩:=bK (l:=l') (i:=i) (by omega);obtain⟨b',o',rfl,hX',uE⟩:=(NV.below hb).get NW;refine aX (λw'=>∀a,w'.cell? a=wx.cell? a) mixed (by kernel_rfl) (λ_=>rfl) ?_;have c0:wx.cell? ⟨b,o+i,none⟩=some (.int .i64 (x:Int)):=by simpa using aP 0 _ rfl
  have MI:wx.cell? ⟨b',o'+i,none⟩=some (.int .i64 (x':Int)):=by simpa using uE 0 _ rfl
  have d0:wx.drew.cell? ⟨b,o+i,none⟩=some (.int .i64 (x:Int)):=c0;have d0':wx.drew.cell? ⟨b',o'+i,none⟩=some (.int .i64 (x':Int)):=MI;push_cast -dsimp[d0,d0'];refine⟨⟨by omega,by omega⟩,λar hC=>by rw[hC,c0];exact rfl,⟨by omega,by omega⟩,λar hC=>by rw[hC,MI];exact rfl,λdA=>?_,λheq=>?_⟩
  ·refine⟨?_,hb.drew⟩;rw[decide_eq_false];intro h;subst h;rw[hx]at NW;cases NW;exact dA rfl
  have heq:x=x':=by omega
  exact⟨⟨by omega,by omega⟩,⟨i+1,rfl,by omega,by rw[ht,ht',cD,heq],hb.drew⟩,by rw[zD];simp only[intOf];omega⟩
 refine⟨?_,hb⟩;rw[List.take_of_length_le (by omega),List.take_of_length_le (by omega)]at cD;rw[decide_eq_true cD]
end Go.Proofs.YtodeeahdhnjpkaaGreatDoor
end
section
namespace Go.Proofs.YtodeeahdhnjpkaaGreatDoor
open Go.Vc Go.Proofs Go.RowKit Cae Go.Sort
def VF:Go.Shelf.Ren:=⟨λ| 189=>80|125=>106|257=>105|128=>142|129=>143|294=>133|295=>134|296=>135|297=>136|298=>137|299=>138|216=>139|300=>140|301=>141|328=>173|329=>174|330=>175|331=>176|332=>177|215=>172|343=>205|n=>n,λ| 28=>50|3=>3|46=>109|0=>0|51=>206|53=>208|4=>4|183=>199|182=>198|131=>194|5=>5|9=>9|218=>244|222=>248|228=>272|229=>105|n=>n,λ| n=>n⟩
theorem aHu:Go.Proofs.Lays.n189 Tryz.prog VF:={
 mixed:=by kernel_rfl
 f125:=Tryz.func106.trans (congrArg some (by kernel_rfl))
 f128:=Tryz.func142.trans (congrArg some (by kernel_rfl))
 f129:=Tryz.func143.trans (congrArg some (by kernel_rfl))
 f189:=Tryz.func80.trans (congrArg some (by kernel_rfl))
 f215:=Tryz.func172.trans (congrArg some (by kernel_rfl))
 f216:=Tryz.func139.trans (congrArg some (by kernel_rfl))
 f257:=Tryz.func105.trans (congrArg some (by kernel_rfl))
 f294:=Tryz.func133.trans (congrArg some (by kernel_rfl))
 f295:=Tryz.func134.trans (congrArg some (by kernel_rfl))
 f296:=Tryz.func135.trans (congrArg some (by kernel_rfl))
 f297:=Tryz.func136.trans (congrArg some (by kernel_rfl))
 f298:=Tryz.func137.trans (congrArg some (by kernel_rfl))
 f299:=Tryz.func138.trans (congrArg some (by kernel_rfl))
 f300:=Tryz.func140.trans (congrArg some (by kernel_rfl))
 f301:=Tryz.func141.trans (congrArg some (by kernel_rfl))
 f328:=Tryz.func173.trans (congrArg some (by kernel_rfl))
 f329:=Tryz.func174.trans (congrArg some (by kernel_rfl))
 f330:=Tryz.func175.trans (congrArg some (by kernel_rfl))
 f331:=Tryz.func176.trans (congrArg some (by kernel_rfl))
 f332:=Tryz.func177.trans (congrArg some (by kernel_rfl))
 f343:=Tryz.func205.trans (congrArg some (by kernel_rfl))
 t0:=Tryz.underlying0
 a0:=Tryz.isAgg0
 z0:=Tryz.sizeOf0
 v0:=Tryz.zeroValue0
 t3:=Tryz.underlying3
 a3:=Tryz.isAgg3
 z3:=Tryz.sizeOf3
 v3:=Tryz.zeroValue3
 t4:=Tryz.underlying4
 a4:=Tryz.isAgg4
 z4:=Tryz.sizeOf4
 v4:=Tryz.zeroValue4
 t5:=Tryz.underlying5
 a5:=Tryz.isAgg5
 z5:=Tryz.sizeOf5
 v5:=Tryz.zeroValue5
 t9:=Tryz.underlying9
 a9:=Tryz.isAgg9
 z9:=Tryz.sizeOf9
 v9:=Tryz.zeroValue9
 t28:=Tryz.underlying50
 a28:=Tryz.isAgg50
 z28:=Tryz.sizeOf50
 v28:=Tryz.zeroValue50
 t46:=Tryz.underlying109
 a46:=Tryz.isAgg109
 z46:=Tryz.sizeOf109
 v46:=Tryz.zeroValue109
 t51:=Tryz.underlying206
 a51:=Tryz.isAgg206
 z51:=Tryz.sizeOf206
 v51:=Tryz.zeroValue206
 t53:=Tryz.underlying208
 a53:=Tryz.isAgg208
 z53:=Tryz.sizeOf208
 v53:=Tryz.zeroValue208
 t131:=Tryz.underlying194
 a131:=Tryz.isAgg194
 z131:=Tryz.sizeOf194
 v131:=Tryz.zeroValue194
 t182:=Tryz.underlying198
 a182:=Tryz.isAgg198
 z182:=Tryz.sizeOf198
 v182:=Tryz.zeroValue198
 t183:=Tryz.underlying199
 a183:=Tryz.isAgg199
 z183:=Tryz.sizeOf199
 v183:=Tryz.zeroValue199
 t218:=Tryz.underlying244
 a218:=Tryz.isAgg244
 z218:=Tryz.sizeOf244
 v218:=Tryz.zeroValue244
 t222:=Tryz.underlying248
 a222:=Tryz.isAgg248
 z222:=Tryz.sizeOf248
 v222:=Tryz.zeroValue248
 t228:=Tryz.underlying272
 a228:=Tryz.isAgg272
 z228:=Tryz.sizeOf272
 v228:=Tryz.zeroValue272
 t229:=Tryz.underlying105
 a229:=Tryz.isAgg105
 z229:=Tryz.sizeOf105
 v229:=Tryz.zeroValue105 }
def Ib:Go.Shelf.Ren:=⟨λ| 20=>81|n=>n,λ| 22=>50|3=>3|4=>4|0=>0|n=>n,λ| n=>n⟩
theorem RI:Go.Proofs.Lays2.n20 Tryz.prog Ib:={
 mixed:=by kernel_rfl
 f20:=Tryz.func81.trans (congrArg some (by kernel_rfl))
 t0:=Tryz.underlying0
 a0:=Tryz.isAgg0
 z0:=Tryz.sizeOf0
 v0:=Tryz.zeroValue0
 t3:=Tryz.underlying3
 a3:=Tryz.isAgg3
 z3:=Tryz.sizeOf3
 v3:=Tryz.zeroValue3
 t4:=Tryz.underlying4
 a4:=Tryz.isAgg4
 z4:=Tryz.sizeOf4
 v4:=Tryz.zeroValue4
 t22:=Tryz.underlying50
 a22:=Tryz.isAgg50
 z22:=Tryz.sizeOf50
 v22:=Tryz.zeroValue50
 i3:=by kernel_rfl }
theorem aAo {base:Nat}{e:TypeId}{w:World}{ad:Addr}{n c:Nat}{l:List Nat}(h:Vc.Own base e 1 br w (.slice (some ad) n c) l):∃g,ad=⟨g,0,none⟩:=by
 rcases h.1.2 with ⟨he,_⟩|⟨g,cap,cr,he,_⟩
 ·cases he
 cases he;exact⟨_,rfl⟩
theorem kE (l:List Nat)(hl:l.length<1000000000)(base:Nat)(v:Value)(w:World)(ho:Vc.Own base 3 1 br w v l) :
  bD Tryz.prog 80 [v] w λr w'=>(∃m,bM m=((bM l).mergeSort λx y=>decide (x<=y))/\Vc.Own base 3 1 br w' v m)/\Kept (λj=>v.ownBlock=some j) w w':=by
 refine bx Tryz.func80 (by kernel_rfl) (by kernel_rfl) ?_;obtain⟨a,c,rfl⟩:=ho.slice;cases a with
 | none =>
  have hz:=(ho.dH _ _ rfl).1;have hn:l=[]:=List.eq_nil_of_length_eq_zero hz;subst hn;refine(Any.slices_Sort_int_none aHu none c w).mono ?_;rintro e w' ⟨rfl,rfl⟩;exact⟨_,rfl,⟨[],by simp[bM],ho⟩,Kept.refl _ _⟩
 | some ad =>
  obtain⟨g,rfl⟩:=aAo ho;have vh:=ho.block g rfl;have Zr:(bM l).length=l.length:=by simp[bM]
  have Ft:=Any.slices_Sort_int aHu g 0 c (bM l) w (TA ho) vh.2 (by omega);rw[Zr]at Ft;refine Calls.mono Ft ?_;rintro e w' ⟨rfl,n,os,rfl⟩;have hp:=List.mergeSort_perm (bM l) (λx y=>decide (x<=y));have sx:bM (((bM l).mergeSort λx y=>decide (x<=y)).map Int.toNat)=((bM l).mergeSort λx y=>decide (x<=y)):=ry λz hz=>by
   have:=hp.mem_iff.1 hz;unfold bM at this;obtain⟨k,_,rfl⟩:=List.mem_map.1 this;omega
  have AM:=aHm (q:=n) (os:=os) ho _ sx.symm (by rw[List.length_map,hp.length_eq,Zr]);exact⟨_,rfl,⟨_,sx,AM.1⟩,AM.2.weaken (λi _ h=>by rw[h];rfl)⟩
theorem fg (l:List Nat)(hl:l.length<1000000000)(base:Nat)(v:Value)(w:World)(ho:Vc.Own base 3 1 br w v l) :
  bD Tryz.prog 81 [v] w λr w'=>(∃m,bM m=Lib.compact (bM l)/\Vc.Own base 3 1 br w' r m/\∀j,r.ownBlock=some j->v.ownBlock=some j)/\Kept (λj=>v.ownBlock=some j) w w':=by
 refine bx Tryz.func81 (by kernel_rfl) (by kernel_rfl) ?_;obtain⟨a,c,rfl⟩:=ho.slice;cases a with
 | none =>
  have hz:=(ho.dH _ _ rfl).1;have hn:l=[]:=List.eq_nil_of_length_eq_zero hz;subst hn;refine(Any.slices_Compact_int_empty RI none c w).mono ?_;rintro e w' ⟨rfl,rfl⟩;exact⟨_,rfl,⟨[],rfl,ho,λj h=>h⟩,Kept.refl _ _⟩
 | some ad =>
  obtain⟨g,rfl⟩:=aAo ho;have Zr:(bM l).length=l.length:=by simp[bM]
  have qn:=Vc.Own.cut ho;have aKe:l.length<=c:=by
   rcases qn with ⟨h,_⟩|⟨g',_,_,hc,_⟩
   ·cases h
   exact hc
  have Ft:=Any.slices_Compact_int RI g 0 c (bM l) w (TA ho) (by omega) (by omega);rw[Zr]at Ft;refine Calls.mono Ft ?_;rintro e w' ⟨rfl,q,rfl⟩;have hle:=Lib.compact_length_le (bM l);have sx:bM ((Lib.compact (bM l)).map Int.toNat)=Lib.compact (bM l):=ry λz hz=>by
   unfold Lib.compact Lib.compactUpTo at hz;obtain⟨k,hk,rfl⟩:=List.mem_map.1 hz;have iY:=List.mem_range.1 (List.mem_filter.1 hk).1;have qq:k<l.length:=by omega
   simp[bM,qq]
  have aGb:Lib.compact (bM l)++List.replicate (l.length-(Lib.compact (bM l)).length) 0=bM ((Lib.compact (bM l)).map Int.toNat++List.replicate (l.length-(Lib.compact (bM l)).length) 0):=by
   unfold bM;rw[List.map_append];have h1:=sx;unfold bM at h1;rw[h1];simp
  have AM:=aHm (q:=q) (os:=#[]) ho _ aGb (by rw[List.length_append,List.length_map,List.length_replicate];omega);rw[Sort.grow_empty]at AM;have Zj:=Vc.Own.cut AM.1;rcases Zj with ⟨h,_⟩|⟨g',Se,_,_,cg⟩
  ·cases h
  cases Se;have h3:=cg (Lib.compact (bM l)).length (by omega);rw[List.take_left' (by simp)]at h3;exact⟨_,rfl,⟨_,sx,h3,λj h=>h⟩,AM.2.weaken (λi _ h=>by rw[h];rfl)⟩
theorem Yh {X:Nat->Prop}{w:World}{v:Value}{l:List Nat}(h:Sl X 1 (En br) w v l):Sl X 1 (En Go.Vc.eV) w v (bM l):=by
 obtain⟨a,c,rfl,hc⟩:=h.shape;refine aHr (by simp[bM]) hc (λ_=>rfl) λi u hu=>?_;unfold bM at hu;rw[List.getElem?_map]at hu;obtain⟨n,hn,rfl⟩:=Option.map_eq_some_iff.1 hu;obtain⟨b,o,e,hX,aP⟩:=h.get hn;exact⟨b,o,e,hX,λj x hx=>aP j x hx⟩
theorem Xb (l:List Nat):(bM l).flatMap Go.Vc.eV=l.flatMap br:=by
 rw[SB];unfold bM;induction l with
 | nil=>rfl
 | cons x l ih=>rw[List.map_cons,List.flatMap_cons,List.map_cons,ih];rfl
theorem UQ {base:Nat}{e:TypeId}{w:World}{v:Value}{l:List Nat}(h:Vc.Own base e 1 Go.Vc.eV w v (bM l)):Vc.Own base e 1 br w v l:=by
 have e1:=Xb l;have e2:(bM l).length=l.length:=by simp[bM]
 refine⟨?_,λ_=>rfl⟩
 have:=h.1;rw[e1,e2]at this;exact this
theorem kH (l:List Nat)(hl:l.length<1000000000)(X:Nat->Prop)(v:Value)(w:World)(hv:Sl X 1 (En br) w v l)(ha:Arg v) :
  bD Tryz.prog 79 [v] w λr w'=>Vc.Own w.heap.size 3 1 br w' r l/\Below w.heap.size w w' :=
 (Wj (bM l) (by simp[bM];omega) X v w (Yh hv) ha).mono λr w' ⟨h1,h2⟩=>⟨UQ h1,h2⟩
end Go.Proofs.YtodeeahdhnjpkaaGreatDoor
end
section
namespace Cae
def usize (c:Nat):Nat:=if c<128 then 1 else if 194<=c/\c<224 then 2 else if 224<=c/\c<240 then 3 else if 240<=c/\c<245 then 4 else 0
theorem yv (c:Nat):usize c<=4:=by unfold usize;grind
def od (n:Nat):Nat:=if n=2 then 128 else if n=3 then 2048 else if n=4 then 65536 else 0
def iv (n c:Nat):Nat:=if 1<n then c % 2 ^ (7-n) else c
def sL (n p:Nat):Prop:=p<od n\/1114111<p\/(55296<=p/\p<57344)
instance (n p:Nat):Decidable (sL n p):=by unfold sL;infer_instance
def sM:List UInt8->Nat->Option Nat
 | [],p=>some p
 | c::r,p=>if c.toNat / 64=2 then sM r (p*64+c.toNat % 64) else none
def cG (s:List UInt8):Nat×Nat:=match s with
 | []=>(0,0)
 | c::_ =>
  let n:=usize c.toNat
  if n=0\/s.length<n then (0,0) else
  match sM ((s.take n).drop 1) (iv n c.toNat) with
  | none=>(0,0)
  | some p=>if sL n p then (0,0) else (p,n)
structure U where
 p:Nat
 at_:Nat
 n:Nat
 deriving DecidableEq
def dJ (s:List UInt8):Nat×Nat:=if (cG s).2=0 then (65533,1) else cG s
theorem jw (s:List UInt8):(cG s).2<=s.length/\(cG s).2<=4/\((cG s).2=0->cG s=(0,0))/\(cG s).1<=1114111:=by
 unfold cG;cases s with
 | nil=>simp
 | cons c s =>
  dsimp only;split
  ·simp
  rename_i h;have hu:=yv c.toNat;have h1:usize c.toNat≠0:=λe=>h (.inl e);have h2:¬(c::s).length<usize c.toNat:=λe=>h (.inr e);split
  ·simp
  split
  ·simp
  rename_i hb;unfold sL at hb;simp only[not_or,Nat.not_lt]at hb;exact⟨by omega,hu,λe=>absurd e h1,hb.2.1⟩
theorem lY (s:List UInt8):1<=(dJ s).2/\(dJ s).2<=4:=by
 unfold dJ
 have:=jw s;split<;>first|(simp;done)|(simp;omega)|omega
theorem tg (s:List UInt8)(h:s≠[]):(dJ s).2<=s.length:=by
 unfold dJ
 have:=jw s;have:0<s.length:=List.length_pos_iff.2 h;split<;>first|(simp;done)|(simp;omega)|omega
def qz (at_:Nat)(s:List UInt8):List U :=
 if _h:s=[] then [] else ⟨(dJ s).1,at_,(dJ s).2⟩::qz (at_+(dJ s).2) (s.drop (dJ s).2)
 termination_by s.length
 decreasing_by
  have h1:=lY s
  have h2:0<s.length:=List.length_pos_iff.2 (by assumption)
  simp
  omega
theorem tc (a:Nat):qz a []=[]:=by rw[qz];simp
theorem ns (a:Nat)(s:List UInt8)(h:s≠[]):qz a s=⟨(dJ s).1,a,(dJ s).2⟩::qz (a+(dJ s).2) (s.drop (dJ s).2):=by rw[qz];simp[h]
theorem H3 (n:Nat):∀(s:List UInt8) (a:Nat),s.length=n->(qz a s).length<=s.length:=by
 induction n using Nat.strongRecOn with
 | _ n ih =>
  intro s a hs;by_cases h:s=[]
  ·subst h;simp[tc]
  rw[ns a s h];have h1:=lY s;have h2:=tg s h
  have:=ih (s.drop (dJ s).2).length (by rw[List.length_drop];omega) (s.drop (dJ s).2) (a+(dJ s).2) rfl;rw[List.length_drop]at this;simp only[List.length_cons];omega
def jz (p:Int):Prop:=0<=p/\p<=1114111/\¬(55296<=p/\p<57344)
instance (p:Int):Decidable (jz p):=by unfold jz;infer_instance
def vw (n:Nat):UInt8:=UInt8.ofNat n
theorem cI {n:Nat}(h:n<256):(vw n).toNat=n:=by simp[vw];omega
def eu (p:Nat):List UInt8 :=
 if p<128 then [vw p]
 else if p<2048 then [vw (192+p / 64),vw (128+p % 64)]
 else if p<65536 then [vw (224+p / 4096),vw (128+p / 64 % 64),vw (128+p % 64)]
 else [vw (240+p / 262144),vw (128+p / 4096 % 64),vw (128+p / 64 % 64),vw (128+p % 64)]
theorem Dl (p:Nat):1<=(eu p).length/\(eu p).length<=4:=by unfold eu;split<;>(try split)<;>(try split)<;>simp
theorem vO {c:UInt8}{s:List UInt8}(h0:usize c.toNat≠0)(hl:usize c.toNat<=(c::s).length)
  (h:sM (((c::s).take (usize c.toNat)).drop 1) (iv (usize c.toNat) c.toNat)=none):cG (c::s)=(0,0):=by
 unfold cG;dsimp only;rw[if_neg (by omega),h]
theorem vQ {c:UInt8}{s:List UInt8}{p:Nat}(h0:usize c.toNat≠0)(hl:usize c.toNat<=(c::s).length)
  (h:sM (((c::s).take (usize c.toNat)).drop 1) (iv (usize c.toNat) c.toNat)=some p) :
  cG (c::s)=if sL (usize c.toNat) p then (0,0) else (p,usize c.toNat):=by
 unfold cG;dsimp only;rw[if_neg (by omega),h]
theorem Vb {s:List UInt8}{n i p:Nat}{R:Option Nat}(hi:i<n)(hn:n<=s.length)(h:sM ((s.take n).drop i) p=R) :
  (if (s.getD i 0).toNat / 64=2 then sM ((s.take n).drop (i+1)) (p*64+(s.getD i 0).toNat % 64) else none)=R:=by
 have hl:i<(s.take n).length:=by rw[List.length_take];omega
 rw[List.drop_eq_getElem_cons hl,sM]at h;have e:(s.take n)[i]=s.getD i 0:=by
  rw[List.getElem_take,List.getD_eq_getElem?_getD,List.getElem?_eq_getElem (by omega)];rfl
 rw[e]at h;exact h
theorem ZG {s:List UInt8}{n i p:Nat}{R:Option Nat}(hi:n<=i)(h:sM ((s.take n).drop i) p=R):R=some p:=by
 rw[List.drop_eq_nil_of_le (by rw[List.length_take];omega)]at h;exact h.symm
theorem PM {p i k:Nat}(h:p<256*64 ^ (i-1))(h1:1<=i)(hk:k<64):p*64+k<256*64 ^ (i+1-1):=by
 obtain⟨j,rfl⟩:∃j,i=j+1:=⟨i-1,by omega⟩;simp only[Nat.add_sub_cancel]at h ⊢
 rw[Nat.pow_succ];omega
theorem PN {p i:Nat}(h:p<256*64 ^ (i-1))(hi:i<=4):p<67108865:=by
 have:64 ^ (i-1)<=64 ^ 3:=Nat.pow_le_pow_right (by omega) (by omega);omega
end Cae
end
section
namespace Go.Proofs.YtodeeahdhnjpkaaGreatDoor
open Go.Vc Go.Proofs Go.RowKit Cae
attribute [local irreducible] cw ag aq a8 runK bD Sl Vc.Own vc aW cN ai
def wU (w:World):Prop:=∀k:Nat,k<5->w.cell? ⟨1,k,none⟩=some (.int .i64 (od k))
theorem wU.below {w w':World}(h:wU w)(hb:Below w.heap.size w w'):wU w':=λk hk=>by
 have:=h k hk;exact(hb.cell (World.block_lt_of_cell? w _ this)).trans this
theorem aDe (c:Nat)(w:World):bD Tryz.prog 71 [.int .u8 c] w λv w'=>v=.int .i64 (usize c)/\w'=w:=by
 refine aE Tryz.func71 rfl (by kernel_rfl) [2] rfl ?_;push_cast -dsimp(maxSteps:=4000000) [Tryz.ntmps71];simp only[Value.int.injEq,usize];grind
theorem T8 {n c:Nat}(hn:n<=4)(h1:1<n)(hc:c<256) :
  eJ .and .i64 (IntKind.i64.wrap (c:Int)) (IntKind.i64.wrap (1*2 ^ min ((7:Int)-n).toNat IntKind.i64.bits)-1)=((iv n c:Nat):Int):=by
 have e:n=2\/n=3\/n=4:=by omega
 rw[fW (by omega)];rcases e with rfl|rfl|rfl
 ·rw[show IntKind.i64.wrap (1*2 ^ min ((7:Int)-(2:Nat)).toNat IntKind.i64.bits)-1=((2 ^ 5-1:Nat):Int) from by decide,jX (by omega) (by omega),lf];rfl
 ·rw[show IntKind.i64.wrap (1*2 ^ min ((7:Int)-(3:Nat)).toNat IntKind.i64.bits)-1=((2 ^ 4-1:Nat):Int) from by decide,jX (by omega) (by omega),lf];rfl
 rw[show IntKind.i64.wrap (1*2 ^ min ((7:Int)-(4:Nat)).toNat IntKind.i64.bits)-1=((2 ^ 3-1:Nat):Int) from by decide,jX (by omega) (by omega),lf];rfl
theorem H4 {n c:Nat}(hc:c<256):iv n c<256:=by
 unfold iv;split
 ·exact Nat.lt_of_le_of_lt (Nat.mod_le _ _) hc
 exact hc
theorem RP (c:UInt8):eJ .and .u8 (c.toNat:Int) 192=((c.toNat / 64*64:Nat):Int):=by
 have hc:=c.toNat_lt;rw[show (192:Int)=((192:Nat):Int) from rfl,uh hc (by omega)]
 congr 1;have:∀k:Nat,k<256->k &&& 192=k / 64*64:=by decide
 exact this _ hc
theorem Xy (c:UInt8):eJ .and .u8 (c.toNat:Int) 63=((c.toNat % 64:Nat):Int):=by
 have hc:=c.toNat_lt;rw[show (63:Int)=((2 ^ 6-1:Nat):Int) from rfl,uh hc (by omega),lf]
theorem YJ {p c:Nat}(hp:p<2147483648) :
  eJ .or .i64 (IntKind.i64.wrap ((p:Int)*2 ^ min (6:Int).toNat IntKind.i64.bits)) (IntKind.i64.wrap ((c % 64:Nat):Int))=((p*64+c % 64:Nat):Int):=by
 rw[De (k:=6) rfl (by omega) (by omega),fW (by omega),EW (by omega) (by omega),aCU (by omega)]
theorem xR {c:UInt8}{s':List UInt8}{i p:Nat}(h1:¬(usize c.toNat:Int)=0)(h2:¬(s'.length:Int)+1<usize c.toNat)
  (Zp:1<=i) (hp:p<256*64 ^ (i-1)) (hi2:i<=usize c.toNat)
  (hr:sM (((c::s').take (usize c.toNat)).drop i) p=sM (((c::s').take (usize c.toNat)).drop 1) (iv (usize c.toNat) c.toNat)) :
  (i<usize c.toNat ->
   (eJ .and .u8 (((c::s').getD i 0).toNat:Int) 192≠128->cG (c::s')=(0,0)) /\
   (¬eJ .and .u8 (((c::s').getD i 0).toNat:Int) 192≠128->∃q:Nat,
    eJ .or .i64 (IntKind.i64.wrap ((p:Int)*2 ^ min (6:Int).toNat IntKind.i64.bits)) (IntKind.i64.wrap (eJ .and .u8 (((c::s').getD i 0).toNat:Int) 63))=(q:Int) /\
    q<256*64 ^ (i+1-1)/\sM (((c::s').take (usize c.toNat)).drop (i+1)) q=sM (((c::s').take (usize c.toNat)).drop 1) (iv (usize c.toNat) c.toNat))) /\
  (¬i<usize c.toNat->cG (c::s')=if sL (usize c.toNat) p then (0,0) else (p,usize c.toNat)):=by
 have hu:=yv c.toNat;have hl:usize c.toNat<=(c::s').length:=by simp only[List.length_cons];omega
 have h0:usize c.toNat≠0:=by omega
 refine⟨λbZ=>?_,λgh=>vQ h0 hl (ZG (by omega) hr)⟩;have bN:=Vb bZ hl hr;rw[RP,Xy];generalize (c::s').getD i 0=x at bN ⊢
 refine⟨λhx=>?_,λhx=>?_⟩
 ·rw[if_neg (by omega)]at bN;exact vO h0 hl bN.symm
 rw[if_pos (by omega)]at bN;exact⟨_,YJ (by have:=PN hp (by omega);omega),PM hp Zp (Nat.mod_lt _ (by omega)),bN⟩
theorem XD (s:List UInt8)(hs:s.length<1000000)(h0:s≠[])(w:World)(hg:wU w) :
  bD Tryz.prog 39 [str s] w λv w'=>v=.tuple #[.int .i64 (cG s).1,.int .i64 (cG s).2]/\Below w.heap.size w w':=by
 obtain⟨c,s',rfl⟩:=List.exists_cons_of_ne_nil h0;have hl:0<((c::s').length:Int):=by simp
 refine aE Tryz.func39 rfl (by kernel_rfl) [2,3] rfl ?_;push_cast -dsimp(maxSteps:=4000000) [Tryz.ntmps39];refine⟨hl,?_⟩;refine aA (aDe _ w) ?_;rintro v w' ⟨rfl,rfl⟩;have hu:=yv c.toNat;have hc:=c.toNat_lt;simp only[List.getD_cons_zero];push_cast -dsimp
 repeat' first|apply And.intro|intro _
 all_goals try exact hl
 all_goals try simp only[List.getD_cons_zero]
 all_goals try exact Below.refl _ _
 ·rename_i h1 h2;have e:cG (c::s')=(0,0):=by unfold cG;simp;intro h3;omega
  rw[e];rfl
 ·rename_i h1 h2 h3;refine aX (λ_=>True) mixed (by kernel_rfl) trivial ?_;push_cast -dsimp;refine⟨by omega,by omega,by omega,?_,?_⟩
  ·have e:usize c.toNat=2\/usize c.toNat=3\/usize c.toNat=4:=by omega
   rcases e with e|e|e<;>rw[e]<;>decide
  simp only[List.getD_cons_zero];rw[T8 hu (by omega) hc];refine aM [2,3,4,29,30,31,32,33,34,35,36,37,38,39,40,41,42,43,44,45,46] (λz wx=>∃i p:Nat,z 4=.int .i64 i/\z 2=.int .i64 p/\z 3=.int .i64 (usize c.toNat)/\1<=i/\i<=usize c.toNat/\p<256*64 ^ (i-1) /\
   sM (((c::s').take (usize c.toNat)).drop i) p=sM (((c::s').take (usize c.toNat)).drop 1) (iv (usize c.toNat) c.toNat)/\Below w'.heap.size w' wx) (λz _=>usize c.toNat-(intOf (z 4)).toNat) ?_ ?_
  ·exact⟨1,_,rfl,rfl,rfl,Nat.le_refl _,by omega,by simpa using H4 hc,rfl,(Below.refl _ _).drew⟩
  intro z wx hI;obtain⟨i,p,h4,h2',h3',Zp,hi2,hp,hr,hb⟩:=hI;have hgn:=(hg.below hb) (usize c.toNat) (by omega);push_cast -dsimp[h4,h2',h3',hgn];obtain⟨hA,hB⟩:=xR h1 h2 Zp hp hi2 hr;refine⟨λbZ=>?_,λgh=>?_⟩
  ·obtain⟨hA1,hA2⟩:=hA (by omega);refine⟨⟨by omega,by omega⟩,λhx=>⟨by rw[hA1 hx];rfl,hb⟩,λhx=>?_⟩;obtain⟨q,hq1,hq2,hq3⟩:=hA2 hx;exact⟨⟨by omega,by omega⟩,⟨by omega,by omega⟩,⟨i+1,q,rfl,congrArg _ hq1,by omega,by omega,hq2,hq3,hb⟩,by simp only[intOf];omega⟩
  have hB:=hB (by omega);rw[hB];simp only[sL];refine⟨⟨by omega,by omega⟩,?_⟩
  repeat' first|apply And.intro|intro _
  all_goals first|exact hb|omega|skip
  all_goals grind
 ·rename_i h1 h2 h3;refine aM [2,3,4,29,30,31,32,33,34,35,36,37,38,39,40,41,42,43,44,45,46] (λz wx=>∃i p:Nat,z 4=.int .i64 i/\z 2=.int .i64 p/\z 3=.int .i64 (usize c.toNat)/\1<=i/\i<=usize c.toNat/\p<256*64 ^ (i-1) /\
   sM (((c::s').take (usize c.toNat)).drop i) p=sM (((c::s').take (usize c.toNat)).drop 1) (iv (usize c.toNat) c.toNat)/\Below w'.heap.size w' wx) (λz _=>usize c.toNat-(intOf (z 4)).toNat) ?_ ?_
  ·refine⟨1,_,rfl,?_,rfl,Nat.le_refl _,by omega,by simpa using H4 hc,rfl,Below.refl _ _⟩;have e:iv (usize c.toNat) c.toNat=c.toNat:=by unfold iv;rw[if_neg (by omega)]
   rw[e];exact congrArg _ (fW (by omega))
  intro z wx hI;obtain⟨i,p,h4,h2',h3',Zp,hi2,hp,hr,hb⟩:=hI;have hgn:=(hg.below hb) (usize c.toNat) (by omega);push_cast -dsimp[h4,h2',h3',hgn];obtain⟨hA,hB⟩:=xR h1 h2 Zp hp hi2 hr;refine⟨λbZ=>?_,λgh=>?_⟩
  ·obtain⟨hA1,hA2⟩:=hA (by omega);refine⟨⟨by omega,by omega⟩,λhx=>⟨by rw[hA1 hx];rfl,hb⟩,λhx=>?_⟩;obtain⟨q,hq1,hq2,hq3⟩:=hA2 hx;exact⟨⟨by omega,by omega⟩,⟨by omega,by omega⟩,⟨i+1,q,rfl,congrArg _ hq1,by omega,by omega,hq2,hq3,hb⟩,by simp only[intOf];omega⟩
  have hB:=hB (by omega);rw[hB];simp only[sL];refine⟨⟨by omega,by omega⟩,?_⟩
  repeat' first|apply And.intro|intro _
  all_goals first|exact hb|omega|skip
  all_goals grind
 rename_i h1;have e:cG (c::s')=(0,0):=by unfold cG;simp;intro h3;omega
 rw[e];rfl
def lL (u:U):List Value:=[.int .i64 u.p,.int .i64 u.at_,.int .i64 u.n]
theorem RZ (s:List UInt8)(hs:s.length<1000000)(w:World)(hg:wU w) :
  bD Tryz.prog 13 [str s] w λv w'=>Vc.Own w.heap.size 108 3 lL w' v (qz 0 s)/\Below w.heap.size w w':=by
 refine aE Tryz.func13 rfl (by kernel_rfl) [2] rfl ?_;push_cast -dsimp(maxSteps:=4000000) [Tryz.ntmps13];refine aM [3,4,5,6,7,8,9,10,11,12,13,14,15,16,17,18,19,20,21,22,23,24,25,26,27,28,29] (λz wx=>∃(i:Nat) (acc:List U),z 4=.int .i64 i/\i<=s.length/\acc.length<=i/\acc++qz i (s.drop i)=qz 0 s /\
  Vc.Own w.heap.size 108 3 lL wx (z 3) acc/\Below w.heap.size w wx) (λz _=>s.length-(intOf (z 4)).toNat) ?_ ?_
 ·exact⟨0,[],rfl,Nat.zero_le _,Nat.le_refl _,rfl,Vc.Own.nil (enc:=lL) _ _ (λ_=>rfl) _,Below.refl _ _⟩
 intro z wx hI;obtain⟨i,acc,h4,hi,ha,hd,ho,hb⟩:=hI;push_cast -dsimp[h4];refine⟨λbZ=>⟨⟨by omega,by omega⟩,?_⟩,λgh=>?_⟩
 ·have dA:s.drop i≠[]:=by intro h;have:=congrArg List.length h;simp only[List.length_drop,List.length_nil]at this;omega
  refine aA (XD (s.drop i) (by rw[List.length_drop];omega) dA wx (hg.below hb)) ?_;rintro v w1 ⟨rfl,de⟩;push_cast -dsimp;have cO:=tg (s.drop i) dA;have qv:=lY (s.drop i);have hu:=jw (s.drop i);have uo:=ns i (s.drop i) dA;refine⟨λh0=>?_,λh0=>?_⟩
  ·have e:dJ (s.drop i)=(65533,1):=by unfold dJ;rw[if_pos (by omega)]
   refine cY pQ rfl rfl (by omega) ?_;intro w2 bT;push_cast -dsimp;refine vt (ys:=[⟨65533,i,1⟩]) (enc:=lL) pQ ((ho.below de).below bT.below) (λj u hu=>by simpa using bT.cell hu) (by simp[lL,Value.oneCell']) (by simp only[List.length_cons,List.length_nil];omega) (by have:=hb.size;have:=de.size;have:=bT.size;omega) ?_;intro v' w3 uM _ ft;push_cast -dsimp;refine⟨⟨by omega,by omega⟩,⟨i+1,_,rfl,by rw[List.length_drop]at cO;rw[e]at cO;(try dsimp only at cO);omega,?_,?_,uM,
    (hb.trans (de.mono hb.size)).trans ((bT.below.mono (Nat.le_trans hb.size de.size)).trans ft)⟩,?_⟩
   ·rw[e]at qv;simp only[List.length_append,List.length_cons,List.length_nil];(try dsimp only at qv);omega
   ·rw[<-hd,uo,e,List.drop_drop,List.append_assoc];rfl
   rw[e]at qv;rw[h4];simp only[intOf];(try dsimp only at qv);omega
  have e:dJ (s.drop i)=cG (s.drop i):=by unfold dJ;rw[if_neg (by omega)]
  refine cY pQ rfl rfl (by omega) ?_;intro w2 bT;push_cast -dsimp;refine vt (ys:=[⟨(cG (s.drop i)).1,i,(cG (s.drop i)).2⟩]) (enc:=lL) pQ ((ho.below de).below bT.below) (λj u hu=>by simpa using bT.cell hu) (by simp[lL,Value.oneCell']) (by simp only[List.length_cons,List.length_nil];omega) (by have:=hb.size;have:=de.size;have:=bT.size;omega) ?_;intro v' w3 uM _ ft;push_cast -dsimp;refine⟨⟨by omega,by omega⟩,⟨i+(cG (s.drop i)).2,_,rfl,by rw[List.length_drop]at cO;rw[e]at cO;(try dsimp only at cO);omega,?_,?_,uM,
   (hb.trans (de.mono hb.size)).trans ((bT.below.mono (Nat.le_trans hb.size de.size)).trans ft)⟩,?_⟩
  ·rw[e]at qv;simp only[List.length_append,List.length_cons,List.length_nil];(try dsimp only at qv);omega
  ·rw[<-hd,uo,e,List.drop_drop,List.append_assoc];rfl
  rw[e]at qv;rw[h4];simp only[intOf];(try dsimp only at qv);omega
 have e:s.drop i=[]:=List.drop_eq_nil_of_le (by omega);rw[e,tc,List.append_nil]at hd;rw[<-hd];exact⟨ho,hb⟩
def an (us:List U):List Int:=us.map λu=>(u.p:Int)
theorem eP (us:List U):(an us).length=us.length:=by simp[an]
theorem Gv {us:List U}{i:Nat}{u:U}(h:us[i]?=some u):(an us)[i]?=some (u.p:Int):=by unfold an;rw[List.getElem?_map,h];rfl
def aZ (nm:bP)(k:ax)(p:Int):Prop:=∃s,ay nm k=.ok s/\bm s p=true
structure Mr (X:Nat->Prop)(w:World)(rb mb:Nat)(us:List U)(nm:bP)(back:Bool):Prop where
 st:∃lv,aO w rb 119 [lv,.map (some mb),.bool back]/\Sl X 3 (En lL) w lv us
 nv:gH X w mb nm
 rt:fZ nm
 len:us.length<=1000
theorem Mr.below {X:Nat->Prop}{w w':World}{rb mb:Nat}{us:List U}{nm:bP}{back:Bool}(h:Mr X w rb mb us nm back)(hb:Below w.heap.size w w'):Mr X w' rb mb us nm back:=by
 obtain⟨lv,h1,h2⟩:=h.st;exact⟨⟨lv,h1.below hb h1.lt,h2.below hb⟩,h.nv.below hb,h.rt,h.len⟩
theorem ma (w:World):Below w.heap.size w w.drew:=((Kept.refl (λ_=>False) w).drew).below (Nat.le_refl _) (λ_ h=>h.elim)
def aEL (pts:List Int)(back:Bool)(i:Nat)(r:Value):Prop:=(∃(j:Nat) (p:Int),cz pts back i=some (j,p)/\r=.tuple #[.int .i64 j,.int .i64 p])\/(cz pts back i=none/\r=.tuple #[.int .i64 (-1),.int .i64 0])
theorem KM {X:Nat->Prop}{w:World}{rb mb:Nat}{us:List U}{nm:bP}{back:Bool}(h:Mr X w rb mb us nm back)(i:Nat)(hi:i<=us.length) :
  bD Tryz.prog 76 [.pointer (some ⟨rb,0,none⟩),.int .i64 i] w λr w'=>aEL (an us) back i r/\Below w.heap.size w w':=by
 have hlen:=h.len;obtain⟨lv,hB,hs⟩:=h.st;obtain⟨la,lc,rfl,Ar⟩:=hs.shape;have d0:w.cell? ⟨rb,0,none⟩=some (.slice la us.length lc):=hB.cell rfl;have d2:w.cell? ⟨rb,2,none⟩=some (.bool back):=hB.cell rfl;have d0d:w.drew.cell? ⟨rb,0,none⟩=some (.slice la us.length lc):=d0;cases back with
 | true =>
  (refine aE Tryz.func76 rfl (by kernel_rfl) [4,5] rfl ?_;push_cast -dsimp(maxSteps:=4000000) [Tryz.ntmps76]);push_cast -dsimp[d2];refine⟨λh0=>⟨.inr ⟨?_,rfl⟩,Below.refl _ _⟩,λh0=>?_⟩
  ·have:i=0:=by omega
   subst this;simp[cz]
  obtain⟨u,hu⟩:∃u,us[i-1]?=some u:=⟨us[i-1]'(by omega),List.getElem?_eq_getElem (by omega)⟩;obtain⟨b,o,rfl,hX,aP⟩:=hs.get hu;have c0:w.cell? ⟨b,o+(i-1)*3,none⟩=some (.int .i64 u.p):=by simpa using aP 0 _ rfl
  have c0d:w.drew.cell? ⟨b,o+(i-1)*3,none⟩=some (.int .i64 u.p):=c0;have tn:((i:Int)-1).toNat=i-1:=by omega
  refine aX (λw'=>∀a,w'.cell? a=w.cell? a) mixed (by kernel_rfl) (λ_=>rfl) ?_;push_cast -dsimp[d0d,tn,c0d];have ei:((i:Int)-1)=((i-1:Nat):Int):=by omega
  refine⟨⟨by omega,by omega⟩,λar h=>by rw[h,d0];exact rfl,⟨by omega,by omega⟩,⟨by omega,by omega⟩,λar h=>by rw[h,c0];exact rfl,.inl ⟨i-1,u.p,?_,by rw[ei]⟩,ma w⟩;unfold cz;rw[if_pos rfl,if_neg (by omega),Gv hu];rfl
 | false =>
  (refine aE Tryz.func76 rfl (by kernel_rfl) [4,5] rfl ?_;push_cast -dsimp(maxSteps:=4000000) [Tryz.ntmps76]);push_cast -dsimp[d2,d0];refine⟨λh0=>⟨.inr ⟨?_,rfl⟩,Below.refl _ _⟩,λh0=>?_⟩
  ·unfold cz;rw[if_neg (by simp),List.getElem?_eq_none (by rw[eP];omega)];rfl
  obtain⟨u,hu⟩:∃u,us[i]?=some u:=⟨us[i]'(by omega),List.getElem?_eq_getElem (by omega)⟩;obtain⟨b,o,rfl,hX,aP⟩:=hs.get hu;have c0:w.cell? ⟨b,o+i*3,none⟩=some (.int .i64 u.p):=by simpa using aP 0 _ rfl
  have c0d:w.drew.cell? ⟨b,o+i*3,none⟩=some (.int .i64 u.p):=c0;refine aX (λw'=>∀a,w'.cell? a=w.cell? a) mixed (by kernel_rfl) (λ_=>rfl) ?_;push_cast -dsimp[d0d,c0d];have ei:((i:Int)+1)=((i+1:Nat):Int):=by omega
  refine⟨⟨by omega,by omega⟩,λar h=>by rw[h,d0];exact rfl,⟨by omega,by omega⟩,λar h=>by rw[h,c0];exact rfl,.inl ⟨i+1,u.p,?_,by rw[ei]⟩,ma w⟩;unfold cz;rw[if_neg (by simp),Gv hu];rfl
theorem aBw {X:Nat->Prop}{w:World}{rb mb:Nat}{us:List U}{nm:bP}{back:Bool}(h:Mr X w rb mb us nm back)(k:ax)(hk:fY k)(v:Value)(hv:eC X w v k)(p:Int) :
  bD Tryz.prog 77 [.pointer (some ⟨rb,0,none⟩),v,.int .i64 p] w λr w'=>(∃b:Bool,r=.bool b/\(b=true↔aZ nm k p))/\Below w.heap.size w w':=by
 obtain⟨lv,hB,hs⟩:=h.st;have d1:w.cell? ⟨rb,1,none⟩=some (.map (some mb)):=hB.cell rfl;refine aE Tryz.func77 rfl (by kernel_rfl) [6] rfl ?_;push_cast -dsimp(maxSteps:=4000000) [Tryz.ntmps77];push_cast -dsimp[d1];refine aA (CD k hk nm h.rt X v mb w hv h.nv) ?_;rintro r w1 ⟨hR,de⟩;have z1:=de.size;unfold dU at hR;cases wG:ay nm k with
 | ok s =>
  rw[wG]at hR;obtain⟨v1,rfl,eY,zH⟩:=hR;have fO:=cA h.rt hk wG;have hls:=dt fO;obtain⟨_,_,rfl,_⟩:=eY.shape;push_cast -dsimp;refine aA (aFR s (by omega) fO p _ _ w1 eY) ?_;rintro _ w2 ⟨rfl,eW⟩;push_cast -dsimp;exact⟨⟨_,rfl,λhh=>⟨s,wG,hh⟩,λ⟨t,ht,hh⟩=>by rw[wG]at ht;cases ht;exact hh⟩,de.trans (eW.mono z1)⟩
 | error e =>
  rw[wG]at hR;obtain⟨eb,zI,rfl,hE⟩:=hR;push_cast -dsimp;refine⟨⟨false,rfl,?_⟩,de⟩;constructor
  ·intro hh;cases hh
  rintro⟨t,ht,hh⟩;rw[wG]at ht;cases ht
end Go.Proofs.YtodeeahdhnjpkaaGreatDoor
end
section
namespace Go.Vc
theorem Own.at0 {α:Type}{base k:Nat}{e:TypeId}{enc:α->List Value}{w:World}{b o n c:Nat}{l:List α}(h:Vc.Own base e k enc w (.slice (some ⟨b,o,none⟩) n c) l):o=0:=by
 rcases h.1.2 with ⟨he,_⟩|⟨g,cap,cr,he,_⟩
 ·cases he
 cases he;rfl
end Go.Vc
end
section
namespace Cae
section
variable {has:ax->Int->Prop} {ps:List Int} {t:Bool}
theorem Di {i j:Nat}{p:Int}:cz ps false i=some (j,p)↔j=i+1/\ps[i]?=some p:=by
 unfold cz;rw[if_neg (by simp)];cases ps[i]? with
 | none=>simp
 | some q =>
  simp only[Option.map_some,Option.some.injEq,Prod.mk.injEq];exact⟨λh=>⟨h.1.symm,h.2⟩,λh=>⟨h.1.symm,h.2⟩⟩
theorem td {x:aI}{Q:Int->Prop}{bl:List Bool}(hx:∀i j,dK has ps false (tP t x) i j↔∃p,cz ps false i=some (j,p)/\Q p)(iL:bl.length=ps.length+1){j:Nat} :
  gd (ny has ps t x bl) j↔∃i p,j=i+1/\gd bl i/\ps[i]?=some p/\Q p:=by
 rw[lA iL];constructor
 ·rintro⟨i,h1,h2⟩;obtain⟨p,h3,h4⟩:=(hx i j).1 h2;obtain⟨h5,h6⟩:=Di.1 h3;exact⟨i,p,h5,h1,h6,h4⟩
 rintro⟨i,p,h5,h1,h6,h4⟩;exact⟨i,h1,(hx i j).2 ⟨p,Di.2 ⟨h5,h6⟩,h4⟩⟩
theorem qg {x:aI}{Q:Int->Prop}{bl cur:List Bool}(hx:∀i j,dK has ps false (tP t x) i j↔∃p,cz ps false i=some (j,p)/\Q p)(iL:bl.length=ps.length+1){i:Nat}{p:Int}{f v:Bool}
  (hc:∀j,gd cur j↔j<=i/\gd (ny has ps t x bl) j) (hp:ps[i]?=some p) (hf:bl[i]?=some f) (hv:v=true↔f=true/\Q p) (hl:i+1<cur.length) (j:Nat) :
  gd (cur.set (i+1) v) j↔j<=i+1/\gd (ny has ps t x bl) j:=by
 rw[s8 hl,hc];constructor
 ·rintro(⟨rfl,h⟩|⟨h1,h2,h3⟩)
  ·refine⟨Nat.le_refl _,(td hx iL).2 ⟨i,p,rfl,?_,hp,(hv.1 h).2⟩⟩;unfold gd;rw[hf,(hv.1 h).1]
  exact⟨by omega,h3⟩
 rintro⟨h1,h2⟩;by_cases hj:j=i+1
 ·obtain⟨i',p',h3,h4,h5,h6⟩:=(td hx iL).1 h2;obtain rfl:i'=i:=by omega
  rw[hp]at h5;cases h5;unfold gd at h4;rw[hf]at h4;exact .inl ⟨hj,hv.2 ⟨Option.some.inj h4,h6⟩⟩
 exact .inr ⟨hj,by omega,h2⟩
theorem H7 {x:aI}{bl cur:List Bool}(hl:cur.length=ps.length+1)(hc:∀j,gd cur j↔j<=ps.length/\gd (ny has ps t x bl) j):cur=ny has ps t x bl :=
 mc (by rw[hl,j7]) λj=>by
  rw[hc];exact⟨λh=>h.2,λh=>⟨by have:=rZ h;rw[j7]at this;omega,h⟩⟩
theorem VJ {k:ax}{i j:Nat}:dK has ps false (tP t (.one k)) i j↔∃p,cz ps false i=some (j,p)/\has k p:=by
 have e:tP t (.one k)=.one k:=by cases t<;>rfl
 rw[e];simp only[dK]
theorem aDk {Q:Int->Prop}(hQ:∀p∈ps,Q p){i j:Nat}:dK has ps false (tP t .any) i j↔∃p,cz ps false i=some (j,p)/\Q p:=by
 have e:tP t .any=.any:=by cases t<;>rfl
 rw[e];simp only[dK];exact⟨λ⟨p,h⟩=>⟨p,h,hQ p (List.mem_of_getElem? (Di.1 h).2)⟩,λ⟨p,h,_⟩=>⟨p,h⟩⟩
theorem UC {k:ax}{bl:List Bool}(h:∀p,¬has k p)(iL:bl.length=ps.length+1):ny has ps t (.one k) bl=List.replicate bl.length false:=by
 refine mc (by rw[j7,List.length_replicate,iL]) λj=>?_;rw[td (λi j=>VJ) iL];exact⟨λ⟨_,p,_,_,_,hp⟩=>absurd hp (h p),λh=>absurd h nM⟩
theorem Ri {bl:List Bool}{f:Bool}(iL:bl.length=ps.length+1)(hf:bl[ps.length]?=some f):(List.replicate bl.length false).set ps.length f=ny has ps t .iA bl:=by
 have e:tP t .iA=.iA:=by cases t<;>rfl
 refine mc (by rw[List.length_set,List.length_replicate,j7,iL]) λj=>?_;rw[s8 (by rw[List.length_replicate];omega),lA iL,e];simp only[dK];constructor
 ·rintro(⟨rfl,h⟩|⟨_,h⟩)
  ·refine⟨ps.length,?_,rfl,?_⟩
   ·unfold gd;rw[hf,h]
   unfold cz;rw[if_neg (by simp),List.getElem?_eq_none (Nat.le_refl _)];rfl
  exact absurd h nM
 rintro⟨i,h1,rfl,h2⟩;unfold cz at h2;rw[if_neg (by simp),Option.map_eq_none_iff,List.getElem?_eq_none_iff]at h2
 have:=rZ h1;obtain rfl:i=ps.length:=by omega
 unfold gd at h1;rw[hf]at h1;exact .inl ⟨rfl,Option.some.inj h1⟩
end
end Cae
namespace Go.Proofs.YtodeeahdhnjpkaaGreatDoor
open Go.Vc Go.Proofs Go.RowKit Cae
attribute [local irreducible] cw ag aq a8 runK bD Sl Vc.Own vc aW cN ai
def PX (x:aI):Prop:=bQ x->wd x<=100000->∀(nm:bP),fZ nm->∀(X Xp Xf:Nat->Prop) (v pv fv:Value) (mb:Nat) (ps:List Int) (bl:List Bool) (t:Bool) (w:World),Gr w->aV X w v x->gH X w mb nm->Sl Xp 1 (En eV) w pv ps->Sl Xf 1 (En cH) w fv bl ->
 bl.length=ps.length+1->ps.length<=1000->(∀p∈ps,0<=p/\p<=1114111) ->
 bD Tryz.prog 44 [v,.map (some mb),pv,fv,.bool t] w λr w'=>Vc.Own w.heap.size 4 1 cH w' r (ny (aZ nm) ps t x bl)/\Below w.heap.size w w'
theorem yU {base:Nat}{w:World}{v:Value}{l:List Bool}(h:Vc.Own base 4 1 cH w v l)(hl:0<l.length):∃g c,v=.slice (some ⟨g,0,none⟩) l.length c:=by
 obtain⟨a,c,rfl⟩:=h.slice;obtain⟨x,hx,_⟩:=bK (l:=l) (i:=0) hl;obtain⟨b,o,e,_⟩:=h.sl.get hx;have ho:o=0:=Vc.Own.at0 (by rw[<-e];exact h);exact⟨b,c,by rw[e,ho]⟩
theorem sC (n:Nat):List.replicate n (Value.bool false)=(List.replicate n false).flatMap cH:=by
 induction n with
 | zero=>rfl
 | succ n ih=>rw[List.replicate_succ,List.replicate_succ,List.flatMap_cons,<-ih];rfl
theorem Xm:PX .iA:=by
 intro cD jS nm hr X Xp Xf v pv fv mb ps bl t w hg hV hN hP hF iL hlen oM;simp only[aV]at hV;obtain⟨b,rfl,hb,hB⟩:=hV;obtain⟨pa,pc,rfl,nC⟩:=hP.shape;obtain⟨fa,fc,rfl,Pq⟩:=hF.shape;obtain⟨N1,AA,Al⟩:∃N1:Nat,(ps.length:Int)+1=(N1:Int)/\N1=bl.length:=⟨bl.length,by omega,rfl⟩
 (refine cM Tryz.func44 rfl (by kernel_rfl) [.tmp 10] rfl ?_;push_cast -dsimp(maxSteps:=4000000) [Tryz.ntmps44]);refine aD ?_;push_cast -dsimp;refine aD ?_;push_cast -dsimp[AA];refine⟨⟨by omega,by omega⟩,?_⟩;refine yG (z:=.bool false) iJ (by kernel_rfl) rfl (by omega) (by omega) ?_;intro w1 au;have z1:=au.size;have c1:=au.below;have O1:Vc.Own w.heap.size 4 1 cH w1 (.slice (some ⟨w.heap.size,0,none⟩) N1 N1) (List.replicate N1 false):=au.own (sC N1) (by simp) (λ_=>rfl) (Nat.le_refl _) (by omega);have iK:=hB.below c1 hB.lt;have d0:w1.cell? ⟨b,0,none⟩=some (.int .i64 3):=iK.cell rfl;obtain⟨f,hf,_⟩:=bK (l:=bl) (i:=ps.length) (by omega);obtain⟨gf,of,rfl,_,aP⟩:=(hF.below c1).get hf;have cf:w1.cell? ⟨gf,of+ps.length,none⟩=some (.bool f):=by simpa[cH] using aP 0 _ rfl
 push_cast -dsimp;refine aD ?_;push_cast -dsimp[d0,cf,Nat.mul_one];refine⟨⟨by omega,by omega⟩,⟨by omega,by omega⟩,?_⟩;refine gW (i:=ps.length) (y:=f) O1 rfl (by rw[List.length_replicate];omega) rfl rfl ?_;intro w2 O2 k2 z2;have c2:=c1.trans (k2.below (B:=w.heap.size) c1.size (λi h=>by omega));push_cast -dsimp;refine cC ?_;push_cast -dsimp;rw[Al,Ri (has:=aZ nm) (t:=t) iL hf]at O2;rw[Al];exact⟨O2,c2⟩
theorem gH.aLR {X:Nat->Prop}{w:World}{b:Nat}{nm:bP}(h:gH X w b nm):gH (λb=>X b\/w.heap.size<=b) w b nm:=by
 obtain⟨gD,h2,h3⟩:=h;exact⟨gD,h2,h3.imp λa b h=>⟨h.1,Sl.top (by decide) h.2.1,h.2.2⟩⟩
theorem aCw:PX .any:=by
 intro cD jS nm hr X Xp Xf v pv fv mb ps bl t w hg hV hN hP hF iL hlen oM;simp only[aV]at hV;obtain⟨b,rfl,hb,hB⟩:=hV;obtain⟨pa,pc,rfl,nC⟩:=hP.shape;obtain⟨fa,fc,rfl,Pq⟩:=hF.shape;obtain⟨N1,AA,Al⟩:∃N1:Nat,(ps.length:Int)+1=(N1:Int)/\N1=bl.length:=⟨bl.length,by omega,rfl⟩
 (refine cM Tryz.func44 rfl (by kernel_rfl) [.tmp 10] rfl ?_;push_cast -dsimp(maxSteps:=4000000) [Tryz.ntmps44]);refine aD ?_;push_cast -dsimp;refine aD ?_;push_cast -dsimp[AA];refine⟨⟨by omega,by omega⟩,?_⟩;refine yG (z:=.bool false) iJ (by kernel_rfl) rfl (by omega) (by omega) ?_;intro w1 au;have z1:=au.size;have c1:=au.below;have O1:Vc.Own w.heap.size 4 1 cH w1 (.slice (some ⟨w.heap.size,0,none⟩) N1 N1) (List.replicate N1 false):=au.own (sC N1) (by simp) (λ_=>rfl) (Nat.le_refl _) (by omega);have iK:=hB.below c1 hB.lt;have d0:w1.cell? ⟨b,0,none⟩=some (.int .i64 2):=iK.cell rfl;push_cast -dsimp;refine aD ?_;push_cast -dsimp[d0];refine cY fQ rfl rfl (by omega) ?_;intro w2 bT;have z2:=bT.size;have O2:=bT.own (base:=w1.heap.size) (k:=2) (n:=1) (enc:=encR) (l:=[(0,1114111)]) rfl rfl (λ_=>rfl) (Nat.le_refl _) (by omega);have c2:=c1.trans (bT.below.mono (by omega));have jK:=iK.below bT.below iK.lt;have d2:w2.cell? ⟨b,0,none⟩=some (.int .i64 2):=jK.cell rfl;have OO:=O1.new bT;push_cast -dsimp[d2];have hT:∀i j,dK (aZ nm) ps false (tP t .any) i j↔∃p,cz ps false i=some (j,p)/\bm [(0,1114111)] p=true:=λi j=>aDk (λp hp=>by have:=oM p hp;simp[bm];omega)
 refine aM [14,15,55,56,57,58,59,60,61,62,63,64,65,66,67,68,69,70,71,72,73] (λz wx=>∃(i:Nat) (cur:List Bool),z 55=.int .i64 i/\i<=ps.length/\cur.length=bl.length/\(∀j,gd cur j↔j<=i/\gd (ny (aZ nm) ps t .any bl) j)/\Vc.Own w.heap.size 4 1 cH wx (.slice (some ⟨w.heap.size,0,none⟩) N1 N1) cur/\Kept (λj=>j=w.heap.size) w2 wx/\Below w.heap.size w wx) (λz _=>ps.length-(intOf (z 55)).toNat) ?_ ?_
 ·refine⟨0,List.replicate N1 false,rfl,Nat.zero_le _,by rw[List.length_replicate,Al],λj=>⟨λh=>absurd h nM,λh=>?_⟩,OO,Kept.refl _ _,c2⟩;obtain⟨i,p,h3,_⟩:=(td hT iL).1 h.2;omega
 rintro z wx ⟨i,cur,h55,hi,lC,hc,hO,hk,hb⟩;push_cast -dsimp[h55];refine⟨λbZ=>?_,λgh=>?_⟩
 ·obtain⟨p,hp,hpm,_,_⟩:=bK (l:=ps) (i:=i) (by omega);obtain⟨f,hf,_⟩:=bK (l:=bl) (i:=i) (by omega);obtain⟨gp,op,rfl,_,hcp⟩:=(hP.below hb).get hp;obtain⟨gf,of,rfl,_,hcf⟩:=(hF.below hb).get hf;have c0:wx.cell? ⟨gp,op+i,none⟩=some (.int .i64 p):=by simpa[eV] using hcp 0 _ rfl
  have c1:wx.cell? ⟨gf,of+i,none⟩=some (.bool f):=by simpa[cH] using hcf 0 _ rfl
  have zk:=hk.size;have tn:((i:Int)+1).toNat=i+1:=by omega
  cases f with
  | true =>
   push_cast -dsimp[c0,c1,Nat.mul_one];refine⟨⟨by omega,by omega⟩,⟨by omega,by omega⟩,⟨by omega,by omega⟩,?_⟩;refine aA (oF [((0:Int),(1114111:Int))] p (by decide) _ _ wx ((O2.sl).kept hk (λi h=>by rw[h];exact(show w.heap.size<w1.heap.size by omega)))) ?_
   rintro _ wy ⟨rfl,cp⟩;have zy:=cp.size;have oq:=hO.below cp;have ky:Kept (λj=>j=w.heap.size) wx wy:=Kept.aJ cp (λk hk hl=>by omega);push_cast -dsimp[tn];refine⟨⟨by omega,by omega⟩,?_⟩;refine gW (i:=i+1) (y:=bm [((0:Int),(1114111:Int))] p) oq rfl (by omega) rfl rfl ?_;intro wz Cx rJ Au;push_cast -dsimp;exact⟨⟨by omega,by omega⟩,⟨i+1,cur.set (i+1) (bm [((0:Int),(1114111:Int))] p),rfl,by omega,by rw[List.length_set];exact lC,qg hT iL hc hp hf (by simp) (by omega),Cx,(hk.trans ky (λ_ _ h=>h)).trans rJ (λ_ _ h=>h),hb.trans ((cp.mono hb.size).trans (rJ.below (B:=w.heap.size) (by have:=hb.size;omega) (λi h=>by omega)))⟩,by rw[h55];simp only[intOf];omega⟩
  | false =>
   push_cast -dsimp[c0,c1,Nat.mul_one,tn];refine⟨⟨by omega,by omega⟩,⟨by omega,by omega⟩,⟨by omega,by omega⟩,⟨by omega,by omega⟩,?_⟩;refine gW (i:=i+1) (y:=false) hO rfl (by omega) rfl rfl ?_;intro wz Cx rJ Au;push_cast -dsimp;exact⟨⟨by omega,by omega⟩,⟨i+1,cur.set (i+1) false,rfl,by omega,by rw[List.length_set];exact lC,qg hT iL hc hp hf (by simp) (by omega),Cx,hk.trans rJ (λ_ _ h=>h),hb.trans (rJ.below (B:=w.heap.size) hb.size (λi h=>by omega))⟩,by rw[h55];simp only[intOf];omega⟩
 have e:=H7 (has:=aZ nm) (ps:=ps) (t:=t) (x:=.any) (bl:=bl) (cur:=cur) (by omega) (λj=>by rw[hc,show i=ps.length by omega])
 refine cC ?_;push_cast -dsimp;rw[e]at hO;exact⟨hO,hb⟩
theorem aCz (k:ax):PX (.one k):=by
 intro cD jS nm hr X Xp Xf v pv fv mb ps bl t w hg hV hN hP hF iL hlen oM;simp only[aV]at hV;obtain⟨b,u,rfl,hb,hB,h1⟩:=hV;obtain⟨b1,rfl,de⟩:=h1.ptr;simp only[bQ]at cD;obtain⟨pa,pc,rfl,nC⟩:=hP.shape;obtain⟨fa,fc,rfl,Pq⟩:=hF.shape;obtain⟨N1,AA,Al⟩:∃N1:Nat,(ps.length:Int)+1=(N1:Int)/\N1=bl.length:=⟨bl.length,by omega,rfl⟩
 (refine cM Tryz.func44 rfl (by kernel_rfl) [.tmp 10] rfl ?_;push_cast -dsimp(maxSteps:=4000000) [Tryz.ntmps44]);refine aD ?_;push_cast -dsimp;refine aD ?_;push_cast -dsimp[AA];refine⟨⟨by omega,by omega⟩,?_⟩;refine yG (z:=.bool false) iJ (by kernel_rfl) rfl (by omega) (by omega) ?_;intro w1 au;have z1:=au.size;have c1:=au.below;have O1:Vc.Own w.heap.size 4 1 cH w1 (.slice (some ⟨w.heap.size,0,none⟩) N1 N1) (List.replicate N1 false):=au.own (sC N1) (by simp) (λ_=>rfl) (Nat.le_refl _) (by omega);have iK:=hB.below c1 hB.lt;have d0:w1.cell? ⟨b,0,none⟩=some (.int .i64 1):=iK.cell rfl;push_cast -dsimp;refine aD ?_;push_cast -dsimp[d0];refine cY fQ rfl rfl (by omega) ?_;intro w2 bT;have z2:=bT.size;have c2:=c1.trans (bT.below.mono (by omega));have jK:=iK.below bT.below iK.lt;have d2:w2.cell? ⟨b,0,none⟩=some (.int .i64 1):=jK.cell rfl;have O2:=O1.new bT;push_cast -dsimp[d2];refine aR (z:=[.int .i64 0,.int .i64 0]) (by kernel_rfl) ?_;intro w3 bO;have z3:=bO.size;have c3:=c2.trans (bO.below.mono (by omega));have Ip:=jK.below bO.below jK.lt;have d3:w3.cell? ⟨b,1,none⟩=some (.pointer (some ⟨b1,0,none⟩)):=Ip.cell rfl;have O3:=O2.new bO;push_cast -dsimp[d3];refine aA (D9 k cD nm hr (λb=>X b\/w.heap.size<=b) _ mb w3 (hg.below c3) (h1.top.below c3) (hN.aLR.below c3)) ?_;rintro r w4 ⟨hR,b4⟩;have z4:=b4.size;have c4:=c3.trans (b4.mono c3.size);have O4:=O3.below b4;have F4:=bO.aN.below b4 (by omega);unfold gu at hR;cases wG:ay nm k with
 | error e =>
  rw[wG]at hR;have hR:r=_:=hR;subst hR;push_cast -dsimp;refine aF (xt:=28) (n:=2) (by kernel_rfl) F4 rfl (by decide) (by simp;exact⟨rfl,rfl⟩) ?_;intro w5 bW;have F5:aO w5 w2.heap.size 28 [.int .i64 7,.int .i64 e]:=bW.aN;have c5:=c4.trans (bW.kept.below (B:=w.heap.size) c4.size (λi h=>by omega));have f5:aB w5 ⟨w2.heap.size,0,none⟩ 0 2=some [.int .i64 7,.int .i64 e]:=F5.aB;have O5:=O4.ak bW.kept (λg hg=>by have:=O1.block g hg;omega);have g5:=aL (hg.below c5);push_cast -dsimp[f5,g5];rw[UC (λp ⟨s,h1,_⟩=>by rw[wG]at h1;cases h1) iL,<-Al];exact⟨O5,c5⟩
 | ok s =>
  rw[wG]at hR;obtain⟨v1,rfl,eY,zH⟩:=hR;obtain⟨sa,sc,rfl,WA⟩:=eY.shape;have fO:=dt (cA (k:=k) hr cD wG);push_cast -dsimp;refine aF (xt:=28) (n:=2) (by kernel_rfl) F4 rfl (by decide) (by simp;exact⟨rfl,rfl⟩) ?_;intro w5 bW;have F5:aO w5 w2.heap.size 28 [.int .i64 0,.int .i64 (-1)]:=bW.aN;have c5:=c4.trans (bW.kept.below (B:=w.heap.size) c4.size (λi h=>by omega));have f5:aB w5 ⟨w2.heap.size,0,none⟩ 0 2=some [.int .i64 0,.int .i64 (-1)]:=F5.aB;have O5:=O4.ak bW.kept (λg hg=>by have:=O1.block g hg;omega);have g5:=aL (hg.below c5);have S5:=eY.kept bW.kept (λi h=>by rw[h];exact⟨.inr (by omega),by omega⟩);push_cast -dsimp[f5,g5];have hT:∀i j,dK (aZ nm) ps false (tP t (.one k)) i j↔∃p,cz ps false i=some (j,p)/\bm s p=true:=λi j=>by
   rw[VJ];refine exists_congr λp=>and_congr Iff.rfl ?_;unfold aZ;rw[wG];exact⟨λ⟨s',h1,h2⟩=>by cases h1;exact h2,λh=>⟨s,rfl,h⟩⟩
  refine aM [14,15,55,56,57,58,59,60,61,62,63,64,65,66,67,68,69,70,71,72,73] (λz wx=>∃(i:Nat) (cur:List Bool),z 55=.int .i64 i/\i<=ps.length/\cur.length=bl.length/\(∀j,gd cur j↔j<=i/\gd (ny (aZ nm) ps t (.one k) bl) j)/\Vc.Own w.heap.size 4 1 cH wx (.slice (some ⟨w.heap.size,0,none⟩) N1 N1) cur/\Kept (λj=>j=w.heap.size) w5 wx/\Below w.heap.size w wx) (λz _=>ps.length-(intOf (z 55)).toNat) ?_ ?_
  ·refine⟨0,List.replicate N1 false,rfl,Nat.zero_le _,by rw[List.length_replicate,Al],λj=>⟨λh=>absurd h nM,λh=>?_⟩,O5,Kept.refl _ _,c5⟩;obtain⟨i,p,h3,_⟩:=(td hT iL).1 h.2;omega
  rintro z wx ⟨i,cur,h55,hi,lC,hc,hO,hk,hb⟩;push_cast -dsimp[h55];refine⟨λbZ=>?_,λgh=>?_⟩
  ·obtain⟨p,hp,hpm,_,_⟩:=bK (l:=ps) (i:=i) (by omega);obtain⟨f,hf,_⟩:=bK (l:=bl) (i:=i) (by omega);obtain⟨gp,op,rfl,_,hcp⟩:=(hP.below hb).get hp;obtain⟨gf,of,rfl,_,hcf⟩:=(hF.below hb).get hf;have c0:wx.cell? ⟨gp,op+i,none⟩=some (.int .i64 p):=by simpa[eV] using hcp 0 _ rfl
   have c1:wx.cell? ⟨gf,of+i,none⟩=some (.bool f):=by simpa[cH] using hcf 0 _ rfl
   have zk:=hk.size;have tn:((i:Int)+1).toNat=i+1:=by omega
   cases f with
   | true =>
    push_cast -dsimp[c0,c1,Nat.mul_one];refine⟨⟨by omega,by omega⟩,⟨by omega,by omega⟩,⟨by omega,by omega⟩,?_⟩;refine aA (oF s p (by omega) _ _ wx ((S5).kept hk (λi h=>by rw[h];exact⟨.inr (Nat.le_refl _),by omega⟩))) ?_;rintro _ wy ⟨rfl,cp⟩;have zy:=cp.size;have oq:=hO.below cp;have ky:Kept (λj=>j=w.heap.size) wx wy:=Kept.aJ cp (λk hk hl=>by omega);push_cast -dsimp[tn];refine⟨⟨by omega,by omega⟩,?_⟩;refine gW (i:=i+1) (y:=bm s p) oq rfl (by omega) rfl rfl ?_;intro wz Cx rJ Au;push_cast -dsimp;exact⟨⟨by omega,by omega⟩,⟨i+1,cur.set (i+1) (bm s p),rfl,by omega,by rw[List.length_set];exact lC,qg hT iL hc hp hf (by simp) (by omega),Cx,(hk.trans ky (λ_ _ h=>h)).trans rJ (λ_ _ h=>h),hb.trans ((cp.mono hb.size).trans (rJ.below (B:=w.heap.size) (by have:=hb.size;omega) (λi h=>by omega)))⟩,by rw[h55];simp only[intOf];omega⟩
   | false =>
    push_cast -dsimp[c0,c1,Nat.mul_one,tn];refine⟨⟨by omega,by omega⟩,⟨by omega,by omega⟩,⟨by omega,by omega⟩,⟨by omega,by omega⟩,?_⟩;refine gW (i:=i+1) (y:=false) hO rfl (by omega) rfl rfl ?_;intro wz Cx rJ Au;push_cast -dsimp;exact⟨⟨by omega,by omega⟩,⟨i+1,cur.set (i+1) false,rfl,by omega,by rw[List.length_set];exact lC,qg hT iL hc hp hf (by simp) (by omega),Cx,hk.trans rJ (λ_ _ h=>h),hb.trans (rJ.below (B:=w.heap.size) hb.size (λi h=>by omega))⟩,by rw[h55];simp only[intOf];omega⟩
  have e:=H7 (has:=aZ nm) (ps:=ps) (t:=t) (x:=(.one k)) (bl:=bl) (cur:=cur) (by omega) (λj=>by rw[hc,show i=ps.length by omega])
  refine cC ?_;push_cast -dsimp;rw[e]at hO;exact⟨hO,hb⟩
end Go.Proofs.YtodeeahdhnjpkaaGreatDoor
end
section
namespace Cae
theorem qY:∀l:List aI,mE l=l.map pt
 | []=>rfl
 | x::l=>by rw[mE,qY l];rfl
section
variable {has:ax->Int->Prop} {ps:List Int} {t:Bool}
def WC (t:Bool)(len n:Nat):Nat:=if t then len-1-n else n
def tPs (t:Bool)(l:List aI):List aI:=if t then (mE l).reverse else l
theorem aDl {l:List aI}:tP t (.cat l)=.cat (tPs t l):=by cases t<;>rfl
theorem Ym {l:List aI}{n:Nat}(hn:n<l.length):(tPs t l)[n]?=(l[WC t l.length n]?).map (tP t):=by
 unfold tPs WC;cases t with
 | true =>
  rw[if_pos rfl,if_pos rfl,qY,List.getElem?_reverse (by rw[List.length_map];exact hn),List.length_map,List.getElem?_map];rfl
 | false =>
  rw[if_neg (by simp),if_neg (by simp)];cases l[n]?<;>rfl
theorem Yn {l:List aI}:(tPs t l).length=l.length:=by
 unfold tPs;split
 ·rw[List.length_reverse,qY,List.length_map]
 rfl
noncomputable def MU (has:ax->Int->Prop)(ps:List Int)(t:Bool)(l:List aI)(bl:List Bool):Nat->List Bool
 | 0=>bl
 | n+1=>match l[WC t l.length n]? with
  | some x=>ny has ps t x (MU has ps t l bl n)
  | none=>MU has ps t l bl n
theorem vy {l:List aI}{bl:List Bool}(iL:bl.length=ps.length+1):∀n,(MU has ps t l bl n).length=ps.length+1
 | 0=>iL
 | n+1=>by
  rw[MU];split
  ·exact j7
  exact vy iL n
theorem Ic {l:List aI}{bl:List Bool}(iL:bl.length=ps.length+1):∀{n j:Nat},n<=l.length->(gd (MU has ps t l bl n) j↔∃i,gd bl i/\jU has ps false ((tPs t l).take n) i j)
 | 0,j,_=>by
  rw[List.take_zero];simp only[MU,jU];exact⟨λh=>⟨j,h,rfl⟩,λ⟨i,h,e⟩=>e▸h⟩
 | n+1,j,hn=>by
  have hg:=Ym (t:=t) (l:=l) (n:=n) (by omega);have hix:WC t l.length n<l.length:=by unfold WC;split<;>omega
  have hx:=List.getElem?_eq_getElem hix;rw[hx]at hg;generalize l[WC t l.length n]=x at hx hg;have rp:(tPs t l).take (n+1)=(tPs t l).take n++[tP t x]:=by
   rw[List.take_add_one,hg];rfl
  rw[MU,hx];dsimp only;rw[lA (vy iL n),rp];constructor
  ·rintro⟨i,h1,h2⟩;obtain⟨k,h3,h4⟩:=(Ic iL (by omega)).1 h1;exact⟨k,h3,tR.2 ⟨i,h4,by simp only[jU];exact⟨j,h2,rfl⟩⟩⟩
  rintro⟨k,h3,h4⟩;obtain⟨i,h5,h6⟩:=tR.1 h4;simp only[jU]at h6;obtain⟨m,h7,h8⟩:=h6;subst h8;exact⟨i,(Ic iL (by omega)).2 ⟨k,h3,h5⟩,h7⟩
theorem Wn {l:List aI}{bl:List Bool}(iL:bl.length=ps.length+1):MU has ps t l bl l.length=ny has ps t (.cat l) bl:=by
 refine mc (by rw[vy iL,j7]) λj=>?_;rw[Ic iL (Nat.le_refl _),lA iL,aDl,List.take_of_length_le (by rw[Yn];exact Nat.le_refl _)];refine exists_congr λi=>and_congr Iff.rfl ?_;simp only[dK,Bool.false_eq_true,if_false]
noncomputable def zB (has:ax->Int->Prop)(ps:List Int)(t:Bool)(bl:List Bool):List aI->List Bool
 | []=>List.replicate bl.length false
 | x::l=>IA (zB has ps t bl l) (ny has ps t x bl)
theorem aDj {l:List aI}:tP t (.alt l)=.alt (l.map (tP t)):=by
 cases t with
 | true=>show pt (.alt l)=_;rw[pt,qY];rfl
 | false =>
  have:l.map (tP false)=l:=by
   have e:(tP false)=id:=rfl;rw[e,List.map_id]
  rw[this];rfl
theorem WQ {l:List aI}{bl cur:List Bool}(iL:bl.length=ps.length+1)(hl:cur.length=ps.length+1)(hc:∀j,gd cur j↔∃x∈l,gd (ny has ps t x bl) j):cur=ny has ps t (.alt l) bl:=by
 refine mc (by rw[hl,j7]) λj=>?_;rw[hc,lA iL,aDj];constructor
 ·rintro⟨x,h1,h2⟩;obtain⟨i,h3,h4⟩:=(lA iL).1 h2;refine⟨i,h3,?_⟩;simp only[dK];exact y7.2 ⟨tP t x,List.mem_map.2 ⟨x,h1,rfl⟩,h4⟩
 rintro⟨i,h3,h4⟩;simp only[dK]at h4;obtain⟨y,h5,h6⟩:=y7.1 h4;obtain⟨x,h1,rfl⟩:=List.mem_map.1 h5;exact⟨x,h1,(lA iL).2 ⟨i,h3,h6⟩⟩
theorem D0 {a b cur:List Bool}{i:Nat}{x y:Bool}(hc:∀j,gd cur j↔gd a j\/(j<i/\gd b j))(hx:cur[i]?=some x)(hy:b[i]?=some y)(j:Nat):gd (cur.set i (x || y)) j↔gd a j\/(j<i+1/\gd b j):=by
 rw[s8 (List.getElem?_eq_some_iff.1 hx).1];have NF:=hc i;have JC:=hc j;unfold gd at NF;rw[hx,hy]at NF;by_cases hj:j=i
 ·subst hj;constructor
  ·rintro(⟨_,h⟩|⟨h,_⟩)
   ·cases x with
    | true =>
     rcases NF.1 rfl with h|h
     ·exact .inl h
     omega
    | false =>
     have:y=true:=by simpa using h
     exact .inr ⟨by omega,by unfold gd;rw[hy,this]⟩
   exact absurd rfl h
  rintro(h|⟨_,h⟩)
  ·have:=NF.2 (.inl h);exact .inl ⟨rfl,by rw[Option.some.inj this];rfl⟩
  unfold gd at h;rw[hy]at h;exact .inl ⟨rfl,by rw[Option.some.inj h];simp⟩
 rw[JC];constructor
 ·rintro(⟨h,_⟩|⟨_,h|⟨h1,h2⟩⟩)
  ·exact absurd h hj
  ·exact .inl h
  exact .inr ⟨by omega,h2⟩
 rintro(h|⟨h1,h2⟩)
 ·exact .inr ⟨hj,.inl h⟩
 exact .inr ⟨hj,.inr ⟨by omega,h2⟩⟩
end
end Cae
namespace Go.Proofs.YtodeeahdhnjpkaaGreatDoor
open Go.Vc Go.Proofs Go.RowKit Cae
attribute [local irreducible] cw ag aq a8 runK bD Sl Vc.Own vc aW cN ai
attribute [local irreducible] ny zB IA gd
theorem aAG (l:List Bool):l.flatMap cH=l.map Value.bool:=by
 induction l with
 | nil=>rfl
 | cons x l ih=>rw[List.flatMap_cons,ih];rfl
theorem aEZ {base g N c:Nat}{w:World}{l bl:List Bool}{X:Nat->Prop}{fa:Option Addr}{fc:Nat}{ty:TypeId}{t:Fr}{K:VK}{Q:EP}{p}(hO:Vc.Own base 4 1 cH w (.slice (some ⟨g,0,none⟩) N c) l)(hl:l.length=N)(iL:bl.length=N)(h0:0<N)
  (hF:Sl X 1 (En cH) w (.slice fa bl.length fc) bl) (kk:∀w',Vc.Own base 4 1 cH w' (.slice (some ⟨g,0,none⟩) N c) bl->Kept (λj=>j=g) w w'->w'.heap.size=w.heap.size->K (.int .i64 (N:Int)) w') :
  aq Tryz.prog (Builtin.copy_ #[115,115] ty #[.slice (some ⟨g,0,none⟩) N c,.slice fa bl.length fc]) t w K Q p:=by
 obtain⟨cur,hB,h1,h2,h3⟩:=hO.opened rfl;obtain⟨x0,hx0,_⟩:=bK (l:=bl) (i:=0) (by omega);obtain⟨b,o,rfl,_,_⟩:=hF.get hx0;have aLn:∀(j:Nat) v,(bl.map Value.bool)[j]?=some v->w.cell? ((⟨b,o,none⟩:Addr).add j)=some v:=by
  intro j v hv;rw[List.getElem?_map]at hv;cases hy:bl[j]? with
  | none=>rw[hy]at hv;cases hv
  | some y =>
   rw[hy]at hv;obtain rfl:Value.bool y=v:=Option.some.inj hv;obtain⟨b',o',e',_,hc⟩:=hF.get hy;cases e'
   have:=hc 0 (.bool y) rfl;unfold Addr.add;split
   ·rename_i h;have h0:j=0:=by simpa using h
    subst h0;simpa using this
   simpa using this
 have aGO:=run_copy_row (P:=Tryz.prog) w 115 115 ty 4 g 0 N c ⟨b,o,none⟩ bl.length fc cur.toArray 4 (bl.map Value.bool) (by kernel_rfl) (by kernel_rfl) hB (by rw[List.length_map,iL];simp) aLn (by simp;omega) (λv hv=>by
  obtain⟨y,_,rfl⟩:=List.mem_map.1 hv;rfl)
 have AM:=Lz.q0 (cs:=(cur.take 0++bl.map Value.bool++cur.drop (0+(bl.map Value.bool).length))) hB;have p6:goInt (bl.map Value.bool).length=.int .i64 (N:Int):=by rw[List.length_map,iL];rfl
 rw[p6]at aGO;refine dq aGO ?_;refine kk _ (h3 _ _ bl AM.aN ?_ (by omega) ?_) AM.kept AM.size
 ·simp;omega
 rw[aAG,Nat.mul_one,List.take_zero,List.nil_append];rw[List.take_append_of_le_length (by rw[List.length_map];omega),List.take_of_length_le (by rw[List.length_map];omega)]
theorem aCy (l:List aI)(hl:∀x∈l,PX x):PX (.cat l):=by
 intro cD jS nm hr X Xp Xf v pv fv mb ps bl t w hg hV hN hP hF iL hlen oM;simp only[aV]at hV;obtain⟨b,sv,vs,rfl,hb,hB,hs,hV⟩:=hV;have hvl:=hV.len;obtain⟨sa,sc,rfl,WA⟩:=hs.shape;have lF:=qi (l:=l);simp only[bQ]at cD;obtain⟨pa,pc,rfl,nC⟩:=hP.shape;obtain⟨fa,fc,rfl,Pq⟩:=hF.shape;obtain⟨N1,AA,Al⟩:∃N1:Nat,(ps.length:Int)+1=(N1:Int)/\N1=bl.length:=⟨bl.length,by omega,rfl⟩
 (refine cM Tryz.func44 rfl (by kernel_rfl) [.tmp 10] rfl ?_;push_cast -dsimp(maxSteps:=4000000) [Tryz.ntmps44]);refine aD ?_;push_cast -dsimp;refine aD ?_;push_cast -dsimp[AA];refine⟨⟨by omega,by omega⟩,?_⟩;refine yG (z:=.bool false) iJ (by kernel_rfl) rfl (by omega) (by omega) ?_;intro w1 au;have z1:=au.size;have c1:=au.below;have O1:Vc.Own w.heap.size 4 1 cH w1 (.slice (some ⟨w.heap.size,0,none⟩) N1 N1) (List.replicate N1 false):=au.own (sC N1) (by simp) (λ_=>rfl) (Nat.le_refl _) (by omega);have iK:=hB.below c1 hB.lt;have d0:w1.cell? ⟨b,0,none⟩=some (.int .i64 4):=iK.cell rfl;push_cast -dsimp;refine aD ?_;push_cast -dsimp[d0];refine aEZ O1 (by simp) Al.symm (by omega) (hF.below c1) ?_;intro w2 O2 k2 z2;have c2:=c1.trans (k2.below (B:=w.heap.size) c1.size (λi h=>by omega));have Fb:=hB.lt;have jK:=iK.kept k2 (by omega);have d2:w2.cell? ⟨b,2,none⟩=some (.slice sa vs.length sc):=jK.cell rfl;push_cast -dsimp[d2];refine aM [11,16,17,95,96,97,98,99,100,101,102,103,104,105,106,107,108,109,110,111,112,113,114,115,116,117,118,119,120] (λz wx=>∃(i:Nat) (ov:Value),z 95=.int .i64 i/\z 11=ov/\i<=l.length/\Vc.Own w.heap.size 4 1 cH wx ov (MU (aZ nm) ps t l bl i)/\Below w.heap.size w wx) (λz _=>l.length-(intOf (z 95)).toNat) ?_ ?_
 ·exact⟨0,_,rfl,rfl,Nat.zero_le _,O2,c2⟩
 rintro z wx ⟨i,ov,XH,FZ,hi,hO,bC⟩;have EA:=hB.below bC hB.lt;have d2x:wx.cell? ⟨b,2,none⟩=some (.slice sa vs.length sc):=EA.cell rfl;push_cast -dsimp[XH,FZ];refine⟨λbZ=>?_,λgh=>?_⟩
 ·have hix:WC t l.length i<l.length:=by unfold WC;split<;>omega
  obtain⟨x,hx,lO,_,_⟩:=bK (l:=l) (i:=WC t l.length i) hix;obtain⟨u,hu,My⟩:=aU.nth hV hx;obtain⟨b1,o,rfl,zJ,aP⟩:=(hs.below bC).get hu;have c0:wx.cell? ⟨b1,o+WC t l.length i,none⟩=some (.pointer (some ⟨u,0,none⟩)):=by simpa[gg,bF] using aP 0 _ rfl
  obtain⟨oa,oc,rfl⟩:=hO.slice;have lC:=vy (has:=aZ nm) (t:=t) (l:=l) iL i;have hwx:=lF.2.2 x lO;have hcu:MU (aZ nm) ps t l bl (i+1)=ny (aZ nm) ps t x (MU (aZ nm) ps t l bl i):=by rw[MU,hx]
  have hxc:=hl x lO (fk cD lO) (by omega) nm hr X Xp (λ_=>False) (bF u) (.slice pa ps.length pc) (.slice oa (MU (aZ nm) ps t l bl i).length oc) mb ps _ t wx (hg.below bC) (aV.below My bC) (hN.below bC) (hP.below bC) (hO.sl.weaken (λ_ h=>h.elim)) lC hlen oM;have zx:=bC.size;cases t with
  | true =>
   have e:((vs.length:Int)-1-i)=((l.length-1-i:Nat):Int):=by omega
   have c0:wx.cell? ⟨b1,o+(l.length-1-i),none⟩=some (.pointer (some ⟨u,0,none⟩)):=c0;push_cast -dsimp[d2x,e,c0,Nat.mul_one];refine⟨⟨by omega,by omega⟩,⟨by omega,by omega⟩,?_⟩;refine⟨⟨by omega,by omega⟩,?_⟩;refine aA hxc ?_;rintro r wy ⟨hR,cp⟩;push_cast -dsimp;refine⟨⟨by omega,by omega⟩,⟨i+1,_,rfl,rfl,by omega,?_,bC.trans (cp.mono bC.size)⟩,by rw[XH];simp only[intOf];omega⟩;rw[hcu];exact hR.mono zx
  | false =>
   have c0:wx.cell? ⟨b1,o+i,none⟩=some (.pointer (some ⟨u,0,none⟩)):=c0;push_cast -dsimp[d2x,c0,Nat.mul_one];refine⟨⟨by omega,by omega⟩,?_⟩;refine aA hxc ?_;rintro r wy ⟨hR,cp⟩;push_cast -dsimp;refine⟨⟨by omega,by omega⟩,⟨i+1,_,rfl,rfl,by omega,?_,bC.trans (cp.mono bC.size)⟩,by rw[XH];simp only[intOf];omega⟩;rw[hcu];exact hR.mono zx
 refine cC ?_;push_cast -dsimp;rw[show i=l.length by omega,Wn iL]at hO
 exact⟨hO,bC⟩
theorem aCv (l:List aI)(hl:∀x∈l,PX x):PX (.alt l):=by
 intro cD jS nm hr X Xp Xf v pv fv mb ps bl t w hg hV hN hP hF iL hlen oM;simp only[aV]at hV;obtain⟨b,sv,vs,rfl,hb,hB,hs,hV⟩:=hV;have hvl:=hV.len;obtain⟨sa,sc,rfl,WA⟩:=hs.shape;have lF:=qh (l:=l);simp only[bQ]at cD;obtain⟨pa,pc,rfl,nC⟩:=hP.shape;obtain⟨fa,fc,rfl,Pq⟩:=hF.shape;obtain⟨N1,AA,Al⟩:∃N1:Nat,(ps.length:Int)+1=(N1:Int)/\N1=bl.length:=⟨bl.length,by omega,rfl⟩
 (refine cM Tryz.func44 rfl (by kernel_rfl) [.tmp 10] rfl ?_;push_cast -dsimp(maxSteps:=4000000) [Tryz.ntmps44]);refine aD ?_;push_cast -dsimp;refine aD ?_;push_cast -dsimp[AA];refine⟨⟨by omega,by omega⟩,?_⟩;refine yG (z:=.bool false) iJ (by kernel_rfl) rfl (by omega) (by omega) ?_;intro w1 au;have z1:=au.size;have c1:=au.below;have O1:Vc.Own w.heap.size 4 1 cH w1 (.slice (some ⟨w.heap.size,0,none⟩) N1 N1) (List.replicate N1 false):=au.own (sC N1) (by simp) (λ_=>rfl) (Nat.le_refl _) (by omega);have iK:=hB.below c1 hB.lt;have d0:w1.cell? ⟨b,0,none⟩=some (.int .i64 5):=iK.cell rfl;have d2:w1.cell? ⟨b,2,none⟩=some (.slice sa vs.length sc):=iK.cell rfl;push_cast -dsimp;refine aD ?_;push_cast -dsimp[d0,d2];refine aM [19,20,21,128,129,130,131,132,133,134,135,136,137,138,139,140,141,142,143,144,145,146,147,148,149,150,151,152,153,154,155] (λz wx=>∃(i:Nat) (cur:List Bool),z 128=.int .i64 i/\i<=l.length/\cur.length=bl.length/\(∀j,gd cur j↔∃x∈l.take i,gd (ny (aZ nm) ps t x bl) j)/\Vc.Own w.heap.size 4 1 cH wx (.slice (some ⟨w.heap.size,0,none⟩) N1 N1) cur/\Below w.heap.size w wx) (λz _=>l.length-(intOf (z 128)).toNat) ?_ ?_
 ·exact⟨0,_,rfl,Nat.zero_le _,by rw[List.length_replicate,Al],λj=>⟨λh=>absurd h nM,λ⟨x,h,_⟩=>by simp at h⟩,O1,c1⟩
 rintro z wx ⟨i,cur,aFq,hi,lC,hc,hO,bC⟩;have zx:=bC.size;push_cast -dsimp[aFq];refine⟨λbZ=>?_,λgh=>?_⟩
 ·obtain⟨x,hx,lO,_,ht⟩:=bK (l:=l) (i:=i) (by omega);obtain⟨u,hu,My⟩:=aU.nth hV hx;obtain⟨b1,o,rfl,zJ,aP⟩:=(hs.below bC).get hu;have c0:wx.cell? ⟨b1,o+i,none⟩=some (.pointer (some ⟨u,0,none⟩)):=by simpa[gg,bF] using aP 0 _ rfl
  have hwx:=lF.2.2 x lO;have hxc:=hl x lO (fk cD lO) (by omega) nm hr X Xp Xf (bF u) (.slice pa ps.length pc) (.slice fa bl.length fc) mb ps bl t wx (hg.below bC) (aV.below My bC) (hN.below bC) (hP.below bC) (hF.below bC) iL hlen oM;push_cast -dsimp[c0,Nat.mul_one];refine⟨⟨by omega,by omega⟩,?_⟩;refine aA hxc ?_;rintro r wy ⟨hR,cp⟩;have zy:=cp.size;have gz:=bC.trans (cp.mono bC.size);obtain⟨T,hT⟩:∃T,T=ny (aZ nm) ps t x bl:=⟨_,rfl⟩;rw[<-hT]at hR;obtain⟨ra,rc,rfl⟩:=hR.slice;have NR:T.length=ps.length+1:=by rw[hT];exact j7
  have hS:=hR.sl;have hOb:=(hO.block _ rfl).2;have oq:=hO.below cp;push_cast -dsimp;refine aM [20,21,139,140,141,142,143,144,145,146,147,148,149,150,151,152,153,154] (λz wz=>∃(k:Nat) (qk:List Bool),z 139=.int .i64 k/\k<=bl.length/\qk.length=bl.length/\(∀j,gd qk j↔gd cur j\/(j<k/\gd T j))/\Vc.Own w.heap.size 4 1 cH wz (.slice (some ⟨w.heap.size,0,none⟩) N1 N1) qk/\Kept (λj=>j=w.heap.size) wy wz/\Below w.heap.size w wz) (λz _=>bl.length-(intOf (z 139)).toNat) ?_ ?_
  ·exact⟨0,cur,rfl,Nat.zero_le _,lC,λj=>⟨.inl,λh=>h.elim id (λh=>by omega)⟩,oq,Kept.refl _ _,gz⟩
  rintro z wz ⟨k,qk,aBa,hk,aBB,XW,hO',rJ,pY⟩;have zz:=rJ.size;push_cast -dsimp[aBa];refine⟨λaQu=>?_,λaP9=>?_⟩
  ·have hex:∃q d,T[k]?=some q/\qk[k]?=some d/\∃g1,ra=some ⟨g1,0,none⟩/\wz.cell? ⟨g1,k,none⟩=some (.bool q)/\wz.cell? ⟨w.heap.size,k,none⟩=some (.bool d):=by
    obtain⟨q,hq,_⟩:=bK (l:=T) (i:=k) (by omega);obtain⟨d,hd,_⟩:=bK (l:=qk) (i:=k) (by omega);obtain⟨g1,o1,e1,_,S6⟩:=(hS.kept rJ (λj h=>by rw[h];exact hOb)).get hq;have GK:o1=0:=Vc.Own.at0 (by rw[<-e1];exact hR);subst GK;obtain⟨g2,o2,e2,_,Zj⟩:=hO'.sl.get hd;cases e2;exact⟨q,d,hq,hd,g1,e1,by simpa[cH] using S6 0 _ rfl,by simpa[cH] using Zj 0 _ rfl⟩
   obtain⟨q,d,hq,hd,g1,e1,d1,d2⟩:=hex;subst e1;have bN:=D0 XW hd hq;cases d with
   | true =>
    push_cast -dsimp[d1,d2,Nat.mul_one];refine⟨⟨by omega,by omega⟩,⟨by omega,by omega⟩,⟨by omega,by omega⟩,?_⟩;refine gW (i:=k) (y:=true) hO' rfl (by omega) rfl rfl ?_;intro wu SR GH oN;push_cast -dsimp;exact⟨⟨by omega,by omega⟩,⟨k+1,qk.set k (true),rfl,by omega,by rw[List.length_set];exact aBB,bN,SR,rJ.trans GH (λ_ _ h=>h),pY.trans (GH.below (B:=w.heap.size) pY.size (λi h=>by omega))⟩,by rw[aBa];simp only[intOf];omega⟩
   | false =>
    push_cast -dsimp[d1,d2,Nat.mul_one];refine⟨⟨by omega,by omega⟩,⟨by omega,by omega⟩,⟨by omega,by omega⟩,?_⟩;refine gW (i:=k) (y:=q) hO' rfl (by omega) rfl rfl ?_;intro wu SR GH oN;push_cast -dsimp;exact⟨⟨by omega,by omega⟩,⟨k+1,qk.set k (q),rfl,by omega,by rw[List.length_set];exact aBB,bN,SR,rJ.trans GH (λ_ _ h=>h),pY.trans (GH.below (B:=w.heap.size) pY.size (λi h=>by omega))⟩,by rw[aBa];simp only[intOf];omega⟩
  have cg:∀j,gd qk j↔∃x∈l.take (i+1),gd (ny (aZ nm) ps t x bl) j:=λj=>by
   rw[XW,hc,ht];constructor
   ·rintro(⟨y,h1,h2⟩|⟨_,h2⟩)
    ·exact⟨y,List.mem_append_left _ h1,h2⟩
    exact⟨x,List.mem_append_right _ (List.mem_singleton.2 rfl),by rw[<-hT];exact h2⟩
   rintro⟨y,h1,h2⟩;rcases List.mem_append.1 h1 with h1|h1
   ·exact .inl ⟨y,h1,h2⟩
   rw[List.mem_singleton]at h1;rw[h1,<-hT]at h2
   have:=rZ h2;exact .inr ⟨by omega,h2⟩
  exact⟨⟨by omega,by omega⟩,⟨i+1,qk,rfl,by omega,aBB,cg,hO',pY⟩,by rw[aFq];simp only[intOf];omega⟩
 refine cC ?_;push_cast -dsimp;rw[List.take_of_length_le (by omega)]at hc;rw[WQ iL (by omega) hc]at hO;exact⟨hO,bC⟩
end Go.Proofs.YtodeeahdhnjpkaaGreatDoor
end
