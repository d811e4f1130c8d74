/- Texts of this claim, merged: Pmean2, Pmean3, Al2, Prl1, Prl2, Stp, Prl3, Pok, Pst, Rng, Spl, Pin2. -/
import Derived.Test.YtledlfbbebodgaaGreatDoorM4
import Derived.RangeFuncFrom
import Derived.LoopIn
import Derived.RangeFuncLeaves
import Derived.Shelf.Strconv.ToErrorRange
import Derived.Shelf.Strconv.ToError
set_option maxRecDepth 100000
set_option linter.unusedSimpArgs false
set_option linter.unusedVariables false
set_option maxHeartbeats 8000000
section
namespace Cae
open Classical
section
variable (has:ao->Int->Prop) (pts:List Int)
def nS (x:aF)(i:Nat)(back:Bool):Prop:=∃j,dF has pts back x i j
def wJ (r:cD)(i:Nat):Prop:=nS has pts r.before i true/\nS has pts r.after i false
noncomputable def qq (els:Bool)(i:Nat):List cD->Bool
 | []=>els
 | r::l=>if wJ has pts r i then r.brk else qq els i l
noncomputable def Yq (rules:List cD)(els:Bool)(i:Nat):Bool:=qq has pts els i rules || decide (i=0) || decide (i=pts.length)
noncomputable def jy (rules:List cD)(els:Bool):List Nat:=if pts=[] then [] else (List.range (pts.length+1)).filter (Yq has pts rules els)
end
section
variable {has:ao->Int->Prop} {pts:List Int}
end
open Classical
section
variable {has:ao->Int->Prop} {pts:List Int} {back:Bool}
def TS (has:ao->Int->Prop)(pts:List Int)(back:Bool)(x y:aF):Prop:=∀i j,dF has pts back x i j↔dF has pts back y i j
theorem NM (x y:aF)(i j:Nat):dF has pts back (.cat [x,y]) i j↔(if back then ∃m,dF has pts back y i m/\dF has pts back x m j else ∃m,dF has pts back x i m/\dF has pts back y m j):=by
 cases back<;>simp[dF,iS,iq]
theorem TS.aOM {x y:aF}(h:TS has pts back x y)(i:Nat):nS has pts x i back↔nS has pts y i back:=exists_congr λj=>h i j
theorem TS.left {x y:aF}(h:TS has pts back x y)(e:aF):TS has pts back (.cat [x,e]) (.cat [y,e]):=by
 intro i j;rw[NM,NM];cases back
 ·exact exists_congr λm=>and_congr (h i m) Iff.rfl
 exact exists_congr λm=>and_congr Iff.rfl (h m j)
end
noncomputable def jd (N:Nat)(R:Nat->Nat->Prop)(from_:List Nat):List Nat:=(List.range (N+1)).filter λj=>decide (∃i∈from_,R i j)
theorem fr {N:Nat}{R:Nat->Nat->Prop}{l:List Nat}{j:Nat}:j∈jd N R l↔j<=N/\∃i∈l,R i j:=by
 unfold jd;rw[List.mem_filter,List.mem_range,Nat.lt_succ_iff,decide_eq_true_iff]
theorem cG (N:Nat)(R:Nat->Nat->Prop)(l:List Nat):(jd N R l).Pairwise (·<·):=List.Pairwise.filter _ List.pairwise_lt_range
theorem uy {l m:List Nat}(hl:l.Pairwise (·<·))(hm:m.Pairwise (·<·))(h:∀i,i∈l↔i∈m):l=m :=
 List.Perm.eq_of_pairwise (λa b _ _ h1 h2=>by omega) hl hm ((List.perm_ext_iff_of_nodup (hl.imp λh=>Nat.ne_of_lt h) (hm.imp λh=>Nat.ne_of_lt h)).2 h)
theorem cI {N:Nat}{l:List Nat}(hl:l.Pairwise (·<·))(h:∀i∈l,i<=N):l.length<=N+1:=by
 have e:l=(List.range (N+1)).filter λi=>decide (i∈l):=uy hl (List.Pairwise.filter _ List.pairwise_lt_range) λi=>by
  rw[List.mem_filter,List.mem_range,Nat.lt_succ_iff,decide_eq_true_iff];exact⟨λhi=>⟨h i hi,hi⟩,λhi=>hi.2⟩
 rw[e];exact Nat.le_trans (List.length_filter_le _ _) (by simp)
section
variable {R:Nat->Nat->Prop} {N:Nat}
def stM (R:Nat->Nat->Prop)(l:List Nat)(n:Nat)(j:Nat):Prop:=∃i∈l,iterM R n i j
theorem mf {l:List Nat}{n j:Nat}:stM R l (n+1) j↔∃m,stM R l n m/\R m j:=by
 constructor
 ·rintro⟨i,hi,h⟩;obtain⟨m,h1,h2⟩:=jq.1 h;exact⟨m,⟨i,hi,h1⟩,h2⟩
 rintro⟨m,⟨i,hi,h1⟩,h2⟩;exact⟨i,hi,jq.2 ⟨m,h1,h2⟩⟩
theorem Gn {l:List Nat}{k:Nat}(h:∀j,stM R l (k+1) j↔stM R l k j):∀t j,stM R l (k+t) j↔stM R l k j
 | 0,j=>Iff.rfl
 | t+1,j=>by
  rw[show k+(t+1)=(k+t)+1 by omega,mf]
  constructor
  ·rintro⟨m,h1,h2⟩;exact(h j).1 (mf.2 ⟨m,(Gn h t m).1 h1,h2⟩)
  intro hj;obtain⟨m,h1,h2⟩:=mf.1 ((h j).2 hj);exact⟨m,(Gn h t m).2 h1,h2⟩
theorem qz {l:List Nat}{a k:Nat}(h:∀j,stM R l (a+k+1) j->∃s,s<=k/\stM R l (a+s) j):∀t j,stM R l (a+t) j->∃s,s<=k/\stM R l (a+s) j
 | 0,j,hj=>⟨0,by omega,hj⟩
 | t+1,j,hj=>by
  obtain⟨m,h1,h2⟩:=mf.1 (show stM R l (a+t+1) j from hj)
  obtain⟨s,hs,h3⟩:=qz h t m h1;have h4:stM R l (a+s+1) j:=mf.2 ⟨m,h3,h2⟩;by_cases he:s=k
  ·subst he;exact h j h4
  exact⟨s+1,by omega,h4⟩
theorem rA {l:List Nat}{a:Nat}(h:∀j,¬stM R l a j):∀t j,¬stM R l (a+t) j
 | 0,j=>h j
 | t+1,j=>λhj=>by
  obtain⟨m,h1,_⟩:=mf.1 (show stM R l (a+t+1) j from hj)
  exact rA h t m h1
end
inductive cU {α β:Type}(R:α->β->Prop):List α->List β->Prop
 | nil:cU R [] []
 | cons {x y l m}:R x y->cU R l m->cU R (x::l) (y::m)
theorem cU.snoc {α β:Type}{R:α->β->Prop}{l:List α}{m:List β}{x:α}{y:β}(h:cU R l m)(hr:R x y):cU R (l++[x]) (m++[y]):=by
 induction h with
 | nil=>exact .cons hr .nil
 | cons h1 _ ih=>exact .cons h1 ih
theorem cU.len {α β:Type}{R:α->β->Prop}{l:List α}{m:List β}(h:cU R l m):l.length=m.length:=by
 induction h with
 | nil=>rfl
 | cons _ _ ih=>simp[ih]
def key (t:Tok):Nat×List UInt8:=(t.kind,t.text)
def vQ (a b:List Tok):Prop:=a.map key=b.map key
def yY (a b:List Tok):Prop:=key (hd a)=key (hd b)
def HU (a:List Tok):Prop:=∀t∈a,t.kind≠5
theorem vQ.refl (a:List Tok):vQ a a:=rfl
theorem vQ.len {a b:List Tok}(h:vQ a b):a.length=b.length:=by simpa[vQ] using congrArg List.length h
theorem vQ.split {a b c:List Tok}(h:vQ (a++b) c):∃x y,c=x++y/\vQ a x/\vQ b y:=by
 have h':a.map key++b.map key=c.map key:=by simpa[vQ] using h
 refine⟨c.take a.length,c.drop a.length,(List.take_append_drop _ _).symm,?_,?_⟩
 ·have:=congrArg (List.take a.length) h';simpa[vQ,List.take_append,List.map_take] using this
 have:=congrArg (List.drop a.length) h';simpa[vQ,List.drop_append,List.map_drop] using this
theorem yY.app {a b c d:List Tok}(h:vQ a b)(h':yY c d):yY (a++c) (b++d):=by
 cases a with
 | nil=>cases b with
  | nil=>exact h'
  | cons y b=>simp[vQ]at h
 | cons x a=>cases b with
  | nil=>simp[vQ]at h
  | cons y b=>simp only[vQ,List.map_cons,List.cons.injEq]at h;exact h.1
theorem yY.apps {a b:List Tok}(h:vQ a b)(dD:a≠[])(c d:List Tok):yY (a++c) (b++d):=by
 cases a with
 | nil=>exact absurd rfl dD
 | cons x a=>cases b with
  | nil=>simp[vQ]at h
  | cons y b=>simp only[vQ,List.map_cons,List.cons.injEq]at h;exact h.1
def Lo {α β:Type}(R:α->β->Prop)(p:Pa α)(p':Pa β):Prop:=∀l x l',p l=.ok (x,l')->∃pre,HU pre/\l=pre++l'/\∀mY l2,vQ pre mY->yY l' l2->∃x2,R x x2/\p' (mY++l2)=.ok (x2,l2)
def gS {α β:Type}(R:α->β->Prop)(p:Pa α)(p':Pa β):Prop:=∀l x l',p l=.ok (x,l')->∃pre,pre≠[]/\HU pre/\l=pre++l'/\∀mY l2,vQ pre mY->∃x2,R x x2/\p' (mY++l2)=.ok (x2,l2)
section
variable {α β γ δ:Type} {R:α->β->Prop} {S:γ->δ->Prop} {p:Pa α} {p':Pa β} {q:α->Pa γ} {q':β->Pa δ}
theorem gS.lo (h:gS R p p'):Lo R p p':=λl x l' e=>by
 obtain⟨pre,_,h1,h2,h3⟩:=h l x l' e;exact⟨pre,h1,h2,λa b ha _=>h3 a b ha⟩
theorem Lo.pr {x:α}{y:β}(h:R x y):Lo R (pr x) (pr y):=λl x' l' e=>by
 cases e;refine⟨[],by simp[HU],rfl,λmY l2 hp _=>?_⟩;have:mY=[]:=List.length_eq_zero_iff.1 hp.len.symm;subst this;exact⟨y,h,rfl⟩
theorem Lo.fail {e:Nat}:Lo R (dr e) p':=λl x l' h=>by cases h
theorem gS.fail {e:Nat}:gS R (dr e) p':=λl x l' h=>by cases h
theorem dq {p:Pa α}{q:α->Pa γ}{l l':List Tok}{y:γ}(h:pb p q l=.ok (y,l')):∃x l1,p l=.ok (x,l1)/\q x l1=.ok (y,l'):=by
 unfold pb at h;split at h
 ·cases h
 rename_i x l1 e;exact⟨x,l1,e,h⟩
theorem aH {p:Pa α}{q:α->Pa γ}{l l1:List Tok}{x:α}(h:p l=.ok (x,l1)):pb p q l=q x l1:=by
 unfold pb;rw[h]
theorem Lo.pb (h:Lo R p p')(k:∀x y,R x y->Lo S (q x) (q' y)):Lo S (pb p q) (pb p' q'):=λl z l' e=>by
 obtain⟨x,l1,e1,e2⟩:=dq e;obtain⟨a,na,rfl,ha⟩:=h l x l1 e1;obtain⟨y0,hy0,_⟩:=ha a l1 (vQ.refl _) rfl;obtain⟨b,nb,rfl,_⟩:=k x y0 hy0 _ z l' e2;refine⟨a++b,λt ht=>(List.mem_append.1 ht).elim (na t) (nb t),by rw[List.append_assoc],λmY l2 hp hh=>?_⟩;obtain⟨u,v,rfl,hu,hv⟩:=hp.split;rw[List.append_assoc];obtain⟨y,hy,ey⟩:=ha u (v++l2) hu (yY.app hv hh);obtain⟨b',nb',eb,hb⟩:=k x y hy _ z l' e2;obtain rfl:=List.append_cancel_right eb;obtain⟨z2,hz,ez⟩:=hb v l2 hv hh;exact⟨z2,hz,by rw[aH ey];exact ez⟩
theorem gS.pb (h:Lo R p p')(k:∀x y,R x y->gS S (q x) (q' y)):gS S (pb p q) (pb p' q'):=λl z l' e=>by
 obtain⟨x,l1,e1,e2⟩:=dq e;obtain⟨a,na,rfl,ha⟩:=h l x l1 e1;obtain⟨y0,hy0,_⟩:=ha a l1 (vQ.refl _) rfl;obtain⟨b,bne,nb,rfl,_⟩:=k x y0 hy0 _ z l' e2;refine⟨a++b,by simp[bne],λt ht=>(List.mem_append.1 ht).elim (na t) (nb t),by rw[List.append_assoc],λmY l2 hp=>?_⟩;obtain⟨u,v,rfl,hu,hv⟩:=hp.split;rw[List.append_assoc];obtain⟨y,hy,ey⟩:=ha u (v++l2) hu (yY.apps hv bne _ _);obtain⟨b',_,nb',eb,hb⟩:=k x y hy _ z l' e2;obtain rfl:=List.append_cancel_right eb;obtain⟨z2,hz,ez⟩:=hb v l2 hv;exact⟨z2,hz,by rw[aH ey];exact ez⟩
theorem gS.map {f:α->γ}{f':β->δ}(h:gS R p p')(k:∀x y,R x y->S (f x) (f' y)):gS S (Cae.pb p λx=>Cae.pr (f x)) (Cae.pb p' λy=>Cae.pr (f' y)):=λl z l' e=>by
 obtain⟨x,l1,e1,e2⟩:=dq e;cases e2;obtain⟨a,ane,na,rfl,ha⟩:=h l x l' e1;refine⟨a,ane,na,rfl,λmY l2 hp=>?_⟩;obtain⟨y,hy,ey⟩:=ha mY l2 hp;exact⟨f' y,k x y hy,by rw[aH ey];rfl⟩
theorem Lo.ay {c c':List Tok->Bool}{p1 p2:Pa α}{p1' p2':Pa β}(hc:∀a b,yY a b->c a=c' b)(h1:Lo R p1 p1')(h2:Lo R p2 p2'):Lo R (ay c p1 p2) (ay c' p1' p2'):=λl x l' e=>by
 unfold Cae.ay at e;cases j1:c l with
 | true =>
  rw[j1]at e;obtain⟨a,na,rfl,ha⟩:=h1 l x l' e;refine⟨a,na,rfl,λmY l2 hp hh=>?_⟩;obtain⟨y,hy,ey⟩:=ha mY l2 hp hh;refine⟨y,hy,?_⟩;unfold Cae.ay;rw[<-hc _ _ (yY.app hp hh),j1];exact ey
 | false =>
  rw[j1]at e;obtain⟨a,na,rfl,ha⟩:=h2 l x l' e;refine⟨a,na,rfl,λmY l2 hp hh=>?_⟩;obtain⟨y,hy,ey⟩:=ha mY l2 hp hh;refine⟨y,hy,?_⟩;unfold Cae.ay;rw[<-hc _ _ (yY.app hp hh),j1];exact ey
theorem gS.ay {c c':List Tok->Bool}{p1 p2:Pa α}{p1' p2':Pa β}(hc:∀a b,yY a b->c a=c' b)(h1:gS R p1 p1')(h2:gS R p2 p2'):gS R (ay c p1 p2) (ay c' p1' p2'):=λl x l' e=>by
 unfold Cae.ay at e;cases j1:c l with
 | true =>
  rw[j1]at e;obtain⟨a,ane,na,rfl,ha⟩:=h1 l x l' e;refine⟨a,ane,na,rfl,λmY l2 hp=>?_⟩;obtain⟨y,hy,ey⟩:=ha mY l2 hp;refine⟨y,hy,?_⟩;unfold Cae.ay;rw[<-hc _ _ (yY.apps hp ane _ _),j1];exact ey
 | false =>
  rw[j1]at e;obtain⟨a,ane,na,rfl,ha⟩:=h2 l x l' e;refine⟨a,ane,na,rfl,λmY l2 hp=>?_⟩;obtain⟨y,hy,ey⟩:=ha mY l2 hp;refine⟨y,hy,?_⟩;unfold Cae.ay;rw[<-hc _ _ (yY.apps hp ane _ _),j1];exact ey
theorem Lo.dW:Lo (λt u=>key t=key u) dW dW:=λl x l' e=>by
 cases e;refine⟨[],by simp[HU],rfl,λmY l2 hp hh=>?_⟩;have:mY=[]:=List.length_eq_zero_iff.1 hp.len.symm;subst this;exact⟨hd l2,hh,rfl⟩
theorem gS.pop:gS (λ_ _=>True) cM cM:=λl x l' e=>by
 cases l with
 | nil=>cases e
 | cons t r =>
  by_cases h5:t.kind=5
  ·simp[cM,h5]at e
  have e':cM (t::r)=.ok ((),r):=by simp[cM,h5]
  rw[e']at e;cases e;refine⟨[t],by simp,by simpa[HU] using h5,rfl,λmY l2 hp=>⟨(),trivial,?_⟩⟩;cases mY with
  | nil=>simp[vQ]at hp
  | cons u v =>
   have hv:v=[]:=by
    have:=hp.len;simpa using this.symm
   subst hv;have hk:t.kind=u.kind:=by
    simp only[vQ,List.map_cons,List.map_nil,List.cons.injEq,key,Prod.mk.injEq]at hp;exact hp.1.1
   show cM (u::l2)=_
   have Sk:¬u.kind=5:=by rw[<-hk];exact h5
   simp[cM,Sk]
end
theorem yY.kind {a b:List Tok}(h:yY a b):(hd a).kind=(hd b).kind:=(Prod.mk.inj h).1
theorem yY.text {a b:List Tok}(h:yY a b):(hd a).text=(hd b).text:=(Prod.mk.inj h).2
theorem zk (k:Nat)(a b:List Tok)(h:yY a b):isKind k a=isKind k b:=by unfold isKind;rw[h.kind]
theorem jU (s:List UInt8)(a b:List Tok)(h:yY a b):dT s a=dT s b:=by unfold dT;rw[h.kind,h.text]
theorem Et (a b:List Tok)(h:yY a b):j5 a=j5 b:=by unfold j5;rw[h.kind,h.text]
theorem aDs (a b:List Tok)(h:yY a b):Dt a=Dt b:=by unfold Dt;rw[h.text]
theorem ZS (a b:List Tok)(h:yY a b):lJ a=lJ b:=by unfold lJ;rw[zk 3 a b h,Et a b h,jU _ a b h,jU _ a b h,jU _ a b h]
theorem aDt (a b:List Tok)(h:yY a b):jH a=jH b:=by unfold jH;rw[zk 3 a b h,Et a b h]
def KE (k k2:ao):Prop:=∀a,e9 k a=e9 k2 a
def PE (x x2:aF):Prop:=∀n,aW x n=aW x2 n
theorem KE.not {p p2:Nat}{k k2:ao}(h:KE k k2):KE (.not p k) (.not p2 k2):=λa=>by simp only[e9];rw[h]
theorem KE.bin {c p p2:Nat}{k k2 r r2:ao}(h:KE k k2)(h':KE r r2):KE (.bin c p k r) (.bin c p2 k2 r2):=λa=>by simp only[e9];rw[h,h']
theorem Xb {l m:List aF}(h:cU PE l m)(n:Nat):ar l n=ar m n:=by
 induction h with
 | nil=>rfl
 | cons h1 _ ih=>simp only[ar];rw[h1,ih]
theorem PE.cat {l m:List aF}(h:cU PE l m):PE (.cat l) (.cat m):=λn=>by simp only[aW];rw[Xb h]
theorem PE.alt {l m:List aF}(h:cU PE l m):PE (.alt l) (.alt m):=λn=>by simp only[aW];rw[Xb h]
theorem PE.many {x x2:aF}{lo hi:Int}(h:PE x x2):PE (.many x lo hi) (.many x2 lo hi):=λn=>by simp only[aW];rw[h]
theorem PE.one {k k2:ao}(h:KE k k2):PE (.one k) (.one k2):=λn=>by simp only[aW];rw[h]
theorem PE.row {l m:List aF}(h:cU PE l m):PE (rowOf l) (rowOf m):=by
 cases h with
 | nil=>exact PE.cat .nil
 | cons h1 h2=>cases h2 with
  | nil=>exact h1
  | cons h3 h4=>exact PE.cat (.cons h1 (.cons h3 h4))
theorem PE.jT {l m:List aF}(h:cU PE l m):PE (jT l) (jT m):=by
 cases h with
 | nil=>exact PE.alt .nil
 | cons h1 h2=>cases h2 with
  | nil=>exact h1
  | cons h3 h4=>exact PE.alt (.cons h1 (.cons h3 h4))
def TT {α β:Type}:α->β->Prop:=λ_ _=>True
theorem ft:gS TT cM cM:=gS.pop
theorem iE (s:List UInt8):gS TT (dB s) (dB s):=gS.ay (jU s) ft gS.fail
theorem GQ:gS Eq mX mX:=gS.ay Et (gS.ay aDs gS.fail (gS.pb Lo.dW λt u h=>gS.map ft λ_ _ _=>(Prod.mk.inj h).2)) gS.fail
theorem aFA:Lo Eq tj tj:=Lo.ay (jU _) (gS.map ft λ_ _ _=>rfl).lo (Lo.ay (jU _) (gS.map ft λ_ _ _=>rfl).lo (Lo.ay (jU _) (gS.map ft λ_ _ _=>rfl).lo (Lo.pr rfl)))
theorem xd {one XI:Pa ao}(h:Lo KE one XI)(a b:Nat):∀(n:Nat) (k k2:ao),KE k k2->Lo KE (dM one a n k) (dM XI b n k2)
 | 0,_,_,_=>Lo.fail
 | n+1,k,k2,hk=>Lo.pb aFA λc c2 e=>by
   subst e;by_cases h0:c=0
   ·rw[if_pos h0,if_pos h0];exact Lo.pr hk
   rw[if_neg h0,if_neg h0];exact Lo.pb h λr r2 hr=>xd h a b n _ _ (KE.bin hk hr)
theorem Au {one XI:Pa ao}(h:Lo KE one XI):Lo KE (sG one) (sG XI):=Lo.pb Lo.dW λ_ _ _=>Lo.pb h λk k2 hk=>xd h _ _ _ _ _ hk
theorem Wl:gS KE GP GP:=gS.pb Lo.dW λt u h=>by
 have ht:t.text=u.text:=(Prod.mk.inj h).2;rw[ht];cases Gk u.text with
 | none=>exact gS.fail
 | some s=>exact gS.map ft λ_ _ _ a=>rfl
theorem pI:∀d,Lo KE (lH d) (lH d)
 | 0=>Lo.fail
 | d+1=>Lo.ay (zk 3) Wl.lo (Lo.ay (jU _) (Lo.pb Lo.dW λ_ _ _=>Lo.pb ft.lo λ_ _ _=>Lo.pb (pI d) λk k2 h=>Lo.pr (KE.not h))
   (Lo.ay (jU _) (Lo.pb ft.lo λ_ _ _=>Lo.pb (Au (pI d)) λk k2 h=>(gS.map (iE _) λ_ _ _=>h).lo)
    (Lo.pb Lo.dW λ_ _ _=>(gS.map GQ λn n2 e a=>by simp only[e9];exact e).lo)))
theorem JK:gS Eq j8 j8:=gS.ay (zk 2) (gS.pb Lo.dW λt u h=>by
 have ht:t.text=u.text:=(Prod.mk.inj h).2;rw[ht];by_cases h0:12<yD u.text
 ·rw[if_pos h0];exact gS.fail
 rw[if_neg h0];exact gS.map ft λ_ _ _=>rfl) gS.fail
theorem rQ:Lo Eq dC dC:=Lo.pb JK.lo λlo lo2 e=>by
 subst e;refine Lo.ay (jU _) (Lo.pb ft.lo λ_ _ _=>Lo.ay (zk 2) (Lo.pb JK.lo λhi hi2 e=>?_) (gS.map (iE _) λ_ _ _=>rfl).lo) (gS.map (iE _) λ_ _ _=>rfl).lo;subst e;by_cases h0:hi<lo
 ·rw[if_pos h0];exact Lo.fail
 rw[if_neg h0];exact(gS.map (iE _) λ_ _ _=>rfl).lo
theorem RA:Lo Eq eK eK:=Lo.ay (jU _) (gS.map ft λ_ _ _=>rfl).lo (Lo.ay (jU _) (gS.map ft λ_ _ _=>rfl).lo (Lo.ay (jU _) (gS.map ft λ_ _ _=>rfl).lo
 (Lo.ay (jU _) (Lo.pb ft.lo λ_ _ _=>Lo.pb rQ λr r2 e=>Lo.pr (by rw[e])) (Lo.pr rfl))))
theorem pH (d:Nat):∀(n c:Nat) (x x2:aF),PE x x2->Lo PE (bW d n c x) (bW d n c x2)
 | 0,_,_,_,_=>Lo.fail
 | n+1,c,x,x2,h=>Lo.pb RA λr r2 e=>by
   subst e;cases r with
   | none=>exact Lo.pr h
   | some q =>
    show Lo PE (if d<=c+1 then _ else _) (if d<=c+1 then _ else _)
    by_cases h0:d<=c+1
    ·rw[if_pos h0,if_pos h0];exact Lo.fail
    rw[if_neg h0,if_neg h0];exact pH d n (c+1) _ _ (PE.many h)
theorem Ds {d:Nat}{unit KT:Pa aF}(h:Lo PE unit KT):Lo PE (aV d unit) (aV d KT):=Lo.pb h λx x2 hx=>pH d _ _ _ _ hx
theorem Av {again zN:Pa aF}(h:Lo PE again zN):∀(n:Nat) (a b:List aF),cU PE a b->Lo (cU PE) (bI again n a) (bI zN n b)
 | 0,_,_,_=>Lo.fail
 | n+1,a,b,hab=>Lo.ay ZS (Lo.pb h λx x2 hx=>Av h n _ _ (hab.snoc hx)) (Lo.pr hab)
theorem Ns {again zN:Pa aF}(h:Lo PE again zN):Lo PE (iR again) (iR zN):=Lo.pb (Av h _ _ _ .nil) λ_ _ hx=>Lo.pr (PE.row hx)
theorem As {row Xw:Pa aF}(h:Lo PE row Xw):∀(n:Nat) (a b:List aF),cU PE a b->Lo (cU PE) (eV row n a) (eV Xw n b)
 | 0,_,_,_=>Lo.fail
 | n+1,a,b,hab=>Lo.ay (jU _) (Lo.pb ft.lo λ_ _ _=>Lo.pb h λx x2 hx=>As h n _ _ (hab.snoc hx)) (Lo.pr hab)
theorem aA3 {row Xw:Pa aF}(h:Lo PE row Xw):Lo PE (Kt row) (Kt Xw):=Lo.pb h λx x2 hx=>Lo.pb (As h _ _ _ (.cons hx .nil)) λ_ _ hx=>Lo.pr (PE.jT hx)
theorem GR {d:Nat}{unit KT:Pa aF}(h:Lo PE unit KT):Lo PE (BQ d unit) (BQ d KT):=by
 unfold BQ;by_cases h0:d=0
 ·rw[if_pos h0,if_pos h0];exact Lo.fail
 rw[if_neg h0,if_neg h0];exact aA3 (Ns (Ds h))
theorem yw:∀d,Lo PE (aq d) (aq d)
 | 0=>Lo.fail
 | d+1=>Lo.ay (jU _) (gS.map ft λ_ _ _ _=>rfl).lo (Lo.ay (jU _) (gS.map ft λ_ _ _ _=>rfl).lo
   (Lo.ay (jU _) (Lo.pb ft.lo λ_ _ _=>Lo.pb (GR (yw d)) λx x2 h=>(gS.map (iE _) λ_ _ _=>h).lo)
    (Lo.ay aDt (Lo.pb (pI (d+1)) λk k2 h=>Lo.pr (PE.one h)) Lo.fail)))
theorem Wm (d:Nat):Lo PE (qh d) (qh d):=GR (yw d)
theorem aA5:gS Eq gZ gZ:=gS.ay (jU _) (gS.map ft λ_ _ _=>rfl) (gS.map (iE _) λ_ _ _=>rfl)
def RE (r r2:cD):Prop:=fw r=fw r2
theorem aA4:gS RE lO lO:=gS.pb Lo.dW λt t2 _=>gS.pb aA5.lo λb b2 e=>gS.pb (Wm 9) λx x2 hx=>gS.pb (iE _).lo λ_ _ _=>gS.pb (Wm 9) λy y2 hy=>gS.map (iE _) λ_ _ _=>by
 subst e
 show fw _=fw _
 unfold fw;rw[hx 0,hy 0]
inductive Tk:Nat->List UInt8->List Tok->Prop
 | nil (i):Tk i [] []
 | blank {i c r l}:(c=32\/c=10)->Tk (i+1) r l->Tk i (c::r) l
 | note {i c r l}:¬(c=32\/c=10)->c=35->Tk (i+je (· != 10) (c::r)) ((c::r).drop (je (· != 10) (c::r))) l->Tk i (c::r) l
 | tok {i c r l}:¬(c=32\/c=10)->¬c=35->(gY (c::r)).2≠0->Tk (i+(gY (c::r)).2) ((c::r).drop (gY (c::r)).2) l->Tk i (c::r) (⟨(gY (c::r)).1,(c::r).take (gY (c::r)).2,i⟩::l)
theorem vA (f:UInt8->Bool)(s:List UInt8):je f s<=s.length:=by
 unfold je
 have:=List.takeWhile_append_dropWhile (p:=f) (l:=s);have h:=congrArg List.length this;rw[List.length_append]at h;omega
theorem YA {f:UInt8->Bool}{c:UInt8}{r:List UInt8}(h:f c=true):0<je f (c::r):=by
 unfold je;rw[List.takeWhile_cons,if_pos h,List.length_cons];omega
theorem FC {s:List UInt8}{c:UInt8}(h:s.contains c=true):je (· != c) s<s.length:=by
 induction s with
 | nil=>simp at h
 | cons x s ih =>
  unfold je at *
  by_cases hx:x=c
  ·subst hx;simp[List.takeWhile_cons]
  have h':s.contains c=true:=by
   rw[List.contains_cons]at h;have:(c == x)=false:=by simpa using Ne.symm hx
   rw[this]at h;simpa using h
  rw[List.takeWhile_cons,if_pos (by simpa using hx),List.length_cons,List.length_cons]
  have:=ih h';omega
theorem pN (c:UInt8)(r:List UInt8):gY (c::r)=if j4 c then (1,je (λc=>j4 c || eM c) (c::r)) else if eM c then (2,je eM (c::r))
  else if c=91 then (3,if (c::r).contains 93 then je (· != 93) (c::r)+1 else 0) else if JO.contains c then (4,1) else (4,0):=rfl
theorem um (c:UInt8)(r:List UInt8):(gY (c::r)).2<=(c::r).length:=by
 rw[pN];split
 ·exact vA _ _
 split
 ·exact vA _ _
 split
 ·split
  ·rename_i h;exact FC h
  simp
 split<;>simp
theorem jv:∀(n i:Nat) (s:List UInt8) (acc r:List Tok),acc.length<=500->lg n i s acc=.ok r->∃l,Tk i s l/\r=acc++l++[⟨5,[],i+s.length⟩]/\acc.length+l.length<=500
 | 0,_,_,_,_,_,h=>by cases h
 | n+1,i,[],acc,r,ha,h=>by
   cases h;exact⟨[],.nil i,by simp,by simpa using ha⟩
 | n+1,i,c::s,acc,r,ha,h=>by
   unfold lg at h;by_cases h1:c=32\/c=10
   ·rw[if_pos h1]at h;obtain⟨l,hl,e,hn⟩:=jv n _ _ _ _ ha h;exact⟨l,.blank h1 hl,by rw[e,List.length_cons,Nat.add_right_comm,Nat.add_assoc],hn⟩
   rw[if_neg h1]at h;by_cases h2:c=35
   ·rw[if_pos h2]at h;obtain⟨l,hl,e,hn⟩:=jv n _ _ _ _ ha h
    have:=vA (· != 10) (c::s);exact⟨l,.note h1 h2 hl,by rw[e,List.length_drop,Nat.add_assoc,Nat.add_sub_cancel' this],hn⟩
   rw[if_neg h2]at h;by_cases h3:(gY (c::s)).2=0
   ·rw[if_pos h3]at h;cases h
   rw[if_neg h3]at h;by_cases h4:acc.length=500
   ·rw[if_pos h4]at h;cases h
   rw[if_neg h4]at h;obtain⟨l,hl,e,hn⟩:=jv n _ _ _ _ (by rw[List.length_append,List.length_singleton];omega) h
   have:=um c s;exact⟨_::l,.tok h1 h2 h3 hl,by rw[e,List.length_drop,Nat.add_assoc,Nat.add_sub_cancel' this];simp,by rw[List.length_append,List.length_singleton]at hn;rw[List.length_cons];omega⟩
theorem Tk.shift {i:Nat}{s:List UInt8}{l:List Tok}(h:Tk i s l):∀j,∃m,Tk j s m/\vQ l m:=by
 induction h with
 | nil i=>exact λj=>⟨[],.nil j,rfl⟩
 | @blank i c r l h1 hl ih=>exact λj=>by obtain⟨m,hm,e⟩:=ih (j+1);exact⟨m,.blank h1 hm,e⟩
 | @note i c r l h1 h2 hl ih=>exact λj=>by obtain⟨m,hm,e⟩:=ih (j+je (· != 10) (c::r));exact⟨m,.note h1 h2 hm,e⟩
 | @tok i c r l h1 h2 h3 hl ih =>
  intro j;obtain⟨m,hm,e⟩:=ih (j+(gY (c::r)).2);exact⟨_,.tok h1 h2 h3 hm,by unfold vQ at *;rw[List.map_cons,List.map_cons,e];rfl⟩
theorem Tk.inside {i:Nat}{s:List UInt8}{l:List Tok}(h:Tk i s l):∀t∈l,t.text <:+: s:=by
 induction h with
 | nil i=>simp
 | @blank i c r l h1 hl ih=>exact λt ht=>(ih t ht).trans (List.suffix_cons c r).isInfix
 | @note i c r l h1 h2 hl ih=>exact λt ht=>(ih t ht).trans (List.drop_suffix _ _).isInfix
 | @tok i c r l h1 h2 h3 hl ih =>
  intro t ht;rcases List.mem_cons.1 ht with rfl|ht
  ·exact(List.take_prefix _ _).isInfix
  exact(ih t ht).trans (List.drop_suffix _ _).isInfix
def yW (l:List Tok):Nat:=(l.map λt=>t.text.length).sum
theorem Tk.sum {i:Nat}{s:List UInt8}{l:List Tok}(h:Tk i s l):yW l<=s.length/\∀t∈l,0<t.text.length:=by
 induction h with
 | nil i=>simp[yW]
 | @blank i c r l h1 hl ih=>exact⟨by rw[List.length_cons];omega,ih.2⟩
 | @note i c r l h1 h2 hl ih=>exact⟨by have:=ih.1;rw[List.length_drop]at this;omega,ih.2⟩
 | @tok i c r l h1 h2 h3 hl ih =>
  have h4:=um c r;have h5:=ih.1;rw[List.length_drop]at h5;have h6:((c::r).take (gY (c::r)).2).length=(gY (c::r)).2:=by rw[List.length_take];omega
  refine⟨?_,λt ht=>?_⟩
  ·have:yW (⟨(gY (c::r)).1,(c::r).take (gY (c::r)).2,i⟩::l)=((c::r).take (gY (c::r)).2).length+yW l:=by simp[yW]
   rw[this,h6];omega
  rcases List.mem_cons.1 ht with rfl|ht
  ·show 0<((c::r).take (gY (c::r)).2).length
   rw[h6];omega
  exact ih.2 t ht
theorem Ro {s:List UInt8}{f:dw}(h:eO s=.ok f):∃l l',Tk 0 s l/\l.length<=500/\jB (l++[⟨5,[],s.length⟩])=.ok (f,l')/\isKind 5 l'=true:=by
 unfold eO at h;split at h
 ·cases h
 rename_i l ht;split at h
 ·cases h
 rename_i g l' hf;split at h
 ·rename_i hk;cases h;obtain⟨m,hm,e,hn⟩:=jv _ _ _ _ _ (by simp) ht;simp only[List.nil_append,Nat.zero_add]at e;subst e;exact⟨m,l',hm,by simpa using hn,hf,hk⟩
 cases h
theorem VC {l l':List Tok}{f:dw}(h:jB l=.ok (f,l')):∃l1 l2,bS 1000 [] l=.ok (f.cQ,l1)/\bR 1000 [] l1=.ok (f.rules,l2)/\oD l2=.ok (f.els,l'):=by
 obtain⟨cs,l1,h1,h⟩:=dq h;obtain⟨rs,l2,h2,h⟩:=dq h;obtain⟨b,l3,h3,h⟩:=dq h;cases h;exact⟨l1,l2,h1,h2,h3⟩
theorem Gl {s:List UInt8}{l:List Rg}(h:Gk s=some l):dH s l:=by
 have key:∀l':List Rg,(if aP (-2) l' && gW l' == s then some l' else none)=some l->dH s l:=λl' h=>by
  by_cases hc:(aP (-2) l' && gW l' == s)=true
  ·rw[if_pos hc]at h;obtain rfl:=Option.some.inj h;simp only[Bool.and_eq_true,beq_iff_eq]at hc;exact⟨hc.1,hc.2⟩
  rw[if_neg hc]at h;cases h
 exact key _ h
def W (l:List Tok):Nat:=(l.map λt=>2*t.text.length+9).sum
theorem Eb (t:Tok)(l:List Tok):W (t::l)=2*t.text.length+9+W l:=by simp[W]
def Me {α:Type}(c:Nat)(μ:α->Nat)(p:Pa α):Prop:=∀l x l',p l=.ok (x,l')->μ x+W l'<=W l+c
section
variable {α β:Type} {c d:Nat} {μ:α->Nat} {ν:β->Nat} {p:Pa α} {q:α->Pa β}
theorem Me.pr {x:α}:Me (μ x) μ (pr x):=λl y l' h=>by cases h;omega
theorem Me.fail {e:Nat}:Me c μ (dr e):=λl y l' h=>by cases h
theorem Me.mono (h:Me c μ p)(hc:c<=d):Me d μ p:=λl x l' e=>by have:=h l x l' e;omega
theorem Me.iA {μ':α->Nat}(h:Me c μ p)(hm:∀x,μ' x<=μ x):Me c μ' p:=λl x l' e=>by have:=h l x l' e;have:=hm x;omega
theorem Me.pb {m:Nat}(h:Me c μ p)(k:∀x,Me (μ x+d) ν (q x))(hm:c+d<=m):Me m ν (pb p q):=λl y l' e=>by
 obtain⟨x,l1,e1,e2⟩:=dq e;have h1:=h l x l1 e1;have h2:=k x l1 y l' e2;omega
theorem Me.ay {cc:List Tok->Bool}{p1 p2:Pa α}(h1:Me c μ p1)(h2:Me c μ p2):Me c μ (ay cc p1 p2):=λl x l' e=>by
 unfold Cae.ay at e;split at e
 ·exact h1 l x l' e
 exact h2 l x l' e
theorem Me.dW:Me 0 (λ_=>0) dW:=λl x l' e=>by cases e;dsimp only;omega
theorem tH {l l':List Tok}{x:Unit}(h:cM l=.ok (x,l')):∃t,l=t::l'/\t.kind≠5:=by
 cases l with
 | nil=>cases h
 | cons t r =>
  by_cases h5:t.kind=5
  ·simp[cM,h5]at h
  have e':cM (t::r)=.ok ((),r):=by simp[cM,h5]
  rw[e']at h;cases h;exact⟨t,rfl,h5⟩
theorem Me.pop:Me 0 (λ_=>9) cM:=λl x l' e=>by
 obtain⟨t,rfl,_⟩:=tH e;rw[Eb];dsimp only;omega
theorem Me.aBI:Me 0 (λ_=>0) cM:=Me.pop.iA λ_=>Nat.zero_le _
end
theorem im (s:List UInt8):Me 0 (λ_=>9) (dB s):=Me.ay Me.pop Me.fail
theorem Nu:Me 0 (λn:List UInt8=>n.length+8) mX:=λl n l' e=>by
 unfold mX ay at e;split at e
 ·split at e
  ·cases e
  obtain⟨t,l1,e1,e2⟩:=dq e;cases e1;obtain⟨x,l2,e3,e4⟩:=dq e2;cases e4;obtain⟨t,rfl,_⟩:=tH e3;rw[Eb]
  show t.text.length+8+W l'<=2*t.text.length+9+W l'+0
  omega
 cases e
def kn (k:ao):Nat:=(e9 k true).length+3
theorem Wc (k:ao)(a:Bool):(e9 k a).length+3<=kn k:=by
 unfold kn;cases a with
 | true=>exact Nat.le_refl _
 | false=>cases k<;>simp[e9]<;>omega
theorem aFt (c p:Nat)(k r:ao):kn (.bin c p k r)<=kn k+kn r+2:=by
 have h1:=Wc k false;have h2:=Wc r true;unfold kn at *
 simp only[e9,if_true,List.length_cons,List.length_append,List.length_nil];have:(if c=3 then [32,124,32] else if c=4 then [32,38,32] else [32,45,32]:List UInt8).length=3:=by split<;>(try split)<;>rfl
 rw[this];omega
theorem aFu (p:Nat)(k:ao):kn (.not p k)=kn k+1:=by simp[kn,e9]
theorem aFD:Me 0 (λc:Nat=>if c=0 then 0 else 8) tj:=by
 have h:∀c:Nat,c≠0->Me 0 (λc:Nat=>if c=0 then 0 else 8) (pb cM λ_=>pr c):=λc hc=>Me.pb (d:=0) (Me.pop.iA (μ':=λ_=>8) λ_=>by omega) (λ_=>by have:=Me.pr (μ:=λc:Nat=>if c=0 then 0 else 8) (x:=c);rw[if_neg hc]at this;exact this) (by omega)
 exact Me.ay (h 3 (by decide)) (Me.ay (h 4 (by decide)) (Me.ay (h 5 (by decide)) Me.pr))
theorem xf {one:Pa ao}(h:Me 0 kn one)(pos:Nat):∀(n:Nat) (k:ao),Me (kn k) kn (dM one pos n k)
 | 0,k=>Me.fail
 | n+1,k=>Me.pb (d:=kn k) aFD (λc=>by
   by_cases h0:c=0
   ·rw[if_pos h0,if_pos h0];exact Me.pr.mono (by omega)
   rw[if_neg h0,if_neg h0];refine Me.pb (d:=8+kn k) h (λr=>(xf h pos n _).mono ?_) (by omega)
   have:=aFt c pos k r;omega) (by omega)
theorem JP {one:Pa ao}(h:Me 0 kn one):Me 0 kn (sG one):=Me.pb (d:=0) Me.dW (λt=>Me.pb (d:=0) h (λk=>xf h _ _ _) (by omega)) (by omega)
theorem aFE:Me 0 kn GP:=λl k l' e=>by
 obtain⟨t,l1,e1,e2⟩:=dq e;cases e1;cases hs:Gk (hd l).text with
 | none=>rw[hs]at e2;cases e2
 | some s =>
  rw[hs]at e2;obtain⟨x,l2,e3,e4⟩:=dq e2;cases e4;obtain⟨t,rfl,_⟩:=tH e3;have h1:gW s=t.text:=(Gl hs).2;rw[Eb,<-h1]
  show (gW s).length+3+W l'<=_
  omega
theorem GV:∀d,Me 0 kn (lH d)
 | 0=>Me.fail
 | d+1=>Me.ay aFE (Me.ay (Me.pb (d:=0) Me.dW (λt=>Me.pb (d:=0) Me.pop (λ_=>Me.pb (d:=9) (GV d) (λk=>Me.pr.mono (by rw[aFu];omega)) (by omega)) (by omega)) (by omega))
   (Me.ay (Me.pb (d:=0) Me.aBI (λ_=>Me.pb (d:=0) (JP (GV d)) (λk=>Me.pb (d:=kn k) (im _) (λ_=>Me.pr.mono (by omega)) (by omega)) (by omega)) (by omega))
    (Me.pb (d:=0) Me.dW (λt=>Me.pb (d:=0) Nu (λn=>Me.pr.mono (by show n.length+3<=_;omega)) (by omega)) (by omega))))
def pn (x:aF):Nat:=(aW x 2).length+3
theorem gR (b:Bool)(s:List UInt8):s.length<=(oK b s).length/\(oK b s).length<=s.length+2:=by
 cases b<;>simp[oK]<;>omega
theorem X9 (x:aF)(n:Nat):(aW x n).length+3<=pn x:=by
 unfold pn;cases x with
 | cat l =>
  simp only[aW];by_cases h:1<n
  ·simp[h,oK]
  simp[h,oK]
 | alt l =>
  simp only[aW];have h0:0<2:=by decide
  have h1:(ar l 1)=ar l 1:=rfl;by_cases h:0<n
  ·simp[h,oK]
  simp[h,oK]
 | _=>simp[aW]
theorem Hi (n:Nat):(PC n).length<=2:=by unfold PC;split<;>(try split)<;>simp
theorem DU (lo hi:Int):(wS lo hi).length<=7:=by
 have h1:=Hi lo.toNat;have h2:=Hi hi.toNat;unfold wS
 repeat' split
 all_goals simp
 all_goals omega
theorem aBG (x:aF)(lo hi:Int):pn (.many x lo hi)<=pn x+7:=by
 have:=DU lo hi;unfold pn;simp only[aW,List.length_append];omega
def CU (l:List aF):Nat:=(l.map pn).sum
theorem KO (l:List aF)(x:aF):CU (l++[x])=CU l+pn x:=by simp[CU]
theorem aA1 (l:List aF)(n:Nat):Go.Lib.lens (ar l n)+3*l.length<=CU l/\(ar l n).length=l.length:=by
 induction l with
 | nil=>simp[ar,Go.Lib.lens,CU]
 | cons x l ih =>
  have:=X9 x n;simp only[ar,Go.Lib.lens,CU,List.map_cons,List.sum_cons,List.length_cons]at *
  omega
theorem join_le (l:List aF)(n:Nat)(sep:List UInt8)(hs:sep.length<=3):(Go.Lib.join (ar l n) sep).length<=CU l:=by
 cases l with
 | nil=>simp[ar,Go.Lib.join_nil]
 | cons x l =>
  have h1:=aA1 (x::l) n;simp only[ar]at *
  rw[Go.Lib.join_length];have h2:sep.length*(ar l n).length<=3*(ar l n).length:=Nat.mul_le_mul_right _ hs;simp only[List.length_cons]at h1;omega
theorem X7 (l:List aF):pn (.cat l)<=CU l+5:=by
 have:=join_le l 2 [32] (by decide)
 have:=(gR (decide (1<2)) (Go.Lib.join (ar l 2) [32])).2;unfold pn;simp only[aW];omega
theorem X5 (l:List aF):pn (.alt l)<=CU l+5:=by
 have:=join_le l 1 [32,124,32] (by decide)
 have:=(gR (decide (0<2)) (Go.Lib.join (ar l 1) [32,124,32])).2;unfold pn;simp only[aW];omega
theorem aFT (l:List aF):pn (rowOf l)<=CU l+5:=by
 match l with
 | []=>exact X7 []
 | [x]=>simp[rowOf,CU]
 | x::y::l=>exact X7 _
theorem X6 (l:List aF):pn (jT l)<=CU l+5:=by
 match l with
 | []=>exact X5 []
 | [x]=>simp[jT,CU]
 | x::y::l=>exact X5 _
theorem JQ:Me 0 (λ_=>0) j8:=Me.ay (Me.pb (d:=0) Me.dW (λt=>by
 by_cases h:12<yD t.text
 ·rw[if_pos h];exact Me.fail
 rw[if_neg h];exact Me.pb (d:=0) Me.aBI (λ_=>Me.pr.mono (by omega)) (by omega)) (by omega)) Me.fail
theorem RG:Me 0 (λ_=>0) dC:=Me.pb (d:=0) JQ (λlo=>Me.ay (Me.pb (d:=0) Me.aBI (λ_=>Me.ay (Me.pb (d:=0) JQ (λhi=>by
 by_cases h:hi<lo
 ·rw[if_pos h];exact Me.fail
 rw[if_neg h];exact Me.pb (d:=0) (im _) (λ_=>Me.pr.mono (by omega)) (by omega)) (by omega)) (Me.pb (d:=0) (im _) (λ_=>Me.pr.mono (by omega)) (by omega))) (by omega)) (Me.pb (d:=0) (im _) (λ_=>Me.pr.mono (by omega)) (by omega))) (by omega)
def sn:Option (Int×Int)->Nat
 | none=>0
 | some _=>8
theorem RH:Me 0 sn eK:=by
 have h:∀r,Me 0 sn (pb cM λ_=>pr (some r)):=λr=>Me.pb (d:=0) (Me.pop.iA (μ':=λ_=>8) λ_=>by omega) (λ_=>Me.pr) (by omega);refine Me.ay (h _) (Me.ay (h _) (Me.ay (h _) (Me.ay ?_ Me.pr)));exact Me.pb (d:=0) (Me.pop.iA (μ':=λ_=>8) λ_=>by omega) (λ_=>Me.pb (d:=8) RG (λr=>Me.pr.mono (by show 8<=_;omega)) (by omega)) (by omega)
theorem uf (d:Nat):∀(n c:Nat) (x:aF),Me (pn x) pn (bW d n c x)
 | 0,_,_=>Me.fail
 | n+1,c,x=>Me.pb (d:=pn x) RH (λr=>by
   cases r with
   | none=>exact Me.pr.mono (by omega)
   | some q =>
    show Me _ pn (if d<=c+1 then _ else _)
    by_cases h0:d<=c+1
    ·rw[if_pos h0];exact Me.fail
    rw[if_neg h0];refine(uf d n (c+1) _).mono ?_
    have:=aBG x q.1 q.2
    show _<=8+pn x
    omega) (by omega)
theorem RF {d:Nat}{unit:Pa aF}(h:Me 0 pn unit):Me 0 pn (aV d unit):=Me.pb (d:=0) h (λx=>uf d _ _ _) (by omega)
theorem Ay {again:Pa aF}(h:Me 0 pn again):∀(n:Nat) (a:List aF),Me (CU a) CU (bI again n a)
 | 0,_=>Me.fail
 | n+1,a=>Me.ay (Me.pb (d:=CU a) h (λx=>(Ay h n _).mono (by rw[KO];omega)) (by omega)) Me.pr
theorem aA9 {again:Pa aF}(h:Me 0 pn again):Me 5 pn (iR again):=Me.pb (d:=5) (Ay h _ _) (λps=>Me.pr.mono (by have:=aFT ps;omega)) (by simp[CU])
theorem Ax {row:Pa aF}(h:Me 5 pn row):∀(n:Nat) (a:List aF),Me (CU a) CU (eV row n a)
 | 0,_=>Me.fail
 | n+1,a=>Me.ay (Me.pb (d:=CU a) Me.pop (λ_=>Me.pb (d:=CU a) h (λx=>(Ax h n _).mono (by rw[KO];omega)) (by omega)) (by omega)) Me.pr
theorem aA7 {row:Pa aF}(h:Me 5 pn row):Me 10 pn (Kt row):=Me.pb (d:=5) h (λx=>Me.pb (d:=5) (Ax h _ _) (λps=>Me.pr.mono (by have:=X6 ps;omega)) (by simp[CU])) (by omega)
theorem Nv {d:Nat}{unit:Pa aF}(h:Me 0 pn unit):Me 10 pn (BQ d unit):=by
 unfold BQ;by_cases h0:d=0
 ·rw[if_pos h0];exact Me.fail
 rw[if_neg h0];exact aA7 (aA9 (RF h))
theorem Wt {p:Pa aF}(h:Me 10 pn p):Me 0 pn (pb cM λ_=>pb p λx=>pb (dB [41]) λ_=>pr x):=λl x l' e=>by
 obtain⟨u,l1,e1,e2⟩:=dq e;obtain⟨y,l2,e3,e4⟩:=dq e2;obtain⟨v,l3,e5,e6⟩:=dq e4;cases e6;have a1:=Me.pop _ _ _ e1;have a2:=h _ _ _ e3;have a3:=im _ _ _ _ e5;dsimp only at a1 a3;omega
theorem Ny:∀d,Me 0 pn (aq d)
 | 0=>Me.fail
 | d+1=>Me.ay (Me.pb (d:=0) Me.pop (λ_=>Me.pr.mono (by decide)) (by omega)) (Me.ay (Me.pb (d:=0) Me.pop (λ_=>Me.pr.mono (by decide)) (by omega))
   (Me.ay (Wt (Nv (Ny d)))
    (Me.ay (Me.pb (d:=0) (GV (d+1)) (λk=>Me.pr.mono (by show (aW (.one k) 2).length+3<=_;simp only[aW];unfold kn;omega)) (by omega)) Me.fail)))
theorem Wu (d:Nat):Me 10 pn (qh d):=Nv (Ny d)
def rn (r:cD):Nat:=(fw r).length
theorem aJ9 (r:cD):rn r<=pn r.before+pn r.after+5:=by
 have h1:=X9 r.before 0;have h2:=X9 r.after 0;have a:(if r.brk=true then [98,114,101,97,107,32] else [107,101,101,112,32]:List UInt8).length<=6:=by split<;>simp
 have b:(if aW r.before 0=[] then [] else aW r.before 0++[32]:List UInt8).length<=(aW r.before 0).length+1:=by split<;>simp
 have c:(if aW r.after 0=[] then [] else 32::aW r.after 0:List UInt8).length<=(aW r.after 0).length+1:=by split<;>simp
 have e:rn r=(if r.brk=true then [98,114,101,97,107,32] else [107,101,101,112,32]:List UInt8).length+(if aW r.before 0=[] then [] else aW r.before 0++[32]:List UInt8).length+1+(if aW r.after 0=[] then [] else 32::aW r.after 0:List UInt8).length+2:=by
  unfold rn fw;rw[List.length_append,List.length_append,List.length_append,List.length_append];rfl
 omega
theorem Nw:Me 0 (λ_=>9) gZ:=Me.ay (Me.pb (d:=0) Me.pop (λ_=>Me.pr.mono (by omega)) (by omega)) (Me.pb (d:=0) (im _) (λ_=>Me.pr.mono (by omega)) (by omega))
theorem aBa:Me 0 rn lO:=λl r l' e=>by
 obtain⟨t,l0,e0,e⟩:=dq e;obtain⟨b,l1,e1,e⟩:=dq e;obtain⟨x,l2,e2,e⟩:=dq e;obtain⟨_,l3,e3,e⟩:=dq e;obtain⟨y,l4,e4,e⟩:=dq e;obtain⟨_,l5,e5,e⟩:=dq e;cases e;cases e0;have a1:=Nw _ _ _ e1;have a2:=Wu _ _ _ _ e2;have a3:=im _ _ _ _ e3;have a4:=Wu _ _ _ _ e4;have a5:=im _ _ _ _ e5;have a6:rn ⟨(hd l).pos,b,x,y⟩<=pn x+pn y+5:=aJ9 ⟨(hd l).pos,b,x,y⟩;simp only at a1 a3 a5;omega
def cn (c:fA):Nat:=(vU c).length
theorem Ws:Me 0 cn nZ:=λl r l' e=>by
 obtain⟨t,l0,e0,e⟩:=dq e;obtain⟨_,l1,e1,e⟩:=dq e;obtain⟨n,l2,e2,e⟩:=dq e;obtain⟨_,l3,e3,e⟩:=dq e;obtain⟨k,l4,e4,e⟩:=dq e;obtain⟨_,l5,e5,e⟩:=dq e;cases e;cases e0;have a1:=im _ _ _ _ e1;have a2:=Nu _ _ _ e2;have a3:=im _ _ _ _ e3;have a4:=JP (GV 9) _ _ _ e4;have a5:=im _ _ _ _ e5
 have:=Wc k false;dsimp only at a1 a2 a3 a5;simp only[cn,vU,List.length_append,List.length_cons,List.length_nil];omega
theorem xg:∀(n:Nat) (acc:List cD),Me (acc.map rn).sum (λl=>(l.map rn).sum) (bR n acc)
 | 0,_=>Me.fail
 | n+1,acc=>Me.ay (by
   by_cases h:acc.length=20
   ·rw[if_pos h];exact Me.fail
   rw[if_neg h];intro l x l' e;obtain⟨r,l1,e1,e2⟩:=dq e;have a1:=aBa _ _ _ e1;have a2:=xg n _ _ _ _ e2;simp only[List.map_append,List.sum_append,List.map_cons,List.map_nil,List.sum_cons,List.sum_nil,List.length_append,List.length_cons,List.length_nil]at a2;dsimp only;omega) Me.pr
theorem ug:∀(n:Nat) (acc:List fA),Me (acc.map cn).sum (λl=>(l.map cn).sum) (bS n acc)
 | 0,_=>Me.fail
 | n+1,acc=>Me.ay (by
   by_cases h:acc.length=20
   ·rw[if_pos h];exact Me.fail
   rw[if_neg h];intro l x l' e;obtain⟨r,l1,e1,e2⟩:=dq e;have a1:=Ws _ _ _ e1;have a2:=ug n _ _ _ _ e2;simp only[List.map_append,List.sum_append,List.map_cons,List.map_nil,List.sum_cons,List.sum_nil]at a2;dsimp only;omega) Me.pr
theorem aA8:Me 0 (λ_=>0) oD:=Me.ay (Me.pb (d:=0) Me.aBI (λ_=>Me.pb (d:=0) (Nw.iA (μ':=λ_=>0) (λ_=>by omega)) (λ_=>Me.pb (d:=0) (im _) (λ_=>Me.pr.mono (by omega)) (by omega)) (by omega)) (by omega)) Me.pr
theorem D3 {α:Type}(f:α->List UInt8)(l:List α):(l.flatMap f).length=(l.map λx=>(f x).length).sum:=by
 rw[List.length_flatMap]
theorem YT {s:List UInt8}{f:dw}(h:eO s=.ok f):(mM f).length<=11*s.length+60:=by
 obtain⟨l,l',tl,hn,hf,_⟩:=Ro h;obtain⟨l1,l2,h1,h2,h3⟩:=VC hf;have a1:=ug _ _ _ _ _ h1;have a2:=xg _ _ _ _ _ h2;have a3:=aA8 _ _ _ h3;simp only[List.map_nil,List.sum_nil,List.length_nil]at a1 a2;have hW:W (l++[⟨5,[],s.length⟩])<=11*s.length+9:=by
  obtain⟨s1,s2⟩:=tl.sum;have:∀l:List Tok,(∀t∈l,0<t.text.length)->W (l++[⟨5,[],s.length⟩])<=11*yW l+9:=by
   intro l hl;induction l with
   | nil=>simp[W,yW]
   | cons t l ih =>
    have h1:=ih (λt ht=>hl t (List.mem_cons_of_mem _ ht));have h2:=hl t (by simp);rw[List.cons_append,Eb];have:yW (t::l)=t.text.length+yW l:=by simp[yW]
    omega
  have:=this l s2;omega
 have e:(mM f).length=(f.cQ.map cn).sum+(f.rules.map rn).sum+(tx f.els).length:=by
  unfold mM;rw[List.length_append,List.length_append,D3,D3];rfl
 have e2:(tx f.els).length<=11:=by unfold tx;split<;>simp
 omega
def gB:ao->Prop
 | .lit _ s=>aP (-2) s=true/\s.length<10000000
 | .ref _ _=>True
 | .not _ k=>gB k
 | .bin c _ k r=>gB k/\gB r/\(c=3\/c=4\/c=5)
mutual
def aj:aF->Prop
 | .one k=>gB k
 | .any=>True
 | .fY=>True
 | .cat l=>bz l
 | .alt l=>bz l
 | .many x lo hi=>aj x/\0<=lo/\lo<100/\hi<100/\(hi<0\/lo<=hi)
def bz:List aF->Prop
 | []=>True
 | x::l=>aj x/\bz l
end
end Cae
namespace Cae
theorem fE (l:List aF)(n:Nat):ar l n=l.map (aW · n):=by
 induction l with
 | nil=>rfl
 | cons x l ih=>rw[ar,ih];rfl
theorem Ar:∀{l:List (List UInt8)} {x:List UInt8},x∈l->x.length<=Go.Lib.lens l
 | y::l,x,h=>by
  simp only[Go.Lib.lens,List.map_cons,List.sum_cons];rcases List.mem_cons.1 h with rfl|h
  ·omega
  have:=Ar h;simp only[Go.Lib.lens]at this;omega
theorem qX (l:List (List UInt8))(sep:List UInt8)(hs:1<=sep.length):Go.Lib.lens l<=(Go.Lib.join l sep).length/\l.length<=(Go.Lib.join l sep).length+1:=by
 cases l with
 | nil=>simp[Go.Lib.lens]
 | cons x l =>
  rw[Go.Lib.join_cons,List.length_append,Go.Lib.joinTail_length];have:1*l.length<=sep.length*l.length:=Nat.mul_le_mul_right _ hs;simp only[Go.Lib.lens,List.map_cons,List.sum_cons,List.length_cons];omega
theorem aFV (x:aF):(aW x 2).length<=(aW x 1).length+2:=by
 cases x with
 | cat l =>
  have h1:=(gR (decide (1<2)) (Go.Lib.join (ar l 2) [32])).2;have h2:=(gR (decide (1<1)) (Go.Lib.join (ar l 2) [32])).1;simp only[aW];omega
 | alt l =>
  have h1:=(gR (decide (0<2)) (Go.Lib.join (ar l 1) [32,124,32])).2;have h2:=(gR (decide (0<1)) (Go.Lib.join (ar l 1) [32,124,32])).1;simp only[aW];omega
 | _=>simp[aW]
theorem ED {l:List aF}:(Go.Lib.join (ar l 2) [32]).length+5=pn (.cat l)/\l.length<=pn (.cat l)/\∀x∈l,pn x<=pn (.cat l):=by
 have h0:=qX (ar l 2) [32] (by decide);have h1:(Go.Lib.join (ar l 2) [32]).length+5=pn (.cat l):=by simp[pn,aW,oK]
 refine⟨h1,?_,λx hx=>?_⟩
 ·rw[fE,List.length_map]at h0;rw[fE]at h1;omega
 have:(aW x 2).length<=Go.Lib.lens (ar l 2):=Ar (by rw[fE];exact List.mem_map.2 ⟨x,hx,rfl⟩);have h2:pn x=(aW x 2).length+3:=rfl;omega
theorem EC {l:List aF}:(Go.Lib.join (ar l 1) [32,124,32]).length+5=pn (.alt l)/\l.length<=pn (.alt l)/\∀x∈l,pn x<=pn (.alt l):=by
 have h0:=qX (ar l 1) [32,124,32] (by decide);have h1:(Go.Lib.join (ar l 1) [32,124,32]).length+5=pn (.alt l):=by simp[pn,aW,oK]
 refine⟨h1,?_,λx hx=>?_⟩
 ·rw[fE,List.length_map]at h0;rw[fE]at h1;omega
 have:(aW x 1).length<=Go.Lib.lens (ar l 1):=Ar (by rw[fE];exact List.mem_map.2 ⟨x,hx,rfl⟩);have h2:pn x=(aW x 2).length+3:=rfl
 have:=aFV x;omega
end Cae
namespace Cae
theorem cU.at {α β:Type}{R:α->β->Prop}{l:List α}{m:List β}(h:cU R l m):∀{i:Nat} {y:β},m[i]?=some y->∃x,l[i]?=some x/\R x y:=by
 induction h with
 | nil=>intro i y hy;simp at hy
 | cons h1 _ ih =>
  intro i y hy;cases i with
  | zero=>cases hy;exact⟨_,rfl,h1⟩
  | succ i =>
   obtain⟨x,hx,hr⟩:=ih (i:=i) (y:=y) (by simpa using hy);exact⟨x,by simpa using hx,hr⟩
theorem Pl {α:Type}(f:α->List UInt8){l:List α}{x:α}(h:x∈l):(f x).length<=(l.flatMap f).length:=by
 induction l with
 | nil=>cases h
 | cons y l ih =>
  simp only[List.flatMap_cons,List.length_append];rcases List.mem_cons.1 h with rfl|h
  ·omega
  have:=ih h;omega
theorem OM (x:aF):(aW x 2).length<=(aW x 0).length+2:=by
 cases x with
 | cat l =>
  have h1:=(gR (decide (1<2)) (Go.Lib.join (ar l 2) [32])).2;have h2:=(gR (decide (1<0)) (Go.Lib.join (ar l 2) [32])).1;simp only[aW];omega
 | alt l =>
  have h1:=(gR (decide (0<2)) (Go.Lib.join (ar l 1) [32,124,32])).2;have h2:=(gR (decide (0<0)) (Go.Lib.join (ar l 1) [32,124,32])).1;simp only[aW];omega
 | _=>simp[aW]
theorem aF2 (r:cD):(aW r.before 0).length+(aW r.after 0).length<=(fw r).length/\(fw r).length<=(aW r.before 0).length+(aW r.after 0).length+20:=by
 unfold fw;split<;>split<;>split<;>simp[*]<;>omega
def zK (f:dw):Prop:=(∀c∈f.cQ,gB c.kind)/\∀r∈f.rules,aj r.before/\aj r.after
theorem M4 {x:aF}{lo hi:Int}:pn x<=pn (.many x lo hi):=by
 simp only[pn,aW,List.length_append];omega
theorem Wp {α:Type}{f:α->α}{l:List α}(h:∀r∈l,f r=r):l.map f=l:=by
 induction l with
 | nil=>rfl
 | cons x l ih=>rw[List.map_cons,h x (by simp),ih (λr hr=>h r (by simp[hr]))]
theorem aBN {s:List UInt8}{l:List Rg}(h:dH s l):Gk s=some l:=by
 obtain⟨hr,rfl⟩:=h;have hb:((gW l).drop 1).dropLast=lM l:=by
  unfold gW lM;simp
 have aNK:(if ((gW l).drop 1).dropLast=[] then ([]:List Rg) else (splitB 32 ((gW l).drop 1).dropLast).map λp=>(((iX (mH 45 p).1:Nat):Int),if (mH 45 p).2.2 then ((iX (mH 45 p).2.1:Nat):Int) else ((iX (mH 45 p).1:Nat):Int)))=l:=by
  rw[hb];by_cases h0:lM l=[]
  ·rw[if_pos h0,vT h0]
  rw[if_neg h0,tN hr h0,List.map_map];refine Wp λr hrm=>?_;obtain⟨h1,h2,h3⟩:=rR (by omega) hr r hrm;simp only[Function.comp];by_cases aw:r.1<r.2
  ·rw[LR h1 (by omega) (by omega) aw];simp only[if_true];rw[j2 (by omega),j2 (by omega)];ext<;>simp<;>omega
  rw[FD h1 (by omega) aw];simp only[Bool.false_eq_true,if_false];rw[j2 (by omega)];ext<;>simp<;>omega
 unfold Gk;simp only;rw[aNK,hr];simp
theorem aBM {s:List UInt8}(h:∀l,¬dH s l):Gk s=none:=by
 cases hs:Gk s with
 | none=>rfl
 | some l=>exact absurd (Gl hs) (h l)
theorem EL:∀{s:List Rg} {a:Int},aP a s=true->2*(s.length:Int)<=max 0 (1114113-a)
 | [],a,_=>by simp;omega
 | r::s,a,h=>by
  rw[cC]at h
  have:=EL h.2;have h1:=h.1;simp only[List.length_cons];omega
theorem fu {s:List Rg}(h:aP (-2) s=true):s.length<=557057:=by
 have:=EL h;omega
end Cae
end
section
namespace Go.Vc
open Go.RowKit
section
variable {P:Program} {n:Nat} {ro:Option Nat} {ds:List Deferred}
def AN (ro:Option Nat):Fence:={ Fence.wide with round:=ro }
theorem UL {f:FuncId}{args:Array Value}{w:World}{R:Ending->World->Prop}(h:Calls P f args w R):CallsIn (AN ro) n P f args w R:=(callsIn_wide (n:=n)).2 h
def JJ (ds:List Deferred)(Q:EP):Exit->Act->World->Prop:=λe a w=>a.defers=ds/\Q e a.tmps.toList w
theorem iG (t:Fr)(d:Option Tmp)(v:Value):(Act.mk t.toArray ds).put d v=⟨(put t d v).toArray,ds⟩:=by
 cases d<;>simp[Act.put,put]
theorem mv {a:Act}(h:a.defers=ds):a=⟨a.tmps.toList.toArray,ds⟩:=by cases a;simp_all
theorem Jg {o:Oper}{t:Fr}{K:Value->World->Prop}{Q:EP}{r:Result Next}{next:Act->World->Prop}
  (hn:∀v w',K v w'->next ⟨(put t o.dst v).toArray,ds⟩ w') (h:ql P t K Q r):o.uponIn (AN ro) n P ⟨t.toArray,ds⟩ next (JJ ds Q) r:=by
 cases r with
 | ok x w' =>
  cases x<;>simp only[ql]at h<;>simp only[Oper.uponIn]
  case value v=>rw[iG];exact hn _ _ h
  case skip=>rw[iG];exact hn _ _ h
  case enter f args =>
   refine⟨(λhh=>by cases hh),UL (h.mono λe bU he=>?_)⟩;cases e with
   | returned v=>dsimp only at he ⊢;rw[iG];exact hn _ _ he
   | panicked c=>exact⟨rfl,by simpa using he⟩
   | outgrown=>exact he.elim
 | halt x w' =>
  cases x<;>simp only[ql]at h<;>simp only[Oper.uponIn];exact⟨rfl,by simpa using h⟩
def lf (o:Oper):Bool:=match o.op with|.defer _=>false|_=>true
theorem MQ {o:Oper}(h:lf o=true):∀c,o.op≠.defer c:=λc e=>by simp[lf,e]at h
theorem EW {o:Oper}(h:lf o=true)(ro:Option Nat)(ρ:Operand->Value):Oper.semAt ro ρ o=execOp ρ o:=Oper.semAt_eq ro ρ o (MQ h)
theorem K5 {o:Oper}(hd:lf o=true){t:Fr}{w:World}{K:Value->World->Prop}{Q:EP}{next:Act->World->Prop}
  (hn:∀v w',K v w'->next ⟨(put t o.dst v).toArray,ds⟩ w') (h:cJ P o t w K Q .mk):o.wpIn (AN ro) n P ⟨t.toArray,ds⟩ w next (JJ ds Q):=by
 have h':=G6 h;unfold runK at h';refine⟨λ_ _=>trivial,?_⟩;rw[EW hd,nE];exact Jg hn h'
theorem mh {ops:List Oper}{K:Fr->World->Prop}{Q:EP}{next:Exit->Act->World->Prop}(rest:List Oper)(hn:∀t w,K t w->wpListIn (AN ro) n P ops.toArray next rest ⟨t.toArray,ds⟩ w)(hq:∀e a w,JJ ds Q e a w->next e a w) :
  ∀(l:List Oper),l.all lf=true->∀(t:Fr) (w:World),aU P ops K Q l t w .mk->wpListIn (AN ro) n P ops.toArray next (l++rest) ⟨t.toArray,ds⟩ w
 | [],_,t,w,h=>hn t w h
 | o::r,hd,t,w,h=>by
  simp only[List.all_cons,Bool.and_eq_true]at hd;rw[List.cons_append];have step:∀(t':Fr),Region.wanted o (yielded ops.toArray t'.toArray)=true->cJ P o t' w (λv w'=>aU P ops K Q r (put t' o.dst v) w' .mk) Q .mk->wpListIn (AN ro) n P ops.toArray next (o::(r++rest)) ⟨t'.toArray,ds⟩ w:=λt' hw h'=>by
   unfold wpListIn;rw[if_pos hw]
   have:=K5 (ro:=ro) (n:=n) (ds:=ds) hd.1 (next:=wpListIn (AN ro) n P ops.toArray next (r++rest)) (λv w' hk=>mh rest hn hq r hd.2 _ w' hk) h'
   refine⟨this.1,?_⟩;have h2:=this.2;generalize (Oper.semAt _ _ o).run P w=res at h2 ⊢
   cases res with
   | ok x w' =>
    cases x<;>simp only[Oper.uponIn]at h2 ⊢<;>first|exact h2|skip
    ·exact⟨h2.1,h2.2.mono λe bU he=>by
      cases e with
      | returned v=>exact he
      | panicked c=>exact hq _ _ _ he
      | outgrown=>obtain⟨a₀,w₀,hh⟩:=he;exact⟨a₀,w₀,hq _ _ _ hh⟩⟩
    exact⟨h2.1,h2.2.mono λe bU he=>by
     cases e with
     | returned v=>exact he
     | panicked c=>exact hq _ _ _ he
     | outgrown=>obtain⟨a₀,w₀,hh⟩:=he;exact⟨a₀,w₀,hq _ _ _ hh⟩⟩
   | halt x w'=>cases x<;>simp only[Oper.uponIn]at h2 ⊢<;>first|exact h2|exact hq _ _ _ h2
  have skip:∀(t':Fr),Region.wanted o (yielded ops.toArray t'.toArray)=false->aU P ops K Q r (put t' o.dst undef) w .mk->wpListIn (AN ro) n P ops.toArray next (o::(r++rest)) ⟨t'.toArray,ds⟩ w:=λt' hw h'=>by
   unfold wpListIn;rw[if_neg (by rw[hw];simp),iG];exact⟨λ_ _=>trivial,mh rest hn hq r hd.2 _ w h'⟩
  simp only[aU]at h;split at h
  ·rename_i hg;exact step t (by simp[Region.wanted,hg]) h
  rename_i j want hg;have nJ:∀t':Fr,Region.wanted o (yielded ops.toArray t'.toArray)=(yielded ops.toArray t'.toArray j == some want):=λt'=>by simp only[Region.wanted,hg]
  unfold iP at h;split at h
  ·rename_i hs;exact skip t (by rw[nJ,gI,hs];rfl) h
  rename_i s hs;split at h
  ·rename_i b hb;have aw:s<t.length:=by
    rcases Nat.lt_or_ge s t.length with h'|h'
    ·exact h'
    simp[List.getD_eq_getElem?_getD,List.getElem?_eq_none h',undef]at hb
   have hv:t[s]?=some (.bool b):=by
    rw[List.getD_eq_getElem?_getD]at hb;rw[List.getElem?_eq_getElem aw]at hb ⊢
    simpa using hb
   have hy:yielded ops.toArray t.toArray j=some b:=by rw[gI,hs];simp[hv]
   have same:=kE t s aw;rw[hb]at same;by_cases Sv:b=want
   ·subst Sv;have h1:=h.1 rfl;rw[same]at h1;exact step t (by rw[nJ,hy];simp) h1
   have hbn:b=!want:=by cases b<;>cases want<;>simp_all
   have h2:=h.2 hbn;rw[<-hbn,same]at h2;exact skip t (by rw[nJ,hy];simpa using Sv) h2
  rename_i hb;refine skip t ?_ h;rw[nJ,gI,hs];simp only[Option.bind_some];cases hv:t[s]? with
  | none=>rfl
  | some v =>
   have:t.getD s undef=v:=by rw[List.getD_eq_getElem?_getD,hv];rfl
   rw[this]at hb;cases v<;>simp at hb ⊢
def j6:Code->Bool
 | .skip|.exit _|.ret|.label _|.goto _=>true
 | .region _ ops false=>ops.toList.all lf
 | .seq a b=>j6 a && j6 b
 | .cond _ a b=>j6 a && j6 b
 | .block _ c=>j6 c
 | _=>false
theorem lj:∀(c:Code),j6 c=true->∀(Q:EP) (t:Fr) (w:World),vc P c Q t w .mk->c.wpIn (AN ro) n P (JJ ds Q) ⟨t.toArray,ds⟩ w
 | .skip,_,_,_,_,h=>wpIn_skip ⟨rfl,by simpa[vc] using h⟩
 | .region _ ops false,hp,Q,t,w,h=>by
  refine wpIn_region_list ?_
  have:=mh (P:=P) (n:=n) (ro:=ro) (ds:=ds) (ops:=ops.toList) (K:=Q .normal) (Q:=Q) (next:=JJ ds Q) [] (λt w hk=>⟨rfl,by simpa using hk⟩) (λ_ _ _ h=>h) ops.toList hp t w h
  simpa using this
 | .seq a b,hp,Q,t,w,h=>by
  simp only[j6,Bool.and_eq_true]at hp;refine wpIn_seq (Code.wpIn_mono ?_ (lj a hp.1 _ t w h));rintro e a' w' ⟨hd,hh⟩;cases e<;>simp only[tJ]at hh<;>simp only[Exit.then]<;>first|exact⟨hd,hh⟩|skip
  have:=lj b hp.2 Q _ w' hh;rw[mv hd];exact this
 | .cond c a b,hp,Q,t,w,h=>by
  simp only[j6,Bool.and_eq_true]at hp;simp only[vc]at h;unfold nA at h;split at h
  ·rename_i x hx;exact wpIn_cond_split (t:=x) (by rw[nE];exact hx) (λLr=>lj a hp.1 Q t w (h.1 Lr)) (λLr=>lj b hp.2 Q t w (h.2 Lr))
  exact h.elim
 | .block i c,hp,Q,t,w,h=>by
  refine wpIn_block (Code.wpIn_mono ?_ (lj c hp _ t w h));rintro e a' w' ⟨hd,hh⟩;cases e<;>simp only[jj]at hh<;>simp only[Exit.inBlock]<;>first|exact⟨hd,hh⟩|skip
  split at hh
  ·rename_i e;simp only[e,if_true];exact⟨hd,hh⟩
  rename_i e;simp only[e,if_false];exact⟨hd,hh⟩
 | .exit i,_,_,_,_,h=>wpIn_exit ⟨rfl,by simpa[vc] using h⟩
 | .ret,_,_,_,_,h=>wpIn_ret ⟨rfl,by simpa[vc] using h⟩
 | .label _,_,_,_,_,h=>wpIn_label ⟨rfl,by simpa[vc] using h⟩
 | .goto l,_,_,_,_,h=>wpIn_goto ⟨rfl,by simpa[vc] using h⟩
 | .region _ _ true,hp,_,_,_,_=>by cases hp
 | .loop _,hp,_,_,_,_=>by cases hp
 | .scope _,hp,_,_,_,_=>by cases hp
 | .rangeFunc ..,hp,_,_,_,_=>by cases hp
 | .refuse _,hp,_,_,_,_=>by cases hp
def B8 {α:Type}(Z:Nat->Prop)(I:List α->World->Prop)(Ix:Code->List α->World->Prop)(xs:List α)(W:World):Exit->Act->World->Prop
 | .normal,_,W'=>(∀k,Z k->W'.heap[k]?=W.heap[k]?)/\I xs W'
 | .ret,_,W'=>(∀k,Z k->W'.heap[k]?=W.heap[k]?)/\Ix .ret xs W'
 | .exit id,_,W'=>(∀k,Z k->W'.heap[k]?=W.heap[k]?)/\Ix (.exit id) xs W'
 | .goto t,_,W'=>(∀k,Z k->W'.heap[k]?=W.heap[k]?)/\Ix (.goto t) xs W'
 | _,_,_=>False
theorem yv {X:Nat->Prop}(W:World)(l:Nat)(o:Obj)(hX:X l):Kept X W (W.putObj l o) :=
 ⟨rfl,rfl,rfl,by simp,λk _ hk=>World.putObj_heap_other (λe=>hk (by rw[e];exact hX))⟩
def Iter (P:Program)(n:Nat){α:Type}(gf:Nat)(lb:Array Value)(encs:α->Array Value)(B Z:Nat->Prop)(S Sp:List α->Prop)(A:List α->α->Prop)(w:World):Prop :=
 ∀(l:Nat) (J Jx:List α->World->Prop) (W:World),(∀k,k<w.heap.size->W.heap[k]?=w.heap[k]?)->w.heap.size<=W.heap.size->(∀s A A',J s A->Kept B A A'->J s A')->(∀s A A',Jx s A->Kept B A A'->Jx s A') ->
  (∀pre x W1,J pre W1->A pre x->YieldAt Fence.wide n P l (encs x) W1 λe W' =>
   (e=.returned (.bool true)/\J (pre++[x]) W'/\(∀k,Z k->W'.heap[k]?=W1.heap[k]?)/\W1.heap.size<=W'.heap.size)\/(e=.returned (.bool false)/\Jx (pre++[x]) W')) ->
  J [] W->CallsIn Fence.wide n P gf (#[.func (.yield l) #[] #[]]++lb) W λe W'=>(∃v,e=.returned v)/\((∃xs,S xs/\J xs W')\/(∃pre,Sp pre/\Jx pre W'))
theorem aFX {α:Type}{g:Operand}{ps:Array Tmp}{assign body:Code}{Q:Exit->Act->World->Prop}{a:Act}{w:World}{gf:Nat}{lb:Array Value}(hg:a.eval g=.func (.func gf) #[] lb)(eg:∀args w,(callFunc gf args).run P w=.ok (.enter gf args) w)
  {encs:α->Array Value} (xU:∀x,(encs x).size=ps.size) {B Z:Nat->Prop} {S Sp:List α->Prop} {A:List α->α->Prop} (hB:∀k,B k->k<w.heap.size) (hZ:∀k,Z k->k<w.heap.size) (aFa:Iter P (n-1) gf lb encs B Z S Sp A w)
  (I:List α->World->Prop) (Ix:Code->List α->World->Prop) (hI:∀s W W',I s W->Kept (λk=>B k\/k=w.heap.size\/k=w.heap.size+1) W W'->I s W') (hIx:∀c s W W',Ix c s W->Kept (λk=>B k\/k=w.heap.size\/k=w.heap.size+1) W W'->Ix c s W') (h0:I [] w) (a₁:α->Act)
  (Fi:∀(x:α) (W:World) (K:Act->World->Prop),K (a₁ x) W ->
   assign.wpIn (AN (some (w.heap.size+1))) (n-1) P (Exit.then K (λ_ _ _=>False)) { tmps:=(ps.zip (encs x)).foldl (λt (p,v)=>t.setIfInBounds p v) a.tmps,defers:=[] } W)
  (sB:∀(pre:List α) (x:α) (W:World),I pre W->A pre x->w.heap.size+1<W.heap.size->body.wpIn (AN (some (w.heap.size+1))) (n-1) P (λe a' W'=>W.heap.size<=W'.heap.size/\B8 (λk=>Z k\/k=w.heap.size\/k=w.heap.size+1) I Ix (pre++[x]) W e a' W') (a₁ x) W)
  (uJ:∀(xs:List α) (W:World),S xs->I xs W->W.heap[w.heap.size]?=some (.deferred (some []))->Q .normal { a with defers:={ target:=.collected w.heap.size,args:=#[] }::a.defers } W)
  (WR:∀(c:Code) (pre:List α) (W:World),Sp pre->Ix c pre W->W.heap[w.heap.size]?=some (.deferred (some []))->c.wpIn Fence.wide n P Q { a with defers:={ target:=.collected w.heap.size,args:=#[] }::a.defers } W) :
  (Code.rangeFunc g ps assign body).wpIn Fence.wide n P Q a w:=by
 refine wpIn_rangeFunc ?_;intro fn _;have A7:∃rec:LoopState->Option Code->Loop,rec=λst pe=>{ state:=st,pending:=pe,fn,tmps:=a.tmps,params:=ps,assign,body,defers:=w.heap.size }:=⟨_,rfl⟩;obtain⟨rec,A7⟩:=A7;have hg1:∃W1,(w.alloc (.deferred (some []))).alloc (.loop (rec .ready none))=W1:=⟨_,rfl⟩;obtain⟨W1,hW1⟩:=hg1;have sM:W1.heap.size=w.heap.size+1+1:=by rw[<-hW1];simp
 have hL1:W1.heap[w.heap.size+1]?=some (.loop (rec .ready none)):=by
  rw[<-hW1]
  have:=World.alloc_heap_new (w.alloc (.deferred (some []))) (.loop (rec .ready none));rwa [World.size_alloc]at this
 have hK1:W1.heap[w.heap.size]?=some (.deferred (some [])):=by
  rw[<-hW1];exact(Below.heap_alloc _ _ _ (by simp)).trans (World.alloc_heap_new w _)
 have N9:∀k,k<w.heap.size->W1.heap[k]?=w.heap[k]?:=λk hk=>by
  rw[<-hW1];exact(Below.heap_alloc _ _ _ (by simp;omega)).trans (Below.heap_alloc _ _ _ hk)
 have Na:Kept (λk=>B k\/k=w.heap.size\/k=w.heap.size+1) w W1:=⟨by rw[<-hW1];rfl,by rw[<-hW1];rfl,by rw[<-hW1];rfl,by omega,λk hk _=>N9 k hk⟩;have AW:∀{W:World} (o:Obj),Kept (λk=>B k\/k=w.heap.size\/k=w.heap.size+1) W (W.putObj (w.heap.size+1) o):=λo=>yv _ _ _ (.inr (.inr rfl));have dD:∀{k:Nat},B k->k≠w.heap.size/\k≠w.heap.size+1:=λ{k} hk=>by have:=hB k hk;omega
 refine⟨w.heap.size+1,[{ target:=.collected w.heap.size,args:=#[] }],W1,{ target:=.fn (.func gf) lb,args:=#[.func (.yield (w.heap.size+1)) #[] #[]] },W1,gf,
  #[.func (.yield (w.heap.size+1)) #[] #[]]++lb,W1,?_,?_,λ_ _=>trivial,?_,(λhh=>by cases hh),?_⟩
 ·rw[<-hW1,A7];exact run_enterLoop_outer _ _ _ _ _
 ·simp only[resolve,hg];simp[go_sem]
 ·simp[invoke,go_sem,eg]
 refine(aFa (w.heap.size+1)
  (λpre W=>I pre W/\W.heap[w.heap.size+1]?=some (.loop (rec .ready none))/\W.heap[w.heap.size]?=some (.deferred (some [])))
  (λpre W=>∃c,Ix c pre W/\W.heap[w.heap.size+1]?=some (.loop (rec .done (some c)))/\W.heap[w.heap.size]?=some (.deferred (some [])))
  W1 N9 (by omega) ?_ ?_ ?_ ⟨hI _ _ _ h0 Na,hL1,hK1⟩).mono ?_
 ·rintro s A A' ⟨h1,h2,h3⟩ hk;exact⟨hI _ _ _ h1 (hk.weaken (λi _ h=>.inl h)),(hk.block _ (Array.getElem?_eq_some_iff.1 h2).1 (λh=>(dD h).2 rfl)).trans h2,(hk.block _ (Array.getElem?_eq_some_iff.1 h3).1 (λh=>(dD h).1 rfl)).trans h3⟩
 ·rintro s A A' ⟨c,h1,h2,h3⟩ hk;exact⟨c,hIx _ _ _ _ h1 (hk.weaken (λi _ h=>.inl h)),(hk.block _ (Array.getElem?_eq_some_iff.1 h2).1 (λh=>(dD h).2 rfl)).trans h2,(hk.block _ (Array.getElem?_eq_some_iff.1 h3).1 (λh=>(dD h).1 rfl)).trans h3⟩
 ·rintro pre x W ⟨hi,hl,hk⟩ hlen;have aw:w.heap.size+1<W.heap.size:=(Array.getElem?_eq_some_iff.1 hl).1;have hy:=run_yield (P:=P) (args:=encs x) hl (by rw[A7];exact xU x);rw[A7]at hy;refine⟨fn,_,assign,body,hy,roundIn_of_wpIn trivial (Fi x W _ ⟨_,run_beginRound hl (by rw[A7]),?_⟩)⟩;have hgV:∃V,W.putObj (w.heap.size+1) (.loop { rec .ready none with state:=.busy })=V:=⟨_,rfl⟩;obtain⟨V,hV⟩:=hgV;have hVl:V.heap[w.heap.size+1]?=some (.loop { rec .ready none with state:=.busy }):=by rw[<-hV];exact World.putObj_heap_same aw
  have hVk:V.heap[w.heap.size]?=some (.deferred (some [])):=by rw[<-hV];exact(World.putObj_heap_other (by omega)).trans hk
  have hVs:V.heap.size=W.heap.size:=by rw[<-hV];simp
  have hVo:∀k,k≠w.heap.size+1->V.heap[k]?=W.heap[k]?:=λk h=>by rw[<-hV];exact World.putObj_heap_other h
  rw[hV];refine wpIn_mono (sB pre x V (by rw[<-hV];exact hI _ _ _ hi (AW _)) hlen (by omega)) ?_;have fin:∀(jump:Option Code) (W3:World),V.heap.size<=W3.heap.size->(∀k,Z k\/k=w.heap.size\/k=w.heap.size+1->W3.heap[k]?=V.heap[k]?) ->
    (Instr.endRound (w.heap.size+1) jump).run P W3=.ok (.bool jump.isNone) (W3.putObj (w.heap.size+1) (.loop (rec (if jump.isNone then .ready else .done) jump))) /\
    (W3.putObj (w.heap.size+1) (.loop (rec (if jump.isNone then .ready else .done) jump))).heap[w.heap.size+1]?=some (.loop (rec (if jump.isNone then .ready else .done) jump)) /\
    (W3.putObj (w.heap.size+1) (.loop (rec (if jump.isNone then .ready else .done) jump))).heap[w.heap.size]?=some (.deferred (some [])) /\
    ∀k,Z k->(W3.putObj (w.heap.size+1) (.loop (rec (if jump.isNone then .ready else .done) jump))).heap[k]?=W.heap[k]?:=λjump W3 lW Nh=>by
   have QZ:=(Nh _ (.inr (.inr rfl))).trans hVl;have hr:=run_endRound (P:=P) jump QZ;rw[A7]at hr ⊢
   refine⟨hr,World.putObj_heap_same (by omega),(World.putObj_heap_other (by omega)).trans ((Nh _ (.inr (.inl rfl))).trans hVk),λk hk=>?_⟩
   have:=hZ k hk;exact(World.putObj_heap_other (by omega)).trans ((Nh k (.inl hk)).trans (hVo k (by omega)))
  rintro e a3 W3 ⟨lW,hp⟩;cases e with
  | normal =>
   obtain⟨Nh,hi3⟩:=hp;obtain⟨hr,CT,hk4,Lt⟩:=fin none W3 lW Nh;exact⟨_,_,hr,.inl ⟨rfl,⟨hI _ _ _ hi3 (AW _),CT,hk4⟩,Lt,by simp;omega⟩⟩
  | ret =>
   obtain⟨Nh,hi3⟩:=hp;obtain⟨hr,CT,hk4,Lt⟩:=fin (some .ret) W3 lW Nh;exact⟨_,_,hr,.inr ⟨rfl,.ret,hIx _ _ _ _ hi3 (AW _),CT,hk4⟩⟩
  | exit id =>
   obtain⟨Nh,hi3⟩:=hp;obtain⟨hr,CT,hk4,Lt⟩:=fin (some (.exit id)) W3 lW Nh;exact⟨_,_,hr,.inr ⟨rfl,.exit id,hIx _ _ _ _ hi3 (AW _),CT,hk4⟩⟩
  | goto t =>
   obtain⟨Nh,hi3⟩:=hp;obtain⟨hr,CT,hk4,Lt⟩:=fin (some (.goto t)) W3 lW Nh;exact⟨_,_,hr,.inr ⟨rfl,.goto t,hIx _ _ _ _ hi3 (AW _),CT,hk4⟩⟩
  | panic ch=>exact hp.elim
  | outgrown=>exact hp.elim
 rintro e W2 ⟨⟨v,rfl⟩,(⟨xs,hS,hi,hl,hk⟩|⟨pre,hSp,c,hi,hl,hk⟩)⟩
 ·have hr:=run_endLoop (P:=P) hl (by rw[A7];simp);rw[A7]at hr;exact⟨none,_,hr,uJ xs _ hS (hI _ _ _ hi (AW _)) ((World.putObj_heap_other (by omega)).trans hk)⟩
 have hr:=run_endLoop (P:=P) hl (by rw[A7];simp);rw[A7]at hr;exact⟨some c,_,hr,WR c pre _ hSp (hIx _ _ _ _ hi (AW _)) ((World.putObj_heap_other (by omega)).trans hk)⟩
theorem OK {c:Code}(hp:j6 c=true){Q:Exit->Act->World->Prop}{t:Fr}{w:World}(h:vc P c (λe t w=>Q e ⟨t.toArray,ds⟩ w) t w .mk):c.wpIn (AN ro) n P Q ⟨t.toArray,ds⟩ w :=
 wpIn_mono (lj c hp _ t w h) (by rintro e a w' ⟨hd,hh⟩;rw[mv hd];exact hh)
theorem me {a b:Code}(hp:j6 a=true){Q:Exit->Act->World->Prop}{t:Fr}{w:World}(h:vc P a (tJ (λt w=>b.wpIn (AN ro) n P Q ⟨t.toArray,ds⟩ w) (λe t w=>Q e ⟨t.toArray,ds⟩ w) .mk) t w .mk):(Code.seq a b).wpIn (AN ro) n P Q ⟨t.toArray,ds⟩ w:=by
 refine wpIn_seq (wpIn_mono (lj a hp _ t w h) ?_);rintro e a' w' ⟨hd,hh⟩;cases e<;>simp only[tJ]at hh<;>simp only[Exit.then]<;>(rw[mv hd];exact hh)
theorem SB {m m' l:Nat}{f:FuncId}{tmps:Array Value}{assign body:Code}{w:World}{R:Ending->World->Prop}(h:RoundIn Fence.wide m P l f tmps assign body w R):RoundIn (AN none) m' P l f tmps assign body w R :=
 ⟨trivial,λc cs _=>h.2 c cs (room_wide _)⟩
theorem xy {id l m:Nat}{l1 l2:List Oper}{o:Oper}{x:Operand}{args:Array Operand}{ats:Array TypeId}{Q:Exit->Act->World->Prop}{t:Fr}{w:World}(HI:l1.all lf=true)(hp2:l2.all lf=true)(ho:o.op=.call { callee:=.value x,args,argTypes:=ats })(hg:o.guard=none)
  (h:aU P (l1++o::l2) (λt w=>ev t x=.func (.yield l) #[] #[]/\∃R,YieldAt Fence.wide m P l (args.toList.map (ev t)).toArray w R/\∀e w',R e w'->∃b,e=.returned (.bool b)/\aU P (l1++o::l2) (λt w=>Q .normal ⟨t.toArray,ds⟩ w) (λe t w=>Q e ⟨t.toArray,ds⟩ w) l2 (put t o.dst (.bool b)) w' .mk) (λe t w=>Q e ⟨t.toArray,ds⟩ w) l1 t w .mk) :
  (Code.region id (l1++o::l2).toArray false).wpIn (AN none) n P Q ⟨t.toArray,ds⟩ w:=by
 refine wpIn_region_list ?_;rw[List.toList_toArray];refine mh (ro:=none) (o::l2) ?_ (λe a w hh=>by rw[mv hh.1];exact hh.2) l1 HI t w h;rintro t1 w1 ⟨hx,R,⟨fn,tmps,assign,body,hy,hR⟩,hk⟩;unfold wpListIn;rw[if_pos (by simp[Region.wanted,hg])];refine⟨λ_ _=>trivial,?_⟩;rw[EW (by simp[lf,ho]),nE];have he:(execOp (ev t1) o).run P w1=.ok (.round l fn tmps assign body) w1:=by
  unfold execOp;simp only[ho];have hy':(Instr.yield l (args.map (ev t1))).run P w1=.ok (.round l fn tmps assign body) w1:=by rw[show args.map (ev t1)=(args.toList.map (ev t1)).toArray by rw[<-Array.toList_map]];exact hy
  simp[resolve,hx,invoke,go_sem,hy']
 rw[he];refine⟨(λhh=>by cases hh),(SB hR).mono λe w' hr=>?_⟩;obtain⟨b,rfl,hb⟩:=hk e w' hr
 show wpListIn _ _ _ _ _ _ _ _
 rw[iG]
 have:=mh (P:=P) (n:=n) (ro:=none) (ds:=ds) (ops:=l1++o::l2) (next:=Q) [] (λt w hh=>hh) (λe a w hh=>by rw[mv hh.1];exact hh.2) l2 hp2 _ w' hb
 simpa using this
theorem aFB {c:Code}{Q:Exit->Act->World->Prop}{t:Fr}{w:World}(M:List Nat)(I:(Nat->Value)->World->Prop)(μ:(Nat->Value)->World->Nat)(h0:I (at_ t) w)
  (hr:∀z w',I z w'->c.wpIn (AN ro) n P (λe a' bU=>match e with|.normal=>a'.defers=ds/\a'.tmps.toList=ov t M (at_ a'.tmps.toList)/\I (at_ a'.tmps.toList) bU/\μ (at_ a'.tmps.toList) bU<μ z w'|e=>Q e a' bU) ⟨(ov t M z).toArray,ds⟩ w'):(Code.loop c).wpIn (AN ro) n P Q ⟨t.toArray,ds⟩ w:=by
 refine wpIn_loop (λa w'=>a.defers=ds/\a.tmps.toList=ov t M (at_ a.tmps.toList)/\I (at_ a.tmps.toList) w') (λa w'=>μ (at_ a.tmps.toList) w') ⟨rfl,by simp[aDe],by simpa using h0⟩ ?_;rintro a w' ⟨hd,ht,hI⟩;have h1:=hr _ w' hI;rw[<-ht]at h1;rw[mv hd];refine wpIn_mono h1 ?_;intro e a' bU hh;cases e<;>simp only[Exit.then]<;>first|exact hh|skip
 obtain⟨hd',h1,h2,h3⟩:=hh;exact⟨⟨hd',h1,h2⟩,by simpa using h3⟩
theorem aFx {fn:Func}{rs:List ResultVar}{R:VK}(jO:fn.results=rs.toArray){t:Fr}{w:World}(h:Rt P rs R .mk .ret t w):bodyPostM Fence.wide n P fn (λe w'=>∃v,e=.returned v/\R v w') .ret ⟨t.toArray,[]⟩ w:=by
 obtain⟨vs,hv,hk⟩:=cZ fn rs jO t _ h;exact⟨_,hv,_,rfl,hk⟩
theorem aFy {fn:Func}{rs:List ResultVar}{R:VK}(jO:fn.results=rs.toArray){t:Fr}{w:World}{D:Nat}(hD:w.heap[D]?=some (.deferred (some [])))(h:Rt P rs R .mk .ret t (w.putObj D (.deferred none))):bodyPostM Fence.wide n P fn (λe w'=>∃v,e=.returned v/\R v w') .ret ⟨t.toArray,[{ target:=.collected D,args:=#[] }]⟩ w:=by
 obtain⟨vs,hv,hk⟩:=cZ fn rs jO t _ h;exact⟨by simp,.inl ⟨_,_,rfl,run_takeDeferred hD,_,hv,_,rfl,hk⟩⟩
theorem Pp {f:FuncId}{fn:Func}{c:Code}{args:List Value}{w:World}{R:VK}(hf:P.funcs[f]?=some fn)(hb:fn.body=some c)(hn:(fn.name == "runtime.NumGoroutine")=false)
  (h:c.wpIn (AN none) 0 P (bodyPostM Fence.wide 0 P fn (λe w'=>∃v,e=.returned v/\R v w')) ⟨(oy args fn.ntmps).toArray,[]⟩ w):bE P f args w R:=by
 refine⟨bo hf (by simp[hb]) hn,(callsIn_wide (n:=0)).1 (callsIn_of_wp_marks hf hb trivial ?_ rfl)⟩;have e:(args.toArray++Array.replicate (fn.ntmps-args.toArray.size) undef)=(oy args fn.ntmps).toArray:=by simp[oy]
 rw[e];exact h
theorem U0 {F:Fence}{c:Operand}{x y:Code}{Q:Exit->Act->World->Prop}{t:Fr}{w:World}(hc:ev t c=.bool false)(h:y.wpIn F n P Q ⟨t.toArray,ds⟩ w):(Code.cond c x y).wpIn F n P Q ⟨t.toArray,ds⟩ w :=
 wpIn_cond_false (by rw[nE];exact hc) h
theorem aCl {F:Fence}{c:Operand}{x y:Code}{Q:Exit->Act->World->Prop}{t:Fr}{w:World}(hc:ev t c=.bool true)(h:x.wpIn F n P Q ⟨t.toArray,ds⟩ w):(Code.cond c x y).wpIn F n P Q ⟨t.toArray,ds⟩ w :=
 wpIn_cond_true (by rw[nE];exact hc) h
theorem aGa {K:Act->World->Prop}{Q:Exit->Act->World->Prop}{a:Act}{w:World}:Exit.then K Q .normal a w=K a w:=(rfl)
theorem aGb {K:Act->World->Prop}{Q:Exit->Act->World->Prop}{a:Act}{w:World}:Exit.then K Q .ret a w=Q .ret a w:=(rfl)
theorem aF9 {K:Act->World->Prop}{Q:Exit->Act->World->Prop}{a:Act}{w:World}(i:Nat):Exit.then K Q (.exit i) a w=Q (.exit i) a w:=(rfl)
theorem Ql {i:Nat}{Q:Exit->Act->World->Prop}{a:Act}{w:World}:Exit.inBlock i Q .normal a w=Q .normal a w:=(rfl)
theorem Qm {i:Nat}{Q:Exit->Act->World->Prop}{a:Act}{w:World}:Exit.inBlock i Q .ret a w=Q .ret a w:=(rfl)
theorem Qk {i j:Nat}{Q:Exit->Act->World->Prop}{a:Act}{w:World}:Exit.inBlock i Q (.exit j) a w=if j=i then Q .normal a w else Q (.exit j) a w:=(rfl)
theorem aOZ (p:Tmp)(v:Value)(t:Fr):((#[p]:Array Tmp).zip #[v]).foldl (λt (x:Tmp×Value)=>t.setIfInBounds x.1 x.2) t.toArray=(t.set p v).toArray:=by
 simp
theorem Xu {α:Type}{Z:Nat->Prop}{I:List α->World->Prop}{Ix:Code->List α->World->Prop}{xs:List α}{W W':World}{a:Act}:B8 Z I Ix xs W .normal a W'=((∀k,Z k->W'.heap[k]?=W.heap[k]?)/\I xs W'):=(rfl)
theorem Xv {α:Type}{Z:Nat->Prop}{I:List α->World->Prop}{Ix:Code->List α->World->Prop}{xs:List α}{W W':World}{a:Act}:B8 Z I Ix xs W .ret a W'=((∀k,Z k->W'.heap[k]?=W.heap[k]?)/\Ix .ret xs W'):=(rfl)
theorem Xt {α:Type}{Z:Nat->Prop}{I:List α->World->Prop}{Ix:Code->List α->World->Prop}{xs:List α}{W W':World}{a:Act}(i:Nat):B8 Z I Ix xs W (.exit i) a W'=((∀k,Z k->W'.heap[k]?=W.heap[k]?)/\Ix (.exit i) xs W'):=(rfl)
theorem aFY {α:Type}{g:Operand}{q:Tmp}{assign body:Code}{Q:Exit->Act->World->Prop}{t:Fr}{w:World}{gf:Nat}{lb:List Value}(hg:ev t g=.func (.func gf) #[] lb.toArray)(eg:∀args w,(callFunc gf args).run P w=.ok (.enter gf args) w)
  {en:α->Value} {B Z:Nat->Prop} {S Sp:List α->Prop} {A:List α->α->Prop} (hB:∀k,B k->k<w.heap.size) (hZ:∀k,Z k->k<w.heap.size) (aFa:Iter P (n-1) gf lb.toArray (λx=>#[en x]) B Z S Sp A w)
  (I:List α->World->Prop) (Ix:Code->List α->World->Prop) (hI:∀s W W',I s W->Kept (λk=>B k\/k=w.heap.size\/k=w.heap.size+1) W W'->I s W') (hIx:∀c s W W',Ix c s W->Kept (λk=>B k\/k=w.heap.size\/k=w.heap.size+1) W W'->Ix c s W') (h0:I [] w) (d:Nat)
  (pa:j6 assign=true) (pb:j6 body=true) (Fi:∀(x:α) (W:World),vc P assign (λe t' W'=>e=.normal/\t'=((t.set q (en x)).set d (en x))/\W'=W) (t.set q (en x)) W .mk)
  (sB:∀(pre:List α) (x:α) (W:World),I pre W->A pre x->w.heap.size+1<W.heap.size->vc P body (λe t' W'=>W.heap.size<=W'.heap.size/\B8 (λk=>Z k\/k=w.heap.size\/k=w.heap.size+1) I Ix (pre++[x]) W e ⟨t'.toArray,[]⟩ W') (((t.set q (en x)).set d (en x))) W .mk)
  (uJ:∀(xs:List α) (W:World),S xs->I xs W->W.heap[w.heap.size]?=some (.deferred (some []))->Q .normal ⟨t.toArray,{ target:=.collected w.heap.size,args:=#[] }::ds⟩ W)
  (WR:∀(c:Code) (pre:List α) (W:World),Sp pre->Ix c pre W->W.heap[w.heap.size]?=some (.deferred (some []))->c.wpIn (AN none) n P Q ⟨t.toArray,{ target:=.collected w.heap.size,args:=#[] }::ds⟩ W) :
  (Code.rangeFunc g #[q] assign body).wpIn (AN none) n P Q ⟨t.toArray,ds⟩ w:=by
 refine aFX (a:=⟨t.toArray,ds⟩) (by rw[nE];exact hg) eg (encs:=λx=>#[en x]) (λ_=>rfl) hB hZ aFa I Ix hI hIx h0 (λx=>⟨((t.set q (en x)).set d (en x)).toArray,[]⟩) ?_ ?_ uJ WR
 ·intro x W K hK;have e:(((#[q]:Array Tmp).zip #[en x]).foldl (λt (x:Tmp×Value)=>t.setIfInBounds x.1 x.2) t.toArray)=(t.set q (en x)).toArray:=aOZ q (en x) t
  show assign.wpIn _ _ _ _ ⟨(((#[q]:Array Tmp).zip #[en x]).foldl (λt (x:Tmp×Value)=>t.setIfInBounds x.1 x.2) t.toArray),[]⟩ _
  rw[e];refine wpIn_mono (lj (ds:=[]) assign pa _ _ _ (Fi x W)) ?_;rintro e a w' ⟨hd,rfl,ht,rfl⟩
  show K a w'
  rw[mv hd,ht];exact hK
 intro pre x W h1 h2 h3;refine wpIn_mono (lj (ds:=[]) body pb _ _ _ (sB pre x W h1 h2 h3)) ?_;rintro e a w' ⟨hd,h4,h5⟩;refine⟨h4,?_⟩;rw[mv hd];exact h5
end
attribute [push_cast] aGa aGb aF9 Ql Qm Qk Xu Xv Xt
end Go.Vc
end
section
namespace Go.Proofs.YtledlfbbebodgaaGreatDoor
open Go.Vc Go.Proofs Go.RowKit Cae
attribute [local irreducible] dd ae ak a7 runK bE Sl Vc.Own vc aU cJ a8
theorem Mi (s:List UInt8)(c:UInt8)(w:World):bE Tryz.prog 198 [str s,str [c],.int .i64 0] w λr w'=>r=.func (.func 210) #[] #[.pointer (some ⟨w.heap.size+1,0,none⟩),.pointer (some ⟨w.heap.size,0,none⟩),.pointer (some ⟨w.heap.size+2,0,none⟩)]/\aM w' w.heap.size 9 [str s]/\aM w' (w.heap.size+1) 9 [str [c]]/\aM w' (w.heap.size+2) 3 [.int .i64 0]/\w'.heap.size=w.heap.size+3/\Below w.heap.size w w':=by
 refine aE Tryz.func198 rfl (by kernel_rfl) [6] rfl ?_;push_cast -dsimp(maxSteps:=4000000) [Tryz.ntmps198];refine aR ?_;intro w1 aZ;have sM:=aZ.size;push_cast -dsimp;refine aR ?_;intro w2 bw;have HQ:=bw.size;push_cast -dsimp;refine aR ?_;intro w3 dZ;have TJ:=dZ.size;push_cast -dsimp[sM,HQ];have b1:=(aZ.aN.below bw.below (by omega)).below dZ.below (by omega);have b2:=bw.aN.below dZ.below (by omega);have b3:=dZ.aN;rw[sM]at b2;rw[HQ,sM]at b3;exact⟨b1,b2,b3,by omega,(aZ.below.trans (bw.below.mono (by omega))).trans (dZ.below.mono (by omega))⟩
theorem KD (s:List UInt8)(c:UInt8)(w:World):bE Tryz.prog 181 [str s,str [c]] w λr w'=>r=.func (.func 210) #[] #[.pointer (some ⟨w.heap.size+1,0,none⟩),.pointer (some ⟨w.heap.size,0,none⟩),.pointer (some ⟨w.heap.size+2,0,none⟩)]/\aM w' w.heap.size 9 [str s]/\aM w' (w.heap.size+1) 9 [str [c]]/\aM w' (w.heap.size+2) 3 [.int .i64 0]/\w'.heap.size=w.heap.size+3/\Below w.heap.size w w':=by
 refine aE Tryz.func181 rfl (by kernel_rfl) [4] rfl ?_;push_cast -dsimp(maxSteps:=4000000) [Tryz.ntmps181];refine aA (Mi s c w) ?_;rintro _ w1 ⟨rfl,h⟩;push_cast -dsimp;exact h
def Xi (w:World)(b:Nat):Nat:=match w.cell? ⟨b,0,none⟩ with|some (.string s)=>s.size|_=>0
theorem Jf {w:World}{b:Nat}{s:List UInt8}(h:w.cell? ⟨b,0,none⟩=some (str s)):Xi w b=s.length:=by
 unfold Xi;rw[h];rfl
theorem YN (s:List UInt8)(c:UInt8)(hs:s.length<=1000000000)(n bs bp bv:Nat)(yi:bs≠bp)(h2':bs≠bv)(w:World)(hS:aM w bs 9 [str s])(hP:aM w bp 9 [str [c]])(hV:aM w bv 3 [.int .i64 0]) :
  Iter Tryz.prog n 210 #[.pointer (some ⟨bp,0,none⟩),.pointer (some ⟨bs,0,none⟩),.pointer (some ⟨bv,0,none⟩)] (λx:List UInt8=>#[str x]) (λk=>k=bs) (λk=>k=bs\/k=bp\/k=bv) (λxs=>xs=splitB c s) (λpre=>pre <+: splitB c s) (λpre x=>pre++[x] <+: splitB c s) w:=by
 intro l J Jx W hW hWs hJ hJx hY h0;have hS:aM W bs 9 [str s]:=(hW _ hS.lt).trans hS;have hP:aM W bp 9 [str [c]]:=(hW _ hP.lt).trans hP;have hV:aM W bv 3 [.int .i64 0]:=(hW _ hV.lt).trans hV;refine callsIn_of_wp Tryz.func210 rfl trivial ?_ rfl;have c0:W.cell? ⟨bp,0,none⟩=some (str [c]):=hP.cell rfl;simp only[Tryz.ntmps210,List.size_toArray,List.length_cons,List.length_nil,Nat.reduceAdd,Nat.reduceSub,Array.replicate_succ,Array.replicate_zero,List.push_toArray,List.append_toArray,List.nil_append,List.cons_append];refine wpIn_seq (me (ro:=none) (by rfl) ?_);push_cast -dsimp[c0];refine U0 (by rfl) (wpIn_skip ?_);push_cast -dsimp;refine wpIn_seq (wpIn_block (aFB (ro:=none) [7,8,29,30,31,32,33,34,35,36,37,38,39,40,41,42,43,44,45,46,47,48] (λz wx=>∃pre rest,pre++splitB c rest=splitB c s/\J pre wx/\aM wx bs 9 [str rest]/\aM wx bp 9 [str [c]]/\aM wx bv 3 [.int .i64 0]/\rest.length<=s.length) (λ_ wx=>Xi wx bs) ?_ ?_))
 ·exact⟨[],s,rfl,h0,hS,hP,hV,Nat.le_refl _⟩
 intro z wx hI;obtain⟨pre,rest,tV,hj,hS,hP,hV,TE⟩:=hI;have hrd:=Jf (hS.cell (o:=0) rfl);have cS:wx.cell? ⟨bs,0,none⟩=some (str rest):=hS.cell rfl;have cP:wx.cell? ⟨bp,0,none⟩=some (str [c]):=hP.cell rfl;have cV:wx.cell? ⟨bv,0,none⟩=some (.int .i64 0):=hV.cell rfl;have DA:=r5 c rest;refine wpIn_block (me (ro:=none) (by rfl) ?_);push_cast -dsimp[cS,cP];refine aA (aAS rest c wx) ?_;rintro _ w1 ⟨rfl,rfl⟩;rw[uT];push_cast -dsimp;refine me (ro:=none) (by rfl) ?_;have fin:∀(x:Exit) (t:Fr) (w2:World),(x=.normal\/x=.ret)->((∃xs,xs=splitB c s/\J xs w2)\/∃pre,pre <+: splitB c s/\Jx pre w2)->bodyPost Tryz.prog Tryz.f210 (λe W'=>(∃v,e=.returned v)/\((∃xs,xs=splitB c s/\J xs W')\/∃pre,pre <+: splitB c s/\Jx pre W')) x ⟨t.toArray,[]⟩ w2:=λx t w2 hx hh=>by
  obtain⟨vs,h1,_⟩:=cZ (P:=Tryz.prog) (w:=w2) Tryz.f210 [] (by rfl) t (λ_=>True) trivial;rcases hx with rfl|rfl<;>exact⟨rfl,_,h1,⟨_,rfl⟩,hh⟩
 cases hc:rest.contains c with
 | false =>
  simp only[Bool.false_eq_true,if_false];push_cast -dsimp;have so:splitB c rest=[rest]:=by rw[DA,hc,Mu hc];rfl
  rw[so]at tV;have hy:=hY pre rest w1 hj (by show pre++[rest] <+: _;rw[tV];exact List.prefix_refl _)
  refine xy (l:=l) (m:=n) (l1:=[_,_]) (l2:=[]) (by rfl) (by rfl) (by rfl) (by rfl) ?_;push_cast -dsimp[cS];refine⟨_,hy,?_⟩;rintro e w2 hr;rcases hr with ⟨rfl,h1,_,_⟩|⟨rfl,h1⟩
  ·refine⟨true,rfl,?_⟩;exact fin .normal _ _ (.inl rfl) (.inl ⟨_,tV,h1⟩)
  refine⟨false,rfl,?_⟩;exact fin .normal _ _ (.inl rfl) (.inr ⟨_,by rw[tV];exact List.prefix_refl _,h1⟩)
 | true =>
  simp only[if_true];have aw:=O7 hc;rw[hc,if_pos rfl]at DA;have hg:∃k,(rest.takeWhile (· != c)).length=k:=⟨_,rfl⟩;obtain⟨k,hk⟩:=hg;have h1:rest.takeWhile (· != c)=rest.take k:=by rw[<-hk];exact(zI _ rest).symm
  have h2:(rest.dropWhile (· != c)).drop 1=rest.drop (k+1):=by rw[<-FG,List.drop_drop,hk]
  rw[h1,h2]at DA;rw[hk]at aw ⊢
  have fT:decide ((k:Int)<0)=false:=decide_eq_false (by omega);have hy:=hY pre (rest.take k) w1 hj (by show pre++[rest.take k] <+: _;rw[<-tV,DA];exact⟨splitB c (rest.drop (k+1)),by simp⟩)
  push_cast -dsimp[fT];refine me (ro:=none) (by rfl) ?_;push_cast -dsimp[cS,cV];have ek:((k:Int)+0).toNat=k:=by omega
  refine⟨by omega,by omega,?_⟩;rw[ek];refine wpIn_seq (wpIn_seq (xy (l:=l) (m:=n) (l1:=[_,_]) (l2:=[_]) (by rfl) (by rfl) (by rfl) (by rfl) ?_));push_cast -dsimp;refine⟨_,hy,?_⟩;rintro e w2 hr;have aE5:pre++[rest.take k] <+: splitB c s:=by rw[<-tV,DA];exact⟨splitB c (rest.drop (k+1)),by simp⟩
  rcases hr with ⟨rfl,h1,hz,GG⟩|⟨rfl,h1⟩
  ·refine⟨true,rfl,?_⟩;have hS2:aM w2 bs 9 [str rest]:=(hz _ (.inl rfl)).trans hS;have Ye:aM w2 bp 9 [str [c]]:=(hz _ (.inr (.inl rfl))).trans hP;have p8:aM w2 bv 3 [.int .i64 0]:=(hz _ (.inr (.inr rfl))).trans hV;have dS:w2.cell? ⟨bs,0,none⟩=some (str rest):=hS2.cell rfl;have dP:w2.cell? ⟨bp,0,none⟩=some (str [c]):=Ye.cell rfl;push_cast -dsimp;refine U0 (by rfl) (wpIn_skip ?_);push_cast -dsimp;refine OK (ro:=none) (by rfl) ?_;push_cast -dsimp[dS,dP];have ek1:((k:Int)+1).toNat=k+1:=by omega
   refine⟨by omega,by omega,?_⟩;rw[ek1];refine aC hS2 (by simp) rfl ?_;intro w3 dZ;have hP3:=Ye.kept dZ.kept (λh=>yi h.symm);have L5:=p8.kept dZ.kept (λh=>h2' h.symm);have hS3:aM w3 bs 9 [str (rest.drop (k+1))]:=dZ.aN;push_cast -dsimp;refine⟨⟨_,_,by rw[List.append_assoc,List.singleton_append,<-DA];exact tV,hJ _ _ _ h1 dZ.kept,hS3,hP3,L5,by rw[List.length_drop];omega⟩,?_⟩;rw[Jf (hS3.cell (o:=0) rfl),hrd,List.length_drop];omega
  refine⟨false,rfl,?_⟩;push_cast -dsimp;refine aCl (by rfl) (wpIn_ret ?_);push_cast -dsimp;exact fin .ret _ _ (.inr rfl) (.inr ⟨_,aE5,h1⟩)
end Go.Proofs.YtledlfbbebodgaaGreatDoor
end
section
namespace Cae
theorem QR {n:Nat}(hn:n<4294967296):∃b r,gk n=b::r/\mT b=true:=by
 cases h:gk n with
 | nil=>exact absurd h (yk n)
 | cons b r=>exact⟨b,r,rfl,fp hn b (by rw[h];simp)⟩
end Cae
namespace Go.Proofs.YtledlfbbebodgaaGreatDoor
open Go.Vc Go.Proofs Go.RowKit Cae
attribute [local irreducible] dd ae ak a7 runK bE Sl Vc.Own vc aU cJ a8
def mA (w:World):Prop:=(∃t p,w.cell? ⟨5,0,none⟩=some (.iface t p))/\(∃t p,w.cell? ⟨6,0,none⟩=some (.iface t p))
theorem mA.below {w w':World}(h:mA w)(hb:Below w.heap.size w w'):mA w':=by
 obtain⟨⟨t,p,h1⟩,⟨t',p',h2⟩⟩:=h;exact⟨⟨t,p,(hb.cell (World.block_lt_of_cell? w _ h1)).trans h1⟩,⟨t',p',(hb.cell (World.block_lt_of_cell? w _ h2)).trans h2⟩⟩
def Mq:Go.Shelf.Ren:=⟨λ| 245=>201|279=>215|280=>216|281=>217|282=>218|316=>226|171=>228|205=>227|243=>230|246=>162|283=>186|284=>187|285=>188|286=>189|129=>157|317=>203|318=>204|319=>205|320=>206|337=>220|338=>221|n=>n,λ| 9=>9|3=>3|75=>31|167=>288|4=>4|168=>291|210=>297|37=>229|0=>0|127=>248|145=>309|143=>307|2=>2|171=>270|53=>246|5=>5|173=>272|212=>283|51=>244|20=>20|213=>284|46=>103|232=>299|233=>300|80=>174|n=>n,λ| 15=>5|16=>6|17=>4|18=>7|19=>8|n=>n⟩
theorem YW:Go.Proofs.LaysC.n245 Tryz.prog Mq:={
 mixed:=by kernel_rfl
 f129:=Tryz.func157.trans (congrArg some (by kernel_rfl))
 f171:=Tryz.func228.trans (congrArg some (by kernel_rfl))
 f205:=Tryz.func227.trans (congrArg some (by kernel_rfl))
 f243:=Tryz.func230.trans (congrArg some (by kernel_rfl))
 f245:=Tryz.func201.trans (congrArg some (by kernel_rfl))
 f246:=Tryz.func162.trans (congrArg some (by kernel_rfl))
 f279:=Tryz.func215.trans (congrArg some (by kernel_rfl))
 f280:=Tryz.func216.trans (congrArg some (by kernel_rfl))
 f281:=Tryz.func217.trans (congrArg some (by kernel_rfl))
 f282:=Tryz.func218.trans (congrArg some (by kernel_rfl))
 f283:=Tryz.func186.trans (congrArg some (by kernel_rfl))
 f284:=Tryz.func187.trans (congrArg some (by kernel_rfl))
 f285:=Tryz.func188.trans (congrArg some (by kernel_rfl))
 f286:=Tryz.func189.trans (congrArg some (by kernel_rfl))
 f316:=Tryz.func226.trans (congrArg some (by kernel_rfl))
 f317:=Tryz.func203.trans (congrArg some (by kernel_rfl))
 f318:=Tryz.func204.trans (congrArg some (by kernel_rfl))
 f319:=Tryz.func205.trans (congrArg some (by kernel_rfl))
 f320:=Tryz.func206.trans (congrArg some (by kernel_rfl))
 f337:=Tryz.func220.trans (congrArg some (by kernel_rfl))
 f338:=Tryz.func221.trans (congrArg some (by kernel_rfl))
 t0:=Tryz.underlying0
 a0:=Tryz.isAgg0
 z0:=Tryz.sizeOf0
 v0:=Tryz.zeroValue0
 t2:=Tryz.underlying2
 a2:=Tryz.isAgg2
 z2:=Tryz.sizeOf2
 v2:=Tryz.zeroValue2
 t3:=Tryz.underlying3
 a3:=Tryz.isAgg3
 z3:=Tryz.sizeOf3
 v3:=Tryz.zeroValue3
 t4:=Tryz.underlying4
 a4:=Tryz.isAgg4
 z4:=Tryz.sizeOf4
 v4:=Tryz.zeroValue4
 t5:=Tryz.underlying5
 a5:=Tryz.isAgg5
 z5:=Tryz.sizeOf5
 v5:=Tryz.zeroValue5
 t9:=Tryz.underlying9
 a9:=Tryz.isAgg9
 z9:=Tryz.sizeOf9
 v9:=Tryz.zeroValue9
 t20:=Tryz.underlying20
 a20:=Tryz.isAgg20
 z20:=Tryz.sizeOf20
 v20:=Tryz.zeroValue20
 t37:=Tryz.underlying229
 a37:=Tryz.isAgg229
 z37:=Tryz.sizeOf229
 v37:=Tryz.zeroValue229
 t46:=Tryz.underlying103
 a46:=Tryz.isAgg103
 z46:=Tryz.sizeOf103
 v46:=Tryz.zeroValue103
 t51:=Tryz.underlying244
 a51:=Tryz.isAgg244
 z51:=Tryz.sizeOf244
 v51:=Tryz.zeroValue244
 t53:=Tryz.underlying246
 a53:=Tryz.isAgg246
 z53:=Tryz.sizeOf246
 v53:=Tryz.zeroValue246
 t75:=Tryz.underlying31
 a75:=Tryz.isAgg31
 z75:=Tryz.sizeOf31
 v75:=Tryz.zeroValue31
 t127:=Tryz.underlying248
 a127:=Tryz.isAgg248
 z127:=Tryz.sizeOf248
 v127:=Tryz.zeroValue248
 t143:=Tryz.underlying307
 a143:=Tryz.isAgg307
 z143:=Tryz.sizeOf307
 v143:=Tryz.zeroValue307
 t145:=Tryz.underlying309
 a145:=Tryz.isAgg309
 z145:=Tryz.sizeOf309
 v145:=Tryz.zeroValue309
 t167:=Tryz.underlying288
 a167:=Tryz.isAgg288
 z167:=Tryz.sizeOf288
 v167:=Tryz.zeroValue288
 t168:=Tryz.underlying291
 a168:=Tryz.isAgg291
 z168:=Tryz.sizeOf291
 v168:=Tryz.zeroValue291
 t171:=Tryz.underlying270
 a171:=Tryz.isAgg270
 z171:=Tryz.sizeOf270
 v171:=Tryz.zeroValue270
 t173:=Tryz.underlying272
 a173:=Tryz.isAgg272
 z173:=Tryz.sizeOf272
 v173:=Tryz.zeroValue272
 t210:=Tryz.underlying297
 a210:=Tryz.isAgg297
 z210:=Tryz.sizeOf297
 v210:=Tryz.zeroValue297
 t212:=Tryz.underlying283
 a212:=Tryz.isAgg283
 z212:=Tryz.sizeOf283
 v212:=Tryz.zeroValue283
 t213:=Tryz.underlying284
 a213:=Tryz.isAgg284
 z213:=Tryz.sizeOf284
 t232:=Tryz.underlying299
 a232:=Tryz.isAgg299
 z232:=Tryz.sizeOf299
 v232:=Tryz.zeroValue299
 t233:=Tryz.underlying300
 a233:=Tryz.isAgg300
 z233:=Tryz.sizeOf300
 v233:=Tryz.zeroValue300
 g15:=by kernel_rfl
 g16:=by kernel_rfl
 g17:=by kernel_rfl
 g18:=by kernel_rfl
 g19:=by kernel_rfl
 t80:=Tryz.underlying174
 a80:=Tryz.isAgg174
 z80:=Tryz.sizeOf174
 v80:=Tryz.zeroValue174
 i0:=by kernel_rfl
 i2:=by kernel_rfl
 i3:=by kernel_rfl
 i4:=by kernel_rfl
 i5:=by kernel_rfl
 i9:=by kernel_rfl
 i20:=by kernel_rfl
 i37:=by kernel_rfl
 i46:=by kernel_rfl
 i51:=by kernel_rfl
 i53:=by kernel_rfl
 i75:=by kernel_rfl
 i80:=by kernel_rfl
 i127:=by kernel_rfl
 i143:=by kernel_rfl
 i145:=by kernel_rfl
 i167:=by kernel_rfl
 i168:=by kernel_rfl
 i171:=by kernel_rfl
 i173:=by kernel_rfl
 i210:=by kernel_rfl
 i212:=by kernel_rfl
 i232:=by kernel_rfl
 i233:=by kernel_rfl
 m15:=by kernel_rfl
 m16:=by kernel_rfl
 m17:=by kernel_rfl
 m18:=by kernel_rfl
 m19:=by kernel_rfl
 c0:=by kernel_rfl
 c2:=by kernel_rfl
 c3:=by kernel_rfl
 c4:=by kernel_rfl
 c5:=by kernel_rfl
 c9:=by kernel_rfl
 c20:=by kernel_rfl
 c37:=by kernel_rfl
 c46:=by kernel_rfl
 c51:=by kernel_rfl
 c53:=by kernel_rfl
 c75:=by kernel_rfl
 c80:=by kernel_rfl
 c127:=by kernel_rfl
 c143:=by kernel_rfl
 c145:=by kernel_rfl
 c167:=by kernel_rfl
 c168:=by kernel_rfl
 c171:=by kernel_rfl
 c173:=by kernel_rfl
 c210:=by kernel_rfl
 c212:=by kernel_rfl
 c213:=by kernel_rfl
 c232:=by kernel_rfl
 c233:=by kernel_rfl }
theorem O5 (f s:List UInt8)(base bits:Int)(k:Int)(hk:k=1\/k=2)(hs:s.length<=1000000000)(w:World)(h:mA w):bE Tryz.prog 201 [str f,str s,.int .i64 base,.int .i64 bits,.iface 288 (.int .i64 k)] w λr w'=>(∃t p,r=.iface t p)/\Below w.heap.size w w':=by
 obtain⟨⟨t1,p1,h1⟩,⟨t2,p2,h2⟩⟩:=h;refine cR Tryz.func201 (by kernel_rfl) (by kernel_rfl) ?_;rcases hk with rfl|rfl
 ·refine Calls.mono (Any.strconv_toError_range YW ⟨f.toArray⟩ ⟨s.toArray⟩ base bits _ w (by show s.length<=_;omega) h2 (.inr ⟨_,_,rfl⟩)) ?_
  rintro e w' ⟨N,rfl,_,_,hb⟩;exact⟨_,rfl,⟨_,_,rfl⟩,hb⟩
 refine Calls.mono (Any.strconv_toError_syntax YW ⟨f.toArray⟩ ⟨s.toArray⟩ base bits _ w (by show s.length<=_;omega) h1 (.inr ⟨_,_,rfl⟩)) ?_
 rintro e w' ⟨N,rfl,_,_,hb⟩;exact⟨_,rfl,⟨_,_,rfl⟩,hb⟩
theorem M0 (bits:Int)(kR:bits=32\/bits=40)(s:List UInt8)(hs:s.length<=1000000000)(w:World):bE Tryz.prog 200 [str s,.int .i64 16,.int .i64 bits] w λr w'=>(∃(v:Int) (e:Value),r=.tuple #[.int .i64 v,e]/\aHi e/\(∀n<2147483648,s=gk n->v=n/\e=.nilIface))/\Below w.heap.size w w':=by
 refine aE Tryz.func200 rfl (by kernel_rfl) [6,7] rfl ?_;push_cast -dsimp(maxSteps:=4000000) [Tryz.ntmps200];by_cases dD:s=[]
 ·subst dD;have e0:decide (([]:List UInt8)=[])=true:=rfl;simp -dsimp (maxSteps:=4000000) only[push_cast,Nat.reduceAdd,Nat.reduceLeDiff,Nat.reduceBEq,Int.reduceNe,Int.reduceEq,Int.reduceLT,Int.reduceLE,e0];refine⟨⟨0,_,rfl,.inr (.inr rfl),λn _ h=>absurd h.symm (yk n)⟩,Below.refl _ _⟩
 have hgc:∃c r,s=c::r:=List.exists_cons_of_ne_nil dD;obtain⟨c,r,rfl⟩:=hgc;have e0:decide (c::r=[])=false:=decide_eq_false dD;have eh:(c::r).getD 0 0=c:=rfl;have GG:(c::r).length=r.length+1:=rfl;have yl:∃b,c.toNat=b:=⟨_,rfl⟩;obtain⟨b,hb0⟩:=yl;have jD:(b=43\/b=45)->∀n<2147483648,c::r≠gk n:=λh n hn hh=>by
  obtain⟨b',r',h1,h2⟩:=QR (n:=n) (by omega);rw[h1]at hh;cases hh;unfold mT at h2;rw[hb0,Bool.or_eq_true,Bool.and_eq_true,Bool.and_eq_true,decide_eq_true_eq,decide_eq_true_eq,decide_eq_true_eq,decide_eq_true_eq]at h2;omega
 have ef:decide False=false:=rfl;have et:decide True=true:=rfl;have ed1:(c::r).drop (Int.toNat 1)=r:=rfl;simp -dsimp (maxSteps:=4000000) only[push_cast,Nat.reduceAdd,Nat.reduceLeDiff,Nat.reduceBEq,Int.reduceNe,Int.reduceEq,Int.reduceLT,Int.reduceLE,eh,hb0,ef,et,ed1];refine⟨λh=>absurd h dD,λ_=>⟨by omega,λh43=>⟨by omega,?_⟩,λn43=>⟨λh45=>⟨by omega,?_⟩,λn45=>?_⟩⟩⟩
 ·have eZ:=jD (.inl (by omega));refine aA (qg bits kR r (by first|omega|exact hs) w) ?_
  rintro _ w1 ⟨⟨v,e,rfl,hv,he,hx⟩,hb⟩;have rh:∃ct:Nat,IntKind.u64.wrap (1*2 ^ min (IntKind.u64.wrap (bits-1)).toNat IntKind.u64.bits)=(ct:Int)/\2147483648<=ct/\ct<1099511627776:=by
   rcases kR with rfl|rfl
   ·exact⟨2147483648,by decide,by omega,by omega⟩
   exact⟨549755813888,by decide,by omega,by omega⟩
  obtain⟨ct,rh,aI0,aI1⟩:=rh;have ewv:IntKind.i64.wrap (v:Int)=(v:Int):=by rw[wrap_i64 (by omega)]
  rcases he with rfl|rfl|rfl
  ·simp -dsimp (maxSteps:=4000000) only[push_cast,Nat.reduceAdd,Nat.reduceLeDiff,Nat.reduceBEq,Int.reduceNe,Int.reduceEq,Int.reduceLT,Int.reduceLE,ef,et];rw[rh];refine⟨λh=>by omega,λ_=>⟨by omega,by rcases kR with rfl|rfl<;>decide,λfT=>⟨⟨_,_,rfl,.inr (.inl rfl),λn hn h=>?_⟩,hb⟩,λaw=>⟨⟨_,_,rfl,.inl rfl,λn hn h=>?_⟩,hb⟩⟩⟩
   ·first|exact absurd h (eZ n hn)|(have:=(hx n (by omega) h).1;omega)
   first|exact absurd h (eZ n hn)|(have:=(hx n (by omega) h).1;exact⟨by rw[ewv];omega,rfl⟩)
  ·simp -dsimp (maxSteps:=4000000) only[push_cast,Nat.reduceAdd,Nat.reduceLeDiff,Nat.reduceBEq,Int.reduceNe,Int.reduceEq,Int.reduceLT,Int.reduceLE,ef,et];refine lr (te:=288) (k:=.i64) (q:=.i64) rfl rfl rfl Tryz.underlying31 (by kernel_rfl) (by kernel_rfl) ?_;have Uf:(!((1:Int) == 1))=false:=rfl;rw[Uf];simp -dsimp (maxSteps:=4000000) only[push_cast,Nat.reduceAdd,Nat.reduceLeDiff,Nat.reduceBEq,Int.reduceNe,Int.reduceEq,Int.reduceLT,Int.reduceLE,ef,et];refine⟨λh=>by omega,λ_=>⟨by omega,by rcases kR with rfl|rfl<;>decide,λfT=>⟨⟨_,_,rfl,.inr (.inl rfl),λn hn h=>?_⟩,hb⟩,λaw=>⟨⟨_,_,rfl,.inl rfl,λn hn h=>?_⟩,hb⟩⟩⟩
   ·first|exact absurd h (eZ n hn)|(have:=(hx n (by omega) h).2;cases this)
   first|exact absurd h (eZ n hn)|(have:=(hx n (by omega) h).2;cases this)
  simp -dsimp (maxSteps:=4000000) only[push_cast,Nat.reduceAdd,Nat.reduceLeDiff,Nat.reduceBEq,Int.reduceNe,Int.reduceEq,Int.reduceLT,Int.reduceLE,ef,et];refine lr (te:=288) (k:=.i64) (q:=.i64) rfl rfl rfl Tryz.underlying31 (by kernel_rfl) (by kernel_rfl) ?_;have Uf:(!((2:Int) == 1))=true:=rfl;rw[Uf];simp -dsimp (maxSteps:=4000000) only[push_cast,Nat.reduceAdd,Nat.reduceLeDiff,Nat.reduceBEq,Int.reduceNe,Int.reduceEq,Int.reduceLT,Int.reduceLE,ef,et];refine⟨⟨_,_,rfl,.inr (.inr rfl),λn hn h=>?_⟩,hb⟩
  first|exact absurd h (eZ n hn)|(have:=(hx n (by omega) h).2;cases this)
 ·have eZ:=jD (.inr (by omega));refine aA (qg bits kR r (by first|omega|exact hs) w) ?_
  rintro _ w1 ⟨⟨v,e,rfl,hv,he,hx⟩,hb⟩;have rh:∃ct:Nat,IntKind.u64.wrap (1*2 ^ min (IntKind.u64.wrap (bits-1)).toNat IntKind.u64.bits)=(ct:Int)/\2147483648<=ct/\ct<1099511627776:=by
   rcases kR with rfl|rfl
   ·exact⟨2147483648,by decide,by omega,by omega⟩
   exact⟨549755813888,by decide,by omega,by omega⟩
  obtain⟨ct,rh,aI0,aI1⟩:=rh;have ewv:IntKind.i64.wrap (v:Int)=(v:Int):=by rw[wrap_i64 (by omega)]
  rcases he with rfl|rfl|rfl
  ·simp -dsimp (maxSteps:=4000000) only[push_cast,Nat.reduceAdd,Nat.reduceLeDiff,Nat.reduceBEq,Int.reduceNe,Int.reduceEq,Int.reduceLT,Int.reduceLE,ef,et];rw[rh];refine⟨λh=>by omega,λ_=>⟨by omega,by rcases kR with rfl|rfl<;>decide,λfT=>⟨⟨_,_,rfl,.inr (.inl rfl),λn hn h=>?_⟩,hb⟩,λaw=>⟨⟨_,_,rfl,.inl rfl,λn hn h=>?_⟩,hb⟩⟩⟩
   ·first|exact absurd h (eZ n hn)|(have:=(hx n (by omega) h).1;omega)
   first|exact absurd h (eZ n hn)|(have:=(hx n (by omega) h).1;exact⟨by rw[ewv];omega,rfl⟩)
  ·simp -dsimp (maxSteps:=4000000) only[push_cast,Nat.reduceAdd,Nat.reduceLeDiff,Nat.reduceBEq,Int.reduceNe,Int.reduceEq,Int.reduceLT,Int.reduceLE,ef,et];refine lr (te:=288) (k:=.i64) (q:=.i64) rfl rfl rfl Tryz.underlying31 (by kernel_rfl) (by kernel_rfl) ?_;have Uf:(!((1:Int) == 1))=false:=rfl;rw[Uf];simp -dsimp (maxSteps:=4000000) only[push_cast,Nat.reduceAdd,Nat.reduceLeDiff,Nat.reduceBEq,Int.reduceNe,Int.reduceEq,Int.reduceLT,Int.reduceLE,ef,et];refine⟨λh=>by omega,λ_=>⟨by omega,by rcases kR with rfl|rfl<;>decide,λfT=>⟨⟨_,_,rfl,.inr (.inl rfl),λn hn h=>?_⟩,hb⟩,λaw=>⟨⟨_,_,rfl,.inl rfl,λn hn h=>?_⟩,hb⟩⟩⟩
   ·first|exact absurd h (eZ n hn)|(have:=(hx n (by omega) h).2;cases this)
   first|exact absurd h (eZ n hn)|(have:=(hx n (by omega) h).2;cases this)
  simp -dsimp (maxSteps:=4000000) only[push_cast,Nat.reduceAdd,Nat.reduceLeDiff,Nat.reduceBEq,Int.reduceNe,Int.reduceEq,Int.reduceLT,Int.reduceLE,ef,et];refine lr (te:=288) (k:=.i64) (q:=.i64) rfl rfl rfl Tryz.underlying31 (by kernel_rfl) (by kernel_rfl) ?_;have Uf:(!((2:Int) == 1))=true:=rfl;rw[Uf];simp -dsimp (maxSteps:=4000000) only[push_cast,Nat.reduceAdd,Nat.reduceLeDiff,Nat.reduceBEq,Int.reduceNe,Int.reduceEq,Int.reduceLT,Int.reduceLE,ef,et];refine⟨⟨_,_,rfl,.inr (.inr rfl),λn hn h=>?_⟩,hb⟩
  first|exact absurd h (eZ n hn)|(have:=(hx n (by omega) h).2;cases this)
 skip;refine aA (qg bits kR (c::r) (by first|omega|exact hs) w) ?_
 rintro _ w1 ⟨⟨v,e,rfl,hv,he,hx⟩,hb⟩;have rh:∃ct:Nat,IntKind.u64.wrap (1*2 ^ min (IntKind.u64.wrap (bits-1)).toNat IntKind.u64.bits)=(ct:Int)/\2147483648<=ct/\ct<1099511627776:=by
  rcases kR with rfl|rfl
  ·exact⟨2147483648,by decide,by omega,by omega⟩
  exact⟨549755813888,by decide,by omega,by omega⟩
 obtain⟨ct,rh,aI0,aI1⟩:=rh;have ewv:IntKind.i64.wrap (v:Int)=(v:Int):=by rw[wrap_i64 (by omega)]
 rcases he with rfl|rfl|rfl
 ·simp -dsimp (maxSteps:=4000000) only[push_cast,Nat.reduceAdd,Nat.reduceLeDiff,Nat.reduceBEq,Int.reduceNe,Int.reduceEq,Int.reduceLT,Int.reduceLE,ef,et];rw[rh];refine⟨λh=>by omega,λ_=>⟨by omega,by rcases kR with rfl|rfl<;>decide,λfT=>⟨⟨_,_,rfl,.inr (.inl rfl),λn hn h=>?_⟩,hb⟩,λaw=>⟨⟨_,_,rfl,.inl rfl,λn hn h=>?_⟩,hb⟩⟩⟩
  ·first|exact absurd h (eZ n hn)|(have:=(hx n (by omega) h).1;omega)
  first|exact absurd h (eZ n hn)|(have:=(hx n (by omega) h).1;exact⟨by rw[ewv];omega,rfl⟩)
 ·simp -dsimp (maxSteps:=4000000) only[push_cast,Nat.reduceAdd,Nat.reduceLeDiff,Nat.reduceBEq,Int.reduceNe,Int.reduceEq,Int.reduceLT,Int.reduceLE,ef,et];refine lr (te:=288) (k:=.i64) (q:=.i64) rfl rfl rfl Tryz.underlying31 (by kernel_rfl) (by kernel_rfl) ?_;have Uf:(!((1:Int) == 1))=false:=rfl;rw[Uf];simp -dsimp (maxSteps:=4000000) only[push_cast,Nat.reduceAdd,Nat.reduceLeDiff,Nat.reduceBEq,Int.reduceNe,Int.reduceEq,Int.reduceLT,Int.reduceLE,ef,et];refine⟨λh=>by omega,λ_=>⟨by omega,by rcases kR with rfl|rfl<;>decide,λfT=>⟨⟨_,_,rfl,.inr (.inl rfl),λn hn h=>?_⟩,hb⟩,λaw=>⟨⟨_,_,rfl,.inl rfl,λn hn h=>?_⟩,hb⟩⟩⟩
  ·first|exact absurd h (eZ n hn)|(have:=(hx n (by omega) h).2;cases this)
  first|exact absurd h (eZ n hn)|(have:=(hx n (by omega) h).2;cases this)
 simp -dsimp (maxSteps:=4000000) only[push_cast,Nat.reduceAdd,Nat.reduceLeDiff,Nat.reduceBEq,Int.reduceNe,Int.reduceEq,Int.reduceLT,Int.reduceLE,ef,et];refine lr (te:=288) (k:=.i64) (q:=.i64) rfl rfl rfl Tryz.underlying31 (by kernel_rfl) (by kernel_rfl) ?_;have Uf:(!((2:Int) == 1))=true:=rfl;rw[Uf];simp -dsimp (maxSteps:=4000000) only[push_cast,Nat.reduceAdd,Nat.reduceLeDiff,Nat.reduceBEq,Int.reduceNe,Int.reduceEq,Int.reduceLT,Int.reduceLE,ef,et];refine⟨⟨_,_,rfl,.inr (.inr rfl),λn hn h=>?_⟩,hb⟩
 first|exact absurd h (eZ n hn)|(have:=(hx n (by omega) h).2;cases this)
theorem pO (bits:Int)(kR:bits=32\/bits=40)(s:List UInt8)(hs:s.length<=1000000000)(w:World)(h:mA w):bE Tryz.prog 183 [str s,.int .i64 16,.int .i64 bits] w λr w'=>(∃(v:Int) (e:Value),r=.tuple #[.int .i64 v,e]/\(e=.nilIface\/∃t x,e=.iface t x)/\(∀n<2147483648,s=gk n->v=n/\e=.nilIface))/\Below w.heap.size w w':=by
 refine aE Tryz.func183 rfl (by kernel_rfl) [6,7] rfl ?_;push_cast -dsimp(maxSteps:=4000000) [Tryz.ntmps183];refine aA (M0 bits kR s hs w) ?_;rintro _ w1 ⟨⟨v,e,rfl,he,hx⟩,hb⟩;rcases he with rfl|rfl|rfl
 ·simp -dsimp (maxSteps:=4000000) only[push_cast,Nat.reduceAdd,Nat.reduceLeDiff,Nat.reduceBEq,Int.reduceNe,Int.reduceEq,Int.reduceLT,Int.reduceLE,];exact⟨⟨_,_,rfl,.inl rfl,hx⟩,hb⟩
 ·simp -dsimp (maxSteps:=4000000) only[push_cast,Nat.reduceAdd,Nat.reduceLeDiff,Nat.reduceBEq,Int.reduceNe,Int.reduceEq,Int.reduceLT,Int.reduceLE,];refine aA (O5 [80,97,114,115,101,73,110,116] s 16 bits 1 (.inl rfl) hs w1 (h.below hb)) ?_;rintro _ w2 ⟨⟨t,p,rfl⟩,eR⟩;simp -dsimp (maxSteps:=4000000) only[push_cast,Nat.reduceAdd,Nat.reduceLeDiff,Nat.reduceBEq,Int.reduceNe,Int.reduceEq,Int.reduceLT,Int.reduceLE,];exact⟨⟨_,_,rfl,.inr ⟨_,_,rfl⟩,λn hn hh=>by have:=(hx n hn hh).2;cases this⟩,hb.trans (eR.mono hb.size)⟩
 simp -dsimp (maxSteps:=4000000) only[push_cast,Nat.reduceAdd,Nat.reduceLeDiff,Nat.reduceBEq,Int.reduceNe,Int.reduceEq,Int.reduceLT,Int.reduceLE,];refine aA (O5 [80,97,114,115,101,73,110,116] s 16 bits 2 (.inr rfl) hs w1 (h.below hb)) ?_;rintro _ w2 ⟨⟨t,p,rfl⟩,eR⟩;simp -dsimp (maxSteps:=4000000) only[push_cast,Nat.reduceAdd,Nat.reduceLeDiff,Nat.reduceBEq,Int.reduceNe,Int.reduceEq,Int.reduceLT,Int.reduceLE,];exact⟨⟨_,_,rfl,.inr ⟨_,_,rfl⟩,λn hn hh=>by have:=(hx n hn hh).2;cases this⟩,hb.trans (eR.mono hb.size)⟩
end Go.Proofs.YtledlfbbebodgaaGreatDoor
end
