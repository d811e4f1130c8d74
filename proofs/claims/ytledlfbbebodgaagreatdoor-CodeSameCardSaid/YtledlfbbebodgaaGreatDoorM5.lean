/- Lemmas. -/
import Derived.Test.YtledlfbbebodgaaGreatDoorM4
import Derived.RangeFuncFrom
import Derived.LoopIn
import Derived.RangeFuncLeaves
import Derived.Shelf.Strconv.ToErrorRange
import Derived.Shelf.Strconv.ToError
set_option maxRecDepth 100000
set_option linter.unusedSimpArgs false
set_option linter.unusedVariables false
set_option maxHeartbeats 8000000
section
namespace Cae
open Classical
section
variable (has:KindP→Int→Prop) (pts:List Int)
def standsM (x:PatP)(i:Nat)(back:Bool):Prop:=∃j,Rch has pts back x i j
def metM (r:RuleP)(i:Nat):Prop:=standsM has pts r.before i true∧standsM has pts r.after i false
noncomputable def saysM (els:Bool)(i:Nat):List RuleP→Bool
 | []=>els
 | r::l=>if metM has pts r i then r.brk else saysM els i l
noncomputable def isM (rules:List RuleP)(els:Bool)(i:Nat):Bool:=saysM has pts els i rules || decide (i=0) || decide (i=pts.length)
noncomputable def breaksM (rules:List RuleP)(els:Bool):List Nat:=if pts=[] then [] else (List.range (pts.length+1)).filter (isM has pts rules els)
end
section
variable {has:KindP→Int→Prop} {pts:List Int}
end
open Classical
section
variable {has:KindP→Int→Prop} {pts:List Int} {back:Bool}
def Same (has:KindP→Int→Prop)(pts:List Int)(back:Bool)(x y:PatP):Prop:=∀i j,Rch has pts back x i j↔Rch has pts back y i j
theorem cat_two (x y:PatP)(i j:Nat):Rch has pts back (.cat [x,y]) i j↔(if back then ∃m,Rch has pts back y i m∧Rch has pts back x m j else ∃m,Rch has pts back x i m∧Rch has pts back y m j):=by
 cases back<;>simp[Rch,RchF,RchB]
theorem Same.stands {x y:PatP}(h:Same has pts back x y)(i:Nat):standsM has pts x i back↔standsM has pts y i back:=exists_congr fun j=>h i j
theorem Same.left {x y:PatP}(h:Same has pts back x y)(e:PatP):Same has pts back (.cat [x,e]) (.cat [y,e]):=by
 intro i j;rw[cat_two,cat_two];cases back
 ·exact exists_congr fun m=>and_congr (h i m) Iff.rfl
 ·exact exists_congr fun m=>and_congr Iff.rfl (h m j)
end
noncomputable def imgM (N:Nat)(R:Nat→Nat→Prop)(from_:List Nat):List Nat:=(List.range (N+1)).filter fun j=>decide (∃i∈from_,R i j)
theorem imgM_mem {N:Nat}{R:Nat→Nat→Prop}{l:List Nat}{j:Nat}:j∈imgM N R l↔j≤N∧∃i∈l,R i j:=by
 unfold imgM;rw[List.mem_filter,List.mem_range,Nat.lt_succ_iff,decide_eq_true_iff]
theorem imgM_rise (N:Nat)(R:Nat→Nat→Prop)(l:List Nat):(imgM N R l).Pairwise (·<·):=List.Pairwise.filter _ List.pairwise_lt_range
theorem rise_eq {l m:List Nat}(hl:l.Pairwise (·<·))(hm:m.Pairwise (·<·))(h:∀i,i∈l↔i∈m):l=m :=
 List.Perm.eq_of_pairwise (fun a b _ _ h1 h2=>by omega) hl hm ((List.perm_ext_iff_of_nodup (hl.imp fun h=>Nat.ne_of_lt h) (hm.imp fun h=>Nat.ne_of_lt h)).2 h)
theorem rise_len {N:Nat}{l:List Nat}(hl:l.Pairwise (·<·))(h:∀i∈l,i≤N):l.length≤N+1:=by
 have e:l=(List.range (N+1)).filter fun i=>decide (i∈l):=rise_eq hl (List.Pairwise.filter _ List.pairwise_lt_range) fun i=>by
  rw[List.mem_filter,List.mem_range,Nat.lt_succ_iff,decide_eq_true_iff];exact⟨fun hi=>⟨h i hi,hi⟩,fun hi=>hi.2⟩
 rw[e];exact Nat.le_trans (List.length_filter_le _ _) (by simp)
section
variable {R:Nat→Nat→Prop} {N:Nat}
def stM (R:Nat→Nat→Prop)(l:List Nat)(n:Nat)(j:Nat):Prop:=∃i∈l,iterM R n i j
theorem stM_succ {l:List Nat}{n j:Nat}:stM R l (n+1) j↔∃m,stM R l n m∧R m j:=by
 constructor
 ·rintro⟨i,hi,h⟩;obtain⟨m,h1,h2⟩:=iterM_snoc.1 h;exact⟨m,⟨i,hi,h1⟩,h2⟩
 ·rintro⟨m,⟨i,hi,h1⟩,h2⟩;exact⟨i,hi,iterM_snoc.2 ⟨m,h1,h2⟩⟩
theorem stM_fix {l:List Nat}{k:Nat}(h:∀j,stM R l (k+1) j↔stM R l k j):∀t j,stM R l (k+t) j↔stM R l k j
 | 0,j=>Iff.rfl
 | t+1,j=>by
  rw[show k+(t+1)=(k+t)+1 by omega,stM_succ];constructor
  ·rintro⟨m,h1,h2⟩;exact(h j).1 (stM_succ.2 ⟨m,(stM_fix h t m).1 h1,h2⟩)
  ·intro hj;obtain⟨m,h1,h2⟩:=stM_succ.1 ((h j).2 hj);exact⟨m,(stM_fix h t m).2 h1,h2⟩
theorem stM_done {l:List Nat}{a k:Nat}(h:∀j,stM R l (a+k+1) j→∃s,s≤k∧stM R l (a+s) j):∀t j,stM R l (a+t) j→∃s,s≤k∧stM R l (a+s) j
 | 0,j,hj=>⟨0,by omega,hj⟩
 | t+1,j,hj=>by
  obtain⟨m,h1,h2⟩:=stM_succ.1 (show stM R l (a+t+1) j from hj);obtain⟨s,hs,h3⟩:=stM_done h t m h1;have h4:stM R l (a+s+1) j:=stM_succ.2 ⟨m,h3,h2⟩;by_cases he:s=k
  ·subst he;exact h j h4
  ·exact⟨s+1,by omega,h4⟩
theorem stM_none {l:List Nat}{a:Nat}(h:∀j,¬stM R l a j):∀t j,¬stM R l (a+t) j
 | 0,j=>h j
 | t+1,j=>fun hj=>by
  obtain⟨m,h1,_⟩:=stM_succ.1 (show stM R l (a+t+1) j from hj);exact stM_none h t m h1
end
inductive All2 {α β:Type}(R:α→β→Prop):List α→List β→Prop
 | nil:All2 R [] []
 | cons {x y l m}:R x y→All2 R l m→All2 R (x::l) (y::m)
theorem All2.snoc {α β:Type}{R:α→β→Prop}{l:List α}{m:List β}{x:α}{y:β}(h:All2 R l m)(hr:R x y):All2 R (l++[x]) (m++[y]):=by
 induction h with
 | nil=>exact .cons hr .nil
 | cons h1 _ ih=>exact .cons h1 ih
theorem All2.len {α β:Type}{R:α→β→Prop}{l:List α}{m:List β}(h:All2 R l m):l.length=m.length:=by
 induction h with
 | nil=>rfl
 | cons _ _ ih=>simp[ih]
def key (t:Tok):Nat×List UInt8:=(t.kind,t.text)
def EqT (a b:List Tok):Prop:=a.map key=b.map key
def EqH (a b:List Tok):Prop:=key (hd a)=key (hd b)
def NoEnd (a:List Tok):Prop:=∀t∈a,t.kind≠5
theorem EqT.refl (a:List Tok):EqT a a:=rfl
theorem EqT.len {a b:List Tok}(h:EqT a b):a.length=b.length:=by simpa[EqT] using congrArg List.length h
theorem EqT.split {a b c:List Tok}(h:EqT (a++b) c):∃x y,c=x++y∧EqT a x∧EqT b y:=by
 have h':a.map key++b.map key=c.map key:=by simpa[EqT] using h
 refine⟨c.take a.length,c.drop a.length,(List.take_append_drop _ _).symm,?_,?_⟩
 ·have:=congrArg (List.take a.length) h';simpa[EqT,List.take_append,List.map_take] using this
 ·have:=congrArg (List.drop a.length) h';simpa[EqT,List.drop_append,List.map_drop] using this
theorem EqH.app {a b c d:List Tok}(h:EqT a b)(h':EqH c d):EqH (a++c) (b++d):=by
 cases a with
 | nil=>cases b with
  | nil=>exact h'
  | cons y b=>simp[EqT]at h
 | cons x a=>cases b with
  | nil=>simp[EqT]at h
  | cons y b=>simp only[EqT,List.map_cons,List.cons.injEq]at h;exact h.1
theorem EqH.apps {a b:List Tok}(h:EqT a b)(hne:a≠[])(c d:List Tok):EqH (a++c) (b++d):=by
 cases a with
 | nil=>exact absurd rfl hne
 | cons x a=>cases b with
  | nil=>simp[EqT]at h
  | cons y b=>simp only[EqT,List.map_cons,List.cons.injEq]at h;exact h.1
def Lo {α β:Type}(R:α→β→Prop)(p:Pa α)(p':Pa β):Prop:=∀l x l',p l=.ok (x,l')→∃pre,NoEnd pre∧l=pre++l'∧∀pre2 l2,EqT pre pre2→EqH l' l2→∃x2,R x x2∧p' (pre2++l2)=.ok (x2,l2)
def LoS {α β:Type}(R:α→β→Prop)(p:Pa α)(p':Pa β):Prop:=∀l x l',p l=.ok (x,l')→∃pre,pre≠[]∧NoEnd pre∧l=pre++l'∧∀pre2 l2,EqT pre pre2→∃x2,R x x2∧p' (pre2++l2)=.ok (x2,l2)
section
variable {α β γ δ:Type} {R:α→β→Prop} {S:γ→δ→Prop} {p:Pa α} {p':Pa β} {q:α→Pa γ} {q':β→Pa δ}
theorem LoS.lo (h:LoS R p p'):Lo R p p':=fun l x l' e=>by
 obtain⟨pre,_,h1,h2,h3⟩:=h l x l' e;exact⟨pre,h1,h2,fun a b ha _=>h3 a b ha⟩
theorem Lo.pr {x:α}{y:β}(h:R x y):Lo R (pr x) (pr y):=fun l x' l' e=>by
 cases e;refine⟨[],by simp[NoEnd],rfl,fun pre2 l2 hp _=>?_⟩;have:pre2=[]:=List.length_eq_zero_iff.1 hp.len.symm;subst this;exact⟨y,h,rfl⟩
theorem Lo.fail {e:Nat}:Lo R (pfail e) p':=fun l x l' h=>by cases h
theorem LoS.fail {e:Nat}:LoS R (pfail e) p':=fun l x l' h=>by cases h
theorem pb_ok {p:Pa α}{q:α→Pa γ}{l l':List Tok}{y:γ}(h:pb p q l=.ok (y,l')):∃x l1,p l=.ok (x,l1)∧q x l1=.ok (y,l'):=by
 unfold pb at h;split at h
 ·cases h
 ·rename_i x l1 e;exact⟨x,l1,e,h⟩
theorem pb_of {p:Pa α}{q:α→Pa γ}{l l1:List Tok}{x:α}(h:p l=.ok (x,l1)):pb p q l=q x l1:=by
 unfold pb;rw[h]
theorem Lo.pb (h:Lo R p p')(k:∀x y,R x y→Lo S (q x) (q' y)):Lo S (pb p q) (pb p' q'):=fun l z l' e=>by
 obtain⟨x,l1,e1,e2⟩:=pb_ok e;obtain⟨a,na,rfl,ha⟩:=h l x l1 e1;obtain⟨y0,hy0,_⟩:=ha a l1 (EqT.refl _) rfl;obtain⟨b,nb,rfl,_⟩:=k x y0 hy0 _ z l' e2;refine⟨a++b,fun t ht=>(List.mem_append.1 ht).elim (na t) (nb t),by rw[List.append_assoc],fun pre2 l2 hp hh=>?_⟩;obtain⟨u,v,rfl,hu,hv⟩:=hp.split;rw[List.append_assoc];obtain⟨y,hy,ey⟩:=ha u (v++l2) hu (EqH.app hv hh)
 obtain⟨b',nb',eb,hb⟩:=k x y hy _ z l' e2;obtain rfl:=List.append_cancel_right eb;obtain⟨z2,hz,ez⟩:=hb v l2 hv hh;exact⟨z2,hz,by rw[pb_of ey];exact ez⟩
theorem LoS.pb (h:Lo R p p')(k:∀x y,R x y→LoS S (q x) (q' y)):LoS S (pb p q) (pb p' q'):=fun l z l' e=>by
 obtain⟨x,l1,e1,e2⟩:=pb_ok e;obtain⟨a,na,rfl,ha⟩:=h l x l1 e1;obtain⟨y0,hy0,_⟩:=ha a l1 (EqT.refl _) rfl;obtain⟨b,bne,nb,rfl,_⟩:=k x y0 hy0 _ z l' e2;refine⟨a++b,by simp[bne],fun t ht=>(List.mem_append.1 ht).elim (na t) (nb t),by rw[List.append_assoc],fun pre2 l2 hp=>?_⟩;obtain⟨u,v,rfl,hu,hv⟩:=hp.split;rw[List.append_assoc];obtain⟨y,hy,ey⟩:=ha u (v++l2) hu (EqH.apps hv bne _ _)
 obtain⟨b',_,nb',eb,hb⟩:=k x y hy _ z l' e2;obtain rfl:=List.append_cancel_right eb;obtain⟨z2,hz,ez⟩:=hb v l2 hv;exact⟨z2,hz,by rw[pb_of ey];exact ez⟩
theorem LoS.map {f:α→γ}{f':β→δ}(h:LoS R p p')(k:∀x y,R x y→S (f x) (f' y)):LoS S (Cae.pb p fun x=>Cae.pr (f x)) (Cae.pb p' fun y=>Cae.pr (f' y)):=fun l z l' e=>by
 obtain⟨x,l1,e1,e2⟩:=pb_ok e;cases e2;obtain⟨a,ane,na,rfl,ha⟩:=h l x l' e1;refine⟨a,ane,na,rfl,fun pre2 l2 hp=>?_⟩;obtain⟨y,hy,ey⟩:=ha pre2 l2 hp;exact⟨f' y,k x y hy,by rw[pb_of ey];rfl⟩
theorem Lo.pif {c c':List Tok→Bool}{p1 p2:Pa α}{p1' p2':Pa β}(hc:∀a b,EqH a b→c a=c' b)(h1:Lo R p1 p1')(h2:Lo R p2 p2'):Lo R (pif c p1 p2) (pif c' p1' p2'):=fun l x l' e=>by
 unfold Cae.pif at e;cases hcl:c l with
 | true =>
  rw[hcl]at e;obtain⟨a,na,rfl,ha⟩:=h1 l x l' e;refine⟨a,na,rfl,fun pre2 l2 hp hh=>?_⟩;obtain⟨y,hy,ey⟩:=ha pre2 l2 hp hh;refine⟨y,hy,?_⟩;unfold Cae.pif;rw[←hc _ _ (EqH.app hp hh),hcl];exact ey
 | false =>
  rw[hcl]at e;obtain⟨a,na,rfl,ha⟩:=h2 l x l' e;refine⟨a,na,rfl,fun pre2 l2 hp hh=>?_⟩;obtain⟨y,hy,ey⟩:=ha pre2 l2 hp hh;refine⟨y,hy,?_⟩;unfold Cae.pif;rw[←hc _ _ (EqH.app hp hh),hcl];exact ey
theorem LoS.pif {c c':List Tok→Bool}{p1 p2:Pa α}{p1' p2':Pa β}(hc:∀a b,EqH a b→c a=c' b)(h1:LoS R p1 p1')(h2:LoS R p2 p2'):LoS R (pif c p1 p2) (pif c' p1' p2'):=fun l x l' e=>by
 unfold Cae.pif at e;cases hcl:c l with
 | true =>
  rw[hcl]at e;obtain⟨a,ane,na,rfl,ha⟩:=h1 l x l' e;refine⟨a,ane,na,rfl,fun pre2 l2 hp=>?_⟩;obtain⟨y,hy,ey⟩:=ha pre2 l2 hp;refine⟨y,hy,?_⟩;unfold Cae.pif;rw[←hc _ _ (EqH.apps hp ane _ _),hcl];exact ey
 | false =>
  rw[hcl]at e;obtain⟨a,ane,na,rfl,ha⟩:=h2 l x l' e;refine⟨a,ane,na,rfl,fun pre2 l2 hp=>?_⟩;obtain⟨y,hy,ey⟩:=ha pre2 l2 hp;refine⟨y,hy,?_⟩;unfold Cae.pif;rw[←hc _ _ (EqH.apps hp ane _ _),hcl];exact ey
theorem Lo.peek:Lo (fun t u=>key t=key u) peek peek:=fun l x l' e=>by
 cases e;refine⟨[],by simp[NoEnd],rfl,fun pre2 l2 hp hh=>?_⟩;have:pre2=[]:=List.length_eq_zero_iff.1 hp.len.symm;subst this;exact⟨hd l2,hh,rfl⟩
theorem LoS.pop:LoS (fun _ _=>True) popP popP:=fun l x l' e=>by
 cases l with
 | nil=>cases e
 | cons t r =>
  by_cases h5:t.kind=5
  ·simp[popP,h5]at e
  ·have e':popP (t::r)=.ok ((),r):=by simp[popP,h5]
   rw[e']at e;cases e;refine⟨[t],by simp,by simpa[NoEnd] using h5,rfl,fun pre2 l2 hp=>⟨(),trivial,?_⟩⟩;cases pre2 with
   | nil=>simp[EqT]at hp
   | cons u v =>
    have hv:v=[]:=by
     have:=hp.len;simpa using this.symm
    subst hv;have hk:t.kind=u.kind:=by
     simp only[EqT,List.map_cons,List.map_nil,List.cons.injEq,key,Prod.mk.injEq]at hp;exact hp.1.1
    show popP (u::l2)=_
    have h5':¬u.kind=5:=by rw[←hk];exact h5
    simp[popP,h5']
end
theorem EqH.kind {a b:List Tok}(h:EqH a b):(hd a).kind=(hd b).kind:=(Prod.mk.inj h).1
theorem EqH.text {a b:List Tok}(h:EqH a b):(hd a).text=(hd b).text:=(Prod.mk.inj h).2
theorem c_kind (k:Nat)(a b:List Tok)(h:EqH a b):isKind k a=isKind k b:=by unfold isKind;rw[h.kind]
theorem c_see (s:List UInt8)(a b:List Tok)(h:EqH a b):seeP s a=seeP s b:=by unfold seeP;rw[h.kind,h.text]
theorem c_named (a b:List Tok)(h:EqH a b):namedP a=namedP b:=by unfold namedP;rw[h.kind,h.text]
theorem c_long (a b:List Tok)(h:EqH a b):longP a=longP b:=by unfold longP;rw[h.text]
theorem c_start (a b:List Tok)(h:EqH a b):startP a=startP b:=by unfold startP;rw[c_kind 3 a b h,c_named a b h,c_see _ a b h,c_see _ a b h,c_see _ a b h]
theorem c_unit (a b:List Tok)(h:EqH a b):unitStart a=unitStart b:=by unfold unitStart;rw[c_kind 3 a b h,c_named a b h]
def KE (k k2:KindP):Prop:=∀a,kindText k a=kindText k2 a
def PE (x x2:PatP):Prop:=∀n,patText x n=patText x2 n
theorem KE.not {p p2:Nat}{k k2:KindP}(h:KE k k2):KE (.not p k) (.not p2 k2):=fun a=>by simp only[kindText];rw[h]
theorem KE.bin {c p p2:Nat}{k k2 r r2:KindP}(h:KE k k2)(h':KE r r2):KE (.bin c p k r) (.bin c p2 k2 r2):=fun a=>by simp only[kindText];rw[h,h']
theorem pts_eq {l m:List PatP}(h:All2 PE l m)(n:Nat):patTexts l n=patTexts m n:=by
 induction h with
 | nil=>rfl
 | cons h1 _ ih=>simp only[patTexts];rw[h1,ih]
theorem PE.cat {l m:List PatP}(h:All2 PE l m):PE (.cat l) (.cat m):=fun n=>by simp only[patText];rw[pts_eq h]
theorem PE.alt {l m:List PatP}(h:All2 PE l m):PE (.alt l) (.alt m):=fun n=>by simp only[patText];rw[pts_eq h]
theorem PE.many {x x2:PatP}{lo hi:Int}(h:PE x x2):PE (.many x lo hi) (.many x2 lo hi):=fun n=>by simp only[patText];rw[h]
theorem PE.one {k k2:KindP}(h:KE k k2):PE (.one k) (.one k2):=fun n=>by simp only[patText];rw[h]
theorem PE.row {l m:List PatP}(h:All2 PE l m):PE (rowOf l) (rowOf m):=by
 cases h with
 | nil=>exact PE.cat .nil
 | cons h1 h2=>cases h2 with
  | nil=>exact h1
  | cons h3 h4=>exact PE.cat (.cons h1 (.cons h3 h4))
theorem PE.altOf {l m:List PatP}(h:All2 PE l m):PE (altOf l) (altOf m):=by
 cases h with
 | nil=>exact PE.alt .nil
 | cons h1 h2=>cases h2 with
  | nil=>exact h1
  | cons h3 h4=>exact PE.alt (.cons h1 (.cons h3 h4))
def TT {α β:Type}:α→β→Prop:=fun _ _=>True
theorem lo_pop:LoS TT popP popP:=LoS.pop
theorem lo_must (s:List UInt8):LoS TT (mustP s) (mustP s):=LoS.pif (c_see s) lo_pop LoS.fail
theorem lo_name:LoS Eq nameP nameP:=LoS.pif c_named (LoS.pif c_long LoS.fail (LoS.pb Lo.peek fun t u h=>LoS.map lo_pop fun _ _ _=>(Prod.mk.inj h).2)) LoS.fail
theorem lo_bin:Lo Eq binP binP:=Lo.pif (c_see _) (LoS.map lo_pop fun _ _ _=>rfl).lo (Lo.pif (c_see _) (LoS.map lo_pop fun _ _ _=>rfl).lo (Lo.pif (c_see _) (LoS.map lo_pop fun _ _ _=>rfl).lo (Lo.pr rfl)))
theorem lo_kindLoop {one one2:Pa KindP}(h:Lo KE one one2)(a b:Nat):∀(n:Nat) (k k2:KindP),KE k k2→Lo KE (kindLoop one a n k) (kindLoop one2 b n k2)
 | 0,_,_,_=>Lo.fail
 | n+1,k,k2,hk=>Lo.pb lo_bin fun c c2 e=>by
   subst e;by_cases h0:c=0
   ·rw[if_pos h0,if_pos h0];exact Lo.pr hk
   ·rw[if_neg h0,if_neg h0];exact Lo.pb h fun r r2 hr=>lo_kindLoop h a b n _ _ (KE.bin hk hr)
theorem lo_kindW {one one2:Pa KindP}(h:Lo KE one one2):Lo KE (kindW one) (kindW one2):=Lo.pb Lo.peek fun _ _ _=>Lo.pb h fun k k2 hk=>lo_kindLoop h _ _ _ _ _ hk
theorem lo_lit:LoS KE litP litP:=LoS.pb Lo.peek fun t u h=>by
 have ht:t.text=u.text:=(Prod.mk.inj h).2;rw[ht];cases setP u.text with
 | none=>exact LoS.fail
 | some s=>exact LoS.map lo_pop fun _ _ _ a=>rfl
theorem lo_one:∀d,Lo KE (oneP d) (oneP d)
 | 0=>Lo.fail
 | d+1=>Lo.pif (c_kind 3) lo_lit.lo (Lo.pif (c_see _) (Lo.pb Lo.peek fun _ _ _=>Lo.pb lo_pop.lo fun _ _ _=>Lo.pb (lo_one d) fun k k2 h=>Lo.pr (KE.not h))
   (Lo.pif (c_see _) (Lo.pb lo_pop.lo fun _ _ _=>Lo.pb (lo_kindW (lo_one d)) fun k k2 h=>(LoS.map (lo_must _) fun _ _ _=>h).lo)
    (Lo.pb Lo.peek fun _ _ _=>(LoS.map lo_name fun n n2 e a=>by simp only[kindText];exact e).lo)))
theorem lo_times:LoS Eq timesP timesP:=LoS.pif (c_kind 2) (LoS.pb Lo.peek fun t u h=>by
 have ht:t.text=u.text:=(Prod.mk.inj h).2;rw[ht];by_cases h0:12<decV u.text
 ·rw[if_pos h0];exact LoS.fail
 ·rw[if_neg h0];exact LoS.map lo_pop fun _ _ _=>rfl) LoS.fail
theorem lo_braces:Lo Eq bracesP bracesP:=Lo.pb lo_times.lo fun lo lo2 e=>by
 subst e;refine Lo.pif (c_see _) (Lo.pb lo_pop.lo fun _ _ _=>Lo.pif (c_kind 2) (Lo.pb lo_times.lo fun hi hi2 e=>?_) (LoS.map (lo_must _) fun _ _ _=>rfl).lo) (LoS.map (lo_must _) fun _ _ _=>rfl).lo;subst e;by_cases h0:hi<lo
 ·rw[if_pos h0];exact Lo.fail
 ·rw[if_neg h0];exact(LoS.map (lo_must _) fun _ _ _=>rfl).lo
theorem lo_suffix:Lo Eq suffixP suffixP:=Lo.pif (c_see _) (LoS.map lo_pop fun _ _ _=>rfl).lo (Lo.pif (c_see _) (LoS.map lo_pop fun _ _ _=>rfl).lo (Lo.pif (c_see _) (LoS.map lo_pop fun _ _ _=>rfl).lo
 (Lo.pif (c_see _) (Lo.pb lo_pop.lo fun _ _ _=>Lo.pb lo_braces fun r r2 e=>Lo.pr (by rw[e])) (Lo.pr rfl))))
theorem lo_againLoop (d:Nat):∀(n c:Nat) (x x2:PatP),PE x x2→Lo PE (againLoop d n c x) (againLoop d n c x2)
 | 0,_,_,_,_=>Lo.fail
 | n+1,c,x,x2,h=>Lo.pb lo_suffix fun r r2 e=>by
   subst e;cases r with
   | none=>exact Lo.pr h
   | some q =>
    show Lo PE (if d≤c+1 then _ else _) (if d≤c+1 then _ else _)
    by_cases h0:d≤c+1
    ·rw[if_pos h0,if_pos h0];exact Lo.fail
    ·rw[if_neg h0,if_neg h0];exact lo_againLoop d n (c+1) _ _ (PE.many h)
theorem lo_againW {d:Nat}{unit unit2:Pa PatP}(h:Lo PE unit unit2):Lo PE (againW d unit) (againW d unit2):=Lo.pb h fun x x2 hx=>lo_againLoop d _ _ _ _ hx
theorem lo_rowLoop {again again2:Pa PatP}(h:Lo PE again again2):∀(n:Nat) (a b:List PatP),All2 PE a b→Lo (All2 PE) (rowLoop again n a) (rowLoop again2 n b)
 | 0,_,_,_=>Lo.fail
 | n+1,a,b,hab=>Lo.pif c_start (Lo.pb h fun x x2 hx=>lo_rowLoop h n _ _ (hab.snoc hx)) (Lo.pr hab)
theorem lo_rowW {again again2:Pa PatP}(h:Lo PE again again2):Lo PE (rowW again) (rowW again2):=Lo.pb (lo_rowLoop h _ _ _ .nil) fun _ _ hx=>Lo.pr (PE.row hx)
theorem lo_altLoop {row row2:Pa PatP}(h:Lo PE row row2):∀(n:Nat) (a b:List PatP),All2 PE a b→Lo (All2 PE) (altLoop row n a) (altLoop row2 n b)
 | 0,_,_,_=>Lo.fail
 | n+1,a,b,hab=>Lo.pif (c_see _) (Lo.pb lo_pop.lo fun _ _ _=>Lo.pb h fun x x2 hx=>lo_altLoop h n _ _ (hab.snoc hx)) (Lo.pr hab)
theorem lo_altW {row row2:Pa PatP}(h:Lo PE row row2):Lo PE (altW row) (altW row2):=Lo.pb h fun x x2 hx=>Lo.pb (lo_altLoop h _ _ _ (.cons hx .nil)) fun _ _ hx=>Lo.pr (PE.altOf hx)
theorem lo_patW {d:Nat}{unit unit2:Pa PatP}(h:Lo PE unit unit2):Lo PE (patW d unit) (patW d unit2):=by
 unfold patW;by_cases h0:d=0
 ·rw[if_pos h0,if_pos h0];exact Lo.fail
 ·rw[if_neg h0,if_neg h0];exact lo_altW (lo_rowW (lo_againW h))
theorem lo_unit:∀d,Lo PE (unitP d) (unitP d)
 | 0=>Lo.fail
 | d+1=>Lo.pif (c_see _) (LoS.map lo_pop fun _ _ _ _=>rfl).lo (Lo.pif (c_see _) (LoS.map lo_pop fun _ _ _ _=>rfl).lo
   (Lo.pif (c_see _) (Lo.pb lo_pop.lo fun _ _ _=>Lo.pb (lo_patW (lo_unit d)) fun x x2 h=>(LoS.map (lo_must _) fun _ _ _=>h).lo)
    (Lo.pif c_unit (Lo.pb (lo_one (d+1)) fun k k2 h=>Lo.pr (PE.one h)) Lo.fail)))
theorem lo_pat (d:Nat):Lo PE (patP d) (patP d):=lo_patW (lo_unit d)
theorem lo_says:LoS Eq saysP saysP:=LoS.pif (c_see _) (LoS.map lo_pop fun _ _ _=>rfl) (LoS.map (lo_must _) fun _ _ _=>rfl)
def RE (r r2:RuleP):Prop:=ruleText r=ruleText r2
theorem lo_rule:LoS RE ruleP ruleP:=LoS.pb Lo.peek fun t t2 _=>LoS.pb lo_says.lo fun b b2 e=>LoS.pb (lo_pat 9) fun x x2 hx=>LoS.pb (lo_must _).lo fun _ _ _=>LoS.pb (lo_pat 9) fun y y2 hy=>LoS.map (lo_must _) fun _ _ _=>by
 subst e
 show ruleText _=ruleText _
 unfold ruleText;rw[hx 0,hy 0]
inductive Tk:Nat→List UInt8→List Tok→Prop
 | nil (i):Tk i [] []
 | blank {i c r l}:(c=32∨c=10)→Tk (i+1) r l→Tk i (c::r) l
 | note {i c r l}:¬(c=32∨c=10)→c=35→Tk (i+runP (· != 10) (c::r)) ((c::r).drop (runP (· != 10) (c::r))) l→Tk i (c::r) l
 | tok {i c r l}:¬(c=32∨c=10)→¬c=35→(nextT (c::r)).2≠0→Tk (i+(nextT (c::r)).2) ((c::r).drop (nextT (c::r)).2) l→Tk i (c::r) (⟨(nextT (c::r)).1,(c::r).take (nextT (c::r)).2,i⟩::l)
theorem runP_le (f:UInt8→Bool)(s:List UInt8):runP f s≤s.length:=by
 unfold runP;have:=List.takeWhile_append_dropWhile (p:=f) (l:=s);have h:=congrArg List.length this;rw[List.length_append]at h;omega
theorem runP_pos {f:UInt8→Bool}{c:UInt8}{r:List UInt8}(h:f c=true):0<runP f (c::r):=by
 unfold runP;rw[List.takeWhile_cons,if_pos h,List.length_cons];omega
theorem contains_run {s:List UInt8}{c:UInt8}(h:s.contains c=true):runP (· != c) s<s.length:=by
 induction s with
 | nil=>simp at h
 | cons x s ih =>
  unfold runP at *;by_cases hx:x=c
  ·subst hx;simp[List.takeWhile_cons]
  ·have h':s.contains c=true:=by
    rw[List.contains_cons]at h;have:(c == x)=false:=by simpa using Ne.symm hx
    rw[this]at h;simpa using h
   rw[List.takeWhile_cons,if_pos (by simpa using hx),List.length_cons,List.length_cons];have:=ih h';omega
theorem nextT_cons (c:UInt8)(r:List UInt8):nextT (c::r)=if letterP c then (1,runP (fun c=>letterP c || digitP c) (c::r)) else if digitP c then (2,runP digitP (c::r))
  else if c=91 then (3,if (c::r).contains 93 then runP (· != 93) (c::r)+1 else 0) else if markL.contains c then (4,1) else (4,0):=rfl
theorem nextT_le (c:UInt8)(r:List UInt8):(nextT (c::r)).2≤(c::r).length:=by
 rw[nextT_cons];split
 ·exact runP_le _ _
 ·split
  ·exact runP_le _ _
  ·split
   ·split
    ·rename_i h;exact contains_run h
    ·simp
   ·split<;>simp
theorem tokLoop_tk:∀(n i:Nat) (s:List UInt8) (acc r:List Tok),acc.length≤500→tokLoop n i s acc=.ok r→∃l,Tk i s l∧r=acc++l++[⟨5,[],i+s.length⟩]∧acc.length+l.length≤500
 | 0,_,_,_,_,_,h=>by cases h
 | n+1,i,[],acc,r,ha,h=>by
   cases h;exact⟨[],.nil i,by simp,by simpa using ha⟩
 | n+1,i,c::s,acc,r,ha,h=>by
   unfold tokLoop at h;by_cases h1:c=32∨c=10
   ·rw[if_pos h1]at h;obtain⟨l,hl,e,hn⟩:=tokLoop_tk n _ _ _ _ ha h;exact⟨l,.blank h1 hl,by rw[e,List.length_cons,Nat.add_right_comm,Nat.add_assoc],hn⟩
   ·rw[if_neg h1]at h;by_cases h2:c=35
    ·rw[if_pos h2]at h;obtain⟨l,hl,e,hn⟩:=tokLoop_tk n _ _ _ _ ha h;have:=runP_le (· != 10) (c::s);exact⟨l,.note h1 h2 hl,by rw[e,List.length_drop,Nat.add_assoc,Nat.add_sub_cancel' this],hn⟩
    ·rw[if_neg h2]at h;by_cases h3:(nextT (c::s)).2=0
     ·rw[if_pos h3]at h;cases h
     ·rw[if_neg h3]at h;by_cases h4:acc.length=500
      ·rw[if_pos h4]at h;cases h
      ·rw[if_neg h4]at h;obtain⟨l,hl,e,hn⟩:=tokLoop_tk n _ _ _ _ (by rw[List.length_append,List.length_singleton];omega) h;have:=nextT_le c s;exact⟨_::l,.tok h1 h2 h3 hl,by rw[e,List.length_drop,Nat.add_assoc,Nat.add_sub_cancel' this];simp,by rw[List.length_append,List.length_singleton]at hn;rw[List.length_cons];omega⟩
theorem Tk.shift {i:Nat}{s:List UInt8}{l:List Tok}(h:Tk i s l):∀j,∃m,Tk j s m∧EqT l m:=by
 induction h with
 | nil i=>exact fun j=>⟨[],.nil j,rfl⟩
 | @blank i c r l h1 hl ih=>exact fun j=>by obtain⟨m,hm,e⟩:=ih (j+1);exact⟨m,.blank h1 hm,e⟩
 | @note i c r l h1 h2 hl ih=>exact fun j=>by obtain⟨m,hm,e⟩:=ih (j+runP (· != 10) (c::r));exact⟨m,.note h1 h2 hm,e⟩
 | @tok i c r l h1 h2 h3 hl ih =>
  intro j;obtain⟨m,hm,e⟩:=ih (j+(nextT (c::r)).2);exact⟨_,.tok h1 h2 h3 hm,by unfold EqT at *;rw[List.map_cons,List.map_cons,e];rfl⟩
theorem Tk.inside {i:Nat}{s:List UInt8}{l:List Tok}(h:Tk i s l):∀t∈l,t.text <:+: s:=by
 induction h with
 | nil i=>simp
 | @blank i c r l h1 hl ih=>exact fun t ht=>(ih t ht).trans (List.suffix_cons c r).isInfix
 | @note i c r l h1 h2 hl ih=>exact fun t ht=>(ih t ht).trans (List.drop_suffix _ _).isInfix
 | @tok i c r l h1 h2 h3 hl ih =>
  intro t ht;rcases List.mem_cons.1 ht with rfl|ht
  ·exact(List.take_prefix _ _).isInfix
  ·exact(ih t ht).trans (List.drop_suffix _ _).isInfix
def sumT (l:List Tok):Nat:=(l.map fun t=>t.text.length).sum
theorem Tk.sum {i:Nat}{s:List UInt8}{l:List Tok}(h:Tk i s l):sumT l≤s.length∧∀t∈l,0<t.text.length:=by
 induction h with
 | nil i=>simp[sumT]
 | @blank i c r l h1 hl ih=>exact⟨by rw[List.length_cons];omega,ih.2⟩
 | @note i c r l h1 h2 hl ih=>exact⟨by have:=ih.1;rw[List.length_drop]at this;omega,ih.2⟩
 | @tok i c r l h1 h2 h3 hl ih =>
  have h4:=nextT_le c r;have h5:=ih.1;rw[List.length_drop]at h5;have h6:((c::r).take (nextT (c::r)).2).length=(nextT (c::r)).2:=by rw[List.length_take];omega
  refine⟨?_,fun t ht=>?_⟩
  ·have:sumT (⟨(nextT (c::r)).1,(c::r).take (nextT (c::r)).2,i⟩::l)=((c::r).take (nextT (c::r)).2).length+sumT l:=by simp[sumT]
   rw[this,h6];omega
  ·rcases List.mem_cons.1 ht with rfl|ht
   ·show 0<((c::r).take (nextT (c::r)).2).length
    rw[h6];omega
   ·exact ih.2 t ht
theorem parseR_ok {s:List UInt8}{f:FileP}(h:parseR s=.ok f):∃l l',Tk 0 s l∧l.length≤500∧fileP (l++[⟨5,[],s.length⟩])=.ok (f,l')∧isKind 5 l'=true:=by
 unfold parseR at h;split at h
 ·cases h
 ·rename_i l ht;split at h
  ·cases h
  ·rename_i g l' hf;split at h
   ·rename_i hk;cases h;obtain⟨m,hm,e,hn⟩:=tokLoop_tk _ _ _ _ _ (by simp) ht;simp only[List.nil_append,Nat.zero_add]at e;subst e;exact⟨m,l',hm,by simpa using hn,hf,hk⟩
   ·cases h
theorem fileP_ok {l l':List Tok}{f:FileP}(h:fileP l=.ok (f,l')):∃l1 l2,classLoop 1000 [] l=.ok (f.classes,l1)∧ruleLoop 1000 [] l1=.ok (f.rules,l2)∧elseP l2=.ok (f.els,l'):=by
 obtain⟨cs,l1,h1,h⟩:=pb_ok h;obtain⟨rs,l2,h2,h⟩:=pb_ok h;obtain⟨b,l3,h3,h⟩:=pb_ok h;cases h;exact⟨l1,l2,h1,h2,h3⟩
theorem setP_ok {s:List UInt8}{l:List Rg}(h:setP s=some l):PrintOf s l:=by
 have key:∀l':List Rg,(if setRight (-2) l' && printP l' == s then some l' else none)=some l→PrintOf s l:=fun l' h=>by
  by_cases hc:(setRight (-2) l' && printP l' == s)=true
  ·rw[if_pos hc]at h;obtain rfl:=Option.some.inj h;simp only[Bool.and_eq_true,beq_iff_eq]at hc;exact⟨hc.1,hc.2⟩
  ·rw[if_neg hc]at h;cases h
 exact key _ h
def W (l:List Tok):Nat:=(l.map fun t=>2*t.text.length+9).sum
theorem W_cons (t:Tok)(l:List Tok):W (t::l)=2*t.text.length+9+W l:=by simp[W]
def Me {α:Type}(c:Nat)(μ:α→Nat)(p:Pa α):Prop:=∀l x l',p l=.ok (x,l')→μ x+W l'≤W l+c
section
variable {α β:Type} {c d:Nat} {μ:α→Nat} {ν:β→Nat} {p:Pa α} {q:α→Pa β}
theorem Me.pr {x:α}:Me (μ x) μ (pr x):=fun l y l' h=>by cases h;omega
theorem Me.fail {e:Nat}:Me c μ (pfail e):=fun l y l' h=>by cases h
theorem Me.mono (h:Me c μ p)(hc:c≤d):Me d μ p:=fun l x l' e=>by have:=h l x l' e;omega
theorem Me.weak {μ':α→Nat}(h:Me c μ p)(hm:∀x,μ' x≤μ x):Me c μ' p:=fun l x l' e=>by have:=h l x l' e;have:=hm x;omega
theorem Me.pb {m:Nat}(h:Me c μ p)(k:∀x,Me (μ x+d) ν (q x))(hm:c+d≤m):Me m ν (pb p q):=fun l y l' e=>by
 obtain⟨x,l1,e1,e2⟩:=pb_ok e;have h1:=h l x l1 e1;have h2:=k x l1 y l' e2;omega
theorem Me.pif {cc:List Tok→Bool}{p1 p2:Pa α}(h1:Me c μ p1)(h2:Me c μ p2):Me c μ (pif cc p1 p2):=fun l x l' e=>by
 unfold Cae.pif at e;split at e
 ·exact h1 l x l' e
 ·exact h2 l x l' e
theorem Me.peek:Me 0 (fun _=>0) peek:=fun l x l' e=>by cases e;dsimp only;omega
theorem pop_ok {l l':List Tok}{x:Unit}(h:popP l=.ok (x,l')):∃t,l=t::l'∧t.kind≠5:=by
 cases l with
 | nil=>cases h
 | cons t r =>
  by_cases h5:t.kind=5
  ·simp[popP,h5]at h
  ·have e':popP (t::r)=.ok ((),r):=by simp[popP,h5]
   rw[e']at h;cases h;exact⟨t,rfl,h5⟩
theorem Me.pop:Me 0 (fun _=>9) popP:=fun l x l' e=>by
 obtain⟨t,rfl,_⟩:=pop_ok e;rw[W_cons];dsimp only;omega
theorem Me.popn:Me 0 (fun _=>0) popP:=Me.pop.weak fun _=>Nat.zero_le _
end
theorem me_must (s:List UInt8):Me 0 (fun _=>9) (mustP s):=Me.pif Me.pop Me.fail
theorem me_name:Me 0 (fun n:List UInt8=>n.length+8) nameP:=fun l n l' e=>by
 unfold nameP pif at e;split at e
 ·split at e
  ·cases e
  ·obtain⟨t,l1,e1,e2⟩:=pb_ok e;cases e1;obtain⟨x,l2,e3,e4⟩:=pb_ok e2;cases e4;obtain⟨t,rfl,_⟩:=pop_ok e3;rw[W_cons]
   show t.text.length+8+W l'≤2*t.text.length+9+W l'+0
   omega
 ·cases e
def kn (k:KindP):Nat:=(kindText k true).length+3
theorem kt_le (k:KindP)(a:Bool):(kindText k a).length+3≤kn k:=by
 unfold kn;cases a with
 | true=>exact Nat.le_refl _
 | false=>cases k<;>simp[kindText]<;>omega
theorem kn_bin (c p:Nat)(k r:KindP):kn (.bin c p k r)≤kn k+kn r+2:=by
 have h1:=kt_le k false;have h2:=kt_le r true;unfold kn at *;simp only[kindText,if_true,List.length_cons,List.length_append,List.length_nil];have:(if c=3 then [32,124,32] else if c=4 then [32,38,32] else [32,45,32]:List UInt8).length=3:=by split<;>(try split)<;>rfl
 rw[this];omega
theorem kn_not (p:Nat)(k:KindP):kn (.not p k)=kn k+1:=by simp[kn,kindText]
theorem me_bin:Me 0 (fun c:Nat=>if c=0 then 0 else 8) binP:=by
 have h:∀c:Nat,c≠0→Me 0 (fun c:Nat=>if c=0 then 0 else 8) (pb popP fun _=>pr c):=fun c hc=>Me.pb (d:=0) (Me.pop.weak (μ':=fun _=>8) fun _=>by omega) (fun _=>by have:=Me.pr (μ:=fun c:Nat=>if c=0 then 0 else 8) (x:=c);rw[if_neg hc]at this;exact this) (by omega);exact Me.pif (h 3 (by decide)) (Me.pif (h 4 (by decide)) (Me.pif (h 5 (by decide)) Me.pr))
theorem me_kindLoop {one:Pa KindP}(h:Me 0 kn one)(pos:Nat):∀(n:Nat) (k:KindP),Me (kn k) kn (kindLoop one pos n k)
 | 0,k=>Me.fail
 | n+1,k=>Me.pb (d:=kn k) me_bin (fun c=>by
   by_cases h0:c=0
   ·rw[if_pos h0,if_pos h0];exact Me.pr.mono (by omega)
   ·rw[if_neg h0,if_neg h0];refine Me.pb (d:=8+kn k) h (fun r=>(me_kindLoop h pos n _).mono ?_) (by omega);have:=kn_bin c pos k r;omega) (by omega)
theorem me_kindW {one:Pa KindP}(h:Me 0 kn one):Me 0 kn (kindW one):=Me.pb (d:=0) Me.peek (fun t=>Me.pb (d:=0) h (fun k=>me_kindLoop h _ _ _) (by omega)) (by omega)
theorem me_lit:Me 0 kn litP:=fun l k l' e=>by
 obtain⟨t,l1,e1,e2⟩:=pb_ok e;cases e1;cases hs:setP (hd l).text with
 | none=>rw[hs]at e2;cases e2
 | some s =>
  rw[hs]at e2;obtain⟨x,l2,e3,e4⟩:=pb_ok e2;cases e4;obtain⟨t,rfl,_⟩:=pop_ok e3;have h1:printP s=t.text:=(setP_ok hs).2;rw[W_cons,←h1]
  show (printP s).length+3+W l'≤_
  omega
theorem me_one:∀d,Me 0 kn (oneP d)
 | 0=>Me.fail
 | d+1=>Me.pif me_lit (Me.pif (Me.pb (d:=0) Me.peek (fun t=>Me.pb (d:=0) Me.pop (fun _=>Me.pb (d:=9) (me_one d) (fun k=>Me.pr.mono (by rw[kn_not];omega)) (by omega)) (by omega)) (by omega))
   (Me.pif (Me.pb (d:=0) Me.popn (fun _=>Me.pb (d:=0) (me_kindW (me_one d)) (fun k=>Me.pb (d:=kn k) (me_must _) (fun _=>Me.pr.mono (by omega)) (by omega)) (by omega)) (by omega))
    (Me.pb (d:=0) Me.peek (fun t=>Me.pb (d:=0) me_name (fun n=>Me.pr.mono (by show n.length+3≤_;omega)) (by omega)) (by omega))))
def pn (x:PatP):Nat:=(patText x 2).length+3
theorem inPar_len (b:Bool)(s:List UInt8):s.length≤(inPar b s).length∧(inPar b s).length≤s.length+2:=by
 cases b<;>simp[inPar]<;>omega
theorem pt_le (x:PatP)(n:Nat):(patText x n).length+3≤pn x:=by
 unfold pn;cases x with
 | cat l =>
  simp only[patText];by_cases h:1<n
  ·simp[h,inPar]
  ·simp[h,inPar]
 | alt l =>
  simp only[patText];have h0:0<2:=by decide
  have h1:(patTexts l 1)=patTexts l 1:=rfl;by_cases h:0<n
  ·simp[h,inPar]
  ·simp[h,inPar]
 | _=>simp[patText]
theorem decP_len (n:Nat):(decP n).length≤2:=by unfold decP;split<;>(try split)<;>simp
theorem timesText_len (lo hi:Int):(timesText lo hi).length≤7:=by
 have h1:=decP_len lo.toNat;have h2:=decP_len hi.toNat;unfold timesText
 repeat' split
 all_goals simp
 all_goals omega
theorem pn_many (x:PatP)(lo hi:Int):pn (.many x lo hi)≤pn x+7:=by
 have:=timesText_len lo hi;unfold pn;simp only[patText,List.length_append];omega
def tot (l:List PatP):Nat:=(l.map pn).sum
theorem tot_snoc (l:List PatP)(x:PatP):tot (l++[x])=tot l+pn x:=by simp[tot]
theorem lens_le (l:List PatP)(n:Nat):Go.Lib.lens (patTexts l n)+3*l.length≤tot l∧(patTexts l n).length=l.length:=by
 induction l with
 | nil=>simp[patTexts,Go.Lib.lens,tot]
 | cons x l ih =>
  have:=pt_le x n;simp only[patTexts,Go.Lib.lens,tot,List.map_cons,List.sum_cons,List.length_cons]at *;omega
theorem join_le (l:List PatP)(n:Nat)(sep:List UInt8)(hs:sep.length≤3):(Go.Lib.join (patTexts l n) sep).length≤tot l:=by
 cases l with
 | nil=>simp[patTexts,Go.Lib.join_nil]
 | cons x l =>
  have h1:=lens_le (x::l) n;simp only[patTexts]at *;rw[Go.Lib.join_length];have h2:sep.length*(patTexts l n).length≤3*(patTexts l n).length:=Nat.mul_le_mul_right _ hs;simp only[List.length_cons]at h1;omega
theorem pn_cat (l:List PatP):pn (.cat l)≤tot l+5:=by
 have:=join_le l 2 [32] (by decide);have:=(inPar_len (decide (1<2)) (Go.Lib.join (patTexts l 2) [32])).2;unfold pn;simp only[patText];omega
theorem pn_alt (l:List PatP):pn (.alt l)≤tot l+5:=by
 have:=join_le l 1 [32,124,32] (by decide);have:=(inPar_len (decide (0<2)) (Go.Lib.join (patTexts l 1) [32,124,32])).2;unfold pn;simp only[patText];omega
theorem pn_row (l:List PatP):pn (rowOf l)≤tot l+5:=by
 match l with
 | []=>exact pn_cat []
 | [x]=>simp[rowOf,tot]
 | x::y::l=>exact pn_cat _
theorem pn_altOf (l:List PatP):pn (altOf l)≤tot l+5:=by
 match l with
 | []=>exact pn_alt []
 | [x]=>simp[altOf,tot]
 | x::y::l=>exact pn_alt _
theorem me_times:Me 0 (fun _=>0) timesP:=Me.pif (Me.pb (d:=0) Me.peek (fun t=>by
 by_cases h:12<decV t.text
 ·rw[if_pos h];exact Me.fail
 ·rw[if_neg h];exact Me.pb (d:=0) Me.popn (fun _=>Me.pr.mono (by omega)) (by omega)) (by omega)) Me.fail
theorem me_braces:Me 0 (fun _=>0) bracesP:=Me.pb (d:=0) me_times (fun lo=>Me.pif (Me.pb (d:=0) Me.popn (fun _=>Me.pif (Me.pb (d:=0) me_times (fun hi=>by
 by_cases h:hi<lo
 ·rw[if_pos h];exact Me.fail
 ·rw[if_neg h];exact Me.pb (d:=0) (me_must _) (fun _=>Me.pr.mono (by omega)) (by omega)) (by omega)) (Me.pb (d:=0) (me_must _) (fun _=>Me.pr.mono (by omega)) (by omega))) (by omega)) (Me.pb (d:=0) (me_must _) (fun _=>Me.pr.mono (by omega)) (by omega))) (by omega)
def sn:Option (Int×Int)→Nat
 | none=>0
 | some _=>8
theorem me_suffix:Me 0 sn suffixP:=by
 have h:∀r,Me 0 sn (pb popP fun _=>pr (some r)):=fun r=>Me.pb (d:=0) (Me.pop.weak (μ':=fun _=>8) fun _=>by omega) (fun _=>Me.pr) (by omega);refine Me.pif (h _) (Me.pif (h _) (Me.pif (h _) (Me.pif ?_ Me.pr)));exact Me.pb (d:=0) (Me.pop.weak (μ':=fun _=>8) fun _=>by omega) (fun _=>Me.pb (d:=8) me_braces (fun r=>Me.pr.mono (by show 8≤_;omega)) (by omega)) (by omega)
theorem me_againLoop (d:Nat):∀(n c:Nat) (x:PatP),Me (pn x) pn (againLoop d n c x)
 | 0,_,_=>Me.fail
 | n+1,c,x=>Me.pb (d:=pn x) me_suffix (fun r=>by
   cases r with
   | none=>exact Me.pr.mono (by omega)
   | some q =>
    show Me _ pn (if d≤c+1 then _ else _)
    by_cases h0:d≤c+1
    ·rw[if_pos h0];exact Me.fail
    ·rw[if_neg h0];refine(me_againLoop d n (c+1) _).mono ?_;have:=pn_many x q.1 q.2
     show _≤8+pn x
     omega) (by omega)
theorem me_againW {d:Nat}{unit:Pa PatP}(h:Me 0 pn unit):Me 0 pn (againW d unit):=Me.pb (d:=0) h (fun x=>me_againLoop d _ _ _) (by omega)
theorem me_rowLoop {again:Pa PatP}(h:Me 0 pn again):∀(n:Nat) (a:List PatP),Me (tot a) tot (rowLoop again n a)
 | 0,_=>Me.fail
 | n+1,a=>Me.pif (Me.pb (d:=tot a) h (fun x=>(me_rowLoop h n _).mono (by rw[tot_snoc];omega)) (by omega)) Me.pr
theorem me_rowW {again:Pa PatP}(h:Me 0 pn again):Me 5 pn (rowW again):=Me.pb (d:=5) (me_rowLoop h _ _) (fun ps=>Me.pr.mono (by have:=pn_row ps;omega)) (by simp[tot])
theorem me_altLoop {row:Pa PatP}(h:Me 5 pn row):∀(n:Nat) (a:List PatP),Me (tot a) tot (altLoop row n a)
 | 0,_=>Me.fail
 | n+1,a=>Me.pif (Me.pb (d:=tot a) Me.pop (fun _=>Me.pb (d:=tot a) h (fun x=>(me_altLoop h n _).mono (by rw[tot_snoc];omega)) (by omega)) (by omega)) Me.pr
theorem me_altW {row:Pa PatP}(h:Me 5 pn row):Me 10 pn (altW row):=Me.pb (d:=5) h (fun x=>Me.pb (d:=5) (me_altLoop h _ _) (fun ps=>Me.pr.mono (by have:=pn_altOf ps;omega)) (by simp[tot])) (by omega)
theorem me_patW {d:Nat}{unit:Pa PatP}(h:Me 0 pn unit):Me 10 pn (patW d unit):=by
 unfold patW;by_cases h0:d=0
 ·rw[if_pos h0];exact Me.fail
 ·rw[if_neg h0];exact me_altW (me_rowW (me_againW h))
theorem me_paren {p:Pa PatP}(h:Me 10 pn p):Me 0 pn (pb popP fun _=>pb p fun x=>pb (mustP [41]) fun _=>pr x):=fun l x l' e=>by
 obtain⟨u,l1,e1,e2⟩:=pb_ok e;obtain⟨y,l2,e3,e4⟩:=pb_ok e2;obtain⟨v,l3,e5,e6⟩:=pb_ok e4;cases e6;have a1:=Me.pop _ _ _ e1;have a2:=h _ _ _ e3;have a3:=me_must _ _ _ _ e5;dsimp only at a1 a3;omega
theorem me_unit:∀d,Me 0 pn (unitP d)
 | 0=>Me.fail
 | d+1=>Me.pif (Me.pb (d:=0) Me.pop (fun _=>Me.pr.mono (by decide)) (by omega)) (Me.pif (Me.pb (d:=0) Me.pop (fun _=>Me.pr.mono (by decide)) (by omega))
   (Me.pif (me_paren (me_patW (me_unit d)))
    (Me.pif (Me.pb (d:=0) (me_one (d+1)) (fun k=>Me.pr.mono (by show (patText (.one k) 2).length+3≤_;simp only[patText];unfold kn;omega)) (by omega)) Me.fail)))
theorem me_pat (d:Nat):Me 10 pn (patP d):=me_patW (me_unit d)
def rn (r:RuleP):Nat:=(ruleText r).length
theorem rn_le (r:RuleP):rn r≤pn r.before+pn r.after+5:=by
 have h1:=pt_le r.before 0;have h2:=pt_le r.after 0;have a:(if r.brk=true then [98,114,101,97,107,32] else [107,101,101,112,32]:List UInt8).length≤6:=by split<;>simp
 have b:(if patText r.before 0=[] then [] else patText r.before 0++[32]:List UInt8).length≤(patText r.before 0).length+1:=by split<;>simp
 have c:(if patText r.after 0=[] then [] else 32::patText r.after 0:List UInt8).length≤(patText r.after 0).length+1:=by split<;>simp
 have e:rn r=(if r.brk=true then [98,114,101,97,107,32] else [107,101,101,112,32]:List UInt8).length+(if patText r.before 0=[] then [] else patText r.before 0++[32]:List UInt8).length+1+(if patText r.after 0=[] then [] else 32::patText r.after 0:List UInt8).length+2:=by
  unfold rn ruleText;rw[List.length_append,List.length_append,List.length_append,List.length_append];rfl
 omega
theorem me_says:Me 0 (fun _=>9) saysP:=Me.pif (Me.pb (d:=0) Me.pop (fun _=>Me.pr.mono (by omega)) (by omega)) (Me.pb (d:=0) (me_must _) (fun _=>Me.pr.mono (by omega)) (by omega))
theorem me_rule:Me 0 rn ruleP:=fun l r l' e=>by
 obtain⟨t,l0,e0,e⟩:=pb_ok e;obtain⟨b,l1,e1,e⟩:=pb_ok e;obtain⟨x,l2,e2,e⟩:=pb_ok e;obtain⟨_,l3,e3,e⟩:=pb_ok e;obtain⟨y,l4,e4,e⟩:=pb_ok e;obtain⟨_,l5,e5,e⟩:=pb_ok e;cases e;cases e0;have a1:=me_says _ _ _ e1;have a2:=me_pat _ _ _ _ e2;have a3:=me_must _ _ _ _ e3;have a4:=me_pat _ _ _ _ e4;have a5:=me_must _ _ _ _ e5;have a6:rn ⟨(hd l).pos,b,x,y⟩≤pn x+pn y+5:=rn_le ⟨(hd l).pos,b,x,y⟩
 simp only at a1 a3 a5;omega
def cn (c:ClassP):Nat:=(classText c).length
theorem me_class:Me 0 cn classP:=fun l r l' e=>by
 obtain⟨t,l0,e0,e⟩:=pb_ok e;obtain⟨_,l1,e1,e⟩:=pb_ok e;obtain⟨n,l2,e2,e⟩:=pb_ok e;obtain⟨_,l3,e3,e⟩:=pb_ok e;obtain⟨k,l4,e4,e⟩:=pb_ok e;obtain⟨_,l5,e5,e⟩:=pb_ok e;cases e;cases e0;have a1:=me_must _ _ _ _ e1;have a2:=me_name _ _ _ e2;have a3:=me_must _ _ _ _ e3;have a4:=me_kindW (me_one 9) _ _ _ e4;have a5:=me_must _ _ _ _ e5;have:=kt_le k false;dsimp only at a1 a2 a3 a5
 simp only[cn,classText,List.length_append,List.length_cons,List.length_nil];omega
theorem me_ruleLoop:∀(n:Nat) (acc:List RuleP),Me (acc.map rn).sum (fun l=>(l.map rn).sum) (ruleLoop n acc)
 | 0,_=>Me.fail
 | n+1,acc=>Me.pif (by
   by_cases h:acc.length=20
   ·rw[if_pos h];exact Me.fail
   ·rw[if_neg h];intro l x l' e;obtain⟨r,l1,e1,e2⟩:=pb_ok e;have a1:=me_rule _ _ _ e1;have a2:=me_ruleLoop n _ _ _ _ e2;simp only[List.map_append,List.sum_append,List.map_cons,List.map_nil,List.sum_cons,List.sum_nil,List.length_append,List.length_cons,List.length_nil]at a2;dsimp only;omega) Me.pr
theorem me_classLoop:∀(n:Nat) (acc:List ClassP),Me (acc.map cn).sum (fun l=>(l.map cn).sum) (classLoop n acc)
 | 0,_=>Me.fail
 | n+1,acc=>Me.pif (by
   by_cases h:acc.length=20
   ·rw[if_pos h];exact Me.fail
   ·rw[if_neg h];intro l x l' e;obtain⟨r,l1,e1,e2⟩:=pb_ok e;have a1:=me_class _ _ _ e1;have a2:=me_classLoop n _ _ _ _ e2;simp only[List.map_append,List.sum_append,List.map_cons,List.map_nil,List.sum_cons,List.sum_nil]at a2;dsimp only;omega) Me.pr
theorem me_else:Me 0 (fun _=>0) elseP:=Me.pif (Me.pb (d:=0) Me.popn (fun _=>Me.pb (d:=0) (me_says.weak (μ':=fun _=>0) (fun _=>by omega)) (fun _=>Me.pb (d:=0) (me_must _) (fun _=>Me.pr.mono (by omega)) (by omega)) (by omega)) (by omega)) Me.pr
theorem flatS_len {α:Type}(f:α→List UInt8)(l:List α):(l.flatMap f).length=(l.map fun x=>(f x).length).sum:=by
 rw[List.length_flatMap]
theorem text_len {s:List UInt8}{f:FileP}(h:parseR s=.ok f):(fileText f).length≤11*s.length+60:=by
 obtain⟨l,l',tl,hn,hf,_⟩:=parseR_ok h;obtain⟨l1,l2,h1,h2,h3⟩:=fileP_ok hf;have a1:=me_classLoop _ _ _ _ _ h1;have a2:=me_ruleLoop _ _ _ _ _ h2;have a3:=me_else _ _ _ h3;simp only[List.map_nil,List.sum_nil,List.length_nil]at a1 a2;have hW:W (l++[⟨5,[],s.length⟩])≤11*s.length+9:=by
  obtain⟨s1,s2⟩:=tl.sum;have:∀l:List Tok,(∀t∈l,0<t.text.length)→W (l++[⟨5,[],s.length⟩])≤11*sumT l+9:=by
   intro l hl;induction l with
   | nil=>simp[W,sumT]
   | cons t l ih =>
    have h1:=ih (fun t ht=>hl t (List.mem_cons_of_mem _ ht));have h2:=hl t (by simp);rw[List.cons_append,W_cons];have:sumT (t::l)=t.text.length+sumT l:=by simp[sumT]
    omega
  have:=this l s2;omega
 have e:(fileText f).length=(f.classes.map cn).sum+(f.rules.map rn).sum+(elseText f.els).length:=by
  unfold fileText;rw[List.length_append,List.length_append,flatS_len,flatS_len];rfl
 have e2:(elseText f.els).length≤11:=by unfold elseText;split<;>simp
 omega
def KindOk:KindP→Prop
 | .lit _ s=>setRight (-2) s=true∧s.length<10000000
 | .ref _ _=>True
 | .not _ k=>KindOk k
 | .bin c _ k r=>KindOk k∧KindOk r∧(c=3∨c=4∨c=5)
mutual
def PatOk:PatP→Prop
 | .one k=>KindOk k
 | .any=>True
 | .edge=>True
 | .cat l=>PatsOk l
 | .alt l=>PatsOk l
 | .many x lo hi=>PatOk x∧0≤lo∧lo<100∧hi<100∧(hi<0∨lo≤hi)
def PatsOk:List PatP→Prop
 | []=>True
 | x::l=>PatOk x∧PatsOk l
end
end Cae
namespace Cae
theorem texts_map (l:List PatP)(n:Nat):patTexts l n=l.map (patText · n):=by
 induction l with
 | nil=>rfl
 | cons x l ih=>rw[patTexts,ih];rfl
theorem lens_mem:∀{l:List (List UInt8)} {x:List UInt8},x∈l→x.length≤Go.Lib.lens l
 | y::l,x,h=>by
  simp only[Go.Lib.lens,List.map_cons,List.sum_cons];rcases List.mem_cons.1 h with rfl|h
  ·omega
  ·have:=lens_mem h;simp only[Go.Lib.lens]at this;omega
theorem join_bounds (l:List (List UInt8))(sep:List UInt8)(hs:1≤sep.length):Go.Lib.lens l≤(Go.Lib.join l sep).length∧l.length≤(Go.Lib.join l sep).length+1:=by
 cases l with
 | nil=>simp[Go.Lib.lens]
 | cons x l =>
  rw[Go.Lib.join_cons,List.length_append,Go.Lib.joinTail_length];have:1*l.length≤sep.length*l.length:=Nat.mul_le_mul_right _ hs;simp only[Go.Lib.lens,List.map_cons,List.sum_cons,List.length_cons];omega
theorem pt_two (x:PatP):(patText x 2).length≤(patText x 1).length+2:=by
 cases x with
 | cat l =>
  have h1:=(inPar_len (decide (1<2)) (Go.Lib.join (patTexts l 2) [32])).2;have h2:=(inPar_len (decide (1<1)) (Go.Lib.join (patTexts l 2) [32])).1;simp only[patText];omega
 | alt l =>
  have h1:=(inPar_len (decide (0<2)) (Go.Lib.join (patTexts l 1) [32,124,32])).2;have h2:=(inPar_len (decide (0<1)) (Go.Lib.join (patTexts l 1) [32,124,32])).1;simp only[patText];omega
 | _=>simp[patText]
theorem pn_in_cat {l:List PatP}:(Go.Lib.join (patTexts l 2) [32]).length+5=pn (.cat l)∧l.length≤pn (.cat l)∧∀x∈l,pn x≤pn (.cat l):=by
 have h0:=join_bounds (patTexts l 2) [32] (by decide);have h1:(Go.Lib.join (patTexts l 2) [32]).length+5=pn (.cat l):=by simp[pn,patText,inPar]
 refine⟨h1,?_,fun x hx=>?_⟩
 ·rw[texts_map,List.length_map]at h0;rw[texts_map]at h1;omega
 ·have:(patText x 2).length≤Go.Lib.lens (patTexts l 2):=lens_mem (by rw[texts_map];exact List.mem_map.2 ⟨x,hx,rfl⟩);have h2:pn x=(patText x 2).length+3:=rfl;omega
theorem pn_in_alt {l:List PatP}:(Go.Lib.join (patTexts l 1) [32,124,32]).length+5=pn (.alt l)∧l.length≤pn (.alt l)∧∀x∈l,pn x≤pn (.alt l):=by
 have h0:=join_bounds (patTexts l 1) [32,124,32] (by decide);have h1:(Go.Lib.join (patTexts l 1) [32,124,32]).length+5=pn (.alt l):=by simp[pn,patText,inPar]
 refine⟨h1,?_,fun x hx=>?_⟩
 ·rw[texts_map,List.length_map]at h0;rw[texts_map]at h1;omega
 ·have:(patText x 1).length≤Go.Lib.lens (patTexts l 1):=lens_mem (by rw[texts_map];exact List.mem_map.2 ⟨x,hx,rfl⟩);have h2:pn x=(patText x 2).length+3:=rfl;have:=pt_two x;omega
end Cae
namespace Cae
theorem All2.at {α β:Type}{R:α→β→Prop}{l:List α}{m:List β}(h:All2 R l m):∀{i:Nat} {y:β},m[i]?=some y→∃x,l[i]?=some x∧R x y:=by
 induction h with
 | nil=>intro i y hy;simp at hy
 | cons h1 _ ih =>
  intro i y hy;cases i with
  | zero=>cases hy;exact⟨_,rfl,h1⟩
  | succ i =>
   obtain⟨x,hx,hr⟩:=ih (i:=i) (y:=y) (by simpa using hy);exact⟨x,by simpa using hx,hr⟩
theorem flatS_mem {α:Type}(f:α→List UInt8){l:List α}{x:α}(h:x∈l):(f x).length≤(l.flatMap f).length:=by
 induction l with
 | nil=>cases h
 | cons y l ih =>
  simp only[List.flatMap_cons,List.length_append];rcases List.mem_cons.1 h with rfl|h
  ·omega
  ·have:=ih h;omega
theorem pt_zero (x:PatP):(patText x 2).length≤(patText x 0).length+2:=by
 cases x with
 | cat l =>
  have h1:=(inPar_len (decide (1<2)) (Go.Lib.join (patTexts l 2) [32])).2;have h2:=(inPar_len (decide (1<0)) (Go.Lib.join (patTexts l 2) [32])).1;simp only[patText];omega
 | alt l =>
  have h1:=(inPar_len (decide (0<2)) (Go.Lib.join (patTexts l 1) [32,124,32])).2;have h2:=(inPar_len (decide (0<0)) (Go.Lib.join (patTexts l 1) [32,124,32])).1;simp only[patText];omega
 | _=>simp[patText]
theorem rt_len (r:RuleP):(patText r.before 0).length+(patText r.after 0).length≤(ruleText r).length∧(ruleText r).length≤(patText r.before 0).length+(patText r.after 0).length+20:=by
 unfold ruleText;split<;>split<;>split<;>simp[*]<;>omega
def FileOk (f:FileP):Prop:=(∀c∈f.classes,KindOk c.kind)∧∀r∈f.rules,PatOk r.before∧PatOk r.after
theorem pn_in_many {x:PatP}{lo hi:Int}:pn x≤pn (.many x lo hi):=by
 simp only[pn,patText,List.length_append];omega
theorem map_same {α:Type}{f:α→α}{l:List α}(h:∀r∈l,f r=r):l.map f=l:=by
 induction l with
 | nil=>rfl
 | cons x l ih=>rw[List.map_cons,h x (by simp),ih (fun r hr=>h r (by simp[hr]))]
theorem setP_of {s:List UInt8}{l:List Rg}(h:PrintOf s l):setP s=some l:=by
 obtain⟨hr,rfl⟩:=h;have hb:((printP l).drop 1).dropLast=bodyP l:=by
  unfold printP bodyP;simp
 have hmap:(if ((printP l).drop 1).dropLast=[] then ([]:List Rg) else (splitB 32 ((printP l).drop 1).dropLast).map fun p=>(((hexV (cutP 45 p).1:Nat):Int),if (cutP 45 p).2.2 then ((hexV (cutP 45 p).2.1:Nat):Int) else ((hexV (cutP 45 p).1:Nat):Int)))=l:=by
  rw[hb];by_cases h0:bodyP l=[]
  ·rw[if_pos h0,bodyP_nil h0]
  ·rw[if_neg h0,split_body hr h0,List.map_map];refine map_same fun r hrm=>?_;obtain⟨h1,h2,h3⟩:=mem_right (by omega) hr r hrm;simp only[Function.comp];by_cases hlt:r.1<r.2
   ·rw[cut_rg h1 (by omega) (by omega) hlt];simp only[if_true];rw[hexP_val (by omega),hexP_val (by omega)];ext<;>simp<;>omega
   ·rw[cut_rg1 h1 (by omega) hlt];simp only[Bool.false_eq_true,if_false];rw[hexP_val (by omega)];ext<;>simp<;>omega
 unfold setP;simp only;rw[hmap,hr];simp
theorem setP_no {s:List UInt8}(h:∀l,¬PrintOf s l):setP s=none:=by
 cases hs:setP s with
 | none=>rfl
 | some l=>exact absurd (setP_ok hs) (h l)
theorem right_few:∀{s:List Rg} {a:Int},setRight a s=true→2*(s.length:Int)≤max 0 (1114113-a)
 | [],a,_=>by simp;omega
 | r::s,a,h=>by
  rw[setRight_con]at h;have:=right_few h.2;have h1:=h.1;simp only[List.length_cons];omega
theorem right_len {s:List Rg}(h:setRight (-2) s=true):s.length≤557057:=by
 have:=right_few h;omega
end Cae
end
section
namespace Go.Vc
open Go.RowKit
section
variable {P:Program} {n:Nat} {ro:Option Nat} {ds:List Deferred}
def fen (ro:Option Nat):Fence:={ Fence.wide with round:=ro }
theorem callsFen {f:FuncId}{args:Array Value}{w:World}{R:Ending→World→Prop}(h:Calls P f args w R):CallsIn (fen ro) n P f args w R:=(callsIn_wide (n:=n)).2 h
def liftD (ds:List Deferred)(Q:EP):Exit→Act→World→Prop:=fun e a w=>a.defers=ds∧Q e a.tmps.toList w
theorem put_eqD (t:Fr)(d:Option Tmp)(v:Value):(Act.mk t.toArray ds).put d v=⟨(put t d v).toArray,ds⟩:=by
 cases d<;>simp[Act.put,put]
theorem act_eqD {a:Act}(h:a.defers=ds):a=⟨a.tmps.toList.toArray,ds⟩:=by cases a;simp_all
theorem resK_uponIn {o:Oper}{t:Fr}{K:Value→World→Prop}{Q:EP}{r:Result Next}{next:Act→World→Prop}
  (hn:∀v w',K v w'→next ⟨(put t o.dst v).toArray,ds⟩ w') (h:resK P t K Q r):o.uponIn (fen ro) n P ⟨t.toArray,ds⟩ next (liftD ds Q) r:=by
 cases r with
 | ok x w' =>
  cases x<;>simp only[resK]at h<;>simp only[Oper.uponIn]
  case value v=>rw[put_eqD];exact hn _ _ h
  case skip=>rw[put_eqD];exact hn _ _ h
  case enter f args =>
   refine⟨(fun hh=>by cases hh),callsFen (h.mono fun e w'' he=>?_)⟩;cases e with
   | returned v=>dsimp only at he ⊢;rw[put_eqD];exact hn _ _ he
   | panicked c=>exact⟨rfl,by simpa using he⟩
   | outgrown=>exact he.elim
 | halt x w' =>
  cases x<;>simp only[resK]at h<;>simp only[Oper.uponIn];exact⟨rfl,by simpa using h⟩
def noDefer (o:Oper):Bool:=match o.op with|.defer _=>false|_=>true
theorem noDefer_ne {o:Oper}(h:noDefer o=true):∀c,o.op≠.defer c:=fun c e=>by simp[noDefer,e]at h
theorem semAt_fen {o:Oper}(h:noDefer o=true)(ro:Option Nat)(ρ:Operand→Value):Oper.semAt ro ρ o=execOp ρ o:=Oper.semAt_eq ro ρ o (noDefer_ne h)
theorem wpIn_of_opK {o:Oper}(hd:noDefer o=true){t:Fr}{w:World}{K:Value→World→Prop}{Q:EP}{next:Act→World→Prop}
  (hn:∀v w',K v w'→next ⟨(put t o.dst v).toArray,ds⟩ w') (h:opK P o t w K Q .mk):o.wpIn (fen ro) n P ⟨t.toArray,ds⟩ w next (liftD ds Q):=by
 have h':=opK_ok h;unfold runK at h';refine⟨fun _ _=>trivial,?_⟩;rw[semAt_fen hd,ev_eq];exact resK_uponIn hn h'
theorem vcOpsIn_ok {ops:List Oper}{K:Fr→World→Prop}{Q:EP}{next:Exit→Act→World→Prop}(rest:List Oper)(hn:∀t w,K t w→wpListIn (fen ro) n P ops.toArray next rest ⟨t.toArray,ds⟩ w)(hq:∀e a w,liftD ds Q e a w→next e a w) :
  ∀(l:List Oper),l.all noDefer=true→∀(t:Fr) (w:World),vcOps P ops K Q l t w .mk→wpListIn (fen ro) n P ops.toArray next (l++rest) ⟨t.toArray,ds⟩ w
 | [],_,t,w,h=>hn t w h
 | o::r,hd,t,w,h=>by
  simp only[List.all_cons,Bool.and_eq_true]at hd;rw[List.cons_append];have step:∀(t':Fr),Region.wanted o (yielded ops.toArray t'.toArray)=true→opK P o t' w (fun v w'=>vcOps P ops K Q r (put t' o.dst v) w' .mk) Q .mk→wpListIn (fen ro) n P ops.toArray next (o::(r++rest)) ⟨t'.toArray,ds⟩ w:=fun t' hw h'=>by
   unfold wpListIn;rw[if_pos hw];have:=wpIn_of_opK (ro:=ro) (n:=n) (ds:=ds) hd.1 (next:=wpListIn (fen ro) n P ops.toArray next (r++rest)) (fun v w' hk=>vcOpsIn_ok rest hn hq r hd.2 _ w' hk) h';refine⟨this.1,?_⟩;have h2:=this.2;generalize (Oper.semAt _ _ o).run P w=res at h2 ⊢;cases res with
   | ok x w' =>
    cases x<;>simp only[Oper.uponIn]at h2 ⊢<;>first|exact h2|skip
    ·exact⟨h2.1,h2.2.mono fun e w'' he=>by
      cases e with
      | returned v=>exact he
      | panicked c=>exact hq _ _ _ he
      | outgrown=>obtain⟨a₀,w₀,hh⟩:=he;exact⟨a₀,w₀,hq _ _ _ hh⟩⟩
    ·exact⟨h2.1,h2.2.mono fun e w'' he=>by
      cases e with
      | returned v=>exact he
      | panicked c=>exact hq _ _ _ he
      | outgrown=>obtain⟨a₀,w₀,hh⟩:=he;exact⟨a₀,w₀,hq _ _ _ hh⟩⟩
   | halt x w'=>cases x<;>simp only[Oper.uponIn]at h2 ⊢<;>first|exact h2|exact hq _ _ _ h2
  have skip:∀(t':Fr),Region.wanted o (yielded ops.toArray t'.toArray)=false→vcOps P ops K Q r (put t' o.dst undef) w .mk→wpListIn (fen ro) n P ops.toArray next (o::(r++rest)) ⟨t'.toArray,ds⟩ w:=fun t' hw h'=>by
   unfold wpListIn;rw[if_neg (by rw[hw];simp),put_eqD];exact⟨fun _ _=>trivial,vcOpsIn_ok rest hn hq r hd.2 _ w h'⟩
  simp only[vcOps]at h;split at h
  ·rename_i hg;exact step t (by simp[Region.wanted,hg]) h
  ·rename_i j want hg;have hwant:∀t':Fr,Region.wanted o (yielded ops.toArray t'.toArray)=(yielded ops.toArray t'.toArray j == some want):=fun t'=>by simp only[Region.wanted,hg]
   unfold guardK at h;split at h
   ·rename_i hs;exact skip t (by rw[hwant,yielded_eq,hs];rfl) h
   ·rename_i s hs;split at h
    ·rename_i b hb;have hlt:s<t.length:=by
      rcases Nat.lt_or_ge s t.length with h'|h'
      ·exact h'
      ·simp[List.getD_eq_getElem?_getD,List.getElem?_eq_none h',undef]at hb
     have hv:t[s]?=some (.bool b):=by
      rw[List.getD_eq_getElem?_getD]at hb;rw[List.getElem?_eq_getElem hlt]at hb ⊢;simpa using hb
     have hy:yielded ops.toArray t.toArray j=some b:=by rw[yielded_eq,hs];simp[hv]
     have same:=set_getD_same t s hlt;rw[hb]at same;by_cases hbw:b=want
     ·subst hbw;have h1:=h.1 rfl;rw[same]at h1;exact step t (by rw[hwant,hy];simp) h1
     ·have hbn:b=!want:=by cases b<;>cases want<;>simp_all
      have h2:=h.2 hbn;rw[←hbn,same]at h2;exact skip t (by rw[hwant,hy];simpa using hbw) h2
    ·rename_i hb;refine skip t ?_ h;rw[hwant,yielded_eq,hs];simp only[Option.bind_some];cases hv:t[s]? with
     | none=>rfl
     | some v =>
      have:t.getD s undef=v:=by rw[List.getD_eq_getElem?_getD,hv];rfl
      rw[this]at hb;cases v<;>simp at hb ⊢
def plainB:Code→Bool
 | .skip|.exit _|.ret|.label _|.goto _=>true
 | .region _ ops false=>ops.toList.all noDefer
 | .seq a b=>plainB a && plainB b
 | .cond _ a b=>plainB a && plainB b
 | .block _ c=>plainB c
 | _=>false
theorem vcIn_ok:∀(c:Code),plainB c=true→∀(Q:EP) (t:Fr) (w:World),vc P c Q t w .mk→c.wpIn (fen ro) n P (liftD ds Q) ⟨t.toArray,ds⟩ w
 | .skip,_,_,_,_,h=>wpIn_skip ⟨rfl,by simpa[vc] using h⟩
 | .region _ ops false,hp,Q,t,w,h=>by
  refine wpIn_region_list ?_
  have:=vcOpsIn_ok (P:=P) (n:=n) (ro:=ro) (ds:=ds) (ops:=ops.toList) (K:=Q .normal) (Q:=Q) (next:=liftD ds Q) [] (fun t w hk=>⟨rfl,by simpa using hk⟩) (fun _ _ _ h=>h) ops.toList hp t w h
  simpa using this
 | .seq a b,hp,Q,t,w,h=>by
  simp only[plainB,Bool.and_eq_true]at hp
  refine wpIn_seq (Code.wpIn_mono ?_ (vcIn_ok a hp.1 _ t w h))
  rintro e a' w' ⟨hd,hh⟩
  cases e<;>simp only[seqQ]at hh<;>simp only[Exit.then]<;>first|exact⟨hd,hh⟩|skip
  have:=vcIn_ok b hp.2 Q _ w' hh
  rw[act_eqD hd]
  exact this
 | .cond c a b,hp,Q,t,w,h=>by
  simp only[plainB,Bool.and_eq_true]at hp
  simp only[vc]at h
  unfold condK at h
  split at h
  ·rename_i x hx
   exact wpIn_cond_split (t:=x) (by rw[ev_eq];exact hx) (fun hx'=>vcIn_ok a hp.1 Q t w (h.1 hx')) (fun hx'=>vcIn_ok b hp.2 Q t w (h.2 hx'))
  ·exact h.elim
 | .block i c,hp,Q,t,w,h=>by
  refine wpIn_block (Code.wpIn_mono ?_ (vcIn_ok c hp _ t w h))
  rintro e a' w' ⟨hd,hh⟩
  cases e<;>simp only[blockQ]at hh<;>simp only[Exit.inBlock]<;>first|exact⟨hd,hh⟩|skip
  split at hh
  ·rename_i e;simp only[e,if_true];exact⟨hd,hh⟩
  ·rename_i e;simp only[e,if_false];exact⟨hd,hh⟩
 | .exit i,_,_,_,_,h=>wpIn_exit ⟨rfl,by simpa[vc] using h⟩
 | .ret,_,_,_,_,h=>wpIn_ret ⟨rfl,by simpa[vc] using h⟩
 | .label _,_,_,_,_,h=>wpIn_label ⟨rfl,by simpa[vc] using h⟩
 | .goto l,_,_,_,_,h=>wpIn_goto ⟨rfl,by simpa[vc] using h⟩
 | .region _ _ true,hp,_,_,_,_=>by cases hp
 | .loop _,hp,_,_,_,_=>by cases hp
 | .scope _,hp,_,_,_,_=>by cases hp
 | .rangeFunc ..,hp,_,_,_,_=>by cases hp
 | .refuse _,hp,_,_,_,_=>by cases hp
def roundQ {α:Type}(Z:Nat→Prop)(I:List α→World→Prop)(Ix:Code→List α→World→Prop)(xs:List α)(W:World):Exit→Act→World→Prop
 | .normal,_,W'=>(∀k,Z k→W'.heap[k]?=W.heap[k]?)∧I xs W'
 | .ret,_,W'=>(∀k,Z k→W'.heap[k]?=W.heap[k]?)∧Ix .ret xs W'
 | .exit id,_,W'=>(∀k,Z k→W'.heap[k]?=W.heap[k]?)∧Ix (.exit id) xs W'
 | .goto t,_,W'=>(∀k,Z k→W'.heap[k]?=W.heap[k]?)∧Ix (.goto t) xs W'
 | _,_,_=>False
theorem keptPut {X:Nat→Prop}(W:World)(l:Nat)(o:Obj)(hX:X l):Kept X W (W.putObj l o) :=
 ⟨rfl,rfl,rfl,by simp,fun k _ hk=>World.putObj_heap_other (fun e=>hk (by rw[e];exact hX))⟩
def Iter (P:Program)(n:Nat){α:Type}(gf:Nat)(lb:Array Value)(encs:α→Array Value)(B Z:Nat→Prop)(S Sp:List α→Prop)(A:List α→α→Prop)(w:World):Prop :=
 ∀(l:Nat) (J Jx:List α→World→Prop) (W:World),(∀k,k<w.heap.size→W.heap[k]?=w.heap[k]?)→w.heap.size≤W.heap.size→(∀s A A',J s A→Kept B A A'→J s A')→(∀s A A',Jx s A→Kept B A A'→Jx s A') →
  (∀pre x W1,J pre W1→A pre x→YieldAt Fence.wide n P l (encs x) W1 fun e W' =>
   (e=.returned (.bool true)∧J (pre++[x]) W'∧(∀k,Z k→W'.heap[k]?=W1.heap[k]?)∧W1.heap.size≤W'.heap.size)∨(e=.returned (.bool false)∧Jx (pre++[x]) W')) →
  J [] W→CallsIn Fence.wide n P gf (#[.func (.yield l) #[] #[]]++lb) W fun e W'=>(∃v,e=.returned v)∧((∃xs,S xs∧J xs W')∨(∃pre,Sp pre∧Jx pre W'))
theorem rangeK {α:Type} {g:Operand} {ps:Array Tmp} {assign body:Code} {Q:Exit→Act→World→Prop} {a:Act} {w:World} {gf:Nat} {lb:Array Value} (hg:a.eval g=.func (.func gf) #[] lb) (eg:∀args w,(callFunc gf args).run P w=.ok (.enter gf args) w)
  {encs:α→Array Value} (hps:∀x,(encs x).size=ps.size) {B Z:Nat→Prop} {S Sp:List α→Prop} {A:List α→α→Prop} (hB:∀k,B k→k<w.heap.size) (hZ:∀k,Z k→k<w.heap.size) (hseq:Iter P (n-1) gf lb encs B Z S Sp A w)
  (I:List α→World→Prop) (Ix:Code→List α→World→Prop) (hI:∀s W W',I s W→Kept (fun k=>B k∨k=w.heap.size∨k=w.heap.size+1) W W'→I s W') (hIx:∀c s W W',Ix c s W→Kept (fun k=>B k∨k=w.heap.size∨k=w.heap.size+1) W W'→Ix c s W') (h0:I [] w) (a₁:α→Act)
  (hassign:∀(x:α) (W:World) (K:Act→World→Prop),K (a₁ x) W →
   assign.wpIn (fen (some (w.heap.size+1))) (n-1) P (Exit.then K (fun _ _ _=>False)) { tmps:=(ps.zip (encs x)).foldl (fun t (p,v)=>t.setIfInBounds p v) a.tmps,defers:=[] } W)
  (hbody:∀(pre:List α) (x:α) (W:World),I pre W→A pre x→w.heap.size+1<W.heap.size→body.wpIn (fen (some (w.heap.size+1))) (n-1) P (fun e a' W'=>W.heap.size≤W'.heap.size∧roundQ (fun k=>Z k∨k=w.heap.size∨k=w.heap.size+1) I Ix (pre++[x]) W e a' W') (a₁ x) W)
  (hdone:∀(xs:List α) (W:World),S xs→I xs W→W.heap[w.heap.size]?=some (.deferred (some []))→Q .normal { a with defers:={ target:=.collected w.heap.size,args:=#[] }::a.defers } W)
  (hstop:∀(c:Code) (pre:List α) (W:World),Sp pre→Ix c pre W→W.heap[w.heap.size]?=some (.deferred (some []))→c.wpIn Fence.wide n P Q { a with defers:={ target:=.collected w.heap.size,args:=#[] }::a.defers } W) :
  (Code.rangeFunc g ps assign body).wpIn Fence.wide n P Q a w:=by
 refine wpIn_rangeFunc ?_
 intro fn _
 have hrec:∃rec:LoopState→Option Code→Loop,rec=fun st pe=>{ state:=st,pending:=pe,fn,tmps:=a.tmps,params:=ps,assign,body,defers:=w.heap.size }:=⟨_,rfl⟩
 obtain⟨rec,hrec⟩:=hrec
 have hg1:∃W1,(w.alloc (.deferred (some []))).alloc (.loop (rec .ready none))=W1:=⟨_,rfl⟩
 obtain⟨W1,hW1⟩:=hg1
 have sz1:W1.heap.size=w.heap.size+1+1:=by rw[←hW1];simp
 have hL1:W1.heap[w.heap.size+1]?=some (.loop (rec .ready none)):=by
  rw[←hW1]
  have:=World.alloc_heap_new (w.alloc (.deferred (some []))) (.loop (rec .ready none))
  rwa [World.size_alloc]at this
 have hK1:W1.heap[w.heap.size]?=some (.deferred (some [])):=by
  rw[←hW1];exact(Below.heap_alloc _ _ _ (by simp)).trans (World.alloc_heap_new w _)
 have hk1:∀k,k<w.heap.size→W1.heap[k]?=w.heap[k]?:=fun k hk=>by
  rw[←hW1];exact(Below.heap_alloc _ _ _ (by simp;omega)).trans (Below.heap_alloc _ _ _ hk)
 have hkept:Kept (fun k=>B k∨k=w.heap.size∨k=w.heap.size+1) w W1:=⟨by rw[←hW1];rfl,by rw[←hW1];rfl,by rw[←hW1];rfl,by omega,fun k hk _=>hk1 k hk⟩
 have hbook:∀{W:World} (o:Obj),Kept (fun k=>B k∨k=w.heap.size∨k=w.heap.size+1) W (W.putObj (w.heap.size+1) o):=fun o=>keptPut _ _ _ (.inr (.inr rfl))
 have hne:∀{k:Nat},B k→k≠w.heap.size∧k≠w.heap.size+1:=fun {k} hk=>by have:=hB k hk;omega
 refine⟨w.heap.size+1,[{ target:=.collected w.heap.size,args:=#[] }],W1,{ target:=.fn (.func gf) lb,args:=#[.func (.yield (w.heap.size+1)) #[] #[]] },W1,gf,
  #[.func (.yield (w.heap.size+1)) #[] #[]]++lb,W1,?_,?_,fun _ _=>trivial,?_,(fun hh=>by cases hh),?_⟩
 ·rw[←hW1,hrec];exact run_enterLoop_outer _ _ _ _ _
 ·simp only[resolve,hg]
  simp[go_sem]
 ·simp[invoke,go_sem,eg]
 ·refine(hseq (w.heap.size+1)
   (fun pre W=>I pre W∧W.heap[w.heap.size+1]?=some (.loop (rec .ready none))∧W.heap[w.heap.size]?=some (.deferred (some [])))
   (fun pre W=>∃c,Ix c pre W∧W.heap[w.heap.size+1]?=some (.loop (rec .done (some c)))∧W.heap[w.heap.size]?=some (.deferred (some [])))
   W1 hk1 (by omega) ?_ ?_ ?_ ⟨hI _ _ _ h0 hkept,hL1,hK1⟩).mono ?_
  ·rintro s A A' ⟨h1,h2,h3⟩ hk
   exact⟨hI _ _ _ h1 (hk.weaken (fun i _ h=>.inl h)),(hk.block _ (Array.getElem?_eq_some_iff.1 h2).1 (fun h=>(hne h).2 rfl)).trans h2,(hk.block _ (Array.getElem?_eq_some_iff.1 h3).1 (fun h=>(hne h).1 rfl)).trans h3⟩
  ·rintro s A A' ⟨c,h1,h2,h3⟩ hk
   exact⟨c,hIx _ _ _ _ h1 (hk.weaken (fun i _ h=>.inl h)),(hk.block _ (Array.getElem?_eq_some_iff.1 h2).1 (fun h=>(hne h).2 rfl)).trans h2,(hk.block _ (Array.getElem?_eq_some_iff.1 h3).1 (fun h=>(hne h).1 rfl)).trans h3⟩
  ·rintro pre x W ⟨hi,hl,hk⟩ hlen
   have hlt:w.heap.size+1<W.heap.size:=(Array.getElem?_eq_some_iff.1 hl).1
   have hy:=run_yield (P:=P) (args:=encs x) hl (by rw[hrec];exact hps x)
   rw[hrec]at hy
   refine⟨fn,_,assign,body,hy,roundIn_of_wpIn trivial (hassign x W _ ⟨_,run_beginRound hl (by rw[hrec]),?_⟩)⟩
   have hgV:∃V,W.putObj (w.heap.size+1) (.loop { rec .ready none with state:=.busy })=V:=⟨_,rfl⟩
   obtain⟨V,hV⟩:=hgV
   have hVl:V.heap[w.heap.size+1]?=some (.loop { rec .ready none with state:=.busy }):=by rw[←hV];exact World.putObj_heap_same hlt
   have hVk:V.heap[w.heap.size]?=some (.deferred (some [])):=by rw[←hV];exact(World.putObj_heap_other (by omega)).trans hk
   have hVs:V.heap.size=W.heap.size:=by rw[←hV];simp
   have hVo:∀k,k≠w.heap.size+1→V.heap[k]?=W.heap[k]?:=fun k h=>by rw[←hV];exact World.putObj_heap_other h
   rw[hV]
   refine wpIn_mono (hbody pre x V (by rw[←hV];exact hI _ _ _ hi (hbook _)) hlen (by omega)) ?_
   have fin:∀(jump:Option Code) (W3:World),V.heap.size≤W3.heap.size→(∀k,Z k∨k=w.heap.size∨k=w.heap.size+1→W3.heap[k]?=V.heap[k]?) →
     (Instr.endRound (w.heap.size+1) jump).run P W3=.ok (.bool jump.isNone) (W3.putObj (w.heap.size+1) (.loop (rec (if jump.isNone then .ready else .done) jump))) ∧
     (W3.putObj (w.heap.size+1) (.loop (rec (if jump.isNone then .ready else .done) jump))).heap[w.heap.size+1]?=some (.loop (rec (if jump.isNone then .ready else .done) jump)) ∧
     (W3.putObj (w.heap.size+1) (.loop (rec (if jump.isNone then .ready else .done) jump))).heap[w.heap.size]?=some (.deferred (some [])) ∧
     ∀k,Z k→(W3.putObj (w.heap.size+1) (.loop (rec (if jump.isNone then .ready else .done) jump))).heap[k]?=W.heap[k]?:=fun jump W3 hs3 hz3=>by
    have hl3:=(hz3 _ (.inr (.inr rfl))).trans hVl
    have hr:=run_endRound (P:=P) jump hl3
    rw[hrec]at hr ⊢
    refine⟨hr,World.putObj_heap_same (by omega),(World.putObj_heap_other (by omega)).trans ((hz3 _ (.inr (.inl rfl))).trans hVk),fun k hk=>?_⟩
    have:=hZ k hk
    exact(World.putObj_heap_other (by omega)).trans ((hz3 k (.inl hk)).trans (hVo k (by omega)))
   rintro e a3 W3 ⟨hs3,hp⟩
   cases e with
   | normal =>
    obtain⟨hz3,hi3⟩:=hp
    obtain⟨hr,hl4,hk4,hz4⟩:=fin none W3 hs3 hz3
    exact⟨_,_,hr,.inl ⟨rfl,⟨hI _ _ _ hi3 (hbook _),hl4,hk4⟩,hz4,by simp;omega⟩⟩
   | ret =>
    obtain⟨hz3,hi3⟩:=hp
    obtain⟨hr,hl4,hk4,hz4⟩:=fin (some .ret) W3 hs3 hz3
    exact⟨_,_,hr,.inr ⟨rfl,.ret,hIx _ _ _ _ hi3 (hbook _),hl4,hk4⟩⟩
   | exit id =>
    obtain⟨hz3,hi3⟩:=hp
    obtain⟨hr,hl4,hk4,hz4⟩:=fin (some (.exit id)) W3 hs3 hz3
    exact⟨_,_,hr,.inr ⟨rfl,.exit id,hIx _ _ _ _ hi3 (hbook _),hl4,hk4⟩⟩
   | goto t =>
    obtain⟨hz3,hi3⟩:=hp
    obtain⟨hr,hl4,hk4,hz4⟩:=fin (some (.goto t)) W3 hs3 hz3
    exact⟨_,_,hr,.inr ⟨rfl,.goto t,hIx _ _ _ _ hi3 (hbook _),hl4,hk4⟩⟩
   | panic ch=>exact hp.elim
   | outgrown=>exact hp.elim
  ·rintro e W2 ⟨⟨v,rfl⟩,(⟨xs,hS,hi,hl,hk⟩|⟨pre,hSp,c,hi,hl,hk⟩)⟩
   ·have hr:=run_endLoop (P:=P) hl (by rw[hrec];simp)
    rw[hrec]at hr
    exact⟨none,_,hr,hdone xs _ hS (hI _ _ _ hi (hbook _)) ((World.putObj_heap_other (by omega)).trans hk)⟩
   ·have hr:=run_endLoop (P:=P) hl (by rw[hrec];simp)
    rw[hrec]at hr
    exact⟨some c,_,hr,hstop c pre _ hSp (hIx _ _ _ _ hi (hbook _)) ((World.putObj_heap_other (by omega)).trans hk)⟩
theorem plainIn {c:Code}(hp:plainB c=true){Q:Exit→Act→World→Prop}{t:Fr}{w:World}(h:vc P c (fun e t w=>Q e ⟨t.toArray,ds⟩ w) t w .mk):c.wpIn (fen ro) n P Q ⟨t.toArray,ds⟩ w :=
 wpIn_mono (vcIn_ok c hp _ t w h) (by rintro e a w' ⟨hd,hh⟩;rw[act_eqD hd];exact hh)
theorem seqIn {a b : Code} (hp : plainB a = true) {Q : Exit → Act → World → Prop} {t : Fr} {w : World} (h : vc P a (seqQ (fun t w => b.wpIn (fen ro) n P Q ⟨t.toArray, ds⟩ w) (fun e t w => Q e ⟨t.toArray, ds⟩ w) .mk) t w .mk) : (Code.seq a b).wpIn (fen ro) n P Q ⟨t.toArray, ds⟩ w := by
  refine wpIn_seq (wpIn_mono (vcIn_ok a hp _ t w h) ?_)
  rintro e a' w' ⟨hd, hh⟩
  cases e <;> simp only [seqQ] at hh <;> simp only [Exit.then] <;> (rw [act_eqD hd]; exact hh)
theorem roundWide {m m' l:Nat}{f:FuncId}{tmps:Array Value}{assign body:Code}{w:World}{R:Ending→World→Prop}(h:RoundIn Fence.wide m P l f tmps assign body w R):RoundIn (fen none) m' P l f tmps assign body w R :=
 ⟨trivial,fun c cs _=>h.2 c cs (room_wide _)⟩
theorem yieldRegion {id l m:Nat}{l1 l2:List Oper}{o:Oper}{x:Operand}{args:Array Operand}{ats:Array TypeId}{Q:Exit→Act→World→Prop}{t:Fr}{w:World}(hp1:l1.all noDefer=true)(hp2:l2.all noDefer=true)(ho:o.op=.call { callee:=.value x,args,argTypes:=ats })(hg:o.guard=none)
  (h:vcOps P (l1++o::l2) (fun t w=>ev t x=.func (.yield l) #[] #[]∧∃R,YieldAt Fence.wide m P l (args.toList.map (ev t)).toArray w R∧∀e w',R e w'→∃b,e=.returned (.bool b)∧vcOps P (l1++o::l2) (fun t w=>Q .normal ⟨t.toArray,ds⟩ w) (fun e t w=>Q e ⟨t.toArray,ds⟩ w) l2 (put t o.dst (.bool b)) w' .mk) (fun e t w=>Q e ⟨t.toArray,ds⟩ w) l1 t w .mk) :
  (Code.region id (l1++o::l2).toArray false).wpIn (fen none) n P Q ⟨t.toArray,ds⟩ w:=by
 refine wpIn_region_list ?_;rw[List.toList_toArray];refine vcOpsIn_ok (ro:=none) (o::l2) ?_ (fun e a w hh=>by rw[act_eqD hh.1];exact hh.2) l1 hp1 t w h;rintro t1 w1 ⟨hx,R,⟨fn,tmps,assign,body,hy,hR⟩,hk⟩;unfold wpListIn;rw[if_pos (by simp[Region.wanted,hg])];refine⟨fun _ _=>trivial,?_⟩;rw[semAt_fen (by simp[noDefer,ho]),ev_eq]
 have he:(execOp (ev t1) o).run P w1=.ok (.round l fn tmps assign body) w1:=by
  unfold execOp;simp only[ho];have hy':(Instr.yield l (args.map (ev t1))).run P w1=.ok (.round l fn tmps assign body) w1:=by rw[show args.map (ev t1)=(args.toList.map (ev t1)).toArray by rw[←Array.toList_map]];exact hy
  simp[resolve,hx,invoke,go_sem,hy']
 rw[he];refine⟨(fun hh=>by cases hh),(roundWide hR).mono fun e w' hr=>?_⟩;obtain⟨b,rfl,hb⟩:=hk e w' hr
 show wpListIn _ _ _ _ _ _ _ _
 rw[put_eqD];have:=vcOpsIn_ok (P:=P) (n:=n) (ro:=none) (ds:=ds) (ops:=l1++o::l2) (next:=Q) [] (fun t w hh=>hh) (fun e a w hh=>by rw[act_eqD hh.1];exact hh.2) l2 hp2 _ w' hb;simpa using this
theorem loopIn {c:Code} {Q:Exit→Act→World→Prop} {t:Fr} {w:World} (M:List Nat) (I:(Nat→Value)→World→Prop) (μ:(Nat→Value)→World→Nat) (h0:I (at_ t) w)
  (hr:∀z w',I z w'→c.wpIn (fen ro) n P (fun e a' w''=>match e with|.normal=>a'.defers=ds∧a'.tmps.toList=ov t M (at_ a'.tmps.toList)∧I (at_ a'.tmps.toList) w''∧μ (at_ a'.tmps.toList) w''<μ z w'|e=>Q e a' w'') ⟨(ov t M z).toArray,ds⟩ w'):(Code.loop c).wpIn (fen ro) n P Q ⟨t.toArray,ds⟩ w:=by
 refine wpIn_loop (fun a w'=>a.defers=ds∧a.tmps.toList=ov t M (at_ a.tmps.toList)∧I (at_ a.tmps.toList) w') (fun a w'=>μ (at_ a.tmps.toList) w') ⟨rfl,by simp[ov_at],by simpa using h0⟩ ?_
 rintro a w' ⟨hd,ht,hI⟩
 have h1:=hr _ w' hI
 rw[←ht]at h1
 rw[act_eqD hd]
 refine wpIn_mono h1 ?_
 intro e a' w'' hh
 cases e<;>simp only[Exit.then]<;>first|exact hh|skip
 obtain⟨hd',h1,h2,h3⟩:=hh
 exact⟨⟨hd',h1,h2⟩,by simpa using h3⟩
theorem leave0 {fn:Func}{rs:List ResultVar}{R:VK}(hrs:fn.results=rs.toArray){t:Fr}{w:World}(h:retC P rs R .mk .ret t w):bodyPostM Fence.wide n P fn (fun e w'=>∃v,e=.returned v∧R v w') .ret ⟨t.toArray,[]⟩ w:=by
 obtain⟨vs,hv,hk⟩:=resultsC_run fn rs hrs t _ h;exact⟨_,hv,_,rfl,hk⟩
theorem leaveD {fn:Func}{rs:List ResultVar}{R:VK}(hrs:fn.results=rs.toArray){t:Fr}{w:World}{D:Nat}(hD:w.heap[D]?=some (.deferred (some [])))(h:retC P rs R .mk .ret t (w.putObj D (.deferred none))):bodyPostM Fence.wide n P fn (fun e w'=>∃v,e=.returned v∧R v w') .ret ⟨t.toArray,[{ target:=.collected D,args:=#[] }]⟩ w:=by
 obtain⟨vs,hv,hk⟩:=resultsC_run fn rs hrs t _ h;exact⟨by simp,.inl ⟨_,_,rfl,run_takeDeferred hD,_,hv,_,rfl,hk⟩⟩
theorem fun_of_in {f:FuncId}{fn:Func}{c:Code}{args:List Value}{w:World}{R:VK}(hf:P.funcs[f]?=some fn)(hb:fn.body=some c)(hn:(fn.name == "runtime.NumGoroutine")=false)
  (h:c.wpIn (fen none) 0 P (bodyPostM Fence.wide 0 P fn (fun e w'=>∃v,e=.returned v∧R v w')) ⟨(fr0 args fn.ntmps).toArray,[]⟩ w):Fun P f args w R:=by
 refine⟨callFunc_enter hf (by simp[hb]) hn,(callsIn_wide (n:=0)).1 (callsIn_of_wp_marks hf hb trivial ?_ rfl)⟩;have e:(args.toArray++Array.replicate (fn.ntmps-args.toArray.size) undef)=(fr0 args fn.ntmps).toArray:=by simp[fr0]
 rw[e];exact h
theorem condF {F:Fence}{c:Operand}{x y:Code}{Q:Exit→Act→World→Prop}{t:Fr}{w:World}(hc:ev t c=.bool false)(h:y.wpIn F n P Q ⟨t.toArray,ds⟩ w):(Code.cond c x y).wpIn F n P Q ⟨t.toArray,ds⟩ w :=
 wpIn_cond_false (by rw[ev_eq];exact hc) h
theorem condT {F:Fence}{c:Operand}{x y:Code}{Q:Exit→Act→World→Prop}{t:Fr}{w:World}(hc:ev t c=.bool true)(h:x.wpIn F n P Q ⟨t.toArray,ds⟩ w):(Code.cond c x y).wpIn F n P Q ⟨t.toArray,ds⟩ w :=
 wpIn_cond_true (by rw[ev_eq];exact hc) h
theorem then_n {K:Act→World→Prop}{Q:Exit→Act→World→Prop}{a:Act}{w:World}:Exit.then K Q .normal a w=K a w:=(rfl)
theorem then_r {K:Act→World→Prop}{Q:Exit→Act→World→Prop}{a:Act}{w:World}:Exit.then K Q .ret a w=Q .ret a w:=(rfl)
theorem then_e {K:Act→World→Prop}{Q:Exit→Act→World→Prop}{a:Act}{w:World}(i:Nat):Exit.then K Q (.exit i) a w=Q (.exit i) a w:=(rfl)
theorem inBlock_n {i:Nat}{Q:Exit→Act→World→Prop}{a:Act}{w:World}:Exit.inBlock i Q .normal a w=Q .normal a w:=(rfl)
theorem inBlock_r {i:Nat}{Q:Exit→Act→World→Prop}{a:Act}{w:World}:Exit.inBlock i Q .ret a w=Q .ret a w:=(rfl)
theorem inBlock_e {i j:Nat}{Q:Exit→Act→World→Prop}{a:Act}{w:World}:Exit.inBlock i Q (.exit j) a w=if j=i then Q .normal a w else Q (.exit j) a w:=(rfl)
theorem zip1 (p:Tmp)(v:Value)(t:Fr):((#[p]:Array Tmp).zip #[v]).foldl (fun t (x:Tmp×Value)=>t.setIfInBounds x.1 x.2) t.toArray=(t.set p v).toArray:=by
 simp
theorem roundQ_n {α:Type}{Z:Nat→Prop}{I:List α→World→Prop}{Ix:Code→List α→World→Prop}{xs:List α}{W W':World}{a:Act}:roundQ Z I Ix xs W .normal a W'=((∀k,Z k→W'.heap[k]?=W.heap[k]?)∧I xs W'):=(rfl)
theorem roundQ_r {α:Type}{Z:Nat→Prop}{I:List α→World→Prop}{Ix:Code→List α→World→Prop}{xs:List α}{W W':World}{a:Act}:roundQ Z I Ix xs W .ret a W'=((∀k,Z k→W'.heap[k]?=W.heap[k]?)∧Ix .ret xs W'):=(rfl)
theorem roundQ_e {α:Type}{Z:Nat→Prop}{I:List α→World→Prop}{Ix:Code→List α→World→Prop}{xs:List α}{W W':World}{a:Act}(i:Nat):roundQ Z I Ix xs W (.exit i) a W'=((∀k,Z k→W'.heap[k]?=W.heap[k]?)∧Ix (.exit i) xs W'):=(rfl)
theorem rangeV {α:Type} {g:Operand} {q:Tmp} {assign body:Code} {Q:Exit→Act→World→Prop} {t:Fr} {w:World} {gf:Nat} {lb:List Value} (hg:ev t g=.func (.func gf) #[] lb.toArray) (eg:∀args w,(callFunc gf args).run P w=.ok (.enter gf args) w)
  {en:α→Value} {B Z:Nat→Prop} {S Sp:List α→Prop} {A:List α→α→Prop} (hB:∀k,B k→k<w.heap.size) (hZ:∀k,Z k→k<w.heap.size) (hseq:Iter P (n-1) gf lb.toArray (fun x=>#[en x]) B Z S Sp A w)
  (I:List α→World→Prop) (Ix:Code→List α→World→Prop) (hI:∀s W W',I s W→Kept (fun k=>B k∨k=w.heap.size∨k=w.heap.size+1) W W'→I s W') (hIx:∀c s W W',Ix c s W→Kept (fun k=>B k∨k=w.heap.size∨k=w.heap.size+1) W W'→Ix c s W') (h0:I [] w) (d:Nat)
  (pa:plainB assign=true) (pb:plainB body=true) (hassign:∀(x:α) (W:World),vc P assign (fun e t' W'=>e=.normal∧t'=((t.set q (en x)).set d (en x))∧W'=W) (t.set q (en x)) W .mk)
  (hbody:∀(pre:List α) (x:α) (W:World),I pre W→A pre x→w.heap.size+1<W.heap.size→vc P body (fun e t' W'=>W.heap.size≤W'.heap.size∧roundQ (fun k=>Z k∨k=w.heap.size∨k=w.heap.size+1) I Ix (pre++[x]) W e ⟨t'.toArray,[]⟩ W') (((t.set q (en x)).set d (en x))) W .mk)
  (hdone:∀(xs:List α) (W:World),S xs→I xs W→W.heap[w.heap.size]?=some (.deferred (some []))→Q .normal ⟨t.toArray,{ target:=.collected w.heap.size,args:=#[] }::ds⟩ W)
  (hstop:∀(c:Code) (pre:List α) (W:World),Sp pre→Ix c pre W→W.heap[w.heap.size]?=some (.deferred (some []))→c.wpIn (fen none) n P Q ⟨t.toArray,{ target:=.collected w.heap.size,args:=#[] }::ds⟩ W) :
  (Code.rangeFunc g #[q] assign body).wpIn (fen none) n P Q ⟨t.toArray,ds⟩ w:=by
 refine rangeK (a:=⟨t.toArray,ds⟩) (by rw[ev_eq];exact hg) eg (encs:=fun x=>#[en x]) (fun _=>rfl) hB hZ hseq I Ix hI hIx h0 (fun x=>⟨((t.set q (en x)).set d (en x)).toArray,[]⟩) ?_ ?_ hdone hstop
 ·intro x W K hK
  have e:(((#[q]:Array Tmp).zip #[en x]).foldl (fun t (x:Tmp×Value)=>t.setIfInBounds x.1 x.2) t.toArray)=(t.set q (en x)).toArray:=zip1 q (en x) t
  show assign.wpIn _ _ _ _ ⟨(((#[q]:Array Tmp).zip #[en x]).foldl (fun t (x:Tmp×Value)=>t.setIfInBounds x.1 x.2) t.toArray),[]⟩ _
  rw[e]
  refine wpIn_mono (vcIn_ok (ds:=[]) assign pa _ _ _ (hassign x W)) ?_
  rintro e a w' ⟨hd,rfl,ht,rfl⟩
  show K a w'
  rw[act_eqD hd,ht]
  exact hK
 ·intro pre x W h1 h2 h3
  refine wpIn_mono (vcIn_ok (ds:=[]) body pb _ _ _ (hbody pre x W h1 h2 h3)) ?_
  rintro e a w' ⟨hd,h4,h5⟩
  refine⟨h4,?_⟩
  rw[act_eqD hd]
  exact h5
end
attribute [push_cast] then_n then_r then_e inBlock_n inBlock_r inBlock_e roundQ_n roundQ_r roundQ_e
end Go.Vc
end
section
namespace Go.Proofs.YtledlfbbebodgaaGreatDoor
open Go.Vc Go.Proofs Go.RowKit Cae
attribute [local irreducible] wpL callK valK unitK runK Fun Sl Vc.Own vc vcOps opK pureK
theorem splitSeq_c (s:List UInt8)(c:UInt8)(w:World):Fun Tryz.prog 198 [str s,str [c],.int .i64 0] w fun r w'=>r=.func (.func 210) #[] #[.pointer (some ⟨w.heap.size+1,0,none⟩),.pointer (some ⟨w.heap.size,0,none⟩),.pointer (some ⟨w.heap.size+2,0,none⟩)]∧Blk w' w.heap.size 9 [str s]∧Blk w' (w.heap.size+1) 9 [str [c]]∧Blk w' (w.heap.size+2) 3 [.int .i64 0]∧w'.heap.size=w.heap.size+3∧Below w.heap.size w w':=by
 refine fun_of_vc Tryz.func198 rfl (by kernel_rfl) [6] rfl ?_;simp -dsimp (maxSteps:=4000000) only[push_cast,fr0,Tryz.ntmps198,List.length_cons,List.length_nil,Nat.reduceAdd,Nat.reduceSub,Nat.reduceBEq,List.replicate_succ,List.replicate_zero];refine boxK_of ?_;intro w1 hw1;have sz1:=hw1.size
 simp -dsimp only[push_cast,Nat.reduceAdd,Nat.reduceLeDiff,Nat.reduceBEq,Int.reduceNe,Int.reduceEq,Int.reduceLT,Int.reduceLE];refine boxK_of ?_;intro w2 hw2;have sz2:=hw2.size;simp -dsimp only[push_cast,Nat.reduceAdd,Nat.reduceLeDiff,Nat.reduceBEq,Int.reduceNe,Int.reduceEq,Int.reduceLT,Int.reduceLE];refine boxK_of ?_;intro w3 hw3;have sz3:=hw3.size
 simp -dsimp only[push_cast,Nat.reduceAdd,Nat.reduceLeDiff,Nat.reduceBEq,Int.reduceNe,Int.reduceEq,Int.reduceLT,Int.reduceLE,sz1,sz2];have b1:=(hw1.blk.below hw2.below (by omega)).below hw3.below (by omega);have b2:=hw2.blk.below hw3.below (by omega);have b3:=hw3.blk;rw[sz1]at b2;rw[sz2,sz1]at b3
 exact⟨b1,b2,b3,by omega,(hw1.below.trans (hw2.below.mono (by omega))).trans (hw3.below.mono (by omega))⟩
theorem splitSeqs_c (s:List UInt8)(c:UInt8)(w:World):Fun Tryz.prog 181 [str s,str [c]] w fun r w'=>r=.func (.func 210) #[] #[.pointer (some ⟨w.heap.size+1,0,none⟩),.pointer (some ⟨w.heap.size,0,none⟩),.pointer (some ⟨w.heap.size+2,0,none⟩)]∧Blk w' w.heap.size 9 [str s]∧Blk w' (w.heap.size+1) 9 [str [c]]∧Blk w' (w.heap.size+2) 3 [.int .i64 0]∧w'.heap.size=w.heap.size+3∧Below w.heap.size w w':=by
 refine fun_of_vc Tryz.func181 rfl (by kernel_rfl) [4] rfl ?_;simp -dsimp (maxSteps:=4000000) only[push_cast,fr0,Tryz.ntmps181,List.length_cons,List.length_nil,Nat.reduceAdd,Nat.reduceSub,Nat.reduceBEq,List.replicate_succ,List.replicate_zero];refine callK_of (splitSeq_c s c w) ?_;rintro _ w1 ⟨rfl,h⟩
 simp -dsimp only[push_cast,Nat.reduceAdd,Nat.reduceLeDiff,Nat.reduceBEq,Int.reduceNe,Int.reduceEq,Int.reduceLT,Int.reduceLE];exact h
def rdLen (w:World)(b:Nat):Nat:=match w.cell? ⟨b,0,none⟩ with|some (.string s)=>s.size|_=>0
theorem rdLen_of {w:World}{b:Nat}{s:List UInt8}(h:w.cell? ⟨b,0,none⟩=some (str s)):rdLen w b=s.length:=by
 unfold rdLen;rw[h];rfl
theorem split_it (s:List UInt8) (c:UInt8) (hs:s.length≤1000000000) (n bs bp bv:Nat) (h1':bs≠bp) (h2':bs≠bv) (w:World) (hS:Blk w bs 9 [str s]) (hP:Blk w bp 9 [str [c]]) (hV:Blk w bv 3 [.int .i64 0]) :
  Iter Tryz.prog n 210 #[.pointer (some ⟨bp,0,none⟩),.pointer (some ⟨bs,0,none⟩),.pointer (some ⟨bv,0,none⟩)] (fun x:List UInt8=>#[str x]) (fun k=>k=bs) (fun k=>k=bs∨k=bp∨k=bv) (fun xs=>xs=splitB c s) (fun pre=>pre <+: splitB c s) (fun pre x=>pre++[x] <+: splitB c s) w:=by
 intro l J Jx W hW hWs hJ hJx hY h0
 have hS:Blk W bs 9 [str s]:=(hW _ hS.lt).trans hS
 have hP:Blk W bp 9 [str [c]]:=(hW _ hP.lt).trans hP
 have hV:Blk W bv 3 [.int .i64 0]:=(hW _ hV.lt).trans hV
 refine callsIn_of_wp Tryz.func210 rfl trivial ?_ rfl
 have c0:W.cell? ⟨bp,0,none⟩=some (str [c]):=hP.cell rfl
 simp only[Tryz.ntmps210,List.size_toArray,List.length_cons,List.length_nil,Nat.reduceAdd,Nat.reduceSub,Array.replicate_succ,Array.replicate_zero,List.push_toArray,List.append_toArray,List.nil_append,List.cons_append]
 refine wpIn_seq (seqIn (ro:=none) (by rfl) ?_)
 simp -dsimp only[push_cast,Nat.reduceAdd,Nat.reduceLeDiff,Nat.reduceBEq,Int.reduceNe,Int.reduceEq,Int.reduceLT,Int.reduceLE,c0]
 refine condF (by rfl) (wpIn_skip ?_)
 simp -dsimp only[push_cast,Nat.reduceAdd,Nat.reduceLeDiff,Nat.reduceBEq,Int.reduceNe,Int.reduceEq,Int.reduceLT,Int.reduceLE]
 refine wpIn_seq (wpIn_block (loopIn (ro:=none) [7,8,29,30,31,32,33,34,35,36,37,38,39,40,41,42,43,44,45,46,47,48] (fun z wx=>∃pre rest,pre++splitB c rest=splitB c s∧J pre wx∧Blk wx bs 9 [str rest]∧Blk wx bp 9 [str [c]]∧Blk wx bv 3 [.int .i64 0]∧rest.length≤s.length) (fun _ wx=>rdLen wx bs) ?_ ?_))
 ·exact⟨[],s,rfl,h0,hS,hP,hV,Nat.le_refl _⟩
 ·intro z wx hI
  obtain⟨pre,rest,hsp,hj,hS,hP,hV,hlr⟩:=hI
  have hrd:=rdLen_of (hS.cell (o:=0) rfl)
  have cS:wx.cell? ⟨bs,0,none⟩=some (str rest):=hS.cell rfl
  have cP:wx.cell? ⟨bp,0,none⟩=some (str [c]):=hP.cell rfl
  have cV:wx.cell? ⟨bv,0,none⟩=some (.int .i64 0):=hV.cell rfl
  have hse:=splitB_eq c rest
  refine wpIn_block (seqIn (ro:=none) (by rfl) ?_)
  simp -dsimp only[push_cast,Nat.reduceAdd,Nat.reduceLeDiff,Nat.reduceBEq,Int.reduceNe,Int.reduceEq,Int.reduceLT,Int.reduceLE,cS,cP]
  refine callK_of (index_s rest c wx) ?_
  rintro _ w1 ⟨rfl,rfl⟩
  rw[ib_spec]
  simp -dsimp only[push_cast,Nat.reduceAdd,Nat.reduceLeDiff,Nat.reduceBEq,Int.reduceNe,Int.reduceEq,Int.reduceLT,Int.reduceLE]
  refine seqIn (ro:=none) (by rfl) ?_
  have fin:∀(x:Exit) (t:Fr) (w2:World),(x=.normal∨x=.ret)→((∃xs,xs=splitB c s∧J xs w2)∨∃pre,pre <+: splitB c s∧Jx pre w2)→bodyPost Tryz.prog Tryz.f210 (fun e W'=>(∃v,e=.returned v)∧((∃xs,xs=splitB c s∧J xs W')∨∃pre,pre <+: splitB c s∧Jx pre W')) x ⟨t.toArray,[]⟩ w2:=fun x t w2 hx hh=>by
   obtain⟨vs,h1,_⟩:=resultsC_run (P:=Tryz.prog) (w:=w2) Tryz.f210 [] (by rfl) t (fun _=>True) trivial
   rcases hx with rfl|rfl<;>exact⟨rfl,_,h1,⟨_,rfl⟩,hh⟩
  cases hc:rest.contains c with
  | false =>
   simp only[Bool.false_eq_true,if_false]
   simp -dsimp only[push_cast,Nat.reduceAdd,Nat.reduceLeDiff,Nat.reduceBEq,Int.reduceNe,Int.reduceEq,Int.reduceLT,Int.reduceLE]
   rw[if_neg (by decide)]
   have hone:splitB c rest=[rest]:=by rw[hse,hc,tw_all hc];rfl
   rw[hone]at hsp
   have hy:=hY pre rest w1 hj (by show pre++[rest] <+: _;rw[hsp];exact List.prefix_refl _)
   refine yieldRegion (l:=l) (m:=n) (l1:=[_,_]) (l2:=[]) (by rfl) (by rfl) (by rfl) (by rfl) ?_
   simp -dsimp only[push_cast,Nat.reduceAdd,Nat.reduceLeDiff,Nat.reduceBEq,Int.reduceNe,Int.reduceEq,Int.reduceLT,Int.reduceLE,cS]
   refine⟨_,hy,?_⟩
   rintro e w2 hr
   rcases hr with ⟨rfl,h1,_,_⟩|⟨rfl,h1⟩
   ·refine⟨true,rfl,?_⟩
    exact fin .normal _ _ (.inl rfl) (.inl ⟨_,hsp,h1⟩)
   ·refine⟨false,rfl,?_⟩
    exact fin .normal _ _ (.inl rfl) (.inr ⟨_,by rw[hsp];exact List.prefix_refl _,h1⟩)
  | true =>
   simp only[if_true]
   have hlt:=tw_lt hc
   rw[hc,if_pos rfl]at hse
   have hg:∃k,(rest.takeWhile (· != c)).length=k:=⟨_,rfl⟩
   obtain⟨k,hk⟩:=hg
   have h1:rest.takeWhile (· != c)=rest.take k:=by rw[←hk];exact(take_tw _ rest).symm
   have h2:(rest.dropWhile (· != c)).drop 1=rest.drop (k+1):=by rw[←drop_tw,List.drop_drop,hk]
   rw[h1,h2]at hse
   rw[hk]at hlt ⊢
   have hge:decide ((k:Int)<0)=false:=decide_eq_false (by omega)
   have hy:=hY pre (rest.take k) w1 hj (by show pre++[rest.take k] <+: _;rw[←hsp,hse];exact⟨splitB c (rest.drop (k+1)),by simp⟩)
   simp -dsimp only[push_cast,Nat.reduceAdd,Nat.reduceLeDiff,Nat.reduceBEq,Int.reduceNe,Int.reduceEq,Int.reduceLT,Int.reduceLE,hge]
   refine seqIn (ro:=none) (by rfl) ?_
   simp -dsimp only[push_cast,Nat.reduceAdd,Nat.reduceLeDiff,Nat.reduceBEq,Int.reduceNe,Int.reduceEq,Int.reduceLT,Int.reduceLE,cS,cV]
   have ek:((k:Int)+0).toNat=k:=by omega
   refine⟨by omega,by omega,?_⟩
   rw[ek]
   refine wpIn_seq (wpIn_seq (yieldRegion (l:=l) (m:=n) (l1:=[_,_]) (l2:=[_]) (by rfl) (by rfl) (by rfl) (by rfl) ?_))
   simp -dsimp only[push_cast,Nat.reduceAdd,Nat.reduceLeDiff,Nat.reduceBEq,Int.reduceNe,Int.reduceEq,Int.reduceLT,Int.reduceLE]
   refine⟨_,hy,?_⟩
   rintro e w2 hr
   have hpre:pre++[rest.take k] <+: splitB c s:=by rw[←hsp,hse];exact⟨splitB c (rest.drop (k+1)),by simp⟩
   rcases hr with ⟨rfl,h1,hz,hsz⟩|⟨rfl,h1⟩
   ·refine⟨true,rfl,?_⟩
    have hS2:Blk w2 bs 9 [str rest]:=(hz _ (.inl rfl)).trans hS
    have hP2:Blk w2 bp 9 [str [c]]:=(hz _ (.inr (.inl rfl))).trans hP
    have hV2:Blk w2 bv 3 [.int .i64 0]:=(hz _ (.inr (.inr rfl))).trans hV
    have dS:w2.cell? ⟨bs,0,none⟩=some (str rest):=hS2.cell rfl
    have dP:w2.cell? ⟨bp,0,none⟩=some (str [c]):=hP2.cell rfl
    simp -dsimp only[push_cast,Nat.reduceAdd,Nat.reduceLeDiff,Nat.reduceBEq,Int.reduceNe,Int.reduceEq,Int.reduceLT,Int.reduceLE]
    refine condF (by rfl) (wpIn_skip ?_)
    simp -dsimp only[push_cast,Nat.reduceAdd,Nat.reduceLeDiff,Nat.reduceBEq,Int.reduceNe,Int.reduceEq,Int.reduceLT,Int.reduceLE]
    refine plainIn (ro:=none) (by rfl) ?_
    simp -dsimp only[push_cast,Nat.reduceAdd,Nat.reduceLeDiff,Nat.reduceBEq,Int.reduceNe,Int.reduceEq,Int.reduceLT,Int.reduceLE,dS,dP]
    have ek1:((k:Int)+(0+1)).toNat=k+1:=by omega
    refine⟨by omega,by omega,?_⟩
    rw[ek1]
    refine storeK_of hS2 (by simp) rfl ?_
    intro w3 hw3
    have hP3:=hP2.kept hw3.kept (fun h=>h1' h.symm)
    have hV3:=hV2.kept hw3.kept (fun h=>h2' h.symm)
    have hS3:Blk w3 bs 9 [str (rest.drop (k+1))]:=hw3.blk
    simp -dsimp only[push_cast,Nat.reduceAdd,Nat.reduceLeDiff,Nat.reduceBEq,Int.reduceNe,Int.reduceEq,Int.reduceLT,Int.reduceLE]
    refine⟨⟨_,_,by rw[List.append_assoc,List.singleton_append,←hse];exact hsp,hJ _ _ _ h1 hw3.kept,hS3,hP3,hV3,by rw[List.length_drop];omega⟩,?_⟩
    rw[rdLen_of (hS3.cell (o:=0) rfl),hrd,List.length_drop]
    omega
   ·refine⟨false,rfl,?_⟩
    simp -dsimp only[push_cast,Nat.reduceAdd,Nat.reduceLeDiff,Nat.reduceBEq,Int.reduceNe,Int.reduceEq,Int.reduceLT,Int.reduceLE]
    refine condT (by rfl) (wpIn_ret ?_)
    simp -dsimp only[push_cast,Nat.reduceAdd,Nat.reduceLeDiff,Nat.reduceBEq,Int.reduceNe,Int.reduceEq,Int.reduceLT,Int.reduceLE]
    exact fin .ret _ _ (.inr rfl) (.inr ⟨_,hpre,h1⟩)
end Go.Proofs.YtledlfbbebodgaaGreatDoor
end
section
namespace Cae
theorem hexP_head {n : Nat} (hn : n < 4294967296) : ∃ b r, hexP n = b :: r ∧ isHex b = true := by
  cases h : hexP n with
  | nil => exact absurd h (hexP_ne n)
  | cons b r => exact ⟨b, r, rfl, hexP_all hn b (by rw [h]; simp)⟩
end Cae
namespace Go.Proofs.YtledlfbbebodgaaGreatDoor
open Go.Vc Go.Proofs Go.RowKit Cae
attribute [local irreducible] wpL callK valK unitK runK Fun Sl Vc.Own vc vcOps opK pureK
def SErrs (w:World):Prop:=(∃t p,w.cell? ⟨5,0,none⟩=some (.iface t p))∧(∃t p,w.cell? ⟨6,0,none⟩=some (.iface t p))
theorem SErrs.below {w w':World}(h:SErrs w)(hb:Below w.heap.size w w'):SErrs w':=by
 obtain⟨⟨t,p,h1⟩,⟨t',p',h2⟩⟩:=h;exact⟨⟨t,p,(hb.cell (World.block_lt_of_cell? w _ h1)).trans h1⟩,⟨t',p',(hb.cell (World.block_lt_of_cell? w _ h2)).trans h2⟩⟩
def toErrR_ren:Go.Shelf.Ren:=⟨fun|245=>201|279=>215|280=>216|281=>217|282=>218|316=>226|171=>228|205=>227|243=>230|246=>162|283=>186|284=>187|285=>188|286=>189|129=>157|317=>203|318=>204|319=>205|320=>206|337=>220|338=>221|n=>n,fun|9=>9|3=>3|75=>31|167=>288|4=>4|168=>291|210=>297|37=>229|0=>0|127=>248|145=>309|143=>307|2=>2|171=>270|53=>246|5=>5|173=>272|212=>283|51=>244|20=>20|213=>284|46=>103|232=>299|233=>300|80=>174|n=>n,fun|15=>5|16=>6|17=>4|18=>7|19=>8|n=>n⟩
theorem toErrR:Go.Proofs.LaysC.n245 Tryz.prog toErrR_ren:={
 mixed:=by kernel_rfl
 f129:=Tryz.func157.trans (congrArg some (by kernel_rfl))
 f171:=Tryz.func228.trans (congrArg some (by kernel_rfl))
 f205:=Tryz.func227.trans (congrArg some (by kernel_rfl))
 f243:=Tryz.func230.trans (congrArg some (by kernel_rfl))
 f245:=Tryz.func201.trans (congrArg some (by kernel_rfl))
 f246:=Tryz.func162.trans (congrArg some (by kernel_rfl))
 f279:=Tryz.func215.trans (congrArg some (by kernel_rfl))
 f280:=Tryz.func216.trans (congrArg some (by kernel_rfl))
 f281:=Tryz.func217.trans (congrArg some (by kernel_rfl))
 f282:=Tryz.func218.trans (congrArg some (by kernel_rfl))
 f283:=Tryz.func186.trans (congrArg some (by kernel_rfl))
 f284:=Tryz.func187.trans (congrArg some (by kernel_rfl))
 f285:=Tryz.func188.trans (congrArg some (by kernel_rfl))
 f286:=Tryz.func189.trans (congrArg some (by kernel_rfl))
 f316:=Tryz.func226.trans (congrArg some (by kernel_rfl))
 f317:=Tryz.func203.trans (congrArg some (by kernel_rfl))
 f318:=Tryz.func204.trans (congrArg some (by kernel_rfl))
 f319:=Tryz.func205.trans (congrArg some (by kernel_rfl))
 f320:=Tryz.func206.trans (congrArg some (by kernel_rfl))
 f337:=Tryz.func220.trans (congrArg some (by kernel_rfl))
 f338:=Tryz.func221.trans (congrArg some (by kernel_rfl))
 t0:=Tryz.underlying0
 a0:=Tryz.isAgg0
 z0:=Tryz.sizeOf0
 v0:=Tryz.zeroValue0
 t2:=Tryz.underlying2
 a2:=Tryz.isAgg2
 z2:=Tryz.sizeOf2
 v2:=Tryz.zeroValue2
 t3:=Tryz.underlying3
 a3:=Tryz.isAgg3
 z3:=Tryz.sizeOf3
 v3:=Tryz.zeroValue3
 t4:=Tryz.underlying4
 a4:=Tryz.isAgg4
 z4:=Tryz.sizeOf4
 v4:=Tryz.zeroValue4
 t5:=Tryz.underlying5
 a5:=Tryz.isAgg5
 z5:=Tryz.sizeOf5
 v5:=Tryz.zeroValue5
 t9:=Tryz.underlying9
 a9:=Tryz.isAgg9
 z9:=Tryz.sizeOf9
 v9:=Tryz.zeroValue9
 t20:=Tryz.underlying20
 a20:=Tryz.isAgg20
 z20:=Tryz.sizeOf20
 v20:=Tryz.zeroValue20
 t37:=Tryz.underlying229
 a37:=Tryz.isAgg229
 z37:=Tryz.sizeOf229
 v37:=Tryz.zeroValue229
 t46:=Tryz.underlying103
 a46:=Tryz.isAgg103
 z46:=Tryz.sizeOf103
 v46:=Tryz.zeroValue103
 t51:=Tryz.underlying244
 a51:=Tryz.isAgg244
 z51:=Tryz.sizeOf244
 v51:=Tryz.zeroValue244
 t53:=Tryz.underlying246
 a53:=Tryz.isAgg246
 z53:=Tryz.sizeOf246
 v53:=Tryz.zeroValue246
 t75:=Tryz.underlying31
 a75:=Tryz.isAgg31
 z75:=Tryz.sizeOf31
 v75:=Tryz.zeroValue31
 t127:=Tryz.underlying248
 a127:=Tryz.isAgg248
 z127:=Tryz.sizeOf248
 v127:=Tryz.zeroValue248
 t143:=Tryz.underlying307
 a143:=Tryz.isAgg307
 z143:=Tryz.sizeOf307
 v143:=Tryz.zeroValue307
 t145:=Tryz.underlying309
 a145:=Tryz.isAgg309
 z145:=Tryz.sizeOf309
 v145:=Tryz.zeroValue309
 t167:=Tryz.underlying288
 a167:=Tryz.isAgg288
 z167:=Tryz.sizeOf288
 v167:=Tryz.zeroValue288
 t168:=Tryz.underlying291
 a168:=Tryz.isAgg291
 z168:=Tryz.sizeOf291
 v168:=Tryz.zeroValue291
 t171:=Tryz.underlying270
 a171:=Tryz.isAgg270
 z171:=Tryz.sizeOf270
 v171:=Tryz.zeroValue270
 t173:=Tryz.underlying272
 a173:=Tryz.isAgg272
 z173:=Tryz.sizeOf272
 v173:=Tryz.zeroValue272
 t210:=Tryz.underlying297
 a210:=Tryz.isAgg297
 z210:=Tryz.sizeOf297
 v210:=Tryz.zeroValue297
 t212:=Tryz.underlying283
 a212:=Tryz.isAgg283
 z212:=Tryz.sizeOf283
 v212:=Tryz.zeroValue283
 t213:=Tryz.underlying284
 a213:=Tryz.isAgg284
 z213:=Tryz.sizeOf284
 t232:=Tryz.underlying299
 a232:=Tryz.isAgg299
 z232:=Tryz.sizeOf299
 v232:=Tryz.zeroValue299
 t233:=Tryz.underlying300
 a233:=Tryz.isAgg300
 z233:=Tryz.sizeOf300
 v233:=Tryz.zeroValue300
 g15:=by kernel_rfl
 g16:=by kernel_rfl
 g17:=by kernel_rfl
 g18:=by kernel_rfl
 g19:=by kernel_rfl
 t80:=Tryz.underlying174
 a80:=Tryz.isAgg174
 z80:=Tryz.sizeOf174
 v80:=Tryz.zeroValue174
 i0:=by kernel_rfl
 i2:=by kernel_rfl
 i3:=by kernel_rfl
 i4:=by kernel_rfl
 i5:=by kernel_rfl
 i9:=by kernel_rfl
 i20:=by kernel_rfl
 i37:=by kernel_rfl
 i46:=by kernel_rfl
 i51:=by kernel_rfl
 i53:=by kernel_rfl
 i75:=by kernel_rfl
 i80:=by kernel_rfl
 i127:=by kernel_rfl
 i143:=by kernel_rfl
 i145:=by kernel_rfl
 i167:=by kernel_rfl
 i168:=by kernel_rfl
 i171:=by kernel_rfl
 i173:=by kernel_rfl
 i210:=by kernel_rfl
 i212:=by kernel_rfl
 i232:=by kernel_rfl
 i233:=by kernel_rfl
 m15:=by kernel_rfl
 m16:=by kernel_rfl
 m17:=by kernel_rfl
 m18:=by kernel_rfl
 m19:=by kernel_rfl
 c0:=by kernel_rfl
 c2:=by kernel_rfl
 c3:=by kernel_rfl
 c4:=by kernel_rfl
 c5:=by kernel_rfl
 c9:=by kernel_rfl
 c20:=by kernel_rfl
 c37:=by kernel_rfl
 c46:=by kernel_rfl
 c51:=by kernel_rfl
 c53:=by kernel_rfl
 c75:=by kernel_rfl
 c80:=by kernel_rfl
 c127:=by kernel_rfl
 c143:=by kernel_rfl
 c145:=by kernel_rfl
 c167:=by kernel_rfl
 c168:=by kernel_rfl
 c171:=by kernel_rfl
 c173:=by kernel_rfl
 c210:=by kernel_rfl
 c212:=by kernel_rfl
 c213:=by kernel_rfl
 c232:=by kernel_rfl
 c233:=by kernel_rfl }
theorem toErr_c (f s:List UInt8)(base bits:Int)(k:Int)(hk:k=1∨k=2)(hs:s.length≤1000000000)(w:World)(h:SErrs w):Fun Tryz.prog 201 [str f,str s,.int .i64 base,.int .i64 bits,.iface 288 (.int .i64 k)] w fun r w'=>(∃t p,r=.iface t p)∧Below w.heap.size w w':=by
 obtain⟨⟨t1,p1,h1⟩,⟨t2,p2,h2⟩⟩:=h;refine fun_of_calls Tryz.func201 (by kernel_rfl) (by kernel_rfl) ?_;rcases hk with rfl|rfl
 ·refine Calls.mono (Any.strconv_toError_range toErrR ⟨f.toArray⟩ ⟨s.toArray⟩ base bits _ w (by show s.length≤_;omega) h2 (.inr ⟨_,_,rfl⟩)) ?_;rintro e w' ⟨N,rfl,_,_,hb⟩;exact⟨_,rfl,⟨_,_,rfl⟩,hb⟩
 ·refine Calls.mono (Any.strconv_toError_syntax toErrR ⟨f.toArray⟩ ⟨s.toArray⟩ base bits _ w (by show s.length≤_;omega) h1 (.inr ⟨_,_,rfl⟩)) ?_;rintro e w' ⟨N,rfl,_,_,hb⟩;exact⟨_,rfl,⟨_,_,rfl⟩,hb⟩
theorem parseInt_l (s:List UInt8)(hs:s.length≤1000000000)(w:World):Fun Tryz.prog 200 [str s,.int .i64 16,.int .i64 32] w fun r w'=>(∃(v:Int) (e:Value),r=.tuple #[.int .i64 v,e]∧PErr e∧(∀n<2147483648,s=hexP n→v=n∧e=.nilIface))∧Below w.heap.size w w':=by
 refine fun_of_vc Tryz.func200 rfl (by kernel_rfl) [6,7] rfl ?_;push_cast -dsimp(maxSteps:=4000000) [Tryz.ntmps200];by_cases hne:s=[]
 ·subst hne;have e0:decide (([]:List UInt8)=[])=true:=rfl;simp -dsimp (maxSteps:=4000000) only[push_cast,Nat.reduceAdd,Nat.reduceLeDiff,Nat.reduceBEq,Int.reduceNe,Int.reduceEq,Int.reduceLT,Int.reduceLE,e0];refine⟨⟨0,_,rfl,.inr (.inr rfl),fun n _ h=>absurd h.symm (hexP_ne n)⟩,Below.refl _ _⟩
 have hgc:∃c r,s=c::r:=List.exists_cons_of_ne_nil hne;obtain⟨c,r,rfl⟩:=hgc;have e0:decide (c::r=[])=false:=decide_eq_false hne;have eh:(c::r).getD 0 0=c:=rfl;have hsz:(c::r).length=r.length+1:=rfl;have hgb:∃b,c.toNat=b:=⟨_,rfl⟩;obtain⟨b,hb0⟩:=hgb;have hnx:(b=43∨b=45)→∀n<2147483648,c::r≠hexP n:=fun h n hn hh=>by
  obtain⟨b',r',h1,h2⟩:=hexP_head (n:=n) (by omega);rw[h1]at hh;cases hh;unfold isHex at h2;rw[hb0,Bool.or_eq_true,Bool.and_eq_true,Bool.and_eq_true,decide_eq_true_eq,decide_eq_true_eq,decide_eq_true_eq,decide_eq_true_eq]at h2;omega
 have ef:decide False=false:=rfl;have et:decide True=true:=rfl;have ed1:(c::r).drop (Int.toNat 1)=r:=rfl;simp -dsimp (maxSteps:=4000000) only[push_cast,Nat.reduceAdd,Nat.reduceLeDiff,Nat.reduceBEq,Int.reduceNe,Int.reduceEq,Int.reduceLT,Int.reduceLE,eh,hb0,ef,et,ed1];refine⟨fun h=>absurd h hne,fun _=>⟨by omega,fun h43=>⟨by omega,?_⟩,fun n43=>⟨fun h45=>⟨by omega,?_⟩,fun n45=>?_⟩⟩⟩
 ·have hno:=hnx (.inl (by omega));refine callK_of (parseUint_c r (by first|omega|exact hs) w) ?_;rintro _ w1 ⟨⟨v,e,rfl,hv,he,hx⟩,hb⟩;have ecut:IntKind.u64.wrap (1*2 ^ min (IntKind.u64.wrap (32-1)).toNat IntKind.u64.bits)=2147483648:=by decide
  have ewv:IntKind.i64.wrap (v:Int)=(v:Int):=by rw[wrap_i64 (by omega)]
  rcases he with rfl|rfl|rfl
  ·simp -dsimp (maxSteps:=4000000) only[push_cast,Nat.reduceAdd,Nat.reduceLeDiff,Nat.reduceBEq,Int.reduceNe,Int.reduceEq,Int.reduceLT,Int.reduceLE,ef,et];rw[ecut];refine⟨by omega,by decide,fun hge=>⟨⟨_,_,rfl,.inr (.inl rfl),fun n hn h=>?_⟩,hb⟩,fun hlt=>⟨⟨_,_,rfl,.inl rfl,fun n hn h=>?_⟩,hb⟩⟩
   ·first|exact absurd h (hno n hn)|(have:=(hx n (by omega) h).1;omega)
   ·first|exact absurd h (hno n hn)|(have:=(hx n (by omega) h).1;exact⟨by rw[ewv];omega,rfl⟩)
  ·simp -dsimp (maxSteps:=4000000) only[push_cast,Nat.reduceAdd,Nat.reduceLeDiff,Nat.reduceBEq,Int.reduceNe,Int.reduceEq,Int.reduceLT,Int.reduceLE,ef,et];refine neqIfaceK (te:=288) (k:=.i64) (q:=.i64) rfl rfl rfl Tryz.underlying31 (by kernel_rfl) (by kernel_rfl) ?_;have e12:(!((1:Int) == 1))=false:=rfl;rw[e12]
   simp -dsimp (maxSteps:=4000000) only[push_cast,Nat.reduceAdd,Nat.reduceLeDiff,Nat.reduceBEq,Int.reduceNe,Int.reduceEq,Int.reduceLT,Int.reduceLE,ef,et];refine⟨by omega,by decide,fun hge=>⟨⟨_,_,rfl,.inr (.inl rfl),fun n hn h=>?_⟩,hb⟩,fun hlt=>⟨⟨_,_,rfl,.inl rfl,fun n hn h=>?_⟩,hb⟩⟩
   ·first|exact absurd h (hno n hn)|(have:=(hx n (by omega) h).2;cases this)
   ·first|exact absurd h (hno n hn)|(have:=(hx n (by omega) h).2;cases this)
  ·simp -dsimp (maxSteps:=4000000) only[push_cast,Nat.reduceAdd,Nat.reduceLeDiff,Nat.reduceBEq,Int.reduceNe,Int.reduceEq,Int.reduceLT,Int.reduceLE,ef,et];refine neqIfaceK (te:=288) (k:=.i64) (q:=.i64) rfl rfl rfl Tryz.underlying31 (by kernel_rfl) (by kernel_rfl) ?_;have e12:(!((2:Int) == 1))=true:=rfl;rw[e12]
   simp -dsimp (maxSteps:=4000000) only[push_cast,Nat.reduceAdd,Nat.reduceLeDiff,Nat.reduceBEq,Int.reduceNe,Int.reduceEq,Int.reduceLT,Int.reduceLE,ef,et];refine⟨⟨_,_,rfl,.inr (.inr rfl),fun n hn h=>?_⟩,hb⟩
   first|exact absurd h (hno n hn)|(have:=(hx n (by omega) h).2;cases this)
 ·have hno:=hnx (.inr (by omega));refine callK_of (parseUint_c r (by first|omega|exact hs) w) ?_;rintro _ w1 ⟨⟨v,e,rfl,hv,he,hx⟩,hb⟩;have ecut:IntKind.u64.wrap (1*2 ^ min (IntKind.u64.wrap (32-1)).toNat IntKind.u64.bits)=2147483648:=by decide
  have ewv:IntKind.i64.wrap (v:Int)=(v:Int):=by rw[wrap_i64 (by omega)]
  rcases he with rfl|rfl|rfl
  ·simp -dsimp (maxSteps:=4000000) only[push_cast,Nat.reduceAdd,Nat.reduceLeDiff,Nat.reduceBEq,Int.reduceNe,Int.reduceEq,Int.reduceLT,Int.reduceLE,ef,et];rw[ecut];refine⟨by omega,by decide,fun hge=>⟨⟨_,_,rfl,.inr (.inl rfl),fun n hn h=>?_⟩,hb⟩,fun hlt=>⟨⟨_,_,rfl,.inl rfl,fun n hn h=>?_⟩,hb⟩⟩
   ·first|exact absurd h (hno n hn)|(have:=(hx n (by omega) h).1;omega)
   ·first|exact absurd h (hno n hn)|(have:=(hx n (by omega) h).1;exact⟨by rw[ewv];omega,rfl⟩)
  ·simp -dsimp (maxSteps:=4000000) only[push_cast,Nat.reduceAdd,Nat.reduceLeDiff,Nat.reduceBEq,Int.reduceNe,Int.reduceEq,Int.reduceLT,Int.reduceLE,ef,et];refine neqIfaceK (te:=288) (k:=.i64) (q:=.i64) rfl rfl rfl Tryz.underlying31 (by kernel_rfl) (by kernel_rfl) ?_;have e12:(!((1:Int) == 1))=false:=rfl;rw[e12]
   simp -dsimp (maxSteps:=4000000) only[push_cast,Nat.reduceAdd,Nat.reduceLeDiff,Nat.reduceBEq,Int.reduceNe,Int.reduceEq,Int.reduceLT,Int.reduceLE,ef,et];refine⟨by omega,by decide,fun hge=>⟨⟨_,_,rfl,.inr (.inl rfl),fun n hn h=>?_⟩,hb⟩,fun hlt=>⟨⟨_,_,rfl,.inl rfl,fun n hn h=>?_⟩,hb⟩⟩
   ·first|exact absurd h (hno n hn)|(have:=(hx n (by omega) h).2;cases this)
   ·first|exact absurd h (hno n hn)|(have:=(hx n (by omega) h).2;cases this)
  ·simp -dsimp (maxSteps:=4000000) only[push_cast,Nat.reduceAdd,Nat.reduceLeDiff,Nat.reduceBEq,Int.reduceNe,Int.reduceEq,Int.reduceLT,Int.reduceLE,ef,et];refine neqIfaceK (te:=288) (k:=.i64) (q:=.i64) rfl rfl rfl Tryz.underlying31 (by kernel_rfl) (by kernel_rfl) ?_;have e12:(!((2:Int) == 1))=true:=rfl;rw[e12]
   simp -dsimp (maxSteps:=4000000) only[push_cast,Nat.reduceAdd,Nat.reduceLeDiff,Nat.reduceBEq,Int.reduceNe,Int.reduceEq,Int.reduceLT,Int.reduceLE,ef,et];refine⟨⟨_,_,rfl,.inr (.inr rfl),fun n hn h=>?_⟩,hb⟩
   first|exact absurd h (hno n hn)|(have:=(hx n (by omega) h).2;cases this)
 ·skip;refine callK_of (parseUint_c (c::r) (by first|omega|exact hs) w) ?_;rintro _ w1 ⟨⟨v,e,rfl,hv,he,hx⟩,hb⟩;have ecut:IntKind.u64.wrap (1*2 ^ min (IntKind.u64.wrap (32-1)).toNat IntKind.u64.bits)=2147483648:=by decide
  have ewv:IntKind.i64.wrap (v:Int)=(v:Int):=by rw[wrap_i64 (by omega)]
  rcases he with rfl|rfl|rfl
  ·simp -dsimp (maxSteps:=4000000) only[push_cast,Nat.reduceAdd,Nat.reduceLeDiff,Nat.reduceBEq,Int.reduceNe,Int.reduceEq,Int.reduceLT,Int.reduceLE,ef,et];rw[ecut];refine⟨by omega,by decide,fun hge=>⟨⟨_,_,rfl,.inr (.inl rfl),fun n hn h=>?_⟩,hb⟩,fun hlt=>⟨⟨_,_,rfl,.inl rfl,fun n hn h=>?_⟩,hb⟩⟩
   ·first|exact absurd h (hno n hn)|(have:=(hx n (by omega) h).1;omega)
   ·first|exact absurd h (hno n hn)|(have:=(hx n (by omega) h).1;exact⟨by rw[ewv];omega,rfl⟩)
  ·simp -dsimp (maxSteps:=4000000) only[push_cast,Nat.reduceAdd,Nat.reduceLeDiff,Nat.reduceBEq,Int.reduceNe,Int.reduceEq,Int.reduceLT,Int.reduceLE,ef,et];refine neqIfaceK (te:=288) (k:=.i64) (q:=.i64) rfl rfl rfl Tryz.underlying31 (by kernel_rfl) (by kernel_rfl) ?_;have e12:(!((1:Int) == 1))=false:=rfl;rw[e12]
   simp -dsimp (maxSteps:=4000000) only[push_cast,Nat.reduceAdd,Nat.reduceLeDiff,Nat.reduceBEq,Int.reduceNe,Int.reduceEq,Int.reduceLT,Int.reduceLE,ef,et];refine⟨by omega,by decide,fun hge=>⟨⟨_,_,rfl,.inr (.inl rfl),fun n hn h=>?_⟩,hb⟩,fun hlt=>⟨⟨_,_,rfl,.inl rfl,fun n hn h=>?_⟩,hb⟩⟩
   ·first|exact absurd h (hno n hn)|(have:=(hx n (by omega) h).2;cases this)
   ·first|exact absurd h (hno n hn)|(have:=(hx n (by omega) h).2;cases this)
  ·simp -dsimp (maxSteps:=4000000) only[push_cast,Nat.reduceAdd,Nat.reduceLeDiff,Nat.reduceBEq,Int.reduceNe,Int.reduceEq,Int.reduceLT,Int.reduceLE,ef,et];refine neqIfaceK (te:=288) (k:=.i64) (q:=.i64) rfl rfl rfl Tryz.underlying31 (by kernel_rfl) (by kernel_rfl) ?_;have e12:(!((2:Int) == 1))=true:=rfl;rw[e12]
   simp -dsimp (maxSteps:=4000000) only[push_cast,Nat.reduceAdd,Nat.reduceLeDiff,Nat.reduceBEq,Int.reduceNe,Int.reduceEq,Int.reduceLT,Int.reduceLE,ef,et];refine⟨⟨_,_,rfl,.inr (.inr rfl),fun n hn h=>?_⟩,hb⟩
   first|exact absurd h (hno n hn)|(have:=(hx n (by omega) h).2;cases this)
theorem parseInt_c (s:List UInt8)(hs:s.length≤1000000000)(w:World)(h:SErrs w):Fun Tryz.prog 183 [str s,.int .i64 16,.int .i64 32] w fun r w'=>(∃(v:Int) (e:Value),r=.tuple #[.int .i64 v,e]∧(e=.nilIface∨∃t x,e=.iface t x)∧(∀n<2147483648,s=hexP n→v=n∧e=.nilIface))∧Below w.heap.size w w':=by
 refine fun_of_vc Tryz.func183 rfl (by kernel_rfl) [6,7] rfl ?_;push_cast -dsimp(maxSteps:=4000000) [Tryz.ntmps183];refine callK_of (parseInt_l s hs w) ?_;rintro _ w1 ⟨⟨v,e,rfl,he,hx⟩,hb⟩;rcases he with rfl|rfl|rfl
 ·simp -dsimp (maxSteps:=4000000) only[push_cast,Nat.reduceAdd,Nat.reduceLeDiff,Nat.reduceBEq,Int.reduceNe,Int.reduceEq,Int.reduceLT,Int.reduceLE,];exact⟨⟨_,_,rfl,.inl rfl,hx⟩,hb⟩
 ·simp -dsimp (maxSteps:=4000000) only[push_cast,Nat.reduceAdd,Nat.reduceLeDiff,Nat.reduceBEq,Int.reduceNe,Int.reduceEq,Int.reduceLT,Int.reduceLE,];refine callK_of (toErr_c [80,97,114,115,101,73,110,116] s 16 32 1 (.inl rfl) hs w1 (h.below hb)) ?_;rintro _ w2 ⟨⟨t,p,rfl⟩,hb2⟩
  simp -dsimp (maxSteps:=4000000) only[push_cast,Nat.reduceAdd,Nat.reduceLeDiff,Nat.reduceBEq,Int.reduceNe,Int.reduceEq,Int.reduceLT,Int.reduceLE,];exact⟨⟨_,_,rfl,.inr ⟨_,_,rfl⟩,fun n hn hh=>by have:=(hx n hn hh).2;cases this⟩,hb.trans (hb2.mono hb.size)⟩
 ·simp -dsimp (maxSteps:=4000000) only[push_cast,Nat.reduceAdd,Nat.reduceLeDiff,Nat.reduceBEq,Int.reduceNe,Int.reduceEq,Int.reduceLT,Int.reduceLE,];refine callK_of (toErr_c [80,97,114,115,101,73,110,116] s 16 32 2 (.inr rfl) hs w1 (h.below hb)) ?_;rintro _ w2 ⟨⟨t,p,rfl⟩,hb2⟩
  simp -dsimp (maxSteps:=4000000) only[push_cast,Nat.reduceAdd,Nat.reduceLeDiff,Nat.reduceBEq,Int.reduceNe,Int.reduceEq,Int.reduceLT,Int.reduceLE,];exact⟨⟨_,_,rfl,.inr ⟨_,_,rfl⟩,fun n hn hh=>by have:=(hx n hn hh).2;cases this⟩,hb.trans (hb2.mono hb.size)⟩
end Go.Proofs.YtledlfbbebodgaaGreatDoor
end
