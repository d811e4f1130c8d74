/- Part. -/
import Derived.Test.YtemjejfpadnljaaGreatDoorM4
import Derived.RangeFuncFrom
import Derived.LoopIn
import Derived.RangeFuncLeaves
import Derived.Shelf.Strconv.ToErrorRange
import Derived.Shelf.Strconv.ToError
set_option maxRecDepth 100000
set_option linter.unusedSimpArgs false
set_option linter.unusedVariables false
set_option maxHeartbeats 8000000
namespace Cae
section
open Classical
noncomputable def kH (N:Nat)(R:Nat->Nat->Prop)(from_:List Nat):List Nat:=(List.range (N+1)).filter λj=>decide (∃i∈from_,R i j)
theorem gM {N:Nat}{R:Nat->Nat->Prop}{l:List Nat}{j:Nat}:j∈kH N R l↔j<=N/\∃i∈l,R i j:=by
 unfold kH;rw[List.mem_filter,List.mem_range,Nat.lt_succ_iff,decide_eq_true_iff]
theorem cO (N:Nat)(R:Nat->Nat->Prop)(l:List Nat):(kH N R l).Pairwise (·<·):=List.Pairwise.filter _ List.pairwise_lt_range
theorem xJ {l m:List Nat}(hl:l.Pairwise (·<·))(hm:m.Pairwise (·<·))(h:∀i,i∈l↔i∈m):l=m :=
 List.Perm.eq_of_pairwise (λa b _ _ h1 h2=>by omega) hl hm ((List.perm_ext_iff_of_nodup (hl.imp λh=>Nat.ne_of_lt h) (hm.imp λh=>Nat.ne_of_lt h)).2 h)
theorem cU {N:Nat}{l:List Nat}(hl:l.Pairwise (·<·))(h:∀i∈l,i<=N):l.length<=N+1:=by
 have e:l=(List.range (N+1)).filter λi=>decide (i∈l):=xJ hl (List.Pairwise.filter _ List.pairwise_lt_range) λi=>by
  rw[List.mem_filter,List.mem_range,Nat.lt_succ_iff,decide_eq_true_iff];exact⟨λhi=>⟨h i hi,hi⟩,λhi=>hi.2⟩
 rw[e];exact Nat.le_trans (List.length_filter_le _ _) (by simp)
section
variable {R:Nat->Nat->Prop} {N:Nat}
def stM (R:Nat->Nat->Prop)(l:List Nat)(n:Nat)(j:Nat):Prop:=∃i∈l,iterM R n i j
theorem nX {l:List Nat}{n j:Nat}:stM R l (n+1) j↔∃m,stM R l n m/\R m j:=by
 constructor
 ·rintro⟨i,hi,h⟩;obtain⟨m,h1,h2⟩:=kU.1 h;exact⟨m,⟨i,hi,h1⟩,h2⟩
 rintro⟨m,⟨i,hi,h1⟩,h2⟩;exact⟨i,hi,kU.2 ⟨m,h1,h2⟩⟩
theorem Iy {l:List Nat}{k:Nat}(h:∀j,stM R l (k+1) j↔stM R l k j):∀t j,stM R l (k+t) j↔stM R l k j
 | 0,j=>Iff.rfl
 | t+1,j=>by
  rw[show k+(t+1)=(k+t)+1 by omega,nX]
  constructor
  ·rintro⟨m,h1,h2⟩;exact(h j).1 (nX.2 ⟨m,(Iy h t m).1 h1,h2⟩)
  intro hj;obtain⟨m,h1,h2⟩:=nX.1 ((h j).2 hj);exact⟨m,(Iy h t m).2 h1,h2⟩
theorem sJ {l:List Nat}{a k:Nat}(h:∀j,stM R l (a+k+1) j->∃s,s<=k/\stM R l (a+s) j):∀t j,stM R l (a+t) j->∃s,s<=k/\stM R l (a+s) j
 | 0,j,hj=>⟨0,by omega,hj⟩
 | t+1,j,hj=>by
  obtain⟨m,h1,h2⟩:=nX.1 (show stM R l (a+t+1) j from hj)
  obtain⟨s,hs,h3⟩:=sJ h t m h1;have h4:stM R l (a+s+1) j:=nX.2 ⟨m,h3,h2⟩;by_cases he:s=k
  ·subst he;exact h j h4
  exact⟨s+1,by omega,h4⟩
theorem sK {l:List Nat}{a:Nat}(h:∀j,¬stM R l a j):∀t j,¬stM R l (a+t) j
 | 0,j=>h j
 | t+1,j=>λhj=>by
  obtain⟨m,h1,_⟩:=nX.1 (show stM R l (a+t+1) j from hj)
  exact sK h t m h1
end
inductive dT {α β:Type}(R:α->β->Prop):List α->List β->Prop
 | nil:dT R [] []
 | cons {x y l m}:R x y->dT R l m->dT R (x::l) (y::m)
theorem dT.snoc {α β:Type}{R:α->β->Prop}{l:List α}{m:List β}{x:α}{y:β}(h:dT R l m)(hr:R x y):dT R (l++[x]) (m++[y]):=by
 induction h with
 | nil=>exact .cons hr .nil
 | cons h1 _ ih=>exact .cons h1 ih
theorem dT.len {α β:Type}{R:α->β->Prop}{l:List α}{m:List β}(h:dT R l m):l.length=m.length:=by
 induction h with
 | nil=>rfl
 | cons _ _ ih=>simp[ih]
def key (t:Tok):Nat×List UInt8:=(t.kind,t.text)
def AE (a b:List Tok):Prop:=a.map key=b.map key
def A7 (a b:List Tok):Prop:=key (hd a)=key (hd b)
def J1 (a:List Tok):Prop:=∀t∈a,t.kind≠5
theorem AE.refl (a:List Tok):AE a a:=rfl
theorem AE.len {a b:List Tok}(h:AE a b):a.length=b.length:=by simpa[AE] using congrArg List.length h
theorem AE.split {a b c:List Tok}(h:AE (a++b) c):∃x y,c=x++y/\AE a x/\AE b y:=by
 have h':a.map key++b.map key=c.map key:=by simpa[AE] using h
 refine⟨c.take a.length,c.drop a.length,(List.take_append_drop _ _).symm,?_,?_⟩
 ·have:=congrArg (List.take a.length) h';simpa[AE,List.take_append,List.map_take] using this
 have:=congrArg (List.drop a.length) h';simpa[AE,List.drop_append,List.map_drop] using this
theorem A7.app {a b c d:List Tok}(h:AE a b)(h':A7 c d):A7 (a++c) (b++d):=by
 cases a with
 | nil=>cases b with
  | nil=>exact h'
  | cons y b=>simp[AE]at h
 | cons x a=>cases b with
  | nil=>simp[AE]at h
  | cons y b=>simp only[AE,List.map_cons,List.cons.injEq]at h;exact h.1
theorem A7.apps {a b:List Tok}(h:AE a b)(cf:a≠[])(c d:List Tok):A7 (a++c) (b++d):=by
 cases a with
 | nil=>exact absurd rfl cf
 | cons x a=>cases b with
  | nil=>simp[AE]at h
  | cons y b=>simp only[AE,List.map_cons,List.cons.injEq]at h;exact h.1
def Lo {α β:Type}(R:α->β->Prop)(p:Pa α)(p':Pa β):Prop:=∀l x l',p l=.ok (x,l')->∃pre,J1 pre/\l=pre++l'/\∀nT l2,AE pre nT->A7 l' l2->∃x2,R x x2/\p' (nT++l2)=.ok (x2,l2)
def gq {α β:Type}(R:α->β->Prop)(p:Pa α)(p':Pa β):Prop:=∀l x l',p l=.ok (x,l')->∃pre,pre≠[]/\J1 pre/\l=pre++l'/\∀nT l2,AE pre nT->∃x2,R x x2/\p' (nT++l2)=.ok (x2,l2)
section
variable {α β γ δ:Type} {R:α->β->Prop} {S:γ->δ->Prop} {p:Pa α} {p':Pa β} {q:α->Pa γ} {q':β->Pa δ}
theorem gq.lo (h:gq R p p'):Lo R p p':=λl x l' e=>by
 obtain⟨pre,_,h1,h2,h3⟩:=h l x l' e;exact⟨pre,h1,h2,λa b ha _=>h3 a b ha⟩
theorem Lo.pr {x:α}{y:β}(h:R x y):Lo R (pr x) (pr y):=λl x' l' e=>by
 cases e;refine⟨[],by simp[J1],rfl,λnT l2 hp _=>?_⟩;have:nT=[]:=List.length_eq_zero_iff.1 hp.len.symm;subst this;exact⟨y,h,rfl⟩
theorem Lo.fail {e:Nat}:Lo R (eJ e) p':=λl x l' h=>by cases h
theorem gq.fail {e:Nat}:gq R (eJ e) p':=λl x l' h=>by cases h
theorem eI {p:Pa α}{q:α->Pa γ}{l l':List Tok}{y:γ}(h:pb p q l=.ok (y,l')):∃x l1,p l=.ok (x,l1)/\q x l1=.ok (y,l'):=by
 unfold pb at h;split at h
 ·cases h
 rename_i x l1 e;exact⟨x,l1,e,h⟩
theorem aJ {p:Pa α}{q:α->Pa γ}{l l1:List Tok}{x:α}(h:p l=.ok (x,l1)):pb p q l=q x l1:=by
 unfold pb;rw[h]
theorem Lo.pb (h:Lo R p p')(k:∀x y,R x y->Lo S (q x) (q' y)):Lo S (pb p q) (pb p' q'):=λl z l' e=>by
 obtain⟨x,l1,e1,e2⟩:=eI e;obtain⟨a,na,rfl,ha⟩:=h l x l1 e1;obtain⟨y0,hy0,_⟩:=ha a l1 (AE.refl _) rfl;obtain⟨b,nb,rfl,_⟩:=k x y0 hy0 _ z l' e2;refine⟨a++b,λt ht=>(List.mem_append.1 ht).elim (na t) (nb t),by rw[List.append_assoc],λnT l2 hp hh=>?_⟩;obtain⟨u,v,rfl,hu,hv⟩:=hp.split;rw[List.append_assoc];obtain⟨y,hy,ey⟩:=ha u (v++l2) hu (A7.app hv hh);obtain⟨b',nb',eb,hb⟩:=k x y hy _ z l' e2;obtain rfl:=List.append_cancel_right eb;obtain⟨z2,hz,ez⟩:=hb v l2 hv hh;exact⟨z2,hz,by rw[aJ ey];exact ez⟩
theorem gq.pb (h:Lo R p p')(k:∀x y,R x y->gq S (q x) (q' y)):gq S (pb p q) (pb p' q'):=λl z l' e=>by
 obtain⟨x,l1,e1,e2⟩:=eI e;obtain⟨a,na,rfl,ha⟩:=h l x l1 e1;obtain⟨y0,hy0,_⟩:=ha a l1 (AE.refl _) rfl;obtain⟨b,bne,nb,rfl,_⟩:=k x y0 hy0 _ z l' e2;refine⟨a++b,by simp[bne],λt ht=>(List.mem_append.1 ht).elim (na t) (nb t),by rw[List.append_assoc],λnT l2 hp=>?_⟩;obtain⟨u,v,rfl,hu,hv⟩:=hp.split;rw[List.append_assoc];obtain⟨y,hy,ey⟩:=ha u (v++l2) hu (A7.apps hv bne _ _);obtain⟨b',_,nb',eb,hb⟩:=k x y hy _ z l' e2;obtain rfl:=List.append_cancel_right eb;obtain⟨z2,hz,ez⟩:=hb v l2 hv;exact⟨z2,hz,by rw[aJ ey];exact ez⟩
theorem gq.map {f:α->γ}{f':β->δ}(h:gq R p p')(k:∀x y,R x y->S (f x) (f' y)):gq S (Cae.pb p λx=>Cae.pr (f x)) (Cae.pb p' λy=>Cae.pr (f' y)):=λl z l' e=>by
 obtain⟨x,l1,e1,e2⟩:=eI e;cases e2;obtain⟨a,ane,na,rfl,ha⟩:=h l x l' e1;refine⟨a,ane,na,rfl,λnT l2 hp=>?_⟩;obtain⟨y,hy,ey⟩:=ha nT l2 hp;exact⟨f' y,k x y hy,by rw[aJ ey];rfl⟩
theorem Lo.bE {c c':List Tok->Bool}{p1 p2:Pa α}{p1' p2':Pa β}(hc:∀a b,A7 a b->c a=c' b)(h1:Lo R p1 p1')(h2:Lo R p2 p2'):Lo R (bE c p1 p2) (bE c' p1' p2'):=λl x l' e=>by
 unfold Cae.bE at e;cases jE:c l with
 | true =>
  rw[jE]at e;obtain⟨a,na,rfl,ha⟩:=h1 l x l' e;refine⟨a,na,rfl,λnT l2 hp hh=>?_⟩;obtain⟨y,hy,ey⟩:=ha nT l2 hp hh;refine⟨y,hy,?_⟩;unfold Cae.bE;rw[<-hc _ _ (A7.app hp hh),jE];exact ey
 | false =>
  rw[jE]at e;obtain⟨a,na,rfl,ha⟩:=h2 l x l' e;refine⟨a,na,rfl,λnT l2 hp hh=>?_⟩;obtain⟨y,hy,ey⟩:=ha nT l2 hp hh;refine⟨y,hy,?_⟩;unfold Cae.bE;rw[<-hc _ _ (A7.app hp hh),jE];exact ey
theorem gq.bE {c c':List Tok->Bool}{p1 p2:Pa α}{p1' p2':Pa β}(hc:∀a b,A7 a b->c a=c' b)(h1:gq R p1 p1')(h2:gq R p2 p2'):gq R (bE c p1 p2) (bE c' p1' p2'):=λl x l' e=>by
 unfold Cae.bE at e;cases jE:c l with
 | true =>
  rw[jE]at e;obtain⟨a,ane,na,rfl,ha⟩:=h1 l x l' e;refine⟨a,ane,na,rfl,λnT l2 hp=>?_⟩;obtain⟨y,hy,ey⟩:=ha nT l2 hp;refine⟨y,hy,?_⟩;unfold Cae.bE;rw[<-hc _ _ (A7.apps hp ane _ _),jE];exact ey
 | false =>
  rw[jE]at e;obtain⟨a,ane,na,rfl,ha⟩:=h2 l x l' e;refine⟨a,ane,na,rfl,λnT l2 hp=>?_⟩;obtain⟨y,hy,ey⟩:=ha nT l2 hp;refine⟨y,hy,?_⟩;unfold Cae.bE;rw[<-hc _ _ (A7.apps hp ane _ _),jE];exact ey
theorem Lo.dr:Lo (λt u=>key t=key u) dr dr:=λl x l' e=>by
 cases e;refine⟨[],by simp[J1],rfl,λnT l2 hp hh=>?_⟩;have:nT=[]:=List.length_eq_zero_iff.1 hp.len.symm;subst this;exact⟨hd l2,hh,rfl⟩
theorem gq.pop:gq (λ_ _=>True) cZ cZ:=λl x l' e=>by
 cases l with
 | nil=>cases e
 | cons t r =>
  by_cases h5:t.kind=5
  ·simp[cZ,h5]at e
  have e':cZ (t::r)=.ok ((),r):=by simp[cZ,h5]
  rw[e']at e;cases e;refine⟨[t],by simp,by simpa[J1] using h5,rfl,λnT l2 hp=>⟨(),trivial,?_⟩⟩;cases nT with
  | nil=>simp[AE]at hp
  | cons u v =>
   have hv:v=[]:=by
    have:=hp.len;simpa using this.symm
   subst hv;have hk:t.kind=u.kind:=by
    simp only[AE,List.map_cons,List.map_nil,List.cons.injEq,key,Prod.mk.injEq]at hp;exact hp.1.1
   show cZ (u::l2)=_
   have VT:¬u.kind=5:=by rw[<-hk];exact h5
   simp[cZ,VT]
end
theorem A7.kind {a b:List Tok}(h:A7 a b):(hd a).kind=(hd b).kind:=(Prod.mk.inj h).1
theorem A7.text {a b:List Tok}(h:A7 a b):(hd a).text=(hd b).text:=(Prod.mk.inj h).2
theorem BP (k:Nat)(a b:List Tok)(h:A7 a b):isKind k a=isKind k b:=by unfold isKind;rw[h.kind]
theorem jk (s:List UInt8)(a b:List Tok)(h:A7 a b):dm s a=dm s b:=by unfold dm;rw[h.kind,h.text]
theorem Ge (a b:List Tok)(h:A7 a b):jw a=jw b:=by unfold jw;rw[h.kind,h.text]
theorem aF9 (a b:List Tok)(h:A7 a b):Fj a=Fj b:=by unfold Fj;rw[h.text]
theorem aBQ (a b:List Tok)(h:A7 a b):mB a=mB b:=by unfold mB;rw[BP 3 a b h,Ge a b h,jk _ a b h,jk _ a b h,jk _ a b h]
theorem aGa (a b:List Tok)(h:A7 a b):jb a=jb b:=by unfold jb;rw[BP 3 a b h,Ge a b h]
def KE (k k2:bB):Prop:=∀a,fH k a=fH k2 a
def PE (x x2:aG):Prop:=∀n,ai x n=ai x2 n
theorem KE.not {p p2:Nat}{k k2:bB}(h:KE k k2):KE (.not p k) (.not p2 k2):=λa=>by simp only[fH];rw[h]
theorem KE.bin {c p p2:Nat}{k k2 r r2:bB}(h:KE k k2)(h':KE r r2):KE (.bin c p k r) (.bin c p2 k2 r2):=λa=>by simp only[fH];rw[h,h']
theorem aAa {l m:List aG}(h:dT PE l m)(n:Nat):bG l n=bG m n:=by
 induction h with
 | nil=>rfl
 | cons h1 _ ih=>simp only[bG];rw[h1,ih]
theorem PE.cat {l m:List aG}(h:dT PE l m):PE (.cat l) (.cat m):=λn=>by simp only[ai];rw[aAa h]
theorem PE.alt {l m:List aG}(h:dT PE l m):PE (.alt l) (.alt m):=λn=>by simp only[ai];rw[aAa h]
theorem PE.many {x x2:aG}{lo hi:Int}(h:PE x x2):PE (.many x lo hi) (.many x2 lo hi):=λn=>by simp only[ai];rw[h]
theorem PE.one {k k2:bB}(h:KE k k2):PE (.one k) (.one k2):=λn=>by simp only[ai];rw[h]
theorem PE.row {l m:List aG}(h:dT PE l m):PE (rowOf l) (rowOf m):=by
 cases h with
 | nil=>exact PE.cat .nil
 | cons h1 h2=>cases h2 with
  | nil=>exact h1
  | cons h3 h4=>exact PE.cat (.cons h1 (.cons h3 h4))
theorem PE.jj {l m:List aG}(h:dT PE l m):PE (jj l) (jj m):=by
 cases h with
 | nil=>exact PE.alt .nil
 | cons h1 h2=>cases h2 with
  | nil=>exact h1
  | cons h3 h4=>exact PE.alt (.cons h1 (.cons h3 h4))
def TT {α β:Type}:α->β->Prop:=λ_ _=>True
theorem gN:gq TT cZ cZ:=gq.pop
theorem iX (s:List UInt8):gq TT (dM s) (dM s):=gq.bE (jk s) gN gq.fail
theorem IM:gq Eq nS nS:=gq.bE Ge (gq.bE aF9 gq.fail (gq.pb Lo.dr λt u h=>gq.map gN λ_ _ _=>(Prod.mk.inj h).2)) gq.fail
theorem aIg:Lo Eq vN vN:=Lo.bE (jk _) (gq.map gN λ_ _ _=>rfl).lo (Lo.bE (jk _) (gq.map gN λ_ _ _=>rfl).lo (Lo.bE (jk _) (gq.map gN λ_ _ _=>rfl).lo (Lo.pr rfl)))
theorem zK {one Z8:Pa bB}(h:Lo KE one Z8)(a b:Nat):∀(n:Nat) (k k2:bB),KE k k2->Lo KE (de one a n k) (de Z8 b n k2)
 | 0,_,_,_=>Lo.fail
 | n+1,k,k2,hk=>Lo.pb aIg λc c2 e=>by
   subst e;by_cases h0:c=0
   ·rw[if_pos h0,if_pos h0];exact Lo.pr hk
   rw[if_neg h0,if_neg h0];exact Lo.pb h λr r2 hr=>zK h a b n _ _ (KE.bin hk hr)
theorem CX {one Z8:Pa bB}(h:Lo KE one Z8):Lo KE (th one) (th Z8):=Lo.pb Lo.dr λ_ _ _=>Lo.pb h λk k2 hk=>zK h _ _ _ _ _ hk
theorem ZL:gq KE IL IL:=gq.pb Lo.dr λt u h=>by
 have ht:t.text=u.text:=(Prod.mk.inj h).2;rw[ht];cases Is u.text with
 | none=>exact gq.fail
 | some s=>exact gq.map gN λ_ _ _ a=>rfl
theorem qH:∀d,Lo KE (mA d) (mA d)
 | 0=>Lo.fail
 | d+1=>Lo.bE (BP 3) ZL.lo (Lo.bE (jk _) (Lo.pb Lo.dr λ_ _ _=>Lo.pb gN.lo λ_ _ _=>Lo.pb (qH d) λk k2 h=>Lo.pr (KE.not h))
   (Lo.bE (jk _) (Lo.pb gN.lo λ_ _ _=>Lo.pb (CX (qH d)) λk k2 h=>(gq.map (iX _) λ_ _ _=>h).lo)
    (Lo.pb Lo.dr λ_ _ _=>(gq.map IM λn n2 e a=>by simp only[fH];exact e).lo)))
theorem LD:gq Eq kD kD:=gq.bE (BP 2) (gq.pb Lo.dr λt u h=>by
 have ht:t.text=u.text:=(Prod.mk.inj h).2;rw[ht];by_cases h0:12<AG u.text
 ·rw[if_pos h0];exact gq.fail
 rw[if_neg h0];exact gq.map gN λ_ _ _=>rfl) gq.fail
theorem se:Lo Eq dR dR:=Lo.pb LD.lo λlo lo2 e=>by
 subst e;refine Lo.bE (jk _) (Lo.pb gN.lo λ_ _ _=>Lo.bE (BP 2) (Lo.pb LD.lo λhi QS e=>?_) (gq.map (iX _) λ_ _ _=>rfl).lo) (gq.map (iX _) λ_ _ _=>rfl).lo;subst e;by_cases h0:hi<lo
 ·rw[if_pos h0];exact Lo.fail
 rw[if_neg h0];exact(gq.map (iX _) λ_ _ _=>rfl).lo
theorem Tq:Lo Eq eY eY:=Lo.bE (jk _) (gq.map gN λ_ _ _=>rfl).lo (Lo.bE (jk _) (gq.map gN λ_ _ _=>rfl).lo (Lo.bE (jk _) (gq.map gN λ_ _ _=>rfl).lo
 (Lo.bE (jk _) (Lo.pb gN.lo λ_ _ _=>Lo.pb se λr r2 e=>Lo.pr (by rw[e])) (Lo.pr rfl))))
theorem qG (d:Nat):∀(n c:Nat) (x x2:aG),PE x x2->Lo PE (bl d n c x) (bl d n c x2)
 | 0,_,_,_,_=>Lo.fail
 | n+1,c,x,x2,h=>Lo.pb Tq λr r2 e=>by
   subst e;cases r with
   | none=>exact Lo.pr h
   | some q =>
    show Lo PE (if d<=c+1 then _ else _) (if d<=c+1 then _ else _)
    by_cases h0:d<=c+1
    ·rw[if_pos h0,if_pos h0];exact Lo.fail
    rw[if_neg h0,if_neg h0];exact qG d n (c+1) _ _ (PE.many h)
theorem Fi {d:Nat}{unit MX:Pa aG}(h:Lo PE unit MX):Lo PE (aZ d unit) (aZ d MX):=Lo.pb h λx x2 hx=>qG d _ _ _ _ hx
theorem CY {again BE:Pa aG}(h:Lo PE again BE):∀(n:Nat) (a b:List aG),dT PE a b->Lo (dT PE) (bN again n a) (bN BE n b)
 | 0,_,_,_=>Lo.fail
 | n+1,a,b,hab=>Lo.bE aBQ (Lo.pb h λx x2 hx=>CY h n _ _ (hab.snoc hx)) (Lo.pr hab)
theorem Qh {again BE:Pa aG}(h:Lo PE again BE):Lo PE (iw again) (iw BE):=Lo.pb (CY h _ _ _ .nil) λ_ _ hx=>Lo.pr (PE.row hx)
theorem CW {row aAt:Pa aG}(h:Lo PE row aAt):∀(n:Nat) (a b:List aG),dT PE a b->Lo (dT PE) (fB row n a) (fB aAt n b)
 | 0,_,_,_=>Lo.fail
 | n+1,a,b,hab=>Lo.bE (jk _) (Lo.pb gN.lo λ_ _ _=>Lo.pb h λx x2 hx=>CW h n _ _ (hab.snoc hx)) (Lo.pr hab)
theorem aDw {row aAt:Pa aG}(h:Lo PE row aAt):Lo PE (ND row) (ND aAt):=Lo.pb h λx x2 hx=>Lo.pb (CW h _ _ _ (.cons hx .nil)) λ_ _ hx=>Lo.pr (PE.jj hx)
theorem IP {d:Nat}{unit MX:Pa aG}(h:Lo PE unit MX):Lo PE (DD d unit) (DD d MX):=by
 unfold DD;by_cases h0:d=0
 ·rw[if_pos h0,if_pos h0];exact Lo.fail
 rw[if_neg h0,if_neg h0];exact aDw (Qh (Fi h))
theorem Ak:∀d,Lo PE (ax d) (ax d)
 | 0=>Lo.fail
 | d+1=>Lo.bE (jk _) (gq.map gN λ_ _ _ _=>rfl).lo (Lo.bE (jk _) (gq.map gN λ_ _ _ _=>rfl).lo
   (Lo.bE (jk _) (Lo.pb gN.lo λ_ _ _=>Lo.pb (IP (Ak d)) λx x2 h=>(gq.map (iX _) λ_ _ _=>h).lo)
    (Lo.bE aGa (Lo.pb (qH (d+1)) λk k2 h=>Lo.pr (PE.one h)) Lo.fail)))
theorem ZM (d:Nat):Lo PE (ry d) (ry d):=IP (Ak d)
theorem aDy:gq Eq iA iA:=gq.bE (jk _) (gq.map gN λ_ _ _=>rfl) (gq.map (iX _) λ_ _ _=>rfl)
def RE (r r2:cQ):Prop:=gO r=gO r2
theorem aDx:gq RE mM mM:=gq.pb Lo.dr λt t2 _=>gq.pb aDy.lo λb b2 e=>gq.pb (ZM 9) λx x2 hx=>gq.pb (iX _).lo λ_ _ _=>gq.pb (ZM 9) λy y2 hy=>gq.map (iX _) λ_ _ _=>by
 subst e
 show gO _=gO _
 unfold gO;rw[hx 0,hy 0]
inductive Tk:Nat->List UInt8->List Tok->Prop
 | nil (i):Tk i [] []
 | blank {i c r l}:(c=32\/c=10)->Tk (i+1) r l->Tk i (c::r) l
 | note {i c r l}:¬(c=32\/c=10)->c=35->Tk (i+kr (· != 10) (c::r)) ((c::r).drop (kr (· != 10) (c::r))) l->Tk i (c::r) l
 | tok {i c r l}:¬(c=32\/c=10)->¬c=35->(iM (c::r)).2≠0->Tk (i+(iM (c::r)).2) ((c::r).drop (iM (c::r)).2) l->Tk i (c::r) (⟨(iM (c::r)).1,(c::r).take (iM (c::r)).2,i⟩::l)
theorem xM (f:UInt8->Bool)(s:List UInt8):kr f s<=s.length:=by
 unfold kr
 have:=List.takeWhile_append_dropWhile (p:=f) (l:=s);have h:=congrArg List.length this;rw[List.length_append]at h;omega
theorem aAx {f:UInt8->Bool}{c:UInt8}{r:List UInt8}(h:f c=true):0<kr f (c::r):=by
 unfold kr;rw[List.takeWhile_cons,if_pos h,List.length_cons];omega
theorem Gl {s:List UInt8}{c:UInt8}(h:s.contains c=true):kr (· != c) s<s.length:=by
 induction s with
 | nil=>simp at h
 | cons x s ih =>
  unfold kr at *
  by_cases hx:x=c
  ·subst hx;simp[List.takeWhile_cons]
  have h':s.contains c=true:=by
   rw[List.contains_cons]at h;have:(c == x)=false:=by simpa using Ne.symm hx
   rw[this]at h;simpa using h
  rw[List.takeWhile_cons,if_pos (by simpa using hx),List.length_cons,List.length_cons]
  have:=ih h';omega
theorem qN (c:UInt8)(r:List UInt8):iM (c::r)=if jv c then (1,kr (λc=>jv c || e9 c) (c::r)) else if e9 c then (2,kr e9 (c::r))
  else if c=91 then (3,if (c::r).contains 93 then kr (· != 93) (c::r)+1 else 0) else if LI.contains c then (4,1) else (4,0):=rfl
theorem xA (c:UInt8)(r:List UInt8):(iM (c::r)).2<=(c::r).length:=by
 rw[qN];split
 ·exact xM _ _
 split
 ·exact xM _ _
 split
 ·split
  ·rename_i h;exact Gl h
  simp
 split<;>simp
theorem lA:∀(n i:Nat) (s:List UInt8) (acc r:List Tok),acc.length<=500->mc n i s acc=.ok r->∃l,Tk i s l/\r=acc++l++[⟨5,[],i+s.length⟩]/\acc.length+l.length<=500
 | 0,_,_,_,_,_,h=>by cases h
 | n+1,i,[],acc,r,ha,h=>by
   cases h;exact⟨[],.nil i,by simp,by simpa using ha⟩
 | n+1,i,c::s,acc,r,ha,h=>by
   unfold mc at h;by_cases h1:c=32\/c=10
   ·rw[if_pos h1]at h;obtain⟨l,hl,e,hn⟩:=lA n _ _ _ _ ha h;exact⟨l,.blank h1 hl,by rw[e,List.length_cons,Nat.add_right_comm,Nat.add_assoc],hn⟩
   rw[if_neg h1]at h;by_cases h2:c=35
   ·rw[if_pos h2]at h;obtain⟨l,hl,e,hn⟩:=lA n _ _ _ _ ha h
    have:=xM (· != 10) (c::s);exact⟨l,.note h1 h2 hl,by rw[e,List.length_drop,Nat.add_assoc,Nat.add_sub_cancel' this],hn⟩
   rw[if_neg h2]at h;by_cases h3:(iM (c::s)).2=0
   ·rw[if_pos h3]at h;cases h
   rw[if_neg h3]at h;by_cases h4:acc.length=500
   ·rw[if_pos h4]at h;cases h
   rw[if_neg h4]at h;obtain⟨l,hl,e,hn⟩:=lA n _ _ _ _ (by rw[List.length_append,List.length_singleton];omega) h
   have:=xA c s;exact⟨_::l,.tok h1 h2 h3 hl,by rw[e,List.length_drop,Nat.add_assoc,Nat.add_sub_cancel' this];simp,by rw[List.length_append,List.length_singleton]at hn;rw[List.length_cons];omega⟩
theorem Tk.inside {i:Nat}{s:List UInt8}{l:List Tok}(h:Tk i s l):∀t∈l,t.text <:+: s:=by
 induction h with
 | nil i=>simp
 | @blank i c r l h1 hl ih=>exact λt ht=>(ih t ht).trans (List.suffix_cons c r).isInfix
 | @note i c r l h1 h2 hl ih=>exact λt ht=>(ih t ht).trans (List.drop_suffix _ _).isInfix
 | @tok i c r l h1 h2 h3 hl ih =>
  intro t ht;rcases List.mem_cons.1 ht with rfl|ht
  ·exact(List.take_prefix _ _).isInfix
  exact(ih t ht).trans (List.drop_suffix _ _).isInfix
def A4 (l:List Tok):Nat:=(l.map λt=>t.text.length).sum
theorem Tk.sum {i:Nat}{s:List UInt8}{l:List Tok}(h:Tk i s l):A4 l<=s.length/\∀t∈l,0<t.text.length:=by
 induction h with
 | nil i=>simp[A4]
 | @blank i c r l h1 hl ih=>exact⟨by rw[List.length_cons];omega,ih.2⟩
 | @note i c r l h1 h2 hl ih=>exact⟨by have:=ih.1;rw[List.length_drop]at this;omega,ih.2⟩
 | @tok i c r l h1 h2 h3 hl ih =>
  have h4:=xA c r;have h5:=ih.1;rw[List.length_drop]at h5;have h6:((c::r).take (iM (c::r)).2).length=(iM (c::r)).2:=by rw[List.length_take];omega
  refine⟨?_,λt ht=>?_⟩
  ·have:A4 (⟨(iM (c::r)).1,(c::r).take (iM (c::r)).2,i⟩::l)=((c::r).take (iM (c::r)).2).length+A4 l:=by simp[A4]
   rw[this,h6];omega
  rcases List.mem_cons.1 ht with rfl|ht
  ·show 0<((c::r).take (iM (c::r)).2).length
   rw[h6];omega
  exact ih.2 t ht
theorem UX {s:List UInt8}{f:dX}(h:dy s=.ok f):∃l l',Tk 0 s l/\l.length<=500/\j4 (l++[⟨5,[],s.length⟩])=.ok (f,l')/\isKind 5 l'=true:=by
 unfold dy at h;split at h
 ·cases h
 rename_i l ht;split at h
 ·cases h
 rename_i g l' hf;split at h
 ·rename_i hk;cases h;obtain⟨m,hm,e,hn⟩:=lA _ _ _ _ _ (by simp) ht;simp only[List.nil_append,Nat.zero_add]at e;subst e;exact⟨m,l',hm,by simpa using hn,hf,hk⟩
 cases h
theorem Xi {l l':List Tok}{f:dX}(h:j4 l=.ok (f,l')):∃l1 l2,ba 1000 [] l=.ok (f.cT,l1)/\b8 1000 [] l1=.ok (f.rules,l2)/\oy l2=.ok (f.els,l'):=by
 obtain⟨cs,l1,h1,h⟩:=eI h;obtain⟨rs,l2,h2,h⟩:=eI h;obtain⟨b,l3,h3,h⟩:=eI h;cases h;exact⟨l1,l2,h1,h2,h3⟩
theorem It {s:List UInt8}{l:List Rg}(h:Is s=some l):dY s l:=by
 have key:∀l':List Rg,(if aO (-2) l' && gx l' == s then some l' else none)=some l->dY s l:=λl' h=>by
  by_cases hc:(aO (-2) l' && gx l' == s)=true
  ·rw[if_pos hc]at h;obtain rfl:=Option.some.inj h;simp only[Bool.and_eq_true,beq_iff_eq]at hc;exact⟨hc.1,hc.2⟩
  rw[if_neg hc]at h;cases h
 exact key _ h
def W (l:List Tok):Nat:=(l.map λt=>2*t.text.length+9).sum
theorem G0 (t:Tok)(l:List Tok):W (t::l)=2*t.text.length+9+W l:=by simp[W]
def Me {α:Type}(c:Nat)(μ:α->Nat)(p:Pa α):Prop:=∀l x l',p l=.ok (x,l')->μ x+W l'<=W l+c
section
variable {α β:Type} {c d:Nat} {μ:α->Nat} {ν:β->Nat} {p:Pa α} {q:α->Pa β}
theorem Me.pr {x:α}:Me (μ x) μ (pr x):=λl y l' h=>by cases h;omega
theorem Me.fail {e:Nat}:Me c μ (eJ e):=λl y l' h=>by cases h
theorem Me.mono (h:Me c μ p)(hc:c<=d):Me d μ p:=λl x l' e=>by have:=h l x l' e;omega
theorem Me.iT {μ':α->Nat}(h:Me c μ p)(hm:∀x,μ' x<=μ x):Me c μ' p:=λl x l' e=>by have:=h l x l' e;have:=hm x;omega
theorem Me.pb {m:Nat}(h:Me c μ p)(k:∀x,Me (μ x+d) ν (q x))(hm:c+d<=m):Me m ν (pb p q):=λl y l' e=>by
 obtain⟨x,l1,e1,e2⟩:=eI e;have h1:=h l x l1 e1;have h2:=k x l1 y l' e2;omega
theorem Me.bE {cc:List Tok->Bool}{p1 p2:Pa α}(h1:Me c μ p1)(h2:Me c μ p2):Me c μ (bE cc p1 p2):=λl x l' e=>by
 unfold Cae.bE at e;split at e
 ·exact h1 l x l' e
 exact h2 l x l' e
theorem Me.dr:Me 0 (λ_=>0) dr:=λl x l' e=>by cases e;dsimp only;omega
theorem uf {l l':List Tok}{x:Unit}(h:cZ l=.ok (x,l')):∃t,l=t::l'/\t.kind≠5:=by
 cases l with
 | nil=>cases h
 | cons t r =>
  by_cases h5:t.kind=5
  ·simp[cZ,h5]at h
  have e':cZ (t::r)=.ok ((),r):=by simp[cZ,h5]
  rw[e']at h;cases h;exact⟨t,rfl,h5⟩
theorem Me.pop:Me 0 (λ_=>9) cZ:=λl x l' e=>by
 obtain⟨t,rfl,_⟩:=uf e;rw[G0];dsimp only;omega
theorem Me.aEc:Me 0 (λ_=>0) cZ:=Me.pop.iT λ_=>Nat.zero_le _
end
theorem jT (s:List UInt8):Me 0 (λ_=>9) (dM s):=Me.bE Me.pop Me.fail
theorem Qj:Me 0 (λn:List UInt8=>n.length+8) nS:=λl n l' e=>by
 unfold nS bE at e;split at e
 ·split at e
  ·cases e
  obtain⟨t,l1,e1,e2⟩:=eI e;cases e1;obtain⟨x,l2,e3,e4⟩:=eI e2;cases e4;obtain⟨t,rfl,_⟩:=uf e3;rw[G0]
  show t.text.length+8+W l'<=2*t.text.length+9+W l'+0
  omega
 cases e
def kn (k:bB):Nat:=(fH k true).length+3
theorem ZC (k:bB)(a:Bool):(fH k a).length+3<=kn k:=by
 unfold kn;cases a with
 | true=>exact Nat.le_refl _
 | false=>cases k<;>simp[fH]<;>omega
theorem aH9 (c p:Nat)(k r:bB):kn (.bin c p k r)<=kn k+kn r+2:=by
 have h1:=ZC k false;have h2:=ZC r true;unfold kn at *
 simp only[fH,if_true,List.length_cons,List.length_append,List.length_nil];have:(if c=3 then [32,124,32] else if c=4 then [32,38,32] else [32,45,32]:List UInt8).length=3:=by split<;>(try split)<;>rfl
 rw[this];omega
theorem aIa (p:Nat)(k:bB):kn (.not p k)=kn k+1:=by simp[kn,fH]
theorem aIj:Me 0 (λc:Nat=>if c=0 then 0 else 8) vN:=by
 have h:∀c:Nat,c≠0->Me 0 (λc:Nat=>if c=0 then 0 else 8) (pb cZ λ_=>pr c):=λc hc=>Me.pb (d:=0) (Me.pop.iT (μ':=λ_=>8) λ_=>by omega) (λ_=>by have:=Me.pr (μ:=λc:Nat=>if c=0 then 0 else 8) (x:=c);rw[if_neg hc]at this;exact this) (by omega)
 exact Me.bE (h 3 (by decide)) (Me.bE (h 4 (by decide)) (Me.bE (h 5 (by decide)) Me.pr))
theorem zM {one:Pa bB}(h:Me 0 kn one)(pos:Nat):∀(n:Nat) (k:bB),Me (kn k) kn (de one pos n k)
 | 0,k=>Me.fail
 | n+1,k=>Me.pb (d:=kn k) aIj (λc=>by
   by_cases h0:c=0
   ·rw[if_pos h0,if_pos h0];exact Me.pr.mono (by omega)
   rw[if_neg h0,if_neg h0];refine Me.pb (d:=8+kn k) h (λr=>(zM h pos n _).mono ?_) (by omega)
   have:=aH9 c pos k r;omega) (by omega)
theorem LJ {one:Pa bB}(h:Me 0 kn one):Me 0 kn (th one):=Me.pb (d:=0) Me.dr (λt=>Me.pb (d:=0) h (λk=>zM h _ _ _) (by omega)) (by omega)
theorem aIk:Me 0 kn IL:=λl k l' e=>by
 obtain⟨t,l1,e1,e2⟩:=eI e;cases e1;cases hs:Is (hd l).text with
 | none=>rw[hs]at e2;cases e2
 | some s =>
  rw[hs]at e2;obtain⟨x,l2,e3,e4⟩:=eI e2;cases e4;obtain⟨t,rfl,_⟩:=uf e3;have h1:gx s=t.text:=(It hs).2;rw[G0,<-h1]
  show (gx s).length+3+W l'<=_
  omega
theorem IT:∀d,Me 0 kn (mA d)
 | 0=>Me.fail
 | d+1=>Me.bE aIk (Me.bE (Me.pb (d:=0) Me.dr (λt=>Me.pb (d:=0) Me.pop (λ_=>Me.pb (d:=9) (IT d) (λk=>Me.pr.mono (by rw[aIa];omega)) (by omega)) (by omega)) (by omega))
   (Me.bE (Me.pb (d:=0) Me.aEc (λ_=>Me.pb (d:=0) (LJ (IT d)) (λk=>Me.pb (d:=kn k) (jT _) (λ_=>Me.pr.mono (by omega)) (by omega)) (by omega)) (by omega))
    (Me.pb (d:=0) Me.dr (λt=>Me.pb (d:=0) Qj (λn=>Me.pr.mono (by show n.length+3<=_;omega)) (by omega)) (by omega))))
def pn (x:aG):Nat:=(ai x 2).length+3
theorem gp (b:Bool)(s:List UInt8):s.length<=(r8 b s).length/\(r8 b s).length<=s.length+2:=by
 cases b<;>simp[r8]<;>omega
theorem Zz (x:aG)(n:Nat):(ai x n).length+3<=pn x:=by
 unfold pn;cases x with
 | cat l =>
  simp only[ai];by_cases h:1<n
  ·simp[h,r8]
  simp[h,r8]
 | alt l =>
  simp only[ai];have h0:0<2:=by decide
  have h1:(bG l 1)=bG l 1:=rfl;by_cases h:0<n
  ·simp[h,r8]
  simp[h,r8]
 | _=>simp[ai]
theorem Jp (n:Nat):(SI n).length<=2:=by unfold SI;split<;>(try split)<;>simp
theorem FJ (lo hi:Int):(yX lo hi).length<=7:=by
 have h1:=Jp lo.toNat;have h2:=Jp hi.toNat;unfold yX
 repeat' split
 all_goals simp
 all_goals omega
theorem aEa (x:aG)(lo hi:Int):pn (.many x lo hi)<=pn x+7:=by
 have:=FJ lo hi;unfold pn;simp only[ai,List.length_append];omega
def EF (l:List aG):Nat:=(l.map pn).sum
theorem MS (l:List aG)(x:aG):EF (l++[x])=EF l+pn x:=by simp[EF]
theorem aDu (l:List aG)(n:Nat):Go.Lib.lens (bG l n)+3*l.length<=EF l/\(bG l n).length=l.length:=by
 induction l with
 | nil=>simp[bG,Go.Lib.lens,EF]
 | cons x l ih =>
  have:=Zz x n;simp only[bG,Go.Lib.lens,EF,List.map_cons,List.sum_cons,List.length_cons]at *
  omega
theorem join_le (l:List aG)(n:Nat)(sep:List UInt8)(hs:sep.length<=3):(Go.Lib.join (bG l n) sep).length<=EF l:=by
 cases l with
 | nil=>simp[bG,Go.Lib.join_nil]
 | cons x l =>
  have h1:=aDu (x::l) n;simp only[bG]at *
  rw[Go.Lib.join_length];have h2:sep.length*(bG l n).length<=3*(bG l n).length:=Nat.mul_le_mul_right _ hs;simp only[List.length_cons]at h1;omega
theorem Zw (l:List aG):pn (.cat l)<=EF l+5:=by
 have:=join_le l 2 [32] (by decide)
 have:=(gp (decide (1<2)) (Go.Lib.join (bG l 2) [32])).2;unfold pn;simp only[ai];omega
theorem Zu (l:List aG):pn (.alt l)<=EF l+5:=by
 have:=join_le l 1 [32,124,32] (by decide)
 have:=(gp (decide (0<2)) (Go.Lib.join (bG l 1) [32,124,32])).2;unfold pn;simp only[ai];omega
theorem aIy (l:List aG):pn (rowOf l)<=EF l+5:=by
 match l with
 | []=>exact Zw []
 | [x]=>simp[rowOf,EF]
 | x::y::l=>exact Zw _
theorem Zv (l:List aG):pn (jj l)<=EF l+5:=by
 match l with
 | []=>exact Zu []
 | [x]=>simp[jj,EF]
 | x::y::l=>exact Zu _
theorem LK:Me 0 (λ_=>0) kD:=Me.bE (Me.pb (d:=0) Me.dr (λt=>by
 by_cases h:12<AG t.text
 ·rw[if_pos h];exact Me.fail
 rw[if_neg h];exact Me.pb (d:=0) Me.aEc (λ_=>Me.pr.mono (by omega)) (by omega)) (by omega)) Me.fail
theorem Tu:Me 0 (λ_=>0) dR:=Me.pb (d:=0) LK (λlo=>Me.bE (Me.pb (d:=0) Me.aEc (λ_=>Me.bE (Me.pb (d:=0) LK (λhi=>by
 by_cases h:hi<lo
 ·rw[if_pos h];exact Me.fail
 rw[if_neg h];exact Me.pb (d:=0) (jT _) (λ_=>Me.pr.mono (by omega)) (by omega)) (by omega)) (Me.pb (d:=0) (jT _) (λ_=>Me.pr.mono (by omega)) (by omega))) (by omega)) (Me.pb (d:=0) (jT _) (λ_=>Me.pr.mono (by omega)) (by omega))) (by omega)
def sn:Option (Int×Int)->Nat
 | none=>0
 | some _=>8
theorem Tx:Me 0 sn eY:=by
 have h:∀r,Me 0 sn (pb cZ λ_=>pr (some r)):=λr=>Me.pb (d:=0) (Me.pop.iT (μ':=λ_=>8) λ_=>by omega) (λ_=>Me.pr) (by omega);refine Me.bE (h _) (Me.bE (h _) (Me.bE (h _) (Me.bE ?_ Me.pr)));exact Me.pb (d:=0) (Me.pop.iT (μ':=λ_=>8) λ_=>by omega) (λ_=>Me.pb (d:=8) Tu (λr=>Me.pr.mono (by show 8<=_;omega)) (by omega)) (by omega)
theorem wU (d:Nat):∀(n c:Nat) (x:aG),Me (pn x) pn (bl d n c x)
 | 0,_,_=>Me.fail
 | n+1,c,x=>Me.pb (d:=pn x) Tx (λr=>by
   cases r with
   | none=>exact Me.pr.mono (by omega)
   | some q =>
    show Me _ pn (if d<=c+1 then _ else _)
    by_cases h0:d<=c+1
    ·rw[if_pos h0];exact Me.fail
    rw[if_neg h0];refine(wU d n (c+1) _).mono ?_
    have:=aEa x q.1 q.2
    show _<=8+pn x
    omega) (by omega)
theorem Tt {d:Nat}{unit:Pa aG}(h:Me 0 pn unit):Me 0 pn (aZ d unit):=Me.pb (d:=0) h (λx=>wU d _ _ _) (by omega)
theorem Cg {again:Pa aG}(h:Me 0 pn again):∀(n:Nat) (a:List aG),Me (EF a) EF (bN again n a)
 | 0,_=>Me.fail
 | n+1,a=>Me.bE (Me.pb (d:=EF a) h (λx=>(Cg h n _).mono (by rw[MS];omega)) (by omega)) Me.pr
theorem aDC {again:Pa aG}(h:Me 0 pn again):Me 5 pn (iw again):=Me.pb (d:=5) (Cg h _ _) (λps=>Me.pr.mono (by have:=aIy ps;omega)) (by simp[EF])
theorem C0 {row:Pa aG}(h:Me 5 pn row):∀(n:Nat) (a:List aG),Me (EF a) EF (fB row n a)
 | 0,_=>Me.fail
 | n+1,a=>Me.bE (Me.pb (d:=EF a) Me.pop (λ_=>Me.pb (d:=EF a) h (λx=>(C0 h n _).mono (by rw[MS];omega)) (by omega)) (by omega)) Me.pr
theorem aDA {row:Pa aG}(h:Me 5 pn row):Me 10 pn (ND row):=Me.pb (d:=5) h (λx=>Me.pb (d:=5) (C0 h _ _) (λps=>Me.pr.mono (by have:=Zv ps;omega)) (by simp[EF])) (by omega)
theorem Qk {d:Nat}{unit:Pa aG}(h:Me 0 pn unit):Me 10 pn (DD d unit):=by
 unfold DD;by_cases h0:d=0
 ·rw[if_pos h0];exact Me.fail
 rw[if_neg h0];exact aDA (aDC (Tt h))
theorem ZT {p:Pa aG}(h:Me 10 pn p):Me 0 pn (pb cZ λ_=>pb p λx=>pb (dM [41]) λ_=>pr x):=λl x l' e=>by
 obtain⟨u,l1,e1,e2⟩:=eI e;obtain⟨y,l2,e3,e4⟩:=eI e2;obtain⟨v,l3,e5,e6⟩:=eI e4;cases e6;have a1:=Me.pop _ _ _ e1;have a2:=h _ _ _ e3;have a3:=jT _ _ _ _ e5;dsimp only at a1 a3;omega
theorem Qm:∀d,Me 0 pn (ax d)
 | 0=>Me.fail
 | d+1=>Me.bE (Me.pb (d:=0) Me.pop (λ_=>Me.pr.mono (by decide)) (by omega)) (Me.bE (Me.pb (d:=0) Me.pop (λ_=>Me.pr.mono (by decide)) (by omega))
   (Me.bE (ZT (Qk (Qm d)))
    (Me.bE (Me.pb (d:=0) (IT (d+1)) (λk=>Me.pr.mono (by show (ai (.one k) 2).length+3<=_;simp only[ai];unfold kn;omega)) (by omega)) Me.fail)))
theorem ZU (d:Nat):Me 10 pn (ry d):=Qk (Qm d)
def rn (r:cQ):Nat:=(gO r).length
theorem aMX (r:cQ):rn r<=pn r.before+pn r.after+5:=by
 have h1:=Zz r.before 0;have h2:=Zz r.after 0;have a:(if r.brk=true then [98,114,101,97,107,32] else [107,101,101,112,32]:List UInt8).length<=6:=by split<;>simp
 have b:(if ai r.before 0=[] then [] else ai r.before 0++[32]:List UInt8).length<=(ai r.before 0).length+1:=by split<;>simp
 have c:(if ai r.after 0=[] then [] else 32::ai r.after 0:List UInt8).length<=(ai r.after 0).length+1:=by split<;>simp
 have e:rn r=(if r.brk=true then [98,114,101,97,107,32] else [107,101,101,112,32]:List UInt8).length+(if ai r.before 0=[] then [] else ai r.before 0++[32]:List UInt8).length+1+(if ai r.after 0=[] then [] else 32::ai r.after 0:List UInt8).length+2:=by
  unfold rn gO;rw[List.length_append,List.length_append,List.length_append,List.length_append];rfl
 omega
theorem Ql:Me 0 (λ_=>9) iA:=Me.bE (Me.pb (d:=0) Me.pop (λ_=>Me.pr.mono (by omega)) (by omega)) (Me.pb (d:=0) (jT _) (λ_=>Me.pr.mono (by omega)) (by omega))
theorem aDD:Me 0 rn mM:=λl r l' e=>by
 obtain⟨t,l0,e0,e⟩:=eI e;obtain⟨b,l1,e1,e⟩:=eI e;obtain⟨x,l2,e2,e⟩:=eI e;obtain⟨_,l3,e3,e⟩:=eI e;obtain⟨y,l4,e4,e⟩:=eI e;obtain⟨_,l5,e5,e⟩:=eI e;cases e;cases e0;have a1:=Ql _ _ _ e1;have a2:=ZU _ _ _ _ e2;have a3:=jT _ _ _ _ e3;have a4:=ZU _ _ _ _ e4;have a5:=jT _ _ _ _ e5;have a6:rn ⟨(hd l).pos,b,x,y⟩<=pn x+pn y+5:=aMX ⟨(hd l).pos,b,x,y⟩;simp only at a1 a3 a5;omega
def cn (c:fT):Nat:=(xh c).length
theorem ZS:Me 0 cn oO:=λl r l' e=>by
 obtain⟨t,l0,e0,e⟩:=eI e;obtain⟨_,l1,e1,e⟩:=eI e;obtain⟨n,l2,e2,e⟩:=eI e;obtain⟨_,l3,e3,e⟩:=eI e;obtain⟨k,l4,e4,e⟩:=eI e;obtain⟨_,l5,e5,e⟩:=eI e;cases e;cases e0;have a1:=jT _ _ _ _ e1;have a2:=Qj _ _ _ e2;have a3:=jT _ _ _ _ e3;have a4:=LJ (IT 9) _ _ _ e4;have a5:=jT _ _ _ _ e5
 have:=ZC k false;dsimp only at a1 a2 a3 a5;simp only[cn,xh,List.length_append,List.length_cons,List.length_nil];omega
theorem zN:∀(n:Nat) (acc:List cQ),Me (acc.map rn).sum (λl=>(l.map rn).sum) (b8 n acc)
 | 0,_=>Me.fail
 | n+1,acc=>Me.bE (by
   by_cases h:acc.length=20
   ·rw[if_pos h];exact Me.fail
   rw[if_neg h];intro l x l' e;obtain⟨r,l1,e1,e2⟩:=eI e;have a1:=aDD _ _ _ e1;have a2:=zN n _ _ _ _ e2;simp only[List.map_append,List.sum_append,List.map_cons,List.map_nil,List.sum_cons,List.sum_nil,List.length_append,List.length_cons,List.length_nil]at a2;dsimp only;omega) Me.pr
theorem wV:∀(n:Nat) (acc:List fT),Me (acc.map cn).sum (λl=>(l.map cn).sum) (ba n acc)
 | 0,_=>Me.fail
 | n+1,acc=>Me.bE (by
   by_cases h:acc.length=20
   ·rw[if_pos h];exact Me.fail
   rw[if_neg h];intro l x l' e;obtain⟨r,l1,e1,e2⟩:=eI e;have a1:=ZS _ _ _ e1;have a2:=wV n _ _ _ _ e2;simp only[List.map_append,List.sum_append,List.map_cons,List.map_nil,List.sum_cons,List.sum_nil]at a2;dsimp only;omega) Me.pr
theorem aDB:Me 0 (λ_=>0) oy:=Me.bE (Me.pb (d:=0) Me.aEc (λ_=>Me.pb (d:=0) (Ql.iT (μ':=λ_=>0) (λ_=>by omega)) (λ_=>Me.pb (d:=0) (jT _) (λ_=>Me.pr.mono (by omega)) (by omega)) (by omega)) (by omega)) Me.pr
theorem FQ {α:Type}(f:α->List UInt8)(l:List α):(l.flatMap f).length=(l.map λx=>(f x).length).sum:=by
 rw[List.length_flatMap]
theorem aAU {s:List UInt8}{f:dX}(h:dy s=.ok f):(nH f).length<=11*s.length+60:=by
 obtain⟨l,l',tl,hn,hf,_⟩:=UX h;obtain⟨l1,l2,h1,h2,h3⟩:=Xi hf;have a1:=wV _ _ _ _ _ h1;have a2:=zN _ _ _ _ _ h2;have a3:=aDB _ _ _ h3;simp only[List.map_nil,List.sum_nil,List.length_nil]at a1 a2;have hW:W (l++[⟨5,[],s.length⟩])<=11*s.length+9:=by
  obtain⟨s1,s2⟩:=tl.sum;have:∀l:List Tok,(∀t∈l,0<t.text.length)->W (l++[⟨5,[],s.length⟩])<=11*A4 l+9:=by
   intro l hl;induction l with
   | nil=>simp[W,A4]
   | cons t l ih =>
    have h1:=ih (λt ht=>hl t (List.mem_cons_of_mem _ ht));have h2:=hl t (by simp);rw[List.cons_append,G0];have:A4 (t::l)=t.text.length+A4 l:=by simp[A4]
    omega
  have:=this l s2;omega
 have e:(nH f).length=(f.cT.map cn).sum+(f.rules.map rn).sum+(vW f.els).length:=by
  unfold nH;rw[List.length_append,List.length_append,FQ,FQ];rfl
 have e2:(vW f.els).length<=11:=by unfold vW;split<;>simp
 omega
def gU:bB->Prop
 | .lit _ s=>aO (-2) s=true/\s.length<10000000
 | .ref _ _=>True
 | .not _ k=>gU k
 | .bin c _ k r=>gU k/\gU r/\(c=3\/c=4\/c=5)
mutual
def bD:aG->Prop
 | .one k=>gU k
 | .any=>True
 | .gh=>True
 | .cat l=>dE l
 | .alt l=>dE l
 | .many x lo hi=>bD x/\0<=lo/\lo<100/\hi<100/\(hi<0\/lo<=hi)
def dE:List aG->Prop
 | []=>True
 | x::l=>bD x/\dE l
end
end
section
theorem mo (l:List aG)(n:Nat):bG l n=l.map (ai · n):=by
 induction l with
 | nil=>rfl
 | cons x l ih=>rw[bG,ih];rfl
theorem CV:∀{l:List (List UInt8)} {x:List UInt8},x∈l->x.length<=Go.Lib.lens l
 | y::l,x,h=>by
  simp only[Go.Lib.lens,List.map_cons,List.sum_cons];rcases List.mem_cons.1 h with rfl|h
  ·omega
  have:=CV h;simp only[Go.Lib.lens]at this;omega
theorem rf (l:List (List UInt8))(sep:List UInt8)(hs:1<=sep.length):Go.Lib.lens l<=(Go.Lib.join l sep).length/\l.length<=(Go.Lib.join l sep).length+1:=by
 cases l with
 | nil=>simp[Go.Lib.lens]
 | cons x l =>
  rw[Go.Lib.join_cons,List.length_append,Go.Lib.joinTail_length];have:1*l.length<=sep.length*l.length:=Nat.mul_le_mul_right _ hs;simp only[Go.Lib.lens,List.map_cons,List.sum_cons,List.length_cons];omega
theorem aIA (x:aG):(ai x 2).length<=(ai x 1).length+2:=by
 cases x with
 | cat l =>
  have h1:=(gp (decide (1<2)) (Go.Lib.join (bG l 2) [32])).2;have h2:=(gp (decide (1<1)) (Go.Lib.join (bG l 2) [32])).1;simp only[ai];omega
 | alt l =>
  have h1:=(gp (decide (0<2)) (Go.Lib.join (bG l 1) [32,124,32])).2;have h2:=(gp (decide (0<1)) (Go.Lib.join (bG l 1) [32,124,32])).1;simp only[ai];omega
 | _=>simp[ai]
theorem Fz {l:List aG}:(Go.Lib.join (bG l 2) [32]).length+5=pn (.cat l)/\l.length<=pn (.cat l)/\∀x∈l,pn x<=pn (.cat l):=by
 have h0:=rf (bG l 2) [32] (by decide);have h1:(Go.Lib.join (bG l 2) [32]).length+5=pn (.cat l):=by simp[pn,ai,r8]
 refine⟨h1,?_,λx hx=>?_⟩
 ·rw[mo,List.length_map]at h0;rw[mo]at h1;omega
 have:(ai x 2).length<=Go.Lib.lens (bG l 2):=CV (by rw[mo];exact List.mem_map.2 ⟨x,hx,rfl⟩);have h2:pn x=(ai x 2).length+3:=rfl;omega
theorem Fv {l:List aG}:(Go.Lib.join (bG l 1) [32,124,32]).length+5=pn (.alt l)/\l.length<=pn (.alt l)/\∀x∈l,pn x<=pn (.alt l):=by
 have h0:=rf (bG l 1) [32,124,32] (by decide);have h1:(Go.Lib.join (bG l 1) [32,124,32]).length+5=pn (.alt l):=by simp[pn,ai,r8]
 refine⟨h1,?_,λx hx=>?_⟩
 ·rw[mo,List.length_map]at h0;rw[mo]at h1;omega
 have:(ai x 1).length<=Go.Lib.lens (bG l 1):=CV (by rw[mo];exact List.mem_map.2 ⟨x,hx,rfl⟩);have h2:pn x=(ai x 2).length+3:=rfl
 have:=aIA x;omega
theorem Sc {α:Type}(f:α->List UInt8){l:List α}{x:α}(h:x∈l):(f x).length<=(l.flatMap f).length:=by
 induction l with
 | nil=>cases h
 | cons y l ih =>
  simp only[List.flatMap_cons,List.length_append];rcases List.mem_cons.1 h with rfl|h
  ·omega
  have:=ih h;omega
theorem RA (x:aG):(ai x 2).length<=(ai x 0).length+2:=by
 cases x with
 | cat l =>
  have h1:=(gp (decide (1<2)) (Go.Lib.join (bG l 2) [32])).2;have h2:=(gp (decide (1<0)) (Go.Lib.join (bG l 2) [32])).1;simp only[ai];omega
 | alt l =>
  have h1:=(gp (decide (0<2)) (Go.Lib.join (bG l 1) [32,124,32])).2;have h2:=(gp (decide (0<0)) (Go.Lib.join (bG l 1) [32,124,32])).1;simp only[ai];omega
 | _=>simp[ai]
theorem aIG (r:cQ):(ai r.before 0).length+(ai r.after 0).length<=(gO r).length/\(gO r).length<=(ai r.before 0).length+(ai r.after 0).length+20:=by
 unfold gO;split<;>split<;>split<;>simp[*]<;>omega
def Ay (f:dX):Prop:=(∀c∈f.cT,gU c.kind)/\∀r∈f.rules,bD r.before/\bD r.after
theorem Od {x:aG}{lo hi:Int}:pn x<=pn (.many x lo hi):=by
 simp only[pn,ai,List.length_append];omega
theorem ZQ {α:Type}{f:α->α}{l:List α}(h:∀r∈l,f r=r):l.map f=l:=by
 induction l with
 | nil=>rfl
 | cons x l ih=>rw[List.map_cons,h x (by simp),ih (λr hr=>h r (by simp[hr]))]
theorem aEh {s:List UInt8}{l:List Rg}(h:dY s l):Is s=some l:=by
 obtain⟨hr,rfl⟩:=h;have hb:((gx l).drop 1).dropLast=mE l:=by
  unfold gx mE;simp
 have aQz:(if ((gx l).drop 1).dropLast=[] then ([]:List Rg) else (splitB 32 ((gx l).drop 1).dropLast).map λp=>(((jH (nC 45 p).1:Nat):Int),if (nC 45 p).2.2 then ((jH (nC 45 p).2.1:Nat):Int) else ((jH (nC 45 p).1:Nat):Int)))=l:=by
  rw[hb];by_cases h0:mE l=[]
  ·rw[if_pos h0,xg h0]
  rw[if_neg h0,ur hr h0,List.map_map];refine ZQ λr Ej=>?_;obtain⟨h1,h2,h3⟩:=sg (by omega) hr r Ej;simp only[Function.comp];by_cases aq:r.1<r.2
  ·rw[NZ h1 (by omega) (by omega) aq];simp only[if_true];rw[jt (by omega),jt (by omega)];ext<;>simp<;>omega
  rw[Gm h1 (by omega) aq];simp only[Bool.false_eq_true,if_false];rw[jt (by omega)];ext<;>simp<;>omega
 unfold Is;simp only;rw[aQz,hr];simp
theorem aEg {s:List UInt8}(h:∀l,¬dY s l):Is s=none:=by
 cases hs:Is s with
 | none=>rfl
 | some l=>exact absurd (It hs) (h l)
theorem GF:∀{s:List Rg} {a:Int},aO a s=true->2*(s.length:Int)<=max 0 (1114113-a)
 | [],a,_=>by simp;omega
 | r::s,a,h=>by
  rw[cI]at h
  have:=GF h.2;have h1:=h.1;simp only[List.length_cons];omega
theorem eW {s:List Rg}(h:aO (-2) s=true):s.length<=557057:=by
 have:=GF h;omega
end
end Cae
namespace Go.Vc
open Go.RowKit
section
variable {P:Program} {n:Nat} {ro:Option Nat} {ds:List Deferred}
def Bi (ro:Option Nat):Fence:={ Fence.wide with round:=ro }
theorem Wu {f:FuncId}{args:Array Value}{w:World}{R:Ending->World->Prop}(h:Calls P f args w R):CallsIn (Bi ro) n P f args w R:=(callsIn_wide (n:=n)).2 h
def LC (ds:List Deferred)(Q:EP):Exit->Act->World->Prop:=λe a w=>a.defers=ds/\Q e a.tmps.toList w
theorem iZ (t:Fr)(d:Option Tmp)(v:Value):(Act.mk t.toArray ds).put d v=⟨(put t d v).toArray,ds⟩:=by
 cases d<;>simp[Act.put,put]
theorem np {a:Act}(h:a.defers=ds):a=⟨a.tmps.toList.toArray,ds⟩:=by cases a;simp_all
theorem Lg {o:Oper}{t:Fr}{K:Value->World->Prop}{Q:EP}{r:Result Next}{next:Act->World->Prop}
  (hn:∀v w',K v w'->next ⟨(put t o.dst v).toArray,ds⟩ w') (h:tR P t K Q r):o.uponIn (Bi ro) n P ⟨t.toArray,ds⟩ next (LC ds Q) r:=by
 cases r with
 | ok x w' =>
  cases x<;>simp only[tR]at h<;>simp only[Oper.uponIn]
  case value v=>rw[iZ];exact hn _ _ h
  case skip=>rw[iZ];exact hn _ _ h
  case enter f args =>
   refine⟨(λhh=>by cases hh),Wu (h.mono λe bQ he=>?_)⟩;cases e with
   | returned v=>dsimp only at he ⊢;rw[iZ];exact hn _ _ he
   | panicked c=>exact⟨rfl,by simpa using he⟩
   | outgrown=>exact he.elim
 | halt x w' =>
  cases x<;>simp only[tR]at h<;>simp only[Oper.uponIn];exact⟨rfl,by simpa using h⟩
def mZ (o:Oper):Bool:=match o.op with|.defer _=>false|_=>true
theorem O0 {o:Oper}(h:mZ o=true):∀c,o.op≠.defer c:=λc e=>by simp[mZ,e]at h
theorem GS {o:Oper}(h:mZ o=true)(ro:Option Nat)(ρ:Operand->Value):Oper.semAt ro ρ o=execOp ρ o:=Oper.semAt_eq ro ρ o (O0 h)
theorem M9 {o:Oper}(hd:mZ o=true){t:Fr}{w:World}{K:Value->World->Prop}{Q:EP}{next:Act->World->Prop}
  (hn:∀v w',K v w'->next ⟨(put t o.dst v).toArray,ds⟩ w') (h:cJ P o t w K Q .mk):o.wpIn (Bi ro) n P ⟨t.toArray,ds⟩ w next (LC ds Q):=by
 have h':=I5 h;unfold runK at h';refine⟨λ_ _=>trivial,?_⟩;rw[GS hd,ny];exact Lg hn h'
theorem nZ {ops:List Oper}{K:Fr->World->Prop}{Q:EP}{next:Exit->Act->World->Prop}(rest:List Oper)(hn:∀t w,K t w->wpListIn (Bi ro) n P ops.toArray next rest ⟨t.toArray,ds⟩ w)(hq:∀e a w,LC ds Q e a w->next e a w) :
  ∀(l:List Oper),l.all mZ=true->∀(t:Fr) (w:World),aV P ops K Q l t w .mk->wpListIn (Bi ro) n P ops.toArray next (l++rest) ⟨t.toArray,ds⟩ w
 | [],_,t,w,h=>hn t w h
 | o::r,hd,t,w,h=>by
  simp only[List.all_cons,Bool.and_eq_true]at hd;rw[List.cons_append];have step:∀(t':Fr),Region.wanted o (yielded ops.toArray t'.toArray)=true->cJ P o t' w (λv w'=>aV P ops K Q r (put t' o.dst v) w' .mk) Q .mk->wpListIn (Bi ro) n P ops.toArray next (o::(r++rest)) ⟨t'.toArray,ds⟩ w:=λt' hw h'=>by
   unfold wpListIn;rw[if_pos hw]
   have:=M9 (ro:=ro) (n:=n) (ds:=ds) hd.1 (next:=wpListIn (Bi ro) n P ops.toArray next (r++rest)) (λv w' hk=>nZ rest hn hq r hd.2 _ w' hk) h'
   refine⟨this.1,?_⟩;have h2:=this.2;generalize (Oper.semAt _ _ o).run P w=res at h2 ⊢
   cases res with
   | ok x w' =>
    cases x<;>simp only[Oper.uponIn]at h2 ⊢<;>first|exact h2|skip
    ·exact⟨h2.1,h2.2.mono λe bQ he=>by
      cases e with
      | returned v=>exact he
      | panicked c=>exact hq _ _ _ he
      | outgrown=>obtain⟨a₀,w₀,hh⟩:=he;exact⟨a₀,w₀,hq _ _ _ hh⟩⟩
    exact⟨h2.1,h2.2.mono λe bQ he=>by
     cases e with
     | returned v=>exact he
     | panicked c=>exact hq _ _ _ he
     | outgrown=>obtain⟨a₀,w₀,hh⟩:=he;exact⟨a₀,w₀,hq _ _ _ hh⟩⟩
   | halt x w'=>cases x<;>simp only[Oper.uponIn]at h2 ⊢<;>first|exact h2|exact hq _ _ _ h2
  have skip:∀(t':Fr),Region.wanted o (yielded ops.toArray t'.toArray)=false->aV P ops K Q r (put t' o.dst undef) w .mk->wpListIn (Bi ro) n P ops.toArray next (o::(r++rest)) ⟨t'.toArray,ds⟩ w:=λt' hw h'=>by
   unfold wpListIn;rw[if_neg (by rw[hw];simp),iZ];exact⟨λ_ _=>trivial,nZ rest hn hq r hd.2 _ w h'⟩
  simp only[aV]at h;split at h
  ·rename_i hg;exact step t (by simp[Region.wanted,hg]) h
  rename_i j want hg;have oB:∀t':Fr,Region.wanted o (yielded ops.toArray t'.toArray)=(yielded ops.toArray t'.toArray j == some want):=λt'=>by simp only[Region.wanted,hg]
  unfold iq at h;split at h
  ·rename_i hs;exact skip t (by rw[oB,gb,hs];rfl) h
  rename_i s hs;split at h
  ·rename_i b hb;have aq:s<t.length:=by
    rcases Nat.lt_or_ge s t.length with h'|h'
    ·exact h'
    simp[List.getD_eq_getElem?_getD,List.getElem?_eq_none h',undef]at hb
   have hv:t[s]?=some (.bool b):=by
    rw[List.getD_eq_getElem?_getD]at hb;rw[List.getElem?_eq_getElem aq]at hb ⊢
    simpa using hb
   have hy:yielded ops.toArray t.toArray j=some b:=by rw[gb,hs];simp[hv]
   have same:=lI t s aq;rw[hb]at same;by_cases hbw:b=want
   ·subst hbw;have h1:=h.1 rfl;rw[same]at h1;exact step t (by rw[oB,hy];simp) h1
   have hbn:b=!want:=by cases b<;>cases want<;>simp_all
   have h2:=h.2 hbn;rw[<-hbn,same]at h2;exact skip t (by rw[oB,hy];simpa using hbw) h2
  rename_i hb;refine skip t ?_ h;rw[oB,gb,hs];simp only[Option.bind_some];cases hv:t[s]? with
  | none=>rfl
  | some v =>
   have:t.getD s undef=v:=by rw[List.getD_eq_getElem?_getD,hv];rfl
   rw[this]at hb;cases v<;>simp at hb ⊢
def jy:Code->Bool
 | .skip|.exit _|.ret|.label _|.goto _=>true
 | .region _ ops false=>ops.toList.all mZ
 | .seq a b=>jy a && jy b
 | .cond _ a b=>jy a && jy b
 | .block _ c=>jy c
 | _=>false
theorem mf:∀(c:Code),jy c=true->∀(Q:EP) (t:Fr) (w:World),vc P c Q t w .mk->c.wpIn (Bi ro) n P (LC ds Q) ⟨t.toArray,ds⟩ w
 | .skip,_,_,_,_,h=>wpIn_skip ⟨rfl,by simpa[vc] using h⟩
 | .region _ ops false,hp,Q,t,w,h=>by
  refine wpIn_region_list ?_
  have:=nZ (P:=P) (n:=n) (ro:=ro) (ds:=ds) (ops:=ops.toList) (K:=Q .normal) (Q:=Q) (next:=LC ds Q) [] (λt w hk=>⟨rfl,by simpa using hk⟩) (λ_ _ _ h=>h) ops.toList hp t w h
  simpa using this
 | .seq a b,hp,Q,t,w,h=>by
  simp only[jy,Bool.and_eq_true]at hp;refine wpIn_seq (Code.wpIn_mono ?_ (mf a hp.1 _ t w h));rintro e a' w' ⟨hd,hh⟩;cases e<;>simp only[uj]at hh<;>simp only[Exit.then]<;>first|exact⟨hd,hh⟩|skip
  have:=mf b hp.2 Q _ w' hh;rw[np hd];exact this
 | .cond c a b,hp,Q,t,w,h=>by
  simp only[jy,Bool.and_eq_true]at hp;simp only[vc]at h;unfold nt at h;split at h
  ·rename_i x hx;exact wpIn_cond_split (t:=x) (by rw[ny];exact hx) (λID=>mf a hp.1 Q t w (h.1 ID)) (λID=>mf b hp.2 Q t w (h.2 ID))
  exact h.elim
 | .block i c,hp,Q,t,w,h=>by
  refine wpIn_block (Code.wpIn_mono ?_ (mf c hp _ t w h));rintro e a' w' ⟨hd,hh⟩;cases e<;>simp only[kN]at hh<;>simp only[Exit.inBlock]<;>first|exact⟨hd,hh⟩|skip
  split at hh
  ·rename_i e;simp only[e,if_true];exact⟨hd,hh⟩
  rename_i e;simp only[e,if_false];exact⟨hd,hh⟩
 | .exit i,_,_,_,_,h=>wpIn_exit ⟨rfl,by simpa[vc] using h⟩
 | .ret,_,_,_,_,h=>wpIn_ret ⟨rfl,by simpa[vc] using h⟩
 | .label _,_,_,_,_,h=>wpIn_label ⟨rfl,by simpa[vc] using h⟩
 | .goto l,_,_,_,_,h=>wpIn_goto ⟨rfl,by simpa[vc] using h⟩
 | .region _ _ true,hp,_,_,_,_=>by cases hp
 | .loop _,hp,_,_,_,_=>by cases hp
 | .scope _,hp,_,_,_,_=>by cases hp
 | .rangeFunc ..,hp,_,_,_,_=>by cases hp
 | .refuse _,hp,_,_,_,_=>by cases hp
def DR {α:Type}(Z:Nat->Prop)(I:List α->World->Prop)(Ix:Code->List α->World->Prop)(xs:List α)(W:World):Exit->Act->World->Prop
 | .normal,_,W'=>(∀k,Z k->W'.heap[k]?=W.heap[k]?)/\I xs W'
 | .ret,_,W'=>(∀k,Z k->W'.heap[k]?=W.heap[k]?)/\Ix .ret xs W'
 | .exit id,_,W'=>(∀k,Z k->W'.heap[k]?=W.heap[k]?)/\Ix (.exit id) xs W'
 | .goto t,_,W'=>(∀k,Z k->W'.heap[k]?=W.heap[k]?)/\Ix (.goto t) xs W'
 | _,_,_=>False
theorem Aj {X:Nat->Prop}(W:World)(l:Nat)(o:Obj)(hX:X l):Kept X W (W.putObj l o) :=
 ⟨rfl,rfl,rfl,by simp,λk _ hk=>World.putObj_heap_other (λe=>hk (by rw[e];exact hX))⟩
def Iter (P:Program)(n:Nat){α:Type}(gf:Nat)(lb:Array Value)(encs:α->Array Value)(B Z:Nat->Prop)(S Sp:List α->Prop)(A:List α->α->Prop)(w:World):Prop :=
 ∀(l:Nat) (J Jx:List α->World->Prop) (W:World),(∀k,k<w.heap.size->W.heap[k]?=w.heap[k]?)->w.heap.size<=W.heap.size->(∀s A A',J s A->Kept B A A'->J s A')->(∀s A A',Jx s A->Kept B A A'->Jx s A') ->
  (∀pre x W1,J pre W1->A pre x->YieldAt Fence.wide n P l (encs x) W1 λe W' =>
   (e=.returned (.bool true)/\J (pre++[x]) W'/\(∀k,Z k->W'.heap[k]?=W1.heap[k]?)/\W1.heap.size<=W'.heap.size)\/(e=.returned (.bool false)/\Jx (pre++[x]) W')) ->
  J [] W->CallsIn Fence.wide n P gf (#[.func (.yield l) #[] #[]]++lb) W λe W'=>(∃v,e=.returned v)/\((∃xs,S xs/\J xs W')\/(∃pre,Sp pre/\Jx pre W'))
theorem aIB {α:Type}{g:Operand}{ps:Array Tmp}{assign body:Code}{Q:Exit->Act->World->Prop}{a:Act}{w:World}{gf:Nat}{lb:Array Value}(hg:a.eval g=.func (.func gf) #[] lb)(eg:∀args w,(callFunc gf args).run P w=.ok (.enter gf args) w)
  {encs:α->Array Value} (uR:∀x,(encs x).size=ps.size) {B Z:Nat->Prop} {S Sp:List α->Prop} {A:List α->α->Prop} (hB:∀k,B k->k<w.heap.size) (hZ:∀k,Z k->k<w.heap.size) (aHR:Iter P (n-1) gf lb encs B Z S Sp A w)
  (I:List α->World->Prop) (Ix:Code->List α->World->Prop) (hI:∀s W W',I s W->Kept (λk=>B k\/k=w.heap.size\/k=w.heap.size+1) W W'->I s W') (hIx:∀c s W W',Ix c s W->Kept (λk=>B k\/k=w.heap.size\/k=w.heap.size+1) W W'->Ix c s W') (h0:I [] w) (a₁:α->Act)
  (Hh:∀(x:α) (W:World) (K:Act->World->Prop),K (a₁ x) W ->
   assign.wpIn (Bi (some (w.heap.size+1))) (n-1) P (Exit.then K (λ_ _ _=>False)) { tmps:=(ps.zip (encs x)).foldl (λt (p,v)=>t.setIfInBounds p v) a.tmps,defers:=[] } W)
  (td:∀(pre:List α) (x:α) (W:World),I pre W->A pre x->w.heap.size+1<W.heap.size->body.wpIn (Bi (some (w.heap.size+1))) (n-1) P (λe a' W'=>W.heap.size<=W'.heap.size/\DR (λk=>Z k\/k=w.heap.size\/k=w.heap.size+1) I Ix (pre++[x]) W e a' W') (a₁ x) W)
  (jG:∀(xs:List α) (W:World),S xs->I xs W->W.heap[w.heap.size]?=some (.deferred (some []))->Q .normal { a with defers:={ target:=.collected w.heap.size,args:=#[] }::a.defers } W)
  (Yj:∀(c:Code) (pre:List α) (W:World),Sp pre->Ix c pre W->W.heap[w.heap.size]?=some (.deferred (some []))->c.wpIn Fence.wide n P Q { a with defers:={ target:=.collected w.heap.size,args:=#[] }::a.defers } W) :
  (Code.rangeFunc g ps assign body).wpIn Fence.wide n P Q a w:=by
 refine wpIn_rangeFunc ?_;intro fn _;have CC:∃rec:LoopState->Option Code->Loop,rec=λst pe=>{ state:=st,pending:=pe,fn,tmps:=a.tmps,params:=ps,assign,body,defers:=w.heap.size }:=⟨_,rfl⟩;obtain⟨rec,CC⟩:=CC;have hg1:∃W1,(w.alloc (.deferred (some []))).alloc (.loop (rec .ready none))=W1:=⟨_,rfl⟩;obtain⟨W1,hW1⟩:=hg1;have qw:W1.heap.size=w.heap.size+1+1:=by rw[<-hW1];simp
 have hL1:W1.heap[w.heap.size+1]?=some (.loop (rec .ready none)):=by
  rw[<-hW1]
  have:=World.alloc_heap_new (w.alloc (.deferred (some []))) (.loop (rec .ready none));rwa [World.size_alloc]at this
 have hK1:W1.heap[w.heap.size]?=some (.deferred (some [])):=by
  rw[<-hW1];exact(Below.heap_alloc _ _ _ (by simp)).trans (World.alloc_heap_new w _)
 have QU:∀k,k<w.heap.size->W1.heap[k]?=w.heap[k]?:=λk hk=>by
  rw[<-hW1];exact(Below.heap_alloc _ _ _ (by simp;omega)).trans (Below.heap_alloc _ _ _ hk)
 have QV:Kept (λk=>B k\/k=w.heap.size\/k=w.heap.size+1) w W1:=⟨by rw[<-hW1];rfl,by rw[<-hW1];rfl,by rw[<-hW1];rfl,by omega,λk hk _=>QU k hk⟩;have Bp:∀{W:World} (o:Obj),Kept (λk=>B k\/k=w.heap.size\/k=w.heap.size+1) W (W.putObj (w.heap.size+1) o):=λo=>Aj _ _ _ (.inr (.inr rfl));have cf:∀{k:Nat},B k->k≠w.heap.size/\k≠w.heap.size+1:=λ{k} hk=>by have:=hB k hk;omega
 refine⟨w.heap.size+1,[{ target:=.collected w.heap.size,args:=#[] }],W1,{ target:=.fn (.func gf) lb,args:=#[.func (.yield (w.heap.size+1)) #[] #[]] },W1,gf,
  #[.func (.yield (w.heap.size+1)) #[] #[]]++lb,W1,?_,?_,λ_ _=>trivial,?_,(λhh=>by cases hh),?_⟩
 ·rw[<-hW1,CC];exact run_enterLoop_outer _ _ _ _ _
 ·simp only[resolve,hg];simp[go_sem]
 ·simp[invoke,go_sem,eg]
 refine(aHR (w.heap.size+1)
  (λpre W=>I pre W/\W.heap[w.heap.size+1]?=some (.loop (rec .ready none))/\W.heap[w.heap.size]?=some (.deferred (some [])))
  (λpre W=>∃c,Ix c pre W/\W.heap[w.heap.size+1]?=some (.loop (rec .done (some c)))/\W.heap[w.heap.size]?=some (.deferred (some [])))
  W1 QU (by omega) ?_ ?_ ?_ ⟨hI _ _ _ h0 QV,hL1,hK1⟩).mono ?_
 ·rintro s A A' ⟨h1,h2,h3⟩ hk;exact⟨hI _ _ _ h1 (hk.weaken (λi _ h=>.inl h)),(hk.block _ (Array.getElem?_eq_some_iff.1 h2).1 (λh=>(cf h).2 rfl)).trans h2,(hk.block _ (Array.getElem?_eq_some_iff.1 h3).1 (λh=>(cf h).1 rfl)).trans h3⟩
 ·rintro s A A' ⟨c,h1,h2,h3⟩ hk;exact⟨c,hIx _ _ _ _ h1 (hk.weaken (λi _ h=>.inl h)),(hk.block _ (Array.getElem?_eq_some_iff.1 h2).1 (λh=>(cf h).2 rfl)).trans h2,(hk.block _ (Array.getElem?_eq_some_iff.1 h3).1 (λh=>(cf h).1 rfl)).trans h3⟩
 ·rintro pre x W ⟨hi,hl,hk⟩ hlen;have aq:w.heap.size+1<W.heap.size:=(Array.getElem?_eq_some_iff.1 hl).1;have hy:=run_yield (P:=P) (args:=encs x) hl (by rw[CC];exact uR x);rw[CC]at hy;refine⟨fn,_,assign,body,hy,roundIn_of_wpIn trivial (Hh x W _ ⟨_,run_beginRound hl (by rw[CC]),?_⟩)⟩;have hgV:∃V,W.putObj (w.heap.size+1) (.loop { rec .ready none with state:=.busy })=V:=⟨_,rfl⟩;obtain⟨V,hV⟩:=hgV;have hVl:V.heap[w.heap.size+1]?=some (.loop { rec .ready none with state:=.busy }):=by rw[<-hV];exact World.putObj_heap_same aq
  have hVk:V.heap[w.heap.size]?=some (.deferred (some [])):=by rw[<-hV];exact(World.putObj_heap_other (by omega)).trans hk
  have hVs:V.heap.size=W.heap.size:=by rw[<-hV];simp
  have hVo:∀k,k≠w.heap.size+1->V.heap[k]?=W.heap[k]?:=λk h=>by rw[<-hV];exact World.putObj_heap_other h
  rw[hV];refine wpIn_mono (td pre x V (by rw[<-hV];exact hI _ _ _ hi (Bp _)) hlen (by omega)) ?_;have fin:∀(jump:Option Code) (W3:World),V.heap.size<=W3.heap.size->(∀k,Z k\/k=w.heap.size\/k=w.heap.size+1->W3.heap[k]?=V.heap[k]?) ->
    (Instr.endRound (w.heap.size+1) jump).run P W3=.ok (.bool jump.isNone) (W3.putObj (w.heap.size+1) (.loop (rec (if jump.isNone then .ready else .done) jump))) /\
    (W3.putObj (w.heap.size+1) (.loop (rec (if jump.isNone then .ready else .done) jump))).heap[w.heap.size+1]?=some (.loop (rec (if jump.isNone then .ready else .done) jump)) /\
    (W3.putObj (w.heap.size+1) (.loop (rec (if jump.isNone then .ready else .done) jump))).heap[w.heap.size]?=some (.deferred (some [])) /\
    ∀k,Z k->(W3.putObj (w.heap.size+1) (.loop (rec (if jump.isNone then .ready else .done) jump))).heap[k]?=W.heap[k]?:=λjump W3 mV Ks=>by
   have QX:=(Ks _ (.inr (.inr rfl))).trans hVl;have hr:=run_endRound (P:=P) jump QX;rw[CC]at hr ⊢
   refine⟨hr,World.putObj_heap_same (by omega),(World.putObj_heap_other (by omega)).trans ((Ks _ (.inr (.inl rfl))).trans hVk),λk hk=>?_⟩
   have:=hZ k hk;exact(World.putObj_heap_other (by omega)).trans ((Ks k (.inl hk)).trans (hVo k (by omega)))
  rintro e a3 W3 ⟨mV,hp⟩;cases e with
  | normal =>
   obtain⟨Ks,hi3⟩:=hp;obtain⟨hr,EB,hk4,OG⟩:=fin none W3 mV Ks;exact⟨_,_,hr,.inl ⟨rfl,⟨hI _ _ _ hi3 (Bp _),EB,hk4⟩,OG,by simp;omega⟩⟩
  | ret =>
   obtain⟨Ks,hi3⟩:=hp;obtain⟨hr,EB,hk4,OG⟩:=fin (some .ret) W3 mV Ks;exact⟨_,_,hr,.inr ⟨rfl,.ret,hIx _ _ _ _ hi3 (Bp _),EB,hk4⟩⟩
  | exit id =>
   obtain⟨Ks,hi3⟩:=hp;obtain⟨hr,EB,hk4,OG⟩:=fin (some (.exit id)) W3 mV Ks;exact⟨_,_,hr,.inr ⟨rfl,.exit id,hIx _ _ _ _ hi3 (Bp _),EB,hk4⟩⟩
  | goto t =>
   obtain⟨Ks,hi3⟩:=hp;obtain⟨hr,EB,hk4,OG⟩:=fin (some (.goto t)) W3 mV Ks;exact⟨_,_,hr,.inr ⟨rfl,.goto t,hIx _ _ _ _ hi3 (Bp _),EB,hk4⟩⟩
  | panic ch=>exact hp.elim
  | outgrown=>exact hp.elim
 rintro e W2 ⟨⟨v,rfl⟩,(⟨xs,hS,hi,hl,hk⟩|⟨pre,hSp,c,hi,hl,hk⟩)⟩
 ·have hr:=run_endLoop (P:=P) hl (by rw[CC];simp);rw[CC]at hr;exact⟨none,_,hr,jG xs _ hS (hI _ _ _ hi (Bp _)) ((World.putObj_heap_other (by omega)).trans hk)⟩
 have hr:=run_endLoop (P:=P) hl (by rw[CC];simp);rw[CC]at hr;exact⟨some c,_,hr,Yj c pre _ hSp (hIx _ _ _ _ hi (Bp _)) ((World.putObj_heap_other (by omega)).trans hk)⟩
theorem Qy {c:Code}(hp:jy c=true){Q:Exit->Act->World->Prop}{t:Fr}{w:World}(h:vc P c (λe t w=>Q e ⟨t.toArray,ds⟩ w) t w .mk):c.wpIn (Bi ro) n P Q ⟨t.toArray,ds⟩ w :=
 wpIn_mono (mf c hp _ t w h) (by rintro e a w' ⟨hd,hh⟩;rw[np hd];exact hh)
theorem nW {a b:Code}(hp:jy a=true){Q:Exit->Act->World->Prop}{t:Fr}{w:World}(h:vc P a (uj (λt w=>b.wpIn (Bi ro) n P Q ⟨t.toArray,ds⟩ w) (λe t w=>Q e ⟨t.toArray,ds⟩ w) .mk) t w .mk):(Code.seq a b).wpIn (Bi ro) n P Q ⟨t.toArray,ds⟩ w:=by
 refine wpIn_seq (wpIn_mono (mf a hp _ t w h) ?_);rintro e a' w' ⟨hd,hh⟩;cases e<;>simp only[uj]at hh<;>simp only[Exit.then]<;>(rw[np hd];exact hh)
theorem Uf {m m' l:Nat}{f:FuncId}{tmps:Array Value}{assign body:Code}{w:World}{R:Ending->World->Prop}(h:RoundIn Fence.wide m P l f tmps assign body w R):RoundIn (Bi none) m' P l f tmps assign body w R :=
 ⟨trivial,λc cs _=>h.2 c cs (room_wide _)⟩
theorem AA {id l m:Nat}{l1 l2:List Oper}{o:Oper}{x:Operand}{args:Array Operand}{ats:Array TypeId}{Q:Exit->Act->World->Prop}{t:Fr}{w:World}(JT:l1.all mZ=true)(hp2:l2.all mZ=true)(ho:o.op=.call { callee:=.value x,args,argTypes:=ats })(hg:o.guard=none)
  (h:aV P (l1++o::l2) (λt w=>ev t x=.func (.yield l) #[] #[]/\∃R,YieldAt Fence.wide m P l (args.toList.map (ev t)).toArray w R/\∀e w',R e w'->∃b,e=.returned (.bool b)/\aV P (l1++o::l2) (λt w=>Q .normal ⟨t.toArray,ds⟩ w) (λe t w=>Q e ⟨t.toArray,ds⟩ w) l2 (put t o.dst (.bool b)) w' .mk) (λe t w=>Q e ⟨t.toArray,ds⟩ w) l1 t w .mk) :
  (Code.region id (l1++o::l2).toArray false).wpIn (Bi none) n P Q ⟨t.toArray,ds⟩ w:=by
 refine wpIn_region_list ?_;rw[List.toList_toArray];refine nZ (ro:=none) (o::l2) ?_ (λe a w hh=>by rw[np hh.1];exact hh.2) l1 JT t w h;rintro t1 w1 ⟨hx,R,⟨fn,tmps,assign,body,hy,hR⟩,hk⟩;unfold wpListIn;rw[if_pos (by simp[Region.wanted,hg])];refine⟨λ_ _=>trivial,?_⟩;rw[GS (by simp[mZ,ho]),ny];have he:(execOp (ev t1) o).run P w1=.ok (.round l fn tmps assign body) w1:=by
  unfold execOp;simp only[ho];have hy':(Instr.yield l (args.map (ev t1))).run P w1=.ok (.round l fn tmps assign body) w1:=by rw[show args.map (ev t1)=(args.toList.map (ev t1)).toArray by rw[<-Array.toList_map]];exact hy
  simp[resolve,hx,invoke,go_sem,hy']
 rw[he];refine⟨(λhh=>by cases hh),(Uf hR).mono λe w' hr=>?_⟩;obtain⟨b,rfl,hb⟩:=hk e w' hr
 show wpListIn _ _ _ _ _ _ _ _
 rw[iZ]
 have:=nZ (P:=P) (n:=n) (ro:=none) (ds:=ds) (ops:=l1++o::l2) (next:=Q) [] (λt w hh=>hh) (λe a w hh=>by rw[np hh.1];exact hh.2) l2 hp2 _ w' hb
 simpa using this
theorem aIh {c:Code}{Q:Exit->Act->World->Prop}{t:Fr}{w:World}(M:List Nat)(I:(Nat->Value)->World->Prop)(μ:(Nat->Value)->World->Nat)(h0:I (at_ t) w)
  (hr:∀z w',I z w'->c.wpIn (Bi ro) n P (λe a' bQ=>match e with|.normal=>a'.defers=ds/\a'.tmps.toList=ov t M (at_ a'.tmps.toList)/\I (at_ a'.tmps.toList) bQ/\μ (at_ a'.tmps.toList) bQ<μ z w'|e=>Q e a' bQ) ⟨(ov t M z).toArray,ds⟩ w'):(Code.loop c).wpIn (Bi ro) n P Q ⟨t.toArray,ds⟩ w:=by
 refine wpIn_loop (λa w'=>a.defers=ds/\a.tmps.toList=ov t M (at_ a.tmps.toList)/\I (at_ a.tmps.toList) w') (λa w'=>μ (at_ a.tmps.toList) w') ⟨rfl,by simp[aFR],by simpa using h0⟩ ?_;rintro a w' ⟨hd,ht,hI⟩;have h1:=hr _ w' hI;rw[<-ht]at h1;rw[np hd];refine wpIn_mono h1 ?_;intro e a' bQ hh;cases e<;>simp only[Exit.then]<;>first|exact hh|skip
 obtain⟨hd',h1,h2,h3⟩:=hh;exact⟨⟨hd',h1,h2⟩,by simpa using h3⟩
theorem aId {fn:Func}{rs:List ResultVar}{R:VK}(iW:fn.results=rs.toArray){t:Fr}{w:World}(h:U5 P rs R .mk .ret t w):bodyPostM Fence.wide n P fn (λe w'=>∃v,e=.returned v/\R v w') .ret ⟨t.toArray,[]⟩ w:=by
 obtain⟨vs,hv,hk⟩:=dI fn rs iW t _ h;exact⟨_,hv,_,rfl,hk⟩
theorem aIe {fn:Func}{rs:List ResultVar}{R:VK}(iW:fn.results=rs.toArray){t:Fr}{w:World}{D:Nat}(hD:w.heap[D]?=some (.deferred (some [])))(h:U5 P rs R .mk .ret t (w.putObj D (.deferred none))):bodyPostM Fence.wide n P fn (λe w'=>∃v,e=.returned v/\R v w') .ret ⟨t.toArray,[{ target:=.collected D,args:=#[] }]⟩ w:=by
 obtain⟨vs,hv,hk⟩:=dI fn rs iW t _ h;exact⟨by simp,.inl ⟨_,_,rfl,run_takeDeferred hD,_,hv,_,rfl,hk⟩⟩
theorem Sf {f:FuncId}{fn:Func}{c:Code}{args:List Value}{w:World}{R:VK}(hf:P.funcs[f]?=some fn)(hb:fn.body=some c)(hn:(fn.name == "runtime.NumGoroutine")=false)
  (h:c.wpIn (Bi none) 0 P (bodyPostM Fence.wide 0 P fn (λe w'=>∃v,e=.returned v/\R v w')) ⟨(yj args fn.ntmps).toArray,[]⟩ w):aw P f args w R:=by
 refine⟨cC hf (by simp[hb]) hn,(callsIn_wide (n:=0)).1 (callsIn_of_wp_marks hf hb trivial ?_ rfl)⟩;have e:(args.toArray++Array.replicate (fn.ntmps-args.toArray.size) undef)=(yj args fn.ntmps).toArray:=by simp[yj]
 rw[e];exact h
theorem XJ {F:Fence}{c:Operand}{x y:Code}{Q:Exit->Act->World->Prop}{t:Fr}{w:World}(hc:ev t c=.bool false)(h:y.wpIn F n P Q ⟨t.toArray,ds⟩ w):(Code.cond c x y).wpIn F n P Q ⟨t.toArray,ds⟩ w :=
 wpIn_cond_false (by rw[ny];exact hc) h
theorem aE0 {F:Fence}{c:Operand}{x y:Code}{Q:Exit->Act->World->Prop}{t:Fr}{w:World}(hc:ev t c=.bool true)(h:x.wpIn F n P Q ⟨t.toArray,ds⟩ w):(Code.cond c x y).wpIn F n P Q ⟨t.toArray,ds⟩ w :=
 wpIn_cond_true (by rw[ny];exact hc) h
theorem aIO {K:Act->World->Prop}{Q:Exit->Act->World->Prop}{a:Act}{w:World}:Exit.then K Q .normal a w=K a w:=(rfl)
theorem aIP {K:Act->World->Prop}{Q:Exit->Act->World->Prop}{a:Act}{w:World}:Exit.then K Q .ret a w=Q .ret a w:=(rfl)
theorem aIN {K:Act->World->Prop}{Q:Exit->Act->World->Prop}{a:Act}{w:World}(i:Nat):Exit.then K Q (.exit i) a w=Q (.exit i) a w:=(rfl)
theorem T6 {i:Nat}{Q:Exit->Act->World->Prop}{a:Act}{w:World}:Exit.inBlock i Q .normal a w=Q .normal a w:=(rfl)
theorem T7 {i:Nat}{Q:Exit->Act->World->Prop}{a:Act}{w:World}:Exit.inBlock i Q .ret a w=Q .ret a w:=(rfl)
theorem T5 {i j:Nat}{Q:Exit->Act->World->Prop}{a:Act}{w:World}:Exit.inBlock i Q (.exit j) a w=if j=i then Q .normal a w else Q (.exit j) a w:=(rfl)
theorem aRQ (p:Tmp)(v:Value)(t:Fr):((#[p]:Array Tmp).zip #[v]).foldl (λt (x:Tmp×Value)=>t.setIfInBounds x.1 x.2) t.toArray=(t.set p v).toArray:=by
 simp
theorem aAr {α:Type}{Z:Nat->Prop}{I:List α->World->Prop}{Ix:Code->List α->World->Prop}{xs:List α}{W W':World}{a:Act}:DR Z I Ix xs W .normal a W'=((∀k,Z k->W'.heap[k]?=W.heap[k]?)/\I xs W'):=(rfl)
theorem aAs {α:Type}{Z:Nat->Prop}{I:List α->World->Prop}{Ix:Code->List α->World->Prop}{xs:List α}{W W':World}{a:Act}:DR Z I Ix xs W .ret a W'=((∀k,Z k->W'.heap[k]?=W.heap[k]?)/\Ix .ret xs W'):=(rfl)
theorem aAq {α:Type}{Z:Nat->Prop}{I:List α->World->Prop}{Ix:Code->List α->World->Prop}{xs:List α}{W W':World}{a:Act}(i:Nat):DR Z I Ix xs W (.exit i) a W'=((∀k,Z k->W'.heap[k]?=W.heap[k]?)/\Ix (.exit i) xs W'):=(rfl)
theorem aIC {α:Type}{g:Operand}{q:Tmp}{assign body:Code}{Q:Exit->Act->World->Prop}{t:Fr}{w:World}{gf:Nat}{lb:List Value}(hg:ev t g=.func (.func gf) #[] lb.toArray)(eg:∀args w,(callFunc gf args).run P w=.ok (.enter gf args) w)
  {en:α->Value} {B Z:Nat->Prop} {S Sp:List α->Prop} {A:List α->α->Prop} (hB:∀k,B k->k<w.heap.size) (hZ:∀k,Z k->k<w.heap.size) (aHR:Iter P (n-1) gf lb.toArray (λx=>#[en x]) B Z S Sp A w)
  (I:List α->World->Prop) (Ix:Code->List α->World->Prop) (hI:∀s W W',I s W->Kept (λk=>B k\/k=w.heap.size\/k=w.heap.size+1) W W'->I s W') (hIx:∀c s W W',Ix c s W->Kept (λk=>B k\/k=w.heap.size\/k=w.heap.size+1) W W'->Ix c s W') (h0:I [] w) (d:Nat)
  (pa:jy assign=true) (pb:jy body=true) (Hh:∀(x:α) (W:World),vc P assign (λe t' W'=>e=.normal/\t'=((t.set q (en x)).set d (en x))/\W'=W) (t.set q (en x)) W .mk)
  (td:∀(pre:List α) (x:α) (W:World),I pre W->A pre x->w.heap.size+1<W.heap.size->vc P body (λe t' W'=>W.heap.size<=W'.heap.size/\DR (λk=>Z k\/k=w.heap.size\/k=w.heap.size+1) I Ix (pre++[x]) W e ⟨t'.toArray,[]⟩ W') (((t.set q (en x)).set d (en x))) W .mk)
  (jG:∀(xs:List α) (W:World),S xs->I xs W->W.heap[w.heap.size]?=some (.deferred (some []))->Q .normal ⟨t.toArray,{ target:=.collected w.heap.size,args:=#[] }::ds⟩ W)
  (Yj:∀(c:Code) (pre:List α) (W:World),Sp pre->Ix c pre W->W.heap[w.heap.size]?=some (.deferred (some []))->c.wpIn (Bi none) n P Q ⟨t.toArray,{ target:=.collected w.heap.size,args:=#[] }::ds⟩ W) :
  (Code.rangeFunc g #[q] assign body).wpIn (Bi none) n P Q ⟨t.toArray,ds⟩ w:=by
 refine aIB (a:=⟨t.toArray,ds⟩) (by rw[ny];exact hg) eg (encs:=λx=>#[en x]) (λ_=>rfl) hB hZ aHR I Ix hI hIx h0 (λx=>⟨((t.set q (en x)).set d (en x)).toArray,[]⟩) ?_ ?_ jG Yj
 ·intro x W K hK;have e:(((#[q]:Array Tmp).zip #[en x]).foldl (λt (x:Tmp×Value)=>t.setIfInBounds x.1 x.2) t.toArray)=(t.set q (en x)).toArray:=aRQ q (en x) t
  show assign.wpIn _ _ _ _ ⟨(((#[q]:Array Tmp).zip #[en x]).foldl (λt (x:Tmp×Value)=>t.setIfInBounds x.1 x.2) t.toArray),[]⟩ _
  rw[e];refine wpIn_mono (mf (ds:=[]) assign pa _ _ _ (Hh x W)) ?_;rintro e a w' ⟨hd,rfl,ht,rfl⟩
  show K a w'
  rw[np hd,ht];exact hK
 intro pre x W h1 h2 h3;refine wpIn_mono (mf (ds:=[]) body pb _ _ _ (td pre x W h1 h2 h3)) ?_;rintro e a w' ⟨hd,h4,h5⟩;refine⟨h4,?_⟩;rw[np hd];exact h5
end
attribute [push_cast] aIO aIP aIN T6 T7 T5 aAr aAs aAq
end Go.Vc
namespace Go.Proofs.YtemjejfpadnljaaGreatDoor
open Go.Vc Go.Proofs Go.RowKit Cae
attribute [local irreducible] dN ae ak aY runK aw Sl Vc.Own vc aV cJ a7
theorem Ov (s:List UInt8)(c:UInt8)(w:World):aw Tryz.prog 183 [str s,str [c],.int .i64 0] w λr w'=>r=.func (.func 200) #[] #[.pointer (some ⟨w.heap.size+1,0,none⟩),.pointer (some ⟨w.heap.size,0,none⟩),.pointer (some ⟨w.heap.size+2,0,none⟩)]/\aN w' w.heap.size 9 [str s]/\aN w' (w.heap.size+1) 9 [str [c]]/\aN w' (w.heap.size+2) 3 [.int .i64 0]/\w'.heap.size=w.heap.size+3/\Below w.heap.size w w':=by
 refine aD Tryz.func183 rfl (by kernel_rfl) [6] rfl ?_;push_cast -dsimp(maxSteps:=9^7) [Tryz.ntmps183];refine aS ?_;intro w1 aU;have qw:=aU.size;push_cast -dsimp;refine aS ?_;intro w2 bP;have EE:=bP.size;push_cast -dsimp;refine aS ?_;intro w3 dA;have PA:=dA.size;push_cast -dsimp[qw,EE];have b1:=(aU.aL.below bP.below (by omega)).below dA.below (by omega);have b2:=bP.aL.below dA.below (by omega);have b3:=dA.aL;rw[qw]at b2;rw[EE,qw]at b3;exact⟨b1,b2,b3,by omega,(aU.below.trans (bP.below.mono (by omega))).trans (dA.below.mono (by omega))⟩
theorem MF (s:List UInt8)(c:UInt8)(w:World):aw Tryz.prog 165 [str s,str [c]] w λr w'=>r=.func (.func 200) #[] #[.pointer (some ⟨w.heap.size+1,0,none⟩),.pointer (some ⟨w.heap.size,0,none⟩),.pointer (some ⟨w.heap.size+2,0,none⟩)]/\aN w' w.heap.size 9 [str s]/\aN w' (w.heap.size+1) 9 [str [c]]/\aN w' (w.heap.size+2) 3 [.int .i64 0]/\w'.heap.size=w.heap.size+3/\Below w.heap.size w w':=by
 refine aD Tryz.func165 rfl (by kernel_rfl) [4] rfl ?_;push_cast -dsimp(maxSteps:=9^7) [Tryz.ntmps165];refine aA (Ov s c w) ?_;rintro _ w1 ⟨rfl,h⟩;push_cast -dsimp;exact h
def aAi (w:World)(b:Nat):Nat:=match w.cell? ⟨b,0,none⟩ with|some (.string s)=>s.size|_=>0
theorem Lf {w:World}{b:Nat}{s:List UInt8}(h:w.cell? ⟨b,0,none⟩=some (str s)):aAi w b=s.length:=by
 unfold aAi;rw[h];rfl
theorem aAN (s:List UInt8)(c:UInt8)(hs:s.length<=1000000000)(n bs bp bv:Nat)(yk:bs≠bp)(h2':bs≠bv)(w:World)(hS:aN w bs 9 [str s])(hP:aN w bp 9 [str [c]])(hV:aN w bv 3 [.int .i64 0]) :
  Iter Tryz.prog n 200 #[.pointer (some ⟨bp,0,none⟩),.pointer (some ⟨bs,0,none⟩),.pointer (some ⟨bv,0,none⟩)] (λx:List UInt8=>#[str x]) (λk=>k=bs) (λk=>k=bs\/k=bp\/k=bv) (λxs=>xs=splitB c s) (λpre=>pre <+: splitB c s) (λpre x=>pre++[x] <+: splitB c s) w:=by
 intro l J Jx W hW hWs hJ hJx hY h0;have hS:aN W bs 9 [str s]:=(hW _ hS.lt).trans hS;have hP:aN W bp 9 [str [c]]:=(hW _ hP.lt).trans hP;have hV:aN W bv 3 [.int .i64 0]:=(hW _ hV.lt).trans hV;refine callsIn_of_wp Tryz.func200 rfl trivial ?_ rfl;have c0:W.cell? ⟨bp,0,none⟩=some (str [c]):=hP.cell rfl;simp only[Tryz.ntmps200,List.size_toArray,List.length_cons,List.length_nil,Nat.reduceAdd,Nat.reduceSub,Array.replicate_succ,Array.replicate_zero,List.push_toArray,List.append_toArray,List.nil_append,List.cons_append];refine wpIn_seq (nW (ro:=none) (by rfl) ?_);push_cast -dsimp[c0];refine XJ (by rfl) (wpIn_skip ?_);push_cast -dsimp;refine wpIn_seq (wpIn_block (aIh (ro:=none) [7,8,29,30,31,32,33,34,35,36,37,38,39,40,41,42,43,44,45,46,47,48] (λz wx=>∃pre rest,pre++splitB c rest=splitB c s/\J pre wx/\aN wx bs 9 [str rest]/\aN wx bp 9 [str [c]]/\aN wx bv 3 [.int .i64 0]/\rest.length<=s.length) (λ_ wx=>aAi wx bs) ?_ ?_))
 ·exact⟨[],s,rfl,h0,hS,hP,hV,Nat.le_refl _⟩
 intro z wx hI;obtain⟨pre,rest,vC,hj,hS,hP,hV,Vh⟩:=hI;have hrd:=Lf (hS.cell (o:=0) rfl);have cS:wx.cell? ⟨bs,0,none⟩=some (str rest):=hS.cell rfl;have cP:wx.cell? ⟨bp,0,none⟩=some (str [c]):=hP.cell rfl;have cV:wx.cell? ⟨bv,0,none⟩=some (.int .i64 0):=hV.cell rfl;have Ek:=tB c rest;refine wpIn_block (nW (ro:=none) (by rfl) ?_);push_cast -dsimp[cS,cP];refine aA (aDl rest c wx) ?_;rintro _ w1 ⟨rfl,rfl⟩;rw[wF];push_cast -dsimp;refine nW (ro:=none) (by rfl) ?_;have fin:∀(x:Exit) (t:Fr) (w2:World),(x=.normal\/x=.ret)->((∃xs,xs=splitB c s/\J xs w2)\/∃pre,pre <+: splitB c s/\Jx pre w2)->bodyPost Tryz.prog Tryz.f200 (λe W'=>(∃v,e=.returned v)/\((∃xs,xs=splitB c s/\J xs W')\/∃pre,pre <+: splitB c s/\Jx pre W')) x ⟨t.toArray,[]⟩ w2:=λx t w2 hx hh=>by
  obtain⟨vs,h1,_⟩:=dI (P:=Tryz.prog) (w:=w2) Tryz.f200 [] (by rfl) t (λ_=>True) trivial;rcases hx with rfl|rfl<;>exact⟨rfl,_,h1,⟨_,rfl⟩,hh⟩
 cases hc:rest.contains c with
 | false =>
  simp only[Bool.false_eq_true,if_false];push_cast -dsimp;have uP:splitB c rest=[rest]:=by rw[Ek,hc,PK hc];rfl
  rw[uP]at vC;have hy:=hY pre rest w1 hj (by show pre++[rest] <+: _;rw[vC];exact List.prefix_refl _)
  refine AA (l:=l) (m:=n) (l1:=[_,_]) (l2:=[]) (by rfl) (by rfl) (by rfl) (by rfl) ?_;push_cast -dsimp[cS];refine⟨_,hy,?_⟩;rintro e w2 hr;rcases hr with ⟨rfl,h1,_,_⟩|⟨rfl,h1⟩
  ·refine⟨true,rfl,?_⟩;exact fin .normal _ _ (.inl rfl) (.inl ⟨_,vC,h1⟩)
  refine⟨false,rfl,?_⟩;exact fin .normal _ _ (.inl rfl) (.inr ⟨_,by rw[vC];exact List.prefix_refl _,h1⟩)
 | true =>
  simp only[if_true];have aq:=RZ hc;rw[hc,if_pos rfl]at Ek;have hg:∃k,(rest.takeWhile (· != c)).length=k:=⟨_,rfl⟩;obtain⟨k,hk⟩:=hg;have h1:rest.takeWhile (· != c)=rest.take k:=by rw[<-hk];exact(Au _ rest).symm
  have h2:(rest.dropWhile (· != c)).drop 1=rest.drop (k+1):=by rw[<-Gr,List.drop_drop,hk]
  rw[h1,h2]at Ek;rw[hk]at aq ⊢
  have eo:decide ((k:Int)<0)=false:=decide_eq_false (by omega);have hy:=hY pre (rest.take k) w1 hj (by show pre++[rest.take k] <+: _;rw[<-vC,Ek];exact⟨splitB c (rest.drop (k+1)),by simp⟩)
  push_cast -dsimp[eo];refine nW (ro:=none) (by rfl) ?_;push_cast -dsimp[cS,cV];have ek:((k:Int)+0).toNat=k:=by omega
  refine⟨by omega,by omega,?_⟩;rw[ek];refine wpIn_seq (wpIn_seq (AA (l:=l) (m:=n) (l1:=[_,_]) (l2:=[_]) (by rfl) (by rfl) (by rfl) (by rfl) ?_));push_cast -dsimp;refine⟨_,hy,?_⟩;rintro e w2 hr;have aHK:pre++[rest.take k] <+: splitB c s:=by rw[<-vC,Ek];exact⟨splitB c (rest.drop (k+1)),by simp⟩
  rcases hr with ⟨rfl,h1,hz,ED⟩|⟨rfl,h1⟩
  ·refine⟨true,rfl,?_⟩;have hS2:aN w2 bs 9 [str rest]:=(hz _ (.inl rfl)).trans hS;have hP2:aN w2 bp 9 [str [c]]:=(hz _ (.inr (.inl rfl))).trans hP;have qn:aN w2 bv 3 [.int .i64 0]:=(hz _ (.inr (.inr rfl))).trans hV;have dS:w2.cell? ⟨bs,0,none⟩=some (str rest):=hS2.cell rfl;have dP:w2.cell? ⟨bp,0,none⟩=some (str [c]):=hP2.cell rfl;push_cast -dsimp;refine XJ (by rfl) (wpIn_skip ?_);push_cast -dsimp;refine Qy (ro:=none) (by rfl) ?_;push_cast -dsimp[dS,dP];have ek1:((k:Int)+1).toNat=k+1:=by omega
   refine⟨by omega,by omega,?_⟩;rw[ek1];refine aC hS2 (by simp) rfl ?_;intro w3 dA;have hP3:=hP2.kept dA.kept (λh=>yk h.symm);have KW:=qn.kept dA.kept (λh=>h2' h.symm);have hS3:aN w3 bs 9 [str (rest.drop (k+1))]:=dA.aL;push_cast -dsimp;refine⟨⟨_,_,by rw[List.append_assoc,List.singleton_append,<-Ek];exact vC,hJ _ _ _ h1 dA.kept,hS3,hP3,KW,by rw[List.length_drop];omega⟩,?_⟩;rw[Lf (hS3.cell (o:=0) rfl),hrd,List.length_drop];omega
  refine⟨false,rfl,?_⟩;push_cast -dsimp;refine aE0 (by rfl) (wpIn_ret ?_);push_cast -dsimp;exact fin .ret _ _ (.inr rfl) (.inr ⟨_,aHK,h1⟩)
end Go.Proofs.YtemjejfpadnljaaGreatDoor
namespace Cae
theorem TH {n:Nat}(hn:n<4294967296):∃b r,iJ n=b::r/\nP b=true:=by
 cases h:iJ n with
 | nil=>exact absurd h (Ac n)
 | cons b r=>exact⟨b,r,rfl,gJ hn b (by rw[h];simp)⟩
end Cae
namespace Go.Proofs.YtemjejfpadnljaaGreatDoor
open Go.Vc Go.Proofs Go.RowKit Cae
attribute [local irreducible] dN ae ak aY runK aw Sl Vc.Own vc aV cJ a7
def mr (w:World):Prop:=(∃t p,w.cell? ⟨3,0,none⟩=some (.iface t p))/\(∃t p,w.cell? ⟨4,0,none⟩=some (.iface t p))
theorem mr.below {w w':World}(h:mr w)(hb:Below w.heap.size w w'):mr w':=by
 obtain⟨⟨t,p,h1⟩,⟨t',p',h2⟩⟩:=h;exact⟨⟨t,p,(hb.cell (World.block_lt_of_cell? w _ h1)).trans h1⟩,⟨t',p',(hb.cell (World.block_lt_of_cell? w _ h2)).trans h2⟩⟩
def PH:Go.Shelf.Ren:=⟨λ| 245=>186|279=>205|280=>206|281=>207|282=>208|316=>218|171=>220|205=>219|243=>224|246=>221|283=>225|284=>226|285=>227|286=>228|129=>162|317=>229|318=>230|319=>231|320=>232|337=>233|338=>234|n=>n,λ| 9=>9|3=>3|75=>34|167=>276|4=>4|168=>279|210=>288|37=>88|0=>0|127=>150|145=>299|143=>297|2=>2|171=>300|53=>244|5=>5|173=>302|212=>305|51=>168|20=>20|213=>306|46=>133|232=>307|233=>308|80=>94|n=>n,λ| 15=>3|16=>4|17=>7|18=>8|19=>9|n=>n⟩
theorem aAX:Go.Proofs.LaysC.n245 Tryz.prog PH:={
 mixed:=by kernel_rfl
 f129:=Tryz.func162.trans (congrArg some (by kernel_rfl))
 f171:=Tryz.func220.trans (congrArg some (by kernel_rfl))
 f205:=Tryz.func219.trans (congrArg some (by kernel_rfl))
 f243:=Tryz.func224.trans (congrArg some (by kernel_rfl))
 f245:=Tryz.func186.trans (congrArg some (by kernel_rfl))
 f246:=Tryz.func221.trans (congrArg some (by kernel_rfl))
 f279:=Tryz.func205.trans (congrArg some (by kernel_rfl))
 f280:=Tryz.func206.trans (congrArg some (by kernel_rfl))
 f281:=Tryz.func207.trans (congrArg some (by kernel_rfl))
 f282:=Tryz.func208.trans (congrArg some (by kernel_rfl))
 f283:=Tryz.func225.trans (congrArg some (by kernel_rfl))
 f284:=Tryz.func226.trans (congrArg some (by kernel_rfl))
 f285:=Tryz.func227.trans (congrArg some (by kernel_rfl))
 f286:=Tryz.func228.trans (congrArg some (by kernel_rfl))
 f316:=Tryz.func218.trans (congrArg some (by kernel_rfl))
 f317:=Tryz.func229.trans (congrArg some (by kernel_rfl))
 f318:=Tryz.func230.trans (congrArg some (by kernel_rfl))
 f319:=Tryz.func231.trans (congrArg some (by kernel_rfl))
 f320:=Tryz.func232.trans (congrArg some (by kernel_rfl))
 f337:=Tryz.func233.trans (congrArg some (by kernel_rfl))
 f338:=Tryz.func234.trans (congrArg some (by kernel_rfl))
 t0:=Tryz.underlying0
 a0:=Tryz.isAgg0
 z0:=Tryz.sizeOf0
 v0:=Tryz.zeroValue0
 t2:=Tryz.underlying2
 a2:=Tryz.isAgg2
 z2:=Tryz.sizeOf2
 v2:=Tryz.zeroValue2
 t3:=Tryz.underlying3
 a3:=Tryz.isAgg3
 z3:=Tryz.sizeOf3
 v3:=Tryz.zeroValue3
 t4:=Tryz.underlying4
 a4:=Tryz.isAgg4
 z4:=Tryz.sizeOf4
 v4:=Tryz.zeroValue4
 t5:=Tryz.underlying5
 a5:=Tryz.isAgg5
 z5:=Tryz.sizeOf5
 v5:=Tryz.zeroValue5
 t9:=Tryz.underlying9
 a9:=Tryz.isAgg9
 z9:=Tryz.sizeOf9
 v9:=Tryz.zeroValue9
 t20:=Tryz.underlying20
 a20:=Tryz.isAgg20
 z20:=Tryz.sizeOf20
 v20:=Tryz.zeroValue20
 t37:=Tryz.underlying88
 a37:=Tryz.isAgg88
 z37:=Tryz.sizeOf88
 v37:=Tryz.zeroValue88
 t46:=Tryz.underlying133
 a46:=Tryz.isAgg133
 z46:=Tryz.sizeOf133
 v46:=Tryz.zeroValue133
 t51:=Tryz.underlying168
 a51:=Tryz.isAgg168
 z51:=Tryz.sizeOf168
 v51:=Tryz.zeroValue168
 t53:=Tryz.underlying244
 a53:=Tryz.isAgg244
 z53:=Tryz.sizeOf244
 v53:=Tryz.zeroValue244
 t75:=Tryz.underlying34
 a75:=Tryz.isAgg34
 z75:=Tryz.sizeOf34
 v75:=Tryz.zeroValue34
 t127:=Tryz.underlying150
 a127:=Tryz.isAgg150
 z127:=Tryz.sizeOf150
 v127:=Tryz.zeroValue150
 t143:=Tryz.underlying297
 a143:=Tryz.isAgg297
 z143:=Tryz.sizeOf297
 v143:=Tryz.zeroValue297
 t145:=Tryz.underlying299
 a145:=Tryz.isAgg299
 z145:=Tryz.sizeOf299
 v145:=Tryz.zeroValue299
 t167:=Tryz.underlying276
 a167:=Tryz.isAgg276
 z167:=Tryz.sizeOf276
 v167:=Tryz.zeroValue276
 t168:=Tryz.underlying279
 a168:=Tryz.isAgg279
 z168:=Tryz.sizeOf279
 v168:=Tryz.zeroValue279
 t171:=Tryz.underlying300
 a171:=Tryz.isAgg300
 z171:=Tryz.sizeOf300
 v171:=Tryz.zeroValue300
 t173:=Tryz.underlying302
 a173:=Tryz.isAgg302
 z173:=Tryz.sizeOf302
 v173:=Tryz.zeroValue302
 t210:=Tryz.underlying288
 a210:=Tryz.isAgg288
 z210:=Tryz.sizeOf288
 v210:=Tryz.zeroValue288
 t212:=Tryz.underlying305
 a212:=Tryz.isAgg305
 z212:=Tryz.sizeOf305
 v212:=Tryz.zeroValue305
 t213:=Tryz.underlying306
 a213:=Tryz.isAgg306
 z213:=Tryz.sizeOf306
 t232:=Tryz.underlying307
 a232:=Tryz.isAgg307
 z232:=Tryz.sizeOf307
 v232:=Tryz.zeroValue307
 t233:=Tryz.underlying308
 a233:=Tryz.isAgg308
 z233:=Tryz.sizeOf308
 v233:=Tryz.zeroValue308
 g15:=by kernel_rfl
 g16:=by kernel_rfl
 g17:=by kernel_rfl
 g18:=by kernel_rfl
 g19:=by kernel_rfl
 t80:=Tryz.underlying94
 a80:=Tryz.isAgg94
 z80:=Tryz.sizeOf94
 v80:=Tryz.zeroValue94
 i0:=by kernel_rfl
 i2:=by kernel_rfl
 i3:=by kernel_rfl
 i4:=by kernel_rfl
 i5:=by kernel_rfl
 i9:=by kernel_rfl
 i20:=by kernel_rfl
 i37:=by kernel_rfl
 i46:=by kernel_rfl
 i51:=by kernel_rfl
 i53:=by kernel_rfl
 i75:=by kernel_rfl
 i80:=by kernel_rfl
 i127:=by kernel_rfl
 i143:=by kernel_rfl
 i145:=by kernel_rfl
 i167:=by kernel_rfl
 i168:=by kernel_rfl
 i171:=by kernel_rfl
 i173:=by kernel_rfl
 i210:=by kernel_rfl
 i212:=by kernel_rfl
 i232:=by kernel_rfl
 i233:=by kernel_rfl
 m15:=by kernel_rfl
 m16:=by kernel_rfl
 m17:=by kernel_rfl
 m18:=by kernel_rfl
 m19:=by kernel_rfl
 c0:=by kernel_rfl
 c2:=by kernel_rfl
 c3:=by kernel_rfl
 c4:=by kernel_rfl
 c5:=by kernel_rfl
 c9:=by kernel_rfl
 c20:=by kernel_rfl
 c37:=by kernel_rfl
 c46:=by kernel_rfl
 c51:=by kernel_rfl
 c53:=by kernel_rfl
 c75:=by kernel_rfl
 c80:=by kernel_rfl
 c127:=by kernel_rfl
 c143:=by kernel_rfl
 c145:=by kernel_rfl
 c167:=by kernel_rfl
 c168:=by kernel_rfl
 c171:=by kernel_rfl
 c173:=by kernel_rfl
 c210:=by kernel_rfl
 c212:=by kernel_rfl
 c213:=by kernel_rfl
 c232:=by kernel_rfl
 c233:=by kernel_rfl }
theorem RX (f s:List UInt8)(base bits:Int)(k:Int)(hk:k=1\/k=2)(hs:s.length<=1000000000)(w:World)(h:mr w):aw Tryz.prog 186 [str f,str s,.int .i64 base,.int .i64 bits,.iface 276 (.int .i64 k)] w λr w'=>(∃t p,r=.iface t p)/\Below w.heap.size w w':=by
 obtain⟨⟨t1,p1,h1⟩,⟨t2,p2,h2⟩⟩:=h;refine dB Tryz.func186 (by kernel_rfl) (by kernel_rfl) ?_;rcases hk with rfl|rfl
 ·refine Calls.mono (Any.strconv_toError_range aAX ⟨f.toArray⟩ ⟨s.toArray⟩ base bits _ w (by show s.length<=_;omega) h2 (.inr ⟨_,_,rfl⟩)) ?_
  rintro e w' ⟨N,rfl,_,_,hb⟩;exact⟨_,rfl,⟨_,_,rfl⟩,hb⟩
 refine Calls.mono (Any.strconv_toError_syntax aAX ⟨f.toArray⟩ ⟨s.toArray⟩ base bits _ w (by show s.length<=_;omega) h1 (.inr ⟨_,_,rfl⟩)) ?_
 rintro e w' ⟨N,rfl,_,_,hb⟩;exact⟨_,rfl,⟨_,_,rfl⟩,hb⟩
theorem Oa (bits:Int)(lW:bits=32\/bits=40)(s:List UInt8)(hs:s.length<=1000000000)(w:World):aw Tryz.prog 185 [str s,.int .i64 16,.int .i64 bits] w λr w'=>(∃(v:Int) (e:Value),r=.tuple #[.int .i64 v,e]/\aJT e/\(∀n<2147483648,s=iJ n->v=n/\e=.nilIface))/\Below w.heap.size w w':=by
 refine aD Tryz.func185 rfl (by kernel_rfl) [6,7] rfl ?_;push_cast -dsimp(maxSteps:=9^7) [Tryz.ntmps185];by_cases cf:s=[]
 ·subst cf;have e0:decide (([]:List UInt8)=[])=true:=rfl;push_cast -dsimp(maxSteps:=9^7) [e0];refine⟨⟨0,_,rfl,.inr (.inr rfl),λn _ h=>absurd h.symm (Ac n)⟩,Below.refl _ _⟩
 have hgc:∃c r,s=c::r:=List.exists_cons_of_ne_nil cf;obtain⟨c,r,rfl⟩:=hgc;have e0:decide (c::r=[])=false:=decide_eq_false cf;have eh:(c::r).getD 0 0=c:=rfl;have ED:(c::r).length=r.length+1:=rfl;have Ad:∃b,c.toNat=b:=⟨_,rfl⟩;obtain⟨b,hb0⟩:=Ad;have j7:(b=43\/b=45)->∀n<2147483648,c::r≠iJ n:=λh n hn hh=>by
  obtain⟨b',r',h1,h2⟩:=TH (n:=n) (by omega);rw[h1]at hh;cases hh;unfold nP at h2;rw[hb0,Bool.or_eq_true,Bool.and_eq_true,Bool.and_eq_true,decide_eq_true_eq,decide_eq_true_eq,decide_eq_true_eq,decide_eq_true_eq]at h2;omega
 have ef:decide False=false:=rfl;have et:decide True=true:=rfl;have ed1:(c::r).drop (Int.toNat 1)=r:=rfl;push_cast -dsimp(maxSteps:=9^7) [eh,hb0,ef,et,ed1];refine⟨by omega,λh43=>⟨by omega,?_⟩,λn43=>⟨λh45=>⟨by omega,?_⟩,λn45=>?_⟩⟩
 ·have ep:=j7 (.inl (by omega));refine aA (ru bits lW r (by first|omega|exact hs) w) ?_
  rintro _ w1 ⟨⟨v,e,rfl,hv,he,hx⟩,hb⟩;have tH:∃ct:Nat,IntKind.u64.wrap (1*2 ^ min (IntKind.u64.wrap (bits-1)).toNat IntKind.u64.bits)=(ct:Int)/\2147483648<=ct/\ct<1099511627776:=by
   rcases lW with rfl|rfl
   ·exact⟨2147483648,by decide,by omega,by omega⟩
   exact⟨549755813888,by decide,by omega,by omega⟩
  obtain⟨ct,tH,aLD,aLE⟩:=tH;have ewv:IntKind.i64.wrap (v:Int)=(v:Int):=by rw[wrap_i64 (by omega)]
  rcases he with rfl|rfl|rfl
  ·push_cast -dsimp(maxSteps:=9^7) [ef,et];rw[tH];refine⟨λh=>by omega,λ_=>⟨by omega,by rcases lW with rfl|rfl<;>decide,λeo=>⟨⟨_,_,rfl,.inr (.inl rfl),λn hn h=>?_⟩,hb⟩,λaq=>⟨⟨_,_,rfl,.inl rfl,λn hn h=>?_⟩,hb⟩⟩⟩
   ·first|exact absurd h (ep n hn)|(have:=(hx n (by omega) h).1;omega)
   first|exact absurd h (ep n hn)|(have:=(hx n (by omega) h).1;exact⟨by rw[ewv];omega,rfl⟩)
  ·push_cast -dsimp(maxSteps:=9^7) [ef,et];refine ml (te:=276) (k:=.i64) (q:=.i64) rfl rfl rfl Tryz.underlying34 (by kernel_rfl) (by kernel_rfl) ?_;have XW:(!((1:Int) == 1))=false:=rfl;rw[XW];push_cast -dsimp(maxSteps:=9^7) [ef,et];refine⟨λh=>by omega,λ_=>⟨by omega,by rcases lW with rfl|rfl<;>decide,λeo=>⟨⟨_,_,rfl,.inr (.inl rfl),λn hn h=>?_⟩,hb⟩,λaq=>⟨⟨_,_,rfl,.inl rfl,λn hn h=>?_⟩,hb⟩⟩⟩
   ·first|exact absurd h (ep n hn)|(have:=(hx n (by omega) h).2;cases this)
   first|exact absurd h (ep n hn)|(have:=(hx n (by omega) h).2;cases this)
  push_cast -dsimp(maxSteps:=9^7) [ef,et];refine ml (te:=276) (k:=.i64) (q:=.i64) rfl rfl rfl Tryz.underlying34 (by kernel_rfl) (by kernel_rfl) ?_;have XW:(!((2:Int) == 1))=true:=rfl;rw[XW];push_cast -dsimp(maxSteps:=9^7) [ef,et];refine⟨⟨_,_,rfl,.inr (.inr rfl),λn hn h=>?_⟩,hb⟩
  first|exact absurd h (ep n hn)|(have:=(hx n (by omega) h).2;cases this)
 ·have ep:=j7 (.inr (by omega));refine aA (ru bits lW r (by first|omega|exact hs) w) ?_
  rintro _ w1 ⟨⟨v,e,rfl,hv,he,hx⟩,hb⟩;have tH:∃ct:Nat,IntKind.u64.wrap (1*2 ^ min (IntKind.u64.wrap (bits-1)).toNat IntKind.u64.bits)=(ct:Int)/\2147483648<=ct/\ct<1099511627776:=by
   rcases lW with rfl|rfl
   ·exact⟨2147483648,by decide,by omega,by omega⟩
   exact⟨549755813888,by decide,by omega,by omega⟩
  obtain⟨ct,tH,aLD,aLE⟩:=tH;have ewv:IntKind.i64.wrap (v:Int)=(v:Int):=by rw[wrap_i64 (by omega)]
  rcases he with rfl|rfl|rfl
  ·push_cast -dsimp(maxSteps:=9^7) [ef,et];rw[tH];refine⟨λh=>by omega,λ_=>⟨by omega,by rcases lW with rfl|rfl<;>decide,λeo=>⟨⟨_,_,rfl,.inr (.inl rfl),λn hn h=>?_⟩,hb⟩,λaq=>⟨⟨_,_,rfl,.inl rfl,λn hn h=>?_⟩,hb⟩⟩⟩
   ·first|exact absurd h (ep n hn)|(have:=(hx n (by omega) h).1;omega)
   first|exact absurd h (ep n hn)|(have:=(hx n (by omega) h).1;exact⟨by rw[ewv];omega,rfl⟩)
  ·push_cast -dsimp(maxSteps:=9^7) [ef,et];refine ml (te:=276) (k:=.i64) (q:=.i64) rfl rfl rfl Tryz.underlying34 (by kernel_rfl) (by kernel_rfl) ?_;have XW:(!((1:Int) == 1))=false:=rfl;rw[XW];push_cast -dsimp(maxSteps:=9^7) [ef,et];refine⟨λh=>by omega,λ_=>⟨by omega,by rcases lW with rfl|rfl<;>decide,λeo=>⟨⟨_,_,rfl,.inr (.inl rfl),λn hn h=>?_⟩,hb⟩,λaq=>⟨⟨_,_,rfl,.inl rfl,λn hn h=>?_⟩,hb⟩⟩⟩
   ·first|exact absurd h (ep n hn)|(have:=(hx n (by omega) h).2;cases this)
   first|exact absurd h (ep n hn)|(have:=(hx n (by omega) h).2;cases this)
  push_cast -dsimp(maxSteps:=9^7) [ef,et];refine ml (te:=276) (k:=.i64) (q:=.i64) rfl rfl rfl Tryz.underlying34 (by kernel_rfl) (by kernel_rfl) ?_;have XW:(!((2:Int) == 1))=true:=rfl;rw[XW];push_cast -dsimp(maxSteps:=9^7) [ef,et];refine⟨⟨_,_,rfl,.inr (.inr rfl),λn hn h=>?_⟩,hb⟩
  first|exact absurd h (ep n hn)|(have:=(hx n (by omega) h).2;cases this)
 skip;refine aA (ru bits lW (c::r) (by first|omega|exact hs) w) ?_
 rintro _ w1 ⟨⟨v,e,rfl,hv,he,hx⟩,hb⟩;have tH:∃ct:Nat,IntKind.u64.wrap (1*2 ^ min (IntKind.u64.wrap (bits-1)).toNat IntKind.u64.bits)=(ct:Int)/\2147483648<=ct/\ct<1099511627776:=by
  rcases lW with rfl|rfl
  ·exact⟨2147483648,by decide,by omega,by omega⟩
  exact⟨549755813888,by decide,by omega,by omega⟩
 obtain⟨ct,tH,aLD,aLE⟩:=tH;have ewv:IntKind.i64.wrap (v:Int)=(v:Int):=by rw[wrap_i64 (by omega)]
 rcases he with rfl|rfl|rfl
 ·push_cast -dsimp(maxSteps:=9^7) [ef,et];rw[tH];refine⟨λh=>by omega,λ_=>⟨by omega,by rcases lW with rfl|rfl<;>decide,λeo=>⟨⟨_,_,rfl,.inr (.inl rfl),λn hn h=>?_⟩,hb⟩,λaq=>⟨⟨_,_,rfl,.inl rfl,λn hn h=>?_⟩,hb⟩⟩⟩
  ·first|exact absurd h (ep n hn)|(have:=(hx n (by omega) h).1;omega)
  first|exact absurd h (ep n hn)|(have:=(hx n (by omega) h).1;exact⟨by rw[ewv];omega,rfl⟩)
 ·push_cast -dsimp(maxSteps:=9^7) [ef,et];refine ml (te:=276) (k:=.i64) (q:=.i64) rfl rfl rfl Tryz.underlying34 (by kernel_rfl) (by kernel_rfl) ?_;have XW:(!((1:Int) == 1))=false:=rfl;rw[XW];push_cast -dsimp(maxSteps:=9^7) [ef,et];refine⟨λh=>by omega,λ_=>⟨by omega,by rcases lW with rfl|rfl<;>decide,λeo=>⟨⟨_,_,rfl,.inr (.inl rfl),λn hn h=>?_⟩,hb⟩,λaq=>⟨⟨_,_,rfl,.inl rfl,λn hn h=>?_⟩,hb⟩⟩⟩
  ·first|exact absurd h (ep n hn)|(have:=(hx n (by omega) h).2;cases this)
  first|exact absurd h (ep n hn)|(have:=(hx n (by omega) h).2;cases this)
 push_cast -dsimp(maxSteps:=9^7) [ef,et];refine ml (te:=276) (k:=.i64) (q:=.i64) rfl rfl rfl Tryz.underlying34 (by kernel_rfl) (by kernel_rfl) ?_;have XW:(!((2:Int) == 1))=true:=rfl;rw[XW];push_cast -dsimp(maxSteps:=9^7) [ef,et];refine⟨⟨_,_,rfl,.inr (.inr rfl),λn hn h=>?_⟩,hb⟩
 first|exact absurd h (ep n hn)|(have:=(hx n (by omega) h).2;cases this)
theorem qP (bits:Int)(lW:bits=32\/bits=40)(s:List UInt8)(hs:s.length<=1000000000)(w:World)(h:mr w):aw Tryz.prog 167 [str s,.int .i64 16,.int .i64 bits] w λr w'=>(∃(v:Int) (e:Value),r=.tuple #[.int .i64 v,e]/\(e=.nilIface\/∃t x,e=.iface t x)/\(∀n<2147483648,s=iJ n->v=n/\e=.nilIface))/\Below w.heap.size w w':=by
 refine aD Tryz.func167 rfl (by kernel_rfl) [6,7] rfl ?_;push_cast -dsimp(maxSteps:=9^7) [Tryz.ntmps167];refine aA (Oa bits lW s hs w) ?_;rintro _ w1 ⟨⟨v,e,rfl,he,hx⟩,hb⟩;rcases he with rfl|rfl|rfl
 ·push_cast -dsimp(maxSteps:=9^7) [];exact⟨⟨_,_,rfl,.inl rfl,hx⟩,hb⟩
 ·push_cast -dsimp(maxSteps:=9^7) [];refine aA (RX [80,97,114,115,101,73,110,116] s 16 bits 1 (.inl rfl) hs w1 (h.below hb)) ?_;rintro _ w2 ⟨⟨t,p,rfl⟩,dt⟩;push_cast -dsimp(maxSteps:=9^7) [];exact⟨⟨_,_,rfl,.inr ⟨_,_,rfl⟩,λn hn hh=>by have:=(hx n hn hh).2;cases this⟩,hb.trans (dt.mono hb.size)⟩
 push_cast -dsimp(maxSteps:=9^7) [];refine aA (RX [80,97,114,115,101,73,110,116] s 16 bits 2 (.inr rfl) hs w1 (h.below hb)) ?_;rintro _ w2 ⟨⟨t,p,rfl⟩,dt⟩;push_cast -dsimp(maxSteps:=9^7) [];exact⟨⟨_,_,rfl,.inr ⟨_,_,rfl⟩,λn hn hh=>by have:=(hx n hn hh).2;cases this⟩,hb.trans (dt.mono hb.size)⟩
end Go.Proofs.YtemjejfpadnljaaGreatDoor
