/- Texts of this claim, merged: Pmean3, Al2, Prl1, Prl2, Stp, Prl3, Pok, Pst, Rng, Spl, Pin2. -/
import Derived.Test.YtemjejfpadnljaaGreatDoorM4
import Derived.RangeFuncFrom
import Derived.LoopIn
import Derived.RangeFuncLeaves
import Derived.Shelf.Strconv.ToErrorRange
import Derived.Shelf.Strconv.ToError
set_option maxRecDepth 100000
set_option linter.unusedSimpArgs false
set_option linter.unusedVariables false
set_option maxHeartbeats 8000000
namespace Cae
open Classical
section
variable {has:ax->Int->Prop} {bV:List Int} {back:Bool}
def UF (has:ax->Int->Prop)(bV:List Int)(back:Bool)(x y:aG):Prop:=∀i j,pk has bV back x i j↔pk has bV back y i j
theorem Nj (x y:aG)(i j:Nat):pk has bV back (.cat [x,y]) i j↔(if back then ∃m,pk has bV back y i m/\pk has bV back x m j else ∃m,pk has bV back x i m/\pk has bV back y m j):=by
 cases back<;>simp[pk,yG,yF]
theorem UF.aPv {x y:aG}(h:UF has bV back x y)(i:Nat):lg has bV x i back↔lg has bV y i back:=exists_congr λj=>h i j
theorem UF.left {x y:aG}(h:UF has bV back x y)(e:aG):UF has bV back (.cat [x,e]) (.cat [y,e]):=by
 intro i j;rw[Nj,Nj];cases back
 ·exact exists_congr λm=>and_congr (h i m) Iff.rfl
 exact exists_congr λm=>and_congr Iff.rfl (h m j)
end
inductive dX {α β:Type}(R:α->β->Prop):List α->List β->Prop
 | nil:dX R [] []
 | cons {x y l m}:R x y->dX R l m->dX R (x::l) (y::m)
theorem dX.snoc {α β:Type}{R:α->β->Prop}{l:List α}{m:List β}{x:α}{y:β}(h:dX R l m)(hr:R x y):dX R (l++[x]) (m++[y]):=by
 induction h with
 | nil=>exact .cons hr .nil
 | cons h1 _ ih=>exact .cons h1 ih
theorem dX.len {α β:Type}{R:α->β->Prop}{l:List α}{m:List β}(h:dX R l m):l.length=m.length:=by
 induction h with
 | nil=>rfl
 | cons _ _ ih=>simp[ih]
def key (t:Tok):Nat×List UInt8:=(t.kind,t.text)
def yD (a b:List Tok):Prop:=a.map key=b.map key
def yc (a b:List Tok):Prop:=key (hd a)=key (hd b)
def Hf (a:List Tok):Prop:=∀t∈a,t.kind≠5
theorem yD.refl (a:List Tok):yD a a:=rfl
theorem yD.len {a b:List Tok}(h:yD a b):a.length=b.length:=by simpa[yD] using congrArg List.length h
theorem yD.split {a b c:List Tok}(h:yD (a++b) c):∃x y,c=x++y/\yD a x/\yD b y:=by
 have h':a.map key++b.map key=c.map key:=by simpa[yD] using h
 refine⟨c.take a.length,c.drop a.length,(List.take_append_drop _ _).symm,?_,?_⟩
 ·have:=congrArg (List.take a.length) h';simpa[yD,List.take_append,List.map_take] using this
 have:=congrArg (List.drop a.length) h';simpa[yD,List.drop_append,List.map_drop] using this
theorem yc.app {a b c d:List Tok}(h:yD a b)(h':yc c d):yc (a++c) (b++d):=by
 cases a with
 | nil=>cases b with
  | nil=>exact h'
  | cons y b=>simp[yD]at h
 | cons x a=>cases b with
  | nil=>simp[yD]at h
  | cons y b=>simp only[yD,List.map_cons,List.cons.injEq]at h;exact h.1
theorem yc.apps {a b:List Tok}(h:yD a b)(cY:a≠[])(c d:List Tok):yc (a++c) (b++d):=by
 cases a with
 | nil=>exact absurd rfl cY
 | cons x a=>cases b with
  | nil=>simp[yD]at h
  | cons y b=>simp only[yD,List.map_cons,List.cons.injEq]at h;exact h.1
def Lo {α β:Type}(R:α->β->Prop)(p:Pa α)(p':Pa β):Prop:=∀l x l',p l=.ok (x,l')->∃pre,Hf pre/\l=pre++l'/\∀mX l2,yD pre mX->yc l' l2->∃x2,R x x2/\p' (mX++l2)=.ok (x2,l2)
def gR {α β:Type}(R:α->β->Prop)(p:Pa α)(p':Pa β):Prop:=∀l x l',p l=.ok (x,l')->∃pre,pre≠[]/\Hf pre/\l=pre++l'/\∀mX l2,yD pre mX->∃x2,R x x2/\p' (mX++l2)=.ok (x2,l2)
section
variable {α β γ δ:Type} {R:α->β->Prop} {S:γ->δ->Prop} {p:Pa α} {p':Pa β} {q:α->Pa γ} {q':β->Pa δ}
theorem gR.lo (h:gR R p p'):Lo R p p':=λl x l' e=>by
 obtain⟨pre,_,h1,h2,h3⟩:=h l x l' e;exact⟨pre,h1,h2,λa b ha _=>h3 a b ha⟩
theorem Lo.pr {x:α}{y:β}(h:R x y):Lo R (pr x) (pr y):=λl x' l' e=>by
 cases e;refine⟨[],by simp[Hf],rfl,λmX l2 hp _=>?_⟩;have:mX=[]:=List.length_eq_zero_iff.1 hp.len.symm;subst this;exact⟨y,h,rfl⟩
theorem Lo.fail {e:Nat}:Lo R (dt e) p':=λl x l' h=>by cases h
theorem gR.fail {e:Nat}:gR R (dt e) p':=λl x l' h=>by cases h
theorem dr {p:Pa α}{q:α->Pa γ}{l l':List Tok}{y:γ}(h:pb p q l=.ok (y,l')):∃x l1,p l=.ok (x,l1)/\q x l1=.ok (y,l'):=by
 unfold pb at h;split at h
 ·cases h
 rename_i x l1 e;exact⟨x,l1,e,h⟩
theorem aI {p:Pa α}{q:α->Pa γ}{l l1:List Tok}{x:α}(h:p l=.ok (x,l1)):pb p q l=q x l1:=by
 unfold pb;rw[h]
theorem Lo.pb (h:Lo R p p')(k:∀x y,R x y->Lo S (q x) (q' y)):Lo S (pb p q) (pb p' q'):=λl z l' e=>by
 obtain⟨x,l1,e1,e2⟩:=dr e;obtain⟨a,na,rfl,ha⟩:=h l x l1 e1;obtain⟨y0,hy0,_⟩:=ha a l1 (yD.refl _) rfl;obtain⟨b,nb,rfl,_⟩:=k x y0 hy0 _ z l' e2;refine⟨a++b,λt ht=>(List.mem_append.1 ht).elim (na t) (nb t),by rw[List.append_assoc],λmX l2 hp hh=>?_⟩;obtain⟨u,v,rfl,hu,hv⟩:=hp.split;rw[List.append_assoc];obtain⟨y,hy,ey⟩:=ha u (v++l2) hu (yc.app hv hh);obtain⟨b',nb',eb,hb⟩:=k x y hy _ z l' e2;obtain rfl:=List.append_cancel_right eb;obtain⟨z2,hz,ez⟩:=hb v l2 hv hh;exact⟨z2,hz,by rw[aI ey];exact ez⟩
theorem gR.pb (h:Lo R p p')(k:∀x y,R x y->gR S (q x) (q' y)):gR S (pb p q) (pb p' q'):=λl z l' e=>by
 obtain⟨x,l1,e1,e2⟩:=dr e;obtain⟨a,na,rfl,ha⟩:=h l x l1 e1;obtain⟨y0,hy0,_⟩:=ha a l1 (yD.refl _) rfl;obtain⟨b,bne,nb,rfl,_⟩:=k x y0 hy0 _ z l' e2;refine⟨a++b,by simp[bne],λt ht=>(List.mem_append.1 ht).elim (na t) (nb t),by rw[List.append_assoc],λmX l2 hp=>?_⟩;obtain⟨u,v,rfl,hu,hv⟩:=hp.split;rw[List.append_assoc];obtain⟨y,hy,ey⟩:=ha u (v++l2) hu (yc.apps hv bne _ _);obtain⟨b',_,nb',eb,hb⟩:=k x y hy _ z l' e2;obtain rfl:=List.append_cancel_right eb;obtain⟨z2,hz,ez⟩:=hb v l2 hv;exact⟨z2,hz,by rw[aI ey];exact ez⟩
theorem gR.map {f:α->γ}{f':β->δ}(h:gR R p p')(k:∀x y,R x y->S (f x) (f' y)):gR S (Cae.pb p λx=>Cae.pr (f x)) (Cae.pb p' λy=>Cae.pr (f' y)):=λl z l' e=>by
 obtain⟨x,l1,e1,e2⟩:=dr e;cases e2;obtain⟨a,ane,na,rfl,ha⟩:=h l x l' e1;refine⟨a,ane,na,rfl,λmX l2 hp=>?_⟩;obtain⟨y,hy,ey⟩:=ha mX l2 hp;exact⟨f' y,k x y hy,by rw[aI ey];rfl⟩
theorem Lo.ay {c c':List Tok->Bool}{p1 p2:Pa α}{p1' p2':Pa β}(hc:∀a b,yc a b->c a=c' b)(h1:Lo R p1 p1')(h2:Lo R p2 p2'):Lo R (ay c p1 p2) (ay c' p1' p2'):=λl x l' e=>by
 unfold Cae.ay at e;cases iQ:c l with
 | true =>
  rw[iQ]at e;obtain⟨a,na,rfl,ha⟩:=h1 l x l' e;refine⟨a,na,rfl,λmX l2 hp hh=>?_⟩;obtain⟨y,hy,ey⟩:=ha mX l2 hp hh;refine⟨y,hy,?_⟩;unfold Cae.ay;rw[<-hc _ _ (yc.app hp hh),iQ];exact ey
 | false =>
  rw[iQ]at e;obtain⟨a,na,rfl,ha⟩:=h2 l x l' e;refine⟨a,na,rfl,λmX l2 hp hh=>?_⟩;obtain⟨y,hy,ey⟩:=ha mX l2 hp hh;refine⟨y,hy,?_⟩;unfold Cae.ay;rw[<-hc _ _ (yc.app hp hh),iQ];exact ey
theorem gR.ay {c c':List Tok->Bool}{p1 p2:Pa α}{p1' p2':Pa β}(hc:∀a b,yc a b->c a=c' b)(h1:gR R p1 p1')(h2:gR R p2 p2'):gR R (ay c p1 p2) (ay c' p1' p2'):=λl x l' e=>by
 unfold Cae.ay at e;cases iQ:c l with
 | true =>
  rw[iQ]at e;obtain⟨a,ane,na,rfl,ha⟩:=h1 l x l' e;refine⟨a,ane,na,rfl,λmX l2 hp=>?_⟩;obtain⟨y,hy,ey⟩:=ha mX l2 hp;refine⟨y,hy,?_⟩;unfold Cae.ay;rw[<-hc _ _ (yc.apps hp ane _ _),iQ];exact ey
 | false =>
  rw[iQ]at e;obtain⟨a,ane,na,rfl,ha⟩:=h2 l x l' e;refine⟨a,ane,na,rfl,λmX l2 hp=>?_⟩;obtain⟨y,hy,ey⟩:=ha mX l2 hp;refine⟨y,hy,?_⟩;unfold Cae.ay;rw[<-hc _ _ (yc.apps hp ane _ _),iQ];exact ey
theorem Lo.dY:Lo (λt u=>key t=key u) dY dY:=λl x l' e=>by
 cases e;refine⟨[],by simp[Hf],rfl,λmX l2 hp hh=>?_⟩;have:mX=[]:=List.length_eq_zero_iff.1 hp.len.symm;subst this;exact⟨hd l2,hh,rfl⟩
theorem gR.pop:gR (λ_ _=>True) cL cL:=λl x l' e=>by
 cases l with
 | nil=>cases e
 | cons t r =>
  by_cases h5:t.kind=5
  ·simp[cL,h5]at e
  have e':cL (t::r)=.ok ((),r):=by simp[cL,h5]
  rw[e']at e;cases e;refine⟨[t],by simp,by simpa[Hf] using h5,rfl,λmX l2 hp=>⟨(),trivial,?_⟩⟩;cases mX with
  | nil=>simp[yD]at hp
  | cons u v =>
   have hv:v=[]:=by
    have:=hp.len;simpa using this.symm
   subst hv;have hk:t.kind=u.kind:=by
    simp only[yD,List.map_cons,List.map_nil,List.cons.injEq,key,Prod.mk.injEq]at hp;exact hp.1.1
   show cL (u::l2)=_
   have Tf:¬u.kind=5:=by rw[<-hk];exact h5
   simp[cL,Tf]
end
theorem yc.kind {a b:List Tok}(h:yc a b):(hd a).kind=(hd b).kind:=(Prod.mk.inj h).1
theorem yc.text {a b:List Tok}(h:yc a b):(hd a).text=(hd b).text:=(Prod.mk.inj h).2
theorem zX (k:Nat)(a b:List Tok)(h:yc a b):isKind k a=isKind k b:=by unfold isKind;rw[h.kind]
theorem jP (s:List UInt8)(a b:List Tok)(h:yc a b):dT s a=dT s b:=by unfold dT;rw[h.kind,h.text]
theorem Ez (a b:List Tok)(h:yc a b):jZ a=jZ b:=by unfold jZ;rw[h.kind,h.text]
theorem aEh (a b:List Tok)(h:yc a b):Dx a=Dx b:=by unfold Dx;rw[h.text]
theorem Zs (a b:List Tok)(h:yc a b):kj a=kj b:=by unfold kj;rw[zX 3 a b h,Ez a b h,jP _ a b h,jP _ a b h,jP _ a b h]
theorem aEi (a b:List Tok)(h:yc a b):jG a=jG b:=by unfold jG;rw[zX 3 a b h,Ez a b h]
def KE (k k2:ax):Prop:=∀a,e9 k a=e9 k2 a
def PE (x x2:aG):Prop:=∀n,ag x n=ag x2 n
theorem KE.not {p p2:Nat}{k k2:ax}(h:KE k k2):KE (.not p k) (.not p2 k2):=λa=>by simp only[e9];rw[h]
theorem KE.bin {c p p2:Nat}{k k2 r r2:ax}(h:KE k k2)(h':KE r r2):KE (.bin c p k r) (.bin c p2 k2 r2):=λa=>by simp only[e9];rw[h,h']
theorem YV {l m:List aG}(h:dX PE l m)(n:Nat):bC l n=bC m n:=by
 induction h with
 | nil=>rfl
 | cons h1 _ ih=>simp only[bC];rw[h1,ih]
theorem PE.cat {l m:List aG}(h:dX PE l m):PE (.cat l) (.cat m):=λn=>by simp only[ag];rw[YV h]
theorem PE.alt {l m:List aG}(h:dX PE l m):PE (.alt l) (.alt m):=λn=>by simp only[ag];rw[YV h]
theorem PE.many {x x2:aG}{lo hi:Int}(h:PE x x2):PE (.many x lo hi) (.many x2 lo hi):=λn=>by simp only[ag];rw[h]
theorem PE.one {k k2:ax}(h:KE k k2):PE (.one k) (.one k2):=λn=>by simp only[ag];rw[h]
theorem PE.row {l m:List aG}(h:dX PE l m):PE (rowOf l) (rowOf m):=by
 cases h with
 | nil=>exact PE.cat .nil
 | cons h1 h2=>cases h2 with
  | nil=>exact h1
  | cons h3 h4=>exact PE.cat (.cons h1 (.cons h3 h4))
theorem PE.jO {l m:List aG}(h:dX PE l m):PE (jO l) (jO m):=by
 cases h with
 | nil=>exact PE.alt .nil
 | cons h1 h2=>cases h2 with
  | nil=>exact h1
  | cons h3 h4=>exact PE.alt (.cons h1 (.cons h3 h4))
def TT {α β:Type}:α->β->Prop:=λ_ _=>True
theorem fq:gR TT cL cL:=gR.pop
theorem gx (s:List UInt8):gR TT (cg s) (cg s):=gR.ay (jP s) fq gR.fail
theorem Ga:gR Eq mW mW:=gR.ay Ez (gR.ay aEh gR.fail (gR.pb Lo.dY λt u h=>gR.map fq λ_ _ _=>(Prod.mk.inj h).2)) gR.fail
theorem aGj:Lo Eq tq tq:=Lo.ay (jP _) (gR.map fq λ_ _ _=>rfl).lo (Lo.ay (jP _) (gR.map fq λ_ _ _=>rfl).lo (Lo.ay (jP _) (gR.map fq λ_ _ _=>rfl).lo (Lo.pr rfl)))
theorem xc {one Xt:Pa ax}(h:Lo KE one Xt)(a b:Nat):∀(n:Nat) (k k2:ax),KE k k2->Lo KE (dN one a n k) (dN Xt b n k2)
 | 0,_,_,_=>Lo.fail
 | n+1,k,k2,hk=>Lo.pb aGj λc c2 e=>by
   subst e;by_cases h0:c=0
   ·rw[if_pos h0,if_pos h0];exact Lo.pr hk
   rw[if_neg h0,if_neg h0];exact Lo.pb h λr r2 hr=>xc h a b n _ _ (KE.bin hk hr)
theorem Aj {one Xt:Pa ax}(h:Lo KE one Xt):Lo KE (sM one) (sM Xt):=Lo.pb Lo.dY λ_ _ _=>Lo.pb h λk k2 hk=>xc h _ _ _ _ _ hk
theorem X3:gR KE G9 G9:=gR.pb Lo.dY λt u h=>by
 have ht:t.text=u.text:=(Prod.mk.inj h).2;rw[ht];cases HI u.text with
 | none=>exact gR.fail
 | some s=>exact gR.map fq λ_ _ _ a=>rfl
theorem pI:∀d,Lo KE (kZ d) (kZ d)
 | 0=>Lo.fail
 | d+1=>Lo.ay (zX 3) X3.lo (Lo.ay (jP _) (Lo.pb Lo.dY λ_ _ _=>Lo.pb fq.lo λ_ _ _=>Lo.pb (pI d) λk k2 h=>Lo.pr (KE.not h))
   (Lo.ay (jP _) (Lo.pb fq.lo λ_ _ _=>Lo.pb (Aj (pI d)) λk k2 h=>(gR.map (gx _) λ_ _ _=>h).lo)
    (Lo.pb Lo.dY λ_ _ _=>(gR.map Ga λn n2 e a=>by simp only[e9];exact e).lo)))
theorem J1:gR Eq j5 j5:=gR.ay (zX 2) (gR.pb Lo.dY λt u h=>by
 have ht:t.text=u.text:=(Prod.mk.inj h).2;rw[ht];by_cases h0:12<yI u.text
 ·rw[if_pos h0];exact gR.fail
 rw[if_neg h0];exact gR.map fq λ_ _ _=>rfl) gR.fail
theorem rR:Lo Eq dA dA:=Lo.pb J1.lo λlo lo2 e=>by
 subst e;refine Lo.ay (jP _) (Lo.pb fq.lo λ_ _ _=>Lo.ay (zX 2) (Lo.pb J1.lo λhi OI e=>?_) (gR.map (gx _) λ_ _ _=>rfl).lo) (gR.map (gx _) λ_ _ _=>rfl).lo;subst e;by_cases h0:hi<lo
 ·rw[if_pos h0];exact Lo.fail
 rw[if_neg h0];exact(gR.map (gx _) λ_ _ _=>rfl).lo
theorem SB:Lo Eq eJ eJ:=Lo.ay (jP _) (gR.map fq λ_ _ _=>rfl).lo (Lo.ay (jP _) (gR.map fq λ_ _ _=>rfl).lo (Lo.ay (jP _) (gR.map fq λ_ _ _=>rfl).lo
 (Lo.ay (jP _) (Lo.pb fq.lo λ_ _ _=>Lo.pb rR λr r2 e=>Lo.pr (by rw[e])) (Lo.pr rfl))))
theorem pH (d:Nat):∀(n c:Nat) (x x2:aG),PE x x2->Lo PE (bX d n c x) (bX d n c x2)
 | 0,_,_,_,_=>Lo.fail
 | n+1,c,x,x2,h=>Lo.pb SB λr r2 e=>by
   subst e;cases r with
   | none=>exact Lo.pr h
   | some q =>
    show Lo PE (if d<=c+1 then _ else _) (if d<=c+1 then _ else _)
    by_cases h0:d<=c+1
    ·rw[if_pos h0,if_pos h0];exact Lo.fail
    rw[if_neg h0,if_neg h0];exact pH d n (c+1) _ _ (PE.many h)
theorem Dw {d:Nat}{unit Ka:Pa aG}(h:Lo PE unit Ka):Lo PE (aY d unit) (aY d Ka):=Lo.pb h λx x2 hx=>pH d _ _ _ _ hx
theorem Ak {again zJ:Pa aG}(h:Lo PE again zJ):∀(n:Nat) (a b:List aG),dX PE a b->Lo (dX PE) (bF again n a) (bF zJ n b)
 | 0,_,_,_=>Lo.fail
 | n+1,a,b,hab=>Lo.ay Zs (Lo.pb h λx x2 hx=>Ak h n _ _ (hab.snoc hx)) (Lo.pr hab)
theorem O7 {again zJ:Pa aG}(h:Lo PE again zJ):Lo PE (iI again) (iI zJ):=Lo.pb (Ak h _ _ _ .nil) λ_ _ hx=>Lo.pr (PE.row hx)
theorem Ai {row Yb:Pa aG}(h:Lo PE row Yb):∀(n:Nat) (a b:List aG),dX PE a b->Lo (dX PE) (eS row n a) (eS Yb n b)
 | 0,_,_,_=>Lo.fail
 | n+1,a,b,hab=>Lo.ay (jP _) (Lo.pb fq.lo λ_ _ _=>Lo.pb h λx x2 hx=>Ai h n _ _ (hab.snoc hx)) (Lo.pr hab)
theorem aBJ {row Yb:Pa aG}(h:Lo PE row Yb):Lo PE (LR row) (LR Yb):=Lo.pb h λx x2 hx=>Lo.pb (Ai h _ _ _ (.cons hx .nil)) λ_ _ hx=>Lo.pr (PE.jO hx)
theorem Gb {d:Nat}{unit Ka:Pa aG}(h:Lo PE unit Ka):Lo PE (BF d unit) (BF d Ka):=by
 unfold BF;by_cases h0:d=0
 ·rw[if_pos h0,if_pos h0];exact Lo.fail
 rw[if_neg h0,if_neg h0];exact aBJ (O7 (Dw h))
theorem ym:∀d,Lo PE (aw d) (aw d)
 | 0=>Lo.fail
 | d+1=>Lo.ay (jP _) (gR.map fq λ_ _ _ _=>rfl).lo (Lo.ay (jP _) (gR.map fq λ_ _ _ _=>rfl).lo
   (Lo.ay (jP _) (Lo.pb fq.lo λ_ _ _=>Lo.pb (Gb (ym d)) λx x2 h=>(gR.map (gx _) λ_ _ _=>h).lo)
    (Lo.ay aEi (Lo.pb (pI (d+1)) λk k2 h=>Lo.pr (PE.one h)) Lo.fail)))
theorem X4 (d:Nat):Lo PE (qu d) (qu d):=Gb (ym d)
theorem aBL:gR Eq gW gW:=gR.ay (jP _) (gR.map fq λ_ _ _=>rfl) (gR.map (gx _) λ_ _ _=>rfl)
def RE (r r2:dJ):Prop:=ft r=ft r2
theorem aBK:gR RE lL lL:=gR.pb Lo.dY λt t2 _=>gR.pb aBL.lo λb b2 e=>gR.pb (X4 9) λx x2 hx=>gR.pb (gx _).lo λ_ _ _=>gR.pb (X4 9) λy y2 hy=>gR.map (gx _) λ_ _ _=>by
 subst e
 show ft _=ft _
 unfold ft;rw[hx 0,hy 0]
inductive Tk:Nat->List UInt8->List Tok->Prop
 | nil (i):Tk i [] []
 | blank {i c r l}:(c=32\/c=10)->Tk (i+1) r l->Tk i (c::r) l
 | note {i c r l}:¬(c=32\/c=10)->c=35->Tk (i+jo (· != 10) (c::r)) ((c::r).drop (jo (· != 10) (c::r))) l->Tk i (c::r) l
 | tok {i c r l}:¬(c=32\/c=10)->¬c=35->(gp (c::r)).2≠0->Tk (i+(gp (c::r)).2) ((c::r).drop (gp (c::r)).2) l->Tk i (c::r) (⟨(gp (c::r)).1,(c::r).take (gp (c::r)).2,i⟩::l)
theorem vH (f:UInt8->Bool)(s:List UInt8):jo f s<=s.length:=by
 unfold jo
 have:=List.takeWhile_append_dropWhile (p:=f) (l:=s);have h:=congrArg List.length this;rw[List.length_append]at h;omega
theorem Yf {f:UInt8->Bool}{c:UInt8}{r:List UInt8}(h:f c=true):0<jo f (c::r):=by
 unfold jo;rw[List.takeWhile_cons,if_pos h,List.length_cons];omega
theorem FI {s:List UInt8}{c:UInt8}(h:s.contains c=true):jo (· != c) s<s.length:=by
 induction s with
 | nil=>simp at h
 | cons x s ih =>
  unfold jo at *
  by_cases hx:x=c
  ·subst hx;simp[List.takeWhile_cons]
  have h':s.contains c=true:=by
   rw[List.contains_cons]at h;have:(c == x)=false:=by simpa using Ne.symm hx
   rw[this]at h;simpa using h
  rw[List.takeWhile_cons,if_pos (by simpa using hx),List.length_cons,List.length_cons]
  have:=ih h';omega
theorem pO (c:UInt8)(r:List UInt8):gp (c::r)=if jY c then (1,jo (λc=>jY c || eL c) (c::r)) else if eL c then (2,jo eL (c::r))
  else if c=91 then (3,if (c::r).contains 93 then jo (· != 93) (c::r)+1 else 0) else if J5.contains c then (4,1) else (4,0):=rfl
theorem ux (c:UInt8)(r:List UInt8):(gp (c::r)).2<=(c::r).length:=by
 rw[pO];split
 ·exact vH _ _
 split
 ·exact vH _ _
 split
 ·split
  ·rename_i h;exact FI h
  simp
 split<;>simp
theorem jq:∀(n i:Nat) (s:List UInt8) (acc r:List Tok),acc.length<=500->lh n i s acc=.ok r->∃l,Tk i s l/\r=acc++l++[⟨5,[],i+s.length⟩]/\acc.length+l.length<=500
 | 0,_,_,_,_,_,h=>by cases h
 | n+1,i,[],acc,r,ha,h=>by
   cases h;exact⟨[],.nil i,by simp,by simpa using ha⟩
 | n+1,i,c::s,acc,r,ha,h=>by
   unfold lh at h;by_cases h1:c=32\/c=10
   ·rw[if_pos h1]at h;obtain⟨l,hl,e,hn⟩:=jq n _ _ _ _ ha h;exact⟨l,.blank h1 hl,by rw[e,List.length_cons,Nat.add_right_comm,Nat.add_assoc],hn⟩
   rw[if_neg h1]at h;by_cases h2:c=35
   ·rw[if_pos h2]at h;obtain⟨l,hl,e,hn⟩:=jq n _ _ _ _ ha h
    have:=vH (· != 10) (c::s);exact⟨l,.note h1 h2 hl,by rw[e,List.length_drop,Nat.add_assoc,Nat.add_sub_cancel' this],hn⟩
   rw[if_neg h2]at h;by_cases h3:(gp (c::s)).2=0
   ·rw[if_pos h3]at h;cases h
   rw[if_neg h3]at h;by_cases h4:acc.length=500
   ·rw[if_pos h4]at h;cases h
   rw[if_neg h4]at h;obtain⟨l,hl,e,hn⟩:=jq n _ _ _ _ (by rw[List.length_append,List.length_singleton];omega) h
   have:=ux c s;exact⟨_::l,.tok h1 h2 h3 hl,by rw[e,List.length_drop,Nat.add_assoc,Nat.add_sub_cancel' this];simp,by rw[List.length_append,List.length_singleton]at hn;rw[List.length_cons];omega⟩
theorem Tk.inside {i:Nat}{s:List UInt8}{l:List Tok}(h:Tk i s l):∀t∈l,t.text <:+: s:=by
 induction h with
 | nil i=>simp
 | @blank i c r l h1 hl ih=>exact λt ht=>(ih t ht).trans (List.suffix_cons c r).isInfix
 | @note i c r l h1 h2 hl ih=>exact λt ht=>(ih t ht).trans (List.drop_suffix _ _).isInfix
 | @tok i c r l h1 h2 h3 hl ih =>
  intro t ht;rcases List.mem_cons.1 ht with rfl|ht
  ·exact(List.take_prefix _ _).isInfix
  exact(ih t ht).trans (List.drop_suffix _ _).isInfix
def y9 (l:List Tok):Nat:=(l.map λt=>t.text.length).sum
theorem Tk.sum {i:Nat}{s:List UInt8}{l:List Tok}(h:Tk i s l):y9 l<=s.length/\∀t∈l,0<t.text.length:=by
 induction h with
 | nil i=>simp[y9]
 | @blank i c r l h1 hl ih=>exact⟨by rw[List.length_cons];omega,ih.2⟩
 | @note i c r l h1 h2 hl ih=>exact⟨by have:=ih.1;rw[List.length_drop]at this;omega,ih.2⟩
 | @tok i c r l h1 h2 h3 hl ih =>
  have h4:=ux c r;have h5:=ih.1;rw[List.length_drop]at h5;have h6:((c::r).take (gp (c::r)).2).length=(gp (c::r)).2:=by rw[List.length_take];omega
  refine⟨?_,λt ht=>?_⟩
  ·have:y9 (⟨(gp (c::r)).1,(c::r).take (gp (c::r)).2,i⟩::l)=((c::r).take (gp (c::r)).2).length+y9 l:=by simp[y9]
   rw[this,h6];omega
  rcases List.mem_cons.1 ht with rfl|ht
  ·show 0<((c::r).take (gp (c::r)).2).length
   rw[h6];omega
  exact ih.2 t ht
theorem Sd {s:List UInt8}{f:de}(h:da s=.ok f):∃l l',Tk 0 s l/\l.length<=500/\jC (l++[⟨5,[],s.length⟩])=.ok (f,l')/\isKind 5 l'=true:=by
 unfold da at h;split at h
 ·cases h
 rename_i l ht;split at h
 ·cases h
 rename_i g l' hf;split at h
 ·rename_i hk;cases h;obtain⟨m,hm,e,hn⟩:=jq _ _ _ _ _ (by simp) ht;simp only[List.nil_append,Nat.zero_add]at e;subst e;exact⟨m,l',hm,by simpa using hn,hf,hk⟩
 cases h
theorem WD {l l':List Tok}{f:de}(h:jC l=.ok (f,l')):∃l1 l2,bU 1000 [] l=.ok (f.cO,l1)/\bT 1000 [] l1=.ok (f.rules,l2)/\nz l2=.ok (f.dG,l'):=by
 obtain⟨cs,l1,h1,h⟩:=dr h;obtain⟨rs,l2,h2,h⟩:=dr h;obtain⟨b,l3,h3,h⟩:=dr h;cases h;exact⟨l1,l2,h1,h2,h3⟩
theorem HJ {s:List UInt8}{l:List Rg}(h:HI s=some l):dI s l:=by
 have key:∀l':List Rg,(if aO (-2) l' && gU l' == s then some l' else none)=some l->dI s l:=λl' h=>by
  by_cases hc:(aO (-2) l' && gU l' == s)=true
  ·rw[if_pos hc]at h;obtain rfl:=Option.some.inj h;simp only[Bool.and_eq_true,beq_iff_eq]at hc;exact⟨hc.1,hc.2⟩
  rw[if_neg hc]at h;cases h
 exact key _ h
def W (l:List Tok):Nat:=(l.map λt=>2*t.text.length+9).sum
theorem Ej (t:Tok)(l:List Tok):W (t::l)=2*t.text.length+9+W l:=by simp[W]
def Me {α:Type}(c:Nat)(μ:α->Nat)(p:Pa α):Prop:=∀l x l',p l=.ok (x,l')->μ x+W l'<=W l+c
section
variable {α β:Type} {c d:Nat} {μ:α->Nat} {ν:β->Nat} {p:Pa α} {q:α->Pa β}
theorem Me.pr {x:α}:Me (μ x) μ (pr x):=λl y l' h=>by cases h;omega
theorem Me.fail {e:Nat}:Me c μ (dt e):=λl y l' h=>by cases h
theorem Me.mono (h:Me c μ p)(hc:c<=d):Me d μ p:=λl x l' e=>by have:=h l x l' e;omega
theorem Me.ie {μ':α->Nat}(h:Me c μ p)(hm:∀x,μ' x<=μ x):Me c μ' p:=λl x l' e=>by have:=h l x l' e;have:=hm x;omega
theorem Me.pb {m:Nat}(h:Me c μ p)(k:∀x,Me (μ x+d) ν (q x))(hm:c+d<=m):Me m ν (pb p q):=λl y l' e=>by
 obtain⟨x,l1,e1,e2⟩:=dr e;have h1:=h l x l1 e1;have h2:=k x l1 y l' e2;omega
theorem Me.ay {cc:List Tok->Bool}{p1 p2:Pa α}(h1:Me c μ p1)(h2:Me c μ p2):Me c μ (ay cc p1 p2):=λl x l' e=>by
 unfold Cae.ay at e;split at e
 ·exact h1 l x l' e
 exact h2 l x l' e
theorem Me.dY:Me 0 (λ_=>0) dY:=λl x l' e=>by cases e;dsimp only;omega
theorem tO {l l':List Tok}{x:Unit}(h:cL l=.ok (x,l')):∃t,l=t::l'/\t.kind≠5:=by
 cases l with
 | nil=>cases h
 | cons t r =>
  by_cases h5:t.kind=5
  ·simp[cL,h5]at h
  have e':cL (t::r)=.ok ((),r):=by simp[cL,h5]
  rw[e']at h;cases h;exact⟨t,rfl,h5⟩
theorem Me.pop:Me 0 (λ_=>9) cL:=λl x l' e=>by
 obtain⟨t,rfl,_⟩:=tO e;rw[Ej];dsimp only;omega
theorem Me.aCp:Me 0 (λ_=>0) cL:=Me.pop.ie λ_=>Nat.zero_le _
end
theorem im (s:List UInt8):Me 0 (λ_=>9) (cg s):=Me.ay Me.pop Me.fail
theorem O9:Me 0 (λn:List UInt8=>n.length+8) mW:=λl n l' e=>by
 unfold mW ay at e;split at e
 ·split at e
  ·cases e
  obtain⟨t,l1,e1,e2⟩:=dr e;cases e1;obtain⟨x,l2,e3,e4⟩:=dr e2;cases e4;obtain⟨t,rfl,_⟩:=tO e3;rw[Ej]
  show t.text.length+8+W l'<=2*t.text.length+9+W l'+0
  omega
 cases e
def kn (k:ax):Nat:=(e9 k true).length+3
theorem XT (k:ax)(a:Bool):(e9 k a).length+3<=kn k:=by
 unfold kn;cases a with
 | true=>exact Nat.le_refl _
 | false=>cases k<;>simp[e9]<;>omega
theorem aGc (c p:Nat)(k r:ax):kn (.bin c p k r)<=kn k+kn r+2:=by
 have h1:=XT k false;have h2:=XT r true;unfold kn at *
 simp only[e9,if_true,List.length_cons,List.length_append,List.length_nil];have:(if c=3 then [32,124,32] else if c=4 then [32,38,32] else [32,45,32]:List UInt8).length=3:=by split<;>(try split)<;>rfl
 rw[this];omega
theorem aGd (p:Nat)(k:ax):kn (.not p k)=kn k+1:=by simp[kn,e9]
theorem aGl:Me 0 (λc:Nat=>if c=0 then 0 else 8) tq:=by
 have h:∀c:Nat,c≠0->Me 0 (λc:Nat=>if c=0 then 0 else 8) (pb cL λ_=>pr c):=λc hc=>Me.pb (d:=0) (Me.pop.ie (μ':=λ_=>8) λ_=>by omega) (λ_=>by have:=Me.pr (μ:=λc:Nat=>if c=0 then 0 else 8) (x:=c);rw[if_neg hc]at this;exact this) (by omega)
 exact Me.ay (h 3 (by decide)) (Me.ay (h 4 (by decide)) (Me.ay (h 5 (by decide)) Me.pr))
theorem xe {one:Pa ax}(h:Me 0 kn one)(pos:Nat):∀(n:Nat) (k:ax),Me (kn k) kn (dN one pos n k)
 | 0,k=>Me.fail
 | n+1,k=>Me.pb (d:=kn k) aGl (λc=>by
   by_cases h0:c=0
   ·rw[if_pos h0,if_pos h0];exact Me.pr.mono (by omega)
   rw[if_neg h0,if_neg h0];refine Me.pb (d:=8+kn k) h (λr=>(xe h pos n _).mono ?_) (by omega)
   have:=aGc c pos k r;omega) (by omega)
theorem J6 {one:Pa ax}(h:Me 0 kn one):Me 0 kn (sM one):=Me.pb (d:=0) Me.dY (λt=>Me.pb (d:=0) h (λk=>xe h _ _ _) (by omega)) (by omega)
theorem aGm:Me 0 kn G9:=λl k l' e=>by
 obtain⟨t,l1,e1,e2⟩:=dr e;cases e1;cases hs:HI (hd l).text with
 | none=>rw[hs]at e2;cases e2
 | some s =>
  rw[hs]at e2;obtain⟨x,l2,e3,e4⟩:=dr e2;cases e4;obtain⟨t,rfl,_⟩:=tO e3;have h1:gU s=t.text:=(HJ hs).2;rw[Ej,<-h1]
  show (gU s).length+3+W l'<=_
  omega
theorem Ge:∀d,Me 0 kn (kZ d)
 | 0=>Me.fail
 | d+1=>Me.ay aGm (Me.ay (Me.pb (d:=0) Me.dY (λt=>Me.pb (d:=0) Me.pop (λ_=>Me.pb (d:=9) (Ge d) (λk=>Me.pr.mono (by rw[aGd];omega)) (by omega)) (by omega)) (by omega))
   (Me.ay (Me.pb (d:=0) Me.aCp (λ_=>Me.pb (d:=0) (J6 (Ge d)) (λk=>Me.pb (d:=kn k) (im _) (λ_=>Me.pr.mono (by omega)) (by omega)) (by omega)) (by omega))
    (Me.pb (d:=0) Me.dY (λt=>Me.pb (d:=0) O9 (λn=>Me.pr.mono (by show n.length+3<=_;omega)) (by omega)) (by omega))))
def pn (x:aG):Nat:=(ag x 2).length+3
theorem gO (b:Bool)(s:List UInt8):s.length<=(qe b s).length/\(qe b s).length<=s.length+2:=by
 cases b<;>simp[qe]<;>omega
theorem YU (x:aG)(n:Nat):(ag x n).length+3<=pn x:=by
 unfold pn;cases x with
 | cat l =>
  simp only[ag];by_cases h:1<n
  ·simp[h,qe]
  simp[h,qe]
 | alt l =>
  simp only[ag];have h0:0<2:=by decide
  have h1:(bC l 1)=bC l 1:=rfl;by_cases h:0<n
  ·simp[h,qe]
  simp[h,qe]
 | _=>simp[ag]
theorem IC (n:Nat):(QN n).length<=2:=by unfold QN;split<;>(try split)<;>simp
theorem D1 (lo hi:Int):(xB lo hi).length<=7:=by
 have h1:=IC lo.toNat;have h2:=IC hi.toNat;unfold xB
 repeat' split
 all_goals simp
 all_goals omega
theorem aCn (x:aG)(lo hi:Int):pn (.many x lo hi)<=pn x+7:=by
 have:=D1 lo hi;unfold pn;simp only[ag,List.length_append];omega
def Cg (l:List aG):Nat:=(l.map pn).sum
theorem K5 (l:List aG)(x:aG):Cg (l++[x])=Cg l+pn x:=by simp[Cg]
theorem aBH (l:List aG)(n:Nat):Go.Lib.lens (bC l n)+3*l.length<=Cg l/\(bC l n).length=l.length:=by
 induction l with
 | nil=>simp[bC,Go.Lib.lens,Cg]
 | cons x l ih =>
  have:=YU x n;simp only[bC,Go.Lib.lens,Cg,List.map_cons,List.sum_cons,List.length_cons]at *
  omega
theorem join_le (l:List aG)(n:Nat)(sep:List UInt8)(hs:sep.length<=3):(Go.Lib.join (bC l n) sep).length<=Cg l:=by
 cases l with
 | nil=>simp[bC,Go.Lib.join_nil]
 | cons x l =>
  have h1:=aBH (x::l) n;simp only[bC]at *
  rw[Go.Lib.join_length];have h2:sep.length*(bC l n).length<=3*(bC l n).length:=Nat.mul_le_mul_right _ hs;simp only[List.length_cons]at h1;omega
theorem YR (l:List aG):pn (.cat l)<=Cg l+5:=by
 have:=join_le l 2 [32] (by decide)
 have:=(gO (decide (1<2)) (Go.Lib.join (bC l 2) [32])).2;unfold pn;simp only[ag];omega
theorem YP (l:List aG):pn (.alt l)<=Cg l+5:=by
 have:=join_le l 1 [32,124,32] (by decide)
 have:=(gO (decide (0<2)) (Go.Lib.join (bC l 1) [32,124,32])).2;unfold pn;simp only[ag];omega
theorem aGA (l:List aG):pn (rowOf l)<=Cg l+5:=by
 match l with
 | []=>exact YR []
 | [x]=>simp[rowOf,Cg]
 | x::y::l=>exact YR _
theorem YQ (l:List aG):pn (jO l)<=Cg l+5:=by
 match l with
 | []=>exact YP []
 | [x]=>simp[jO,Cg]
 | x::y::l=>exact YP _
theorem J7:Me 0 (λ_=>0) j5:=Me.ay (Me.pb (d:=0) Me.dY (λt=>by
 by_cases h:12<yI t.text
 ·rw[if_pos h];exact Me.fail
 rw[if_neg h];exact Me.pb (d:=0) Me.aCp (λ_=>Me.pr.mono (by omega)) (by omega)) (by omega)) Me.fail
theorem SF:Me 0 (λ_=>0) dA:=Me.pb (d:=0) J7 (λlo=>Me.ay (Me.pb (d:=0) Me.aCp (λ_=>Me.ay (Me.pb (d:=0) J7 (λhi=>by
 by_cases h:hi<lo
 ·rw[if_pos h];exact Me.fail
 rw[if_neg h];exact Me.pb (d:=0) (im _) (λ_=>Me.pr.mono (by omega)) (by omega)) (by omega)) (Me.pb (d:=0) (im _) (λ_=>Me.pr.mono (by omega)) (by omega))) (by omega)) (Me.pb (d:=0) (im _) (λ_=>Me.pr.mono (by omega)) (by omega))) (by omega)
def sn:Option (Int×Int)->Nat
 | none=>0
 | some _=>8
theorem SG:Me 0 sn eJ:=by
 have h:∀r,Me 0 sn (pb cL λ_=>pr (some r)):=λr=>Me.pb (d:=0) (Me.pop.ie (μ':=λ_=>8) λ_=>by omega) (λ_=>Me.pr) (by omega);refine Me.ay (h _) (Me.ay (h _) (Me.ay (h _) (Me.ay ?_ Me.pr)));exact Me.pb (d:=0) (Me.pop.ie (μ':=λ_=>8) λ_=>by omega) (λ_=>Me.pb (d:=8) SF (λr=>Me.pr.mono (by show 8<=_;omega)) (by omega)) (by omega)
theorem uq (d:Nat):∀(n c:Nat) (x:aG),Me (pn x) pn (bX d n c x)
 | 0,_,_=>Me.fail
 | n+1,c,x=>Me.pb (d:=pn x) SG (λr=>by
   cases r with
   | none=>exact Me.pr.mono (by omega)
   | some q =>
    show Me _ pn (if d<=c+1 then _ else _)
    by_cases h0:d<=c+1
    ·rw[if_pos h0];exact Me.fail
    rw[if_neg h0];refine(uq d n (c+1) _).mono ?_
    have:=aCn x q.1 q.2
    show _<=8+pn x
    omega) (by omega)
theorem SE {d:Nat}{unit:Pa aG}(h:Me 0 pn unit):Me 0 pn (aY d unit):=Me.pb (d:=0) h (λx=>uq d _ _ _) (by omega)
theorem An {again:Pa aG}(h:Me 0 pn again):∀(n:Nat) (a:List aG),Me (Cg a) Cg (bF again n a)
 | 0,_=>Me.fail
 | n+1,a=>Me.ay (Me.pb (d:=Cg a) h (λx=>(An h n _).mono (by rw[K5];omega)) (by omega)) Me.pr
theorem aBP {again:Pa aG}(h:Me 0 pn again):Me 5 pn (iI again):=Me.pb (d:=5) (An h _ _) (λps=>Me.pr.mono (by have:=aGA ps;omega)) (by simp[Cg])
theorem Am {row:Pa aG}(h:Me 5 pn row):∀(n:Nat) (a:List aG),Me (Cg a) Cg (eS row n a)
 | 0,_=>Me.fail
 | n+1,a=>Me.ay (Me.pb (d:=Cg a) Me.pop (λ_=>Me.pb (d:=Cg a) h (λx=>(Am h n _).mono (by rw[K5];omega)) (by omega)) (by omega)) Me.pr
theorem aBN {row:Pa aG}(h:Me 5 pn row):Me 10 pn (LR row):=Me.pb (d:=5) h (λx=>Me.pb (d:=5) (Am h _ _) (λps=>Me.pr.mono (by have:=YQ ps;omega)) (by simp[Cg])) (by omega)
theorem Oa {d:Nat}{unit:Pa aG}(h:Me 0 pn unit):Me 10 pn (BF d unit):=by
 unfold BF;by_cases h0:d=0
 ·rw[if_pos h0];exact Me.fail
 rw[if_neg h0];exact aBN (aBP (SE h))
theorem Xa {p:Pa aG}(h:Me 10 pn p):Me 0 pn (pb cL λ_=>pb p λx=>pb (cg [41]) λ_=>pr x):=λl x l' e=>by
 obtain⟨u,l1,e1,e2⟩:=dr e;obtain⟨y,l2,e3,e4⟩:=dr e2;obtain⟨v,l3,e5,e6⟩:=dr e4;cases e6;have a1:=Me.pop _ _ _ e1;have a2:=h _ _ _ e3;have a3:=im _ _ _ _ e5;dsimp only at a1 a3;omega
theorem Oc:∀d,Me 0 pn (aw d)
 | 0=>Me.fail
 | d+1=>Me.ay (Me.pb (d:=0) Me.pop (λ_=>Me.pr.mono (by decide)) (by omega)) (Me.ay (Me.pb (d:=0) Me.pop (λ_=>Me.pr.mono (by decide)) (by omega))
   (Me.ay (Xa (Oa (Oc d)))
    (Me.ay (Me.pb (d:=0) (Ge (d+1)) (λk=>Me.pr.mono (by show (ag (.one k) 2).length+3<=_;simp only[ag];unfold kn;omega)) (by omega)) Me.fail)))
theorem Xb (d:Nat):Me 10 pn (qu d):=Oa (Oc d)
def rn (r:dJ):Nat:=(ft r).length
theorem aKV (r:dJ):rn r<=pn r.before+pn r.after+5:=by
 have h1:=YU r.before 0;have h2:=YU r.after 0;have a:(if r.brk=true then [98,114,101,97,107,32] else [107,101,101,112,32]:List UInt8).length<=6:=by split<;>simp
 have b:(if ag r.before 0=[] then [] else ag r.before 0++[32]:List UInt8).length<=(ag r.before 0).length+1:=by split<;>simp
 have c:(if ag r.after 0=[] then [] else 32::ag r.after 0:List UInt8).length<=(ag r.after 0).length+1:=by split<;>simp
 have e:rn r=(if r.brk=true then [98,114,101,97,107,32] else [107,101,101,112,32]:List UInt8).length+(if ag r.before 0=[] then [] else ag r.before 0++[32]:List UInt8).length+1+(if ag r.after 0=[] then [] else 32::ag r.after 0:List UInt8).length+2:=by
  unfold rn ft;rw[List.length_append,List.length_append,List.length_append,List.length_append];rfl
 omega
theorem Ob:Me 0 (λ_=>9) gW:=Me.ay (Me.pb (d:=0) Me.pop (λ_=>Me.pr.mono (by omega)) (by omega)) (Me.pb (d:=0) (im _) (λ_=>Me.pr.mono (by omega)) (by omega))
theorem aBQ:Me 0 rn lL:=λl r l' e=>by
 obtain⟨t,l0,e0,e⟩:=dr e;obtain⟨b,l1,e1,e⟩:=dr e;obtain⟨x,l2,e2,e⟩:=dr e;obtain⟨_,l3,e3,e⟩:=dr e;obtain⟨y,l4,e4,e⟩:=dr e;obtain⟨_,l5,e5,e⟩:=dr e;cases e;cases e0;have a1:=Ob _ _ _ e1;have a2:=Xb _ _ _ _ e2;have a3:=im _ _ _ _ e3;have a4:=Xb _ _ _ _ e4;have a5:=im _ _ _ _ e5;have a6:rn ⟨(hd l).pos,b,x,y⟩<=pn x+pn y+5:=aKV ⟨(hd l).pos,b,x,y⟩;simp only at a1 a3 a5;omega
def cn (c:fD):Nat:=(vk c).length
theorem X9:Me 0 cn nW:=λl r l' e=>by
 obtain⟨t,l0,e0,e⟩:=dr e;obtain⟨_,l1,e1,e⟩:=dr e;obtain⟨n,l2,e2,e⟩:=dr e;obtain⟨_,l3,e3,e⟩:=dr e;obtain⟨k,l4,e4,e⟩:=dr e;obtain⟨_,l5,e5,e⟩:=dr e;cases e;cases e0;have a1:=im _ _ _ _ e1;have a2:=O9 _ _ _ e2;have a3:=im _ _ _ _ e3;have a4:=J6 (Ge 9) _ _ _ e4;have a5:=im _ _ _ _ e5
 have:=XT k false;dsimp only at a1 a2 a3 a5;simp only[cn,vk,List.length_append,List.length_cons,List.length_nil];omega
theorem xf:∀(n:Nat) (acc:List dJ),Me (acc.map rn).sum (λl=>(l.map rn).sum) (bT n acc)
 | 0,_=>Me.fail
 | n+1,acc=>Me.ay (by
   by_cases h:acc.length=20
   ·rw[if_pos h];exact Me.fail
   rw[if_neg h];intro l x l' e;obtain⟨r,l1,e1,e2⟩:=dr e;have a1:=aBQ _ _ _ e1;have a2:=xf n _ _ _ _ e2;simp only[List.map_append,List.sum_append,List.map_cons,List.map_nil,List.sum_cons,List.sum_nil,List.length_append,List.length_cons,List.length_nil]at a2;dsimp only;omega) Me.pr
theorem ur:∀(n:Nat) (acc:List fD),Me (acc.map cn).sum (λl=>(l.map cn).sum) (bU n acc)
 | 0,_=>Me.fail
 | n+1,acc=>Me.ay (by
   by_cases h:acc.length=20
   ·rw[if_pos h];exact Me.fail
   rw[if_neg h];intro l x l' e;obtain⟨r,l1,e1,e2⟩:=dr e;have a1:=X9 _ _ _ e1;have a2:=ur n _ _ _ _ e2;simp only[List.map_append,List.sum_append,List.map_cons,List.map_nil,List.sum_cons,List.sum_nil]at a2;dsimp only;omega) Me.pr
theorem aBO:Me 0 (λ_=>0) nz:=Me.ay (Me.pb (d:=0) Me.aCp (λ_=>Me.pb (d:=0) (Ob.ie (μ':=λ_=>0) (λ_=>by omega)) (λ_=>Me.pb (d:=0) (im _) (λ_=>Me.pr.mono (by omega)) (by omega)) (by omega)) (by omega)) Me.pr
theorem D7 {α:Type}(f:α->List UInt8)(l:List α):(l.flatMap f).length=(l.map λx=>(f x).length).sum:=by
 rw[List.length_flatMap]
theorem ZA {s:List UInt8}{f:de}(h:da s=.ok f):(mM f).length<=11*s.length+60:=by
 obtain⟨l,l',tl,hn,hf,_⟩:=Sd h;obtain⟨l1,l2,h1,h2,h3⟩:=WD hf;have a1:=ur _ _ _ _ _ h1;have a2:=xf _ _ _ _ _ h2;have a3:=aBO _ _ _ h3;simp only[List.map_nil,List.sum_nil,List.length_nil]at a1 a2;have hW:W (l++[⟨5,[],s.length⟩])<=11*s.length+9:=by
  obtain⟨s1,s2⟩:=tl.sum;have:∀l:List Tok,(∀t∈l,0<t.text.length)->W (l++[⟨5,[],s.length⟩])<=11*y9 l+9:=by
   intro l hl;induction l with
   | nil=>simp[W,y9]
   | cons t l ih =>
    have h1:=ih (λt ht=>hl t (List.mem_cons_of_mem _ ht));have h2:=hl t (by simp);rw[List.cons_append,Ej];have:y9 (t::l)=t.text.length+y9 l:=by simp[y9]
    omega
  have:=this l s2;omega
 have e:(mM f).length=(f.cO.map cn).sum+(f.rules.map rn).sum+(uE f.dG).length:=by
  unfold mM;rw[List.length_append,List.length_append,D7,D7];rfl
 have e2:(uE f.dG).length<=11:=by unfold uE;split<;>simp
 omega
def gQ:ax->Prop
 | .lit _ s=>aO (-2) s=true/\s.length<10000000
 | .ref _ _=>True
 | .not _ k=>gQ k
 | .bin c _ k r=>gQ k/\gQ r/\(c=3\/c=4\/c=5)
mutual
def bK:aG->Prop
 | .one k=>gQ k
 | .any=>True
 | .gh=>True
 | .cat l=>cU l
 | .alt l=>cU l
 | .many x lo hi=>bK x/\0<=lo/\lo<100/\hi<100/\(hi<0\/lo<=hi)
def cU:List aG->Prop
 | []=>True
 | x::l=>bK x/\cU l
end
end Cae
namespace Cae
theorem lz (l:List aG)(n:Nat):bC l n=l.map (ag · n):=by
 induction l with
 | nil=>rfl
 | cons x l ih=>rw[bC,ih];rfl
theorem Ah:∀{l:List (List UInt8)} {x:List UInt8},x∈l->x.length<=Go.Lib.lens l
 | y::l,x,h=>by
  simp only[Go.Lib.lens,List.map_cons,List.sum_cons];rcases List.mem_cons.1 h with rfl|h
  ·omega
  have:=Ah h;simp only[Go.Lib.lens]at this;omega
theorem qh (l:List (List UInt8))(sep:List UInt8)(hs:1<=sep.length):Go.Lib.lens l<=(Go.Lib.join l sep).length/\l.length<=(Go.Lib.join l sep).length+1:=by
 cases l with
 | nil=>simp[Go.Lib.lens]
 | cons x l =>
  rw[Go.Lib.join_cons,List.length_append,Go.Lib.joinTail_length];have:1*l.length<=sep.length*l.length:=Nat.mul_le_mul_right _ hs;simp only[Go.Lib.lens,List.map_cons,List.sum_cons,List.length_cons];omega
theorem aGC (x:aG):(ag x 2).length<=(ag x 1).length+2:=by
 cases x with
 | cat l =>
  have h1:=(gO (decide (1<2)) (Go.Lib.join (bC l 2) [32])).2;have h2:=(gO (decide (1<1)) (Go.Lib.join (bC l 2) [32])).1;simp only[ag];omega
 | alt l =>
  have h1:=(gO (decide (0<2)) (Go.Lib.join (bC l 1) [32,124,32])).2;have h2:=(gO (decide (0<1)) (Go.Lib.join (bC l 1) [32,124,32])).1;simp only[ag];omega
 | _=>simp[ag]
theorem EH {l:List aG}:(Go.Lib.join (bC l 2) [32]).length+5=pn (.cat l)/\l.length<=pn (.cat l)/\∀x∈l,pn x<=pn (.cat l):=by
 have h0:=qh (bC l 2) [32] (by decide);have h1:(Go.Lib.join (bC l 2) [32]).length+5=pn (.cat l):=by simp[pn,ag,qe]
 refine⟨h1,?_,λx hx=>?_⟩
 ·rw[lz,List.length_map]at h0;rw[lz]at h1;omega
 have:(ag x 2).length<=Go.Lib.lens (bC l 2):=Ah (by rw[lz];exact List.mem_map.2 ⟨x,hx,rfl⟩);have h2:pn x=(ag x 2).length+3:=rfl;omega
theorem EG {l:List aG}:(Go.Lib.join (bC l 1) [32,124,32]).length+5=pn (.alt l)/\l.length<=pn (.alt l)/\∀x∈l,pn x<=pn (.alt l):=by
 have h0:=qh (bC l 1) [32,124,32] (by decide);have h1:(Go.Lib.join (bC l 1) [32,124,32]).length+5=pn (.alt l):=by simp[pn,ag,qe]
 refine⟨h1,?_,λx hx=>?_⟩
 ·rw[lz,List.length_map]at h0;rw[lz]at h1;omega
 have:(ag x 1).length<=Go.Lib.lens (bC l 1):=Ah (by rw[lz];exact List.mem_map.2 ⟨x,hx,rfl⟩);have h2:pn x=(ag x 2).length+3:=rfl
 have:=aGC x;omega
theorem dX.at {α β:Type}{R:α->β->Prop}{l:List α}{m:List β}(h:dX R l m):∀{i:Nat} {y:β},m[i]?=some y->∃x,l[i]?=some x/\R x y:=by
 induction h with
 | nil=>intro i y hy;simp at hy
 | cons h1 _ ih =>
  intro i y hy;cases i with
  | zero=>cases hy;exact⟨_,rfl,h1⟩
  | succ i =>
   obtain⟨x,hx,hr⟩:=ih (i:=i) (y:=y) (by simpa using hy);exact⟨x,by simpa using hx,hr⟩
theorem Qg {α:Type}(f:α->List UInt8){l:List α}{x:α}(h:x∈l):(f x).length<=(l.flatMap f).length:=by
 induction l with
 | nil=>cases h
 | cons y l ih =>
  simp only[List.flatMap_cons,List.length_append];rcases List.mem_cons.1 h with rfl|h
  ·omega
  have:=ih h;omega
theorem Ou (x:aG):(ag x 2).length<=(ag x 0).length+2:=by
 cases x with
 | cat l =>
  have h1:=(gO (decide (1<2)) (Go.Lib.join (bC l 2) [32])).2;have h2:=(gO (decide (1<0)) (Go.Lib.join (bC l 2) [32])).1;simp only[ag];omega
 | alt l =>
  have h1:=(gO (decide (0<2)) (Go.Lib.join (bC l 1) [32,124,32])).2;have h2:=(gO (decide (0<0)) (Go.Lib.join (bC l 1) [32,124,32])).1;simp only[ag];omega
 | _=>simp[ag]
theorem aGJ (r:dJ):(ag r.before 0).length+(ag r.after 0).length<=(ft r).length/\(ft r).length<=(ag r.before 0).length+(ag r.after 0).length+20:=by
 unfold ft;split<;>split<;>split<;>simp[*]<;>omega
def Eh (f:de):Prop:=(∀c∈f.cO,gQ c.kind)/\∀r∈f.rules,bK r.before/\bK r.after
theorem My {x:aG}{lo hi:Int}:pn x<=pn (.many x lo hi):=by
 simp only[pn,ag,List.length_append];omega
theorem X7 {α:Type}{f:α->α}{l:List α}(h:∀r∈l,f r=r):l.map f=l:=by
 induction l with
 | nil=>rfl
 | cons x l ih=>rw[List.map_cons,h x (by simp),ih (λr hr=>h r (by simp[hr]))]
theorem aCt {s:List UInt8}{l:List Rg}(h:dI s l):HI s=some l:=by
 obtain⟨hr,rfl⟩:=h;have hb:((gU l).drop 1).dropLast=lA l:=by
  unfold gU lA;simp
 have aOm:(if ((gU l).drop 1).dropLast=[] then ([]:List Rg) else (splitB 32 ((gU l).drop 1).dropLast).map λp=>(((iT (mI 45 p).1:Nat):Int),if (mI 45 p).2.2 then ((iT (mI 45 p).2.1:Nat):Int) else ((iT (mI 45 p).1:Nat):Int)))=l:=by
  rw[hb];by_cases h0:lA l=[]
  ·rw[if_pos h0,vi h0]
  rw[if_neg h0,tV hr h0,List.map_map];refine X7 λr DF=>?_;obtain⟨h1,h2,h3⟩:=rS (by omega) hr r DF;simp only[Function.comp];by_cases ao:r.1<r.2
  ·rw[Li h1 (by omega) (by omega) ao];simp only[if_true];rw[jU (by omega),jU (by omega)];ext<;>simp<;>omega
  rw[FJ h1 (by omega) ao];simp only[Bool.false_eq_true,if_false];rw[jU (by omega)];ext<;>simp<;>omega
 unfold HI;simp only;rw[aOm,hr];simp
theorem aCs {s:List UInt8}(h:∀l,¬dI s l):HI s=none:=by
 cases hs:HI s with
 | none=>rfl
 | some l=>exact absurd (HJ hs) (h l)
theorem EM:∀{s:List Rg} {a:Int},aO a s=true->2*(s.length:Int)<=max 0 (1114113-a)
 | [],a,_=>by simp;omega
 | r::s,a,h=>by
  rw[br]at h
  have:=EM h.2;have h1:=h.1;simp only[List.length_cons];omega
theorem eI {s:List Rg}(h:aO (-2) s=true):s.length<=557057:=by
 have:=EM h;omega
end Cae
namespace Go.Vc
open Go.RowKit
section
variable {P:Program} {n:Nat} {ro:Option Nat} {ds:List Deferred}
def AH (ro:Option Nat):Fence:={ Fence.wide with round:=ro }
theorem Uw {f:FuncId}{args:Array Value}{w:World}{R:Ending->World->Prop}(h:Calls P f args w R):CallsIn (AH ro) n P f args w R:=(callsIn_wide (n:=n)).2 h
def J0 (ds:List Deferred)(Q:EP):Exit->Act->World->Prop:=λe a w=>a.defers=ds/\Q e a.tmps.toList w
theorem gz (t:Fr)(d:Option Tmp)(v:Value):(Act.mk t.toArray ds).put d v=⟨(put t d v).toArray,ds⟩:=by
 cases d<;>simp[Act.put,put]
theorem mv {a:Act}(h:a.defers=ds):a=⟨a.tmps.toList.toArray,ds⟩:=by cases a;simp_all
theorem Jz {o:Oper}{t:Fr}{K:Value->World->Prop}{Q:EP}{r:Result Next}{next:Act->World->Prop}
  (hn:∀v w',K v w'->next ⟨(put t o.dst v).toArray,ds⟩ w') (h:ru P t K Q r):o.uponIn (AH ro) n P ⟨t.toArray,ds⟩ next (J0 ds Q) r:=by
 cases r with
 | ok x w' =>
  cases x<;>simp only[ru]at h<;>simp only[Oper.uponIn]
  case value v=>rw[gz];exact hn _ _ h
  case skip=>rw[gz];exact hn _ _ h
  case enter f args =>
   refine⟨(λhh=>by cases hh),Uw (h.mono λe bB he=>?_)⟩;cases e with
   | returned v=>dsimp only at he ⊢;rw[gz];exact hn _ _ he
   | panicked c=>exact⟨rfl,by simpa using he⟩
   | outgrown=>exact he.elim
 | halt x w' =>
  cases x<;>simp only[ru]at h<;>simp only[Oper.uponIn];exact⟨rfl,by simpa using h⟩
def lf (o:Oper):Bool:=match o.op with|.defer _=>false|_=>true
theorem Mj {o:Oper}(h:lf o=true):∀c,o.op≠.defer c:=λc e=>by simp[lf,e]at h
theorem Ea {o:Oper}(h:lf o=true)(ro:Option Nat)(ρ:Operand->Value):Oper.semAt ro ρ o=execOp ρ o:=Oper.semAt_eq ro ρ o (Mj h)
theorem Kl {o:Oper}(hd:lf o=true){t:Fr}{w:World}{K:Value->World->Prop}{Q:EP}{next:Act->World->Prop}
  (hn:∀v w',K v w'->next ⟨(put t o.dst v).toArray,ds⟩ w') (h:bu P o t w K Q .mk):o.wpIn (AH ro) n P ⟨t.toArray,ds⟩ w next (J0 ds Q):=by
 have h':=Gp h;unfold runK at h';refine⟨λ_ _=>trivial,?_⟩;rw[Ea hd,nE];exact Jz hn h'
theorem me {ops:List Oper}{K:Fr->World->Prop}{Q:EP}{next:Exit->Act->World->Prop}(rest:List Oper)(hn:∀t w,K t w->wpListIn (AH ro) n P ops.toArray next rest ⟨t.toArray,ds⟩ w)(hq:∀e a w,J0 ds Q e a w->next e a w) :
  ∀(l:List Oper),l.all lf=true->∀(t:Fr) (w:World),aS P ops K Q l t w .mk->wpListIn (AH ro) n P ops.toArray next (l++rest) ⟨t.toArray,ds⟩ w
 | [],_,t,w,h=>hn t w h
 | o::r,hd,t,w,h=>by
  simp only[List.all_cons,Bool.and_eq_true]at hd;rw[List.cons_append];have step:∀(t':Fr),Region.wanted o (yielded ops.toArray t'.toArray)=true->bu P o t' w (λv w'=>aS P ops K Q r (put t' o.dst v) w' .mk) Q .mk->wpListIn (AH ro) n P ops.toArray next (o::(r++rest)) ⟨t'.toArray,ds⟩ w:=λt' hw h'=>by
   unfold wpListIn;rw[if_pos hw]
   have:=Kl (ro:=ro) (n:=n) (ds:=ds) hd.1 (next:=wpListIn (AH ro) n P ops.toArray next (r++rest)) (λv w' hk=>me rest hn hq r hd.2 _ w' hk) h'
   refine⟨this.1,?_⟩;have h2:=this.2;generalize (Oper.semAt _ _ o).run P w=res at h2 ⊢
   cases res with
   | ok x w' =>
    cases x<;>simp only[Oper.uponIn]at h2 ⊢<;>first|exact h2|skip
    ·exact⟨h2.1,h2.2.mono λe bB he=>by
      cases e with
      | returned v=>exact he
      | panicked c=>exact hq _ _ _ he
      | outgrown=>obtain⟨a₀,w₀,hh⟩:=he;exact⟨a₀,w₀,hq _ _ _ hh⟩⟩
    exact⟨h2.1,h2.2.mono λe bB he=>by
     cases e with
     | returned v=>exact he
     | panicked c=>exact hq _ _ _ he
     | outgrown=>obtain⟨a₀,w₀,hh⟩:=he;exact⟨a₀,w₀,hq _ _ _ hh⟩⟩
   | halt x w'=>cases x<;>simp only[Oper.uponIn]at h2 ⊢<;>first|exact h2|exact hq _ _ _ h2
  have skip:∀(t':Fr),Region.wanted o (yielded ops.toArray t'.toArray)=false->aS P ops K Q r (put t' o.dst undef) w .mk->wpListIn (AH ro) n P ops.toArray next (o::(r++rest)) ⟨t'.toArray,ds⟩ w:=λt' hw h'=>by
   unfold wpListIn;rw[if_neg (by rw[hw];simp),gz];exact⟨λ_ _=>trivial,me rest hn hq r hd.2 _ w h'⟩
  simp only[aS]at h;split at h
  ·rename_i hg;exact step t (by simp[Region.wanted,hg]) h
  rename_i j want hg;have nI:∀t':Fr,Region.wanted o (yielded ops.toArray t'.toArray)=(yielded ops.toArray t'.toArray j == some want):=λt'=>by simp only[Region.wanted,hg]
  unfold iG at h;split at h
  ·rename_i hs;exact skip t (by rw[nI,gG,hs];rfl) h
  rename_i s hs;split at h
  ·rename_i b hb;have ao:s<t.length:=by
    rcases Nat.lt_or_ge s t.length with h'|h'
    ·exact h'
    simp[List.getD_eq_getElem?_getD,List.getElem?_eq_none h',undef]at hb
   have hv:t[s]?=some (.bool b):=by
    rw[List.getD_eq_getElem?_getD]at hb;rw[List.getElem?_eq_getElem ao]at hb ⊢
    simpa using hb
   have hy:yielded ops.toArray t.toArray j=some b:=by rw[gG,hs];simp[hv]
   have same:=jx t s ao;rw[hb]at same;by_cases Z1:b=want
   ·subst Z1;have h1:=h.1 rfl;rw[same]at h1;exact step t (by rw[nI,hy];simp) h1
   have hbn:b=!want:=by cases b<;>cases want<;>simp_all
   have h2:=h.2 hbn;rw[<-hbn,same]at h2;exact skip t (by rw[nI,hy];simpa using Z1) h2
  rename_i hb;refine skip t ?_ h;rw[nI,gG,hs];simp only[Option.bind_some];cases hv:t[s]? with
  | none=>rfl
  | some v =>
   have:t.getD s undef=v:=by rw[List.getD_eq_getElem?_getD,hv];rfl
   rw[this]at hb;cases v<;>simp at hb ⊢
def j0:Code->Bool
 | .skip|.exit _|.ret|.label _|.goto _=>true
 | .region _ ops false=>ops.toList.all lf
 | .seq a b=>j0 a && j0 b
 | .cond _ a b=>j0 a && j0 b
 | .block _ c=>j0 c
 | _=>false
theorem lk:∀(c:Code),j0 c=true->∀(Q:EP) (t:Fr) (w:World),vc P c Q t w .mk->c.wpIn (AH ro) n P (J0 ds Q) ⟨t.toArray,ds⟩ w
 | .skip,_,_,_,_,h=>wpIn_skip ⟨rfl,by simpa[vc] using h⟩
 | .region _ ops false,hp,Q,t,w,h=>by
  refine wpIn_region_list ?_
  have:=me (P:=P) (n:=n) (ro:=ro) (ds:=ds) (ops:=ops.toList) (K:=Q .normal) (Q:=Q) (next:=J0 ds Q) [] (λt w hk=>⟨rfl,by simpa using hk⟩) (λ_ _ _ h=>h) ops.toList hp t w h
  simpa using this
 | .seq a b,hp,Q,t,w,h=>by
  simp only[j0,Bool.and_eq_true]at hp;refine wpIn_seq (Code.wpIn_mono ?_ (lk a hp.1 _ t w h));rintro e a' w' ⟨hd,hh⟩;cases e<;>simp only[tR]at hh<;>simp only[Exit.then]<;>first|exact⟨hd,hh⟩|skip
  have:=lk b hp.2 Q _ w' hh;rw[mv hd];exact this
 | .cond c a b,hp,Q,t,w,h=>by
  simp only[j0,Bool.and_eq_true]at hp;simp only[vc]at h;unfold nB at h;split at h
  ·rename_i x hx;exact wpIn_cond_split (t:=x) (by rw[nE];exact hx) (λG2=>lk a hp.1 Q t w (h.1 G2)) (λG2=>lk b hp.2 Q t w (h.2 G2))
  exact h.elim
 | .block i c,hp,Q,t,w,h=>by
  refine wpIn_block (Code.wpIn_mono ?_ (lk c hp _ t w h));rintro e a' w' ⟨hd,hh⟩;cases e<;>simp only[je]at hh<;>simp only[Exit.inBlock]<;>first|exact⟨hd,hh⟩|skip
  split at hh
  ·rename_i e;simp only[e,if_true];exact⟨hd,hh⟩
  rename_i e;simp only[e,if_false];exact⟨hd,hh⟩
 | .exit i,_,_,_,_,h=>wpIn_exit ⟨rfl,by simpa[vc] using h⟩
 | .ret,_,_,_,_,h=>wpIn_ret ⟨rfl,by simpa[vc] using h⟩
 | .label _,_,_,_,_,h=>wpIn_label ⟨rfl,by simpa[vc] using h⟩
 | .goto l,_,_,_,_,h=>wpIn_goto ⟨rfl,by simpa[vc] using h⟩
 | .region _ _ true,hp,_,_,_,_=>by cases hp
 | .loop _,hp,_,_,_,_=>by cases hp
 | .scope _,hp,_,_,_,_=>by cases hp
 | .rangeFunc ..,hp,_,_,_,_=>by cases hp
 | .refuse _,hp,_,_,_,_=>by cases hp
def BS {α:Type}(Z:Nat->Prop)(I:List α->World->Prop)(Ix:Code->List α->World->Prop)(xs:List α)(W:World):Exit->Act->World->Prop
 | .normal,_,W'=>(∀k,Z k->W'.heap[k]?=W.heap[k]?)/\I xs W'
 | .ret,_,W'=>(∀k,Z k->W'.heap[k]?=W.heap[k]?)/\Ix .ret xs W'
 | .exit id,_,W'=>(∀k,Z k->W'.heap[k]?=W.heap[k]?)/\Ix (.exit id) xs W'
 | .goto t,_,W'=>(∀k,Z k->W'.heap[k]?=W.heap[k]?)/\Ix (.goto t) xs W'
 | _,_,_=>False
theorem yl {X:Nat->Prop}(W:World)(l:Nat)(o:Obj)(hX:X l):Kept X W (W.putObj l o) :=
 ⟨rfl,rfl,rfl,by simp,λk _ hk=>World.putObj_heap_other (λe=>hk (by rw[e];exact hX))⟩
def Iter (P:Program)(n:Nat){α:Type}(gf:Nat)(lb:Array Value)(encs:α->Array Value)(B Z:Nat->Prop)(S Sp:List α->Prop)(A:List α->α->Prop)(w:World):Prop :=
 ∀(l:Nat) (J Jx:List α->World->Prop) (W:World),(∀k,k<w.heap.size->W.heap[k]?=w.heap[k]?)->w.heap.size<=W.heap.size->(∀s A A',J s A->Kept B A A'->J s A')->(∀s A A',Jx s A->Kept B A A'->Jx s A') ->
  (∀pre x W1,J pre W1->A pre x->YieldAt Fence.wide n P l (encs x) W1 λe W' =>
   (e=.returned (.bool true)/\J (pre++[x]) W'/\(∀k,Z k->W'.heap[k]?=W1.heap[k]?)/\W1.heap.size<=W'.heap.size)\/(e=.returned (.bool false)/\Jx (pre++[x]) W')) ->
  J [] W->CallsIn Fence.wide n P gf (#[.func (.yield l) #[] #[]]++lb) W λe W'=>(∃v,e=.returned v)/\((∃xs,S xs/\J xs W')\/(∃pre,Sp pre/\Jx pre W'))
theorem aGE {α:Type}{g:Operand}{ps:Array Tmp}{assign body:Code}{Q:Exit->Act->World->Prop}{a:Act}{w:World}{gf:Nat}{lb:Array Value}(hg:a.eval g=.func (.func gf) #[] lb)(eg:∀args w,(callFunc gf args).run P w=.ok (.enter gf args) w)
  {encs:α->Array Value} (tC:∀x,(encs x).size=ps.size) {B Z:Nat->Prop} {S Sp:List α->Prop} {A:List α->α->Prop} (hB:∀k,B k->k<w.heap.size) (hZ:∀k,Z k->k<w.heap.size) (aFS:Iter P (n-1) gf lb encs B Z S Sp A w)
  (I:List α->World->Prop) (Ix:Code->List α->World->Prop) (hI:∀s W W',I s W->Kept (λk=>B k\/k=w.heap.size\/k=w.heap.size+1) W W'->I s W') (hIx:∀c s W W',Ix c s W->Kept (λk=>B k\/k=w.heap.size\/k=w.heap.size+1) W W'->Ix c s W') (h0:I [] w) (a₁:α->Act)
  (GM:∀(x:α) (W:World) (K:Act->World->Prop),K (a₁ x) W ->
   assign.wpIn (AH (some (w.heap.size+1))) (n-1) P (Exit.then K (λ_ _ _=>False)) { tmps:=(ps.zip (encs x)).foldl (λt (p,v)=>t.setIfInBounds p v) a.tmps,defers:=[] } W)
  (sI:∀(pre:List α) (x:α) (W:World),I pre W->A pre x->w.heap.size+1<W.heap.size->body.wpIn (AH (some (w.heap.size+1))) (n-1) P (λe a' W'=>W.heap.size<=W'.heap.size/\BS (λk=>Z k\/k=w.heap.size\/k=w.heap.size+1) I Ix (pre++[x]) W e a' W') (a₁ x) W)
  (jc:∀(xs:List α) (W:World),S xs->I xs W->W.heap[w.heap.size]?=some (.deferred (some []))->Q .normal { a with defers:={ target:=.collected w.heap.size,args:=#[] }::a.defers } W)
  (XD:∀(c:Code) (pre:List α) (W:World),Sp pre->Ix c pre W->W.heap[w.heap.size]?=some (.deferred (some []))->c.wpIn Fence.wide n P Q { a with defers:={ target:=.collected w.heap.size,args:=#[] }::a.defers } W) :
  (Code.rangeFunc g ps assign body).wpIn Fence.wide n P Q a w:=by
 refine wpIn_rangeFunc ?_;intro fn _;have AZ:∃rec:LoopState->Option Code->Loop,rec=λst pe=>{ state:=st,pending:=pe,fn,tmps:=a.tmps,params:=ps,assign,body,defers:=w.heap.size }:=⟨_,rfl⟩;obtain⟨rec,AZ⟩:=AZ;have hg1:∃W1,(w.alloc (.deferred (some []))).alloc (.loop (rec .ready none))=W1:=⟨_,rfl⟩;obtain⟨W1,hW1⟩:=hg1;have pY:W1.heap.size=w.heap.size+1+1:=by rw[<-hW1];simp
 have hL1:W1.heap[w.heap.size+1]?=some (.loop (rec .ready none)):=by
  rw[<-hW1]
  have:=World.alloc_heap_new (w.alloc (.deferred (some []))) (.loop (rec .ready none));rwa [World.size_alloc]at this
 have hK1:W1.heap[w.heap.size]?=some (.deferred (some [])):=by
  rw[<-hW1];exact(Below.heap_alloc _ _ _ (by simp)).trans (World.alloc_heap_new w _)
 have OK:∀k,k<w.heap.size->W1.heap[k]?=w.heap[k]?:=λk hk=>by
  rw[<-hW1];exact(Below.heap_alloc _ _ _ (by simp;omega)).trans (Below.heap_alloc _ _ _ hk)
 have OL:Kept (λk=>B k\/k=w.heap.size\/k=w.heap.size+1) w W1:=⟨by rw[<-hW1];rfl,by rw[<-hW1];rfl,by rw[<-hW1];rfl,by omega,λk hk _=>OK k hk⟩;have AQ:∀{W:World} (o:Obj),Kept (λk=>B k\/k=w.heap.size\/k=w.heap.size+1) W (W.putObj (w.heap.size+1) o):=λo=>yl _ _ _ (.inr (.inr rfl));have cY:∀{k:Nat},B k->k≠w.heap.size/\k≠w.heap.size+1:=λ{k} hk=>by have:=hB k hk;omega
 refine⟨w.heap.size+1,[{ target:=.collected w.heap.size,args:=#[] }],W1,{ target:=.fn (.func gf) lb,args:=#[.func (.yield (w.heap.size+1)) #[] #[]] },W1,gf,
  #[.func (.yield (w.heap.size+1)) #[] #[]]++lb,W1,?_,?_,λ_ _=>trivial,?_,(λhh=>by cases hh),?_⟩
 ·rw[<-hW1,AZ];exact run_enterLoop_outer _ _ _ _ _
 ·simp only[resolve,hg];simp[go_sem]
 ·simp[invoke,go_sem,eg]
 refine(aFS (w.heap.size+1)
  (λpre W=>I pre W/\W.heap[w.heap.size+1]?=some (.loop (rec .ready none))/\W.heap[w.heap.size]?=some (.deferred (some [])))
  (λpre W=>∃c,Ix c pre W/\W.heap[w.heap.size+1]?=some (.loop (rec .done (some c)))/\W.heap[w.heap.size]?=some (.deferred (some [])))
  W1 OK (by omega) ?_ ?_ ?_ ⟨hI _ _ _ h0 OL,hL1,hK1⟩).mono ?_
 ·rintro s A A' ⟨h1,h2,h3⟩ hk;exact⟨hI _ _ _ h1 (hk.weaken (λi _ h=>.inl h)),(hk.block _ (Array.getElem?_eq_some_iff.1 h2).1 (λh=>(cY h).2 rfl)).trans h2,(hk.block _ (Array.getElem?_eq_some_iff.1 h3).1 (λh=>(cY h).1 rfl)).trans h3⟩
 ·rintro s A A' ⟨c,h1,h2,h3⟩ hk;exact⟨c,hIx _ _ _ _ h1 (hk.weaken (λi _ h=>.inl h)),(hk.block _ (Array.getElem?_eq_some_iff.1 h2).1 (λh=>(cY h).2 rfl)).trans h2,(hk.block _ (Array.getElem?_eq_some_iff.1 h3).1 (λh=>(cY h).1 rfl)).trans h3⟩
 ·rintro pre x W ⟨hi,hl,hk⟩ hlen;have ao:w.heap.size+1<W.heap.size:=(Array.getElem?_eq_some_iff.1 hl).1;have hy:=run_yield (P:=P) (args:=encs x) hl (by rw[AZ];exact tC x);rw[AZ]at hy;refine⟨fn,_,assign,body,hy,roundIn_of_wpIn trivial (GM x W _ ⟨_,run_beginRound hl (by rw[AZ]),?_⟩)⟩;have hgV:∃V,W.putObj (w.heap.size+1) (.loop { rec .ready none with state:=.busy })=V:=⟨_,rfl⟩;obtain⟨V,hV⟩:=hgV;have hVl:V.heap[w.heap.size+1]?=some (.loop { rec .ready none with state:=.busy }):=by rw[<-hV];exact World.putObj_heap_same ao
  have hVk:V.heap[w.heap.size]?=some (.deferred (some [])):=by rw[<-hV];exact(World.putObj_heap_other (by omega)).trans hk
  have hVs:V.heap.size=W.heap.size:=by rw[<-hV];simp
  have hVo:∀k,k≠w.heap.size+1->V.heap[k]?=W.heap[k]?:=λk h=>by rw[<-hV];exact World.putObj_heap_other h
  rw[hV];refine wpIn_mono (sI pre x V (by rw[<-hV];exact hI _ _ _ hi (AQ _)) hlen (by omega)) ?_;have fin:∀(jump:Option Code) (W3:World),V.heap.size<=W3.heap.size->(∀k,Z k\/k=w.heap.size\/k=w.heap.size+1->W3.heap[k]?=V.heap[k]?) ->
    (Instr.endRound (w.heap.size+1) jump).run P W3=.ok (.bool jump.isNone) (W3.putObj (w.heap.size+1) (.loop (rec (if jump.isNone then .ready else .done) jump))) /\
    (W3.putObj (w.heap.size+1) (.loop (rec (if jump.isNone then .ready else .done) jump))).heap[w.heap.size+1]?=some (.loop (rec (if jump.isNone then .ready else .done) jump)) /\
    (W3.putObj (w.heap.size+1) (.loop (rec (if jump.isNone then .ready else .done) jump))).heap[w.heap.size]?=some (.deferred (some [])) /\
    ∀k,Z k->(W3.putObj (w.heap.size+1) (.loop (rec (if jump.isNone then .ready else .done) jump))).heap[k]?=W.heap[k]?:=λjump W3 lW JP=>by
   have OM:=(JP _ (.inr (.inr rfl))).trans hVl;have hr:=run_endRound (P:=P) jump OM;rw[AZ]at hr ⊢
   refine⟨hr,World.putObj_heap_same (by omega),(World.putObj_heap_other (by omega)).trans ((JP _ (.inr (.inl rfl))).trans hVk),λk hk=>?_⟩
   have:=hZ k hk;exact(World.putObj_heap_other (by omega)).trans ((JP k (.inl hk)).trans (hVo k (by omega)))
  rintro e a3 W3 ⟨lW,hp⟩;cases e with
  | normal =>
   obtain⟨JP,hi3⟩:=hp;obtain⟨hr,CV,Tn,MX⟩:=fin none W3 lW JP;exact⟨_,_,hr,.inl ⟨rfl,⟨hI _ _ _ hi3 (AQ _),CV,Tn⟩,MX,by simp;omega⟩⟩
  | ret =>
   obtain⟨JP,hi3⟩:=hp;obtain⟨hr,CV,Tn,MX⟩:=fin (some .ret) W3 lW JP;exact⟨_,_,hr,.inr ⟨rfl,.ret,hIx _ _ _ _ hi3 (AQ _),CV,Tn⟩⟩
  | exit id =>
   obtain⟨JP,hi3⟩:=hp;obtain⟨hr,CV,Tn,MX⟩:=fin (some (.exit id)) W3 lW JP;exact⟨_,_,hr,.inr ⟨rfl,.exit id,hIx _ _ _ _ hi3 (AQ _),CV,Tn⟩⟩
  | goto t =>
   obtain⟨JP,hi3⟩:=hp;obtain⟨hr,CV,Tn,MX⟩:=fin (some (.goto t)) W3 lW JP;exact⟨_,_,hr,.inr ⟨rfl,.goto t,hIx _ _ _ _ hi3 (AQ _),CV,Tn⟩⟩
  | panic ch=>exact hp.elim
  | outgrown=>exact hp.elim
 rintro e W2 ⟨⟨v,rfl⟩,(⟨xs,hS,hi,hl,hk⟩|⟨pre,hSp,c,hi,hl,hk⟩)⟩
 ·have hr:=run_endLoop (P:=P) hl (by rw[AZ];simp);rw[AZ]at hr;exact⟨none,_,hr,jc xs _ hS (hI _ _ _ hi (AQ _)) ((World.putObj_heap_other (by omega)).trans hk)⟩
 have hr:=run_endLoop (P:=P) hl (by rw[AZ];simp);rw[AZ]at hr;exact⟨some c,_,hr,XD c pre _ hSp (hIx _ _ _ _ hi (AQ _)) ((World.putObj_heap_other (by omega)).trans hk)⟩
theorem Oq {c:Code}(hp:j0 c=true){Q:Exit->Act->World->Prop}{t:Fr}{w:World}(h:vc P c (λe t w=>Q e ⟨t.toArray,ds⟩ w) t w .mk):c.wpIn (AH ro) n P Q ⟨t.toArray,ds⟩ w :=
 wpIn_mono (lk c hp _ t w h) (by rintro e a w' ⟨hd,hh⟩;rw[mv hd];exact hh)
theorem ma {a b:Code}(hp:j0 a=true){Q:Exit->Act->World->Prop}{t:Fr}{w:World}(h:vc P a (tR (λt w=>b.wpIn (AH ro) n P Q ⟨t.toArray,ds⟩ w) (λe t w=>Q e ⟨t.toArray,ds⟩ w) .mk) t w .mk):(Code.seq a b).wpIn (AH ro) n P Q ⟨t.toArray,ds⟩ w:=by
 refine wpIn_seq (wpIn_mono (lk a hp _ t w h) ?_);rintro e a' w' ⟨hd,hh⟩;cases e<;>simp only[tR]at hh<;>simp only[Exit.then]<;>(rw[mv hd];exact hh)
theorem Sy {m m' l:Nat}{f:FuncId}{tmps:Array Value}{assign body:Code}{w:World}{R:Ending->World->Prop}(h:RoundIn Fence.wide m P l f tmps assign body w R):RoundIn (AH none) m' P l f tmps assign body w R :=
 ⟨trivial,λc cs _=>h.2 c cs (room_wide _)⟩
theorem yB {id l m:Nat}{l1 l2:List Oper}{o:Oper}{x:Operand}{args:Array Operand}{ats:Array TypeId}{Q:Exit->Act->World->Prop}{t:Fr}{w:World}(H9:l1.all lf=true)(hp2:l2.all lf=true)(ho:o.op=.call { callee:=.value x,args,argTypes:=ats })(hg:o.guard=none)
  (h:aS P (l1++o::l2) (λt w=>ev t x=.func (.yield l) #[] #[]/\∃R,YieldAt Fence.wide m P l (args.toList.map (ev t)).toArray w R/\∀e w',R e w'->∃b,e=.returned (.bool b)/\aS P (l1++o::l2) (λt w=>Q .normal ⟨t.toArray,ds⟩ w) (λe t w=>Q e ⟨t.toArray,ds⟩ w) l2 (put t o.dst (.bool b)) w' .mk) (λe t w=>Q e ⟨t.toArray,ds⟩ w) l1 t w .mk) :
  (Code.region id (l1++o::l2).toArray false).wpIn (AH none) n P Q ⟨t.toArray,ds⟩ w:=by
 refine wpIn_region_list ?_;rw[List.toList_toArray];refine me (ro:=none) (o::l2) ?_ (λe a w hh=>by rw[mv hh.1];exact hh.2) l1 H9 t w h;rintro t1 w1 ⟨hx,R,⟨fn,tmps,assign,body,hy,hR⟩,hk⟩;unfold wpListIn;rw[if_pos (by simp[Region.wanted,hg])];refine⟨λ_ _=>trivial,?_⟩;rw[Ea (by simp[lf,ho]),nE];have he:(execOp (ev t1) o).run P w1=.ok (.round l fn tmps assign body) w1:=by
  unfold execOp;simp only[ho];have hy':(Instr.yield l (args.map (ev t1))).run P w1=.ok (.round l fn tmps assign body) w1:=by rw[show args.map (ev t1)=(args.toList.map (ev t1)).toArray by rw[<-Array.toList_map]];exact hy
  simp[resolve,hx,invoke,go_sem,hy']
 rw[he];refine⟨(λhh=>by cases hh),(Sy hR).mono λe w' hr=>?_⟩;obtain⟨b,rfl,hb⟩:=hk e w' hr
 show wpListIn _ _ _ _ _ _ _ _
 rw[gz]
 have:=me (P:=P) (n:=n) (ro:=none) (ds:=ds) (ops:=l1++o::l2) (next:=Q) [] (λt w hh=>hh) (λe a w hh=>by rw[mv hh.1];exact hh.2) l2 hp2 _ w' hb
 simpa using this
theorem aGk {c:Code}{Q:Exit->Act->World->Prop}{t:Fr}{w:World}(M:List Nat)(I:(Nat->Value)->World->Prop)(μ:(Nat->Value)->World->Nat)(h0:I (at_ t) w)
  (hr:∀z w',I z w'->c.wpIn (AH ro) n P (λe a' bB=>match e with|.normal=>a'.defers=ds/\a'.tmps.toList=ov t M (at_ a'.tmps.toList)/\I (at_ a'.tmps.toList) bB/\μ (at_ a'.tmps.toList) bB<μ z w'|e=>Q e a' bB) ⟨(ov t M z).toArray,ds⟩ w'):(Code.loop c).wpIn (AH ro) n P Q ⟨t.toArray,ds⟩ w:=by
 refine wpIn_loop (λa w'=>a.defers=ds/\a.tmps.toList=ov t M (at_ a.tmps.toList)/\I (at_ a.tmps.toList) w') (λa w'=>μ (at_ a.tmps.toList) w') ⟨rfl,by simp[aDZ],by simpa using h0⟩ ?_;rintro a w' ⟨hd,ht,hI⟩;have h1:=hr _ w' hI;rw[<-ht]at h1;rw[mv hd];refine wpIn_mono h1 ?_;intro e a' bB hh;cases e<;>simp only[Exit.then]<;>first|exact hh|skip
 obtain⟨hd',h1,h2,h3⟩:=hh;exact⟨⟨hd',h1,h2⟩,by simpa using h3⟩
theorem aGg {fn:Func}{rs:List ResultVar}{R:VK}(jV:fn.results=rs.toArray){t:Fr}{w:World}(h:Sm P rs R .mk .ret t w):bodyPostM Fence.wide n P fn (λe w'=>∃v,e=.returned v/\R v w') .ret ⟨t.toArray,[]⟩ w:=by
 obtain⟨vs,hv,hk⟩:=cW fn rs jV t _ h;exact⟨_,hv,_,rfl,hk⟩
theorem aGh {fn:Func}{rs:List ResultVar}{R:VK}(jV:fn.results=rs.toArray){t:Fr}{w:World}{D:Nat}(hD:w.heap[D]?=some (.deferred (some [])))(h:Sm P rs R .mk .ret t (w.putObj D (.deferred none))):bodyPostM Fence.wide n P fn (λe w'=>∃v,e=.returned v/\R v w') .ret ⟨t.toArray,[{ target:=.collected D,args:=#[] }]⟩ w:=by
 obtain⟨vs,hv,hk⟩:=cW fn rs jV t _ h;exact⟨by simp,.inl ⟨_,_,rfl,run_takeDeferred hD,_,hv,_,rfl,hk⟩⟩
theorem Qj {f:FuncId}{fn:Func}{c:Code}{args:List Value}{w:World}{R:VK}(hf:P.funcs[f]?=some fn)(hb:fn.body=some c)(hn:(fn.name == "runtime.NumGoroutine")=false)
  (h:c.wpIn (AH none) 0 P (bodyPostM Fence.wide 0 P fn (λe w'=>∃v,e=.returned v/\R v w')) ⟨(xN args fn.ntmps).toArray,[]⟩ w):ar P f args w R:=by
 refine⟨bh hf (by simp[hb]) hn,(callsIn_wide (n:=0)).1 (callsIn_of_wp_marks hf hb trivial ?_ rfl)⟩;have e:(args.toArray++Array.replicate (fn.ntmps-args.toArray.size) undef)=(xN args fn.ntmps).toArray:=by simp[xN]
 rw[e];exact h
theorem VL {F:Fence}{c:Operand}{x y:Code}{Q:Exit->Act->World->Prop}{t:Fr}{w:World}(hc:ev t c=.bool false)(h:y.wpIn F n P Q ⟨t.toArray,ds⟩ w):(Code.cond c x y).wpIn F n P Q ⟨t.toArray,ds⟩ w :=
 wpIn_cond_false (by rw[nE];exact hc) h
theorem aDc {F:Fence}{c:Operand}{x y:Code}{Q:Exit->Act->World->Prop}{t:Fr}{w:World}(hc:ev t c=.bool true)(h:x.wpIn F n P Q ⟨t.toArray,ds⟩ w):(Code.cond c x y).wpIn F n P Q ⟨t.toArray,ds⟩ w :=
 wpIn_cond_true (by rw[nE];exact hc) h
theorem aGQ {K:Act->World->Prop}{Q:Exit->Act->World->Prop}{a:Act}{w:World}:Exit.then K Q .normal a w=K a w:=(rfl)
theorem aGR {K:Act->World->Prop}{Q:Exit->Act->World->Prop}{a:Act}{w:World}:Exit.then K Q .ret a w=Q .ret a w:=(rfl)
theorem aGP {K:Act->World->Prop}{Q:Exit->Act->World->Prop}{a:Act}{w:World}(i:Nat):Exit.then K Q (.exit i) a w=Q (.exit i) a w:=(rfl)
theorem Rl {i:Nat}{Q:Exit->Act->World->Prop}{a:Act}{w:World}:Exit.inBlock i Q .normal a w=Q .normal a w:=(rfl)
theorem Rm {i:Nat}{Q:Exit->Act->World->Prop}{a:Act}{w:World}:Exit.inBlock i Q .ret a w=Q .ret a w:=(rfl)
theorem Rk {i j:Nat}{Q:Exit->Act->World->Prop}{a:Act}{w:World}:Exit.inBlock i Q (.exit j) a w=if j=i then Q .normal a w else Q (.exit j) a w:=(rfl)
theorem aPH (p:Tmp)(v:Value)(t:Fr):((#[p]:Array Tmp).zip #[v]).foldl (λt (x:Tmp×Value)=>t.setIfInBounds x.1 x.2) t.toArray=(t.set p v).toArray:=by
 simp
theorem Y9 {α:Type}{Z:Nat->Prop}{I:List α->World->Prop}{Ix:Code->List α->World->Prop}{xs:List α}{W W':World}{a:Act}:BS Z I Ix xs W .normal a W'=((∀k,Z k->W'.heap[k]?=W.heap[k]?)/\I xs W'):=(rfl)
theorem Ya {α:Type}{Z:Nat->Prop}{I:List α->World->Prop}{Ix:Code->List α->World->Prop}{xs:List α}{W W':World}{a:Act}:BS Z I Ix xs W .ret a W'=((∀k,Z k->W'.heap[k]?=W.heap[k]?)/\Ix .ret xs W'):=(rfl)
theorem Y8 {α:Type}{Z:Nat->Prop}{I:List α->World->Prop}{Ix:Code->List α->World->Prop}{xs:List α}{W W':World}{a:Act}(i:Nat):BS Z I Ix xs W (.exit i) a W'=((∀k,Z k->W'.heap[k]?=W.heap[k]?)/\Ix (.exit i) xs W'):=(rfl)
theorem aGF {α:Type}{g:Operand}{q:Tmp}{assign body:Code}{Q:Exit->Act->World->Prop}{t:Fr}{w:World}{gf:Nat}{lb:List Value}(hg:ev t g=.func (.func gf) #[] lb.toArray)(eg:∀args w,(callFunc gf args).run P w=.ok (.enter gf args) w)
  {en:α->Value} {B Z:Nat->Prop} {S Sp:List α->Prop} {A:List α->α->Prop} (hB:∀k,B k->k<w.heap.size) (hZ:∀k,Z k->k<w.heap.size) (aFS:Iter P (n-1) gf lb.toArray (λx=>#[en x]) B Z S Sp A w)
  (I:List α->World->Prop) (Ix:Code->List α->World->Prop) (hI:∀s W W',I s W->Kept (λk=>B k\/k=w.heap.size\/k=w.heap.size+1) W W'->I s W') (hIx:∀c s W W',Ix c s W->Kept (λk=>B k\/k=w.heap.size\/k=w.heap.size+1) W W'->Ix c s W') (h0:I [] w) (d:Nat)
  (pa:j0 assign=true) (pb:j0 body=true) (GM:∀(x:α) (W:World),vc P assign (λe t' W'=>e=.normal/\t'=((t.set q (en x)).set d (en x))/\W'=W) (t.set q (en x)) W .mk)
  (sI:∀(pre:List α) (x:α) (W:World),I pre W->A pre x->w.heap.size+1<W.heap.size->vc P body (λe t' W'=>W.heap.size<=W'.heap.size/\BS (λk=>Z k\/k=w.heap.size\/k=w.heap.size+1) I Ix (pre++[x]) W e ⟨t'.toArray,[]⟩ W') (((t.set q (en x)).set d (en x))) W .mk)
  (jc:∀(xs:List α) (W:World),S xs->I xs W->W.heap[w.heap.size]?=some (.deferred (some []))->Q .normal ⟨t.toArray,{ target:=.collected w.heap.size,args:=#[] }::ds⟩ W)
  (XD:∀(c:Code) (pre:List α) (W:World),Sp pre->Ix c pre W->W.heap[w.heap.size]?=some (.deferred (some []))->c.wpIn (AH none) n P Q ⟨t.toArray,{ target:=.collected w.heap.size,args:=#[] }::ds⟩ W) :
  (Code.rangeFunc g #[q] assign body).wpIn (AH none) n P Q ⟨t.toArray,ds⟩ w:=by
 refine aGE (a:=⟨t.toArray,ds⟩) (by rw[nE];exact hg) eg (encs:=λx=>#[en x]) (λ_=>rfl) hB hZ aFS I Ix hI hIx h0 (λx=>⟨((t.set q (en x)).set d (en x)).toArray,[]⟩) ?_ ?_ jc XD
 ·intro x W K hK;have e:(((#[q]:Array Tmp).zip #[en x]).foldl (λt (x:Tmp×Value)=>t.setIfInBounds x.1 x.2) t.toArray)=(t.set q (en x)).toArray:=aPH q (en x) t
  show assign.wpIn _ _ _ _ ⟨(((#[q]:Array Tmp).zip #[en x]).foldl (λt (x:Tmp×Value)=>t.setIfInBounds x.1 x.2) t.toArray),[]⟩ _
  rw[e];refine wpIn_mono (lk (ds:=[]) assign pa _ _ _ (GM x W)) ?_;rintro e a w' ⟨hd,rfl,ht,rfl⟩
  show K a w'
  rw[mv hd,ht];exact hK
 intro pre x W h1 h2 h3;refine wpIn_mono (lk (ds:=[]) body pb _ _ _ (sI pre x W h1 h2 h3)) ?_;rintro e a w' ⟨hd,h4,h5⟩;refine⟨h4,?_⟩;rw[mv hd];exact h5
end
attribute [push_cast] aGQ aGR aGP Rl Rm Rk Y9 Ya Y8
end Go.Vc
namespace Go.Proofs.YtemjejfpadnljaaGreatDoor
open Go.Vc Go.Proofs Go.RowKit Cae
attribute [local irreducible] cZ ab ai aX runK ar Sl Vc.Own vc aS bu aZ
theorem NM (s:List UInt8)(c:UInt8)(w:World):ar Tryz.prog 183 [str s,str [c],.int .i64 0] w λr w'=>r=.func (.func 200) #[] #[.pointer (some ⟨w.heap.size+1,0,none⟩),.pointer (some ⟨w.heap.size,0,none⟩),.pointer (some ⟨w.heap.size+2,0,none⟩)]/\aM w' w.heap.size 9 [str s]/\aM w' (w.heap.size+1) 9 [str [c]]/\aM w' (w.heap.size+2) 3 [.int .i64 0]/\w'.heap.size=w.heap.size+3/\Below w.heap.size w w':=by
 refine aE Tryz.func183 rfl (by kernel_rfl) [6] rfl ?_;push_cast -dsimp(maxSteps:=9^7) [Tryz.ntmps183];refine aR ?_;intro w1 aU;have pY:=aU.size;push_cast -dsimp;refine aR ?_;intro w2 bJ;have Bn:=bJ.size;push_cast -dsimp;refine aR ?_;intro w3 cN;have LF:=cN.size;push_cast -dsimp[pY,Bn];have b1:=(aU.aL.below bJ.below (by omega)).below cN.below (by omega);have b2:=bJ.aL.below cN.below (by omega);have b3:=cN.aL;rw[pY]at b2;rw[Bn,pY]at b3;exact⟨b1,b2,b3,by omega,(aU.below.trans (bJ.below.mono (by omega))).trans (cN.below.mono (by omega))⟩
theorem KU (s:List UInt8)(c:UInt8)(w:World):ar Tryz.prog 165 [str s,str [c]] w λr w'=>r=.func (.func 200) #[] #[.pointer (some ⟨w.heap.size+1,0,none⟩),.pointer (some ⟨w.heap.size,0,none⟩),.pointer (some ⟨w.heap.size+2,0,none⟩)]/\aM w' w.heap.size 9 [str s]/\aM w' (w.heap.size+1) 9 [str [c]]/\aM w' (w.heap.size+2) 3 [.int .i64 0]/\w'.heap.size=w.heap.size+3/\Below w.heap.size w w':=by
 refine aE Tryz.func165 rfl (by kernel_rfl) [4] rfl ?_;push_cast -dsimp(maxSteps:=9^7) [Tryz.ntmps165];refine aA (NM s c w) ?_;rintro _ w1 ⟨rfl,h⟩;push_cast -dsimp;exact h
def Y0 (w:World)(b:Nat):Nat:=match w.cell? ⟨b,0,none⟩ with|some (.string s)=>s.size|_=>0
theorem Jy {w:World}{b:Nat}{s:List UInt8}(h:w.cell? ⟨b,0,none⟩=some (str s)):Y0 w b=s.length:=by
 unfold Y0;rw[h];rfl
theorem Yu (s:List UInt8)(c:UInt8)(hs:s.length<=1000000000)(n bs bp bv:Nat)(Kp:bs≠bp)(WO:bs≠bv)(w:World)(hS:aM w bs 9 [str s])(hP:aM w bp 9 [str [c]])(hV:aM w bv 3 [.int .i64 0]) :
  Iter Tryz.prog n 200 #[.pointer (some ⟨bp,0,none⟩),.pointer (some ⟨bs,0,none⟩),.pointer (some ⟨bv,0,none⟩)] (λx:List UInt8=>#[str x]) (λk=>k=bs) (λk=>k=bs\/k=bp\/k=bv) (λxs=>xs=splitB c s) (λpre=>pre <+: splitB c s) (λpre x=>pre++[x] <+: splitB c s) w:=by
 intro l J Jx W hW hWs hJ hJx hY h0;have hS:aM W bs 9 [str s]:=(hW _ hS.lt).trans hS;have hP:aM W bp 9 [str [c]]:=(hW _ hP.lt).trans hP;have hV:aM W bv 3 [.int .i64 0]:=(hW _ hV.lt).trans hV;refine callsIn_of_wp Tryz.func200 rfl trivial ?_ rfl;have c0:W.cell? ⟨bp,0,none⟩=some (str [c]):=hP.cell rfl;simp only[Tryz.ntmps200,List.size_toArray,List.length_cons,List.length_nil,Nat.reduceAdd,Nat.reduceSub,Array.replicate_succ,Array.replicate_zero,List.push_toArray,List.append_toArray,List.nil_append,List.cons_append];refine wpIn_seq (ma (ro:=none) (by rfl) ?_);push_cast -dsimp[c0];refine VL (by rfl) (wpIn_skip ?_);push_cast -dsimp;refine wpIn_seq (wpIn_block (aGk (ro:=none) [7,8,29,30,31,32,33,34,35,36,37,38,39,40,41,42,43,44,45,46,47,48] (λz wx=>∃pre rest,pre++splitB c rest=splitB c s/\J pre wx/\aM wx bs 9 [str rest]/\aM wx bp 9 [str [c]]/\aM wx bv 3 [.int .i64 0]/\rest.length<=s.length) (λ_ wx=>Y0 wx bs) ?_ ?_))
 ·exact⟨[],s,rfl,h0,hS,hP,hV,Nat.le_refl _⟩
 intro z wx hI;obtain⟨pre,rest,sK,hj,hS,hP,hV,hlr⟩:=hI;have hrd:=Jy (hS.cell (o:=0) rfl);have cS:wx.cell? ⟨bs,0,none⟩=some (str rest):=hS.cell rfl;have cP:wx.cell? ⟨bp,0,none⟩=some (str [c]):=hP.cell rfl;have cV:wx.cell? ⟨bv,0,none⟩=some (.int .i64 0):=hV.cell rfl;have DG:=r6 c rest;refine wpIn_block (ma (ro:=none) (by rfl) ?_);push_cast -dsimp[cS,cP];refine aA (aBz rest c wx) ?_;rintro _ w1 ⟨rfl,rfl⟩;rw[u5];push_cast -dsimp;refine ma (ro:=none) (by rfl) ?_;have fin:∀(x:Exit) (t:Fr) (w2:World),(x=.normal\/x=.ret)->((∃xs,xs=splitB c s/\J xs w2)\/∃pre,pre <+: splitB c s/\Jx pre w2)->bodyPost Tryz.prog Tryz.f200 (λe W'=>(∃v,e=.returned v)/\((∃xs,xs=splitB c s/\J xs W')\/∃pre,pre <+: splitB c s/\Jx pre W')) x ⟨t.toArray,[]⟩ w2:=λx t w2 hx hh=>by
  obtain⟨vs,h1,_⟩:=cW (P:=Tryz.prog) (w:=w2) Tryz.f200 [] (by rfl) t (λ_=>True) trivial;rcases hx with rfl|rfl<;>exact⟨rfl,_,h1,⟨_,rfl⟩,hh⟩
 cases hc:rest.contains c with
 | false =>
  simp only[Bool.false_eq_true,if_false];push_cast -dsimp;have sw:splitB c rest=[rest]:=by rw[DG,hc,NX hc];rfl
  rw[sw]at sK;have hy:=hY pre rest w1 hj (by show pre++[rest] <+: _;rw[sK];exact List.prefix_refl _)
  refine yB (l:=l) (m:=n) (l1:=[_,_]) (l2:=[]) (by rfl) (by rfl) (by rfl) (by rfl) ?_;push_cast -dsimp[cS];refine⟨_,hy,?_⟩;rintro e w2 hr;rcases hr with ⟨rfl,h1,_,_⟩|⟨rfl,h1⟩
  ·refine⟨true,rfl,?_⟩;exact fin .normal _ _ (.inl rfl) (.inl ⟨_,sK,h1⟩)
  refine⟨false,rfl,?_⟩;exact fin .normal _ _ (.inl rfl) (.inr ⟨_,by rw[sK];exact List.prefix_refl _,h1⟩)
 | true =>
  simp only[if_true];have ao:=PW hc;rw[hc,if_pos rfl]at DG;have hg:∃k,(rest.takeWhile (· != c)).length=k:=⟨_,rfl⟩;obtain⟨k,hk⟩:=hg;have h1:rest.takeWhile (· != c)=rest.take k:=by rw[<-hk];exact(yx _ rest).symm
  have h2:(rest.dropWhile (· != c)).drop 1=rest.drop (k+1):=by rw[<-FM,List.drop_drop,hk]
  rw[h1,h2]at DG;rw[hk]at ao ⊢
  have eY:decide ((k:Int)<0)=false:=decide_eq_false (by omega);have hy:=hY pre (rest.take k) w1 hj (by show pre++[rest.take k] <+: _;rw[<-sK,DG];exact⟨splitB c (rest.drop (k+1)),by simp⟩)
  push_cast -dsimp[eY];refine ma (ro:=none) (by rfl) ?_;push_cast -dsimp[cS,cV];have ek:((k:Int)+0).toNat=k:=by omega
  refine⟨by omega,by omega,?_⟩;rw[ek];refine wpIn_seq (wpIn_seq (yB (l:=l) (m:=n) (l1:=[_,_]) (l2:=[_]) (by rfl) (by rfl) (by rfl) (by rfl) ?_));push_cast -dsimp;refine⟨_,hy,?_⟩;rintro e w2 hr;have aFN:pre++[rest.take k] <+: splitB c s:=by rw[<-sK,DG];exact⟨splitB c (rest.drop (k+1)),by simp⟩
  rcases hr with ⟨rfl,h1,hz,Dn⟩|⟨rfl,h1⟩
  ·refine⟨true,rfl,?_⟩;have hS2:aM w2 bs 9 [str rest]:=(hz _ (.inl rfl)).trans hS;have ZW:aM w2 bp 9 [str [c]]:=(hz _ (.inr (.inl rfl))).trans hP;have pw:aM w2 bv 3 [.int .i64 0]:=(hz _ (.inr (.inr rfl))).trans hV;have dS:w2.cell? ⟨bs,0,none⟩=some (str rest):=hS2.cell rfl;have dP:w2.cell? ⟨bp,0,none⟩=some (str [c]):=ZW.cell rfl;push_cast -dsimp;refine VL (by rfl) (wpIn_skip ?_);push_cast -dsimp;refine Oq (ro:=none) (by rfl) ?_;push_cast -dsimp[dS,dP];have ek1:((k:Int)+1).toNat=k+1:=by omega
   refine⟨by omega,by omega,?_⟩;rw[ek1];refine aC hS2 (by simp) rfl ?_;intro w3 cN;have hP3:=ZW.kept cN.kept (λh=>Kp h.symm);have Ih:=pw.kept cN.kept (λh=>WO h.symm);have hS3:aM w3 bs 9 [str (rest.drop (k+1))]:=cN.aL;push_cast -dsimp;refine⟨⟨_,_,by rw[List.append_assoc,List.singleton_append,<-DG];exact sK,hJ _ _ _ h1 cN.kept,hS3,hP3,Ih,by rw[List.length_drop];omega⟩,?_⟩;rw[Jy (hS3.cell (o:=0) rfl),hrd,List.length_drop];omega
  refine⟨false,rfl,?_⟩;push_cast -dsimp;refine aDc (by rfl) (wpIn_ret ?_);push_cast -dsimp;exact fin .ret _ _ (.inr rfl) (.inr ⟨_,aFN,h1⟩)
end Go.Proofs.YtemjejfpadnljaaGreatDoor
namespace Cae
theorem RH {n:Nat}(hn:n<4294967296):∃b r,gk n=b::r/\mT b=true:=by
 cases h:gk n with
 | nil=>exact absurd h (yh n)
 | cons b r=>exact⟨b,r,rfl,fo hn b (by rw[h];simp)⟩
end Cae
namespace Go.Proofs.YtemjejfpadnljaaGreatDoor
open Go.Vc Go.Proofs Go.RowKit Cae
attribute [local irreducible] cZ ab ai aX runK ar Sl Vc.Own vc aS bu aZ
def mB (w:World):Prop:=(∃t p,w.cell? ⟨3,0,none⟩=some (.iface t p))/\(∃t p,w.cell? ⟨4,0,none⟩=some (.iface t p))
theorem mB.below {w w':World}(h:mB w)(hb:Below w.heap.size w w'):mB w':=by
 obtain⟨⟨t,p,h1⟩,⟨t',p',h2⟩⟩:=h;exact⟨⟨t,p,(hb.cell (World.block_lt_of_cell? w _ h1)).trans h1⟩,⟨t',p',(hb.cell (World.block_lt_of_cell? w _ h2)).trans h2⟩⟩
def NU:Go.Shelf.Ren:=⟨λ| 245=>186|279=>205|280=>206|281=>207|282=>208|316=>218|171=>220|205=>219|243=>224|246=>221|283=>225|284=>226|285=>227|286=>228|129=>162|317=>229|318=>230|319=>231|320=>232|337=>233|338=>234|n=>n,λ| 9=>9|3=>3|75=>34|167=>276|4=>4|168=>279|210=>288|37=>88|0=>0|127=>150|145=>299|143=>297|2=>2|171=>300|53=>244|5=>5|173=>302|212=>305|51=>168|20=>20|213=>306|46=>133|232=>307|233=>308|80=>94|n=>n,λ| 15=>3|16=>4|17=>7|18=>8|19=>9|n=>n⟩
theorem ZD:Go.Proofs.LaysC.n245 Tryz.prog NU:={
 mixed:=by kernel_rfl
 f129:=Tryz.func162.trans (congrArg some (by kernel_rfl))
 f171:=Tryz.func220.trans (congrArg some (by kernel_rfl))
 f205:=Tryz.func219.trans (congrArg some (by kernel_rfl))
 f243:=Tryz.func224.trans (congrArg some (by kernel_rfl))
 f245:=Tryz.func186.trans (congrArg some (by kernel_rfl))
 f246:=Tryz.func221.trans (congrArg some (by kernel_rfl))
 f279:=Tryz.func205.trans (congrArg some (by kernel_rfl))
 f280:=Tryz.func206.trans (congrArg some (by kernel_rfl))
 f281:=Tryz.func207.trans (congrArg some (by kernel_rfl))
 f282:=Tryz.func208.trans (congrArg some (by kernel_rfl))
 f283:=Tryz.func225.trans (congrArg some (by kernel_rfl))
 f284:=Tryz.func226.trans (congrArg some (by kernel_rfl))
 f285:=Tryz.func227.trans (congrArg some (by kernel_rfl))
 f286:=Tryz.func228.trans (congrArg some (by kernel_rfl))
 f316:=Tryz.func218.trans (congrArg some (by kernel_rfl))
 f317:=Tryz.func229.trans (congrArg some (by kernel_rfl))
 f318:=Tryz.func230.trans (congrArg some (by kernel_rfl))
 f319:=Tryz.func231.trans (congrArg some (by kernel_rfl))
 f320:=Tryz.func232.trans (congrArg some (by kernel_rfl))
 f337:=Tryz.func233.trans (congrArg some (by kernel_rfl))
 f338:=Tryz.func234.trans (congrArg some (by kernel_rfl))
 t0:=Tryz.underlying0
 a0:=Tryz.isAgg0
 z0:=Tryz.sizeOf0
 v0:=Tryz.zeroValue0
 t2:=Tryz.underlying2
 a2:=Tryz.isAgg2
 z2:=Tryz.sizeOf2
 v2:=Tryz.zeroValue2
 t3:=Tryz.underlying3
 a3:=Tryz.isAgg3
 z3:=Tryz.sizeOf3
 v3:=Tryz.zeroValue3
 t4:=Tryz.underlying4
 a4:=Tryz.isAgg4
 z4:=Tryz.sizeOf4
 v4:=Tryz.zeroValue4
 t5:=Tryz.underlying5
 a5:=Tryz.isAgg5
 z5:=Tryz.sizeOf5
 v5:=Tryz.zeroValue5
 t9:=Tryz.underlying9
 a9:=Tryz.isAgg9
 z9:=Tryz.sizeOf9
 v9:=Tryz.zeroValue9
 t20:=Tryz.underlying20
 a20:=Tryz.isAgg20
 z20:=Tryz.sizeOf20
 v20:=Tryz.zeroValue20
 t37:=Tryz.underlying88
 a37:=Tryz.isAgg88
 z37:=Tryz.sizeOf88
 v37:=Tryz.zeroValue88
 t46:=Tryz.underlying133
 a46:=Tryz.isAgg133
 z46:=Tryz.sizeOf133
 v46:=Tryz.zeroValue133
 t51:=Tryz.underlying168
 a51:=Tryz.isAgg168
 z51:=Tryz.sizeOf168
 v51:=Tryz.zeroValue168
 t53:=Tryz.underlying244
 a53:=Tryz.isAgg244
 z53:=Tryz.sizeOf244
 v53:=Tryz.zeroValue244
 t75:=Tryz.underlying34
 a75:=Tryz.isAgg34
 z75:=Tryz.sizeOf34
 v75:=Tryz.zeroValue34
 t127:=Tryz.underlying150
 a127:=Tryz.isAgg150
 z127:=Tryz.sizeOf150
 v127:=Tryz.zeroValue150
 t143:=Tryz.underlying297
 a143:=Tryz.isAgg297
 z143:=Tryz.sizeOf297
 v143:=Tryz.zeroValue297
 t145:=Tryz.underlying299
 a145:=Tryz.isAgg299
 z145:=Tryz.sizeOf299
 v145:=Tryz.zeroValue299
 t167:=Tryz.underlying276
 a167:=Tryz.isAgg276
 z167:=Tryz.sizeOf276
 v167:=Tryz.zeroValue276
 t168:=Tryz.underlying279
 a168:=Tryz.isAgg279
 z168:=Tryz.sizeOf279
 v168:=Tryz.zeroValue279
 t171:=Tryz.underlying300
 a171:=Tryz.isAgg300
 z171:=Tryz.sizeOf300
 v171:=Tryz.zeroValue300
 t173:=Tryz.underlying302
 a173:=Tryz.isAgg302
 z173:=Tryz.sizeOf302
 v173:=Tryz.zeroValue302
 t210:=Tryz.underlying288
 a210:=Tryz.isAgg288
 z210:=Tryz.sizeOf288
 v210:=Tryz.zeroValue288
 t212:=Tryz.underlying305
 a212:=Tryz.isAgg305
 z212:=Tryz.sizeOf305
 v212:=Tryz.zeroValue305
 t213:=Tryz.underlying306
 a213:=Tryz.isAgg306
 z213:=Tryz.sizeOf306
 t232:=Tryz.underlying307
 a232:=Tryz.isAgg307
 z232:=Tryz.sizeOf307
 v232:=Tryz.zeroValue307
 t233:=Tryz.underlying308
 a233:=Tryz.isAgg308
 z233:=Tryz.sizeOf308
 v233:=Tryz.zeroValue308
 g15:=by kernel_rfl
 g16:=by kernel_rfl
 g17:=by kernel_rfl
 g18:=by kernel_rfl
 g19:=by kernel_rfl
 t80:=Tryz.underlying94
 a80:=Tryz.isAgg94
 z80:=Tryz.sizeOf94
 v80:=Tryz.zeroValue94
 i0:=by kernel_rfl
 i2:=by kernel_rfl
 i3:=by kernel_rfl
 i4:=by kernel_rfl
 i5:=by kernel_rfl
 i9:=by kernel_rfl
 i20:=by kernel_rfl
 i37:=by kernel_rfl
 i46:=by kernel_rfl
 i51:=by kernel_rfl
 i53:=by kernel_rfl
 i75:=by kernel_rfl
 i80:=by kernel_rfl
 i127:=by kernel_rfl
 i143:=by kernel_rfl
 i145:=by kernel_rfl
 i167:=by kernel_rfl
 i168:=by kernel_rfl
 i171:=by kernel_rfl
 i173:=by kernel_rfl
 i210:=by kernel_rfl
 i212:=by kernel_rfl
 i232:=by kernel_rfl
 i233:=by kernel_rfl
 m15:=by kernel_rfl
 m16:=by kernel_rfl
 m17:=by kernel_rfl
 m18:=by kernel_rfl
 m19:=by kernel_rfl
 c0:=by kernel_rfl
 c2:=by kernel_rfl
 c3:=by kernel_rfl
 c4:=by kernel_rfl
 c5:=by kernel_rfl
 c9:=by kernel_rfl
 c20:=by kernel_rfl
 c37:=by kernel_rfl
 c46:=by kernel_rfl
 c51:=by kernel_rfl
 c53:=by kernel_rfl
 c75:=by kernel_rfl
 c80:=by kernel_rfl
 c127:=by kernel_rfl
 c143:=by kernel_rfl
 c145:=by kernel_rfl
 c167:=by kernel_rfl
 c168:=by kernel_rfl
 c171:=by kernel_rfl
 c173:=by kernel_rfl
 c210:=by kernel_rfl
 c212:=by kernel_rfl
 c213:=by kernel_rfl
 c232:=by kernel_rfl
 c233:=by kernel_rfl }
theorem PT (f s:List UInt8)(base bits:Int)(k:Int)(hk:k=1\/k=2)(hs:s.length<=1000000000)(w:World)(h:mB w):ar Tryz.prog 186 [str f,str s,.int .i64 base,.int .i64 bits,.iface 276 (.int .i64 k)] w λr w'=>(∃t p,r=.iface t p)/\Below w.heap.size w w':=by
 obtain⟨⟨t1,p1,h1⟩,⟨t2,p2,h2⟩⟩:=h;refine dM Tryz.func186 (by kernel_rfl) (by kernel_rfl) ?_;rcases hk with rfl|rfl
 ·refine Calls.mono (Any.strconv_toError_range ZD ⟨f.toArray⟩ ⟨s.toArray⟩ base bits _ w (by show s.length<=_;omega) h2 (.inr ⟨_,_,rfl⟩)) ?_
  rintro e w' ⟨N,rfl,_,_,hb⟩;exact⟨_,rfl,⟨_,_,rfl⟩,hb⟩
 refine Calls.mono (Any.strconv_toError_syntax ZD ⟨f.toArray⟩ ⟨s.toArray⟩ base bits _ w (by show s.length<=_;omega) h1 (.inr ⟨_,_,rfl⟩)) ?_
 rintro e w' ⟨N,rfl,_,_,hb⟩;exact⟨_,rfl,⟨_,_,rfl⟩,hb⟩
theorem Mt (bits:Int)(kE:bits=32\/bits=40)(s:List UInt8)(hs:s.length<=1000000000)(w:World):ar Tryz.prog 185 [str s,.int .i64 16,.int .i64 bits] w λr w'=>(∃(v:Int) (e:Value),r=.tuple #[.int .i64 v,e]/\aHX e/\(∀n<2147483648,s=gk n->v=n/\e=.nilIface))/\Below w.heap.size w w':=by
 refine aE Tryz.func185 rfl (by kernel_rfl) [6,7] rfl ?_;push_cast -dsimp(maxSteps:=9^7) [Tryz.ntmps185];by_cases cY:s=[]
 ·subst cY;have e0:decide (([]:List UInt8)=[])=true:=rfl;push_cast -dsimp(maxSteps:=9^7) [e0];refine⟨⟨0,_,rfl,.inr (.inr rfl),λn _ h=>absurd h.symm (yh n)⟩,Below.refl _ _⟩
 have hgc:∃c r,s=c::r:=List.exists_cons_of_ne_nil cY;obtain⟨c,r,rfl⟩:=hgc;have e0:decide (c::r=[])=false:=decide_eq_false cY;have eh:(c::r).getD 0 0=c:=rfl;have Dn:(c::r).length=r.length+1:=rfl;have CQ:∃b,c.toNat=b:=⟨_,rfl⟩;obtain⟨b,HY⟩:=CQ;have jD:(b=43\/b=45)->∀n<2147483648,c::r≠gk n:=λh n hn hh=>by
  obtain⟨b',r',h1,h2⟩:=RH (n:=n) (by omega);rw[h1]at hh;cases hh;unfold mT at h2;rw[HY,Bool.or_eq_true,Bool.and_eq_true,Bool.and_eq_true,decide_eq_true_eq,decide_eq_true_eq,decide_eq_true_eq,decide_eq_true_eq]at h2;omega
 have ef:decide False=false:=rfl;have et:decide True=true:=rfl;have ed1:(c::r).drop (Int.toNat 1)=r:=rfl;push_cast -dsimp(maxSteps:=9^7) [eh,HY,ef,et,ed1];refine⟨by omega,λh43=>⟨by omega,?_⟩,λn43=>⟨λh45=>⟨by omega,?_⟩,λn45=>?_⟩⟩
 ·have gH:=jD (.inl (by omega));refine aA (qt bits kE r (by first|omega|exact hs) w) ?_
  rintro _ w1 ⟨⟨v,e,rfl,hv,he,hx⟩,hb⟩;have rk:∃ct:Nat,IntKind.u64.wrap (1*2 ^ min (IntKind.u64.wrap (bits-1)).toNat IntKind.u64.bits)=(ct:Int)/\2147483648<=ct/\ct<1099511627776:=by
   rcases kE with rfl|rfl
   ·exact⟨2147483648,by decide,by omega,by omega⟩
   exact⟨549755813888,by decide,by omega,by omega⟩
  obtain⟨ct,rk,aJD,aJE⟩:=rk;have ewv:IntKind.i64.wrap (v:Int)=(v:Int):=by rw[wrap_i64 (by omega)]
  rcases he with rfl|rfl|rfl
  ·push_cast -dsimp(maxSteps:=9^7) [ef,et];rw[rk];refine⟨λh=>by omega,λ_=>⟨by omega,by rcases kE with rfl|rfl<;>decide,λeY=>⟨⟨_,_,rfl,.inr (.inl rfl),λn hn h=>?_⟩,hb⟩,λao=>⟨⟨_,_,rfl,.inl rfl,λn hn h=>?_⟩,hb⟩⟩⟩
   ·first|exact absurd h (gH n hn)|(have:=(hx n (by omega) h).1;omega)
   first|exact absurd h (gH n hn)|(have:=(hx n (by omega) h).1;exact⟨by rw[ewv];omega,rfl⟩)
  ·push_cast -dsimp(maxSteps:=9^7) [ef,et];refine lu (te:=276) (k:=.i64) (q:=.i64) rfl rfl rfl Tryz.underlying34 (by kernel_rfl) (by kernel_rfl) ?_;have Vb:(!((1:Int) == 1))=false:=rfl;rw[Vb];push_cast -dsimp(maxSteps:=9^7) [ef,et];refine⟨λh=>by omega,λ_=>⟨by omega,by rcases kE with rfl|rfl<;>decide,λeY=>⟨⟨_,_,rfl,.inr (.inl rfl),λn hn h=>?_⟩,hb⟩,λao=>⟨⟨_,_,rfl,.inl rfl,λn hn h=>?_⟩,hb⟩⟩⟩
   ·first|exact absurd h (gH n hn)|(have:=(hx n (by omega) h).2;cases this)
   first|exact absurd h (gH n hn)|(have:=(hx n (by omega) h).2;cases this)
  push_cast -dsimp(maxSteps:=9^7) [ef,et];refine lu (te:=276) (k:=.i64) (q:=.i64) rfl rfl rfl Tryz.underlying34 (by kernel_rfl) (by kernel_rfl) ?_;have Vb:(!((2:Int) == 1))=true:=rfl;rw[Vb];push_cast -dsimp(maxSteps:=9^7) [ef,et];refine⟨⟨_,_,rfl,.inr (.inr rfl),λn hn h=>?_⟩,hb⟩
  first|exact absurd h (gH n hn)|(have:=(hx n (by omega) h).2;cases this)
 ·have gH:=jD (.inr (by omega));refine aA (qt bits kE r (by first|omega|exact hs) w) ?_
  rintro _ w1 ⟨⟨v,e,rfl,hv,he,hx⟩,hb⟩;have rk:∃ct:Nat,IntKind.u64.wrap (1*2 ^ min (IntKind.u64.wrap (bits-1)).toNat IntKind.u64.bits)=(ct:Int)/\2147483648<=ct/\ct<1099511627776:=by
   rcases kE with rfl|rfl
   ·exact⟨2147483648,by decide,by omega,by omega⟩
   exact⟨549755813888,by decide,by omega,by omega⟩
  obtain⟨ct,rk,aJD,aJE⟩:=rk;have ewv:IntKind.i64.wrap (v:Int)=(v:Int):=by rw[wrap_i64 (by omega)]
  rcases he with rfl|rfl|rfl
  ·push_cast -dsimp(maxSteps:=9^7) [ef,et];rw[rk];refine⟨λh=>by omega,λ_=>⟨by omega,by rcases kE with rfl|rfl<;>decide,λeY=>⟨⟨_,_,rfl,.inr (.inl rfl),λn hn h=>?_⟩,hb⟩,λao=>⟨⟨_,_,rfl,.inl rfl,λn hn h=>?_⟩,hb⟩⟩⟩
   ·first|exact absurd h (gH n hn)|(have:=(hx n (by omega) h).1;omega)
   first|exact absurd h (gH n hn)|(have:=(hx n (by omega) h).1;exact⟨by rw[ewv];omega,rfl⟩)
  ·push_cast -dsimp(maxSteps:=9^7) [ef,et];refine lu (te:=276) (k:=.i64) (q:=.i64) rfl rfl rfl Tryz.underlying34 (by kernel_rfl) (by kernel_rfl) ?_;have Vb:(!((1:Int) == 1))=false:=rfl;rw[Vb];push_cast -dsimp(maxSteps:=9^7) [ef,et];refine⟨λh=>by omega,λ_=>⟨by omega,by rcases kE with rfl|rfl<;>decide,λeY=>⟨⟨_,_,rfl,.inr (.inl rfl),λn hn h=>?_⟩,hb⟩,λao=>⟨⟨_,_,rfl,.inl rfl,λn hn h=>?_⟩,hb⟩⟩⟩
   ·first|exact absurd h (gH n hn)|(have:=(hx n (by omega) h).2;cases this)
   first|exact absurd h (gH n hn)|(have:=(hx n (by omega) h).2;cases this)
  push_cast -dsimp(maxSteps:=9^7) [ef,et];refine lu (te:=276) (k:=.i64) (q:=.i64) rfl rfl rfl Tryz.underlying34 (by kernel_rfl) (by kernel_rfl) ?_;have Vb:(!((2:Int) == 1))=true:=rfl;rw[Vb];push_cast -dsimp(maxSteps:=9^7) [ef,et];refine⟨⟨_,_,rfl,.inr (.inr rfl),λn hn h=>?_⟩,hb⟩
  first|exact absurd h (gH n hn)|(have:=(hx n (by omega) h).2;cases this)
 skip;refine aA (qt bits kE (c::r) (by first|omega|exact hs) w) ?_
 rintro _ w1 ⟨⟨v,e,rfl,hv,he,hx⟩,hb⟩;have rk:∃ct:Nat,IntKind.u64.wrap (1*2 ^ min (IntKind.u64.wrap (bits-1)).toNat IntKind.u64.bits)=(ct:Int)/\2147483648<=ct/\ct<1099511627776:=by
  rcases kE with rfl|rfl
  ·exact⟨2147483648,by decide,by omega,by omega⟩
  exact⟨549755813888,by decide,by omega,by omega⟩
 obtain⟨ct,rk,aJD,aJE⟩:=rk;have ewv:IntKind.i64.wrap (v:Int)=(v:Int):=by rw[wrap_i64 (by omega)]
 rcases he with rfl|rfl|rfl
 ·push_cast -dsimp(maxSteps:=9^7) [ef,et];rw[rk];refine⟨λh=>by omega,λ_=>⟨by omega,by rcases kE with rfl|rfl<;>decide,λeY=>⟨⟨_,_,rfl,.inr (.inl rfl),λn hn h=>?_⟩,hb⟩,λao=>⟨⟨_,_,rfl,.inl rfl,λn hn h=>?_⟩,hb⟩⟩⟩
  ·first|exact absurd h (gH n hn)|(have:=(hx n (by omega) h).1;omega)
  first|exact absurd h (gH n hn)|(have:=(hx n (by omega) h).1;exact⟨by rw[ewv];omega,rfl⟩)
 ·push_cast -dsimp(maxSteps:=9^7) [ef,et];refine lu (te:=276) (k:=.i64) (q:=.i64) rfl rfl rfl Tryz.underlying34 (by kernel_rfl) (by kernel_rfl) ?_;have Vb:(!((1:Int) == 1))=false:=rfl;rw[Vb];push_cast -dsimp(maxSteps:=9^7) [ef,et];refine⟨λh=>by omega,λ_=>⟨by omega,by rcases kE with rfl|rfl<;>decide,λeY=>⟨⟨_,_,rfl,.inr (.inl rfl),λn hn h=>?_⟩,hb⟩,λao=>⟨⟨_,_,rfl,.inl rfl,λn hn h=>?_⟩,hb⟩⟩⟩
  ·first|exact absurd h (gH n hn)|(have:=(hx n (by omega) h).2;cases this)
  first|exact absurd h (gH n hn)|(have:=(hx n (by omega) h).2;cases this)
 push_cast -dsimp(maxSteps:=9^7) [ef,et];refine lu (te:=276) (k:=.i64) (q:=.i64) rfl rfl rfl Tryz.underlying34 (by kernel_rfl) (by kernel_rfl) ?_;have Vb:(!((2:Int) == 1))=true:=rfl;rw[Vb];push_cast -dsimp(maxSteps:=9^7) [ef,et];refine⟨⟨_,_,rfl,.inr (.inr rfl),λn hn h=>?_⟩,hb⟩
 first|exact absurd h (gH n hn)|(have:=(hx n (by omega) h).2;cases this)
theorem pQ (bits:Int)(kE:bits=32\/bits=40)(s:List UInt8)(hs:s.length<=1000000000)(w:World)(h:mB w):ar Tryz.prog 167 [str s,.int .i64 16,.int .i64 bits] w λr w'=>(∃(v:Int) (e:Value),r=.tuple #[.int .i64 v,e]/\(e=.nilIface\/∃t x,e=.iface t x)/\(∀n<2147483648,s=gk n->v=n/\e=.nilIface))/\Below w.heap.size w w':=by
 refine aE Tryz.func167 rfl (by kernel_rfl) [6,7] rfl ?_;push_cast -dsimp(maxSteps:=9^7) [Tryz.ntmps167];refine aA (Mt bits kE s hs w) ?_;rintro _ w1 ⟨⟨v,e,rfl,he,hx⟩,hb⟩;rcases he with rfl|rfl|rfl
 ·push_cast -dsimp(maxSteps:=9^7) [];exact⟨⟨_,_,rfl,.inl rfl,hx⟩,hb⟩
 ·push_cast -dsimp(maxSteps:=9^7) [];refine aA (PT [80,97,114,115,101,73,110,116] s 16 bits 1 (.inl rfl) hs w1 (h.below hb)) ?_;rintro _ w2 ⟨⟨t,p,rfl⟩,dh⟩;push_cast -dsimp(maxSteps:=9^7) [];exact⟨⟨_,_,rfl,.inr ⟨_,_,rfl⟩,λn hn hh=>by have:=(hx n hn hh).2;cases this⟩,hb.trans (dh.mono hb.size)⟩
 push_cast -dsimp(maxSteps:=9^7) [];refine aA (PT [80,97,114,115,101,73,110,116] s 16 bits 2 (.inr rfl) hs w1 (h.below hb)) ?_;rintro _ w2 ⟨⟨t,p,rfl⟩,dh⟩;push_cast -dsimp(maxSteps:=9^7) [];exact⟨⟨_,_,rfl,.inr ⟨_,_,rfl⟩,λn hn hh=>by have:=(hx n hn hh).2;cases this⟩,hb.trans (dh.mono hb.size)⟩
end Go.Proofs.YtemjejfpadnljaaGreatDoor
