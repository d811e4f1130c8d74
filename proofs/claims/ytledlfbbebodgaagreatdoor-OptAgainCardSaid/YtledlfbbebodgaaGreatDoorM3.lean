/- Texts of this claim, merged: P, Set, Arg, Pset. -/
import Derived.Test.YtledlfbbebodgaaGreatDoorM2
set_option maxRecDepth 100000
set_option linter.unusedSimpArgs false
set_option linter.unusedVariables false
set_option maxHeartbeats 8000000
section
section
namespace Cae
open Go Go.Vc
theorem wrap_i64 {n:Int}(h : -9223372036854775808<=n/\n<=9223372036854775807):IntKind.i64.wrap n=n:=by rw[IntKind.wrap_i64];omega
theorem gH {n:Nat}(h:n<9223372036854775808):IntKind.i64.wrap (n:Int)=n:=wrap_i64 (by omega)
theorem wrap_u8 (n:Int):IntKind.u8.wrap n=n % 256:=by simp[IntKind.wrap,IntKind.bits,IntKind.signed]
theorem nV (n:Nat):IntKind.u8.wrap (n:Int)=((n % 256:Nat):Int):=by rw[wrap_u8];omega
theorem fS (n:Nat):IntKind.u64.wrap (n:Int)=((n % 18446744073709551616:Nat):Int):=by simp[IntKind.wrap,IntKind.bits,IntKind.signed]
theorem rS (n x:Nat):BitVec.ofInt n (x:Int)=BitVec.ofNat n x:=by
 apply BitVec.eq_of_toNat_eq;simp
theorem Ku {x y n:Nat}(h:x<2 ^ n):x &&& y<2 ^ n:=Nat.lt_of_le_of_lt Nat.and_le_left h
theorem oo {x y:Nat}(hx:x<9223372036854775808)(hy:y<9223372036854775808):eF .and .i64 x y=((x &&& y:Nat):Int):=by
 simp only[eF,rS,BitVec.toNat_and,BitVec.toNat_ofNat];rw[Nat.mod_eq_of_lt (show x<2 ^ IntKind.i64.bits by show x<2 ^ 64;omega),Nat.mod_eq_of_lt (show y<2 ^ IntKind.i64.bits by show y<2 ^ 64;omega)]
 exact gH (Ku (n:=63) hx)
theorem HZ {x y:Nat}(hx:x<9223372036854775808)(hy:y<9223372036854775808):eF .or .i64 x y=((x ||| y:Nat):Int):=by
 simp only[eF,rS,BitVec.toNat_or,BitVec.toNat_ofNat];rw[Nat.mod_eq_of_lt (show x<2 ^ IntKind.i64.bits by show x<2 ^ 64;omega),Nat.mod_eq_of_lt (show y<2 ^ IntKind.i64.bits by show y<2 ^ 64;omega)]
 exact gH (Nat.or_lt_two_pow (n:=63) hx hy)
theorem xE {x y:Nat}(hx:x<256)(hy:y<256):eF .and .u8 x y=((x &&& y:Nat):Int):=by
 simp only[eF,rS,BitVec.toNat_and,BitVec.toNat_ofNat];rw[Nat.mod_eq_of_lt (show x<2 ^ IntKind.u8.bits by show x<2 ^ 8;omega),Nat.mod_eq_of_lt (show y<2 ^ IntKind.u8.bits by show y<2 ^ 8;omega),nV,Nat.mod_eq_of_lt (Ku (n:=8) hx)]
theorem pw (x k:Nat):x &&& (2 ^ k-1)=x % 2 ^ k:=Nat.and_two_pow_sub_one_eq_mod x k
theorem aFQ {p x k:Nat}(h:x<2 ^ k):p*2 ^ k ||| x=p*2 ^ k+x:=by
 rw[Nat.mul_comm];exact(Nat.two_pow_add_eq_or_of_lt h p).symm
theorem aBP {p k:Nat}{b:Int}(hb:b.toNat=k)(hk:k<=64)(h:p*2 ^ k<9223372036854775808):IntKind.i64.wrap ((p:Int)*2 ^ min b.toNat IntKind.i64.bits)=((p*2 ^ k:Nat):Int):=by
 rw[hb,show min k IntKind.i64.bits=k from Nat.min_eq_left hk]
 rw[show ((p:Int)*2 ^ k)=((p*2 ^ k:Nat):Int) by first|(push_cast;done)|(push_cast;rfl)]
 exact gH h
theorem OZ {p k:Nat}{b:Int}{kd:IntKind}(hb:b.toNat=k)(hk:k<=kd.bits):((p:Int).fdiv (2 ^ min b.toNat kd.bits))=((p / 2 ^ k:Nat):Int):=by
 rw[hb,Nat.min_eq_left hk];rw[show (2:Int) ^ k=((2 ^ k:Nat):Int) by first|(push_cast;done)|(push_cast;rfl),Int.fdiv_eq_ediv_of_nonneg _ (Int.natCast_nonneg _)]
 rfl
abbrev Rg:=Int×Int
structure I3 where
 op:Int
 a:Int
 b:Int
 deriving DecidableEq
structure aD where
 sets:List (List Rg)
 ins:List I3
 deriving DecidableEq
def aP:Int->List Rg->Bool
 | _,[]=>true
 | last,r::s=>if r.1<=last+1\/r.2<r.1\/1114111<r.2 then false else aP r.2 s
def fK (s:List Rg)(p:Int):Bool:=s.any λr=>decide (r.1<=p/\p<=r.2)
def bP (x:I3)(sets n:Int):Bool :=
 if x.op=1 then decide (0<=x.a/\x.a<sets/\x.b=0)
 else if x.op=2 then decide ((0<=x.a/\x.a<n)/\(0<=x.b/\x.b<n))
 else if x.op=3 then decide ((0<=x.a/\x.a<n)/\x.b=0)
 else if x.op=4\/x.op=5 then decide (x.a=0/\x.b=0)
 else false
def ab (c:aD):Bool :=
 decide (1<=c.ins.length/\c.ins.length<=2000/\c.sets.length<=2000) &&
 (match c.ins[c.ins.length-1]? with|some x=>decide (x.op≠1/\x.op≠4)|none=>false) &&
 c.ins.all (λx=>bP x c.sets.length c.ins.length) && c.sets.all (aP (-2))
theorem cf:∀(s:List Rg) (last:Int),aP last s=true->∀(i:Nat) (r:Rg),s[i]?=some r->last+1<r.1/\r.1<=r.2/\r.2<=1114111/\∀(j:Nat) (q:Rg),i<j->s[j]?=some q->r.2+1<q.1
 | [],_,_,i,r,hr=>by simp at hr
 | x::s,last,h,i,r,hr=>by
  unfold aP at h;split at h
  ·cases h
  rename_i hx;have ih:=cf s x.2 h;cases i with
  | zero =>
   simp at hr;subst hr;refine⟨by omega,by omega,by omega,λj q hj hq=>?_⟩;obtain⟨k,rfl⟩:∃k,j=k+1:=⟨j-1,by omega⟩;exact(ih k q (by simpa using hq)).1
  | succ i =>
   have jN:s[i]?=some r:=by simpa using hr
   obtain⟨h1,h2,h3,h4⟩:=ih i r jN;refine⟨by omega,h2,h3,λj q hj hq=>?_⟩;obtain⟨k,rfl⟩:∃k,j=k+1:=⟨j-1,by omega⟩;exact h4 k q (by omega) (by simpa using hq)
def jS (q:List Nat)(k:Nat):List Nat:=if k∈q then q else q++[k]
inductive Lk
 | yes (st:Nat)
 | no (q nx:List Nat) (st:Nat)
def ew (c:aD)(cur:Option Int)(x:I3)(at_:Nat)(q nx:List Nat):List Nat×List Nat :=
 if x.op=2 then (jS (jS q x.a.toNat) x.b.toNat,nx)
 else if x.op=3 then (jS q x.a.toNat,nx)
 else if x.op=4 then (if cur.isNone then jS q (at_+1) else q,nx)
 else match cur with
  | some p=>(q,if fK (c.sets.getD x.a.toNat []) p then jS nx (at_+1) else nx)
  | none=>(q,nx)
def inner (c:aD)(cur:Option Int):Nat->List Nat->Nat->List Nat->Nat->Lk
 | 0,q,_,nx,st=>.no q nx st
 | f+1,q,k,nx,st=>match q[k]? with
  | none=>.no q nx st
  | some at_=>match c.ins[at_]? with
   | none=>.no q nx st
   | some x=>if x.op=5 then .yes (st+1)
    else inner c cur f (ew c cur x at_ q nx).1 (k+1) (ew c cur x at_ q nx).2 (st+1)
def outer (c:aD):List Int->List Nat->Nat->Bool×Nat
 | [],q,st=>match inner c none (c.ins.length+1) q 0 [] st with
  | .yes KF=>(true,KF)
  | .no _ _ KF=>(false,KF)
 | p::ps,q,st=>match inner c (some p) (c.ins.length+1) q 0 [] st with
  | .yes KF=>(true,KF)
  | .no _ nx KF=>if nx=[] then (false,KF) else outer c ps nx KF
def eo (c:aD)(ps:List Int):Bool×Nat:=outer c ps [0] 0
def bh (n:Nat)(q:List Nat):Prop:=q.Nodup/\∀k∈q,k<n
theorem bh.add {n:Nat}{q:List Nat}{k:Nat}(h:bh n q)(hk:k<n):bh n (jS q k):=by
 unfold jS;split
 ·exact h
 rename_i hn;refine⟨?_,λj hj=>?_⟩
 ·rw[List.nodup_append];exact⟨h.1,by simp,λa ha b hb=>by rw[List.mem_singleton]at hb;subst hb;intro e;subst e;exact hn ha⟩
 rw[List.mem_append,List.mem_singleton]at hj;rcases hj with hj|rfl
 ·exact h.2 j hj
 exact hk
theorem bh.nil (n:Nat):bh n []:=⟨List.nodup_nil,λ_ h=>by cases h⟩
theorem bh.one {n k:Nat}(h:k<n):bh n [k]:=⟨by simp,λj hj=>by rw[List.mem_singleton]at hj;omega⟩
theorem nN:∀(n:Nat) (q:List Nat),q.Nodup->(∀k∈q,k<n)->q.length<=n
 | 0,[],_,_=>Nat.le_refl _
 | 0,x::q,_,h=>absurd (h x (by simp)) (by omega)
 | n+1,q,h1,h2=>by
  have h3:=nN n (q.erase n) (h1.erase n) (λk hk=>by
   have:=(h1.mem_erase_iff).1 hk
   have:=h2 k this.2;omega)
  rw[List.length_erase]at h3;split at h3<;>omega
theorem bh.len {n:Nat}{q:List Nat}(h:bh n q):q.length<=n:=nN n q h.1 h.2
structure CR (c:aD):Prop where
 one:1<=c.ins.length
 many:c.ins.length<=2000
 sets:c.sets.length<=2000
 ins:∀(i:Nat) (x:I3),c.ins[i]?=some x->bP x c.sets.length c.ins.length=true
 next:∀(i:Nat) (x:I3),c.ins[i]?=some x->(x.op=1\/x.op=4)->i+1<c.ins.length
 set:∀s∈c.sets,aP (-2) s=true
theorem CR.of {c:aD}(h:ab c=true):CR c:=by
 unfold ab at h;simp only[Bool.and_eq_true,decide_eq_true_eq,List.all_eq_true]at h;obtain⟨⟨⟨⟨h1,h2,h3⟩,hl⟩,hi⟩,hs⟩:=h;refine⟨h1,h2,h3,λi x hx=>hi x (List.mem_of_getElem? hx),λi x hx hop=>?_,hs⟩;have aw:=(List.getElem?_eq_some_iff.1 hx).1;rcases Nat.lt_or_ge (i+1) c.ins.length with h|h
 ·exact h
 have e:i=c.ins.length-1:=by omega
 subst e;rw[hx]at hl;simp only[decide_eq_true_eq]at hl;rcases hop with h|h
 ·exact absurd h hl.1
 exact absurd h hl.2
theorem dL {x:I3}{s n:Int}(h:bP x s n=true) :
  (x.op=1/\0<=x.a/\x.a<s/\x.b=0)\/(x.op=2/\0<=x.a/\x.a<n/\0<=x.b/\x.b<n)\/(x.op=3/\0<=x.a/\x.a<n/\x.b=0)\/((x.op=4\/x.op=5)/\x.a=0/\x.b=0):=by
 unfold bP at h;split at h
 ·rename_i e;simp only[decide_eq_true_eq]at h;exact .inl ⟨e,h⟩
 split at h
 ·rename_i e;simp only[decide_eq_true_eq]at h;exact .inr (.inl ⟨e,h.1.1,h.1.2,h.2⟩)
 split at h
 ·rename_i e;simp only[decide_eq_true_eq]at h;exact .inr (.inr (.inl ⟨e,h.1.1,h.1.2,h.2⟩))
 split at h
 ·rename_i e;simp only[decide_eq_true_eq]at h;exact .inr (.inr (.inr ⟨e,h⟩))
 cases h
theorem uA {c:aD}(hc:CR c){cur:Option Int}{x:I3}{at_:Nat}{q nx:List Nat}(hx:c.ins[at_]?=some x)(h5:x.op≠5)(hq:bh c.ins.length q)(hn:bh c.ins.length nx) :
  bh c.ins.length (ew c cur x at_ q nx).1/\bh c.ins.length (ew c cur x at_ q nx).2:=by
 have hr:=dL (hc.ins at_ x hx);have jD:=hc.next at_ x hx;unfold ew;rcases hr with ⟨e,h1,h2,h3⟩|⟨e,h1,h2,h3,h4⟩|⟨e,h1,h2,h3⟩|⟨e|e,h1,h2⟩
 ·rw[if_neg (by omega),if_neg (by omega),if_neg (by omega)];cases cur with
  | none=>exact⟨hq,hn⟩
  | some p =>
   refine⟨hq,?_⟩;dsimp only;split
   ·exact hn.add (jD (.inl e))
   exact hn
 ·rw[if_pos e];exact⟨(hq.add (by omega)).add (by omega),hn⟩
 ·rw[if_neg (by omega),if_pos e];exact⟨hq.add (by omega),hn⟩
 ·rw[if_neg (by omega),if_neg (by omega),if_pos e];refine⟨?_,hn⟩;dsimp only;split
  ·exact hq.add (jD (.inr e))
  exact hq
 exact absurd e h5
theorem tg (q:List Nat)(k:Nat):q.length<=(jS q k).length:=by
 unfold jS;split
 ·exact Nat.le_refl _
 simp
theorem Qo {c:aD}{cur:Option Int}{f:Nat}{q:List Nat}{k:Nat}{nx:List Nat}{st at_:Nat}{x:I3}(h1:q[k]?=some at_)(h2:c.ins[at_]?=some x)(h5:x.op=5):inner c cur (f+1) q k nx st=.yes (st+1):=by
 rw[inner,h1];dsimp only;rw[h2];dsimp only;rw[if_pos h5]
theorem pF {c:aD}{cur:Option Int}{f:Nat}{q:List Nat}{k:Nat}{nx:List Nat}{st at_:Nat}{x:I3}(h1:q[k]?=some at_)(h2:c.ins[at_]?=some x)(h5:x.op≠5) :
  inner c cur (f+1) q k nx st=inner c cur f (ew c cur x at_ q nx).1 (k+1) (ew c cur x at_ q nx).2 (st+1):=by
 rw[inner,h1];dsimp only;rw[h2];dsimp only;rw[if_neg h5]
theorem Qn {c:aD}{cur:Option Int}{f:Nat}{q:List Nat}{k:Nat}{nx:List Nat}{st:Nat}(h1:q[k]?=none):inner c cur (f+1) q k nx st=.no q nx st:=by
 rw[inner,h1]
theorem XV (c:aD)(ps:List Int)(i:Nat)(q:List Nat)(st:Nat)(hi:i<=ps.length):outer c (ps.drop i) q st =
  match inner c ps[i]? (c.ins.length+1) q 0 [] st with
  | .yes KF=>(true,KF)
  | .no _ nx KF=>if ps.length<=i\/nx=[] then (false,KF) else outer c (ps.drop (i+1)) nx KF:=by
 rcases Nat.lt_or_ge i ps.length with h|h
 ·rw[List.drop_eq_getElem_cons h,List.getElem?_eq_getElem h,outer];split
  ·rfl
  split
  ·rename_i e;rw[if_pos (.inr e)]
  rename_i e;rw[if_neg (by intro h';rcases h' with h'|h';omega;exact e h')]
 rw[List.drop_eq_nil_of_le h,List.getElem?_eq_none h,outer];split
 ·rfl
 rw[if_pos (.inl h)]
theorem uX {c:aD}(hc:CR c){cur:Option Int}:∀(f:Nat) (q:List Nat) (k:Nat) (nx:List Nat) (st:Nat),bh c.ins.length q->bh c.ins.length nx ->
  ∀q' Dx KF,inner c cur f q k nx st=.no q' Dx KF->bh c.ins.length q'/\bh c.ins.length Dx
 | 0,q,k,nx,st,hq,hn,q',Dx,KF,h=>by
  rw[inner]at h;cases h;exact⟨hq,hn⟩
 | f+1,q,k,nx,st,hq,hn,q',Dx,KF,h=>by
  rw[inner]at h;split at h
  ·cases h;exact⟨hq,hn⟩
  split at h
  ·cases h;exact⟨hq,hn⟩
  rename_i x hx;split at h
  ·cases h
  rename_i h5;obtain⟨h1,h2⟩:=uA hc (cur:=cur) hx h5 hq hn;exact uX hc f _ _ _ _ h1 h2 _ _ _ h
structure bg where
 brk:Bool
 before:aD
 after:aD
 deriving DecidableEq
structure dX where
 rules:List bg
 els:Bool
 deriving DecidableEq
def bt (n:Nat):UInt8:=UInt8.ofNat n
def eG (p:dX):Bool:=decide (p.rules.length<=20) && p.rules.all λr=>ab r.before && ab r.after
structure St where
 s:List UInt8
 bad:Bool
 deriving DecidableEq
theorem mZ {p:dX}(h:eG p=true):p.rules.length<=20/\∀r∈p.rules,ab r.before=true/\ab r.after=true:=by
 unfold eG at h;simp only[Bool.and_eq_true,decide_eq_true_eq,List.all_eq_true]at h;exact h
def fO (ps:List Int)(i:Nat)(r:bg):Bool:=(eo r.before (ps.take i).reverse).1 && (eo r.after (ps.drop i)).1
def ee (p:dX)(ps:List Int)(i k:Nat):Bool:=(p.rules.drop k).foldr (λr acc=>if fO ps i r then r.brk else acc) p.els
def nL (p:dX)(ps:List Int)(i:Nat):Bool:=ee p ps i 0 || decide (i=0) || decide (i=ps.length)
def bm (p:dX)(ps:List Int)(n:Nat):List Nat:=(List.range n).filter (nL p ps)
def jz (p:dX)(ps:List Int):List Nat:=if ps=[] then [] else bm p ps (ps.length+1)
theorem rp (p:dX)(ps:List Int)(n:Nat):bm p ps (n+1)=if nL p ps n then bm p ps n++[n] else bm p ps n:=by
 unfold bm;rw[List.range_succ,List.filter_append];cases h:nL p ps n<;>simp[List.filter,h]
theorem Es (p:dX)(ps:List Int)(n:Nat):(bm p ps n).length<=n:=by
 unfold bm;exact Nat.le_trans (List.length_filter_le _ _) (by simp)
theorem rq (p:dX)(ps:List Int):bm p ps 0=[]:=rfl
theorem Gj (p:dX)(ps:List Int)(i k:Nat)(h:p.rules.length<=k):ee p ps i k=p.els:=by
 unfold ee;rw[List.drop_eq_nil_of_le h];rfl
theorem DN {p:dX}{ps:List Int}{i k:Nat}{r:bg}(h:p.rules[k]?=some r):ee p ps i k=if fO ps i r then r.brk else ee p ps i (k+1):=by
 have aw:=(List.getElem?_eq_some_iff.1 h).1;unfold ee;rw[List.drop_eq_getElem_cons aw,List.foldr_cons]
 have:=List.getElem?_eq_getElem aw;rw[h]at this;cases this;rfl
def dI (c:aD):Nat->Nat->List Int->Prop
 | 0,_,_=>False
 | h+1,k,ps=>match c.ins[k]? with
  | none=>False
  | some x=>if x.op=5 then True
   else if x.op=2 then dI c h x.a.toNat ps\/dI c h x.b.toNat ps
   else if x.op=3 then dI c h x.a.toNat ps
   else if x.op=4 then ps=[]/\dI c h (k+1) ps
   else match ps with
    | []=>False
    | p::r=>fK (c.sets.getD x.a.toNat []) p=true/\dI c h (k+1) r
def Acc (c:aD)(k:Nat)(ps:List Int):Prop:=∃h,dI c h k ps
theorem lk {c:aD}:∀(h:Nat) (k:Nat) (ps:List Int),dI c h k ps->dI c (h+1) k ps
 | 0,k,ps,hh=>hh.elim
 | h+1,k,ps,hh=>by
  rw[dI]at hh ⊢
  cases hx:c.ins[k]? with
  | none=>rw[hx]at hh;exact hh
  | some x =>
   rw[hx]at hh;dsimp only at hh ⊢
   by_cases h5:x.op=5
   ·rw[if_pos h5];trivial
   rw[if_neg h5]at hh ⊢
   by_cases h2:x.op=2
   ·rw[if_pos h2]at hh ⊢;exact hh.imp (lk h _ _) (lk h _ _)
   rw[if_neg h2]at hh ⊢
   by_cases h3:x.op=3
   ·rw[if_pos h3]at hh ⊢;exact lk h _ _ hh
   rw[if_neg h3]at hh ⊢
   by_cases h4:x.op=4
   ·rw[if_pos h4]at hh ⊢;exact⟨hh.1,lk h _ _ hh.2⟩
   rw[if_neg h4]at hh ⊢
   cases ps with
   | nil=>exact hh
   | cons p r=>exact⟨hh.1,lk h _ _ hh.2⟩
theorem lS {c:aD}{k:Nat}{ps:List Int}{x:I3}(hx:c.ins[k]?=some x)(h:x.op=5):Acc c k ps:=⟨1,by rw[dI,hx];dsimp only;rw[if_pos h];trivial⟩
theorem fC {c:aD}{k:Nat}{ps:List Int}{x:I3}(hx:c.ins[k]?=some x)(h:x.op=2):Acc c k ps↔Acc c x.a.toNat ps\/Acc c x.b.toNat ps:=by
 constructor
 ·rintro⟨h',hh⟩;cases h' with
  | zero=>exact hh.elim
  | succ h' =>
   rw[dI,hx]at hh;dsimp only at hh;rw[if_neg (by omega),if_pos h]at hh;exact hh.imp (λh=>⟨_,h⟩) (λh=>⟨_,h⟩)
 rintro(⟨h',hh⟩|⟨h',hh⟩)
 ·exact⟨h'+1,by rw[dI,hx];dsimp only;rw[if_neg (by omega),if_pos h];exact .inl hh⟩
 exact⟨h'+1,by rw[dI,hx];dsimp only;rw[if_neg (by omega),if_pos h];exact .inr hh⟩
theorem gJ {c:aD}{k:Nat}{ps:List Int}{x:I3}(hx:c.ins[k]?=some x)(h:x.op=3):Acc c k ps↔Acc c x.a.toNat ps:=by
 constructor
 ·rintro⟨h',hh⟩;cases h' with
  | zero=>exact hh.elim
  | succ h' =>
   rw[dI,hx]at hh;dsimp only at hh;rw[if_neg (by omega),if_neg (by omega),if_pos h]at hh;exact⟨_,hh⟩
 rintro⟨h',hh⟩;exact⟨h'+1,by rw[dI,hx];dsimp only;rw[if_neg (by omega),if_neg (by omega),if_pos h];exact hh⟩
theorem mu {c:aD}{k:Nat}{ps:List Int}{x:I3}(hx:c.ins[k]?=some x)(h:x.op=4):Acc c k ps↔ps=[]/\Acc c (k+1) ps:=by
 constructor
 ·rintro⟨h',hh⟩;cases h' with
  | zero=>exact hh.elim
  | succ h' =>
   rw[dI,hx]at hh;dsimp only at hh;rw[if_neg (by omega),if_neg (by omega),if_neg (by omega),if_pos h]at hh;exact⟨hh.1,_,hh.2⟩
 rintro⟨h0,h',hh⟩;exact⟨h'+1,by rw[dI,hx];dsimp only;rw[if_neg (by omega),if_neg (by omega),if_neg (by omega),if_pos h];exact⟨h0,hh⟩⟩
theorem gi {c:aD}{k:Nat}{ps:List Int}{x:I3}(hx:c.ins[k]?=some x)(h:x.op≠2/\x.op≠3/\x.op≠4/\x.op≠5):Acc c k ps↔∃p r,ps=p::r/\fK (c.sets.getD x.a.toNat []) p=true/\Acc c (k+1) r:=by
 constructor
 ·rintro⟨h',hh⟩;cases h' with
  | zero=>exact hh.elim
  | succ h' =>
   rw[dI,hx]at hh;dsimp only at hh;rw[if_neg (by omega),if_neg (by omega),if_neg (by omega),if_neg (by omega)]at hh;cases ps with
   | nil=>exact hh.elim
   | cons p r=>exact⟨p,r,rfl,hh.1,_,hh.2⟩
 rintro⟨p,r,rfl,h0,h',hh⟩;exact⟨h'+1,by rw[dI,hx];dsimp only;rw[if_neg (by omega),if_neg (by omega),if_neg (by omega),if_neg (by omega)];exact⟨h0,hh⟩⟩
theorem eS {q:List Nat}{k j:Nat}:j∈jS q k↔j∈q\/j=k:=by
 unfold jS;split
 ·rename_i h;exact⟨.inl,λhh=>hh.elim id (λe=>e▸h)⟩
 simp
theorem tf {q:List Nat}{k:Nat}:∀(i:Nat) (j:Nat),q[i]?=some j->(jS q k)[i]?=some j:=by
 intro i j h;unfold jS;split
 ·exact h
 rw[List.getElem?_append_left (List.getElem?_eq_some_iff.1 h).1];exact h
def HT (cur:Option Int)(r:List Int):List Int:=match cur with|none=>[]|some p=>p::r
theorem xH {c:aD}{cur:Option Int}{x:I3}{at_:Nat}{q nx:List Nat}(hx:c.ins[at_]?=some x)(h5:x.op≠5)(r:List Int) :
  (∀j∈(ew c cur x at_ q nx).1,j∈q\/(Acc c j (HT cur r)->Acc c at_ (HT cur r))) /\
  (∀j∈(ew c cur x at_ q nx).2,j∈nx\/(cur≠none/\(Acc c j r->Acc c at_ (HT cur r)))) /\
  (∀(i j:Nat),q[i]?=some j->(ew c cur x at_ q nx).1[i]?=some j):=by
 unfold ew;by_cases h2:x.op=2
 ·rw[if_pos h2];refine⟨λj hj=>?_,λj hj=>.inl hj,λi j h=>tf _ _ (tf _ _ h)⟩;rw[eS,eS]at hj;rcases hj with (hj|rfl)|rfl
  ·exact .inl hj
  ·exact .inr λh=>(fC hx h2).2 (.inl h)
  exact .inr λh=>(fC hx h2).2 (.inr h)
 rw[if_neg h2];by_cases h3:x.op=3
 ·rw[if_pos h3];refine⟨λj hj=>?_,λj hj=>.inl hj,λi j h=>tf _ _ h⟩;rw[eS]at hj;rcases hj with hj|rfl
  ·exact .inl hj
  exact .inr λh=>(gJ hx h3).2 h
 rw[if_neg h3];by_cases h4:x.op=4
 ·rw[if_pos h4];cases cur with
  | none =>
   refine⟨λj hj=>?_,λj hj=>.inl hj,λi j h=>tf _ _ h⟩;have hj:j∈jS q (at_+1):=hj;rw[eS]at hj;rcases hj with hj|rfl
   ·exact .inl hj
   exact .inr λh=>(mu hx h4).2 ⟨rfl,h⟩
  | some p=>exact⟨λj hj=>.inl hj,λj hj=>.inl hj,λi j h=>h⟩
 rw[if_neg h4];cases cur with
 | none=>exact⟨λj hj=>.inl hj,λj hj=>.inl hj,λi j h=>h⟩
 | some p =>
  refine⟨λj hj=>.inl hj,λj hj=>?_,λi j h=>h⟩;dsimp only at hj;split at hj
  ·rename_i hh;rw[eS]at hj;rcases hj with hj|rfl
   ·exact .inl hj
   exact .inr ⟨by simp,λh=>(gi hx ⟨h2,h3,h4,h5⟩).2 ⟨p,r,rfl,hh,h⟩⟩
  exact .inl hj
def HS (c:aD)(cur:Option Int)(q nx:List Nat)(at_:Nat):Prop:=∀x,c.ins[at_]?=some x->x.op≠5/\(x.op=2->x.a.toNat∈q/\x.b.toNat∈q)/\(x.op=3->x.a.toNat∈q)/\(x.op=4->cur=none->at_+1∈q) /\
 (x.op≠2->x.op≠3->x.op≠4->∀p,cur=some p->fK (c.sets.getD x.a.toNat []) p=true->at_+1∈nx)
theorem HS.mono {c:aD}{cur:Option Int}{q nx q' Dx:List Nat}{at_:Nat}(h:HS c cur q nx at_)(hq:∀j∈q,j∈q')(hn:∀j∈nx,j∈Dx):HS c cur q' Dx at_:=λx hx=>by
 obtain⟨h1,h2,h3,h4,h5⟩:=h x hx;exact⟨h1,λe=>⟨hq _ (h2 e).1,hq _ (h2 e).2⟩,λe=>hq _ (h3 e),λe e'=>hq _ (h4 e e'),λa b d p e e'=>hn _ (h5 a b d p e e')⟩
theorem LZ {c:aD}{cur:Option Int}{x:I3}{at_:Nat}{q nx:List Nat}(hx:c.ins[at_]?=some x)(h5:x.op≠5) :
  HS c cur (ew c cur x at_ q nx).1 (ew c cur x at_ q nx).2 at_/\(∀j∈q,j∈(ew c cur x at_ q nx).1)/\(∀j∈nx,j∈(ew c cur x at_ q nx).2):=by
 unfold ew HS;by_cases h2:x.op=2
 ·rw[if_pos h2];refine⟨λy hy=>?_,λj hj=>eS.2 (.inl (eS.2 (.inl hj))),λj hj=>hj⟩;rw[hx]at hy;cases hy;exact⟨h5,λ_=>⟨eS.2 (.inl (eS.2 (.inr rfl))),eS.2 (.inr rfl)⟩,λh=>absurd h (by omega),λh=>absurd h (by omega),λh=>absurd h2 h⟩
 rw[if_neg h2];by_cases h3:x.op=3
 ·rw[if_pos h3];refine⟨λy hy=>?_,λj hj=>eS.2 (.inl hj),λj hj=>hj⟩;rw[hx]at hy;cases hy;exact⟨h5,λh=>absurd h h2,λ_=>eS.2 (.inr rfl),λh=>absurd h (by omega),λ_ h=>absurd h3 h⟩
 rw[if_neg h3];by_cases h4:x.op=4
 ·rw[if_pos h4];refine⟨λy hy=>?_,λj hj=>?_,λj hj=>hj⟩
  ·rw[hx]at hy;cases hy;refine⟨h5,λh=>absurd h h2,λh=>absurd h h3,λ_ e=>?_,λ_ _ h=>absurd h4 h⟩;subst e;exact eS.2 (.inr rfl)
  dsimp only;split
  ·exact eS.2 (.inl hj)
  exact hj
 rw[if_neg h4];cases cur with
 | none =>
  refine⟨λy hy=>?_,λj hj=>hj,λj hj=>hj⟩;rw[hx]at hy;cases hy;exact⟨h5,λh=>absurd h h2,λh=>absurd h h3,λh=>absurd h h4,λ_ _ _ p h=>by cases h⟩
 | some p =>
  refine⟨λy hy=>?_,λj hj=>hj,λj hj=>?_⟩
  ·rw[hx]at hy;cases hy;refine⟨h5,λh=>absurd h h2,λh=>absurd h h3,λh=>absurd h h4,λ_ _ _ p' e hh=>?_⟩;cases e;dsimp only;rw[if_pos hh];exact eS.2 (.inr rfl)
  dsimp only;split
  ·exact eS.2 (.inl hj)
  exact hj
theorem xZ {c:aD}(cur:Option Int)(r:List Int)(G:Prop)(hG:∀p,cur=some p->True):∀(f:Nat) (q:List Nat) (k:Nat) (nx:List Nat) (st:Nat),(∀j∈q,Acc c j (HT cur r)->G)->(∀j∈nx,cur≠none/\(Acc c j r->G)) ->
  (∀s,inner c cur f q k nx st=.yes s->G)/\(∀q' Dx s,inner c cur f q k nx st=.no q' Dx s->(∀j∈Dx,cur≠none/\(Acc c j r->G)))
 | 0,q,k,nx,st,hq,hn=>⟨λs h=>(by rw[inner]at h;cases h),λq' Dx s h=>by rw[inner]at h;cases h;exact hn⟩
 | f+1,q,k,nx,st,hq,hn=>by
  rw[inner];cases hk:q[k]? with
  | none=>exact⟨λs h=>(by cases h),λq' Dx s h=>by cases h;exact hn⟩
  | some at_ =>
   dsimp only;cases hx:c.ins[at_]? with
   | none=>exact⟨λs h=>(by cases h),λq' Dx s h=>by cases h;exact hn⟩
   | some x =>
    dsimp only;have Fj:=hq at_ (List.mem_of_getElem? hk);by_cases h5:x.op=5
    ·rw[if_pos h5];exact⟨λs _=>Fj (lS hx h5),λq' Dx s h=>by cases h⟩
    rw[if_neg h5];obtain⟨e1,e2,_⟩:=xH (cur:=cur) (q:=q) (nx:=nx) hx h5 r;exact xZ cur r G hG f _ _ _ _ (λj hj ha=>(e1 j hj).elim (λh=>hq j h ha) (λh=>Fj (h ha)))
     (λj hj=>(e2 j hj).elim (λh=>hn j h) (λh=>⟨h.1,λha=>Fj (h.2 ha)⟩))
theorem uW {c:aD}(hc:CR c)(cur:Option Int):∀(f:Nat) (q:List Nat) (k:Nat) (nx:List Nat) (st:Nat),bh c.ins.length q->bh c.ins.length nx->c.ins.length+1<=f+k ->
  (∀(i j:Nat),i<k->q[i]?=some j->HS c cur q nx j)->∀q' Dx s,inner c cur f q k nx st=.no q' Dx s->(∀j∈q,j∈q')/\∀j∈q',HS c cur q' Dx j
 | 0,q,k,nx,st,hq,hn,hf,hd,q',Dx,s,h=>by
  rw[inner]at h;cases h;refine⟨λj h=>h,λj hj=>?_⟩;obtain⟨i,hi⟩:=List.getElem?_of_mem hj
  have:=(List.getElem?_eq_some_iff.1 hi).1
  have:=hq.len;exact hd i j (by omega) hi
 | f+1,q,k,nx,st,hq,hn,hf,hd,q',Dx,s,h=>by
  rw[inner]at h;cases hk:q[k]? with
  | none =>
   rw[hk]at h;cases h;refine⟨λj h=>h,λj hj=>?_⟩;obtain⟨i,hi⟩:=List.getElem?_of_mem hj;have h1:=(List.getElem?_eq_some_iff.1 hi).1;have h2:=List.getElem?_eq_none_iff.1 hk;exact hd i j (by omega) hi
  | some at_ =>
   rw[hk]at h;dsimp only at h;have aw:=hq.2 at_ (List.mem_of_getElem? hk);cases hx:c.ins[at_]? with
   | none=>have:=List.getElem?_eq_none_iff.1 hx;omega
   | some x =>
    rw[hx]at h;dsimp only at h;by_cases h5:x.op=5
    ·rw[if_pos h5]at h;cases h
    rw[if_neg h5]at h;obtain⟨p1,p2⟩:=uA hc (cur:=cur) hx h5 hq hn;obtain⟨d1,d2,d3⟩:=LZ (cur:=cur) (q:=q) (nx:=nx) hx h5;obtain⟨_,_,e3⟩:=xH (cur:=cur) (q:=q) (nx:=nx) hx h5 [];obtain⟨r1,r2⟩:=uW hc cur f _ (k+1) _ _ p1 p2 (by omega) (λi j hi hj=>by
     rcases Nat.lt_or_ge i k with WA|WA
     ·have aw:i<q.length:=by
       have:=(List.getElem?_eq_some_iff.1 hk).1;omega
      have hq1:=e3 i _ (List.getElem?_eq_getElem aw);rw[hj]at hq1;cases hq1;exact(hd i _ WA (List.getElem?_eq_getElem aw)).mono d2 d3
     have:i=k:=by omega
     subst this;have hq1:=e3 i _ hk;rw[hj]at hq1;cases hq1;exact d1) q' Dx s h
    exact⟨λj hj=>r1 j (d2 j hj),r2⟩
theorem mG {c:aD}{cur:Option Int}{q nx:List Nat}{r:List Int}(hd:∀j∈q,HS c cur q nx j):∀(h:Nat) (j:Nat),j∈q->dI c h j (HT cur r)->cur≠none/\∃k∈nx,Acc c k r
 | 0,j,hj,ha=>ha.elim
 | h+1,j,hj,ha=>by
  rw[dI]at ha;cases hx:c.ins[j]? with
  | none=>rw[hx]at ha;exact ha.elim
  | some x =>
   rw[hx]at ha;dsimp only at ha;obtain⟨h5,h2,h3,h4,h1⟩:=hd j hj x hx;rw[if_neg h5]at ha;by_cases e2:x.op=2
   ·rw[if_pos e2]at ha;rcases ha with ha|ha
    ·exact mG hd h _ (h2 e2).1 ha
    exact mG hd h _ (h2 e2).2 ha
   rw[if_neg e2]at ha;by_cases e3:x.op=3
   ·rw[if_pos e3]at ha;exact mG hd h _ (h3 e3) ha
   rw[if_neg e3]at ha;by_cases e4:x.op=4
   ·rw[if_pos e4]at ha;cases cur with
    | none=>exact mG hd h _ (h4 e4 rfl) ha.2
    | some p=>cases ha.1
   rw[if_neg e4]at ha;cases cur with
   | none=>exact ha.elim
   | some p =>
    have ha:fK (c.sets.getD x.a.toNat []) p=true/\dI c h (j+1) r:=ha;exact⟨by simp,_,h1 e2 e3 e4 p rfl ha.1,_,ha.2⟩
theorem Aj {c:aD}(hc:CR c)(cur:Option Int)(r:List Int){q:List Nat}(hq:bh c.ins.length q)(st:Nat) :
  (∀s,inner c cur (c.ins.length+1) q 0 [] st=.yes s->∃j∈q,Acc c j (HT cur r)) /\
  (∀q' nx s,inner c cur (c.ins.length+1) q 0 [] st=.no q' nx s->bh c.ins.length nx/\(cur=none->nx=[])/\((∃j∈q,Acc c j (HT cur r))↔∃k∈nx,Acc c k r)):=by
 have hs:=xZ (c:=c) cur r (∃j∈q,Acc c j (HT cur r)) (λ_ _=>trivial) (c.ins.length+1) q 0 [] st (λj hj ha=>⟨j,hj,ha⟩) (λj hj=>by cases hj);refine⟨hs.1,λq' nx s h=>?_⟩;have h2:=hs.2 q' nx s h;obtain⟨h3,h4⟩:=uW hc cur (c.ins.length+1) q 0 [] st hq (bh.nil _) (by omega) (λi j hi=>absurd hi (by omega)) q' nx s h;refine⟨(uX hc _ _ _ _ _ hq (bh.nil _) _ _ _ h).2,λe=>?_,?_,?_⟩
 ·cases nx with
  | nil=>rfl
  | cons k t=>exact absurd e (h2 k (by simp)).1
 ·rintro⟨j,hj,hh,ha⟩;exact(mG h4 hh j (h3 j hj) ha).2
 rintro⟨k,hk,ha⟩;exact(h2 k hk).2 ha
theorem Dz {c:aD}(hc:CR c):∀(ps:List Int) (q:List Nat) (st:Nat),bh c.ins.length q->((outer c ps q st).1=true↔∃j∈q,Acc c j ps)
 | [],q,st,hq=>by
  obtain⟨h1,h2⟩:=Aj hc none [] hq st;rw[outer];cases hi:inner c none (c.ins.length+1) q 0 [] st with
  | yes s=>exact⟨λ_=>h1 s hi,λ_=>rfl⟩
  | no q' nx s =>
   obtain⟨_,h3,h4⟩:=h2 q' nx s hi;rw[h3 rfl]at h4;exact⟨λh=>(by cases h),λh=>(by obtain⟨k,hk,_⟩:=h4.1 h;cases hk)⟩
 | p::ps,q,st,hq=>by
  obtain⟨h1,h2⟩:=Aj hc (some p) ps hq st;rw[outer];cases hi:inner c (some p) (c.ins.length+1) q 0 [] st with
  | yes s=>exact⟨λ_=>h1 s hi,λ_=>rfl⟩
  | no q' nx s =>
   obtain⟨h3,_,h4⟩:=h2 q' nx s hi;dsimp only;by_cases hn:nx=[]
   ·rw[if_pos hn];subst hn;exact⟨λh=>(by cases h),λh=>(by obtain⟨k,hk,_⟩:=h4.1 h;cases hk)⟩
   rw[if_neg hn,Dz hc ps nx s h3];exact h4.symm
theorem mi {c:aD}(hc:CR c)(ps:List Int):(eo c ps).1=true↔Acc c 0 ps:=by
 unfold eo;rw[Dz hc ps [0] 0 (bh.one hc.one)];simp
theorem CR.to {c:aD}(h:CR c):ab c=true:=by
 have h1:=h.one;have hl:c.ins.length-1<c.ins.length:=by omega
 have hx:=List.getElem?_eq_getElem hl;have hn:=h.next _ _ hx;unfold ab;rw[hx];simp only[Bool.and_eq_true,decide_eq_true_eq,List.all_eq_true];refine⟨⟨⟨⟨h.one,h.many,h.sets⟩,⟨λe=>?_,λe=>?_⟩⟩,λx hx=>?_⟩,h.set⟩
 ·have:=hn (.inl e);omega
 ·have:=hn (.inr e);omega
 obtain⟨i,hi⟩:=List.getElem?_of_mem hx;exact h.ins i x hi
def sY (c:aD):Nat->Nat->Nat
 | 0,k=>k
 | f+1,k=>match c.ins[k]? with
  | none=>k
  | some x=>if x.op=3 then sY c f x.a.toNat else k
def gT (c:aD)(k:Nat):Nat:=sY c c.ins.length k
theorem iY {c:aD}(hc:CR c){i:Nat}{x:I3}(hx:c.ins[i]?=some x)(h:x.op=3):0<=x.a/\x.a.toNat<c.ins.length/\x.b=0:=by
 rcases dL (hc.ins i x hx) with ⟨e,h1,h2,h3⟩|⟨e,h1,h2,h3,h4⟩|⟨e,h1,h2,h3⟩|⟨e|e,h1,h2⟩
 all_goals first|omega|(exact⟨h1,by omega,h3⟩)
theorem mS {c:aD}(hc:CR c){i:Nat}{x:I3}(hx:c.ins[i]?=some x)(h:x.op=2):0<=x.a/\x.a.toNat<c.ins.length/\0<=x.b/\x.b.toNat<c.ins.length:=by
 rcases dL (hc.ins i x hx) with ⟨e,h1,h2,h3⟩|⟨e,h1,h2,h3,h4⟩|⟨e,h1,h2,h3⟩|⟨e|e,h1,h2⟩
 all_goals first|omega|(exact⟨h1,by omega,h3,by omega⟩)
theorem iZ {c:aD}(hc:CR c){i:Nat}{x:I3}(hx:c.ins[i]?=some x)(h:x.op≠2/\x.op≠3/\x.op≠4/\x.op≠5):x.op=1/\0<=x.a/\x.a.toNat<c.sets.length/\x.b=0:=by
 rcases dL (hc.ins i x hx) with ⟨e,h1,h2,h3⟩|⟨e,h1,h2,h3,h4⟩|⟨e,h1,h2,h3⟩|⟨e|e,h1,h2⟩
 all_goals first|omega|(exact⟨e,h1,by omega,h3⟩)
theorem yh {c:aD}(hc:CR c):∀(f k:Nat),k<c.ins.length->sY c f k<c.ins.length
 | 0,k,h=>h
 | f+1,k,h=>by
  rw[sY];split
  ·exact h
  rename_i x hx;split
  ·rename_i h3;exact yh hc f _ (iY hc hx h3).2.1
  exact h
theorem qE {c:aD}:∀(f k:Nat) (ps:List Int),Acc c (sY c f k) ps↔Acc c k ps
 | 0,k,ps=>Iff.rfl
 | f+1,k,ps=>by
  rw[sY];split
  ·exact Iff.rfl
  rename_i x hx;split
  ·rename_i h3;rw[qE f,gJ hx h3]
  exact Iff.rfl
theorem rL {c:aD}:∀(f h k:Nat) (ps:List Int),dI c h k ps->dI c h (sY c f k) ps
 | 0,h,k,ps,ha=>ha
 | f+1,h,k,ps,ha=>by
  rw[sY];split
  ·exact ha
  rename_i x hx;split
  ·rename_i h3;cases h with
   | zero=>exact ha.elim
   | succ h =>
    rw[dI,hx]at ha;dsimp only at ha;rw[if_neg (by omega),if_neg (by omega),if_pos h3]at ha;exact rL f _ _ _ (lk _ _ _ ha)
  exact ha
def bO (c:aD)(x:I3):I3 :=
 if x.op=3 then ⟨x.op,gT c x.a.toNat,x.b⟩
 else if x.op=2 then (if gT c x.a.toNat=gT c x.b.toNat then ⟨3,gT c x.a.toNat,0⟩ else ⟨x.op,gT c x.a.toNat,gT c x.b.toNat⟩)
 else x
def fQ (c:aD)(i:Nat):aD:=match c.ins[i]? with
 | none=>c
 | some x=>⟨c.sets,c.ins.set i (bO c x)⟩
def ah (c:aD):Nat->aD
 | 0=>c
 | i+1=>fQ (ah c i) i
def oX (c:aD):aD:=ah c c.ins.length
theorem Gp {c:aD}(hc:CR c){i:Nat}{x:I3}(hx:c.ins[i]?=some x):bP (bO c x) c.sets.length c.ins.length=true/\((bO c x).op=1\/(bO c x).op=4->bO c x=x):=by
 unfold bO;split
 ·rename_i h3;obtain⟨h1,h2,hb⟩:=iY hc hx h3
  have:=yh hc c.ins.length _ h2;refine⟨?_,λh=>by dsimp only at h;omega⟩;unfold bP gT;dsimp only;rw[if_neg (by omega),if_neg (by omega),if_pos h3];exact decide_eq_true ⟨⟨by omega,by omega⟩,hb⟩
 split
 ·rename_i h3 h2;obtain⟨a1,a2,b1,b2⟩:=mS hc hx h2;have ha:=yh hc c.ins.length _ a2;have hb:=yh hc c.ins.length _ b2;split
  ·refine⟨?_,λh=>by dsimp only at h;omega⟩;unfold bP gT;dsimp only;rw[if_neg (by omega),if_neg (by omega),if_pos rfl];exact decide_eq_true ⟨⟨by omega,by omega⟩,rfl⟩
  refine⟨?_,λh=>by dsimp only at h;omega⟩;unfold bP gT;dsimp only;rw[if_neg (by omega),if_pos h2];exact decide_eq_true ⟨⟨by omega,by omega⟩,by omega,by omega⟩
 exact⟨hc.ins i x hx,λ_=>rfl⟩
theorem gy {c:aD}{i:Nat}{x:I3}(hx:c.ins[i]?=some x)(j:Nat):(fQ c i).ins[j]?=if j=i then some (bO c x) else c.ins[j]?:=by
 unfold fQ;rw[hx];dsimp only;rw[List.getElem?_set]
 have:=(List.getElem?_eq_some_iff.1 hx).1;by_cases h:j=i
 ·subst h;rw[if_pos rfl,if_pos rfl,if_pos this]
 rw[if_neg h,if_neg (λe=>h e.symm)]
theorem j7 (c:aD)(i:Nat):(fQ c i).sets=c.sets:=by unfold fQ;split<;>rfl
theorem kZ (c:aD)(i:Nat):(fQ c i).ins.length=c.ins.length:=by unfold fQ;split<;>simp
theorem Mo {c:aD}(hc:CR c)(i:Nat):CR (fQ c i):=by
 cases hx:c.ins[i]? with
 | none=>unfold fQ;rw[hx];exact hc
 | some x =>
  have hs:=Gp hc hx;refine⟨by rw[kZ];exact hc.one,by rw[kZ];exact hc.many,by rw[j7];exact hc.sets,λj y hy=>?_,λj y hy ho=>?_,by rw[j7];exact hc.set⟩
  ·rw[gy hx]at hy;rw[j7,kZ];split at hy
   ·cases hy;exact hs.1
   exact hc.ins j y hy
  rw[gy hx]at hy;rw[kZ];split at hy
  ·rename_i e;cases hy;rw[hs.2 ho]at ho;subst e;exact hc.next j x hx ho
  exact hc.next j y hy ho
theorem KL {c:aD}(hc:CR c)(i:Nat)(k:Nat)(ps:List Int):Acc (fQ c i) k ps↔Acc c k ps:=by
 cases hx:c.ins[i]? with
 | none=>unfold fQ;rw[hx]
 | some x =>
  have A8:=j7 c i;constructor
  ·rintro⟨h,ha⟩;induction h generalizing k ps with
   | zero=>exact ha.elim
   | succ h ih =>
    by_cases hk:k=i
    ·subst hk;have hy:(fQ c k).ins[k]?=some (bO c x):=by rw[gy hx,if_pos rfl]
     by_cases h3:x.op=3
     ·rw[gJ hx h3];have e:bO c x=⟨x.op,gT c x.a.toNat,x.b⟩:=by unfold bO;rw[if_pos h3]
      rw[e]at hy;rw[dI,hy]at ha;dsimp only at ha;rw[if_neg (by omega),if_neg (by omega),if_pos h3]at ha;rw[Int.toNat_natCast]at ha;exact(qE _ _ _).1 (ih _ _ ha)
     by_cases h2:x.op=2
     ·rw[fC hx h2];by_cases he:gT c x.a.toNat=gT c x.b.toNat
      ·have e:bO c x=⟨3,gT c x.a.toNat,0⟩:=by unfold bO;rw[if_neg h3,if_pos h2,if_pos he]
       rw[e]at hy;rw[dI,hy]at ha;dsimp only at ha;rw[if_neg (by omega),if_neg (by omega),if_pos rfl]at ha;rw[Int.toNat_natCast]at ha;exact .inl ((qE _ _ _).1 (ih _ _ ha))
      have e:bO c x=⟨x.op,gT c x.a.toNat,gT c x.b.toNat⟩:=by unfold bO;rw[if_neg h3,if_pos h2,if_neg he]
      rw[e]at hy;rw[dI,hy]at ha;dsimp only at ha;rw[if_neg (by omega),if_pos h2]at ha;rw[Int.toNat_natCast,Int.toNat_natCast]at ha;exact ha.imp (λha=>(qE _ _ _).1 (ih _ _ ha)) (λha=>(qE _ _ _).1 (ih _ _ ha))
     have e:bO c x=x:=by unfold bO;rw[if_neg h3,if_neg h2]
     rw[e]at hy;rw[dI,hy]at ha;dsimp only at ha;by_cases h5:x.op=5
     ·exact lS hx h5
     rw[if_neg h5,if_neg h2,if_neg h3]at ha;by_cases h4:x.op=4
     ·rw[if_pos h4]at ha;exact(mu hx h4).2 ⟨ha.1,ih _ _ ha.2⟩
     rw[if_neg h4,A8]at ha;cases ps with
     | nil=>exact ha.elim
     | cons p r=>exact(gi hx ⟨h2,h3,h4,h5⟩).2 ⟨p,r,rfl,ha.1,ih _ _ ha.2⟩
    have hy:(fQ c i).ins[k]?=c.ins[k]?:=by rw[gy hx,if_neg hk]
    rw[dI,hy]at ha;cases hz:c.ins[k]? with
    | none=>rw[hz]at ha;exact ha.elim
    | some z =>
     rw[hz]at ha;dsimp only at ha;by_cases h5:z.op=5
     ·exact lS hz h5
     rw[if_neg h5]at ha;by_cases h2:z.op=2
     ·rw[if_pos h2]at ha;exact(fC hz h2).2 (ha.imp (ih _ _) (ih _ _))
     rw[if_neg h2]at ha;by_cases h3:z.op=3
     ·rw[if_pos h3]at ha;exact(gJ hz h3).2 (ih _ _ ha)
     rw[if_neg h3]at ha;by_cases h4:z.op=4
     ·rw[if_pos h4]at ha;exact(mu hz h4).2 ⟨ha.1,ih _ _ ha.2⟩
     rw[if_neg h4,A8]at ha;cases ps with
     | nil=>exact ha.elim
     | cons p r=>exact(gi hz ⟨h2,h3,h4,h5⟩).2 ⟨p,r,rfl,ha.1,ih _ _ ha.2⟩
  rintro⟨h,ha⟩;induction h generalizing k ps with
  | zero=>exact ha.elim
  | succ h ih =>
   by_cases hk:k=i
   ·subst hk;have hy:(fQ c k).ins[k]?=some (bO c x):=by rw[gy hx,if_pos rfl]
    rw[dI,hx]at ha;dsimp only at ha;by_cases h5:x.op=5
    ·exact lS hy (by unfold bO;rw[if_neg (by omega),if_neg (by omega)];exact h5)
    rw[if_neg h5]at ha;by_cases h2:x.op=2
    ·rw[if_pos h2]at ha;have V6:=ha.imp (λa=>ih _ _ (rL c.ins.length _ _ _ a)) (λa=>ih _ _ (rL c.ins.length _ _ _ a));by_cases he:gT c x.a.toNat=gT c x.b.toNat
     ·have e:bO c x=⟨3,gT c x.a.toNat,0⟩:=by unfold bO;rw[if_neg (by omega),if_pos h2,if_pos he]
      rw[e]at hy;rw[gJ hy rfl];dsimp only;rw[Int.toNat_natCast];rcases V6 with a|a
      ·exact a
      rw[he];exact a
     have e:bO c x=⟨x.op,gT c x.a.toNat,gT c x.b.toNat⟩:=by unfold bO;rw[if_neg (by omega),if_pos h2,if_neg he]
     rw[e]at hy;rw[fC hy h2];dsimp only;rw[Int.toNat_natCast,Int.toNat_natCast];exact V6
    rw[if_neg h2]at ha;by_cases h3:x.op=3
    ·rw[if_pos h3]at ha;have e:bO c x=⟨x.op,gT c x.a.toNat,x.b⟩:=by unfold bO;rw[if_pos h3]
     rw[e]at hy;rw[gJ hy h3];dsimp only;rw[Int.toNat_natCast];exact ih _ _ (rL c.ins.length _ _ _ ha)
    rw[if_neg h3]at ha;have e:bO c x=x:=by unfold bO;rw[if_neg h3,if_neg h2]
    rw[e]at hy;by_cases h4:x.op=4
    ·rw[if_pos h4]at ha;exact(mu hy h4).2 ⟨ha.1,ih _ _ ha.2⟩
    rw[if_neg h4]at ha;cases ps with
    | nil=>exact ha.elim
    | cons p r=>exact(gi hy ⟨h2,h3,h4,h5⟩).2 ⟨p,r,rfl,by rw[A8];exact ha.1,ih _ _ ha.2⟩
   have hy:(fQ c i).ins[k]?=c.ins[k]?:=by rw[gy hx,if_neg hk]
   rw[dI]at ha;cases hz:c.ins[k]? with
   | none=>rw[hz]at ha;exact ha.elim
   | some z =>
    rw[hz]at ha hy;dsimp only at ha;by_cases h5:z.op=5
    ·exact lS hy h5
    rw[if_neg h5]at ha;by_cases h2:z.op=2
    ·rw[if_pos h2]at ha;exact(fC hy h2).2 (ha.imp (ih _ _) (ih _ _))
    rw[if_neg h2]at ha;by_cases h3:z.op=3
    ·rw[if_pos h3]at ha;exact(gJ hy h3).2 (ih _ _ ha)
    rw[if_neg h3]at ha;by_cases h4:z.op=4
    ·rw[if_pos h4]at ha;exact(mu hy h4).2 ⟨ha.1,ih _ _ ha.2⟩
    rw[if_neg h4]at ha;cases ps with
    | nil=>exact ha.elim
    | cons p r=>exact(gi hy ⟨h2,h3,h4,h5⟩).2 ⟨p,r,rfl,by rw[A8];exact ha.1,ih _ _ ha.2⟩
theorem ns {c:aD}(hc:CR c):∀i,CR (ah c i)/\(ah c i).sets=c.sets/\(ah c i).ins.length=c.ins.length/\(∀k ps,Acc (ah c i) k ps↔Acc c k ps)/\∀j,i<=j->(ah c i).ins[j]?=c.ins[j]?
 | 0=>⟨hc,rfl,rfl,λ_ _=>Iff.rfl,λ_ _=>rfl⟩
 | i+1=>by
  obtain⟨h1,h2,h3,h4,h5⟩:=ns hc i;rw[ah];refine⟨Mo h1 i,by rw[j7,h2],by rw[kZ,h3],λk ps=>by rw[KL h1,h4],λj hj=>?_⟩;rw[<-h5 j (by omega)];cases hx:(ah c i).ins[i]? with
  | none=>unfold fQ;rw[hx]
  | some x=>rw[gy hx,if_neg (by omega)]
def tZ (c:aD)(x:I3)(i j:Nat):Prop :=
 (x.op=2/\(j=x.a.toNat\/j=x.b.toNat))\/(x.op=3/\j=x.a.toNat)\/(x.op=4/\j=i+1)\/(x.op=1/\c.sets.getD x.a.toNat []≠[]/\j=i+1)
structure sO (c:aD)(is:List Bool):Prop where
 len:is.length=c.ins.length
 zero:is[0]?=some true
 leads:∀(i:Nat) (x:I3),is[i]?=some true->c.ins[i]?=some x->∀j,tZ c x i j->is[j]?=some true
def bQ (is:List Bool):Nat->Nat->Nat
 | 0,k=>is.length
 | f+1,k=>if is[k]?=some true then k else if k<is.length then bQ is f (k+1) else is.length
def sJ (is:List Bool)(i:Nat):Nat:=bQ is is.length (i+1)
theorem nq {is:List Bool}:∀(f k:Nat),is.length<=f+k->(is[bQ is f k]?=some true/\k<=bQ is f k\/bQ is f k=is.length)/\∀j,k<=j->j<bQ is f k->is[j]?≠some true
 | 0,k,h=>⟨.inr rfl,λj h1 h2=>by rw[bQ]at h2;omega⟩
 | f+1,k,h=>by
  rw[bQ];split
  ·rename_i hk;exact⟨.inl ⟨hk,Nat.le_refl _⟩,λj h1 h2=>by omega⟩
  rename_i hk;split
  ·obtain⟨h1,h2⟩:=nq (is:=is) f (k+1) (by omega);refine⟨h1.imp (λh=>⟨h.1,by omega⟩) id,λj hj hj2=>?_⟩;by_cases e:j=k
   ·subst e;exact hk
   exact h2 j (by omega) hj2
  exact⟨.inr rfl,λj h1 h2=>by rw[List.getElem?_eq_none (by omega)];simp⟩
theorem G2 {is:List Bool}{f k:Nat}(h:is[k]?=some true):bQ is (f+1) k=k:=by rw[bQ,if_pos h]
theorem DE {is:List Bool}{f k:Nat}(h:is[k]?≠some true)(hk:k<is.length):bQ is (f+1) k=bQ is f (k+1):=by rw[bQ,if_neg h,if_pos hk]
theorem pM {is:List Bool}:∀(f:Nat) {k:Nat},is.length<=k->bQ is f k=is.length
 | 0,k,h=>rfl
 | f+1,k,h=>by rw[bQ,if_neg (by rw[List.getElem?_eq_none h];simp),if_neg (by omega)]
def nR (c:aD)(is:List Bool)(i:Nat):Bool:=match c.ins[i]? with
 | none=>false
 | some x=>decide (x.op=3/\(sJ is i:Int)=x.a/\(i:Int)<x.a)
def eB (c:aD)(is:List Bool)(i:Nat):Bool:=decide (is[i]?=some true) && !nR c is i
def fU (c:aD)(is:List Bool):Nat->Nat
 | 0=>0
 | i+1=>if eB c is i then fU c is i+1 else fU c is i
theorem KN {c : aD} {is : List Bool} {i : Nat} : ∀ {j : Nat}, i <= j -> fU c is i <= fU c is j
  | 0, h => by have : i = 0 := by omega
               subst this; exact Nat.le_refl _
  | j + 1, h => by
    by_cases e : i = j + 1
    · subst e; exact Nat.le_refl _
    have := KN (c := c) (is := is) (i := i) (j := j) (by omega)
    rw [fU]; split <;> omega
theorem lK {c:aD}{is:List Bool}:∀(j:Nat),fU c is j<=j
 | 0=>Nat.le_refl _
 | j+1=>by have:=lK (c:=c) (is:=is) j;rw[fU];split<;>omega
theorem YY {c:aD}{is:List Bool}{i j:Nat}(h:i<j)(hk:eB c is i=true):fU c is i<fU c is j:=by
 have h1:fU c is (i+1)=fU c is i+1:=by rw[fU,if_pos hk]
 have:=KN (c:=c) (is:=is) (i:=i+1) (j:=j) (by omega);omega
theorem Bp {c : aD} {is : List Bool} {i : Nat} : ∀ {j : Nat}, i <= j -> (∀ k, i <= k -> k < j -> eB c is k = false) -> fU c is j = fU c is i
  | 0, h, _ => by have : i = 0 := by omega
                  subst this; rfl
  | j + 1, h, hk => by
    by_cases e : i = j + 1
    · subst e; rfl
    rw [fU, if_neg (by rw [hk j (by omega) (by omega)]; simp)]
    exact Bp (by omega) (λk h1 h2 => hk k h1 (by omega))
theorem GJ {c:aD}{is:List Bool}{i:Nat}(h:eB c is i=true):is[i]?=some true/\nR c is i=false:=by
 unfold eB at h;simp only[Bool.and_eq_true,decide_eq_true_eq,Bool.not_eq_true']at h;exact h
theorem GK {c:aD}{is:List Bool}{i:Nat}(h:eB c is i=true):i<is.length:=(List.getElem?_eq_some_iff.1 (GJ h).1).1
theorem oM {c:aD}{is:List Bool}(hC:sO c is):∀(d i:Nat),is.length<=d+i->is[i]?=some true->∃j,i<=j/\eB c is j=true/\fU c is j=fU c is i/\∀ps,Acc c i ps↔Acc c j ps
 | 0,i,h,hi=>by have:=(List.getElem?_eq_some_iff.1 hi).1;omega
 | d+1,i,h,hi=>by
  by_cases hs:nR c is i=true
  ·have Qf:=hs;unfold nR at hs;cases hx:c.ins[i]? with
   | none=>rw[hx]at hs;cases hs
   | some x =>
    rw[hx]at hs;simp only[decide_eq_true_eq]at hs;obtain⟨h3,hn,HF⟩:=hs;have hl:=hC.leads i x hi hx x.a.toNat (.inr (.inl ⟨h3,rfl⟩));obtain⟨j,h1,h2,h4,h5⟩:=oM hC d x.a.toNat (by omega) hl;have jD:=nq (is:=is) is.length (i+1) (by omega);have Ir:bQ is is.length (i+1)=x.a.toNat:=by unfold sJ at hn;omega
    rw[Ir]at jD;refine⟨j,by omega,h2,?_,λps=>by rw[gJ hx h3];exact h5 ps⟩;rw[h4];apply Bp (by omega);intro k N9 nj;unfold eB;by_cases e:k=i
    ·subst e;rw[Qf];simp
    rw[decide_eq_false (jD.2 k (by omega) nj)];rfl
  exact⟨i,Nat.le_refl _,by unfold eB;rw[decide_eq_true hi];simpa using hs,rfl,λ_=>Iff.rfl⟩
structure LS where
 used:List Nat
 ins:List I3
def Qj (a:Nat):List Nat->Nat
 | []=>0
 | b::l=>if b=a then 0 else Qj a l+1
theorem JA {a:Nat}:∀{l:List Nat},a∈l->l[Qj a l]?=some a
 | [],h=>by cases h
 | b::l,h=>by
  unfold Qj;split
  ·rename_i e;subst e;rfl
  rename_i e;rw[List.getElem?_cons_succ];exact JA (List.mem_of_ne_of_mem (λh=>e h.symm) h)
def j3 (c:aD)(is:List Bool)(used:List Nat)(x:I3):I3 :=
 if x.op=1 then ⟨x.op,(if x.a.toNat∈used then Qj x.a.toNat used else used.length:Nat),x.b⟩
 else if x.op=3 then ⟨x.op,fU c is x.a.toNat,x.b⟩
 else if x.op=2 then ⟨x.op,fU c is x.a.toNat,fU c is x.b.toNat⟩
 else x
def pj (used:List Nat)(x:I3):List Nat:=if x.op=1 then (if x.a.toNat∈used then used else used++[x.a.toNat]) else used
def ue (c:aD)(is:List Bool)(s:LS)(i:Nat):LS:=match c.ins[i]? with
 | none=>s
 | some x=>if eB c is i=true then ⟨pj s.used x,s.ins++[j3 c is s.used x]⟩ else s
def aX (c:aD)(is:List Bool):Nat->LS
 | 0=>⟨[],[]⟩
 | i+1=>ue c is (aX c is i) i
def Wi (c:aD)(s:LS):aD:=⟨s.used.map (λa=>c.sets.getD a []),s.ins⟩
def bX (c:aD)(is:List Bool):aD:=Wi c (aX c is c.ins.length)
def pq (c:aD)(is:List Bool)(sets:List (List Rg))(x y:I3):Prop :=
 y.op=x.op/\(x.op=1->y.b=x.b/\0<=y.a/\y.a.toNat<sets.length/\sets.getD y.a.toNat []=c.sets.getD x.a.toNat [])/\(x.op=3->y.a=fU c is x.a.toNat/\y.b=x.b)/\(x.op=2->y.a=fU c is x.a.toNat/\y.b=fU c is x.b.toNat) /\
 (x.op≠1->x.op≠2->x.op≠3->y=x)
theorem pq.more {c:aD}{is:List Bool}{sets more:List (List Rg)}{x y:I3}(h:pq c is sets x y):pq c is (sets++more) x y:=by
 obtain⟨h1,h2,h3,h4,h5⟩:=h;refine⟨h1,λe=>?_,h3,h4,h5⟩;obtain⟨a,b,d,f⟩:=h2 e;refine⟨a,b,by rw[List.length_append];omega,?_⟩;rw[<-f,List.getD_eq_getElem?_getD,List.getD_eq_getElem?_getD,List.getElem?_append_left d]
structure aLl (c:aD)(is:List Bool)(i:Nat)(s:LS):Prop where
 len:s.ins.length=fU c is i
 nodup:s.used.Nodup
 used:∀a∈s.used,a<c.sets.length
 at_:∀(j:Nat) (x:I3),j<i->eB c is j=true->c.ins[j]?=some x->∃y,s.ins[fU c is j]?=some y/\pq c is (s.used.map (λa=>c.sets.getD a [])) x y
 all:∀(k:Nat) (y:I3),s.ins[k]?=some y->∃j x,j<i/\eB c is j=true/\fU c is j=k/\c.ins[j]?=some x/\pq c is (s.used.map (λa=>c.sets.getD a [])) x y
theorem S9 (used:List Nat)(x:I3):∃m,pj used x=used++m:=by
 unfold pj;split
 ·split
  ·exact⟨[],by simp⟩
  exact⟨_,rfl⟩
 exact⟨[],by simp⟩
theorem GO {c:aD}(hc:CR c){is:List Bool}{used:List Nat}{i:Nat}{x:I3}(hx:c.ins[i]?=some x):pq c is ((pj used x).map (λa=>c.sets.getD a [])) x (j3 c is used x):=by
 unfold pq j3 pj;by_cases h1:x.op=1
 ·rw[if_pos h1,if_pos h1];refine⟨rfl,λ_=>?_,λh=>absurd h (by omega),λh=>absurd h (by omega),λh=>absurd h1 h⟩;dsimp only;rw[Int.toNat_natCast];by_cases hm:x.a.toNat∈used
  ·rw[if_pos hm,if_pos hm];have hg:=JA hm;have hl:=(List.getElem?_eq_some_iff.1 hg).1;refine⟨rfl,by omega,by rw[List.length_map];exact hl,?_⟩;rw[List.getD_eq_getElem?_getD,List.getElem?_map,hg];rfl
  rw[if_neg hm,if_neg hm];refine⟨rfl,by omega,by rw[List.length_map,List.length_append];simp,?_⟩;rw[List.getD_eq_getElem?_getD,List.getElem?_map,List.getElem?_append_right (Nat.le_refl _)];simp
 rw[if_neg h1,if_neg h1];by_cases h3:x.op=3
 ·rw[if_pos h3];exact⟨rfl,λh=>absurd h h1,λ_=>⟨rfl,rfl⟩,λh=>absurd h (by omega),λ_ _ h=>absurd h3 h⟩
 rw[if_neg h3];by_cases h2:x.op=2
 ·rw[if_pos h2];exact⟨rfl,λh=>absurd h h1,λh=>absurd h h3,λ_=>⟨rfl,rfl⟩,λ_ h=>absurd h2 h⟩
 rw[if_neg h2];exact⟨rfl,λh=>absurd h h1,λh=>absurd h h3,λh=>absurd h h2,λ_ _ _=>rfl⟩
theorem dm {c:aD}(hc:CR c){is:List Bool}:∀i,i<=c.ins.length->aLl c is i (aX c is i)
 | 0,_=>⟨rfl,List.nodup_nil,λ_ h=>(by cases h),λj x h=>absurd h (by omega),λk y h=>(by simp[aX]at h)⟩
 | i+1,hi=>by
  have ih:=dm hc (is:=is) i (by omega);have hx:=List.getElem?_eq_getElem (show i<c.ins.length by omega)
  rw[aX];unfold ue;rw[hx];dsimp only;by_cases hk:eB c is i=true
  ·rw[if_pos hk];have aw:fU c is (i+1)=fU c is i+1:=by rw[fU,if_pos hk]
   obtain⟨m,hm⟩:=S9 (aX c is i).used c.ins[i];have ht:=GO hc (is:=is) (used:=(aX c is i).used) hx;refine⟨by dsimp only;rw[List.length_append,ih.len,aw];rfl,?_,?_,λj x hj Dd hxj=>?_,λk y hy=>?_⟩
   ·dsimp only;unfold pj;split
    ·split
     ·exact ih.nodup
     rename_i hn;rw[List.nodup_append];exact⟨ih.nodup,by simp,λa ha b hb=>by rw[List.mem_singleton]at hb;subst hb;intro e;subst e;exact hn ha⟩
    exact ih.nodup
   ·dsimp only;intro a ha;unfold pj at ha;split at ha
    ·rename_i h1;split at ha
     ·exact ih.used a ha
     rw[List.mem_append,List.mem_singleton]at ha;rcases ha with ha|rfl
     ·exact ih.used a ha
     exact(iZ hc hx ⟨by omega,by omega,by omega,by omega⟩).2.2.1
    exact ih.used a ha
   ·dsimp only;by_cases e:j=i
    ·subst e;rw[hx]at hxj;cases hxj;exact⟨_,by rw[List.getElem?_append_right (by rw[ih.len];exact Nat.le_refl _),ih.len];simp,ht⟩
    obtain⟨y,hy,hty⟩:=ih.at_ j x (by omega) Dd hxj;exact⟨y,by rw[List.getElem?_append_left (List.getElem?_eq_some_iff.1 hy).1];exact hy,by rw[hm,List.map_append];exact hty.more⟩
   dsimp only at hy;rcases Nat.lt_or_ge k (aX c is i).ins.length with h|h
   ·rw[List.getElem?_append_left h]at hy;obtain⟨j,x,h1,h2,h3,h4,h5⟩:=ih.all k y hy;exact⟨j,x,by omega,h2,h3,h4,by dsimp only;rw[hm,List.map_append];exact h5.more⟩
   rw[List.getElem?_append_right h]at hy;have:k=(aX c is i).ins.length:=by
    have:=(List.getElem?_eq_some_iff.1 hy).1;simp at this;omega
   subst this;rw[Nat.sub_self]at hy;cases hy;exact⟨i,_,by omega,hk,ih.len.symm,hx,ht⟩
  rw[if_neg hk];have aw:fU c is (i+1)=fU c is i:=by rw[fU,if_neg hk]
  refine⟨by rw[ih.len,aw],ih.nodup,ih.used,λj x hj Dd hxj=>?_,λk y hy=>?_⟩
  ·by_cases e:j=i
   ·subst e;exact absurd Dd hk
   exact ih.at_ j x (by omega) Dd hxj
  obtain⟨j,x,h1,h2⟩:=ih.all k y hy;exact⟨j,x,by omega,h2⟩
theorem Dq {c:aD}(hc:CR c){is:List Bool}(hC:sO c is)(tail:List I3)(i:Nat)(hi:is[i]?=some true)(ps:List Int) :
  Acc c i ps↔Acc ⟨(bX c is).sets,(bX c is).ins++tail⟩ (fU c is i) ps:=by
 have hI:=dm hc (is:=is) c.ins.length (Nat.le_refl _);have Fj:∀j,eB c is j=true->∃x y,c.ins[j]?=some x/\is[j]?=some true/\((bX c is).ins++tail)[fU c is j]?=some y/\pq c is (bX c is).sets x y:=λj hj=>by
  have aw:=GK hj;rw[hC.len]at aw;obtain⟨y,hy,ht⟩:=hI.at_ j _ aw hj (List.getElem?_eq_getElem aw);have hy':(bX c is).ins[fU c is j]?=some y:=hy;exact⟨_,y,List.getElem?_eq_getElem aw,(GJ hj).1,by rw[List.getElem?_append_left (List.getElem?_eq_some_iff.1 hy').1];exact hy',ht⟩
 have yp:∀j,eB c is j=true->fU c is (j+1)=fU c is j+1:=λj hj=>by rw[fU,if_pos hj]
 constructor
 ·rintro⟨h,ha⟩;induction h generalizing i ps with
  | zero=>exact ha.elim
  | succ h ih =>
   by_cases hk:eB c is i=true
   ·obtain⟨x,y,hx,_,hy,ho,t1,t3,t2,t0⟩:=Fj i hk;have hl:=hC.leads i x hi hx;rw[dI,hx]at ha;dsimp only at ha;by_cases h5:x.op=5
    ·exact lS hy (by omega)
    rw[if_neg h5]at ha;by_cases h2:x.op=2
    ·rw[if_pos h2]at ha;obtain⟨e1,e2⟩:=t2 h2;rw[fC hy (by omega),e1,e2,Int.toNat_natCast,Int.toNat_natCast];exact ha.imp (ih _ (hl _ (.inl ⟨h2,.inl rfl⟩)) _) (ih _ (hl _ (.inl ⟨h2,.inr rfl⟩)) _)
    rw[if_neg h2]at ha;by_cases h3:x.op=3
    ·rw[if_pos h3]at ha;obtain⟨e1,e2⟩:=t3 h3;rw[gJ hy (by omega),e1,Int.toNat_natCast];exact ih _ (hl _ (.inr (.inl ⟨h3,rfl⟩))) _ ha
    rw[if_neg h3]at ha;by_cases h4:x.op=4
    ·rw[if_pos h4]at ha;rw[mu hy (by omega),<-yp i hk];exact⟨ha.1,ih _ (hl _ (.inr (.inr (.inl ⟨h4,rfl⟩)))) _ ha.2⟩
    rw[if_neg h4]at ha;have h1:=(iZ hc hx ⟨h2,h3,h4,h5⟩).1;obtain⟨e1,e2,e3,e4⟩:=t1 h1;cases ps with
    | nil=>exact ha.elim
    | cons p r =>
     have ha:fK (c.sets.getD x.a.toNat []) p=true/\dI c h (i+1) r:=ha;refine(gi hy ⟨by omega,by omega,by omega,by omega⟩).2 ⟨p,r,rfl,?_,?_⟩
     ·dsimp only;rw[e4];exact ha.1
     rw[<-yp i hk];refine ih _ (hl _ (.inr (.inr (.inr ⟨h1,?_,rfl⟩)))) _ ha.2;intro e;rw[e]at ha;exact absurd ha.1 (by simp[fK])
   ·have hs:nR c is i=true:=by
     unfold eB at hk;rw[decide_eq_true hi]at hk;simpa using hk
    obtain⟨j,Yi,Dd,htj,Fh⟩:=oM hC is.length i (by omega) hi;unfold nR at hs;cases hx:c.ins[i]? with
    | none=>rw[hx]at hs;cases hs
    | some x =>
     rw[hx]at hs;simp only[decide_eq_true_eq]at hs;obtain⟨h3,hn,HF⟩:=hs;rw[dI,hx]at ha;dsimp only at ha;rw[if_neg (by omega),if_neg (by omega),if_pos h3]at ha;have hl:=hC.leads i x hi hx x.a.toNat (.inr (.inl ⟨h3,rfl⟩))
     have:=ih _ hl _ ha;have jD:=nq (is:=is) is.length (i+1) (by omega);have Ir:bQ is is.length (i+1)=x.a.toNat:=by unfold sJ at hn;omega
     rw[Ir]at jD;have si:fU c is x.a.toNat=fU c is i:=by
      apply Bp (by omega);intro k N9 nj;by_cases e:k=i
      ·subst e;simpa using hk
      unfold eB;rw[decide_eq_false (jD.2 k (by omega) nj)];rfl
     rwa [si]at this
 rintro⟨h,ha⟩;obtain⟨j,Yi,Dd,htj,Fh⟩:=oM hC is.length i (by omega) hi;refine(Fh ps).2 ?_;rw[<-htj]at ha;clear Fh htj hi Yi i;induction h generalizing j ps with
 | zero=>exact ha.elim
 | succ h ih =>
  have step:∀k,is[k]?=some true->∀ps,dI ⟨(bX c is).sets,(bX c is).ins++tail⟩ h (fU c is k) ps->Acc c k ps:=λk hk ps ha=>by
   obtain⟨j',h1,h2,h3,h4⟩:=oM hC is.length k (by omega) hk;rw[<-h3]at ha;exact(h4 ps).2 (ih _ _ ha h2)
  obtain⟨x,y,hx,hi,hy,ho,t1,t3,t2,t0⟩:=Fj j Dd;have hl:=hC.leads j x hi hx;rw[dI,hy]at ha;dsimp only at ha;by_cases h5:x.op=5
  ·exact lS hx h5
  rw[if_neg (by omega)]at ha;by_cases h2:x.op=2
  ·rw[if_pos (by omega)]at ha;obtain⟨e1,e2⟩:=t2 h2;rw[e1,e2,Int.toNat_natCast,Int.toNat_natCast]at ha;rw[fC hx h2];exact ha.imp (step _ (hl _ (.inl ⟨h2,.inl rfl⟩)) _) (step _ (hl _ (.inl ⟨h2,.inr rfl⟩)) _)
  rw[if_neg (by omega)]at ha;by_cases h3:x.op=3
  ·rw[if_pos (by omega)]at ha;obtain⟨e1,e2⟩:=t3 h3;rw[e1,Int.toNat_natCast]at ha;rw[gJ hx h3];exact step _ (hl _ (.inr (.inl ⟨h3,rfl⟩))) _ ha
  rw[if_neg (by omega)]at ha;by_cases h4:x.op=4
  ·rw[if_pos (by omega),<-yp j Dd]at ha;rw[mu hx h4];exact⟨ha.1,step _ (hl _ (.inr (.inr (.inl ⟨h4,rfl⟩)))) _ ha.2⟩
  rw[if_neg (by omega),<-yp j Dd]at ha;have h1:=(iZ hc hx ⟨h2,h3,h4,h5⟩).1;obtain⟨e1,e2,e3,e4⟩:=t1 h1;cases ps with
  | nil=>exact ha.elim
  | cons p r =>
   have ha:fK ((bX c is).sets.getD y.a.toNat []) p=true/\dI ⟨(bX c is).sets,(bX c is).ins++tail⟩ h (fU c is (j+1)) r:=ha;rw[e4]at ha;refine(gi hx ⟨h2,h3,h4,h5⟩).2 ⟨p,r,rfl,ha.1,step _ (hl _ (.inr (.inr (.inr ⟨h1,?_,rfl⟩)))) _ ha.2⟩;intro e;rw[e]at ha;exact absurd ha.1 (by simp[fK])
def DV:I3:=⟨5,0,0⟩
theorem Qz {c:aD}(hc:CR c)(is:List Bool):(bX c is).ins.length=fU c is c.ins.length:=(dm hc (is:=is) c.ins.length (Nat.le_refl _)).len
theorem JH {c:aD}(hc:CR c){is:List Bool}(hC:sO c is):1<=(bX c is).ins.length/\(bX c is).ins.length<=c.ins.length/\(bX c is).sets.length<=c.sets.length /\
  (ab (bX c is)=true\/(ab (bX c is)=false/\(bX c is).ins.length+1<=c.ins.length/\CR ⟨(bX c is).sets,(bX c is).ins++[DV]⟩)):=by
 have hI:=dm hc (is:=is) c.ins.length (Nat.le_refl _);have hlen:=Qz hc is;have hle:=lK (c:=c) (is:=is) c.ins.length;have h1:1<=(bX c is).ins.length:=by
  obtain⟨j,_,h2,_⟩:=oM hC is.length 0 (by omega) hC.zero
  have:=GK h2;rw[hC.len]at this
  have:=YY this h2;omega
 have qS:(bX c is).sets.length<=c.sets.length:=by
  show ((aX c is c.ins.length).used.map _).length<=_
  rw[List.length_map];exact nN _ _ hI.nodup hI.used
 have hsr:∀s∈(bX c is).sets,aP (-2) s=true:=λs hs=>by
  obtain⟨a,ha,rfl⟩:=List.mem_map.1 (show s∈(aX c is c.ins.length).used.map (λa=>c.sets.getD a []) from hs)
  have aw:=hI.used a ha;rw[List.getD_eq_getElem?_getD,List.getElem?_eq_getElem aw];exact hc.set _ (List.getElem_mem aw)
 have A6:∀k,is[k]?=some true->fU c is k<(bX c is).ins.length:=λk hk=>by
  obtain⟨j,_,h2,h3,_⟩:=oM hC is.length k (by omega) hk
  have:=GK h2;rw[hC.len]at this
  have:=YY this h2;omega
 have Cs:∀(k:Nat) (y:I3),(bX c is).ins[k]?=some y->bP y (bX c is).sets.length (bX c is).ins.length=true/\(y.op=4->k+1<(bX c is).ins.length) /\
   (y.op=1->k+1<(bX c is).ins.length\/(bX c is).ins.length+1<=c.ins.length):=λk y hy=>by
  obtain⟨j,x,hj,Dd,htj,hx,ho,t1,t3,t2,t0⟩:=hI.all k y hy;have hi:=(GJ Dd).1;have hl:=hC.leads j x hi hx;have yp:fU c is (j+1)=fU c is j+1:=by rw[fU,if_pos Dd]
  have hr:=hc.ins j x hx;refine⟨?_,λh4=>?_,λh=>?_⟩
  ·unfold bP;rcases dL hr with ⟨e,g1,g2,g3⟩|⟨e,g1,g2,g3,g4⟩|⟨e,g1,g2,g3⟩|⟨e,g1,g2⟩
   ·obtain⟨e1,e2,e3,e4⟩:=t1 e;rw[if_pos (by omega)];have:(y.a.toNat:Nat)<(bX c is).sets.length:=e3;exact decide_eq_true ⟨e2,by omega,by omega⟩
   ·obtain⟨e1,e2⟩:=t2 e;rw[if_neg (by omega),if_pos (by omega)];have q1:=A6 _ (hl _ (.inl ⟨e,.inl rfl⟩));have q2:=A6 _ (hl _ (.inl ⟨e,.inr rfl⟩));exact decide_eq_true ⟨⟨by omega,by omega⟩,by omega,by omega⟩
   ·obtain⟨e1,e2⟩:=t3 e;rw[if_neg (by omega),if_neg (by omega),if_pos (by omega)];have q1:=A6 _ (hl _ (.inr (.inl ⟨e,rfl⟩)));exact decide_eq_true ⟨⟨by omega,by omega⟩,by omega⟩
   have:=t0 (by omega) (by omega) (by omega);subst this;rw[if_neg (by omega),if_neg (by omega),if_neg (by omega),if_pos e];exact decide_eq_true ⟨g1,g2⟩
  ·have:=A6 _ (hl _ (.inr (.inr (.inl ⟨by omega,rfl⟩))));omega
  have aw:=hc.next j x hx (.inl (by omega));by_cases hn:is[j+1]?=some true
  ·have:=A6 _ hn;omega
  right;have hkn:eB c is (j+1)=false:=by unfold eB;rw[decide_eq_false hn];rfl
  have q1:fU c is (j+2)=fU c is (j+1):=by rw[fU,hkn];simp
  have q2:=lK (c:=c) (is:=is) (j+1);have q3:∀m,fU c is (j+2+m)<=fU c is (j+2)+m:=λm=>by
   induction m with
   | zero=>exact Nat.le_refl _
   | succ m ih=>rw[<-Nat.add_assoc,fU];split<;>omega
  have:=q3 (c.ins.length-(j+2));rw[show j+2+(c.ins.length-(j+2))=c.ins.length by omega]at this
  omega
 refine⟨h1,by omega,qS,?_⟩;have hm:=hc.many;have hs:=hc.sets;by_cases hR:ab (bX c is)=true
 ·exact .inl hR
 right;have Lj:(bX c is).ins.length+1<=c.ins.length:=by
  apply Classical.byContradiction;intro hn;apply hR;apply CR.to;refine⟨h1,by omega,by omega,λk y hy=>(Cs k y hy).1,λk y hy hop=>?_,hsr⟩;rcases hop with h|h
  ·rcases(Cs k y hy).2.2 h with h|h
   ·exact h
   exact absurd h hn
  exact(Cs k y hy).2.1 h
 refine⟨by simpa using hR,Lj,?_⟩;have hll:((bX c is).ins++[DV]).length=(bX c is).ins.length+1:=by simp
 have wid:∀y:I3,bP y (bX c is).sets.length (bX c is).ins.length=true->bP y (bX c is).sets.length ((bX c is).ins++[DV]).length=true:=λy hy=>by
  rw[hll];unfold bP;rcases dL hy with ⟨e,g1,g2,g3⟩|⟨e,g1,g2,g3,g4⟩|⟨e,g1,g2,g3⟩|⟨e,g1,g2⟩
  ·rw[if_pos e];exact decide_eq_true ⟨g1,g2,g3⟩
  ·rw[if_neg (by omega),if_pos e];exact decide_eq_true ⟨⟨by omega,by omega⟩,by omega,by omega⟩
  ·rw[if_neg (by omega),if_neg (by omega),if_pos e];exact decide_eq_true ⟨⟨by omega,by omega⟩,by omega⟩
  rw[if_neg (by omega),if_neg (by omega),if_neg (by omega),if_pos e];exact decide_eq_true ⟨g1,g2⟩
 refine⟨by dsimp only;omega,by dsimp only;omega,by dsimp only;omega,λk y hy=>?_,λk y hy hop=>?_,hsr⟩
 ·dsimp only at hy ⊢
  rcases Nat.lt_or_ge k (bX c is).ins.length with h|h
  ·rw[List.getElem?_append_left h]at hy;exact wid y (Cs k y hy).1
  rw[List.getElem?_append_right h]at hy;have:k-(bX c is).ins.length=0:=by
   have:=(List.getElem?_eq_some_iff.1 hy).1;simp at this;omega
  rw[this]at hy;cases hy;rfl
 dsimp only at hy ⊢
 rw[hll];rcases Nat.lt_or_ge k (bX c is).ins.length with h|h
 ·omega
 rw[List.getElem?_append_right h]at hy;have:k-(bX c is).ins.length=0:=by
  have:=(List.getElem?_eq_some_iff.1 hy).1;simp at this;omega
 rw[this]at hy;cases hy;exact absurd hop (by simp[DV])
end Cae
end
end
section
namespace Go.Proofs.YtledlfbbebodgaaGreatDoor
open Go.Vc Go.Proofs Go.RowKit Cae
attribute [local irreducible] dd ae ak a7 runK bE Sl Vc.Own vc aU cJ a8
def bL (r:Rg):List Value:=[.int .i64 r.1,.int .i64 r.2]
theorem DQ (last:Int)(r:Rg)(s:List Rg):aP last (r::s)=if r.1<=last+1\/r.2<r.1\/1114111<r.2 then false else aP r.2 s:=rfl
theorem tL (s:List Rg)(hs:s.length<1000000000)(X:Nat->Prop)(v:Value)(w:World)(hv:Sl X 2 (En bL) w v s) :
  bE Tryz.prog 13 [v] w λr w'=>r=.bool (aP (-2) s)/\Below w.heap.size w w':=by
 obtain⟨a,c,rfl,hc⟩:=hv.shape;refine aE Tryz.func13 rfl (by kernel_rfl) [2] rfl ?_;push_cast -dsimp(maxSteps:=4000000) [Tryz.ntmps13];refine aL [2,3,5,8,9,10,11,12,13,14,15,16,17,18,19,20,21,22,23,24,25,26,27,28,29,30,31] (λz wx=>∃(i:Nat) (last:Int),z 8=.int .i64 i/\z 3=.int .i64 last/\i<=s.length/\(-2<=last/\last<=1114111)/\aP last (s.drop i)=aP (-2) s/\Below w.heap.size w wx) (λz _=>s.length-(intOf (z 8)).toNat) ?_ ?_
 ·exact⟨0,-2,rfl,rfl,Nat.zero_le _,by omega,rfl,Below.refl _ _⟩
 intro z wx hI;obtain⟨i,last,h8,h3,hi,hl,hd,hb⟩:=hI;push_cast -dsimp[h8,h3];refine⟨λaw=>?_,λfT=>?_⟩
 ·obtain⟨x,hx,jQ,hdx,ht⟩:=au (l:=s) (i:=i) (by omega);obtain⟨b,o,rfl,hX,aK⟩:=(hv.below hb).get hx;have c0:aB wx ⟨b,o+i*2,none⟩ 0 2=some [.int .i64 x.1,.int .i64 x.2]:=ax (bL x) 0 (λj u hu=>by simpa using aK j u hu);push_cast -dsimp[c0];refine⟨⟨by omega,by omega⟩,?_⟩;refine ag (z:=[.int .i64 0,.int .i64 0]) (by kernel_rfl) ?_;intro w1 aZ;push_cast -dsimp;refine aJ (n:=2) (by kernel_rfl) aZ.aN rfl (by simp) (by simp[Value.oneCell']) ?_;intro w2 bw;have c1:w2.cell? ⟨wx.heap.size,0,none⟩=some (.int .i64 x.1):=bw.aN.cell rfl;have c2:w2.cell? ⟨wx.heap.size,1,none⟩=some (.int .i64 x.2):=bw.aN.cell rfl;have eR:Below w.heap.size w w2:=hb.trans ((aZ.below.mono hb.size).trans (bw.kept.below (by have:=aZ.size;have:=hb.size;omega) (λ_ h=>by have:=hb.size;omega)));rw[hdx,DQ]at hd;push_cast -dsimp[c1,c2];refine⟨⟨by omega,by omega⟩,λh1=>⟨λh2=>⟨λh3=>?_,λh3=>?_⟩,λh2=>?_⟩,λh1=>?_⟩
  ·rw[if_pos (by omega)]at hd;exact⟨by rw[hd],eR⟩
  ·rw[if_neg (by omega)]at hd;exact⟨⟨by omega,by omega⟩,⟨i+1,x.2,rfl,rfl,by omega,by omega,hd,eR⟩,by rw[h8];simp only[intOf];omega⟩
  ·rw[if_pos (by omega)]at hd;exact⟨by rw[hd],eR⟩
  rw[if_pos (by omega)]at hd;exact⟨by rw[hd],eR⟩
 rw[List.drop_eq_nil_of_le (by omega)]at hd;exact⟨by rw[<-hd];rfl,hb⟩
end Go.Proofs.YtledlfbbebodgaaGreatDoor
end
section
namespace Go.Proofs.YtledlfbbebodgaaGreatDoor
open Go.Vc Go.Proofs Go.RowKit Cae
def Arg (v:Value):Prop:=∀n c,v=.slice none n c->n=0/\c=0
theorem jX:∀x,∀u∈bL x,u.oneCell'=true:=by simp[bL,Value.oneCell']
end Go.Proofs.YtledlfbbebodgaaGreatDoor
end
section
namespace Cae
def inB (l:List Rg)(p:Int):Bool:=decide (0<=p/\p<=1114111) && fK l p
theorem mN (p:Int):fK [] p=false:=rfl
theorem cF (r:Rg)(s:List Rg)(p:Int):fK (r::s) p=(decide (r.1<=p/\p<=r.2) || fK s p):=by unfold fK;rw[List.any_cons]
theorem uF (a b:List Rg)(p:Int):fK (a++b) p=(fK a p || fK b p):=by unfold fK;rw[List.any_append]
theorem nr:∀{s:List Rg} {a b:Int},b<=a->aP a s=true->aP b s=true
 | [],_,_,_,_=>rfl
 | r::s,a,b,h,hs=>by
  unfold aP at hs ⊢
  split at hs
  ·cases hs
  rw[if_neg (by omega)];exact hs
theorem cC {r:Rg}{s:List Rg}{a:Int}:aP a (r::s)=true↔(a+1<r.1/\r.1<=r.2/\r.2<=1114111)/\aP r.2 s=true:=by
 rw[aP];split
 ·constructor
  ·intro h;cases h
  rintro⟨h,_⟩;omega
 constructor
 ·intro h;exact⟨by omega,h⟩
 exact λh=>h.2
theorem rM:∀{s:List Rg} {a p:Int},aP a s=true->fK s p=true->a+1<p/\p<=1114111
 | [],_,_,_,h=>by cases h
 | r::s,a,p,hs,h=>by
  rw[cC]at hs;rw[cF,Bool.or_eq_true,decide_eq_true_eq]at h;rcases h with h|h
  ·omega
  have:=rM hs.2 h;omega
theorem uG {s:List Rg}{a p:Int}(hs:aP a s=true)(hp:p<=a+1):fK s p=false:=by
 cases h:fK s p with
 | false=>rfl
 | true=>have:=rM hs h;omega
theorem OY:∀{s t:List Rg} {a b:Int},aP a s=true->aP b t=true->(∀p,fK s p=fK t p)->s=t
 | [],[],_,_,_,_,_=>rfl
 | [],q::t,_,_,_,ht,h=>by
  rw[cC]at ht
  have:=h q.1;rw[cF,decide_eq_true (by omega)]at this;cases this
 | r::s,[],_,_,hs,_,h=>by
  rw[cC]at hs
  have:=h r.1;rw[cF,decide_eq_true (by omega)]at this;cases this
 | r::s,q::t,a,b,hs,ht,h=>by
  have Qf:=cC.1 hs;have ht':=cC.1 ht;obtain⟨⟨s1,s2,s3⟩,s4⟩:=Qf;obtain⟨⟨t1,t2,t3⟩,t4⟩:=ht';have e1:r.1=q.1:=by
   have h1:=h r.1;rw[cF r,decide_eq_true (by omega),Bool.true_or]at h1;have h2:=h q.1;rw[cF q,decide_eq_true (p:=q.1<=q.1/\q.1<=q.2) (by omega),Bool.true_or]at h2;rcases Int.lt_trichotomy r.1 q.1 with aw|heq|HF
   ·have h1:=h1.symm;rw[cF,decide_eq_false (by omega),Bool.false_or]at h1
    have:=rM t4 h1;omega
   ·exact heq
   rw[cF,decide_eq_false (by omega),Bool.false_or]at h2
   have:=rM s4 h2;omega
  have e2:r.2=q.2:=by
   rcases Int.lt_trichotomy r.2 q.2 with aw|heq|HF
   ·have h1:=h (r.2+1);rw[cF,cF,decide_eq_false (by omega),uG s4 (by omega),decide_eq_true (by omega)]at h1;cases h1
   ·exact heq
   have h1:=h (q.2+1);rw[cF,cF,decide_eq_true (by omega),uG t4 (by omega),decide_eq_false (by omega)]at h1;cases h1
  have e:r=q:=Prod.ext e1 e2;subst e;congr 1;refine OY s4 t4 (λp=>?_);by_cases hp:p<=r.2+1
  ·rw[uG s4 hp,uG t4 hp]
  have:=h p;rw[cF,cF,decide_eq_false (by omega),Bool.false_or,Bool.false_or]at this;exact this
def gE (out:List Rg)(r:Rg):List Rg :=
 if min r.2 1114111<max r.1 0 then out
 else match out.getLast? with
  | none=>[(max r.1 0,min r.2 1114111)]
  | some q=>if max r.1 0<=q.2+1 then out.dropLast++[(q.1,max q.2 (min r.2 1114111))] else out++[(max r.1 0,min r.2 1114111)]
def Aq (a:Int):List Rg->Int
 | []=>a
 | r::s=>Aq r.2 s
theorem x9 (a:Int):∀(s:List Rg) (r:Rg),Aq a (s++[r])=r.2
 | [],r=>rfl
 | q::s,r=>by rw[List.cons_append,Aq,x9]
theorem kD (r:Rg):∀(s:List Rg) (a:Int),aP a (s++[r])=true↔aP a s=true/\Aq a s+1<r.1/\r.1<=r.2/\r.2<=1114111
 | [],a=>by
  rw[List.nil_append,cC];exact⟨λh=>⟨rfl,h.1⟩,λh=>⟨h.2,rfl⟩⟩
 | q::s,a=>by
  rw[List.cons_append,cC,cC,kD r s q.2,Aq];exact⟨λh=>⟨⟨h.1,h.2.1⟩,h.2.2⟩,λh=>⟨h.1.1,h.1.2,h.2⟩⟩
structure HV (out done:List Rg):Prop where
 right:aP (-2) out=true
 has:∀p,fK out p=inB done p
theorem uU (l:List Rg)(r:Rg)(p:Int):inB (l++[r]) p=(inB l p || decide (max r.1 0<=p/\p<=min r.2 1114111)):=by
 unfold inB;rw[uF,cF,mN,Bool.or_false];by_cases h:0<=p/\p<=1114111
 ·rw[decide_eq_true h,Bool.true_and,Bool.true_and];congr 1;rw[decide_eq_decide];omega
 rw[decide_eq_false h,Bool.false_and,Bool.false_and,decide_eq_false (by omega)];rfl
theorem MR {out done:List Rg}{r:Rg}(h:HV out done)(yn:∀q∈out,q.1<=max r.1 0):HV (gE out r) (done++[r]):=by
 unfold gE;split
 ·rename_i aw;refine⟨h.right,λp=>?_⟩;rw[uU,h.has,decide_eq_false (by omega),Bool.or_false]
 rename_i fT;split
 ·rename_i hn;have:out=[]:=by simpa using hn
  subst this;refine⟨cC.2 ⟨⟨by omega,by omega,by omega⟩,rfl⟩,λp=>?_⟩;rw[uU,<-h.has,cF];rw[mN,Bool.or_false,Bool.false_or]
 rename_i q hq;have tV:out=out.dropLast++[q]:=by
  have dD:out≠[]:=λe=>by subst e;simp at hq
  have:=List.dropLast_concat_getLast dD;rw[List.getLast?_eq_some_getLast dD]at hq;cases hq;exact this.symm
 have hqm:q∈out:=by rw[tV];simp
 have hql:=yn q hqm;have hr:=h.right;rw[tV,kD]at hr;obtain⟨r1,r2,r3,r4⟩:=hr;split
 ·rename_i hm;refine⟨(kD _ _ _).2 ⟨r1,by dsimp only;omega,by dsimp only;omega,by dsimp only;omega⟩,λp=>?_⟩;rw[uU,<-h.has,uF]
  conv=>rhs;rw[tV,uF]
  rw[cF,cF,mN,Bool.or_false,Bool.or_false,Bool.or_assoc];congr 1;rw[<-Bool.decide_or,decide_eq_decide];dsimp only;omega
 rename_i hm;refine⟨(kD _ _ _).2 ⟨h.right,?_,by dsimp only;omega,by dsimp only;omega⟩,λp=>?_⟩
 ·rw[tV,x9];dsimp only;omega
 rw[uU,<-h.has,uF,cF,mN,Bool.or_false]
theorem RU {out:List Rg}{r:Rg}{m:Int}(yn:∀q∈out,q.1<=m)(hr:max r.1 0<=m):∀q∈gE out r,q.1<=m:=by
 intro q hq;unfold gE at hq;split at hq
 ·exact yn q hq
 split at hq
 ·simp at hq;subst hq;exact hr
 rename_i q' hq';have hqm:q'∈out:=List.mem_of_getLast? hq';split at hq
 ·rcases List.mem_append.1 hq with h|h
  ·exact yn q (List.dropLast_subset _ h)
  simp at h;subst h;exact yn q' hqm
 rcases List.mem_append.1 hq with h|h
 ·exact yn q h
 simp at h;subst h;exact hr
def ix (l:List Rg):List Rg:=l.foldl gE []
def zM (l:List Rg):Prop:=l.Pairwise λa b=>a.1<=b.1
theorem tG:∀(n:Nat) (l:List Rg),zM l->n<=l.length->HV (ix (l.take n)) (l.take n)/\∀q∈ix (l.take n),∀(i:Nat) (r:Rg),n<=i->l[i]?=some r->q.1<=max r.1 0
 | 0,l,_,_=>⟨⟨rfl,λp=>by rw[List.take_zero];unfold inB;rw[mN,Bool.and_false];rfl⟩,λq hq=>by rw[List.take_zero]at hq;cases hq⟩
 | n+1,l,hR,hn=>by
  obtain⟨h1,h2⟩:=tG n l hR (by omega);have hx:=List.getElem?_eq_getElem (l:=l) (i:=n) (by omega);have e:l.take (n+1)=l.take n++[l[n]]:=by rw[List.take_add_one,hx];rfl
  have ef:ix (l.take (n+1))=gE (ix (l.take n)) l[n]:=by unfold ix;rw[e,List.foldl_append];rfl
  rw[ef,e];refine⟨MR h1 (λq hq=>h2 q hq n _ (Nat.le_refl _) hx),λq hq i r hi hr=>?_⟩;have aw:=(List.getElem?_eq_some_iff.1 hr).1;have hle:l[n].1<=r.1:=by
   have:=List.pairwise_iff_getElem.1 hR n i (by omega) aw (by omega);rw[List.getElem?_eq_getElem aw]at hr;cases hr;exact this
  exact RU (m:=max r.1 0) (λq hq=>h2 q hq i r (by omega) hr) (by omega) q hq
theorem xj {l:List Rg}(hR:zM l):HV (ix l) l:=by
 have:=(tG l.length l hR (Nat.le_refl _)).1;rwa [List.take_length]at this
def setOf (l:List Rg):List Rg:=ix (l.mergeSort λa b=>decide (a.1<=b.1))
theorem D7 {l m:List Rg}(h:l.Perm m)(p:Int):fK l p=fK m p:=by
 unfold fK;rw[Bool.eq_iff_iff,List.any_eq_true,List.any_eq_true];exact⟨λ⟨r,h1,h2⟩=>⟨r,h.mem_iff.1 h1,h2⟩,λ⟨r,h1,h2⟩=>⟨r,h.mem_iff.2 h1,h2⟩⟩
theorem Bj (l:List Rg):HV (setOf l) l:=by
 have hs:zM (l.mergeSort λa b=>decide (a.1<=b.1)):=by
  have:=List.pairwise_mergeSort (le:=λ(a b:Rg)=>decide (a.1<=b.1)) (λa b c h1 h2=>by simp only[decide_eq_true_eq]at *;omega) (λa b=>by simp only[Bool.or_eq_true,decide_eq_true_eq];omega) l;exact this.imp λh=>by simpa using h
 have h:=xj hs;refine⟨h.right,λp=>(h.has p).trans ?_⟩;unfold inB;rw[D7 (List.mergeSort_perm l _)]
theorem SJ {l m:List Rg}(hp:m.Perm l)(hR:zM m):ix m=setOf l:=by
 have h1:=xj hR;have h2:=Bj l;refine OY h1.right h2.right (λp=>?_);rw[h1.has,h2.has];unfold inB;rw[D7 hp]
def oQ:Int->List Rg->List Rg
 | f,[]=>if f<=1114111 then [(f,1114111)] else []
 | f,r::s=>(if f<r.1 then [(f,r.1-1)] else [])++oQ (r.2+1) s
def gw (s:List Rg):List Rg:=oQ 0 s
theorem BI:∀(s:List Rg) (f:Int),aP (f-2) s=true->aP (f-2) (oQ f s)=true/\∀p,fK (oQ f s) p=(decide (f<=p/\p<=1114111) && !fK s p)
 | [],f,_=>by
  rw[oQ];split
  ·refine⟨cC.2 ⟨⟨by dsimp only;omega,by dsimp only;omega,by dsimp only;omega⟩,rfl⟩,λp=>?_⟩;rw[cF,mN,Bool.or_false,Bool.not_false,Bool.and_true]
  refine⟨rfl,λp=>?_⟩;rw[mN,decide_eq_false (by omega),Bool.false_and]
 | r::s,f,h=>by
  rw[cC]at h;obtain⟨⟨h1,h2,h3⟩,h4⟩:=h;obtain⟨i1,i2⟩:=BI s (r.2+1) (nr (by omega) h4);rw[oQ];have key:∀p,(decide (f<=p/\p<=r.1-1) || fK (oQ (r.2+1) s) p)=(decide (f<=p/\p<=1114111) && !fK (r::s) p):=λp=>by
   rw[i2,cF,Bool.not_or];by_cases hp:p<=r.2+1
   ·rw[uG h4 hp];simp only[Bool.not_false,Bool.and_true];rw[<-Bool.decide_or,<-decide_not,<-Bool.decide_and,decide_eq_decide];omega
   rw[decide_eq_false (p:=f<=p/\p<=r.1-1) (by omega),decide_eq_false (p:=r.1<=p/\p<=r.2) (by omega),Bool.false_or,Bool.not_false,Bool.true_and];congr 1;rw[decide_eq_decide];omega
  split
  ·refine⟨?_,λp=>?_⟩
   ·rw[List.singleton_append];exact cC.2 ⟨⟨by dsimp only;omega,by dsimp only;omega,by dsimp only;omega⟩,nr (by dsimp only;omega) i1⟩
   rw[List.singleton_append,cF];exact key p
  refine⟨?_,λp=>?_⟩
  ·rw[List.nil_append];exact nr (by omega) i1
  rw[List.nil_append]
  have:=key p;rwa [decide_eq_false (p:=f<=p/\p<=r.1-1) (by omega),Bool.false_or]at this
theorem pR {s:List Rg}(h:aP (-2) s=true):aP (-2) (gw s)=true:=(BI s 0 h).1
def Bk (s t:List Rg):List Rg:=setOf (s++t)
def Bi (s t:List Rg):List Rg:=gw (Bk (gw s) (gw t))
def zE (s t:List Rg):List Rg:=Bi s (gw t)
theorem qw (s t:List Rg):aP (-2) (Bk s t)=true:=(Bj _).right
theorem vE (s t:List Rg):aP (-2) (Bi s t)=true:=pR (qw _ _)
theorem DP (s t:List Rg):aP (-2) (zE s t)=true:=vE _ _
theorem MS (out:List Rg)(r:Rg):(gE out r).length<=out.length+1:=by
 unfold gE;split
 ·omega
 split
 ·simp
 split
 ·simp only[List.length_append,List.length_dropLast,List.length_cons,List.length_nil];omega
 simp
theorem BJ (l:List Rg):(ix l).length<=l.length:=by
 have key:∀(l out:List Rg),(l.foldl gE out).length<=out.length+l.length:=λl=>by
  induction l with
  | nil=>intro out;simp
  | cons r l ih =>
   intro out;rw[List.foldl_cons,List.length_cons]
   have:=ih (gE out r)
   have:=MS out r;omega
 have:=key l [];unfold ix;simpa using this
theorem SK (l:List Rg):(setOf l).length<=l.length:=by
 have:=BJ (l.mergeSort λa b=>decide (a.1<=b.1));rwa [List.length_mergeSort]at this
theorem Dw:∀(s:List Rg) (f:Int),(oQ f s).length<=s.length+1
 | [],f=>by rw[oQ];split<;>simp
 | r::s,f=>by
  rw[oQ,List.length_append,List.length_cons]
  have:=Dw s (r.2+1);split<;>simp<;>omega
theorem tK (s:List Rg):(gw s).length<=s.length+1:=Dw s 0
theorem SL (s t:List Rg):(Bk s t).length<=s.length+t.length:=by
 have:=SK (s++t);rwa [List.length_append]at this
end Cae
end
