/- Part. -/
import Derived.Test.YtemjejfpadnljaaGreatDoorM2
set_option maxRecDepth 100000
set_option linter.unusedSimpArgs false
set_option linter.unusedVariables false
set_option maxHeartbeats 8000000
namespace Cae
open Go Go.Vc
theorem wrap_i64 {n:Int}(h : -9223372036854775808<=n/\n<=9223372036854775807):IntKind.i64.wrap n=n:=by rw[IntKind.wrap_i64];omega
theorem dJ {n:Nat}(h:n<9223372036854775808):IntKind.i64.wrap (n:Int)=n:=wrap_i64 (by omega)
theorem wrap_u8 (n:Int):IntKind.u8.wrap n=n % 256:=by simp[IntKind.wrap,IntKind.bits,IntKind.signed]
theorem fp (n:Nat):IntKind.u8.wrap (n:Int)=((n % 256:Nat):Int):=by rw[wrap_u8];omega
theorem fD (n:Nat):IntKind.u32.wrap (n:Int)=((n % 4294967296:Nat):Int):=by simp[IntKind.wrap,IntKind.bits,IntKind.signed]
theorem fo (n:Nat):IntKind.u64.wrap (n:Int)=((n % 18446744073709551616:Nat):Int):=by simp[IntKind.wrap,IntKind.bits,IntKind.signed]
theorem mm (n x:Nat):BitVec.ofInt n (x:Int)=BitVec.ofNat n x:=by
 apply BitVec.eq_of_toNat_eq;simp
theorem NF {x y n:Nat}(h:x<2 ^ n):x &&& y<2 ^ n:=Nat.lt_of_le_of_lt Nat.and_le_left h
theorem mS {x y:Nat}(hx:x<9223372036854775808)(hy:y<9223372036854775808):cR .and .i64 x y=((x &&& y:Nat):Int):=by
 simp only[cR,mm,BitVec.toNat_and,BitVec.toNat_ofNat];rw[Nat.mod_eq_of_lt (show x<2 ^ IntKind.i64.bits by show x<2 ^ 64;omega),Nat.mod_eq_of_lt (show y<2 ^ IntKind.i64.bits by show y<2 ^ 64;omega)]
 exact dJ (NF (n:=63) hx)
theorem lN {x y:Nat}(hx:x<9223372036854775808)(hy:y<9223372036854775808):cR .or .i64 x y=((x ||| y:Nat):Int):=by
 simp only[cR,mm,BitVec.toNat_or,BitVec.toNat_ofNat];rw[Nat.mod_eq_of_lt (show x<2 ^ IntKind.i64.bits by show x<2 ^ 64;omega),Nat.mod_eq_of_lt (show y<2 ^ IntKind.i64.bits by show y<2 ^ 64;omega)]
 exact dJ (Nat.or_lt_two_pow (n:=63) hx hy)
theorem rG {x y:Nat}(hx:x<256)(hy:y<256):cR .and .u8 x y=((x &&& y:Nat):Int):=by
 simp only[cR,mm,BitVec.toNat_and,BitVec.toNat_ofNat];rw[Nat.mod_eq_of_lt (show x<2 ^ IntKind.u8.bits by show x<2 ^ 8;omega),Nat.mod_eq_of_lt (show y<2 ^ IntKind.u8.bits by show y<2 ^ 8;omega),fp,Nat.mod_eq_of_lt (NF (n:=8) hx)]
theorem NK {x y:Nat}(hx:x<256)(hy:y<256):cR .or .u8 x y=((x ||| y:Nat):Int):=by
 simp only[cR,mm,BitVec.toNat_or,BitVec.toNat_ofNat];rw[Nat.mod_eq_of_lt (show x<2 ^ IntKind.u8.bits by show x<2 ^ 8;omega),Nat.mod_eq_of_lt (show y<2 ^ IntKind.u8.bits by show y<2 ^ 8;omega),fp,Nat.mod_eq_of_lt (Nat.or_lt_two_pow (n:=8) hx hy)]
theorem mz (x k:Nat):x &&& (2 ^ k-1)=x % 2 ^ k:=Nat.and_two_pow_sub_one_eq_mod x k
theorem qO {p x k:Nat}(h:x<2 ^ k):p*2 ^ k ||| x=p*2 ^ k+x:=by
 rw[Nat.mul_comm];exact(Nat.two_pow_add_eq_or_of_lt h p).symm
theorem aEj {p k:Nat}{b:Int}(hb:b.toNat=k)(hk:k<=64)(h:p*2 ^ k<9223372036854775808):IntKind.i64.wrap ((p:Int)*2 ^ min b.toNat IntKind.i64.bits)=((p*2 ^ k:Nat):Int):=by
 rw[hb,show min k IntKind.i64.bits=k from Nat.min_eq_left hk]
 rw[show ((p:Int)*2 ^ k)=((p*2 ^ k:Nat):Int) by first|(push_cast;done)|(push_cast;rfl)]
 exact dJ h
theorem As {p k:Nat}{b:Int}{kd:IntKind}(hb:b.toNat=k)(hk:k<=kd.bits):((p:Int).fdiv (2 ^ min b.toNat kd.bits))=((p / 2 ^ k:Nat):Int):=by
 rw[hb,Nat.min_eq_left hk];rw[show (2:Int) ^ k=((2 ^ k:Nat):Int) by first|(push_cast;done)|(push_cast;rfl),Int.fdiv_eq_ediv_of_nonneg _ (Int.natCast_nonneg _)]
 rfl
abbrev Rg:=Int×Int
structure I3 where
 op:Int
 a:Int
 b:Int
 deriving DecidableEq
structure aE where
 sets:List (List Rg)
 ins:List I3
 deriving DecidableEq
def aO:Int->List Rg->Bool
 | _,[]=>true
 | last,r::s=>if r.1<=last+1\/r.2<r.1\/1114111<r.2 then false else aO r.2 s
def fO (s:List Rg)(p:Int):Bool:=s.any λr=>decide (r.1<=p/\p<=r.2)
def bT (x:I3)(sets n:Int):Bool :=
 if x.op=1 then decide (0<=x.a/\x.a<sets/\x.b=0)
 else if x.op=2 then decide ((0<=x.a/\x.a<n)/\(0<=x.b/\x.b<n))
 else if x.op=3 then decide ((0<=x.a/\x.a<n)/\x.b=0)
 else if x.op=4\/x.op=5 then decide (x.a=0/\x.b=0)
 else false
def aW (c:aE):Bool :=
 decide (1<=c.ins.length/\c.ins.length<=2000/\c.sets.length<=2000) &&
 (match c.ins[c.ins.length-1]? with|some x=>decide (x.op≠1/\x.op≠4)|none=>false) &&
 c.ins.all (λx=>bT x c.sets.length c.ins.length) && c.sets.all (aO (-2))
theorem cM:∀(s:List Rg) (last:Int),aO last s=true->∀(i:Nat) (r:Rg),s[i]?=some r->last+1<r.1/\r.1<=r.2/\r.2<=1114111/\∀(j:Nat) (q:Rg),i<j->s[j]?=some q->r.2+1<q.1
 | [],_,_,i,r,hr=>by simp at hr
 | x::s,last,h,i,r,hr=>by
  unfold aO at h;split at h
  ·cases h
  rename_i hx;have ih:=cM s x.2 h;cases i with
  | zero =>
   simp at hr;subst hr;refine⟨by omega,by omega,by omega,λj q hj hq=>?_⟩;obtain⟨k,rfl⟩:∃k,j=k+1:=⟨j-1,by omega⟩;exact(ih k q (by simpa using hq)).1
  | succ i =>
   have jh:s[i]?=some r:=by simpa using hr
   obtain⟨h1,h2,h3,h4⟩:=ih i r jh;refine⟨by omega,h2,h3,λj q hj hq=>?_⟩;obtain⟨k,rfl⟩:∃k,j=k+1:=⟨j-1,by omega⟩;exact h4 k q (by omega) (by simpa using hq)
def ji (q:List Nat)(k:Nat):List Nat:=if k∈q then q else q++[k]
inductive Lk
 | yes (st:Nat)
 | no (q nx:List Nat) (st:Nat)
def fR (c:aE)(cur:Option Int)(x:I3)(at_:Nat)(q nx:List Nat):List Nat×List Nat :=
 if x.op=2 then (ji (ji q x.a.toNat) x.b.toNat,nx)
 else if x.op=3 then (ji q x.a.toNat,nx)
 else if x.op=4 then (if cur.isNone then ji q (at_+1) else q,nx)
 else match cur with
  | some p=>(q,if fO (c.sets.getD x.a.toNat []) p then ji nx (at_+1) else nx)
  | none=>(q,nx)
def inner (c:aE)(cur:Option Int):Nat->List Nat->Nat->List Nat->Nat->Lk
 | 0,q,_,nx,st=>.no q nx st
 | f+1,q,k,nx,st=>match q[k]? with
  | none=>.no q nx st
  | some at_=>match c.ins[at_]? with
   | none=>.no q nx st
   | some x=>if x.op=5 then .yes (st+1)
    else inner c cur f (fR c cur x at_ q nx).1 (k+1) (fR c cur x at_ q nx).2 (st+1)
def outer (c:aE):List Int->List Nat->Nat->Bool×Nat
 | [],q,st=>match inner c none (c.ins.length+1) q 0 [] st with
  | .yes MG=>(true,MG)
  | .no _ _ MG=>(false,MG)
 | p::ps,q,st=>match inner c (some p) (c.ins.length+1) q 0 [] st with
  | .yes MG=>(true,MG)
  | .no _ nx MG=>if nx=[] then (false,MG) else outer c ps nx MG
def fK (c:aE)(ps:List Int):Bool×Nat:=outer c ps [0] 0
def bz (n:Nat)(q:List Nat):Prop:=q.Nodup/\∀k∈q,k<n
theorem bz.add {n:Nat}{q:List Nat}{k:Nat}(h:bz n q)(hk:k<n):bz n (ji q k):=by
 unfold ji;split
 ·exact h
 rename_i hn;refine⟨?_,λj hj=>?_⟩
 ·rw[List.nodup_append];exact⟨h.1,by simp,λa ha b hb=>by rw[List.mem_singleton]at hb;subst hb;intro e;subst e;exact hn ha⟩
 rw[List.mem_append,List.mem_singleton]at hj;rcases hj with hj|rfl
 ·exact h.2 j hj
 exact hk
theorem bz.nil (n:Nat):bz n []:=⟨List.nodup_nil,λ_ h=>by cases h⟩
theorem bz.one {n k:Nat}(h:k<n):bz n [k]:=⟨by simp,λj hj=>by rw[List.mem_singleton]at hj;omega⟩
theorem oD:∀(n:Nat) (q:List Nat),q.Nodup->(∀k∈q,k<n)->q.length<=n
 | 0,[],_,_=>Nat.le_refl _
 | 0,x::q,_,h=>absurd (h x (by simp)) (by omega)
 | n+1,q,h1,h2=>by
  have h3:=oD n (q.erase n) (h1.erase n) (λk hk=>by
   have:=(h1.mem_erase_iff).1 hk
   have:=h2 k this.2;omega)
  rw[List.length_erase]at h3;split at h3<;>omega
theorem bz.len {n:Nat}{q:List Nat}(h:bz n q):q.length<=n:=oD n q h.1 h.2
structure CR (c:aE):Prop where
 one:1<=c.ins.length
 many:c.ins.length<=2000
 sets:c.sets.length<=2000
 ins:∀(i:Nat) (x:I3),c.ins[i]?=some x->bT x c.sets.length c.ins.length=true
 next:∀(i:Nat) (x:I3),c.ins[i]?=some x->(x.op=1\/x.op=4)->i+1<c.ins.length
 set:∀s∈c.sets,aO (-2) s=true
theorem CR.of {c:aE}(h:aW c=true):CR c:=by
 unfold aW at h;simp only[Bool.and_eq_true,decide_eq_true_eq,List.all_eq_true]at h;obtain⟨⟨⟨⟨h1,h2,h3⟩,hl⟩,hi⟩,hs⟩:=h;refine⟨h1,h2,h3,λi x hx=>hi x (List.mem_of_getElem? hx),λi x hx hop=>?_,hs⟩;have aq:=(List.getElem?_eq_some_iff.1 hx).1;rcases Nat.lt_or_ge (i+1) c.ins.length with h|h
 ·exact h
 have e:i=c.ins.length-1:=by omega
 subst e;rw[hx]at hl;simp only[decide_eq_true_eq]at hl;rcases hop with h|h
 ·exact absurd h hl.1
 exact absurd h hl.2
theorem cY {x:I3}{s n:Int}(h:bT x s n=true) :
  (x.op=1/\0<=x.a/\x.a<s/\x.b=0)\/(x.op=2/\0<=x.a/\x.a<n/\0<=x.b/\x.b<n)\/(x.op=3/\0<=x.a/\x.a<n/\x.b=0)\/((x.op=4\/x.op=5)/\x.a=0/\x.b=0):=by
 unfold bT at h;split at h
 ·rename_i e;simp only[decide_eq_true_eq]at h;exact .inl ⟨e,h⟩
 split at h
 ·rename_i e;simp only[decide_eq_true_eq]at h;exact .inr (.inl ⟨e,h.1.1,h.1.2,h.2⟩)
 split at h
 ·rename_i e;simp only[decide_eq_true_eq]at h;exact .inr (.inr (.inl ⟨e,h.1.1,h.1.2,h.2⟩))
 split at h
 ·rename_i e;simp only[decide_eq_true_eq]at h;exact .inr (.inr (.inr ⟨e,h⟩))
 cases h
theorem vY {c:aE}(hc:CR c){cur:Option Int}{x:I3}{at_:Nat}{q nx:List Nat}(hx:c.ins[at_]?=some x)(h5:x.op≠5)(hq:bz c.ins.length q)(hn:bz c.ins.length nx) :
  bz c.ins.length (fR c cur x at_ q nx).1/\bz c.ins.length (fR c cur x at_ q nx).2:=by
 have hr:=cY (hc.ins at_ x hx);have j7:=hc.next at_ x hx;unfold fR;rcases hr with ⟨e,h1,h2,h3⟩|⟨e,h1,h2,h3,h4⟩|⟨e,h1,h2,h3⟩|⟨e|e,h1,h2⟩
 ·rw[if_neg (by omega),if_neg (by omega),if_neg (by omega)];cases cur with
  | none=>exact⟨hq,hn⟩
  | some p =>
   refine⟨hq,?_⟩;dsimp only;split
   ·exact hn.add (j7 (.inl e))
   exact hn
 ·rw[if_pos e];exact⟨(hq.add (by omega)).add (by omega),hn⟩
 ·rw[if_neg (by omega),if_pos e];exact⟨hq.add (by omega),hn⟩
 ·rw[if_neg (by omega),if_neg (by omega),if_pos e];refine⟨?_,hn⟩;dsimp only;split
  ·exact hq.add (j7 (.inr e))
  exact hq
 exact absurd e h5
theorem vK (q:List Nat)(k:Nat):q.length<=(ji q k).length:=by
 unfold ji;split
 ·exact Nat.le_refl _
 simp
theorem T9 {c:aE}{cur:Option Int}{f:Nat}{q:List Nat}{k:Nat}{nx:List Nat}{st at_:Nat}{x:I3}(h1:q[k]?=some at_)(h2:c.ins[at_]?=some x)(h5:x.op=5):inner c cur (f+1) q k nx st=.yes (st+1):=by
 rw[inner,h1];dsimp only;rw[h2];dsimp only;rw[if_pos h5]
theorem qE {c:aE}{cur:Option Int}{f:Nat}{q:List Nat}{k:Nat}{nx:List Nat}{st at_:Nat}{x:I3}(h1:q[k]?=some at_)(h2:c.ins[at_]?=some x)(h5:x.op≠5) :
  inner c cur (f+1) q k nx st=inner c cur f (fR c cur x at_ q nx).1 (k+1) (fR c cur x at_ q nx).2 (st+1):=by
 rw[inner,h1];dsimp only;rw[h2];dsimp only;rw[if_neg h5]
theorem T8 {c:aE}{cur:Option Int}{f:Nat}{q:List Nat}{k:Nat}{nx:List Nat}{st:Nat}(h1:q[k]?=none):inner c cur (f+1) q k nx st=.no q nx st:=by
 rw[inner,h1]
theorem Zl (c:aE)(ps:List Int)(i:Nat)(q:List Nat)(st:Nat)(hi:i<=ps.length):outer c (ps.drop i) q st =
  match inner c ps[i]? (c.ins.length+1) q 0 [] st with
  | .yes MG=>(true,MG)
  | .no _ nx MG=>if ps.length<=i\/nx=[] then (false,MG) else outer c (ps.drop (i+1)) nx MG:=by
 rcases Nat.lt_or_ge i ps.length with h|h
 ·rw[List.drop_eq_getElem_cons h,List.getElem?_eq_getElem h,outer];split
  ·rfl
  split
  ·rename_i e;rw[if_pos (.inr e)]
  rename_i e;rw[if_neg (by intro h';rcases h' with h'|h';omega;exact e h')]
 rw[List.drop_eq_nil_of_le h,List.getElem?_eq_none h,outer];split
 ·rfl
 rw[if_pos (.inl h)]
theorem wJ {c:aE}(hc:CR c){cur:Option Int}:∀(f:Nat) (q:List Nat) (k:Nat) (nx:List Nat) (st:Nat),bz c.ins.length q->bz c.ins.length nx ->
  ∀q' Fm MG,inner c cur f q k nx st=.no q' Fm MG->bz c.ins.length q'/\bz c.ins.length Fm
 | 0,q,k,nx,st,hq,hn,q',Fm,MG,h=>by
  rw[inner]at h;cases h;exact⟨hq,hn⟩
 | f+1,q,k,nx,st,hq,hn,q',Fm,MG,h=>by
  rw[inner]at h;split at h
  ·cases h;exact⟨hq,hn⟩
  split at h
  ·cases h;exact⟨hq,hn⟩
  rename_i x hx;split at h
  ·cases h
  rename_i h5;obtain⟨h1,h2⟩:=vY hc (cur:=cur) hx h5 hq hn;exact wJ hc f _ _ _ _ h1 h2 _ _ _ h
structure bo where
 brk:Bool
 before:aE
 after:aE
 deriving DecidableEq
structure bh where
 rules:List bo
 els:Bool
 deriving DecidableEq
def bt (n:Nat):UInt8:=UInt8.ofNat n
theorem jA {n:Nat}(h:n<256):(bt n).toNat=n:=by simp[bt];omega
def eK (n:Nat):List UInt8:=if n<128 then [bt n] else bt (n % 128+128)::eK (n / 128)
 termination_by n
 decreasing_by omega
def tG (b:Bool):List UInt8:=[if b then 1 else 0]
def jY (r:Rg):List UInt8:=eK r.1.toNat++eK r.2.toNat
def qU (s:List Rg):List UInt8:=eK s.length++s.flatMap jY
def tO (x:I3):List UInt8:=eK x.op.toNat++eK x.a.toNat++eK x.b.toNat
def mF (c:aE):List UInt8:=eK c.sets.length++c.sets.flatMap qU++eK c.ins.length++c.ins.flatMap tO
def mK (r:bo):List UInt8:=tG r.brk++mF r.before++mF r.after
def im (p:bh):List UInt8:=tG p.els++eK p.rules.length++p.rules.flatMap mK
def qh:Nat->Nat->List UInt8->Nat×Nat
 | a,b,[]=>(a,b)
 | a,b,c::s=>qh ((a+c.toNat) % 65521) ((b+(a+c.toNat) % 65521) % 65521) s
def yW (s:List UInt8):Nat:=(qh 1 0 s).2*65536+(qh 1 0 s).1
def Iz (u:Nat):List UInt8:=[bt (u % 256),bt (u / 256 % 256),bt (u / 65536 % 256),bt (u / 16777216 % 256)]
def j1 (p:bh):List UInt8:=im p++Iz (yW (im p))
def bL (p:bh):Bool:=decide (p.rules.length<=20) && p.rules.all λr=>aW r.before && aW r.after
theorem si {n:Nat}(h:n<128):eK n=[bt n]:=by rw[eK,if_pos h]
theorem I1 {n:Nat}(h:¬n<128):eK n=bt (n % 128+128)::eK (n / 128):=by rw[eK,if_neg h]
theorem rm (n:Nat):1<=(eK n).length:=by
 rw[eK];split<;>simp
theorem LZ:∀(k n:Nat),1<=k->n<128 ^ k->(eK n).length<=k
 | 0,_,h,_=>absurd h (by omega)
 | 1,n,_,h=>by rw[si (by simpa using h)];simp
 | k+2,n,_,h=>by
  by_cases hn:n<128
  ·rw[si hn];simp
  rw[I1 hn]
  have:=LZ (k+1) (n / 128) (by omega) (by rw[Nat.pow_succ]at h;exact Nat.div_lt_of_lt_mul (by rw[Nat.mul_comm];exact h));simp only[List.length_cons];omega
def lh (bad:Bool):Nat->Nat->List UInt8->Nat×List UInt8×Bool
 | _,_,[]=>(0,[],true)
 | i,n,c::r=>if 4<=i then (0,[],true) else if c.toNat<128 then (n+c.toNat*128 ^ i,r,bad || (decide (0<i) && decide (c.toNat=0))) else lh bad (i+1) (n+c.toNat % 128*128 ^ i) r
structure St where
 s:List UInt8
 bad:Bool
 deriving DecidableEq
def dV (x:St):Nat×St:=((lh x.bad 0 0 x.s).1,⟨(lh x.bad 0 0 x.s).2.1,(lh x.bad 0 0 x.s).2.2⟩)
def cW (x:St):Nat×St:=if (dV x).2.s.length<(dV x).1 then (0,⟨(dV x).2.s,true⟩) else dV x
def eT (x:St):Bool×St:=(decide ((dV x).1=1),⟨(dV x).2.s,(dV x).2.bad || decide (1<(dV x).1)⟩)
def fF {α:Type}(f:St->α×St):Nat->St->List α×St
 | 0,x=>([],x)
 | n+1,x=>((f x).1::(fF f n (f x).2).1,(fF f n (f x).2).2)
def kl (x:St):Rg×St:=(((dV x).1,(dV (dV x).2).1),(dV (dV x).2).2)
def ob (x:St):List Rg×St:=fF kl (cW x).1 (cW x).2
def ug (x:St):I3×St:=(⟨(dV x).1,(dV (dV x).2).1,(dV (dV (dV x).2).2).1⟩,(dV (dV (dV x).2).2).2)
def ja (x:St):List (List Rg)×St:=fF ob (cW x).1 (cW x).2
def GG (x:St):List I3×St:=fF ug (cW x).1 (cW x).2
def iP (x:St):aE×St:=(⟨(ja x).1,(GG (ja x).2).1⟩,(GG (ja x).2).2)
def mL (x:St):bo×St:=(⟨(eT x).1,(iP (eT x).2).1,(iP (iP (eT x).2).2).1⟩,(iP (iP (eT x).2).2).2)
def DS (x:St):List bo×St:=fF mL (cW x).1 (cW x).2
def gk (x:St):bh×St:=(⟨(DS (eT x).2).1,(eT x).1⟩,(DS (eT x).2).2)
def sumOf (l:List UInt8):Nat:=(l.getD 0 0).toNat+(l.getD 1 0).toNat*256+(l.getD 2 0).toNat*65536+(l.getD 3 0).toNat*16777216
def rr (s:List UInt8):Option bh :=
 if s.length<4 then none
 else if yW (s.take (s.length-4))≠sumOf (s.drop (s.length-4)) then none
 else let r:=gk ⟨s.take (s.length-4),false⟩
  if r.2.bad=true\/r.2.s≠[]\/bL r.1=false then none else some r.1
theorem GH {α:Type}(f:St->α×St):∀n x,(fF f n x).1.length=n
 | 0,_=>rfl
 | n+1,x=>by simp only[fF,List.length_cons,GH f n]
def Aw {α:Type}(f:St->α×St)(enc:α->List UInt8)(v:α):Prop:=∀rest,f ⟨enc v++rest,false⟩=(v,⟨rest,false⟩)
theorem DQ:∀(k i n m:Nat) (rest:List UInt8),i+k=4->m<128 ^ k->1<=k->(0<i->0<m)->lh false i n (eK m++rest)=(n+m*128 ^ i,rest,false)
 | 0,_,_,_,_,_,_,h,_=>absurd h (by omega)
 | k+1,i,n,m,rest,hi,hm,_,h0=>by
  by_cases h:m<128
  ·rw[si h,List.singleton_append,lh,if_neg (by omega),jA (by omega),if_pos h];congr 2;simp only[Bool.false_or,Bool.and_eq_false_iff,decide_eq_false_iff_not];by_cases hi0:0<i
   ·right;have:=h0 hi0;omega
   left;exact hi0
  rw[I1 h,List.cons_append,lh,if_neg (by omega),jA (by omega),if_neg (by omega)];have hk:1<=k:=by
   rcases Nat.eq_zero_or_pos k with hk|hk
   ·subst hk;simp at hm;omega
   exact hk
  have dK:m / 128<128 ^ k:=by rw[Nat.pow_succ]at hm;exact Nat.div_lt_of_lt_mul (by rw[Nat.mul_comm];exact hm)
  rw[DQ k (i+1) _ (m / 128) rest (by omega) dK hk (λ_=>by omega)];congr 1;rw[show (m % 128+128) % 128=m % 128 by omega,Nat.pow_succ]
  have e:m*128 ^ i=m % 128*128 ^ i+m / 128*(128 ^ i*128):=by
   rw[Nat.mul_comm (128 ^ i) 128,<-Nat.mul_assoc,<-Nat.add_mul];congr 1;omega
  omega
theorem kj {n:Nat}(h:n<268435456):Aw dV eK n:=λrest=>by
 have:=DQ 4 0 0 n rest rfl (by simpa using h) (by omega) (λh=>absurd h (by omega));simp only[dV,this];simp
theorem GB (b:Bool):Aw eT tG b:=λrest=>by
 have h:∀n,n=0\/n=1->eT ⟨eK n++rest,false⟩=(decide (n=1),⟨rest,false⟩):=λn hn=>by
  simp only[eT];rw[kj (n:=n) (by omega) rest];rcases hn with rfl|rfl<;>rfl
 cases b with
 | true=>have:=h 1 (.inr rfl);rw[si (by omega)]at this;exact this
 | false=>have:=h 0 (.inl rfl);rw[si (by omega)]at this;exact this
theorem DP {α:Type}{f:St->α×St}{enc:α->List UInt8}:∀(l:List α),(∀v∈l,Aw f enc v)->∀rest,fF f l.length ⟨l.flatMap enc++rest,false⟩=(l,⟨rest,false⟩)
 | [],_,rest=>rfl
 | v::l,h,rest=>by
  simp only[List.length_cons,fF,List.flatMap_cons,List.append_assoc];rw[h v (by simp)];simp only;rw[DP l (λu hu=>h u (by simp[hu])) rest]
theorem rN {α:Type}{enc:α->List UInt8}(h1:∀v,1<=(enc v).length):∀(l:List α),l.length<=(l.flatMap enc).length
 | []=>by simp
 | v::l=>by have:=rN h1 l;have:=h1 v;simp only[List.length_cons,List.flatMap_cons,List.length_append];omega
theorem kA {α:Type}{f:St->α×St}{enc:α->List UInt8}(h1:∀v,1<=(enc v).length){l:List α}(hl:l.length<268435456)(h:∀v∈l,Aw f enc v)(rest:List UInt8) :
  fF f (cW ⟨eK l.length++(l.flatMap enc++rest),false⟩).1 (cW ⟨eK l.length++(l.flatMap enc++rest),false⟩).2=(l,⟨rest,false⟩):=by
 have hm:cW ⟨eK l.length++(l.flatMap enc++rest),false⟩=(l.length,⟨l.flatMap enc++rest,false⟩):=by
  unfold cW;rw[kj hl]
  have:=rN h1 l;rw[if_neg (by simp only[List.length_append];omega)]
 rw[hm];exact DP l h rest
theorem DH (r:Rg):1<=(jY r).length:=by unfold jY;have:=rm r.1.toNat;simp only[List.length_append];omega
theorem aAE (s:List Rg):1<=(qU s).length:=by unfold qU;have:=rm s.length;simp only[List.length_append];omega
theorem Yv (x:I3):1<=(tO x).length:=by unfold tO;have:=rm x.op.toNat;simp only[List.length_append];omega
theorem UW (r:bo):1<=(mK r).length:=by unfold mK tG;simp only[List.length_append,List.length_cons];omega
theorem Ln {r:Rg}(h1:0<=r.1/\r.1<=1114111)(h2:0<=r.2/\r.2<=1114111):Aw kl jY r:=λrest=>by
 simp only[kl,jY,List.append_assoc];rw[kj (n:=r.1.toNat) (by omega)];simp only;rw[kj (n:=r.2.toNat) (by omega)];obtain⟨a,b⟩:=r;simp only at h1 h2 ⊢
 rw[Int.toNat_of_nonneg h1.1,Int.toNat_of_nonneg h2.1]
theorem Ug {s:List Rg}(hs:aO (-2) s=true)(hl:s.length<268435456):Aw ob qU s:=λrest=>by
 have hr:∀r∈s,Aw kl jY r:=λr hr=>by
  obtain⟨i,hi⟩:=List.getElem?_of_mem hr;obtain⟨h1,h2,h3,_⟩:=cM s (-2) hs i r hi;exact Ln (by omega) (by omega)
 have:=kA DH hl hr rest;simp only[qU,List.append_assoc];exact this
theorem Ue {x:I3}{s n:Int}(hx:bT x s n=true)(hs:s<=2000)(hn:n<=2000):Aw ug tO x:=λrest=>by
 have hr:=cY hx;have hb:(0<=x.op/\x.op<=5)/\(0<=x.a/\x.a<=2000)/\(0<=x.b/\x.b<=2000):=by omega
 simp only[ug,tO,List.append_assoc];rw[kj (n:=x.op.toNat) (by omega)];simp only;rw[kj (n:=x.a.toNat) (by omega)];simp only;rw[kj (n:=x.b.toNat) (by omega)];obtain⟨o,a,b⟩:=x;simp only at hb ⊢
 rw[Int.toNat_of_nonneg hb.1.1,Int.toNat_of_nonneg hb.2.1.1,Int.toNat_of_nonneg hb.2.2.1]
def sT (c:aE):Prop:=∀s∈c.sets,s.length<268435456
theorem DJ {c:aE}(h:aW c=true)(hl:sT c):Aw iP mF c:=λrest=>by
 have hc:=CR.of h;have h1:=kA (f:=ob) (enc:=qU) aAE (l:=c.sets) (by have:=hc.sets;omega) (λs hs=>Ug (hc.set s hs) (hl s hs)) (eK c.ins.length++(c.ins.flatMap tO++rest));have h2:=kA (f:=ug) (enc:=tO) Yv (l:=c.ins) (by have:=hc.many;omega) (λx hx=>by
  obtain⟨i,hi⟩:=List.getElem?_of_mem hx;exact Ue (hc.ins i x hi) (by have:=hc.sets;omega) (by have:=hc.many;omega)) rest
 simp only[iP,ja,GG,mF,List.append_assoc];rw[h1];simp only;rw[h2]
theorem Oi {r:bo}(h1:aW r.before=true)(h2:aW r.after=true)(l1:sT r.before)(l2:sT r.after):Aw mL mK r:=λrest=>by
 have e1:=GB r.brk (mF r.before++(mF r.after++rest));have e2:=DJ h1 l1 (mF r.after++rest);have e3:=DJ h2 l2 rest;simp only[mL,mK,List.append_assoc];rw[e1];simp only;rw[e2];simp only;rw[e3]
def Ib (p:bh):Prop:=∀r∈p.rules,sT r.before/\sT r.after
theorem eS {p:bh}(h:bL p=true):p.rules.length<=20/\∀r∈p.rules,aW r.before=true/\aW r.after=true:=by
 unfold bL at h;simp only[Bool.and_eq_true,decide_eq_true_eq,List.all_eq_true]at h;exact h
theorem Oj {p:bh}(h:bL p=true)(hl:Ib p):Aw gk im p:=λrest=>by
 obtain⟨h1,h2⟩:=eS h;have e1:=GB p.els (eK p.rules.length++(p.rules.flatMap mK++rest));have e2:=kA (f:=mL) (enc:=mK) UW (l:=p.rules) (by omega) (λr hr=>Oi (h2 r hr).1 (h2 r hr).2 (hl r hr).1 (hl r hr).2) rest;simp only[gk,DS,im,List.append_assoc];rw[e1];simp only;rw[e2]
theorem RT:∀(s:List UInt8) (a b:Nat),a<65521->(qh a b s).1=(a+(s.map UInt8.toNat).sum) % 65521
 | [],a,b,h=>by simp only[qh,List.map_nil,List.sum_nil,Nat.add_zero];omega
 | c::s,a,b,h=>by
  rw[qh,RT s _ _ (Nat.mod_lt _ (by omega)),List.map_cons,List.sum_cons];omega
theorem RU:∀(s:List UInt8) (a b:Nat),b<65521->(qh a b s).2<65521
 | [],_,_,h=>h
 | c::s,a,b,_=>by rw[qh];exact RU s _ _ (Nat.mod_lt _ (by omega))
theorem RV (s:List UInt8):yW s<4294967296:=by
 have h1:=RT s 1 0 (by omega);have h2:=RU s 1 0 (by omega);have h3:=Nat.mod_lt (1+(s.map UInt8.toNat).sum) (show 0<65521 by omega)
 unfold yW;omega
theorem Oy {u:Nat}(h:u<4294967296):sumOf (Iz u)=u:=by
 simp only[sumOf,Iz,List.getD_cons_zero,List.getD_cons_succ];rw[jA (by omega),jA (by omega),jA (by omega),jA (by omega)];omega
theorem aAS (u:Nat):(Iz u).length=4:=rfl
theorem La {p:bh}(h:bL p=true)(hl:Ib p):rr (j1 p)=some p:=by
 have hlen:(j1 p).length-4=(im p).length:=by simp[j1,Iz]
 have h4:¬(j1 p).length<4:=by simp[j1,Iz]
 have ht:(j1 p).take (im p).length=im p:=by simp[j1]
 have hd:(j1 p).drop (im p).length=Iz (yW (im p)):=by simp[j1]
 unfold rr;rw[if_neg h4,hlen,ht,hd,Oy (RV _),if_neg (by simp)];have e:=Oj h hl [];rw[List.append_nil]at e;simp only[e];rw[if_neg (by simp[h])]
def fi (ps:List Int)(i:Nat)(r:bo):Bool:=(fK r.before (ps.take i).reverse).1 && (fK r.after (ps.drop i)).1
def fJ (p:bh)(ps:List Int)(i k:Nat):Bool:=(p.rules.drop k).foldr (λr acc=>if fi ps i r then r.brk else acc) p.els
def gz (p:bh)(ps:List Int)(i:Nat):Bool:=fJ p ps i 0 || decide (i=0) || decide (i=ps.length)
def bg (p:bh)(ps:List Int)(n:Nat):List Nat:=(List.range n).filter (gz p ps)
def dH (p:bh)(ps:List Int):List Nat:=if ps=[] then [] else bg p ps (ps.length+1)
theorem tU (p:bh)(ps:List Int)(n:Nat):bg p ps (n+1)=if gz p ps n then bg p ps n++[n] else bg p ps n:=by
 unfold bg;rw[List.range_succ,List.filter_append];cases h:gz p ps n<;>simp[List.filter,h]
theorem vQ (p:bh)(ps:List Int)(n:Nat):(bg p ps n).length<=n:=by
 unfold bg;exact Nat.le_trans (List.length_filter_le _ _) (by simp)
theorem tV (p:bh)(ps:List Int):bg p ps 0=[]:=rfl
theorem Iq (p:bh)(ps:List Int)(i k:Nat)(h:p.rules.length<=k):fJ p ps i k=p.els:=by
 unfold fJ;rw[List.drop_eq_nil_of_le h];rfl
theorem FD {p:bh}{ps:List Int}{i k:Nat}{r:bo}(h:p.rules[k]?=some r):fJ p ps i k=if fi ps i r then r.brk else fJ p ps i (k+1):=by
 have aq:=(List.getElem?_eq_some_iff.1 h).1;unfold fJ;rw[List.drop_eq_getElem_cons aq,List.foldr_cons]
 have:=List.getElem?_eq_getElem aq;rw[h]at this;cases this;rfl
def dZ (c:aE):Nat->Nat->List Int->Prop
 | 0,_,_=>False
 | h+1,k,ps=>match c.ins[k]? with
  | none=>False
  | some x=>if x.op=5 then True
   else if x.op=2 then dZ c h x.a.toNat ps\/dZ c h x.b.toNat ps
   else if x.op=3 then dZ c h x.a.toNat ps
   else if x.op=4 then ps=[]/\dZ c h (k+1) ps
   else match ps with
    | []=>False
    | p::r=>fO (c.sets.getD x.a.toNat []) p=true/\dZ c h (k+1) r
def Acc (c:aE)(k:Nat)(ps:List Int):Prop:=∃h,dZ c h k ps
theorem mg {c:aE}:∀(h:Nat) (k:Nat) (ps:List Int),dZ c h k ps->dZ c (h+1) k ps
 | 0,k,ps,hh=>hh.elim
 | h+1,k,ps,hh=>by
  rw[dZ]at hh ⊢
  cases hx:c.ins[k]? with
  | none=>rw[hx]at hh;exact hh
  | some x =>
   rw[hx]at hh;dsimp only at hh ⊢
   by_cases h5:x.op=5
   ·rw[if_pos h5];trivial
   rw[if_neg h5]at hh ⊢
   by_cases h2:x.op=2
   ·rw[if_pos h2]at hh ⊢;exact hh.imp (mg h _ _) (mg h _ _)
   rw[if_neg h2]at hh ⊢
   by_cases h3:x.op=3
   ·rw[if_pos h3]at hh ⊢;exact mg h _ _ hh
   rw[if_neg h3]at hh ⊢
   by_cases h4:x.op=4
   ·rw[if_pos h4]at hh ⊢;exact⟨hh.1,mg h _ _ hh.2⟩
   rw[if_neg h4]at hh ⊢
   cases ps with
   | nil=>exact hh
   | cons p r=>exact⟨hh.1,mg h _ _ hh.2⟩
theorem mR {c:aE}{k:Nat}{ps:List Int}{x:I3}(hx:c.ins[k]?=some x)(h:x.op=5):Acc c k ps:=⟨1,by rw[dZ,hx];dsimp only;rw[if_pos h];trivial⟩
theorem fW {c:aE}{k:Nat}{ps:List Int}{x:I3}(hx:c.ins[k]?=some x)(h:x.op=2):Acc c k ps↔Acc c x.a.toNat ps\/Acc c x.b.toNat ps:=by
 constructor
 ·rintro⟨h',hh⟩;cases h' with
  | zero=>exact hh.elim
  | succ h' =>
   rw[dZ,hx]at hh;dsimp only at hh;rw[if_neg (by omega),if_pos h]at hh;exact hh.imp (λh=>⟨_,h⟩) (λh=>⟨_,h⟩)
 rintro(⟨h',hh⟩|⟨h',hh⟩)
 ·exact⟨h'+1,by rw[dZ,hx];dsimp only;rw[if_neg (by omega),if_pos h];exact .inl hh⟩
 exact⟨h'+1,by rw[dZ,hx];dsimp only;rw[if_neg (by omega),if_pos h];exact .inr hh⟩
theorem gd {c:aE}{k:Nat}{ps:List Int}{x:I3}(hx:c.ins[k]?=some x)(h:x.op=3):Acc c k ps↔Acc c x.a.toNat ps:=by
 constructor
 ·rintro⟨h',hh⟩;cases h' with
  | zero=>exact hh.elim
  | succ h' =>
   rw[dZ,hx]at hh;dsimp only at hh;rw[if_neg (by omega),if_neg (by omega),if_pos h]at hh;exact⟨_,hh⟩
 rintro⟨h',hh⟩;exact⟨h'+1,by rw[dZ,hx];dsimp only;rw[if_neg (by omega),if_neg (by omega),if_pos h];exact hh⟩
theorem nn {c:aE}{k:Nat}{ps:List Int}{x:I3}(hx:c.ins[k]?=some x)(h:x.op=4):Acc c k ps↔ps=[]/\Acc c (k+1) ps:=by
 constructor
 ·rintro⟨h',hh⟩;cases h' with
  | zero=>exact hh.elim
  | succ h' =>
   rw[dZ,hx]at hh;dsimp only at hh;rw[if_neg (by omega),if_neg (by omega),if_neg (by omega),if_pos h]at hh;exact⟨hh.1,_,hh.2⟩
 rintro⟨h0,h',hh⟩;exact⟨h'+1,by rw[dZ,hx];dsimp only;rw[if_neg (by omega),if_neg (by omega),if_neg (by omega),if_pos h];exact⟨h0,hh⟩⟩
theorem iH {c:aE}{k:Nat}{ps:List Int}{x:I3}(hx:c.ins[k]?=some x)(h:x.op≠2/\x.op≠3/\x.op≠4/\x.op≠5):Acc c k ps↔∃p r,ps=p::r/\fO (c.sets.getD x.a.toNat []) p=true/\Acc c (k+1) r:=by
 constructor
 ·rintro⟨h',hh⟩;cases h' with
  | zero=>exact hh.elim
  | succ h' =>
   rw[dZ,hx]at hh;dsimp only at hh;rw[if_neg (by omega),if_neg (by omega),if_neg (by omega),if_neg (by omega)]at hh;cases ps with
   | nil=>exact hh.elim
   | cons p r=>exact⟨p,r,rfl,hh.1,_,hh.2⟩
 rintro⟨p,r,rfl,h0,h',hh⟩;exact⟨h'+1,by rw[dZ,hx];dsimp only;rw[if_neg (by omega),if_neg (by omega),if_neg (by omega),if_neg (by omega)];exact⟨h0,hh⟩⟩
theorem ew {q:List Nat}{k j:Nat}:j∈ji q k↔j∈q\/j=k:=by
 unfold ji;split
 ·rename_i h;exact⟨.inl,λhh=>hh.elim id (λe=>e▸h)⟩
 simp
theorem vJ {q:List Nat}{k:Nat}:∀(i:Nat) (j:Nat),q[i]?=some j->(ji q k)[i]?=some j:=by
 intro i j h;unfold ji;split
 ·exact h
 rw[List.getElem?_append_left (List.getElem?_eq_some_iff.1 h).1];exact h
def J0 (cur:Option Int)(r:List Int):List Int:=match cur with|none=>[]|some p=>p::r
theorem yg {c:aE}{cur:Option Int}{x:I3}{at_:Nat}{q nx:List Nat}(hx:c.ins[at_]?=some x)(h5:x.op≠5)(r:List Int) :
  (∀j∈(fR c cur x at_ q nx).1,j∈q\/(Acc c j (J0 cur r)->Acc c at_ (J0 cur r))) /\
  (∀j∈(fR c cur x at_ q nx).2,j∈nx\/(cur≠none/\(Acc c j r->Acc c at_ (J0 cur r)))) /\
  (∀(i j:Nat),q[i]?=some j->(fR c cur x at_ q nx).1[i]?=some j):=by
 unfold fR;by_cases h2:x.op=2
 ·rw[if_pos h2];refine⟨λj hj=>?_,λj hj=>.inl hj,λi j h=>vJ _ _ (vJ _ _ h)⟩;rw[ew,ew]at hj;rcases hj with (hj|rfl)|rfl
  ·exact .inl hj
  ·exact .inr λh=>(fW hx h2).2 (.inl h)
  exact .inr λh=>(fW hx h2).2 (.inr h)
 rw[if_neg h2];by_cases h3:x.op=3
 ·rw[if_pos h3];refine⟨λj hj=>?_,λj hj=>.inl hj,λi j h=>vJ _ _ h⟩;rw[ew]at hj;rcases hj with hj|rfl
  ·exact .inl hj
  exact .inr λh=>(gd hx h3).2 h
 rw[if_neg h3];by_cases h4:x.op=4
 ·rw[if_pos h4];cases cur with
  | none =>
   refine⟨λj hj=>?_,λj hj=>.inl hj,λi j h=>vJ _ _ h⟩;have hj:j∈ji q (at_+1):=hj;rw[ew]at hj;rcases hj with hj|rfl
   ·exact .inl hj
   exact .inr λh=>(nn hx h4).2 ⟨rfl,h⟩
  | some p=>exact⟨λj hj=>.inl hj,λj hj=>.inl hj,λi j h=>h⟩
 rw[if_neg h4];cases cur with
 | none=>exact⟨λj hj=>.inl hj,λj hj=>.inl hj,λi j h=>h⟩
 | some p =>
  refine⟨λj hj=>.inl hj,λj hj=>?_,λi j h=>h⟩;dsimp only at hj;split at hj
  ·rename_i hh;rw[ew]at hj;rcases hj with hj|rfl
   ·exact .inl hj
   exact .inr ⟨by simp,λh=>(iH hx ⟨h2,h3,h4,h5⟩).2 ⟨p,r,rfl,hh,h⟩⟩
  exact .inl hj
def JZ (c:aE)(cur:Option Int)(q nx:List Nat)(at_:Nat):Prop:=∀x,c.ins[at_]?=some x->x.op≠5/\(x.op=2->x.a.toNat∈q/\x.b.toNat∈q)/\(x.op=3->x.a.toNat∈q)/\(x.op=4->cur=none->at_+1∈q) /\
 (x.op≠2->x.op≠3->x.op≠4->∀p,cur=some p->fO (c.sets.getD x.a.toNat []) p=true->at_+1∈nx)
theorem JZ.mono {c:aE}{cur:Option Int}{q nx q' Fm:List Nat}{at_:Nat}(h:JZ c cur q nx at_)(hq:∀j∈q,j∈q')(hn:∀j∈nx,j∈Fm):JZ c cur q' Fm at_:=λx hx=>by
 obtain⟨h1,h2,h3,h4,h5⟩:=h x hx;exact⟨h1,λe=>⟨hq _ (h2 e).1,hq _ (h2 e).2⟩,λe=>hq _ (h3 e),λe e'=>hq _ (h4 e e'),λa b d p e e'=>hn _ (h5 a b d p e e')⟩
theorem Nc {c:aE}{cur:Option Int}{x:I3}{at_:Nat}{q nx:List Nat}(hx:c.ins[at_]?=some x)(h5:x.op≠5) :
  JZ c cur (fR c cur x at_ q nx).1 (fR c cur x at_ q nx).2 at_/\(∀j∈q,j∈(fR c cur x at_ q nx).1)/\(∀j∈nx,j∈(fR c cur x at_ q nx).2):=by
 unfold fR JZ;by_cases h2:x.op=2
 ·rw[if_pos h2];refine⟨λy hy=>?_,λj hj=>ew.2 (.inl (ew.2 (.inl hj))),λj hj=>hj⟩;rw[hx]at hy;cases hy;exact⟨h5,λ_=>⟨ew.2 (.inl (ew.2 (.inr rfl))),ew.2 (.inr rfl)⟩,λh=>absurd h (by omega),λh=>absurd h (by omega),λh=>absurd h2 h⟩
 rw[if_neg h2];by_cases h3:x.op=3
 ·rw[if_pos h3];refine⟨λy hy=>?_,λj hj=>ew.2 (.inl hj),λj hj=>hj⟩;rw[hx]at hy;cases hy;exact⟨h5,λh=>absurd h h2,λ_=>ew.2 (.inr rfl),λh=>absurd h (by omega),λ_ h=>absurd h3 h⟩
 rw[if_neg h3];by_cases h4:x.op=4
 ·rw[if_pos h4];refine⟨λy hy=>?_,λj hj=>?_,λj hj=>hj⟩
  ·rw[hx]at hy;cases hy;refine⟨h5,λh=>absurd h h2,λh=>absurd h h3,λ_ e=>?_,λ_ _ h=>absurd h4 h⟩;subst e;exact ew.2 (.inr rfl)
  dsimp only;split
  ·exact ew.2 (.inl hj)
  exact hj
 rw[if_neg h4];cases cur with
 | none =>
  refine⟨λy hy=>?_,λj hj=>hj,λj hj=>hj⟩;rw[hx]at hy;cases hy;exact⟨h5,λh=>absurd h h2,λh=>absurd h h3,λh=>absurd h h4,λ_ _ _ p h=>by cases h⟩
 | some p =>
  refine⟨λy hy=>?_,λj hj=>hj,λj hj=>?_⟩
  ·rw[hx]at hy;cases hy;refine⟨h5,λh=>absurd h h2,λh=>absurd h h3,λh=>absurd h h4,λ_ _ _ p' e hh=>?_⟩;cases e;dsimp only;rw[if_pos hh];exact ew.2 (.inr rfl)
  dsimp only;split
  ·exact ew.2 (.inl hj)
  exact hj
theorem zC {c:aE}(cur:Option Int)(r:List Int)(G:Prop)(hG:∀p,cur=some p->True):∀(f:Nat) (q:List Nat) (k:Nat) (nx:List Nat) (st:Nat),(∀j∈q,Acc c j (J0 cur r)->G)->(∀j∈nx,cur≠none/\(Acc c j r->G)) ->
  (∀s,inner c cur f q k nx st=.yes s->G)/\(∀q' Fm s,inner c cur f q k nx st=.no q' Fm s->(∀j∈Fm,cur≠none/\(Acc c j r->G)))
 | 0,q,k,nx,st,hq,hn=>⟨λs h=>(by rw[inner]at h;cases h),λq' Fm s h=>by rw[inner]at h;cases h;exact hn⟩
 | f+1,q,k,nx,st,hq,hn=>by
  rw[inner];cases hk:q[k]? with
  | none=>exact⟨λs h=>(by cases h),λq' Fm s h=>by cases h;exact hn⟩
  | some at_ =>
   dsimp only;cases hx:c.ins[at_]? with
   | none=>exact⟨λs h=>(by cases h),λq' Fm s h=>by cases h;exact hn⟩
   | some x =>
    dsimp only;have Hi:=hq at_ (List.mem_of_getElem? hk);by_cases h5:x.op=5
    ·rw[if_pos h5];exact⟨λs _=>Hi (mR hx h5),λq' Fm s h=>by cases h⟩
    rw[if_neg h5];obtain⟨e1,e2,_⟩:=yg (cur:=cur) (q:=q) (nx:=nx) hx h5 r;exact zC cur r G hG f _ _ _ _ (λj hj ha=>(e1 j hj).elim (λh=>hq j h ha) (λh=>Hi (h ha)))
     (λj hj=>(e2 j hj).elim (λh=>hn j h) (λh=>⟨h.1,λha=>Hi (h.2 ha)⟩))
theorem wI {c:aE}(hc:CR c)(cur:Option Int):∀(f:Nat) (q:List Nat) (k:Nat) (nx:List Nat) (st:Nat),bz c.ins.length q->bz c.ins.length nx->c.ins.length+1<=f+k ->
  (∀(i j:Nat),i<k->q[i]?=some j->JZ c cur q nx j)->∀q' Fm s,inner c cur f q k nx st=.no q' Fm s->(∀j∈q,j∈q')/\∀j∈q',JZ c cur q' Fm j
 | 0,q,k,nx,st,hq,hn,hf,hd,q',Fm,s,h=>by
  rw[inner]at h;cases h;refine⟨λj h=>h,λj hj=>?_⟩;obtain⟨i,hi⟩:=List.getElem?_of_mem hj
  have:=(List.getElem?_eq_some_iff.1 hi).1
  have:=hq.len;exact hd i j (by omega) hi
 | f+1,q,k,nx,st,hq,hn,hf,hd,q',Fm,s,h=>by
  rw[inner]at h;cases hk:q[k]? with
  | none =>
   rw[hk]at h;cases h;refine⟨λj h=>h,λj hj=>?_⟩;obtain⟨i,hi⟩:=List.getElem?_of_mem hj;have h1:=(List.getElem?_eq_some_iff.1 hi).1;have h2:=List.getElem?_eq_none_iff.1 hk;exact hd i j (by omega) hi
  | some at_ =>
   rw[hk]at h;dsimp only at h;have aq:=hq.2 at_ (List.mem_of_getElem? hk);cases hx:c.ins[at_]? with
   | none=>have:=List.getElem?_eq_none_iff.1 hx;omega
   | some x =>
    rw[hx]at h;dsimp only at h;by_cases h5:x.op=5
    ·rw[if_pos h5]at h;cases h
    rw[if_neg h5]at h;obtain⟨p1,p2⟩:=vY hc (cur:=cur) hx h5 hq hn;obtain⟨d1,d2,d3⟩:=Nc (cur:=cur) (q:=q) (nx:=nx) hx h5;obtain⟨_,_,e3⟩:=yg (cur:=cur) (q:=q) (nx:=nx) hx h5 [];obtain⟨r1,r2⟩:=wI hc cur f _ (k+1) _ _ p1 p2 (by omega) (λi j hi hj=>by
     rcases Nat.lt_or_ge i k with Y0|Y0
     ·have aq:i<q.length:=by
       have:=(List.getElem?_eq_some_iff.1 hk).1;omega
      have OA:=e3 i _ (List.getElem?_eq_getElem aq);rw[hj]at OA;cases OA;exact(hd i _ Y0 (List.getElem?_eq_getElem aq)).mono d2 d3
     have:i=k:=by omega
     subst this;have OA:=e3 i _ hk;rw[hj]at OA;cases OA;exact d1) q' Fm s h
    exact⟨λj hj=>r1 j (d2 j hj),r2⟩
theorem nB {c:aE}{cur:Option Int}{q nx:List Nat}{r:List Int}(hd:∀j∈q,JZ c cur q nx j):∀(h:Nat) (j:Nat),j∈q->dZ c h j (J0 cur r)->cur≠none/\∃k∈nx,Acc c k r
 | 0,j,hj,ha=>ha.elim
 | h+1,j,hj,ha=>by
  rw[dZ]at ha;cases hx:c.ins[j]? with
  | none=>rw[hx]at ha;exact ha.elim
  | some x =>
   rw[hx]at ha;dsimp only at ha;obtain⟨h5,h2,h3,h4,h1⟩:=hd j hj x hx;rw[if_neg h5]at ha;by_cases e2:x.op=2
   ·rw[if_pos e2]at ha;rcases ha with ha|ha
    ·exact nB hd h _ (h2 e2).1 ha
    exact nB hd h _ (h2 e2).2 ha
   rw[if_neg e2]at ha;by_cases e3:x.op=3
   ·rw[if_pos e3]at ha;exact nB hd h _ (h3 e3) ha
   rw[if_neg e3]at ha;by_cases e4:x.op=4
   ·rw[if_pos e4]at ha;cases cur with
    | none=>exact nB hd h _ (h4 e4 rfl) ha.2
    | some p=>cases ha.1
   rw[if_neg e4]at ha;cases cur with
   | none=>exact ha.elim
   | some p =>
    have ha:fO (c.sets.getD x.a.toNat []) p=true/\dZ c h (j+1) r:=ha;exact⟨by simp,_,h1 e2 e3 e4 p rfl ha.1,_,ha.2⟩
theorem CN {c:aE}(hc:CR c)(cur:Option Int)(r:List Int){q:List Nat}(hq:bz c.ins.length q)(st:Nat) :
  (∀s,inner c cur (c.ins.length+1) q 0 [] st=.yes s->∃j∈q,Acc c j (J0 cur r)) /\
  (∀q' nx s,inner c cur (c.ins.length+1) q 0 [] st=.no q' nx s->bz c.ins.length nx/\(cur=none->nx=[])/\((∃j∈q,Acc c j (J0 cur r))↔∃k∈nx,Acc c k r)):=by
 have hs:=zC (c:=c) cur r (∃j∈q,Acc c j (J0 cur r)) (λ_ _=>trivial) (c.ins.length+1) q 0 [] st (λj hj ha=>⟨j,hj,ha⟩) (λj hj=>by cases hj);refine⟨hs.1,λq' nx s h=>?_⟩;have h2:=hs.2 q' nx s h;obtain⟨h3,h4⟩:=wI hc cur (c.ins.length+1) q 0 [] st hq (bz.nil _) (by omega) (λi j hi=>absurd hi (by omega)) q' nx s h;refine⟨(wJ hc _ _ _ _ _ hq (bz.nil _) _ _ _ h).2,λe=>?_,?_,?_⟩
 ·cases nx with
  | nil=>rfl
  | cons k t=>exact absurd e (h2 k (by simp)).1
 ·rintro⟨j,hj,hh,ha⟩;exact(nB h4 hh j (h3 j hj) ha).2
 rintro⟨k,hk,ha⟩;exact(h2 k hk).2 ha
theorem Fp {c:aE}(hc:CR c):∀(ps:List Int) (q:List Nat) (st:Nat),bz c.ins.length q->((outer c ps q st).1=true↔∃j∈q,Acc c j ps)
 | [],q,st,hq=>by
  obtain⟨h1,h2⟩:=CN hc none [] hq st;rw[outer];cases hi:inner c none (c.ins.length+1) q 0 [] st with
  | yes s=>exact⟨λ_=>h1 s hi,λ_=>rfl⟩
  | no q' nx s =>
   obtain⟨_,h3,h4⟩:=h2 q' nx s hi;rw[h3 rfl]at h4;exact⟨λh=>(by cases h),λh=>(by obtain⟨k,hk,_⟩:=h4.1 h;cases hk)⟩
 | p::ps,q,st,hq=>by
  obtain⟨h1,h2⟩:=CN hc (some p) ps hq st;rw[outer];cases hi:inner c (some p) (c.ins.length+1) q 0 [] st with
  | yes s=>exact⟨λ_=>h1 s hi,λ_=>rfl⟩
  | no q' nx s =>
   obtain⟨h3,_,h4⟩:=h2 q' nx s hi;dsimp only;by_cases hn:nx=[]
   ·rw[if_pos hn];subst hn;exact⟨λh=>(by cases h),λh=>(by obtain⟨k,hk,_⟩:=h4.1 h;cases hk)⟩
   rw[if_neg hn,Fp hc ps nx s h3];exact h4.symm
theorem n0 {c:aE}(hc:CR c)(ps:List Int):(fK c ps).1=true↔Acc c 0 ps:=by
 unfold fK;rw[Fp hc ps [0] 0 (bz.one hc.one)];simp
theorem CR.to {c:aE}(h:CR c):aW c=true:=by
 have h1:=h.one;have hl:c.ins.length-1<c.ins.length:=by omega
 have hx:=List.getElem?_eq_getElem hl;have hn:=h.next _ _ hx;unfold aW;rw[hx];simp only[Bool.and_eq_true,decide_eq_true_eq,List.all_eq_true];refine⟨⟨⟨⟨h.one,h.many,h.sets⟩,⟨λe=>?_,λe=>?_⟩⟩,λx hx=>?_⟩,h.set⟩
 ·have:=hn (.inl e);omega
 ·have:=hn (.inr e);omega
 obtain⟨i,hi⟩:=List.getElem?_of_mem hx;exact h.ins i x hi
def uG (c:aE):Nat->Nat->Nat
 | 0,k=>k
 | f+1,k=>match c.ins[k]? with
  | none=>k
  | some x=>if x.op=3 then uG c f x.a.toNat else k
def gr (c:aE)(k:Nat):Nat:=uG c c.ins.length k
theorem jK {c:aE}(hc:CR c){i:Nat}{x:I3}(hx:c.ins[i]?=some x)(h:x.op=3):0<=x.a/\x.a.toNat<c.ins.length/\x.b=0:=by
 rcases cY (hc.ins i x hx) with ⟨e,h1,h2,h3⟩|⟨e,h1,h2,h3,h4⟩|⟨e,h1,h2,h3⟩|⟨e|e,h1,h2⟩
 all_goals first|omega|(exact⟨h1,by omega,h3⟩)
theorem nO {c:aE}(hc:CR c){i:Nat}{x:I3}(hx:c.ins[i]?=some x)(h:x.op=2):0<=x.a/\x.a.toNat<c.ins.length/\0<=x.b/\x.b.toNat<c.ins.length:=by
 rcases cY (hc.ins i x hx) with ⟨e,h1,h2,h3⟩|⟨e,h1,h2,h3,h4⟩|⟨e,h1,h2,h3⟩|⟨e|e,h1,h2⟩
 all_goals first|omega|(exact⟨h1,by omega,h3,by omega⟩)
theorem jL {c:aE}(hc:CR c){i:Nat}{x:I3}(hx:c.ins[i]?=some x)(h:x.op≠2/\x.op≠3/\x.op≠4/\x.op≠5):x.op=1/\0<=x.a/\x.a.toNat<c.sets.length/\x.b=0:=by
 rcases cY (hc.ins i x hx) with ⟨e,h1,h2,h3⟩|⟨e,h1,h2,h3,h4⟩|⟨e,h1,h2,h3⟩|⟨e|e,h1,h2⟩
 all_goals first|omega|(exact⟨e,h1,by omega,h3⟩)
theorem Ab {c:aE}(hc:CR c):∀(f k:Nat),k<c.ins.length->uG c f k<c.ins.length
 | 0,k,h=>h
 | f+1,k,h=>by
  rw[uG];split
  ·exact h
  rename_i x hx;split
  ·rename_i h3;exact Ab hc f _ (jK hc hx h3).2.1
  exact h
theorem rL {c:aE}:∀(f k:Nat) (ps:List Int),Acc c (uG c f k) ps↔Acc c k ps
 | 0,k,ps=>Iff.rfl
 | f+1,k,ps=>by
  rw[uG];split
  ·exact Iff.rfl
  rename_i x hx;split
  ·rename_i h3;rw[rL f,gd hx h3]
  exact Iff.rfl
theorem sW {c:aE}:∀(f h k:Nat) (ps:List Int),dZ c h k ps->dZ c h (uG c f k) ps
 | 0,h,k,ps,ha=>ha
 | f+1,h,k,ps,ha=>by
  rw[uG];split
  ·exact ha
  rename_i x hx;split
  ·rename_i h3;cases h with
   | zero=>exact ha.elim
   | succ h =>
    rw[dZ,hx]at ha;dsimp only at ha;rw[if_neg (by omega),if_neg (by omega),if_pos h3]at ha;exact sW f _ _ _ (mg _ _ _ ha)
  exact ha
def bV (c:aE)(x:I3):I3 :=
 if x.op=3 then ⟨x.op,gr c x.a.toNat,x.b⟩
 else if x.op=2 then (if gr c x.a.toNat=gr c x.b.toNat then ⟨3,gr c x.a.toNat,0⟩ else ⟨x.op,gr c x.a.toNat,gr c x.b.toNat⟩)
 else x
def fk (c:aE)(i:Nat):aE:=match c.ins[i]? with
 | none=>c
 | some x=>⟨c.sets,c.ins.set i (bV c x)⟩
def ar (c:aE):Nat->aE
 | 0=>c
 | i+1=>fk (ar c i) i
def pW (c:aE):aE:=ar c c.ins.length
theorem JA {c:aE}(hc:CR c){i:Nat}{x:I3}(hx:c.ins[i]?=some x):bT (bV c x) c.sets.length c.ins.length=true/\((bV c x).op=1\/(bV c x).op=4->bV c x=x):=by
 unfold bV;split
 ·rename_i h3;obtain⟨h1,h2,hb⟩:=jK hc hx h3
  have:=Ab hc c.ins.length _ h2;refine⟨?_,λh=>by dsimp only at h;omega⟩;unfold bT gr;dsimp only;rw[if_neg (by omega),if_neg (by omega),if_pos h3];exact decide_eq_true ⟨⟨by omega,by omega⟩,hb⟩
 split
 ·rename_i h3 h2;obtain⟨a1,a2,b1,b2⟩:=nO hc hx h2;have ha:=Ab hc c.ins.length _ a2;have hb:=Ab hc c.ins.length _ b2;split
  ·refine⟨?_,λh=>by dsimp only at h;omega⟩;unfold bT gr;dsimp only;rw[if_neg (by omega),if_neg (by omega),if_pos rfl];exact decide_eq_true ⟨⟨by omega,by omega⟩,rfl⟩
  refine⟨?_,λh=>by dsimp only at h;omega⟩;unfold bT gr;dsimp only;rw[if_neg (by omega),if_pos h2];exact decide_eq_true ⟨⟨by omega,by omega⟩,by omega,by omega⟩
 exact⟨hc.ins i x hx,λ_=>rfl⟩
theorem iS {c:aE}{i:Nat}{x:I3}(hx:c.ins[i]?=some x)(j:Nat):(fk c i).ins[j]?=if j=i then some (bV c x) else c.ins[j]?:=by
 unfold fk;rw[hx];dsimp only;rw[List.getElem?_set]
 have:=(List.getElem?_eq_some_iff.1 hx).1;by_cases h:j=i
 ·subst h;rw[if_pos rfl,if_pos rfl,if_pos this]
 rw[if_neg h,if_neg (λe=>h e.symm)]
theorem kC (c:aE)(i:Nat):(fk c i).sets=c.sets:=by unfold fk;split<;>rfl
theorem lj (c:aE)(i:Nat):(fk c i).ins.length=c.ins.length:=by unfold fk;split<;>simp
theorem PF {c:aE}(hc:CR c)(i:Nat):CR (fk c i):=by
 cases hx:c.ins[i]? with
 | none=>unfold fk;rw[hx];exact hc
 | some x =>
  have hs:=JA hc hx;refine⟨by rw[lj];exact hc.one,by rw[lj];exact hc.many,by rw[kC];exact hc.sets,λj y hy=>?_,λj y hy ho=>?_,by rw[kC];exact hc.set⟩
  ·rw[iS hx]at hy;rw[kC,lj];split at hy
   ·cases hy;exact hs.1
   exact hc.ins j y hy
  rw[iS hx]at hy;rw[lj];split at hy
  ·rename_i e;cases hy;rw[hs.2 ho]at ho;subst e;exact hc.next j x hx ho
  exact hc.next j y hy ho
theorem MP {c:aE}(hc:CR c)(i:Nat)(k:Nat)(ps:List Int):Acc (fk c i) k ps↔Acc c k ps:=by
 cases hx:c.ins[i]? with
 | none=>unfold fk;rw[hx]
 | some x =>
  have CD:=kC c i;constructor
  ·rintro⟨h,ha⟩;induction h generalizing k ps with
   | zero=>exact ha.elim
   | succ h ih =>
    by_cases hk:k=i
    ·subst hk;have hy:(fk c k).ins[k]?=some (bV c x):=by rw[iS hx,if_pos rfl]
     by_cases h3:x.op=3
     ·rw[gd hx h3];have e:bV c x=⟨x.op,gr c x.a.toNat,x.b⟩:=by unfold bV;rw[if_pos h3]
      rw[e]at hy;rw[dZ,hy]at ha;dsimp only at ha;rw[if_neg (by omega),if_neg (by omega),if_pos h3]at ha;rw[Int.toNat_natCast]at ha;exact(rL _ _ _).1 (ih _ _ ha)
     by_cases h2:x.op=2
     ·rw[fW hx h2];by_cases he:gr c x.a.toNat=gr c x.b.toNat
      ·have e:bV c x=⟨3,gr c x.a.toNat,0⟩:=by unfold bV;rw[if_neg h3,if_pos h2,if_pos he]
       rw[e]at hy;rw[dZ,hy]at ha;dsimp only at ha;rw[if_neg (by omega),if_neg (by omega),if_pos rfl]at ha;rw[Int.toNat_natCast]at ha;exact .inl ((rL _ _ _).1 (ih _ _ ha))
      have e:bV c x=⟨x.op,gr c x.a.toNat,gr c x.b.toNat⟩:=by unfold bV;rw[if_neg h3,if_pos h2,if_neg he]
      rw[e]at hy;rw[dZ,hy]at ha;dsimp only at ha;rw[if_neg (by omega),if_pos h2]at ha;rw[Int.toNat_natCast,Int.toNat_natCast]at ha;exact ha.imp (λha=>(rL _ _ _).1 (ih _ _ ha)) (λha=>(rL _ _ _).1 (ih _ _ ha))
     have e:bV c x=x:=by unfold bV;rw[if_neg h3,if_neg h2]
     rw[e]at hy;rw[dZ,hy]at ha;dsimp only at ha;by_cases h5:x.op=5
     ·exact mR hx h5
     rw[if_neg h5,if_neg h2,if_neg h3]at ha;by_cases h4:x.op=4
     ·rw[if_pos h4]at ha;exact(nn hx h4).2 ⟨ha.1,ih _ _ ha.2⟩
     rw[if_neg h4,CD]at ha;cases ps with
     | nil=>exact ha.elim
     | cons p r=>exact(iH hx ⟨h2,h3,h4,h5⟩).2 ⟨p,r,rfl,ha.1,ih _ _ ha.2⟩
    have hy:(fk c i).ins[k]?=c.ins[k]?:=by rw[iS hx,if_neg hk]
    rw[dZ,hy]at ha;cases hz:c.ins[k]? with
    | none=>rw[hz]at ha;exact ha.elim
    | some z =>
     rw[hz]at ha;dsimp only at ha;by_cases h5:z.op=5
     ·exact mR hz h5
     rw[if_neg h5]at ha;by_cases h2:z.op=2
     ·rw[if_pos h2]at ha;exact(fW hz h2).2 (ha.imp (ih _ _) (ih _ _))
     rw[if_neg h2]at ha;by_cases h3:z.op=3
     ·rw[if_pos h3]at ha;exact(gd hz h3).2 (ih _ _ ha)
     rw[if_neg h3]at ha;by_cases h4:z.op=4
     ·rw[if_pos h4]at ha;exact(nn hz h4).2 ⟨ha.1,ih _ _ ha.2⟩
     rw[if_neg h4,CD]at ha;cases ps with
     | nil=>exact ha.elim
     | cons p r=>exact(iH hz ⟨h2,h3,h4,h5⟩).2 ⟨p,r,rfl,ha.1,ih _ _ ha.2⟩
  rintro⟨h,ha⟩;induction h generalizing k ps with
  | zero=>exact ha.elim
  | succ h ih =>
   by_cases hk:k=i
   ·subst hk;have hy:(fk c k).ins[k]?=some (bV c x):=by rw[iS hx,if_pos rfl]
    rw[dZ,hx]at ha;dsimp only at ha;by_cases h5:x.op=5
    ·exact mR hy (by unfold bV;rw[if_neg (by omega),if_neg (by omega)];exact h5)
    rw[if_neg h5]at ha;by_cases h2:x.op=2
    ·rw[if_pos h2]at ha;have YG:=ha.imp (λa=>ih _ _ (sW c.ins.length _ _ _ a)) (λa=>ih _ _ (sW c.ins.length _ _ _ a));by_cases he:gr c x.a.toNat=gr c x.b.toNat
     ·have e:bV c x=⟨3,gr c x.a.toNat,0⟩:=by unfold bV;rw[if_neg (by omega),if_pos h2,if_pos he]
      rw[e]at hy;rw[gd hy rfl];dsimp only;rw[Int.toNat_natCast];rcases YG with a|a
      ·exact a
      rw[he];exact a
     have e:bV c x=⟨x.op,gr c x.a.toNat,gr c x.b.toNat⟩:=by unfold bV;rw[if_neg (by omega),if_pos h2,if_neg he]
     rw[e]at hy;rw[fW hy h2];dsimp only;rw[Int.toNat_natCast,Int.toNat_natCast];exact YG
    rw[if_neg h2]at ha;by_cases h3:x.op=3
    ·rw[if_pos h3]at ha;have e:bV c x=⟨x.op,gr c x.a.toNat,x.b⟩:=by unfold bV;rw[if_pos h3]
     rw[e]at hy;rw[gd hy h3];dsimp only;rw[Int.toNat_natCast];exact ih _ _ (sW c.ins.length _ _ _ ha)
    rw[if_neg h3]at ha;have e:bV c x=x:=by unfold bV;rw[if_neg h3,if_neg h2]
    rw[e]at hy;by_cases h4:x.op=4
    ·rw[if_pos h4]at ha;exact(nn hy h4).2 ⟨ha.1,ih _ _ ha.2⟩
    rw[if_neg h4]at ha;cases ps with
    | nil=>exact ha.elim
    | cons p r=>exact(iH hy ⟨h2,h3,h4,h5⟩).2 ⟨p,r,rfl,by rw[CD];exact ha.1,ih _ _ ha.2⟩
   have hy:(fk c i).ins[k]?=c.ins[k]?:=by rw[iS hx,if_neg hk]
   rw[dZ]at ha;cases hz:c.ins[k]? with
   | none=>rw[hz]at ha;exact ha.elim
   | some z =>
    rw[hz]at ha hy;dsimp only at ha;by_cases h5:z.op=5
    ·exact mR hy h5
    rw[if_neg h5]at ha;by_cases h2:z.op=2
    ·rw[if_pos h2]at ha;exact(fW hy h2).2 (ha.imp (ih _ _) (ih _ _))
    rw[if_neg h2]at ha;by_cases h3:z.op=3
    ·rw[if_pos h3]at ha;exact(gd hy h3).2 (ih _ _ ha)
    rw[if_neg h3]at ha;by_cases h4:z.op=4
    ·rw[if_pos h4]at ha;exact(nn hy h4).2 ⟨ha.1,ih _ _ ha.2⟩
    rw[if_neg h4]at ha;cases ps with
    | nil=>exact ha.elim
    | cons p r=>exact(iH hy ⟨h2,h3,h4,h5⟩).2 ⟨p,r,rfl,by rw[CD];exact ha.1,ih _ _ ha.2⟩
theorem oe {c:aE}(hc:CR c):∀i,CR (ar c i)/\(ar c i).sets=c.sets/\(ar c i).ins.length=c.ins.length/\(∀k ps,Acc (ar c i) k ps↔Acc c k ps)/\∀j,i<=j->(ar c i).ins[j]?=c.ins[j]?
 | 0=>⟨hc,rfl,rfl,λ_ _=>Iff.rfl,λ_ _=>rfl⟩
 | i+1=>by
  obtain⟨h1,h2,h3,h4,h5⟩:=oe hc i;rw[ar];refine⟨PF h1 i,by rw[kC,h2],by rw[lj,h3],λk ps=>by rw[MP h1,h4],λj hj=>?_⟩;rw[<-h5 j (by omega)];cases hx:(ar c i).ins[i]? with
  | none=>unfold fk;rw[hx]
  | some x=>rw[iS hx,if_neg (by omega)]
def vG (c:aE)(x:I3)(i j:Nat):Prop :=
 (x.op=2/\(j=x.a.toNat\/j=x.b.toNat))\/(x.op=3/\j=x.a.toNat)\/(x.op=4/\j=i+1)\/(x.op=1/\c.sets.getD x.a.toNat []≠[]/\j=i+1)
structure ts (c:aE)(is:List Bool):Prop where
 len:is.length=c.ins.length
 zero:is[0]?=some true
 leads:∀(i:Nat) (x:I3),is[i]?=some true->c.ins[i]?=some x->∀j,vG c x i j->is[j]?=some true
def bZ (is:List Bool):Nat->Nat->Nat
 | 0,k=>is.length
 | f+1,k=>if is[k]?=some true then k else if k<is.length then bZ is f (k+1) else is.length
def rl (is:List Bool)(i:Nat):Nat:=bZ is is.length (i+1)
theorem o8 {is:List Bool}:∀(f k:Nat),is.length<=f+k->(is[bZ is f k]?=some true/\k<=bZ is f k\/bZ is f k=is.length)/\∀j,k<=j->j<bZ is f k->is[j]?≠some true
 | 0,k,h=>⟨.inr rfl,λj h1 h2=>by rw[bZ]at h2;omega⟩
 | f+1,k,h=>by
  rw[bZ];split
  ·rename_i hk;exact⟨.inl ⟨hk,Nat.le_refl _⟩,λj h1 h2=>by omega⟩
  rename_i hk;split
  ·obtain⟨h1,h2⟩:=o8 (is:=is) f (k+1) (by omega);refine⟨h1.imp (λh=>⟨h.1,by omega⟩) id,λj hj hj2=>?_⟩;by_cases e:j=k
   ·subst e;exact hk
   exact h2 j (by omega) hj2
  exact⟨.inr rfl,λj h1 h2=>by rw[List.getElem?_eq_none (by omega)];simp⟩
theorem I0 {is:List Bool}{f k:Nat}(h:is[k]?=some true):bZ is (f+1) k=k:=by rw[bZ,if_pos h]
theorem Es {is:List Bool}{f k:Nat}(h:is[k]?≠some true)(hk:k<is.length):bZ is (f+1) k=bZ is f (k+1):=by rw[bZ,if_neg h,if_pos hk]
theorem qM {is:List Bool}:∀(f:Nat) {k:Nat},is.length<=k->bZ is f k=is.length
 | 0,k,h=>rfl
 | f+1,k,h=>by rw[bZ,if_neg (by rw[List.getElem?_eq_none h];simp),if_neg (by omega)]
def oI (c:aE)(is:List Bool)(i:Nat):Bool:=match c.ins[i]? with
 | none=>false
 | some x=>decide (x.op=3/\(rl is i:Int)=x.a/\(i:Int)<x.a)
def eO (c:aE)(is:List Bool)(i:Nat):Bool:=decide (is[i]?=some true) && !oI c is i
def fr (c:aE)(is:List Bool):Nat->Nat
 | 0=>0
 | i+1=>if eO c is i then fr c is i+1 else fr c is i
theorem MR {c : aE} {is : List Bool} {i : Nat} : ∀ {j : Nat}, i <= j -> fr c is i <= fr c is j
  | 0, h => by have : i = 0 := by omega
               subst this; exact Nat.le_refl _
  | j + 1, h => by
    by_cases e : i = j + 1
    · subst e; exact Nat.le_refl _
    have := MR (c := c) (is := is) (i := i) (j := j) (by omega)
    rw [fr]; split <;> omega
theorem mC {c:aE}{is:List Bool}:∀(j:Nat),fr c is j<=j
 | 0=>Nat.le_refl _
 | j+1=>by have:=mC (c:=c) (is:=is) j;rw[fr];split<;>omega
theorem aAZ {c:aE}{is:List Bool}{i j:Nat}(h:i<j)(hk:eO c is i=true):fr c is i<fr c is j:=by
 have h1:fr c is (i+1)=fr c is i+1:=by rw[fr,if_pos hk]
 have:=MR (c:=c) (is:=is) (i:=i+1) (j:=j) (by omega);omega
theorem D8 {c : aE} {is : List Bool} {i : Nat} : ∀ {j : Nat}, i <= j -> (∀ k, i <= k -> k < j -> eO c is k = false) -> fr c is j = fr c is i
  | 0, h, _ => by have : i = 0 := by omega
                  subst this; rfl
  | j + 1, h, hk => by
    by_cases e : i = j + 1
    · subst e; rfl
    rw [fr, if_neg (by rw [hk j (by omega) (by omega)]; simp)]
    exact D8 (by omega) (λk h1 h2 => hk k h1 (by omega))
theorem IH {c:aE}{is:List Bool}{i:Nat}(h:eO c is i=true):is[i]?=some true/\oI c is i=false:=by
 unfold eO at h;simp only[Bool.and_eq_true,decide_eq_true_eq,Bool.not_eq_true']at h;exact h
theorem II {c:aE}{is:List Bool}{i:Nat}(h:eO c is i=true):i<is.length:=(List.getElem?_eq_some_iff.1 (IH h).1).1
theorem pJ {c:aE}{is:List Bool}(hC:ts c is):∀(d i:Nat),is.length<=d+i->is[i]?=some true->∃j,i<=j/\eO c is j=true/\fr c is j=fr c is i/\∀ps,Acc c i ps↔Acc c j ps
 | 0,i,h,hi=>by have:=(List.getElem?_eq_some_iff.1 hi).1;omega
 | d+1,i,h,hi=>by
  by_cases hs:oI c is i=true
  ·have TV:=hs;unfold oI at hs;cases hx:c.ins[i]? with
   | none=>rw[hx]at hs;cases hs
   | some x =>
    rw[hx]at hs;simp only[decide_eq_true_eq]at hs;obtain⟨h3,hn,JQ⟩:=hs;have hl:=hC.leads i x hi hx x.a.toNat (.inr (.inl ⟨h3,rfl⟩));obtain⟨j,h1,h2,h4,h5⟩:=pJ hC d x.a.toNat (by omega) hl;have j7:=o8 (is:=is) is.length (i+1) (by omega);have Kk:bZ is is.length (i+1)=x.a.toNat:=by unfold rl at hn;omega
    rw[Kk]at j7;refine⟨j,by omega,h2,?_,λps=>by rw[gd hx h3];exact h5 ps⟩;rw[h4];apply D8 (by omega);intro k QU nh;unfold eO;by_cases e:k=i
    ·subst e;rw[TV];simp
    rw[decide_eq_false (j7.2 k (by omega) nh)];rfl
  exact⟨i,Nat.le_refl _,by unfold eO;rw[decide_eq_true hi];simpa using hs,rfl,λ_=>Iff.rfl⟩
structure LS where
 used:List Nat
 ins:List I3
def T4 (a:Nat):List Nat->Nat
 | []=>0
 | b::l=>if b=a then 0 else T4 a l+1
theorem Kt {a:Nat}:∀{l:List Nat},a∈l->l[T4 a l]?=some a
 | [],h=>by cases h
 | b::l,h=>by
  unfold T4;split
  ·rename_i e;subst e;rfl
  rename_i e;rw[List.getElem?_cons_succ];exact Kt (List.mem_of_ne_of_mem (λh=>e h.symm) h)
def ju (c:aE)(is:List Bool)(used:List Nat)(x:I3):I3 :=
 if x.op=1 then ⟨x.op,(if x.a.toNat∈used then T4 x.a.toNat used else used.length:Nat),x.b⟩
 else if x.op=3 then ⟨x.op,fr c is x.a.toNat,x.b⟩
 else if x.op=2 then ⟨x.op,fr c is x.a.toNat,fr c is x.b.toNat⟩
 else x
def qy (used:List Nat)(x:I3):List Nat:=if x.op=1 then (if x.a.toNat∈used then used else used++[x.a.toNat]) else used
def wS (c:aE)(is:List Bool)(s:LS)(i:Nat):LS:=match c.ins[i]? with
 | none=>s
 | some x=>if eO c is i=true then ⟨qy s.used x,s.ins++[ju c is s.used x]⟩ else s
def ab (c:aE)(is:List Bool):Nat->LS
 | 0=>⟨[],[]⟩
 | i+1=>wS c is (ab c is i) i
def ZI (c:aE)(s:LS):aE:=⟨s.used.map (λa=>c.sets.getD a []),s.ins⟩
def bw (c:aE)(is:List Bool):aE:=ZI c (ab c is c.ins.length)
def rE (c:aE)(is:List Bool)(sets:List (List Rg))(x y:I3):Prop :=
 y.op=x.op/\(x.op=1->y.b=x.b/\0<=y.a/\y.a.toNat<sets.length/\sets.getD y.a.toNat []=c.sets.getD x.a.toNat [])/\(x.op=3->y.a=fr c is x.a.toNat/\y.b=x.b)/\(x.op=2->y.a=fr c is x.a.toNat/\y.b=fr c is x.b.toNat) /\
 (x.op≠1->x.op≠2->x.op≠3->y=x)
theorem rE.more {c:aE}{is:List Bool}{sets more:List (List Rg)}{x y:I3}(h:rE c is sets x y):rE c is (sets++more) x y:=by
 obtain⟨h1,h2,h3,h4,h5⟩:=h;refine⟨h1,λe=>?_,h3,h4,h5⟩;obtain⟨a,b,d,f⟩:=h2 e;refine⟨a,b,by rw[List.length_append];omega,?_⟩;rw[<-f,List.getD_eq_getElem?_getD,List.getD_eq_getElem?_getD,List.getElem?_append_left d]
structure aN9 (c:aE)(is:List Bool)(i:Nat)(s:LS):Prop where
 len:s.ins.length=fr c is i
 nodup:s.used.Nodup
 used:∀a∈s.used,a<c.sets.length
 at_:∀(j:Nat) (x:I3),j<i->eO c is j=true->c.ins[j]?=some x->∃y,s.ins[fr c is j]?=some y/\rE c is (s.used.map (λa=>c.sets.getD a [])) x y
 all:∀(k:Nat) (y:I3),s.ins[k]?=some y->∃j x,j<i/\eO c is j=true/\fr c is j=k/\c.ins[j]?=some x/\rE c is (s.used.map (λa=>c.sets.getD a [])) x y
theorem VH (used:List Nat)(x:I3):∃m,qy used x=used++m:=by
 unfold qy;split
 ·split
  ·exact⟨[],by simp⟩
  exact⟨_,rfl⟩
 exact⟨[],by simp⟩
theorem IK {c:aE}(hc:CR c){is:List Bool}{used:List Nat}{i:Nat}{x:I3}(hx:c.ins[i]?=some x):rE c is ((qy used x).map (λa=>c.sets.getD a [])) x (ju c is used x):=by
 unfold rE ju qy;by_cases h1:x.op=1
 ·rw[if_pos h1,if_pos h1];refine⟨rfl,λ_=>?_,λh=>absurd h (by omega),λh=>absurd h (by omega),λh=>absurd h1 h⟩;dsimp only;rw[Int.toNat_natCast];by_cases hm:x.a.toNat∈used
  ·rw[if_pos hm,if_pos hm];have hg:=Kt hm;have hl:=(List.getElem?_eq_some_iff.1 hg).1;refine⟨rfl,by omega,by rw[List.length_map];exact hl,?_⟩;rw[List.getD_eq_getElem?_getD,List.getElem?_map,hg];rfl
  rw[if_neg hm,if_neg hm];refine⟨rfl,by omega,by rw[List.length_map,List.length_append];simp,?_⟩;rw[List.getD_eq_getElem?_getD,List.getElem?_map,List.getElem?_append_right (Nat.le_refl _)];simp
 rw[if_neg h1,if_neg h1];by_cases h3:x.op=3
 ·rw[if_pos h3];exact⟨rfl,λh=>absurd h h1,λ_=>⟨rfl,rfl⟩,λh=>absurd h (by omega),λ_ _ h=>absurd h3 h⟩
 rw[if_neg h3];by_cases h2:x.op=2
 ·rw[if_pos h2];exact⟨rfl,λh=>absurd h h1,λh=>absurd h h3,λ_=>⟨rfl,rfl⟩,λ_ h=>absurd h2 h⟩
 rw[if_neg h2];exact⟨rfl,λh=>absurd h h1,λh=>absurd h h3,λh=>absurd h h2,λ_ _ _=>rfl⟩
theorem eF {c:aE}(hc:CR c){is:List Bool}:∀i,i<=c.ins.length->aN9 c is i (ab c is i)
 | 0,_=>⟨rfl,List.nodup_nil,λ_ h=>(by cases h),λj x h=>absurd h (by omega),λk y h=>(by simp[ab]at h)⟩
 | i+1,hi=>by
  have ih:=eF hc (is:=is) i (by omega);have hx:=List.getElem?_eq_getElem (show i<c.ins.length by omega)
  rw[ab];unfold wS;rw[hx];dsimp only;by_cases hk:eO c is i=true
  ·rw[if_pos hk];have aq:fr c is (i+1)=fr c is i+1:=by rw[fr,if_pos hk]
   obtain⟨m,hm⟩:=VH (ab c is i).used c.ins[i];have ht:=IK hc (is:=is) (used:=(ab c is i).used) hx;refine⟨by dsimp only;rw[List.length_append,ih.len,aq];rfl,?_,?_,λj x hj FZ hxj=>?_,λk y hy=>?_⟩
   ·dsimp only;unfold qy;split
    ·split
     ·exact ih.nodup
     rename_i hn;rw[List.nodup_append];exact⟨ih.nodup,by simp,λa ha b hb=>by rw[List.mem_singleton]at hb;subst hb;intro e;subst e;exact hn ha⟩
    exact ih.nodup
   ·dsimp only;intro a ha;unfold qy at ha;split at ha
    ·rename_i h1;split at ha
     ·exact ih.used a ha
     rw[List.mem_append,List.mem_singleton]at ha;rcases ha with ha|rfl
     ·exact ih.used a ha
     exact(jL hc hx ⟨by omega,by omega,by omega,by omega⟩).2.2.1
    exact ih.used a ha
   ·dsimp only;by_cases e:j=i
    ·subst e;rw[hx]at hxj;cases hxj;exact⟨_,by rw[List.getElem?_append_right (by rw[ih.len];exact Nat.le_refl _),ih.len];simp,ht⟩
    obtain⟨y,hy,hty⟩:=ih.at_ j x (by omega) FZ hxj;exact⟨y,by rw[List.getElem?_append_left (List.getElem?_eq_some_iff.1 hy).1];exact hy,by rw[hm,List.map_append];exact hty.more⟩
   dsimp only at hy;rcases Nat.lt_or_ge k (ab c is i).ins.length with h|h
   ·rw[List.getElem?_append_left h]at hy;obtain⟨j,x,h1,h2,h3,h4,h5⟩:=ih.all k y hy;exact⟨j,x,by omega,h2,h3,h4,by dsimp only;rw[hm,List.map_append];exact h5.more⟩
   rw[List.getElem?_append_right h]at hy;have:k=(ab c is i).ins.length:=by
    have:=(List.getElem?_eq_some_iff.1 hy).1;simp at this;omega
   subst this;rw[Nat.sub_self]at hy;cases hy;exact⟨i,_,by omega,hk,ih.len.symm,hx,ht⟩
  rw[if_neg hk];have aq:fr c is (i+1)=fr c is i:=by rw[fr,if_neg hk]
  refine⟨by rw[ih.len,aq],ih.nodup,ih.used,λj x hj FZ hxj=>?_,λk y hy=>?_⟩
  ·by_cases e:j=i
   ·subst e;exact absurd FZ hk
   exact ih.at_ j x (by omega) FZ hxj
  obtain⟨j,x,h1,h2⟩:=ih.all k y hy;exact⟨j,x,by omega,h2⟩
theorem Fh {c:aE}(hc:CR c){is:List Bool}(hC:ts c is)(tail:List I3)(i:Nat)(hi:is[i]?=some true)(ps:List Int) :
  Acc c i ps↔Acc ⟨(bw c is).sets,(bw c is).ins++tail⟩ (fr c is i) ps:=by
 have hI:=eF hc (is:=is) c.ins.length (Nat.le_refl _);have Hi:∀j,eO c is j=true->∃x y,c.ins[j]?=some x/\is[j]?=some true/\((bw c is).ins++tail)[fr c is j]?=some y/\rE c is (bw c is).sets x y:=λj hj=>by
  have aq:=II hj;rw[hC.len]at aq;obtain⟨y,hy,ht⟩:=hI.at_ j _ aq hj (List.getElem?_eq_getElem aq);have hy':(bw c is).ins[fr c is j]?=some y:=hy;exact⟨_,y,List.getElem?_eq_getElem aq,(IH hj).1,by rw[List.getElem?_append_left (List.getElem?_eq_some_iff.1 hy').1];exact hy',ht⟩
 have tN:∀j,eO c is j=true->fr c is (j+1)=fr c is j+1:=λj hj=>by rw[fr,if_pos hj]
 constructor
 ·rintro⟨h,ha⟩;induction h generalizing i ps with
  | zero=>exact ha.elim
  | succ h ih =>
   by_cases hk:eO c is i=true
   ·obtain⟨x,y,hx,_,hy,ho,t1,t3,t2,t0⟩:=Hi i hk;have hl:=hC.leads i x hi hx;rw[dZ,hx]at ha;dsimp only at ha;by_cases h5:x.op=5
    ·exact mR hy (by omega)
    rw[if_neg h5]at ha;by_cases h2:x.op=2
    ·rw[if_pos h2]at ha;obtain⟨e1,e2⟩:=t2 h2;rw[fW hy (by omega),e1,e2,Int.toNat_natCast,Int.toNat_natCast];exact ha.imp (ih _ (hl _ (.inl ⟨h2,.inl rfl⟩)) _) (ih _ (hl _ (.inl ⟨h2,.inr rfl⟩)) _)
    rw[if_neg h2]at ha;by_cases h3:x.op=3
    ·rw[if_pos h3]at ha;obtain⟨e1,e2⟩:=t3 h3;rw[gd hy (by omega),e1,Int.toNat_natCast];exact ih _ (hl _ (.inr (.inl ⟨h3,rfl⟩))) _ ha
    rw[if_neg h3]at ha;by_cases h4:x.op=4
    ·rw[if_pos h4]at ha;rw[nn hy (by omega),<-tN i hk];exact⟨ha.1,ih _ (hl _ (.inr (.inr (.inl ⟨h4,rfl⟩)))) _ ha.2⟩
    rw[if_neg h4]at ha;have h1:=(jL hc hx ⟨h2,h3,h4,h5⟩).1;obtain⟨e1,e2,e3,e4⟩:=t1 h1;cases ps with
    | nil=>exact ha.elim
    | cons p r =>
     have ha:fO (c.sets.getD x.a.toNat []) p=true/\dZ c h (i+1) r:=ha;refine(iH hy ⟨by omega,by omega,by omega,by omega⟩).2 ⟨p,r,rfl,?_,?_⟩
     ·dsimp only;rw[e4];exact ha.1
     rw[<-tN i hk];refine ih _ (hl _ (.inr (.inr (.inr ⟨h1,?_,rfl⟩)))) _ ha.2;intro e;rw[e]at ha;exact absurd ha.1 (by simp[fO])
   ·have hs:oI c is i=true:=by
     unfold eO at hk;rw[decide_eq_true hi]at hk;simpa using hk
    obtain⟨j,hij,FZ,htj,Hg⟩:=pJ hC is.length i (by omega) hi;unfold oI at hs;cases hx:c.ins[i]? with
    | none=>rw[hx]at hs;cases hs
    | some x =>
     rw[hx]at hs;simp only[decide_eq_true_eq]at hs;obtain⟨h3,hn,JQ⟩:=hs;rw[dZ,hx]at ha;dsimp only at ha;rw[if_neg (by omega),if_neg (by omega),if_pos h3]at ha;have hl:=hC.leads i x hi hx x.a.toNat (.inr (.inl ⟨h3,rfl⟩))
     have:=ih _ hl _ ha;have j7:=o8 (is:=is) is.length (i+1) (by omega);have Kk:bZ is is.length (i+1)=x.a.toNat:=by unfold rl at hn;omega
     rw[Kk]at j7;have tL:fr c is x.a.toNat=fr c is i:=by
      apply D8 (by omega);intro k QU nh;by_cases e:k=i
      ·subst e;simpa using hk
      unfold eO;rw[decide_eq_false (j7.2 k (by omega) nh)];rfl
     rwa [tL]at this
 rintro⟨h,ha⟩;obtain⟨j,hij,FZ,htj,Hg⟩:=pJ hC is.length i (by omega) hi;refine(Hg ps).2 ?_;rw[<-htj]at ha;clear Hg htj hi hij i;induction h generalizing j ps with
 | zero=>exact ha.elim
 | succ h ih =>
  have step:∀k,is[k]?=some true->∀ps,dZ ⟨(bw c is).sets,(bw c is).ins++tail⟩ h (fr c is k) ps->Acc c k ps:=λk hk ps ha=>by
   obtain⟨j',h1,h2,h3,h4⟩:=pJ hC is.length k (by omega) hk;rw[<-h3]at ha;exact(h4 ps).2 (ih _ _ ha h2)
  obtain⟨x,y,hx,hi,hy,ho,t1,t3,t2,t0⟩:=Hi j FZ;have hl:=hC.leads j x hi hx;rw[dZ,hy]at ha;dsimp only at ha;by_cases h5:x.op=5
  ·exact mR hx h5
  rw[if_neg (by omega)]at ha;by_cases h2:x.op=2
  ·rw[if_pos (by omega)]at ha;obtain⟨e1,e2⟩:=t2 h2;rw[e1,e2,Int.toNat_natCast,Int.toNat_natCast]at ha;rw[fW hx h2];exact ha.imp (step _ (hl _ (.inl ⟨h2,.inl rfl⟩)) _) (step _ (hl _ (.inl ⟨h2,.inr rfl⟩)) _)
  rw[if_neg (by omega)]at ha;by_cases h3:x.op=3
  ·rw[if_pos (by omega)]at ha;obtain⟨e1,e2⟩:=t3 h3;rw[e1,Int.toNat_natCast]at ha;rw[gd hx h3];exact step _ (hl _ (.inr (.inl ⟨h3,rfl⟩))) _ ha
  rw[if_neg (by omega)]at ha;by_cases h4:x.op=4
  ·rw[if_pos (by omega),<-tN j FZ]at ha;rw[nn hx h4];exact⟨ha.1,step _ (hl _ (.inr (.inr (.inl ⟨h4,rfl⟩)))) _ ha.2⟩
  rw[if_neg (by omega),<-tN j FZ]at ha;have h1:=(jL hc hx ⟨h2,h3,h4,h5⟩).1;obtain⟨e1,e2,e3,e4⟩:=t1 h1;cases ps with
  | nil=>exact ha.elim
  | cons p r =>
   have ha:fO ((bw c is).sets.getD y.a.toNat []) p=true/\dZ ⟨(bw c is).sets,(bw c is).ins++tail⟩ h (fr c is (j+1)) r:=ha;rw[e4]at ha;refine(iH hx ⟨h2,h3,h4,h5⟩).2 ⟨p,r,rfl,ha.1,step _ (hl _ (.inr (.inr (.inr ⟨h1,?_,rfl⟩)))) _ ha.2⟩;intro e;rw[e]at ha;exact absurd ha.1 (by simp[fO])
def FK:I3:=⟨5,0,0⟩
theorem To {c:aE}(hc:CR c)(is:List Bool):(bw c is).ins.length=fr c is c.ins.length:=(eF hc (is:=is) c.ins.length (Nat.le_refl _)).len
theorem LA {c:aE}(hc:CR c){is:List Bool}(hC:ts c is):1<=(bw c is).ins.length/\(bw c is).ins.length<=c.ins.length/\(bw c is).sets.length<=c.sets.length /\
  (aW (bw c is)=true\/(aW (bw c is)=false/\(bw c is).ins.length+1<=c.ins.length/\CR ⟨(bw c is).sets,(bw c is).ins++[FK]⟩)):=by
 have hI:=eF hc (is:=is) c.ins.length (Nat.le_refl _);have hlen:=To hc is;have hle:=mC (c:=c) (is:=is) c.ins.length;have h1:1<=(bw c is).ins.length:=by
  obtain⟨j,_,h2,_⟩:=pJ hC is.length 0 (by omega) hC.zero
  have:=II h2;rw[hC.len]at this
  have:=aAZ this h2;omega
 have oY:(bw c is).sets.length<=c.sets.length:=by
  show ((ab c is c.ins.length).used.map _).length<=_
  rw[List.length_map];exact oD _ _ hI.nodup hI.used
 have hsr:∀s∈(bw c is).sets,aO (-2) s=true:=λs hs=>by
  obtain⟨a,ha,rfl⟩:=List.mem_map.1 (show s∈(ab c is c.ins.length).used.map (λa=>c.sets.getD a []) from hs)
  have aq:=hI.used a ha;rw[List.getD_eq_getElem?_getD,List.getElem?_eq_getElem aq];exact hc.set _ (List.getElem_mem aq)
 have CB:∀k,is[k]?=some true->fr c is k<(bw c is).ins.length:=λk hk=>by
  obtain⟨j,_,h2,h3,_⟩:=pJ hC is.length k (by omega) hk
  have:=II h2;rw[hC.len]at this
  have:=aAZ this h2;omega
 have Ee:∀(k:Nat) (y:I3),(bw c is).ins[k]?=some y->bT y (bw c is).sets.length (bw c is).ins.length=true/\(y.op=4->k+1<(bw c is).ins.length) /\
   (y.op=1->k+1<(bw c is).ins.length\/(bw c is).ins.length+1<=c.ins.length):=λk y hy=>by
  obtain⟨j,x,hj,FZ,htj,hx,ho,t1,t3,t2,t0⟩:=hI.all k y hy;have hi:=(IH FZ).1;have hl:=hC.leads j x hi hx;have tN:fr c is (j+1)=fr c is j+1:=by rw[fr,if_pos FZ]
  have hr:=hc.ins j x hx;refine⟨?_,λh4=>?_,λh=>?_⟩
  ·unfold bT;rcases cY hr with ⟨e,g1,g2,g3⟩|⟨e,g1,g2,g3,g4⟩|⟨e,g1,g2,g3⟩|⟨e,g1,g2⟩
   ·obtain⟨e1,e2,e3,e4⟩:=t1 e;rw[if_pos (by omega)];have:(y.a.toNat:Nat)<(bw c is).sets.length:=e3;exact decide_eq_true ⟨e2,by omega,by omega⟩
   ·obtain⟨e1,e2⟩:=t2 e;rw[if_neg (by omega),if_pos (by omega)];have q1:=CB _ (hl _ (.inl ⟨e,.inl rfl⟩));have q2:=CB _ (hl _ (.inl ⟨e,.inr rfl⟩));exact decide_eq_true ⟨⟨by omega,by omega⟩,by omega,by omega⟩
   ·obtain⟨e1,e2⟩:=t3 e;rw[if_neg (by omega),if_neg (by omega),if_pos (by omega)];have q1:=CB _ (hl _ (.inr (.inl ⟨e,rfl⟩)));exact decide_eq_true ⟨⟨by omega,by omega⟩,by omega⟩
   have:=t0 (by omega) (by omega) (by omega);subst this;rw[if_neg (by omega),if_neg (by omega),if_neg (by omega),if_pos e];exact decide_eq_true ⟨g1,g2⟩
  ·have:=CB _ (hl _ (.inr (.inr (.inl ⟨by omega,rfl⟩))));omega
  have aq:=hc.next j x hx (.inl (by omega));by_cases hn:is[j+1]?=some true
  ·have:=CB _ hn;omega
  right;have hkn:eO c is (j+1)=false:=by unfold eO;rw[decide_eq_false hn];rfl
  have q1:fr c is (j+2)=fr c is (j+1):=by rw[fr,hkn];simp
  have q2:=mC (c:=c) (is:=is) (j+1);have q3:∀m,fr c is (j+2+m)<=fr c is (j+2)+m:=λm=>by
   induction m with
   | zero=>exact Nat.le_refl _
   | succ m ih=>rw[<-Nat.add_assoc,fr];split<;>omega
  have:=q3 (c.ins.length-(j+2));rw[show j+2+(c.ins.length-(j+2))=c.ins.length by omega]at this
  omega
 refine⟨h1,by omega,oY,?_⟩;have hm:=hc.many;have hs:=hc.sets;by_cases hR:aW (bw c is)=true
 ·exact .inl hR
 right;have Hz:(bw c is).ins.length+1<=c.ins.length:=by
  apply Classical.byContradiction;intro hn;apply hR;apply CR.to;refine⟨h1,by omega,by omega,λk y hy=>(Ee k y hy).1,λk y hy hop=>?_,hsr⟩;rcases hop with h|h
  ·rcases(Ee k y hy).2.2 h with h|h
   ·exact h
   exact absurd h hn
  exact(Ee k y hy).2.1 h
 refine⟨by simpa using hR,Hz,?_⟩;have TN:((bw c is).ins++[FK]).length=(bw c is).ins.length+1:=by simp
 have wid:∀y:I3,bT y (bw c is).sets.length (bw c is).ins.length=true->bT y (bw c is).sets.length ((bw c is).ins++[FK]).length=true:=λy hy=>by
  rw[TN];unfold bT;rcases cY hy with ⟨e,g1,g2,g3⟩|⟨e,g1,g2,g3,g4⟩|⟨e,g1,g2,g3⟩|⟨e,g1,g2⟩
  ·rw[if_pos e];exact decide_eq_true ⟨g1,g2,g3⟩
  ·rw[if_neg (by omega),if_pos e];exact decide_eq_true ⟨⟨by omega,by omega⟩,by omega,by omega⟩
  ·rw[if_neg (by omega),if_neg (by omega),if_pos e];exact decide_eq_true ⟨⟨by omega,by omega⟩,by omega⟩
  rw[if_neg (by omega),if_neg (by omega),if_neg (by omega),if_pos e];exact decide_eq_true ⟨g1,g2⟩
 refine⟨by dsimp only;omega,by dsimp only;omega,by dsimp only;omega,λk y hy=>?_,λk y hy hop=>?_,hsr⟩
 ·dsimp only at hy ⊢
  rcases Nat.lt_or_ge k (bw c is).ins.length with h|h
  ·rw[List.getElem?_append_left h]at hy;exact wid y (Ee k y hy).1
  rw[List.getElem?_append_right h]at hy;have:k-(bw c is).ins.length=0:=by
   have:=(List.getElem?_eq_some_iff.1 hy).1;simp at this;omega
  rw[this]at hy;cases hy;rfl
 dsimp only at hy ⊢
 rw[TN];rcases Nat.lt_or_ge k (bw c is).ins.length with h|h
 ·omega
 rw[List.getElem?_append_right h]at hy;have:k-(bw c is).ins.length=0:=by
  have:=(List.getElem?_eq_some_iff.1 hy).1;simp at this;omega
 rw[this]at hy;cases hy;exact absurd hop (by simp[FK])
end Cae
namespace Go.Proofs.YtemjejfpadnljaaGreatDoor
section
open Go.Vc Go.Proofs Go.RowKit Cae
attribute [local irreducible] dN ae ak aY runK aw Sl Vc.Own vc aV cJ a7
def bF (r:Rg):List Value:=[.int .i64 r.1,.int .i64 r.2]
theorem FF (last:Int)(r:Rg)(s:List Rg):aO last (r::s)=if r.1<=last+1\/r.2<r.1\/1114111<r.2 then false else aO r.2 s:=rfl
theorem um (s:List Rg)(hs:s.length<1000000000)(X:Nat->Prop)(v:Value)(w:World)(hv:Sl X 2 (En bF) w v s) :
  aw Tryz.prog 125 [v] w λr w'=>r=.bool (aO (-2) s)/\Below w.heap.size w w':=by
 obtain⟨a,c,rfl,hc⟩:=hv.shape;refine aD Tryz.func125 rfl (by kernel_rfl) [2] rfl ?_;push_cast -dsimp(maxSteps:=9^7) [Tryz.ntmps125];refine aK [2,3,5,8,9,10,11,12,13,14,15,16,17,18,19,20,21,22,23,24,25,26,27,28,29,30,31] (λz wx=>∃(i:Nat) (last:Int),z 8=.int .i64 i/\z 3=.int .i64 last/\i<=s.length/\(-2<=last/\last<=1114111)/\aO last (s.drop i)=aO (-2) s/\Below w.heap.size w wx) (λz _=>s.length-(intOf (z 8)).toNat) ?_ ?_
 ·exact⟨0,-2,rfl,rfl,Nat.zero_le _,by omega,rfl,Below.refl _ _⟩
 intro z wx hI;obtain⟨i,last,h8,h3,hi,hl,hd,hb⟩:=hI;push_cast -dsimp[h8,h3];refine⟨λaq=>?_,λeo=>?_⟩
 ·obtain⟨x,hx,jJ,hdx,ht⟩:=ag (l:=s) (i:=i) (by omega);obtain⟨b,o,rfl,hX,aM⟩:=(hv.below hb).get hx;have c0:aB wx ⟨b,o+i*2,none⟩ 0 2=some [.int .i64 x.1,.int .i64 x.2]:=ao (bF x) 0 (λj u hu=>by simpa using aM j u hu);push_cast -dsimp[c0];refine⟨⟨by omega,by omega⟩,?_⟩;refine ah (z:=[.int .i64 0,.int .i64 0]) (by kernel_rfl) ?_;intro w1 aU;push_cast -dsimp;refine aI (n:=2) (by kernel_rfl) aU.aL rfl (by simp) (by simp[Value.oneCell']) ?_;intro w2 bP;have c1:w2.cell? ⟨wx.heap.size,0,none⟩=some (.int .i64 x.1):=bP.aL.cell rfl;have c2:w2.cell? ⟨wx.heap.size,1,none⟩=some (.int .i64 x.2):=bP.aL.cell rfl;have dt:Below w.heap.size w w2:=hb.trans ((aU.below.mono hb.size).trans (bP.kept.below (by have:=aU.size;have:=hb.size;omega) (λ_ h=>by have:=hb.size;omega)));rw[hdx,FF]at hd;push_cast -dsimp[c1,c2];refine⟨⟨by omega,by omega⟩,λh1=>⟨λh2=>⟨λh3=>?_,λh3=>?_⟩,λh2=>?_⟩,λh1=>?_⟩
  ·rw[if_pos (by omega)]at hd;exact⟨by rw[hd],dt⟩
  ·rw[if_neg (by omega)]at hd;exact⟨⟨by omega,by omega⟩,⟨i+1,x.2,rfl,rfl,by omega,by omega,hd,dt⟩,by rw[h8];simp only[intOf];omega⟩
  ·rw[if_pos (by omega)]at hd;exact⟨by rw[hd],dt⟩
  rw[if_pos (by omega)]at hd;exact⟨by rw[hd],dt⟩
 rw[List.drop_eq_nil_of_le (by omega)]at hd;exact⟨by rw[<-hd];rfl,hb⟩
end
section
open Go.Vc Go.Proofs Go.RowKit Cae
def Arg (v:Value):Prop:=∀n c,v=.slice none n c->n=0/\c=0
theorem jC:∀x,∀u∈bF x,u.oneCell'=true:=by simp[bF,Value.oneCell']
end
end Go.Proofs.YtemjejfpadnljaaGreatDoor
namespace Cae
def inB (l:List Rg)(p:Int):Bool:=decide (0<=p/\p<=1114111) && fO l p
theorem nI (p:Int):fO [] p=false:=rfl
theorem cN (r:Rg)(s:List Rg)(p:Int):fO (r::s) p=(decide (r.1<=p/\p<=r.2) || fO s p):=by unfold fO;rw[List.any_cons]
theorem vi (a b:List Rg)(p:Int):fO (a++b) p=(fO a p || fO b p):=by unfold fO;rw[List.any_append]
theorem od:∀{s:List Rg} {a b:Int},b<=a->aO a s=true->aO b s=true
 | [],_,_,_,_=>rfl
 | r::s,a,b,h,hs=>by
  unfold aO at hs ⊢
  split at hs
  ·cases hs
  rw[if_neg (by omega)];exact hs
theorem cI {r:Rg}{s:List Rg}{a:Int}:aO a (r::s)=true↔(a+1<r.1/\r.1<=r.2/\r.2<=1114111)/\aO r.2 s=true:=by
 rw[aO];split
 ·constructor
  ·intro h;cases h
  rintro⟨h,_⟩;omega
 constructor
 ·intro h;exact⟨by omega,h⟩
 exact λh=>h.2
theorem sZ:∀{s:List Rg} {a p:Int},aO a s=true->fO s p=true->a+1<p/\p<=1114111
 | [],_,_,_,h=>by cases h
 | r::s,a,p,hs,h=>by
  rw[cI]at hs;rw[cN,Bool.or_eq_true,decide_eq_true_eq]at h;rcases h with h|h
  ·omega
  have:=sZ hs.2 h;omega
theorem vj {s:List Rg}{a p:Int}(hs:aO a s=true)(hp:p<=a+1):fO s p=false:=by
 cases h:fO s p with
 | false=>rfl
 | true=>have:=sZ hs h;omega
theorem RQ:∀{s t:List Rg} {a b:Int},aO a s=true->aO b t=true->(∀p,fO s p=fO t p)->s=t
 | [],[],_,_,_,_,_=>rfl
 | [],q::t,_,_,_,ht,h=>by
  rw[cI]at ht
  have:=h q.1;rw[cN,decide_eq_true (by omega)]at this;cases this
 | r::s,[],_,_,hs,_,h=>by
  rw[cI]at hs
  have:=h r.1;rw[cN,decide_eq_true (by omega)]at this;cases this
 | r::s,q::t,a,b,hs,ht,h=>by
  have TV:=cI.1 hs;have ht':=cI.1 ht;obtain⟨⟨s1,s2,s3⟩,s4⟩:=TV;obtain⟨⟨t1,t2,t3⟩,t4⟩:=ht';have e1:r.1=q.1:=by
   have h1:=h r.1;rw[cN r,decide_eq_true (by omega),Bool.true_or]at h1;have h2:=h q.1;rw[cN q,decide_eq_true (p:=q.1<=q.1/\q.1<=q.2) (by omega),Bool.true_or]at h2;rcases Int.lt_trichotomy r.1 q.1 with aq|heq|JQ
   ·have h1:=h1.symm;rw[cN,decide_eq_false (by omega),Bool.false_or]at h1
    have:=sZ t4 h1;omega
   ·exact heq
   rw[cN,decide_eq_false (by omega),Bool.false_or]at h2
   have:=sZ s4 h2;omega
  have e2:r.2=q.2:=by
   rcases Int.lt_trichotomy r.2 q.2 with aq|heq|JQ
   ·have h1:=h (r.2+1);rw[cN,cN,decide_eq_false (by omega),vj s4 (by omega),decide_eq_true (by omega)]at h1;cases h1
   ·exact heq
   have h1:=h (q.2+1);rw[cN,cN,decide_eq_true (by omega),vj t4 (by omega),decide_eq_false (by omega)]at h1;cases h1
  have e:r=q:=Prod.ext e1 e2;subst e;congr 1;refine RQ s4 t4 (λp=>?_);by_cases hp:p<=r.2+1
  ·rw[vj s4 hp,vj t4 hp]
  have:=h p;rw[cN,cN,decide_eq_false (by omega),Bool.false_or,Bool.false_or]at this;exact this
def gX (out:List Rg)(r:Rg):List Rg :=
 if min r.2 1114111<max r.1 0 then out
 else match out.getLast? with
  | none=>[(max r.1 0,min r.2 1114111)]
  | some q=>if max r.1 0<=q.2+1 then out.dropLast++[(q.1,max q.2 (min r.2 1114111))] else out++[(max r.1 0,min r.2 1114111)]
def CU (a:Int):List Rg->Int
 | []=>a
 | r::s=>CU r.2 s
theorem zH (a:Int):∀(s:List Rg) (r:Rg),CU a (s++[r])=r.2
 | [],r=>rfl
 | q::s,r=>by rw[List.cons_append,CU,zH]
theorem lH (r:Rg):∀(s:List Rg) (a:Int),aO a (s++[r])=true↔aO a s=true/\CU a s+1<r.1/\r.1<=r.2/\r.2<=1114111
 | [],a=>by
  rw[List.nil_append,cI];exact⟨λh=>⟨rfl,h.1⟩,λh=>⟨h.2,rfl⟩⟩
 | q::s,a=>by
  rw[List.cons_append,cI,cI,lH r s q.2,CU];exact⟨λh=>⟨⟨h.1,h.2.1⟩,h.2.2⟩,λh=>⟨h.1.1,h.1.2,h.2⟩⟩
structure J2 (out done:List Rg):Prop where
 right:aO (-2) out=true
 has:∀p,fO out p=inB done p
theorem wG (l:List Rg)(r:Rg)(p:Int):inB (l++[r]) p=(inB l p || decide (max r.1 0<=p/\p<=min r.2 1114111)):=by
 unfold inB;rw[vi,cN,nI,Bool.or_false];by_cases h:0<=p/\p<=1114111
 ·rw[decide_eq_true h,Bool.true_and,Bool.true_and];congr 1;rw[decide_eq_decide];omega
 rw[decide_eq_false h,Bool.false_and,Bool.false_and,decide_eq_false (by omega)];rfl
theorem O1 {out done:List Rg}{r:Rg}(h:J2 out done)(Ag:∀q∈out,q.1<=max r.1 0):J2 (gX out r) (done++[r]):=by
 unfold gX;split
 ·rename_i aq;refine⟨h.right,λp=>?_⟩;rw[wG,h.has,decide_eq_false (by omega),Bool.or_false]
 rename_i eo;split
 ·rename_i hn;have:out=[]:=by simpa using hn
  subst this;refine⟨cI.2 ⟨⟨by omega,by omega,by omega⟩,rfl⟩,λp=>?_⟩;rw[wG,<-h.has,cN];rw[nI,Bool.or_false,Bool.false_or]
 rename_i q hq;have vC:out=out.dropLast++[q]:=by
  have cf:out≠[]:=λe=>by subst e;simp at hq
  have:=List.dropLast_concat_getLast cf;rw[List.getLast?_eq_some_getLast cf]at hq;cases hq;exact this.symm
 have hqm:q∈out:=by rw[vC];simp
 have hql:=Ag q hqm;have hr:=h.right;rw[vC,lH]at hr;obtain⟨r1,r2,r3,r4⟩:=hr;split
 ·rename_i hm;refine⟨(lH _ _ _).2 ⟨r1,by dsimp only;omega,by dsimp only;omega,by dsimp only;omega⟩,λp=>?_⟩;rw[wG,<-h.has,vi]
  conv=>rhs;rw[vC,vi]
  rw[cN,cN,nI,Bool.or_false,Bool.or_false,Bool.or_assoc];congr 1;rw[<-Bool.decide_or,decide_eq_decide];dsimp only;omega
 rename_i hm;refine⟨(lH _ _ _).2 ⟨h.right,?_,by dsimp only;omega,by dsimp only;omega⟩,λp=>?_⟩
 ·rw[vC,zH];dsimp only;omega
 rw[wG,<-h.has,vi,cN,nI,Bool.or_false]
theorem UI {out:List Rg}{r:Rg}{m:Int}(Ag:∀q∈out,q.1<=m)(hr:max r.1 0<=m):∀q∈gX out r,q.1<=m:=by
 intro q hq;unfold gX at hq;split at hq
 ·exact Ag q hq
 split at hq
 ·simp at hq;subst hq;exact hr
 rename_i q' hq';have hqm:q'∈out:=List.mem_of_getLast? hq';split at hq
 ·rcases List.mem_append.1 hq with h|h
  ·exact Ag q (List.dropLast_subset _ h)
  simp at h;subst h;exact Ag q' hqm
 rcases List.mem_append.1 hq with h|h
 ·exact Ag q h
 simp at h;subst h;exact hr
def jX (l:List Rg):List Rg:=l.foldl gX []
def BD (l:List Rg):Prop:=l.Pairwise λa b=>a.1<=b.1
theorem ud:∀(n:Nat) (l:List Rg),BD l->n<=l.length->J2 (jX (l.take n)) (l.take n)/\∀q∈jX (l.take n),∀(i:Nat) (r:Rg),n<=i->l[i]?=some r->q.1<=max r.1 0
 | 0,l,_,_=>⟨⟨rfl,λp=>by rw[List.take_zero];unfold inB;rw[nI,Bool.and_false];rfl⟩,λq hq=>by rw[List.take_zero]at hq;cases hq⟩
 | n+1,l,hR,hn=>by
  obtain⟨h1,h2⟩:=ud n l hR (by omega);have hx:=List.getElem?_eq_getElem (l:=l) (i:=n) (by omega);have e:l.take (n+1)=l.take n++[l[n]]:=by rw[List.take_add_one,hx];rfl
  have ef:jX (l.take (n+1))=gX (jX (l.take n)) l[n]:=by unfold jX;rw[e,List.foldl_append];rfl
  rw[ef,e];refine⟨O1 h1 (λq hq=>h2 q hq n _ (Nat.le_refl _) hx),λq hq i r hi hr=>?_⟩;have aq:=(List.getElem?_eq_some_iff.1 hr).1;have hle:l[n].1<=r.1:=by
   have:=List.pairwise_iff_getElem.1 hR n i (by omega) aq (by omega);rw[List.getElem?_eq_getElem aq]at hr;cases hr;exact this
  exact UI (m:=max r.1 0) (λq hq=>h2 q hq i r (by omega) hr) (by omega) q hq
theorem zT {l:List Rg}(hR:BD l):J2 (jX l) l:=by
 have:=(ud l.length l hR (Nat.le_refl _)).1;rwa [List.take_length]at this
def setOf (l:List Rg):List Rg:=jX (l.mergeSort λa b=>decide (a.1<=b.1))
theorem FV {l m:List Rg}(h:l.Perm m)(p:Int):fO l p=fO m p:=by
 unfold fO;rw[Bool.eq_iff_iff,List.any_eq_true,List.any_eq_true];exact⟨λ⟨r,h1,h2⟩=>⟨r,h.mem_iff.1 h1,h2⟩,λ⟨r,h1,h2⟩=>⟨r,h.mem_iff.2 h1,h2⟩⟩
theorem D0 (l:List Rg):J2 (setOf l) l:=by
 have hs:BD (l.mergeSort λa b=>decide (a.1<=b.1)):=by
  have:=List.pairwise_mergeSort (le:=λ(a b:Rg)=>decide (a.1<=b.1)) (λa b c h1 h2=>by simp only[decide_eq_true_eq]at *;omega) (λa b=>by simp only[Bool.or_eq_true,decide_eq_true_eq];omega) l;exact this.imp λh=>by simpa using h
 have h:=zT hs;refine⟨h.right,λp=>(h.has p).trans ?_⟩;unfold inB;rw[FV (List.mergeSort_perm l _)]
theorem Up {l m:List Rg}(hp:m.Perm l)(hR:BD m):jX m=setOf l:=by
 have h1:=zT hR;have h2:=D0 l;refine RQ h1.right h2.right (λp=>?_);rw[h1.has,h2.has];unfold inB;rw[FV hp]
def pM:Int->List Rg->List Rg
 | f,[]=>if f<=1114111 then [(f,1114111)] else []
 | f,r::s=>(if f<r.1 then [(f,r.1-1)] else [])++pM (r.2+1) s
def iQ (s:List Rg):List Rg:=pM 0 s
theorem Cq:∀(s:List Rg) (f:Int),aO (f-2) s=true->aO (f-2) (pM f s)=true/\∀p,fO (pM f s) p=(decide (f<=p/\p<=1114111) && !fO s p)
 | [],f,_=>by
  rw[pM];split
  ·refine⟨cI.2 ⟨⟨by dsimp only;omega,by dsimp only;omega,by dsimp only;omega⟩,rfl⟩,λp=>?_⟩;rw[cN,nI,Bool.or_false,Bool.not_false,Bool.and_true]
  refine⟨rfl,λp=>?_⟩;rw[nI,decide_eq_false (by omega),Bool.false_and]
 | r::s,f,h=>by
  rw[cI]at h;obtain⟨⟨h1,h2,h3⟩,h4⟩:=h;obtain⟨i1,i2⟩:=Cq s (r.2+1) (od (by omega) h4);rw[pM];have key:∀p,(decide (f<=p/\p<=r.1-1) || fO (pM (r.2+1) s) p)=(decide (f<=p/\p<=1114111) && !fO (r::s) p):=λp=>by
   rw[i2,cN,Bool.not_or];by_cases hp:p<=r.2+1
   ·rw[vj h4 hp];simp only[Bool.not_false,Bool.and_true];rw[<-Bool.decide_or,<-decide_not,<-Bool.decide_and,decide_eq_decide];omega
   rw[decide_eq_false (p:=f<=p/\p<=r.1-1) (by omega),decide_eq_false (p:=r.1<=p/\p<=r.2) (by omega),Bool.false_or,Bool.not_false,Bool.true_and];congr 1;rw[decide_eq_decide];omega
  split
  ·refine⟨?_,λp=>?_⟩
   ·rw[List.singleton_append];exact cI.2 ⟨⟨by dsimp only;omega,by dsimp only;omega,by dsimp only;omega⟩,od (by dsimp only;omega) i1⟩
   rw[List.singleton_append,cN];exact key p
  refine⟨?_,λp=>?_⟩
  ·rw[List.nil_append];exact od (by omega) i1
  rw[List.nil_append]
  have:=key p;rwa [decide_eq_false (p:=f<=p/\p<=r.1-1) (by omega),Bool.false_or]at this
theorem qV {s:List Rg}(h:aO (-2) s=true):aO (-2) (iQ s)=true:=(Cq s 0 h).1
def D1 (s t:List Rg):List Rg:=setOf (s++t)
def DZ (s t:List Rg):List Rg:=iQ (D1 (iQ s) (iQ t))
def Aq (s t:List Rg):List Rg:=DZ s (iQ t)
theorem sG (s t:List Rg):aO (-2) (D1 s t)=true:=(D0 _).right
theorem xQ (s t:List Rg):aO (-2) (DZ s t)=true:=qV (sG _ _)
theorem FE (s t:List Rg):aO (-2) (Aq s t)=true:=xQ _ _
theorem O4 (out:List Rg)(r:Rg):(gX out r).length<=out.length+1:=by
 unfold gX;split
 ·omega
 split
 ·simp
 split
 ·simp only[List.length_append,List.length_dropLast,List.length_cons,List.length_nil];omega
 simp
theorem Cr (l:List Rg):(jX l).length<=l.length:=by
 have key:∀(l out:List Rg),(l.foldl gX out).length<=out.length+l.length:=λl=>by
  induction l with
  | nil=>intro out;simp
  | cons r l ih =>
   intro out;rw[List.foldl_cons,List.length_cons]
   have:=ih (gX out r)
   have:=O4 out r;omega
 have:=key l [];unfold jX;simpa using this
theorem Uq (l:List Rg):(setOf l).length<=l.length:=by
 have:=Cr (l.mergeSort λa b=>decide (a.1<=b.1));rwa [List.length_mergeSort]at this
theorem Fl:∀(s:List Rg) (f:Int),(pM f s).length<=s.length+1
 | [],f=>by rw[pM];split<;>simp
 | r::s,f=>by
  rw[pM,List.length_append,List.length_cons]
  have:=Fl s (r.2+1);split<;>simp<;>omega
theorem uk (s:List Rg):(iQ s).length<=s.length+1:=Fl s 0
theorem Ur (s t:List Rg):(D1 s t).length<=s.length+t.length:=by
 have:=Uq (s++t);rwa [List.length_append]at this
end Cae
