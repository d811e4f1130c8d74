/- Texts of this claim, merged: P, Set, Arg, Pset. -/
import Derived.Test.YtemjejfpadnljaaGreatDoorM2
set_option maxRecDepth 100000
set_option linter.unusedSimpArgs false
set_option linter.unusedVariables false
set_option maxHeartbeats 8000000
namespace Cae
open Go Go.Vc
theorem wrap_i64 {n:Int}(h : -9223372036854775808<=n/\n<=9223372036854775807):IntKind.i64.wrap n=n:=by rw[IntKind.wrap_i64];omega
theorem cX {n:Nat}(h:n<9223372036854775808):IntKind.i64.wrap (n:Int)=n:=wrap_i64 (by omega)
theorem wrap_u8 (n:Int):IntKind.u8.wrap n=n % 256:=by simp[IntKind.wrap,IntKind.bits,IntKind.signed]
theorem fT (n:Nat):IntKind.u8.wrap (n:Int)=((n % 256:Nat):Int):=by rw[wrap_u8];omega
theorem eU (n:Nat):IntKind.u32.wrap (n:Int)=((n % 4294967296:Nat):Int):=by simp[IntKind.wrap,IntKind.bits,IntKind.signed]
theorem fS (n:Nat):IntKind.u64.wrap (n:Int)=((n % 18446744073709551616:Nat):Int):=by simp[IntKind.wrap,IntKind.bits,IntKind.signed]
theorem lx (n x:Nat):BitVec.ofInt n (x:Int)=BitVec.ofNat n x:=by
 apply BitVec.eq_of_toNat_eq;simp
theorem LU {x y n:Nat}(h:x<2 ^ n):x &&& y<2 ^ n:=Nat.lt_of_le_of_lt Nat.and_le_left h
theorem lO {x y:Nat}(hx:x<9223372036854775808)(hy:y<9223372036854775808):cE .and .i64 x y=((x &&& y:Nat):Int):=by
 simp only[cE,lx,BitVec.toNat_and,BitVec.toNat_ofNat];rw[Nat.mod_eq_of_lt (show x<2 ^ IntKind.i64.bits by show x<2 ^ 64;omega),Nat.mod_eq_of_lt (show y<2 ^ IntKind.i64.bits by show y<2 ^ 64;omega)]
 exact cX (LU (n:=63) hx)
theorem kB {x y:Nat}(hx:x<9223372036854775808)(hy:y<9223372036854775808):cE .or .i64 x y=((x ||| y:Nat):Int):=by
 simp only[cE,lx,BitVec.toNat_or,BitVec.toNat_ofNat];rw[Nat.mod_eq_of_lt (show x<2 ^ IntKind.i64.bits by show x<2 ^ 64;omega),Nat.mod_eq_of_lt (show y<2 ^ IntKind.i64.bits by show y<2 ^ 64;omega)]
 exact cX (Nat.or_lt_two_pow (n:=63) hx hy)
theorem qH {x y:Nat}(hx:x<256)(hy:y<256):cE .and .u8 x y=((x &&& y:Nat):Int):=by
 simp only[cE,lx,BitVec.toNat_and,BitVec.toNat_ofNat];rw[Nat.mod_eq_of_lt (show x<2 ^ IntKind.u8.bits by show x<2 ^ 8;omega),Nat.mod_eq_of_lt (show y<2 ^ IntKind.u8.bits by show y<2 ^ 8;omega),fT,Nat.mod_eq_of_lt (LU (n:=8) hx)]
theorem LZ {x y:Nat}(hx:x<256)(hy:y<256):cE .or .u8 x y=((x ||| y:Nat):Int):=by
 simp only[cE,lx,BitVec.toNat_or,BitVec.toNat_ofNat];rw[Nat.mod_eq_of_lt (show x<2 ^ IntKind.u8.bits by show x<2 ^ 8;omega),Nat.mod_eq_of_lt (show y<2 ^ IntKind.u8.bits by show y<2 ^ 8;omega),fT,Nat.mod_eq_of_lt (Nat.or_lt_two_pow (n:=8) hx hy)]
theorem mF (x k:Nat):x &&& (2 ^ k-1)=x % 2 ^ k:=Nat.and_two_pow_sub_one_eq_mod x k
theorem pP {p x k:Nat}(h:x<2 ^ k):p*2 ^ k ||| x=p*2 ^ k+x:=by
 rw[Nat.mul_comm];exact(Nat.two_pow_add_eq_or_of_lt h p).symm
theorem aCv {p k:Nat}{b:Int}(hb:b.toNat=k)(hk:k<=64)(h:p*2 ^ k<9223372036854775808):IntKind.i64.wrap ((p:Int)*2 ^ min b.toNat IntKind.i64.bits)=((p*2 ^ k:Nat):Int):=by
 rw[hb,show min k IntKind.i64.bits=k from Nat.min_eq_left hk]
 rw[show ((p:Int)*2 ^ k)=((p*2 ^ k:Nat):Int) by first|(push_cast;done)|(push_cast;rfl)]
 exact cX h
theorem yw {p k:Nat}{b:Int}{kd:IntKind}(hb:b.toNat=k)(hk:k<=kd.bits):((p:Int).fdiv (2 ^ min b.toNat kd.bits))=((p / 2 ^ k:Nat):Int):=by
 rw[hb,Nat.min_eq_left hk];rw[show (2:Int) ^ k=((2 ^ k:Nat):Int) by first|(push_cast;done)|(push_cast;rfl),Int.fdiv_eq_ediv_of_nonneg _ (Int.natCast_nonneg _)]
 rfl
abbrev Rg:=Int×Int
structure I3 where
 op:Int
 a:Int
 b:Int
 deriving DecidableEq
structure aD where
 sets:List (List Rg)
 ins:List I3
 deriving DecidableEq
def aO:Int->List Rg->Bool
 | _,[]=>true
 | last,r::s=>if r.1<=last+1\/r.2<r.1\/1114111<r.2 then false else aO r.2 s
def fA (s:List Rg)(p:Int):Bool:=s.any λr=>decide (r.1<=p/\p<=r.2)
def bL (x:I3)(sets n:Int):Bool :=
 if x.op=1 then decide (0<=x.a/\x.a<sets/\x.b=0)
 else if x.op=2 then decide ((0<=x.a/\x.a<n)/\(0<=x.b/\x.b<n))
 else if x.op=3 then decide ((0<=x.a/\x.a<n)/\x.b=0)
 else if x.op=4\/x.op=5 then decide (x.a=0/\x.b=0)
 else false
def aV (c:aD):Bool :=
 decide (1<=c.ins.length/\c.ins.length<=2000/\c.sets.length<=2000) &&
 (match c.ins[c.ins.length-1]? with|some x=>decide (x.op≠1/\x.op≠4)|none=>false) &&
 c.ins.all (λx=>bL x c.sets.length c.ins.length) && c.sets.all (aO (-2))
theorem bz:∀(s:List Rg) (last:Int),aO last s=true->∀(i:Nat) (r:Rg),s[i]?=some r->last+1<r.1/\r.1<=r.2/\r.2<=1114111/\∀(j:Nat) (q:Rg),i<j->s[j]?=some q->r.2+1<q.1
 | [],_,_,i,r,hr=>by simp at hr
 | x::s,last,h,i,r,hr=>by
  unfold aO at h;split at h
  ·cases h
  rename_i hx;have ih:=bz s x.2 h;cases i with
  | zero =>
   simp at hr;subst hr;refine⟨by omega,by omega,by omega,λj q hj hq=>?_⟩;obtain⟨k,rfl⟩:∃k,j=k+1:=⟨j-1,by omega⟩;exact(ih k q (by simpa using hq)).1
  | succ i =>
   have jK:s[i]?=some r:=by simpa using hr
   obtain⟨h1,h2,h3,h4⟩:=ih i r jK;refine⟨by omega,h2,h3,λj q hj hq=>?_⟩;obtain⟨k,rfl⟩:∃k,j=k+1:=⟨j-1,by omega⟩;exact h4 k q (by omega) (by simpa using hq)
def jN (q:List Nat)(k:Nat):List Nat:=if k∈q then q else q++[k]
inductive Lk
 | yes (st:Nat)
 | no (q nx:List Nat) (st:Nat)
def fC (c:aD)(cur:Option Int)(x:I3)(at_:Nat)(q nx:List Nat):List Nat×List Nat :=
 if x.op=2 then (jN (jN q x.a.toNat) x.b.toNat,nx)
 else if x.op=3 then (jN q x.a.toNat,nx)
 else if x.op=4 then (if cur.isNone then jN q (at_+1) else q,nx)
 else match cur with
  | some p=>(q,if fA (c.sets.getD x.a.toNat []) p then jN nx (at_+1) else nx)
  | none=>(q,nx)
def inner (c:aD)(cur:Option Int):Nat->List Nat->Nat->List Nat->Nat->Lk
 | 0,q,_,nx,st=>.no q nx st
 | f+1,q,k,nx,st=>match q[k]? with
  | none=>.no q nx st
  | some at_=>match c.ins[at_]? with
   | none=>.no q nx st
   | some x=>if x.op=5 then .yes (st+1)
    else inner c cur f (fC c cur x at_ q nx).1 (k+1) (fC c cur x at_ q nx).2 (st+1)
def outer (c:aD):List Int->List Nat->Nat->Bool×Nat
 | [],q,st=>match inner c none (c.ins.length+1) q 0 [] st with
  | .yes KV=>(true,KV)
  | .no _ _ KV=>(false,KV)
 | p::ps,q,st=>match inner c (some p) (c.ins.length+1) q 0 [] st with
  | .yes KV=>(true,KV)
  | .no _ nx KV=>if nx=[] then (false,KV) else outer c ps nx KV
def eo (c:aD)(ps:List Int):Bool×Nat:=outer c ps [0] 0
def bg (n:Nat)(q:List Nat):Prop:=q.Nodup/\∀k∈q,k<n
theorem bg.add {n:Nat}{q:List Nat}{k:Nat}(h:bg n q)(hk:k<n):bg n (jN q k):=by
 unfold jN;split
 ·exact h
 rename_i hn;refine⟨?_,λj hj=>?_⟩
 ·rw[List.nodup_append];exact⟨h.1,by simp,λa ha b hb=>by rw[List.mem_singleton]at hb;subst hb;intro e;subst e;exact hn ha⟩
 rw[List.mem_append,List.mem_singleton]at hj;rcases hj with hj|rfl
 ·exact h.2 j hj
 exact hk
theorem bg.nil (n:Nat):bg n []:=⟨List.nodup_nil,λ_ h=>by cases h⟩
theorem bg.one {n k:Nat}(h:k<n):bg n [k]:=⟨by simp,λj hj=>by rw[List.mem_singleton]at hj;omega⟩
theorem nM:∀(n:Nat) (q:List Nat),q.Nodup->(∀k∈q,k<n)->q.length<=n
 | 0,[],_,_=>Nat.le_refl _
 | 0,x::q,_,h=>absurd (h x (by simp)) (by omega)
 | n+1,q,h1,h2=>by
  have h3:=nM n (q.erase n) (h1.erase n) (λk hk=>by
   have:=(h1.mem_erase_iff).1 hk
   have:=h2 k this.2;omega)
  rw[List.length_erase]at h3;split at h3<;>omega
theorem bg.len {n:Nat}{q:List Nat}(h:bg n q):q.length<=n:=nM n q h.1 h.2
structure CR (c:aD):Prop where
 one:1<=c.ins.length
 many:c.ins.length<=2000
 sets:c.sets.length<=2000
 ins:∀(i:Nat) (x:I3),c.ins[i]?=some x->bL x c.sets.length c.ins.length=true
 next:∀(i:Nat) (x:I3),c.ins[i]?=some x->(x.op=1\/x.op=4)->i+1<c.ins.length
 set:∀s∈c.sets,aO (-2) s=true
theorem CR.of {c:aD}(h:aV c=true):CR c:=by
 unfold aV at h;simp only[Bool.and_eq_true,decide_eq_true_eq,List.all_eq_true]at h;obtain⟨⟨⟨⟨h1,h2,h3⟩,hl⟩,hi⟩,hs⟩:=h;refine⟨h1,h2,h3,λi x hx=>hi x (List.mem_of_getElem? hx),λi x hx hop=>?_,hs⟩;have ao:=(List.getElem?_eq_some_iff.1 hx).1;rcases Nat.lt_or_ge (i+1) c.ins.length with h|h
 ·exact h
 have e:i=c.ins.length-1:=by omega
 subst e;rw[hx]at hl;simp only[decide_eq_true_eq]at hl;rcases hop with h|h
 ·exact absurd h hl.1
 exact absurd h hl.2
theorem cK {x:I3}{s n:Int}(h:bL x s n=true) :
  (x.op=1/\0<=x.a/\x.a<s/\x.b=0)\/(x.op=2/\0<=x.a/\x.a<n/\0<=x.b/\x.b<n)\/(x.op=3/\0<=x.a/\x.a<n/\x.b=0)\/((x.op=4\/x.op=5)/\x.a=0/\x.b=0):=by
 unfold bL at h;split at h
 ·rename_i e;simp only[decide_eq_true_eq]at h;exact .inl ⟨e,h⟩
 split at h
 ·rename_i e;simp only[decide_eq_true_eq]at h;exact .inr (.inl ⟨e,h.1.1,h.1.2,h.2⟩)
 split at h
 ·rename_i e;simp only[decide_eq_true_eq]at h;exact .inr (.inr (.inl ⟨e,h.1.1,h.1.2,h.2⟩))
 split at h
 ·rename_i e;simp only[decide_eq_true_eq]at h;exact .inr (.inr (.inr ⟨e,h⟩))
 cases h
theorem uH {c:aD}(hc:CR c){cur:Option Int}{x:I3}{at_:Nat}{q nx:List Nat}(hx:c.ins[at_]?=some x)(h5:x.op≠5)(hq:bg c.ins.length q)(hn:bg c.ins.length nx) :
  bg c.ins.length (fC c cur x at_ q nx).1/\bg c.ins.length (fC c cur x at_ q nx).2:=by
 have hr:=cK (hc.ins at_ x hx);have jD:=hc.next at_ x hx;unfold fC;rcases hr with ⟨e,h1,h2,h3⟩|⟨e,h1,h2,h3,h4⟩|⟨e,h1,h2,h3⟩|⟨e|e,h1,h2⟩
 ·rw[if_neg (by omega),if_neg (by omega),if_neg (by omega)];cases cur with
  | none=>exact⟨hq,hn⟩
  | some p =>
   refine⟨hq,?_⟩;dsimp only;split
   ·exact hn.add (jD (.inl e))
   exact hn
 ·rw[if_pos e];exact⟨(hq.add (by omega)).add (by omega),hn⟩
 ·rw[if_neg (by omega),if_pos e];exact⟨hq.add (by omega),hn⟩
 ·rw[if_neg (by omega),if_neg (by omega),if_pos e];refine⟨?_,hn⟩;dsimp only;split
  ·exact hq.add (jD (.inr e))
  exact hq
 exact absurd e h5
theorem tm (q:List Nat)(k:Nat):q.length<=(jN q k).length:=by
 unfold jN;split
 ·exact Nat.le_refl _
 simp
theorem Ro {c:aD}{cur:Option Int}{f:Nat}{q:List Nat}{k:Nat}{nx:List Nat}{st at_:Nat}{x:I3}(h1:q[k]?=some at_)(h2:c.ins[at_]?=some x)(h5:x.op=5):inner c cur (f+1) q k nx st=.yes (st+1):=by
 rw[inner,h1];dsimp only;rw[h2];dsimp only;rw[if_pos h5]
theorem pE {c:aD}{cur:Option Int}{f:Nat}{q:List Nat}{k:Nat}{nx:List Nat}{st at_:Nat}{x:I3}(h1:q[k]?=some at_)(h2:c.ins[at_]?=some x)(h5:x.op≠5) :
  inner c cur (f+1) q k nx st=inner c cur f (fC c cur x at_ q nx).1 (k+1) (fC c cur x at_ q nx).2 (st+1):=by
 rw[inner,h1];dsimp only;rw[h2];dsimp only;rw[if_neg h5]
theorem Rn {c:aD}{cur:Option Int}{f:Nat}{q:List Nat}{k:Nat}{nx:List Nat}{st:Nat}(h1:q[k]?=none):inner c cur (f+1) q k nx st=.no q nx st:=by
 rw[inner,h1]
theorem YH (c:aD)(ps:List Int)(i:Nat)(q:List Nat)(st:Nat)(hi:i<=ps.length):outer c (ps.drop i) q st =
  match inner c ps[i]? (c.ins.length+1) q 0 [] st with
  | .yes KV=>(true,KV)
  | .no _ nx KV=>if ps.length<=i\/nx=[] then (false,KV) else outer c (ps.drop (i+1)) nx KV:=by
 rcases Nat.lt_or_ge i ps.length with h|h
 ·rw[List.drop_eq_getElem_cons h,List.getElem?_eq_getElem h,outer];split
  ·rfl
  split
  ·rename_i e;rw[if_pos (.inr e)]
  rename_i e;rw[if_neg (by intro h';rcases h' with h'|h';omega;exact e h')]
 rw[List.drop_eq_nil_of_le h,List.getElem?_eq_none h,outer];split
 ·rfl
 rw[if_pos (.inl h)]
theorem ud {c:aD}(hc:CR c){cur:Option Int}:∀(f:Nat) (q:List Nat) (k:Nat) (nx:List Nat) (st:Nat),bg c.ins.length q->bg c.ins.length nx ->
  ∀q' EA KV,inner c cur f q k nx st=.no q' EA KV->bg c.ins.length q'/\bg c.ins.length EA
 | 0,q,k,nx,st,hq,hn,q',EA,KV,h=>by
  rw[inner]at h;cases h;exact⟨hq,hn⟩
 | f+1,q,k,nx,st,hq,hn,q',EA,KV,h=>by
  rw[inner]at h;split at h
  ·cases h;exact⟨hq,hn⟩
  split at h
  ·cases h;exact⟨hq,hn⟩
  rename_i x hx;split at h
  ·cases h
  rename_i h5;obtain⟨h1,h2⟩:=uH hc (cur:=cur) hx h5 hq hn;exact ud hc f _ _ _ _ h1 h2 _ _ _ h
structure bW where
 brk:Bool
 before:aD
 after:aD
 deriving DecidableEq
structure bN where
 rules:List bW
 dG:Bool
 deriving DecidableEq
def bt (n:Nat):UInt8:=UInt8.ofNat n
theorem iK {n:Nat}(h:n<256):(bt n).toNat=n:=by simp[bt];omega
def dw (n:Nat):List UInt8:=if n<128 then [bt n] else bt (n % 128+128)::dw (n / 128)
 termination_by n
 decreasing_by omega
def ri (b:Bool):List UInt8:=[if b then 1 else 0]
def ix (r:Rg):List UInt8:=dw r.1.toNat++dw r.2.toNat
def pV (s:List Rg):List UInt8:=dw s.length++s.flatMap ix
def rp (x:I3):List UInt8:=dw x.op.toNat++dw x.a.toNat++dw x.b.toNat
def lC (c:aD):List UInt8:=dw c.sets.length++c.sets.flatMap pV++dw c.ins.length++c.ins.flatMap rp
def lJ (r:bW):List UInt8:=ri r.brk++lC r.before++lC r.after
def iE (p:bN):List UInt8:=ri p.dG++dw p.rules.length++p.rules.flatMap lJ
def pg:Nat->Nat->List UInt8->Nat×Nat
 | a,b,[]=>(a,b)
 | a,b,c::s=>pg ((a+c.toNat) % 65521) ((b+(a+c.toNat) % 65521) % 65521) s
def xA (s:List UInt8):Nat:=(pg 1 0 s).2*65536+(pg 1 0 s).1
def HM (u:Nat):List UInt8:=[bt (u % 256),bt (u / 256 % 256),bt (u / 65536 % 256),bt (u / 16777216 % 256)]
def jA (p:bN):List UInt8:=iE p++HM (xA (iE p))
def az (p:bN):Bool:=decide (p.rules.length<=20) && p.rules.all λr=>aV r.before && aV r.after
theorem rT {n:Nat}(h:n<128):dw n=[bt n]:=by rw[dw,if_pos h]
theorem Gl {n:Nat}(h:¬n<128):dw n=bt (n % 128+128)::dw (n / 128):=by rw[dw,if_neg h]
theorem qm (n:Nat):1<=(dw n).length:=by
 rw[dw];split<;>simp
theorem Jk:∀(k n:Nat),1<=k->n<128 ^ k->(dw n).length<=k
 | 0,_,h,_=>absurd h (by omega)
 | 1,n,_,h=>by rw[rT (by simpa using h)];simp
 | k+2,n,_,h=>by
  by_cases hn:n<128
  ·rw[rT hn];simp
  rw[Gl hn]
  have:=Jk (k+1) (n / 128) (by omega) (by rw[Nat.pow_succ]at h;exact Nat.div_lt_of_lt_mul (by rw[Nat.mul_comm];exact h));simp only[List.length_cons];omega
def kJ (bad:Bool):Nat->Nat->List UInt8->Nat×List UInt8×Bool
 | _,_,[]=>(0,[],true)
 | i,n,c::r=>if 4<=i then (0,[],true) else if c.toNat<128 then (n+c.toNat*128 ^ i,r,bad || (decide (0<i) && decide (c.toNat=0))) else kJ bad (i+1) (n+c.toNat % 128*128 ^ i) r
structure St where
 s:List UInt8
 bad:Bool
 deriving DecidableEq
def dE (x:St):Nat×St:=((kJ x.bad 0 0 x.s).1,⟨(kJ x.bad 0 0 x.s).2.1,(kJ x.bad 0 0 x.s).2.2⟩)
def cF (x:St):Nat×St:=if (dE x).2.s.length<(dE x).1 then (0,⟨(dE x).2.s,true⟩) else dE x
def eF (x:St):Bool×St:=(decide ((dE x).1=1),⟨(dE x).2.s,(dE x).2.bad || decide (1<(dE x).1)⟩)
def eX {α:Type}(f:St->α×St):Nat->St->List α×St
 | 0,x=>([],x)
 | n+1,x=>((f x).1::(eX f n (f x).2).1,(eX f n (f x).2).2)
def jm (x:St):Rg×St:=(((dE x).1,(dE (dE x).2).1),(dE (dE x).2).2)
def nh (x:St):List Rg×St:=eX jm (cF x).1 (cF x).2
def tP (x:St):I3×St:=(⟨(dE x).1,(dE (dE x).2).1,(dE (dE (dE x).2).2).1⟩,(dE (dE (dE x).2).2).2)
def jF (x:St):List (List Rg)×St:=eX nh (cF x).1 (cF x).2
def EN (x:St):List I3×St:=eX tP (cF x).1 (cF x).2
def gq (x:St):aD×St:=(⟨(jF x).1,(EN (jF x).2).1⟩,(EN (jF x).2).2)
def lK (x:St):bW×St:=(⟨(eF x).1,(gq (eF x).2).1,(gq (gq (eF x).2).2).1⟩,(gq (gq (eF x).2).2).2)
def BT (x:St):List bW×St:=eX lK (cF x).1 (cF x).2
def gM (x:St):bN×St:=(⟨(BT (eF x).2).1,(eF x).1⟩,(BT (eF x).2).2)
def sumOf (l:List UInt8):Nat:=(l.getD 0 0).toNat+(l.getD 1 0).toNat*256+(l.getD 2 0).toNat*65536+(l.getD 3 0).toNat*16777216
def qq (s:List UInt8):Option bN :=
 if s.length<4 then none
 else if xA (s.take (s.length-4))≠sumOf (s.drop (s.length-4)) then none
 else let r:=gM ⟨s.take (s.length-4),false⟩
  if r.2.bad=true\/r.2.s≠[]\/az r.1=false then none else some r.1
theorem EO {α:Type}(f:St->α×St):∀n x,(eX f n x).1.length=n
 | 0,_=>rfl
 | n+1,x=>by simp only[eX,List.length_cons,EO f n]
def yz {α:Type}(f:St->α×St)(enc:α->List UInt8)(v:α):Prop:=∀rest,f ⟨enc v++rest,false⟩=(v,⟨rest,false⟩)
theorem BR:∀(k i n m:Nat) (rest:List UInt8),i+k=4->m<128 ^ k->1<=k->(0<i->0<m)->kJ false i n (dw m++rest)=(n+m*128 ^ i,rest,false)
 | 0,_,_,_,_,_,_,h,_=>absurd h (by omega)
 | k+1,i,n,m,rest,hi,hm,_,h0=>by
  by_cases h:m<128
  ·rw[rT h,List.singleton_append,kJ,if_neg (by omega),iK (by omega),if_pos h];congr 2;simp only[Bool.false_or,Bool.and_eq_false_iff,decide_eq_false_iff_not];by_cases Z4:0<i
   ·right;have:=h0 Z4;omega
   left;exact Z4
  rw[Gl h,List.cons_append,kJ,if_neg (by omega),iK (by omega),if_neg (by omega)];have hk:1<=k:=by
   rcases Nat.eq_zero_or_pos k with hk|hk
   ·subst hk;simp at hm;omega
   exact hk
  have eE:m / 128<128 ^ k:=by rw[Nat.pow_succ]at hm;exact Nat.div_lt_of_lt_mul (by rw[Nat.mul_comm];exact hm)
  rw[BR k (i+1) _ (m / 128) rest (by omega) eE hk (λ_=>by omega)];congr 1;rw[show (m % 128+128) % 128=m % 128 by omega,Nat.pow_succ]
  have e:m*128 ^ i=m % 128*128 ^ i+m / 128*(128 ^ i*128):=by
   rw[Nat.mul_comm (128 ^ i) 128,<-Nat.mul_assoc,<-Nat.add_mul];congr 1;omega
  omega
theorem jl {n:Nat}(h:n<268435456):yz dE dw n:=λrest=>by
 have:=BR 4 0 0 n rest rfl (by simpa using h) (by omega) (λh=>absurd h (by omega));simp only[dE,this];simp
theorem EJ (b:Bool):yz eF ri b:=λrest=>by
 have h:∀n,n=0\/n=1->eF ⟨dw n++rest,false⟩=(decide (n=1),⟨rest,false⟩):=λn hn=>by
  simp only[eF];rw[jl (n:=n) (by omega) rest];rcases hn with rfl|rfl<;>rfl
 cases b with
 | true=>have:=h 1 (.inr rfl);rw[rT (by omega)]at this;exact this
 | false=>have:=h 0 (.inl rfl);rw[rT (by omega)]at this;exact this
theorem BQ {α:Type}{f:St->α×St}{enc:α->List UInt8}:∀(l:List α),(∀v∈l,yz f enc v)->∀rest,eX f l.length ⟨l.flatMap enc++rest,false⟩=(l,⟨rest,false⟩)
 | [],_,rest=>rfl
 | v::l,h,rest=>by
  simp only[List.length_cons,eX,List.flatMap_cons,List.append_assoc];rw[h v (by simp)];simp only;rw[BQ l (λu hu=>h u (by simp[hu])) rest]
theorem qQ {α:Type}{enc:α->List UInt8}(h1:∀v,1<=(enc v).length):∀(l:List α),l.length<=(l.flatMap enc).length
 | []=>by simp
 | v::l=>by have:=qQ h1 l;have:=h1 v;simp only[List.length_cons,List.flatMap_cons,List.length_append];omega
theorem j2 {α:Type}{f:St->α×St}{enc:α->List UInt8}(h1:∀v,1<=(enc v).length){l:List α}(hl:l.length<268435456)(h:∀v∈l,yz f enc v)(rest:List UInt8) :
  eX f (cF ⟨dw l.length++(l.flatMap enc++rest),false⟩).1 (cF ⟨dw l.length++(l.flatMap enc++rest),false⟩).2=(l,⟨rest,false⟩):=by
 have hm:cF ⟨dw l.length++(l.flatMap enc++rest),false⟩=(l.length,⟨l.flatMap enc++rest,false⟩):=by
  unfold cF;rw[jl hl]
  have:=qQ h1 l;rw[if_neg (by simp only[List.length_append];omega)]
 rw[hm];exact BQ l h rest
theorem BJ (r:Rg):1<=(ix r).length:=by unfold ix;have:=qm r.1.toNat;simp only[List.length_append];omega
theorem Yl (s:List Rg):1<=(pV s).length:=by unfold pV;have:=qm s.length;simp only[List.length_append];omega
theorem XN (x:I3):1<=(rp x).length:=by unfold rp;have:=qm x.op.toNat;simp only[List.length_append];omega
theorem Sc (r:bW):1<=(lJ r).length:=by unfold lJ ri;simp only[List.length_append,List.length_cons];omega
theorem KG {r:Rg}(h1:0<=r.1/\r.1<=1114111)(h2:0<=r.2/\r.2<=1114111):yz jm ix r:=λrest=>by
 simp only[jm,ix,List.append_assoc];rw[jl (n:=r.1.toNat) (by omega)];simp only;rw[jl (n:=r.2.toNat) (by omega)];obtain⟨a,b⟩:=r;simp only at h1 h2 ⊢
 rw[Int.toNat_of_nonneg h1.1,Int.toNat_of_nonneg h2.1]
theorem Sz {s:List Rg}(hs:aO (-2) s=true)(hl:s.length<268435456):yz nh pV s:=λrest=>by
 have hr:∀r∈s,yz jm ix r:=λr hr=>by
  obtain⟨i,hi⟩:=List.getElem?_of_mem hr;obtain⟨h1,h2,h3,_⟩:=bz s (-2) hs i r hi;exact KG (by omega) (by omega)
 have:=j2 BJ hl hr rest;simp only[pV,List.append_assoc];exact this
theorem Sx {x:I3}{s n:Int}(hx:bL x s n=true)(hs:s<=2000)(hn:n<=2000):yz tP rp x:=λrest=>by
 have hr:=cK hx;have hb:(0<=x.op/\x.op<=5)/\(0<=x.a/\x.a<=2000)/\(0<=x.b/\x.b<=2000):=by omega
 simp only[tP,rp,List.append_assoc];rw[jl (n:=x.op.toNat) (by omega)];simp only;rw[jl (n:=x.a.toNat) (by omega)];simp only;rw[jl (n:=x.b.toNat) (by omega)];obtain⟨o,a,b⟩:=x;simp only at hb ⊢
 rw[Int.toNat_of_nonneg hb.1.1,Int.toNat_of_nonneg hb.2.1.1,Int.toNat_of_nonneg hb.2.2.1]
def rJ (c:aD):Prop:=∀s∈c.sets,s.length<268435456
theorem BL {c:aD}(h:aV c=true)(hl:rJ c):yz gq lC c:=λrest=>by
 have hc:=CR.of h;have h1:=j2 (f:=nh) (enc:=pV) Yl (l:=c.sets) (by have:=hc.sets;omega) (λs hs=>Sz (hc.set s hs) (hl s hs)) (dw c.ins.length++(c.ins.flatMap rp++rest));have h2:=j2 (f:=tP) (enc:=rp) XN (l:=c.ins) (by have:=hc.many;omega) (λx hx=>by
  obtain⟨i,hi⟩:=List.getElem?_of_mem hx;exact Sx (hc.ins i x hi) (by have:=hc.sets;omega) (by have:=hc.many;omega)) rest
 simp only[gq,jF,EN,lC,List.append_assoc];rw[h1];simp only;rw[h2]
theorem ND {r:bW}(h1:aV r.before=true)(h2:aV r.after=true)(l1:rJ r.before)(l2:rJ r.after):yz lK lJ r:=λrest=>by
 have e1:=EJ r.brk (lC r.before++(lC r.after++rest));have e2:=BL h1 l1 (lC r.after++rest);have e3:=BL h2 l2 rest;simp only[lK,lJ,List.append_assoc];rw[e1];simp only;rw[e2];simp only;rw[e3]
def Gv (p:bN):Prop:=∀r∈p.rules,rJ r.before/\rJ r.after
theorem eD {p:bN}(h:az p=true):p.rules.length<=20/\∀r∈p.rules,aV r.before=true/\aV r.after=true:=by
 unfold az at h;simp only[Bool.and_eq_true,decide_eq_true_eq,List.all_eq_true]at h;exact h
theorem NF {p:bN}(h:az p=true)(hl:Gv p):yz gM iE p:=λrest=>by
 obtain⟨h1,h2⟩:=eD h;have e1:=EJ p.dG (dw p.rules.length++(p.rules.flatMap lJ++rest));have e2:=j2 (f:=lK) (enc:=lJ) Sc (l:=p.rules) (by omega) (λr hr=>ND (h2 r hr).1 (h2 r hr).2 (hl r hr).1 (hl r hr).2) rest;simp only[gM,BT,iE,List.append_assoc];rw[e1];simp only;rw[e2]
theorem PN:∀(s:List UInt8) (a b:Nat),a<65521->(pg a b s).1=(a+(s.map UInt8.toNat).sum) % 65521
 | [],a,b,h=>by simp only[pg,List.map_nil,List.sum_nil,Nat.add_zero];omega
 | c::s,a,b,h=>by
  rw[pg,PN s _ _ (Nat.mod_lt _ (by omega)),List.map_cons,List.sum_cons];omega
theorem PO:∀(s:List UInt8) (a b:Nat),b<65521->(pg a b s).2<65521
 | [],_,_,h=>h
 | c::s,a,b,_=>by rw[pg];exact PO s _ _ (Nat.mod_lt _ (by omega))
theorem PQ (s:List UInt8):xA s<4294967296:=by
 have h1:=PN s 1 0 (by omega);have h2:=PO s 1 0 (by omega);have h3:=Nat.mod_lt (1+(s.map UInt8.toNat).sum) (show 0<65521 by omega)
 unfold xA;omega
theorem NO {u:Nat}(h:u<4294967296):sumOf (HM u)=u:=by
 simp only[sumOf,HM,List.getD_cons_zero,List.getD_cons_succ];rw[iK (by omega),iK (by omega),iK (by omega),iK (by omega)];omega
theorem Yy (u:Nat):(HM u).length=4:=rfl
theorem Jt {p:bN}(h:az p=true)(hl:Gv p):qq (jA p)=some p:=by
 have hlen:(jA p).length-4=(iE p).length:=by simp[jA,HM]
 have h4:¬(jA p).length<4:=by simp[jA,HM]
 have ht:(jA p).take (iE p).length=iE p:=by simp[jA]
 have hd:(jA p).drop (iE p).length=HM (xA (iE p)):=by simp[jA]
 unfold qq;rw[if_neg h4,hlen,ht,hd,NO (PQ _),if_neg (by simp)];have e:=NF h hl [];rw[List.append_nil]at e;simp only[e];rw[if_neg (by simp[h])]
def fO (ps:List Int)(i:Nat)(r:bW):Bool:=(eo r.before (ps.take i).reverse).1 && (eo r.after (ps.drop i)).1
def ee (p:bN)(ps:List Int)(i k:Nat):Bool:=(p.rules.drop k).foldr (λr acc=>if fO ps i r then r.brk else acc) p.dG
def nJ (p:bN)(ps:List Int)(i:Nat):Bool:=ee p ps i 0 || decide (i=0) || decide (i=ps.length)
def bZ (p:bN)(ps:List Int)(n:Nat):List Nat:=(List.range n).filter (nJ p ps)
def fH (p:bN)(ps:List Int):List Nat:=if ps=[] then [] else bZ p ps (ps.length+1)
theorem sA (p:bN)(ps:List Int)(n:Nat):bZ p ps (n+1)=if nJ p ps n then bZ p ps n++[n] else bZ p ps n:=by
 unfold bZ;rw[List.range_succ,List.filter_append];cases h:nJ p ps n<;>simp[List.filter,h]
theorem tx (p:bN)(ps:List Int)(n:Nat):(bZ p ps n).length<=n:=by
 unfold bZ;exact Nat.le_trans (List.length_filter_le _ _) (by simp)
theorem sB (p:bN)(ps:List Int):bZ p ps 0=[]:=rfl
theorem HG (p:bN)(ps:List Int)(i k:Nat)(h:p.rules.length<=k):ee p ps i k=p.dG:=by
 unfold ee;rw[List.drop_eq_nil_of_le h];rfl
theorem DV {p:bN}{ps:List Int}{i k:Nat}{r:bW}(h:p.rules[k]?=some r):ee p ps i k=if fO ps i r then r.brk else ee p ps i (k+1):=by
 have ao:=(List.getElem?_eq_some_iff.1 h).1;unfold ee;rw[List.drop_eq_getElem_cons ao,List.foldr_cons]
 have:=List.getElem?_eq_getElem ao;rw[h]at this;cases this;rfl
def dK (c:aD):Nat->Nat->List Int->Prop
 | 0,_,_=>False
 | h+1,k,ps=>match c.ins[k]? with
  | none=>False
  | some x=>if x.op=5 then True
   else if x.op=2 then dK c h x.a.toNat ps\/dK c h x.b.toNat ps
   else if x.op=3 then dK c h x.a.toNat ps
   else if x.op=4 then ps=[]/\dK c h (k+1) ps
   else match ps with
    | []=>False
    | p::r=>fA (c.sets.getD x.a.toNat []) p=true/\dK c h (k+1) r
def Acc (c:aD)(k:Nat)(ps:List Int):Prop:=∃h,dK c h k ps
theorem ll {c:aD}:∀(h:Nat) (k:Nat) (ps:List Int),dK c h k ps->dK c (h+1) k ps
 | 0,k,ps,hh=>hh.elim
 | h+1,k,ps,hh=>by
  rw[dK]at hh ⊢
  cases hx:c.ins[k]? with
  | none=>rw[hx]at hh;exact hh
  | some x =>
   rw[hx]at hh;dsimp only at hh ⊢
   by_cases h5:x.op=5
   ·rw[if_pos h5];trivial
   rw[if_neg h5]at hh ⊢
   by_cases h2:x.op=2
   ·rw[if_pos h2]at hh ⊢;exact hh.imp (ll h _ _) (ll h _ _)
   rw[if_neg h2]at hh ⊢
   by_cases h3:x.op=3
   ·rw[if_pos h3]at hh ⊢;exact ll h _ _ hh
   rw[if_neg h3]at hh ⊢
   by_cases h4:x.op=4
   ·rw[if_pos h4]at hh ⊢;exact⟨hh.1,ll h _ _ hh.2⟩
   rw[if_neg h4]at hh ⊢
   cases ps with
   | nil=>exact hh
   | cons p r=>exact⟨hh.1,ll h _ _ hh.2⟩
theorem lN {c:aD}{k:Nat}{ps:List Int}{x:I3}(hx:c.ins[k]?=some x)(h:x.op=5):Acc c k ps:=⟨1,by rw[dK,hx];dsimp only;rw[if_pos h];trivial⟩
theorem fE {c:aD}{k:Nat}{ps:List Int}{x:I3}(hx:c.ins[k]?=some x)(h:x.op=2):Acc c k ps↔Acc c x.a.toNat ps\/Acc c x.b.toNat ps:=by
 constructor
 ·rintro⟨h',hh⟩;cases h' with
  | zero=>exact hh.elim
  | succ h' =>
   rw[dK,hx]at hh;dsimp only at hh;rw[if_neg (by omega),if_pos h]at hh;exact hh.imp (λh=>⟨_,h⟩) (λh=>⟨_,h⟩)
 rintro(⟨h',hh⟩|⟨h',hh⟩)
 ·exact⟨h'+1,by rw[dK,hx];dsimp only;rw[if_neg (by omega),if_pos h];exact .inl hh⟩
 exact⟨h'+1,by rw[dK,hx];dsimp only;rw[if_neg (by omega),if_pos h];exact .inr hh⟩
theorem gI {c:aD}{k:Nat}{ps:List Int}{x:I3}(hx:c.ins[k]?=some x)(h:x.op=3):Acc c k ps↔Acc c x.a.toNat ps:=by
 constructor
 ·rintro⟨h',hh⟩;cases h' with
  | zero=>exact hh.elim
  | succ h' =>
   rw[dK,hx]at hh;dsimp only at hh;rw[if_neg (by omega),if_neg (by omega),if_pos h]at hh;exact⟨_,hh⟩
 rintro⟨h',hh⟩;exact⟨h'+1,by rw[dK,hx];dsimp only;rw[if_neg (by omega),if_neg (by omega),if_pos h];exact hh⟩
theorem mu {c:aD}{k:Nat}{ps:List Int}{x:I3}(hx:c.ins[k]?=some x)(h:x.op=4):Acc c k ps↔ps=[]/\Acc c (k+1) ps:=by
 constructor
 ·rintro⟨h',hh⟩;cases h' with
  | zero=>exact hh.elim
  | succ h' =>
   rw[dK,hx]at hh;dsimp only at hh;rw[if_neg (by omega),if_neg (by omega),if_neg (by omega),if_pos h]at hh;exact⟨hh.1,_,hh.2⟩
 rintro⟨h0,h',hh⟩;exact⟨h'+1,by rw[dK,hx];dsimp only;rw[if_neg (by omega),if_neg (by omega),if_neg (by omega),if_pos h];exact⟨h0,hh⟩⟩
theorem gg {c:aD}{k:Nat}{ps:List Int}{x:I3}(hx:c.ins[k]?=some x)(h:x.op≠2/\x.op≠3/\x.op≠4/\x.op≠5):Acc c k ps↔∃p r,ps=p::r/\fA (c.sets.getD x.a.toNat []) p=true/\Acc c (k+1) r:=by
 constructor
 ·rintro⟨h',hh⟩;cases h' with
  | zero=>exact hh.elim
  | succ h' =>
   rw[dK,hx]at hh;dsimp only at hh;rw[if_neg (by omega),if_neg (by omega),if_neg (by omega),if_neg (by omega)]at hh;cases ps with
   | nil=>exact hh.elim
   | cons p r=>exact⟨p,r,rfl,hh.1,_,hh.2⟩
 rintro⟨p,r,rfl,h0,h',hh⟩;exact⟨h'+1,by rw[dK,hx];dsimp only;rw[if_neg (by omega),if_neg (by omega),if_neg (by omega),if_neg (by omega)];exact⟨h0,hh⟩⟩
theorem eO {q:List Nat}{k j:Nat}:j∈jN q k↔j∈q\/j=k:=by
 unfold jN;split
 ·rename_i h;exact⟨.inl,λhh=>hh.elim id (λe=>e▸h)⟩
 simp
theorem tk {q:List Nat}{k:Nat}:∀(i:Nat) (j:Nat),q[i]?=some j->(jN q k)[i]?=some j:=by
 intro i j h;unfold jN;split
 ·exact h
 rw[List.getElem?_append_left (List.getElem?_eq_some_iff.1 h).1];exact h
def He (cur:Option Int)(r:List Int):List Int:=match cur with|none=>[]|some p=>p::r
theorem xK {c:aD}{cur:Option Int}{x:I3}{at_:Nat}{q nx:List Nat}(hx:c.ins[at_]?=some x)(h5:x.op≠5)(r:List Int) :
  (∀j∈(fC c cur x at_ q nx).1,j∈q\/(Acc c j (He cur r)->Acc c at_ (He cur r))) /\
  (∀j∈(fC c cur x at_ q nx).2,j∈nx\/(cur≠none/\(Acc c j r->Acc c at_ (He cur r)))) /\
  (∀(i j:Nat),q[i]?=some j->(fC c cur x at_ q nx).1[i]?=some j):=by
 unfold fC;by_cases h2:x.op=2
 ·rw[if_pos h2];refine⟨λj hj=>?_,λj hj=>.inl hj,λi j h=>tk _ _ (tk _ _ h)⟩;rw[eO,eO]at hj;rcases hj with (hj|rfl)|rfl
  ·exact .inl hj
  ·exact .inr λh=>(fE hx h2).2 (.inl h)
  exact .inr λh=>(fE hx h2).2 (.inr h)
 rw[if_neg h2];by_cases h3:x.op=3
 ·rw[if_pos h3];refine⟨λj hj=>?_,λj hj=>.inl hj,λi j h=>tk _ _ h⟩;rw[eO]at hj;rcases hj with hj|rfl
  ·exact .inl hj
  exact .inr λh=>(gI hx h3).2 h
 rw[if_neg h3];by_cases h4:x.op=4
 ·rw[if_pos h4];cases cur with
  | none =>
   refine⟨λj hj=>?_,λj hj=>.inl hj,λi j h=>tk _ _ h⟩;have hj:j∈jN q (at_+1):=hj;rw[eO]at hj;rcases hj with hj|rfl
   ·exact .inl hj
   exact .inr λh=>(mu hx h4).2 ⟨rfl,h⟩
  | some p=>exact⟨λj hj=>.inl hj,λj hj=>.inl hj,λi j h=>h⟩
 rw[if_neg h4];cases cur with
 | none=>exact⟨λj hj=>.inl hj,λj hj=>.inl hj,λi j h=>h⟩
 | some p =>
  refine⟨λj hj=>.inl hj,λj hj=>?_,λi j h=>h⟩;dsimp only at hj;split at hj
  ·rename_i hh;rw[eO]at hj;rcases hj with hj|rfl
   ·exact .inl hj
   exact .inr ⟨by simp,λh=>(gg hx ⟨h2,h3,h4,h5⟩).2 ⟨p,r,rfl,hh,h⟩⟩
  exact .inl hj
def Hd (c:aD)(cur:Option Int)(q nx:List Nat)(at_:Nat):Prop:=∀x,c.ins[at_]?=some x->x.op≠5/\(x.op=2->x.a.toNat∈q/\x.b.toNat∈q)/\(x.op=3->x.a.toNat∈q)/\(x.op=4->cur=none->at_+1∈q) /\
 (x.op≠2->x.op≠3->x.op≠4->∀p,cur=some p->fA (c.sets.getD x.a.toNat []) p=true->at_+1∈nx)
theorem Hd.mono {c:aD}{cur:Option Int}{q nx q' EA:List Nat}{at_:Nat}(h:Hd c cur q nx at_)(hq:∀j∈q,j∈q')(hn:∀j∈nx,j∈EA):Hd c cur q' EA at_:=λx hx=>by
 obtain⟨h1,h2,h3,h4,h5⟩:=h x hx;exact⟨h1,λe=>⟨hq _ (h2 e).1,hq _ (h2 e).2⟩,λe=>hq _ (h3 e),λe e'=>hq _ (h4 e e'),λa b d p e e'=>hn _ (h5 a b d p e e')⟩
theorem Lw {c:aD}{cur:Option Int}{x:I3}{at_:Nat}{q nx:List Nat}(hx:c.ins[at_]?=some x)(h5:x.op≠5) :
  Hd c cur (fC c cur x at_ q nx).1 (fC c cur x at_ q nx).2 at_/\(∀j∈q,j∈(fC c cur x at_ q nx).1)/\(∀j∈nx,j∈(fC c cur x at_ q nx).2):=by
 unfold fC Hd;by_cases h2:x.op=2
 ·rw[if_pos h2];refine⟨λy hy=>?_,λj hj=>eO.2 (.inl (eO.2 (.inl hj))),λj hj=>hj⟩;rw[hx]at hy;cases hy;exact⟨h5,λ_=>⟨eO.2 (.inl (eO.2 (.inr rfl))),eO.2 (.inr rfl)⟩,λh=>absurd h (by omega),λh=>absurd h (by omega),λh=>absurd h2 h⟩
 rw[if_neg h2];by_cases h3:x.op=3
 ·rw[if_pos h3];refine⟨λy hy=>?_,λj hj=>eO.2 (.inl hj),λj hj=>hj⟩;rw[hx]at hy;cases hy;exact⟨h5,λh=>absurd h h2,λ_=>eO.2 (.inr rfl),λh=>absurd h (by omega),λ_ h=>absurd h3 h⟩
 rw[if_neg h3];by_cases h4:x.op=4
 ·rw[if_pos h4];refine⟨λy hy=>?_,λj hj=>?_,λj hj=>hj⟩
  ·rw[hx]at hy;cases hy;refine⟨h5,λh=>absurd h h2,λh=>absurd h h3,λ_ e=>?_,λ_ _ h=>absurd h4 h⟩;subst e;exact eO.2 (.inr rfl)
  dsimp only;split
  ·exact eO.2 (.inl hj)
  exact hj
 rw[if_neg h4];cases cur with
 | none =>
  refine⟨λy hy=>?_,λj hj=>hj,λj hj=>hj⟩;rw[hx]at hy;cases hy;exact⟨h5,λh=>absurd h h2,λh=>absurd h h3,λh=>absurd h h4,λ_ _ _ p h=>by cases h⟩
 | some p =>
  refine⟨λy hy=>?_,λj hj=>hj,λj hj=>?_⟩
  ·rw[hx]at hy;cases hy;refine⟨h5,λh=>absurd h h2,λh=>absurd h h3,λh=>absurd h h4,λ_ _ _ p' e hh=>?_⟩;cases e;dsimp only;rw[if_pos hh];exact eO.2 (.inr rfl)
  dsimp only;split
  ·exact eO.2 (.inl hj)
  exact hj
theorem xY {c:aD}(cur:Option Int)(r:List Int)(G:Prop)(hG:∀p,cur=some p->True):∀(f:Nat) (q:List Nat) (k:Nat) (nx:List Nat) (st:Nat),(∀j∈q,Acc c j (He cur r)->G)->(∀j∈nx,cur≠none/\(Acc c j r->G)) ->
  (∀s,inner c cur f q k nx st=.yes s->G)/\(∀q' EA s,inner c cur f q k nx st=.no q' EA s->(∀j∈EA,cur≠none/\(Acc c j r->G)))
 | 0,q,k,nx,st,hq,hn=>⟨λs h=>(by rw[inner]at h;cases h),λq' EA s h=>by rw[inner]at h;cases h;exact hn⟩
 | f+1,q,k,nx,st,hq,hn=>by
  rw[inner];cases hk:q[k]? with
  | none=>exact⟨λs h=>(by cases h),λq' EA s h=>by cases h;exact hn⟩
  | some at_ =>
   dsimp only;cases hx:c.ins[at_]? with
   | none=>exact⟨λs h=>(by cases h),λq' EA s h=>by cases h;exact hn⟩
   | some x =>
    dsimp only;have GN:=hq at_ (List.mem_of_getElem? hk);by_cases h5:x.op=5
    ·rw[if_pos h5];exact⟨λs _=>GN (lN hx h5),λq' EA s h=>by cases h⟩
    rw[if_neg h5];obtain⟨e1,e2,_⟩:=xK (cur:=cur) (q:=q) (nx:=nx) hx h5 r;exact xY cur r G hG f _ _ _ _ (λj hj ha=>(e1 j hj).elim (λh=>hq j h ha) (λh=>GN (h ha)))
     (λj hj=>(e2 j hj).elim (λh=>hn j h) (λh=>⟨h.1,λha=>GN (h.2 ha)⟩))
theorem u9 {c:aD}(hc:CR c)(cur:Option Int):∀(f:Nat) (q:List Nat) (k:Nat) (nx:List Nat) (st:Nat),bg c.ins.length q->bg c.ins.length nx->c.ins.length+1<=f+k ->
  (∀(i j:Nat),i<k->q[i]?=some j->Hd c cur q nx j)->∀q' EA s,inner c cur f q k nx st=.no q' EA s->(∀j∈q,j∈q')/\∀j∈q',Hd c cur q' EA j
 | 0,q,k,nx,st,hq,hn,hf,hd,q',EA,s,h=>by
  rw[inner]at h;cases h;refine⟨λj h=>h,λj hj=>?_⟩;obtain⟨i,hi⟩:=List.getElem?_of_mem hj
  have:=(List.getElem?_eq_some_iff.1 hi).1
  have:=hq.len;exact hd i j (by omega) hi
 | f+1,q,k,nx,st,hq,hn,hf,hd,q',EA,s,h=>by
  rw[inner]at h;cases hk:q[k]? with
  | none =>
   rw[hk]at h;cases h;refine⟨λj h=>h,λj hj=>?_⟩;obtain⟨i,hi⟩:=List.getElem?_of_mem hj;have h1:=(List.getElem?_eq_some_iff.1 hi).1;have h2:=List.getElem?_eq_none_iff.1 hk;exact hd i j (by omega) hi
  | some at_ =>
   rw[hk]at h;dsimp only at h;have ao:=hq.2 at_ (List.mem_of_getElem? hk);cases hx:c.ins[at_]? with
   | none=>have:=List.getElem?_eq_none_iff.1 hx;omega
   | some x =>
    rw[hx]at h;dsimp only at h;by_cases h5:x.op=5
    ·rw[if_pos h5]at h;cases h
    rw[if_neg h5]at h;obtain⟨p1,p2⟩:=uH hc (cur:=cur) hx h5 hq hn;obtain⟨d1,d2,d3⟩:=Lw (cur:=cur) (q:=q) (nx:=nx) hx h5;obtain⟨_,_,e3⟩:=xK (cur:=cur) (q:=q) (nx:=nx) hx h5 [];obtain⟨r1,r2⟩:=u9 hc cur f _ (k+1) _ _ p1 p2 (by omega) (λi j hi hj=>by
     rcases Nat.lt_or_ge i k with Wo|Wo
     ·have ao:i<q.length:=by
       have:=(List.getElem?_eq_some_iff.1 hk).1;omega
      have MQ:=e3 i _ (List.getElem?_eq_getElem ao);rw[hj]at MQ;cases MQ;exact(hd i _ Wo (List.getElem?_eq_getElem ao)).mono d2 d3
     have:i=k:=by omega
     subst this;have MQ:=e3 i _ hk;rw[hj]at MQ;cases MQ;exact d1) q' EA s h
    exact⟨λj hj=>r1 j (d2 j hj),r2⟩
theorem mH {c:aD}{cur:Option Int}{q nx:List Nat}{r:List Int}(hd:∀j∈q,Hd c cur q nx j):∀(h:Nat) (j:Nat),j∈q->dK c h j (He cur r)->cur≠none/\∃k∈nx,Acc c k r
 | 0,j,hj,ha=>ha.elim
 | h+1,j,hj,ha=>by
  rw[dK]at ha;cases hx:c.ins[j]? with
  | none=>rw[hx]at ha;exact ha.elim
  | some x =>
   rw[hx]at ha;dsimp only at ha;obtain⟨h5,h2,h3,h4,h1⟩:=hd j hj x hx;rw[if_neg h5]at ha;by_cases e2:x.op=2
   ·rw[if_pos e2]at ha;rcases ha with ha|ha
    ·exact mH hd h _ (h2 e2).1 ha
    exact mH hd h _ (h2 e2).2 ha
   rw[if_neg e2]at ha;by_cases e3:x.op=3
   ·rw[if_pos e3]at ha;exact mH hd h _ (h3 e3) ha
   rw[if_neg e3]at ha;by_cases e4:x.op=4
   ·rw[if_pos e4]at ha;cases cur with
    | none=>exact mH hd h _ (h4 e4 rfl) ha.2
    | some p=>cases ha.1
   rw[if_neg e4]at ha;cases cur with
   | none=>exact ha.elim
   | some p =>
    have ha:fA (c.sets.getD x.a.toNat []) p=true/\dK c h (j+1) r:=ha;exact⟨by simp,_,h1 e2 e3 e4 p rfl ha.1,_,ha.2⟩
theorem A9 {c:aD}(hc:CR c)(cur:Option Int)(r:List Int){q:List Nat}(hq:bg c.ins.length q)(st:Nat) :
  (∀s,inner c cur (c.ins.length+1) q 0 [] st=.yes s->∃j∈q,Acc c j (He cur r)) /\
  (∀q' nx s,inner c cur (c.ins.length+1) q 0 [] st=.no q' nx s->bg c.ins.length nx/\(cur=none->nx=[])/\((∃j∈q,Acc c j (He cur r))↔∃k∈nx,Acc c k r)):=by
 have hs:=xY (c:=c) cur r (∃j∈q,Acc c j (He cur r)) (λ_ _=>trivial) (c.ins.length+1) q 0 [] st (λj hj ha=>⟨j,hj,ha⟩) (λj hj=>by cases hj);refine⟨hs.1,λq' nx s h=>?_⟩;have h2:=hs.2 q' nx s h;obtain⟨h3,h4⟩:=u9 hc cur (c.ins.length+1) q 0 [] st hq (bg.nil _) (by omega) (λi j hi=>absurd hi (by omega)) q' nx s h;refine⟨(ud hc _ _ _ _ _ hq (bg.nil _) _ _ _ h).2,λe=>?_,?_,?_⟩
 ·cases nx with
  | nil=>rfl
  | cons k t=>exact absurd e (h2 k (by simp)).1
 ·rintro⟨j,hj,hh,ha⟩;exact(mH h4 hh j (h3 j hj) ha).2
 rintro⟨k,hk,ha⟩;exact(h2 k hk).2 ha
theorem EC {c:aD}(hc:CR c):∀(ps:List Int) (q:List Nat) (st:Nat),bg c.ins.length q->((outer c ps q st).1=true↔∃j∈q,Acc c j ps)
 | [],q,st,hq=>by
  obtain⟨h1,h2⟩:=A9 hc none [] hq st;rw[outer];cases hi:inner c none (c.ins.length+1) q 0 [] st with
  | yes s=>exact⟨λ_=>h1 s hi,λ_=>rfl⟩
  | no q' nx s =>
   obtain⟨_,h3,h4⟩:=h2 q' nx s hi;rw[h3 rfl]at h4;exact⟨λh=>(by cases h),λh=>(by obtain⟨k,hk,_⟩:=h4.1 h;cases hk)⟩
 | p::ps,q,st,hq=>by
  obtain⟨h1,h2⟩:=A9 hc (some p) ps hq st;rw[outer];cases hi:inner c (some p) (c.ins.length+1) q 0 [] st with
  | yes s=>exact⟨λ_=>h1 s hi,λ_=>rfl⟩
  | no q' nx s =>
   obtain⟨h3,_,h4⟩:=h2 q' nx s hi;dsimp only;by_cases hn:nx=[]
   ·rw[if_pos hn];subst hn;exact⟨λh=>(by cases h),λh=>(by obtain⟨k,hk,_⟩:=h4.1 h;cases hk)⟩
   rw[if_neg hn,EC hc ps nx s h3];exact h4.symm
theorem mf {c:aD}(hc:CR c)(ps:List Int):(eo c ps).1=true↔Acc c 0 ps:=by
 unfold eo;rw[EC hc ps [0] 0 (bg.one hc.one)];simp
theorem CR.to {c:aD}(h:CR c):aV c=true:=by
 have h1:=h.one;have hl:c.ins.length-1<c.ins.length:=by omega
 have hx:=List.getElem?_eq_getElem hl;have hn:=h.next _ _ hx;unfold aV;rw[hx];simp only[Bool.and_eq_true,decide_eq_true_eq,List.all_eq_true];refine⟨⟨⟨⟨h.one,h.many,h.sets⟩,⟨λe=>?_,λe=>?_⟩⟩,λx hx=>?_⟩,h.set⟩
 ·have:=hn (.inl e);omega
 ·have:=hn (.inr e);omega
 obtain⟨i,hi⟩:=List.getElem?_of_mem hx;exact h.ins i x hi
def se (c:aD):Nat->Nat->Nat
 | 0,k=>k
 | f+1,k=>match c.ins[k]? with
  | none=>k
  | some x=>if x.op=3 then se c f x.a.toNat else k
def gS (c:aD)(k:Nat):Nat:=se c c.ins.length k
theorem iV {c:aD}(hc:CR c){i:Nat}{x:I3}(hx:c.ins[i]?=some x)(h:x.op=3):0<=x.a/\x.a.toNat<c.ins.length/\x.b=0:=by
 rcases cK (hc.ins i x hx) with ⟨e,h1,h2,h3⟩|⟨e,h1,h2,h3,h4⟩|⟨e,h1,h2,h3⟩|⟨e|e,h1,h2⟩
 all_goals first|omega|(exact⟨h1,by omega,h3⟩)
theorem mS {c:aD}(hc:CR c){i:Nat}{x:I3}(hx:c.ins[i]?=some x)(h:x.op=2):0<=x.a/\x.a.toNat<c.ins.length/\0<=x.b/\x.b.toNat<c.ins.length:=by
 rcases cK (hc.ins i x hx) with ⟨e,h1,h2,h3⟩|⟨e,h1,h2,h3,h4⟩|⟨e,h1,h2,h3⟩|⟨e|e,h1,h2⟩
 all_goals first|omega|(exact⟨h1,by omega,h3,by omega⟩)
theorem iW {c:aD}(hc:CR c){i:Nat}{x:I3}(hx:c.ins[i]?=some x)(h:x.op≠2/\x.op≠3/\x.op≠4/\x.op≠5):x.op=1/\0<=x.a/\x.a.toNat<c.sets.length/\x.b=0:=by
 rcases cK (hc.ins i x hx) with ⟨e,h1,h2,h3⟩|⟨e,h1,h2,h3,h4⟩|⟨e,h1,h2,h3⟩|⟨e|e,h1,h2⟩
 all_goals first|omega|(exact⟨e,h1,by omega,h3⟩)
theorem yf {c:aD}(hc:CR c):∀(f k:Nat),k<c.ins.length->se c f k<c.ins.length
 | 0,k,h=>h
 | f+1,k,h=>by
  rw[se];split
  ·exact h
  rename_i x hx;split
  ·rename_i h3;exact yf hc f _ (iV hc hx h3).2.1
  exact h
theorem qO {c:aD}:∀(f k:Nat) (ps:List Int),Acc c (se c f k) ps↔Acc c k ps
 | 0,k,ps=>Iff.rfl
 | f+1,k,ps=>by
  rw[se];split
  ·exact Iff.rfl
  rename_i x hx;split
  ·rename_i h3;rw[qO f,gI hx h3]
  exact Iff.rfl
theorem rM {c:aD}:∀(f h k:Nat) (ps:List Int),dK c h k ps->dK c h (se c f k) ps
 | 0,h,k,ps,ha=>ha
 | f+1,h,k,ps,ha=>by
  rw[se];split
  ·exact ha
  rename_i x hx;split
  ·rename_i h3;cases h with
   | zero=>exact ha.elim
   | succ h =>
    rw[dK,hx]at ha;dsimp only at ha;rw[if_neg (by omega),if_neg (by omega),if_pos h3]at ha;exact rM f _ _ _ (ll _ _ _ ha)
  exact ha
def bP (c:aD)(x:I3):I3 :=
 if x.op=3 then ⟨x.op,gS c x.a.toNat,x.b⟩
 else if x.op=2 then (if gS c x.a.toNat=gS c x.b.toNat then ⟨3,gS c x.a.toNat,0⟩ else ⟨x.op,gS c x.a.toNat,gS c x.b.toNat⟩)
 else x
def fQ (c:aD)(i:Nat):aD:=match c.ins[i]? with
 | none=>c
 | some x=>⟨c.sets,c.ins.set i (bP c x)⟩
def ak (c:aD):Nat->aD
 | 0=>c
 | i+1=>fQ (ak c i) i
def oW (c:aD):aD:=ak c c.ins.length
theorem HN {c:aD}(hc:CR c){i:Nat}{x:I3}(hx:c.ins[i]?=some x):bL (bP c x) c.sets.length c.ins.length=true/\((bP c x).op=1\/(bP c x).op=4->bP c x=x):=by
 unfold bP;split
 ·rename_i h3;obtain⟨h1,h2,hb⟩:=iV hc hx h3
  have:=yf hc c.ins.length _ h2;refine⟨?_,λh=>by dsimp only at h;omega⟩;unfold bL gS;dsimp only;rw[if_neg (by omega),if_neg (by omega),if_pos h3];exact decide_eq_true ⟨⟨by omega,by omega⟩,hb⟩
 split
 ·rename_i h3 h2;obtain⟨a1,a2,b1,b2⟩:=mS hc hx h2;have ha:=yf hc c.ins.length _ a2;have hb:=yf hc c.ins.length _ b2;split
  ·refine⟨?_,λh=>by dsimp only at h;omega⟩;unfold bL gS;dsimp only;rw[if_neg (by omega),if_neg (by omega),if_pos rfl];exact decide_eq_true ⟨⟨by omega,by omega⟩,rfl⟩
  refine⟨?_,λh=>by dsimp only at h;omega⟩;unfold bL gS;dsimp only;rw[if_neg (by omega),if_pos h2];exact decide_eq_true ⟨⟨by omega,by omega⟩,by omega,by omega⟩
 exact⟨hc.ins i x hx,λ_=>rfl⟩
theorem gu {c:aD}{i:Nat}{x:I3}(hx:c.ins[i]?=some x)(j:Nat):(fQ c i).ins[j]?=if j=i then some (bP c x) else c.ins[j]?:=by
 unfold fQ;rw[hx];dsimp only;rw[List.getElem?_set]
 have:=(List.getElem?_eq_some_iff.1 hx).1;by_cases h:j=i
 ·subst h;rw[if_pos rfl,if_pos rfl,if_pos this]
 rw[if_neg h,if_neg (λe=>h e.symm)]
theorem j4 (c:aD)(i:Nat):(fQ c i).sets=c.sets:=by unfold fQ;split<;>rfl
theorem kK (c:aD)(i:Nat):(fQ c i).ins.length=c.ins.length:=by unfold fQ;split<;>simp
theorem NS {c:aD}(hc:CR c)(i:Nat):CR (fQ c i):=by
 cases hx:c.ins[i]? with
 | none=>unfold fQ;rw[hx];exact hc
 | some x =>
  have hs:=HN hc hx;refine⟨by rw[kK];exact hc.one,by rw[kK];exact hc.many,by rw[j4];exact hc.sets,λj y hy=>?_,λj y hy ho=>?_,by rw[j4];exact hc.set⟩
  ·rw[gu hx]at hy;rw[j4,kK];split at hy
   ·cases hy;exact hs.1
   exact hc.ins j y hy
  rw[gu hx]at hy;rw[kK];split at hy
  ·rename_i e;cases hy;rw[hs.2 ho]at ho;subst e;exact hc.next j x hx ho
  exact hc.next j y hy ho
theorem K2 {c:aD}(hc:CR c)(i:Nat)(k:Nat)(ps:List Int):Acc (fQ c i) k ps↔Acc c k ps:=by
 cases hx:c.ins[i]? with
 | none=>unfold fQ;rw[hx]
 | some x =>
  have A0:=j4 c i;constructor
  ·rintro⟨h,ha⟩;induction h generalizing k ps with
   | zero=>exact ha.elim
   | succ h ih =>
    by_cases hk:k=i
    ·subst hk;have hy:(fQ c k).ins[k]?=some (bP c x):=by rw[gu hx,if_pos rfl]
     by_cases h3:x.op=3
     ·rw[gI hx h3];have e:bP c x=⟨x.op,gS c x.a.toNat,x.b⟩:=by unfold bP;rw[if_pos h3]
      rw[e]at hy;rw[dK,hy]at ha;dsimp only at ha;rw[if_neg (by omega),if_neg (by omega),if_pos h3]at ha;rw[Int.toNat_natCast]at ha;exact(qO _ _ _).1 (ih _ _ ha)
     by_cases h2:x.op=2
     ·rw[fE hx h2];by_cases he:gS c x.a.toNat=gS c x.b.toNat
      ·have e:bP c x=⟨3,gS c x.a.toNat,0⟩:=by unfold bP;rw[if_neg h3,if_pos h2,if_pos he]
       rw[e]at hy;rw[dK,hy]at ha;dsimp only at ha;rw[if_neg (by omega),if_neg (by omega),if_pos rfl]at ha;rw[Int.toNat_natCast]at ha;exact .inl ((qO _ _ _).1 (ih _ _ ha))
      have e:bP c x=⟨x.op,gS c x.a.toNat,gS c x.b.toNat⟩:=by unfold bP;rw[if_neg h3,if_pos h2,if_neg he]
      rw[e]at hy;rw[dK,hy]at ha;dsimp only at ha;rw[if_neg (by omega),if_pos h2]at ha;rw[Int.toNat_natCast,Int.toNat_natCast]at ha;exact ha.imp (λha=>(qO _ _ _).1 (ih _ _ ha)) (λha=>(qO _ _ _).1 (ih _ _ ha))
     have e:bP c x=x:=by unfold bP;rw[if_neg h3,if_neg h2]
     rw[e]at hy;rw[dK,hy]at ha;dsimp only at ha;by_cases h5:x.op=5
     ·exact lN hx h5
     rw[if_neg h5,if_neg h2,if_neg h3]at ha;by_cases h4:x.op=4
     ·rw[if_pos h4]at ha;exact(mu hx h4).2 ⟨ha.1,ih _ _ ha.2⟩
     rw[if_neg h4,A0]at ha;cases ps with
     | nil=>exact ha.elim
     | cons p r=>exact(gg hx ⟨h2,h3,h4,h5⟩).2 ⟨p,r,rfl,ha.1,ih _ _ ha.2⟩
    have hy:(fQ c i).ins[k]?=c.ins[k]?:=by rw[gu hx,if_neg hk]
    rw[dK,hy]at ha;cases hz:c.ins[k]? with
    | none=>rw[hz]at ha;exact ha.elim
    | some z =>
     rw[hz]at ha;dsimp only at ha;by_cases h5:z.op=5
     ·exact lN hz h5
     rw[if_neg h5]at ha;by_cases h2:z.op=2
     ·rw[if_pos h2]at ha;exact(fE hz h2).2 (ha.imp (ih _ _) (ih _ _))
     rw[if_neg h2]at ha;by_cases h3:z.op=3
     ·rw[if_pos h3]at ha;exact(gI hz h3).2 (ih _ _ ha)
     rw[if_neg h3]at ha;by_cases h4:z.op=4
     ·rw[if_pos h4]at ha;exact(mu hz h4).2 ⟨ha.1,ih _ _ ha.2⟩
     rw[if_neg h4,A0]at ha;cases ps with
     | nil=>exact ha.elim
     | cons p r=>exact(gg hz ⟨h2,h3,h4,h5⟩).2 ⟨p,r,rfl,ha.1,ih _ _ ha.2⟩
  rintro⟨h,ha⟩;induction h generalizing k ps with
  | zero=>exact ha.elim
  | succ h ih =>
   by_cases hk:k=i
   ·subst hk;have hy:(fQ c k).ins[k]?=some (bP c x):=by rw[gu hx,if_pos rfl]
    rw[dK,hx]at ha;dsimp only at ha;by_cases h5:x.op=5
    ·exact lN hy (by unfold bP;rw[if_neg (by omega),if_neg (by omega)];exact h5)
    rw[if_neg h5]at ha;by_cases h2:x.op=2
    ·rw[if_pos h2]at ha;have W4:=ha.imp (λa=>ih _ _ (rM c.ins.length _ _ _ a)) (λa=>ih _ _ (rM c.ins.length _ _ _ a));by_cases he:gS c x.a.toNat=gS c x.b.toNat
     ·have e:bP c x=⟨3,gS c x.a.toNat,0⟩:=by unfold bP;rw[if_neg (by omega),if_pos h2,if_pos he]
      rw[e]at hy;rw[gI hy rfl];dsimp only;rw[Int.toNat_natCast];rcases W4 with a|a
      ·exact a
      rw[he];exact a
     have e:bP c x=⟨x.op,gS c x.a.toNat,gS c x.b.toNat⟩:=by unfold bP;rw[if_neg (by omega),if_pos h2,if_neg he]
     rw[e]at hy;rw[fE hy h2];dsimp only;rw[Int.toNat_natCast,Int.toNat_natCast];exact W4
    rw[if_neg h2]at ha;by_cases h3:x.op=3
    ·rw[if_pos h3]at ha;have e:bP c x=⟨x.op,gS c x.a.toNat,x.b⟩:=by unfold bP;rw[if_pos h3]
     rw[e]at hy;rw[gI hy h3];dsimp only;rw[Int.toNat_natCast];exact ih _ _ (rM c.ins.length _ _ _ ha)
    rw[if_neg h3]at ha;have e:bP c x=x:=by unfold bP;rw[if_neg h3,if_neg h2]
    rw[e]at hy;by_cases h4:x.op=4
    ·rw[if_pos h4]at ha;exact(mu hy h4).2 ⟨ha.1,ih _ _ ha.2⟩
    rw[if_neg h4]at ha;cases ps with
    | nil=>exact ha.elim
    | cons p r=>exact(gg hy ⟨h2,h3,h4,h5⟩).2 ⟨p,r,rfl,by rw[A0];exact ha.1,ih _ _ ha.2⟩
   have hy:(fQ c i).ins[k]?=c.ins[k]?:=by rw[gu hx,if_neg hk]
   rw[dK]at ha;cases hz:c.ins[k]? with
   | none=>rw[hz]at ha;exact ha.elim
   | some z =>
    rw[hz]at ha hy;dsimp only at ha;by_cases h5:z.op=5
    ·exact lN hy h5
    rw[if_neg h5]at ha;by_cases h2:z.op=2
    ·rw[if_pos h2]at ha;exact(fE hy h2).2 (ha.imp (ih _ _) (ih _ _))
    rw[if_neg h2]at ha;by_cases h3:z.op=3
    ·rw[if_pos h3]at ha;exact(gI hy h3).2 (ih _ _ ha)
    rw[if_neg h3]at ha;by_cases h4:z.op=4
    ·rw[if_pos h4]at ha;exact(mu hy h4).2 ⟨ha.1,ih _ _ ha.2⟩
    rw[if_neg h4]at ha;cases ps with
    | nil=>exact ha.elim
    | cons p r=>exact(gg hy ⟨h2,h3,h4,h5⟩).2 ⟨p,r,rfl,by rw[A0];exact ha.1,ih _ _ ha.2⟩
theorem nj {c:aD}(hc:CR c):∀i,CR (ak c i)/\(ak c i).sets=c.sets/\(ak c i).ins.length=c.ins.length/\(∀k ps,Acc (ak c i) k ps↔Acc c k ps)/\∀j,i<=j->(ak c i).ins[j]?=c.ins[j]?
 | 0=>⟨hc,rfl,rfl,λ_ _=>Iff.rfl,λ_ _=>rfl⟩
 | i+1=>by
  obtain⟨h1,h2,h3,h4,h5⟩:=nj hc i;rw[ak];refine⟨NS h1 i,by rw[j4,h2],by rw[kK,h3],λk ps=>by rw[K2 h1,h4],λj hj=>?_⟩;rw[<-h5 j (by omega)];cases hx:(ak c i).ins[i]? with
  | none=>unfold fQ;rw[hx]
  | some x=>rw[gu hx,if_neg (by omega)]
def ti (c:aD)(x:I3)(i j:Nat):Prop :=
 (x.op=2/\(j=x.a.toNat\/j=x.b.toNat))\/(x.op=3/\j=x.a.toNat)\/(x.op=4/\j=i+1)\/(x.op=1/\c.sets.getD x.a.toNat []≠[]/\j=i+1)
structure sS (c:aD)(is:List Bool):Prop where
 len:is.length=c.ins.length
 zero:is[0]?=some true
 leads:∀(i:Nat) (x:I3),is[i]?=some true->c.ins[i]?=some x->∀j,ti c x i j->is[j]?=some true
def bS (is:List Bool):Nat->Nat->Nat
 | 0,k=>is.length
 | f+1,k=>if is[k]?=some true then k else if k<is.length then bS is f (k+1) else is.length
def nL (is:List Bool)(i:Nat):Nat:=bS is is.length (i+1)
theorem ng {is:List Bool}:∀(f k:Nat),is.length<=f+k->(is[bS is f k]?=some true/\k<=bS is f k\/bS is f k=is.length)/\∀j,k<=j->j<bS is f k->is[j]?≠some true
 | 0,k,h=>⟨.inr rfl,λj h1 h2=>by rw[bS]at h2;omega⟩
 | f+1,k,h=>by
  rw[bS];split
  ·rename_i hk;exact⟨.inl ⟨hk,Nat.le_refl _⟩,λj h1 h2=>by omega⟩
  rename_i hk;split
  ·obtain⟨h1,h2⟩:=ng (is:=is) f (k+1) (by omega);refine⟨h1.imp (λh=>⟨h.1,by omega⟩) id,λj hj hj2=>?_⟩;by_cases e:j=k
   ·subst e;exact hk
   exact h2 j (by omega) hj2
  exact⟨.inr rfl,λj h1 h2=>by rw[List.getElem?_eq_none (by omega)];simp⟩
theorem Gk {is:List Bool}{f k:Nat}(h:is[k]?=some true):bS is (f+1) k=k:=by rw[bS,if_pos h]
theorem DL {is:List Bool}{f k:Nat}(h:is[k]?≠some true)(hk:k<is.length):bS is (f+1) k=bS is f (k+1):=by rw[bS,if_neg h,if_pos hk]
theorem pN {is:List Bool}:∀(f:Nat) {k:Nat},is.length<=k->bS is f k=is.length
 | 0,k,h=>rfl
 | f+1,k,h=>by rw[bS,if_neg (by rw[List.getElem?_eq_none h];simp),if_neg (by omega)]
def nQ (c:aD)(is:List Bool)(i:Nat):Bool:=match c.ins[i]? with
 | none=>false
 | some x=>decide (x.op=3/\(nL is i:Int)=x.a/\(i:Int)<x.a)
def eB (c:aD)(is:List Bool)(i:Nat):Bool:=decide (is[i]?=some true) && !nQ c is i
def fV (c:aD)(is:List Bool):Nat->Nat
 | 0=>0
 | i+1=>if eB c is i then fV c is i+1 else fV c is i
theorem K4 {c : aD} {is : List Bool} {i : Nat} : ∀ {j : Nat}, i <= j -> fV c is i <= fV c is j
  | 0, h => by have : i = 0 := by omega
               subst this; exact Nat.le_refl _
  | j + 1, h => by
    by_cases e : i = j + 1
    · subst e; exact Nat.le_refl _
    have := K4 (c := c) (is := is) (i := i) (j := j) (by omega)
    rw [fV]; split <;> omega
theorem kl {c:aD}{is:List Bool}:∀(j:Nat),fV c is j<=j
 | 0=>Nat.le_refl _
 | j+1=>by have:=kl (c:=c) (is:=is) j;rw[fV];split<;>omega
theorem ZF {c:aD}{is:List Bool}{i j:Nat}(h:i<j)(hk:eB c is i=true):fV c is i<fV c is j:=by
 have h1:fV c is (i+1)=fV c is i+1:=by rw[fV,if_pos hk]
 have:=K4 (c:=c) (is:=is) (i:=i+1) (j:=j) (by omega);omega
theorem Bp {c : aD} {is : List Bool} {i : Nat} : ∀ {j : Nat}, i <= j -> (∀ k, i <= k -> k < j -> eB c is k = false) -> fV c is j = fV c is i
  | 0, h, _ => by have : i = 0 := by omega
                  subst this; rfl
  | j + 1, h, hk => by
    by_cases e : i = j + 1
    · subst e; rfl
    rw [fV, if_neg (by rw [hk j (by omega) (by omega)]; simp)]
    exact Bp (by omega) (λk h1 h2 => hk k h1 (by omega))
theorem G5 {c:aD}{is:List Bool}{i:Nat}(h:eB c is i=true):is[i]?=some true/\nQ c is i=false:=by
 unfold eB at h;simp only[Bool.and_eq_true,decide_eq_true_eq,Bool.not_eq_true']at h;exact h
theorem G6 {c:aD}{is:List Bool}{i:Nat}(h:eB c is i=true):i<is.length:=(List.getElem?_eq_some_iff.1 (G5 h).1).1
theorem oK {c:aD}{is:List Bool}(hC:sS c is):∀(d i:Nat),is.length<=d+i->is[i]?=some true->∃j,i<=j/\eB c is j=true/\fV c is j=fV c is i/\∀ps,Acc c i ps↔Acc c j ps
 | 0,i,h,hi=>by have:=(List.getElem?_eq_some_iff.1 hi).1;omega
 | d+1,i,h,hi=>by
  by_cases hs:nQ c is i=true
  ·have RV:=hs;unfold nQ at hs;cases hx:c.ins[i]? with
   | none=>rw[hx]at hs;cases hs
   | some x =>
    rw[hx]at hs;simp only[decide_eq_true_eq]at hs;obtain⟨h3,hn,H3⟩:=hs;have hl:=hC.leads i x hi hx x.a.toNat (.inr (.inl ⟨h3,rfl⟩));obtain⟨j,h1,h2,h4,h5⟩:=oK hC d x.a.toNat (by omega) hl;have jD:=ng (is:=is) is.length (i+1) (by omega);have hnn:bS is is.length (i+1)=x.a.toNat:=by unfold nL at hn;omega
    rw[hnn]at jD;refine⟨j,by omega,h2,?_,λps=>by rw[gI hx h3];exact h5 ps⟩;rw[h4];apply Bp (by omega);intro k OK lV;unfold eB;by_cases e:k=i
    ·subst e;rw[RV];simp
    rw[decide_eq_false (jD.2 k (by omega) lV)];rfl
  exact⟨i,Nat.le_refl _,by unfold eB;rw[decide_eq_true hi];simpa using hs,rfl,λ_=>Iff.rfl⟩
structure LS where
 used:List Nat
 ins:List I3
def Rj (a:Nat):List Nat->Nat
 | []=>0
 | b::l=>if b=a then 0 else Rj a l+1
theorem JQ {a:Nat}:∀{l:List Nat},a∈l->l[Rj a l]?=some a
 | [],h=>by cases h
 | b::l,h=>by
  unfold Rj;split
  ·rename_i e;subst e;rfl
  rename_i e;rw[List.getElem?_cons_succ];exact JQ (List.mem_of_ne_of_mem (λh=>e h.symm) h)
def jX (c:aD)(is:List Bool)(used:List Nat)(x:I3):I3 :=
 if x.op=1 then ⟨x.op,(if x.a.toNat∈used then Rj x.a.toNat used else used.length:Nat),x.b⟩
 else if x.op=3 then ⟨x.op,fV c is x.a.toNat,x.b⟩
 else if x.op=2 then ⟨x.op,fV c is x.a.toNat,fV c is x.b.toNat⟩
 else x
def qB (used:List Nat)(x:I3):List Nat:=if x.op=1 then (if x.a.toNat∈used then used else used++[x.a.toNat]) else used
def uk (c:aD)(is:List Bool)(s:LS)(i:Nat):LS:=match c.ins[i]? with
 | none=>s
 | some x=>if eB c is i=true then ⟨qB s.used x,s.ins++[jX c is s.used x]⟩ else s
def a7 (c:aD)(is:List Bool):Nat->LS
 | 0=>⟨[],[]⟩
 | i+1=>uk c is (a7 c is i) i
def XZ (c:aD)(s:LS):aD:=⟨s.used.map (λa=>c.sets.getD a []),s.ins⟩
def bb (c:aD)(is:List Bool):aD:=XZ c (a7 c is c.ins.length)
def qG (c:aD)(is:List Bool)(sets:List (List Rg))(x y:I3):Prop :=
 y.op=x.op/\(x.op=1->y.b=x.b/\0<=y.a/\y.a.toNat<sets.length/\sets.getD y.a.toNat []=c.sets.getD x.a.toNat [])/\(x.op=3->y.a=fV c is x.a.toNat/\y.b=x.b)/\(x.op=2->y.a=fV c is x.a.toNat/\y.b=fV c is x.b.toNat) /\
 (x.op≠1->x.op≠2->x.op≠3->y=x)
theorem qG.more {c:aD}{is:List Bool}{sets more:List (List Rg)}{x y:I3}(h:qG c is sets x y):qG c is (sets++more) x y:=by
 obtain⟨h1,h2,h3,h4,h5⟩:=h;refine⟨h1,λe=>?_,h3,h4,h5⟩;obtain⟨a,b,d,f⟩:=h2 e;refine⟨a,b,by rw[List.length_append];omega,?_⟩;rw[<-f,List.getD_eq_getElem?_getD,List.getD_eq_getElem?_getD,List.getElem?_append_left d]
structure aL6 (c:aD)(is:List Bool)(i:Nat)(s:LS):Prop where
 len:s.ins.length=fV c is i
 nodup:s.used.Nodup
 used:∀a∈s.used,a<c.sets.length
 at_:∀(j:Nat) (x:I3),j<i->eB c is j=true->c.ins[j]?=some x->∃y,s.ins[fV c is j]?=some y/\qG c is (s.used.map (λa=>c.sets.getD a [])) x y
 all:∀(k:Nat) (y:I3),s.ins[k]?=some y->∃j x,j<i/\eB c is j=true/\fV c is j=k/\c.ins[j]?=some x/\qG c is (s.used.map (λa=>c.sets.getD a [])) x y
theorem T3 (used:List Nat)(x:I3):∃m,qB used x=used++m:=by
 unfold qB;split
 ·split
  ·exact⟨[],by simp⟩
  exact⟨_,rfl⟩
 exact⟨[],by simp⟩
theorem G8 {c:aD}(hc:CR c){is:List Bool}{used:List Nat}{i:Nat}{x:I3}(hx:c.ins[i]?=some x):qG c is ((qB used x).map (λa=>c.sets.getD a [])) x (jX c is used x):=by
 unfold qG jX qB;by_cases h1:x.op=1
 ·rw[if_pos h1,if_pos h1];refine⟨rfl,λ_=>?_,λh=>absurd h (by omega),λh=>absurd h (by omega),λh=>absurd h1 h⟩;dsimp only;rw[Int.toNat_natCast];by_cases hm:x.a.toNat∈used
  ·rw[if_pos hm,if_pos hm];have hg:=JQ hm;have hl:=(List.getElem?_eq_some_iff.1 hg).1;refine⟨rfl,by omega,by rw[List.length_map];exact hl,?_⟩;rw[List.getD_eq_getElem?_getD,List.getElem?_map,hg];rfl
  rw[if_neg hm,if_neg hm];refine⟨rfl,by omega,by rw[List.length_map,List.length_append];simp,?_⟩;rw[List.getD_eq_getElem?_getD,List.getElem?_map,List.getElem?_append_right (Nat.le_refl _)];simp
 rw[if_neg h1,if_neg h1];by_cases h3:x.op=3
 ·rw[if_pos h3];exact⟨rfl,λh=>absurd h h1,λ_=>⟨rfl,rfl⟩,λh=>absurd h (by omega),λ_ _ h=>absurd h3 h⟩
 rw[if_neg h3];by_cases h2:x.op=2
 ·rw[if_pos h2];exact⟨rfl,λh=>absurd h h1,λh=>absurd h h3,λ_=>⟨rfl,rfl⟩,λ_ h=>absurd h2 h⟩
 rw[if_neg h2];exact⟨rfl,λh=>absurd h h1,λh=>absurd h h3,λh=>absurd h h2,λ_ _ _=>rfl⟩
theorem dm {c:aD}(hc:CR c){is:List Bool}:∀i,i<=c.ins.length->aL6 c is i (a7 c is i)
 | 0,_=>⟨rfl,List.nodup_nil,λ_ h=>(by cases h),λj x h=>absurd h (by omega),λk y h=>(by simp[a7]at h)⟩
 | i+1,hi=>by
  have ih:=dm hc (is:=is) i (by omega);have hx:=List.getElem?_eq_getElem (show i<c.ins.length by omega)
  rw[a7];unfold uk;rw[hx];dsimp only;by_cases hk:eB c is i=true
  ·rw[if_pos hk];have ao:fV c is (i+1)=fV c is i+1:=by rw[fV,if_pos hk]
   obtain⟨m,hm⟩:=T3 (a7 c is i).used c.ins[i];have ht:=G8 hc (is:=is) (used:=(a7 c is i).used) hx;refine⟨by dsimp only;rw[List.length_append,ih.len,ao];rfl,?_,?_,λj x hj H6 hxj=>?_,λk y hy=>?_⟩
   ·dsimp only;unfold qB;split
    ·split
     ·exact ih.nodup
     rename_i hn;rw[List.nodup_append];exact⟨ih.nodup,by simp,λa ha b hb=>by rw[List.mem_singleton]at hb;subst hb;intro e;subst e;exact hn ha⟩
    exact ih.nodup
   ·dsimp only;intro a ha;unfold qB at ha;split at ha
    ·rename_i h1;split at ha
     ·exact ih.used a ha
     rw[List.mem_append,List.mem_singleton]at ha;rcases ha with ha|rfl
     ·exact ih.used a ha
     exact(iW hc hx ⟨by omega,by omega,by omega,by omega⟩).2.2.1
    exact ih.used a ha
   ·dsimp only;by_cases e:j=i
    ·subst e;rw[hx]at hxj;cases hxj;exact⟨_,by rw[List.getElem?_append_right (by rw[ih.len];exact Nat.le_refl _),ih.len];simp,ht⟩
    obtain⟨y,hy,hty⟩:=ih.at_ j x (by omega) H6 hxj;exact⟨y,by rw[List.getElem?_append_left (List.getElem?_eq_some_iff.1 hy).1];exact hy,by rw[hm,List.map_append];exact hty.more⟩
   dsimp only at hy;rcases Nat.lt_or_ge k (a7 c is i).ins.length with h|h
   ·rw[List.getElem?_append_left h]at hy;obtain⟨j,x,h1,h2,h3,h4,h5⟩:=ih.all k y hy;exact⟨j,x,by omega,h2,h3,h4,by dsimp only;rw[hm,List.map_append];exact h5.more⟩
   rw[List.getElem?_append_right h]at hy;have:k=(a7 c is i).ins.length:=by
    have:=(List.getElem?_eq_some_iff.1 hy).1;simp at this;omega
   subst this;rw[Nat.sub_self]at hy;cases hy;exact⟨i,_,by omega,hk,ih.len.symm,hx,ht⟩
  rw[if_neg hk];have ao:fV c is (i+1)=fV c is i:=by rw[fV,if_neg hk]
  refine⟨by rw[ih.len,ao],ih.nodup,ih.used,λj x hj H6 hxj=>?_,λk y hy=>?_⟩
  ·by_cases e:j=i
   ·subst e;exact absurd H6 hk
   exact ih.at_ j x (by omega) H6 hxj
  obtain⟨j,x,h1,h2⟩:=ih.all k y hy;exact⟨j,x,by omega,h2⟩
theorem Du {c:aD}(hc:CR c){is:List Bool}(hC:sS c is)(tail:List I3)(i:Nat)(hi:is[i]?=some true)(ps:List Int) :
  Acc c i ps↔Acc ⟨(bb c is).sets,(bb c is).ins++tail⟩ (fV c is i) ps:=by
 have hI:=dm hc (is:=is) c.ins.length (Nat.le_refl _);have GN:∀j,eB c is j=true->∃x y,c.ins[j]?=some x/\is[j]?=some true/\((bb c is).ins++tail)[fV c is j]?=some y/\qG c is (bb c is).sets x y:=λj hj=>by
  have ao:=G6 hj;rw[hC.len]at ao;obtain⟨y,hy,ht⟩:=hI.at_ j _ ao hj (List.getElem?_eq_getElem ao);have hy':(bb c is).ins[fV c is j]?=some y:=hy;exact⟨_,y,List.getElem?_eq_getElem ao,(G5 hj).1,by rw[List.getElem?_append_left (List.getElem?_eq_some_iff.1 hy').1];exact hy',ht⟩
 have rm:∀j,eB c is j=true->fV c is (j+1)=fV c is j+1:=λj hj=>by rw[fV,if_pos hj]
 constructor
 ·rintro⟨h,ha⟩;induction h generalizing i ps with
  | zero=>exact ha.elim
  | succ h ih =>
   by_cases hk:eB c is i=true
   ·obtain⟨x,y,hx,_,hy,ho,t1,t3,t2,t0⟩:=GN i hk;have hl:=hC.leads i x hi hx;rw[dK,hx]at ha;dsimp only at ha;by_cases h5:x.op=5
    ·exact lN hy (by omega)
    rw[if_neg h5]at ha;by_cases h2:x.op=2
    ·rw[if_pos h2]at ha;obtain⟨e1,e2⟩:=t2 h2;rw[fE hy (by omega),e1,e2,Int.toNat_natCast,Int.toNat_natCast];exact ha.imp (ih _ (hl _ (.inl ⟨h2,.inl rfl⟩)) _) (ih _ (hl _ (.inl ⟨h2,.inr rfl⟩)) _)
    rw[if_neg h2]at ha;by_cases h3:x.op=3
    ·rw[if_pos h3]at ha;obtain⟨e1,e2⟩:=t3 h3;rw[gI hy (by omega),e1,Int.toNat_natCast];exact ih _ (hl _ (.inr (.inl ⟨h3,rfl⟩))) _ ha
    rw[if_neg h3]at ha;by_cases h4:x.op=4
    ·rw[if_pos h4]at ha;rw[mu hy (by omega),<-rm i hk];exact⟨ha.1,ih _ (hl _ (.inr (.inr (.inl ⟨h4,rfl⟩)))) _ ha.2⟩
    rw[if_neg h4]at ha;have h1:=(iW hc hx ⟨h2,h3,h4,h5⟩).1;obtain⟨e1,e2,e3,e4⟩:=t1 h1;cases ps with
    | nil=>exact ha.elim
    | cons p r =>
     have ha:fA (c.sets.getD x.a.toNat []) p=true/\dK c h (i+1) r:=ha;refine(gg hy ⟨by omega,by omega,by omega,by omega⟩).2 ⟨p,r,rfl,?_,?_⟩
     ·dsimp only;rw[e4];exact ha.1
     rw[<-rm i hk];refine ih _ (hl _ (.inr (.inr (.inr ⟨h1,?_,rfl⟩)))) _ ha.2;intro e;rw[e]at ha;exact absurd ha.1 (by simp[fA])
   ·have hs:nQ c is i=true:=by
     unfold eB at hk;rw[decide_eq_true hi]at hk;simpa using hk
    obtain⟨j,hij,H6,htj,GL⟩:=oK hC is.length i (by omega) hi;unfold nQ at hs;cases hx:c.ins[i]? with
    | none=>rw[hx]at hs;cases hs
    | some x =>
     rw[hx]at hs;simp only[decide_eq_true_eq]at hs;obtain⟨h3,hn,H3⟩:=hs;rw[dK,hx]at ha;dsimp only at ha;rw[if_neg (by omega),if_neg (by omega),if_pos h3]at ha;have hl:=hC.leads i x hi hx x.a.toNat (.inr (.inl ⟨h3,rfl⟩))
     have:=ih _ hl _ ha;have jD:=ng (is:=is) is.length (i+1) (by omega);have hnn:bS is is.length (i+1)=x.a.toNat:=by unfold nL at hn;omega
     rw[hnn]at jD;have CO:fV c is x.a.toNat=fV c is i:=by
      apply Bp (by omega);intro k OK lV;by_cases e:k=i
      ·subst e;simpa using hk
      unfold eB;rw[decide_eq_false (jD.2 k (by omega) lV)];rfl
     rwa [CO]at this
 rintro⟨h,ha⟩;obtain⟨j,hij,H6,htj,GL⟩:=oK hC is.length i (by omega) hi;refine(GL ps).2 ?_;rw[<-htj]at ha;clear GL htj hi hij i;induction h generalizing j ps with
 | zero=>exact ha.elim
 | succ h ih =>
  have step:∀k,is[k]?=some true->∀ps,dK ⟨(bb c is).sets,(bb c is).ins++tail⟩ h (fV c is k) ps->Acc c k ps:=λk hk ps ha=>by
   obtain⟨j',h1,h2,h3,h4⟩:=oK hC is.length k (by omega) hk;rw[<-h3]at ha;exact(h4 ps).2 (ih _ _ ha h2)
  obtain⟨x,y,hx,hi,hy,ho,t1,t3,t2,t0⟩:=GN j H6;have hl:=hC.leads j x hi hx;rw[dK,hy]at ha;dsimp only at ha;by_cases h5:x.op=5
  ·exact lN hx h5
  rw[if_neg (by omega)]at ha;by_cases h2:x.op=2
  ·rw[if_pos (by omega)]at ha;obtain⟨e1,e2⟩:=t2 h2;rw[e1,e2,Int.toNat_natCast,Int.toNat_natCast]at ha;rw[fE hx h2];exact ha.imp (step _ (hl _ (.inl ⟨h2,.inl rfl⟩)) _) (step _ (hl _ (.inl ⟨h2,.inr rfl⟩)) _)
  rw[if_neg (by omega)]at ha;by_cases h3:x.op=3
  ·rw[if_pos (by omega)]at ha;obtain⟨e1,e2⟩:=t3 h3;rw[e1,Int.toNat_natCast]at ha;rw[gI hx h3];exact step _ (hl _ (.inr (.inl ⟨h3,rfl⟩))) _ ha
  rw[if_neg (by omega)]at ha;by_cases h4:x.op=4
  ·rw[if_pos (by omega),<-rm j H6]at ha;rw[mu hx h4];exact⟨ha.1,step _ (hl _ (.inr (.inr (.inl ⟨h4,rfl⟩)))) _ ha.2⟩
  rw[if_neg (by omega),<-rm j H6]at ha;have h1:=(iW hc hx ⟨h2,h3,h4,h5⟩).1;obtain⟨e1,e2,e3,e4⟩:=t1 h1;cases ps with
  | nil=>exact ha.elim
  | cons p r =>
   have ha:fA ((bb c is).sets.getD y.a.toNat []) p=true/\dK ⟨(bb c is).sets,(bb c is).ins++tail⟩ h (fV c is (j+1)) r:=ha;rw[e4]at ha;refine(gg hx ⟨h2,h3,h4,h5⟩).2 ⟨p,r,rfl,ha.1,step _ (hl _ (.inr (.inr (.inr ⟨h1,?_,rfl⟩)))) _ ha.2⟩;intro e;rw[e]at ha;exact absurd ha.1 (by simp[fA])
def D2:I3:=⟨5,0,0⟩
theorem Rz {c:aD}(hc:CR c)(is:List Bool):(bb c is).ins.length=fV c is c.ins.length:=(dm hc (is:=is) c.ins.length (Nat.le_refl _)).len
theorem JY {c:aD}(hc:CR c){is:List Bool}(hC:sS c is):1<=(bb c is).ins.length/\(bb c is).ins.length<=c.ins.length/\(bb c is).sets.length<=c.sets.length /\
  (aV (bb c is)=true\/(aV (bb c is)=false/\(bb c is).ins.length+1<=c.ins.length/\CR ⟨(bb c is).sets,(bb c is).ins++[D2]⟩)):=by
 have hI:=dm hc (is:=is) c.ins.length (Nat.le_refl _);have hlen:=Rz hc is;have hle:=kl (c:=c) (is:=is) c.ins.length;have h1:1<=(bb c is).ins.length:=by
  obtain⟨j,_,h2,_⟩:=oK hC is.length 0 (by omega) hC.zero
  have:=G6 h2;rw[hC.len]at this
  have:=ZF this h2;omega
 have pD:(bb c is).sets.length<=c.sets.length:=by
  show ((a7 c is c.ins.length).used.map _).length<=_
  rw[List.length_map];exact nM _ _ hI.nodup hI.used
 have hsr:∀s∈(bb c is).sets,aO (-2) s=true:=λs hs=>by
  obtain⟨a,ha,rfl⟩:=List.mem_map.1 (show s∈(a7 c is c.ins.length).used.map (λa=>c.sets.getD a []) from hs)
  have ao:=hI.used a ha;rw[List.getD_eq_getElem?_getD,List.getElem?_eq_getElem ao];exact hc.set _ (List.getElem_mem ao)
 have AY:∀k,is[k]?=some true->fV c is k<(bb c is).ins.length:=λk hk=>by
  obtain⟨j,_,h2,h3,_⟩:=oK hC is.length k (by omega) hk
  have:=G6 h2;rw[hC.len]at this
  have:=ZF this h2;omega
 have DC:∀(k:Nat) (y:I3),(bb c is).ins[k]?=some y->bL y (bb c is).sets.length (bb c is).ins.length=true/\(y.op=4->k+1<(bb c is).ins.length) /\
   (y.op=1->k+1<(bb c is).ins.length\/(bb c is).ins.length+1<=c.ins.length):=λk y hy=>by
  obtain⟨j,x,hj,H6,htj,hx,ho,t1,t3,t2,t0⟩:=hI.all k y hy;have hi:=(G5 H6).1;have hl:=hC.leads j x hi hx;have rm:fV c is (j+1)=fV c is j+1:=by rw[fV,if_pos H6]
  have hr:=hc.ins j x hx;refine⟨?_,λh4=>?_,λh=>?_⟩
  ·unfold bL;rcases cK hr with ⟨e,g1,g2,g3⟩|⟨e,g1,g2,g3,g4⟩|⟨e,g1,g2,g3⟩|⟨e,g1,g2⟩
   ·obtain⟨e1,e2,e3,e4⟩:=t1 e;rw[if_pos (by omega)];have:(y.a.toNat:Nat)<(bb c is).sets.length:=e3;exact decide_eq_true ⟨e2,by omega,by omega⟩
   ·obtain⟨e1,e2⟩:=t2 e;rw[if_neg (by omega),if_pos (by omega)];have q1:=AY _ (hl _ (.inl ⟨e,.inl rfl⟩));have q2:=AY _ (hl _ (.inl ⟨e,.inr rfl⟩));exact decide_eq_true ⟨⟨by omega,by omega⟩,by omega,by omega⟩
   ·obtain⟨e1,e2⟩:=t3 e;rw[if_neg (by omega),if_neg (by omega),if_pos (by omega)];have q1:=AY _ (hl _ (.inr (.inl ⟨e,rfl⟩)));exact decide_eq_true ⟨⟨by omega,by omega⟩,by omega⟩
   have:=t0 (by omega) (by omega) (by omega);subst this;rw[if_neg (by omega),if_neg (by omega),if_neg (by omega),if_pos e];exact decide_eq_true ⟨g1,g2⟩
  ·have:=AY _ (hl _ (.inr (.inr (.inl ⟨by omega,rfl⟩))));omega
  have ao:=hc.next j x hx (.inl (by omega));by_cases hn:is[j+1]?=some true
  ·have:=AY _ hn;omega
  right;have hkn:eB c is (j+1)=false:=by unfold eB;rw[decide_eq_false hn];rfl
  have q1:fV c is (j+2)=fV c is (j+1):=by rw[fV,hkn];simp
  have q2:=kl (c:=c) (is:=is) (j+1);have q3:∀m,fV c is (j+2+m)<=fV c is (j+2)+m:=λm=>by
   induction m with
   | zero=>exact Nat.le_refl _
   | succ m ih=>rw[<-Nat.add_assoc,fV];split<;>omega
  have:=q3 (c.ins.length-(j+2));rw[show j+2+(c.ins.length-(j+2))=c.ins.length by omega]at this
  omega
 refine⟨h1,by omega,pD,?_⟩;have hm:=hc.many;have hs:=hc.sets;by_cases hR:aV (bb c is)=true
 ·exact .inl hR
 right;have GZ:(bb c is).ins.length+1<=c.ins.length:=by
  apply Classical.byContradiction;intro hn;apply hR;apply CR.to;refine⟨h1,by omega,by omega,λk y hy=>(DC k y hy).1,λk y hy hop=>?_,hsr⟩;rcases hop with h|h
  ·rcases(DC k y hy).2.2 h with h|h
   ·exact h
   exact absurd h hn
  exact(DC k y hy).2.1 h
 refine⟨by simpa using hR,GZ,?_⟩;have Ws:((bb c is).ins++[D2]).length=(bb c is).ins.length+1:=by simp
 have wid:∀y:I3,bL y (bb c is).sets.length (bb c is).ins.length=true->bL y (bb c is).sets.length ((bb c is).ins++[D2]).length=true:=λy hy=>by
  rw[Ws];unfold bL;rcases cK hy with ⟨e,g1,g2,g3⟩|⟨e,g1,g2,g3,g4⟩|⟨e,g1,g2,g3⟩|⟨e,g1,g2⟩
  ·rw[if_pos e];exact decide_eq_true ⟨g1,g2,g3⟩
  ·rw[if_neg (by omega),if_pos e];exact decide_eq_true ⟨⟨by omega,by omega⟩,by omega,by omega⟩
  ·rw[if_neg (by omega),if_neg (by omega),if_pos e];exact decide_eq_true ⟨⟨by omega,by omega⟩,by omega⟩
  rw[if_neg (by omega),if_neg (by omega),if_neg (by omega),if_pos e];exact decide_eq_true ⟨g1,g2⟩
 refine⟨by dsimp only;omega,by dsimp only;omega,by dsimp only;omega,λk y hy=>?_,λk y hy hop=>?_,hsr⟩
 ·dsimp only at hy ⊢
  rcases Nat.lt_or_ge k (bb c is).ins.length with h|h
  ·rw[List.getElem?_append_left h]at hy;exact wid y (DC k y hy).1
  rw[List.getElem?_append_right h]at hy;have:k-(bb c is).ins.length=0:=by
   have:=(List.getElem?_eq_some_iff.1 hy).1;simp at this;omega
  rw[this]at hy;cases hy;rfl
 dsimp only at hy ⊢
 rw[Ws];rcases Nat.lt_or_ge k (bb c is).ins.length with h|h
 ·omega
 rw[List.getElem?_append_right h]at hy;have:k-(bb c is).ins.length=0:=by
  have:=(List.getElem?_eq_some_iff.1 hy).1;simp at this;omega
 rw[this]at hy;cases hy;exact absurd hop (by simp[D2])
end Cae
namespace Go.Proofs.YtemjejfpadnljaaGreatDoor
open Go.Vc Go.Proofs Go.RowKit Cae
attribute [local irreducible] cZ ab ai aX runK ar Sl Vc.Own vc aS bu aZ
def bA (r:Rg):List Value:=[.int .i64 r.1,.int .i64 r.2]
theorem DX (last:Int)(r:Rg)(s:List Rg):aO last (r::s)=if r.1<=last+1\/r.2<r.1\/1114111<r.2 then false else aO r.2 s:=rfl
theorem tT (s:List Rg)(hs:s.length<1000000000)(X:Nat->Prop)(v:Value)(w:World)(hv:Sl X 2 (En bA) w v s) :
  ar Tryz.prog 125 [v] w λr w'=>r=.bool (aO (-2) s)/\Below w.heap.size w w':=by
 obtain⟨a,c,rfl,hc⟩:=hv.shape;refine aE Tryz.func125 rfl (by kernel_rfl) [2] rfl ?_;push_cast -dsimp(maxSteps:=9^7) [Tryz.ntmps125];refine aK [2,3,5,8,9,10,11,12,13,14,15,16,17,18,19,20,21,22,23,24,25,26,27,28,29,30,31] (λz wx=>∃(i:Nat) (last:Int),z 8=.int .i64 i/\z 3=.int .i64 last/\i<=s.length/\(-2<=last/\last<=1114111)/\aO last (s.drop i)=aO (-2) s/\Below w.heap.size w wx) (λz _=>s.length-(intOf (z 8)).toNat) ?_ ?_
 ·exact⟨0,-2,rfl,rfl,Nat.zero_le _,by omega,rfl,Below.refl _ _⟩
 intro z wx hI;obtain⟨i,last,h8,h3,hi,hl,hd,hb⟩:=hI;push_cast -dsimp[h8,h3];refine⟨λao=>?_,λeY=>?_⟩
 ·obtain⟨x,hx,mR,hdx,ht⟩:=ae (l:=s) (i:=i) (by omega);obtain⟨b,o,rfl,hX,aP⟩:=(hv.below hb).get hx;have c0:aB wx ⟨b,o+i*2,none⟩ 0 2=some [.int .i64 x.1,.int .i64 x.2]:=aj (bA x) 0 (λj u hu=>by simpa using aP j u hu);push_cast -dsimp[c0];refine⟨⟨by omega,by omega⟩,?_⟩;refine aq (z:=[.int .i64 0,.int .i64 0]) (by kernel_rfl) ?_;intro w1 aU;push_cast -dsimp;refine aH (n:=2) (by kernel_rfl) aU.aL rfl (by simp) (by simp[Value.oneCell']) ?_;intro w2 bJ;have c1:w2.cell? ⟨wx.heap.size,0,none⟩=some (.int .i64 x.1):=bJ.aL.cell rfl;have c2:w2.cell? ⟨wx.heap.size,1,none⟩=some (.int .i64 x.2):=bJ.aL.cell rfl;have dh:Below w.heap.size w w2:=hb.trans ((aU.below.mono hb.size).trans (bJ.kept.below (by have:=aU.size;have:=hb.size;omega) (λ_ h=>by have:=hb.size;omega)));rw[hdx,DX]at hd;push_cast -dsimp[c1,c2];refine⟨⟨by omega,by omega⟩,λh1=>⟨λh2=>⟨λh3=>?_,λh3=>?_⟩,λh2=>?_⟩,λh1=>?_⟩
  ·rw[if_pos (by omega)]at hd;exact⟨by rw[hd],dh⟩
  ·rw[if_neg (by omega)]at hd;exact⟨⟨by omega,by omega⟩,⟨i+1,x.2,rfl,rfl,by omega,by omega,hd,dh⟩,by rw[h8];simp only[intOf];omega⟩
  ·rw[if_pos (by omega)]at hd;exact⟨by rw[hd],dh⟩
  rw[if_pos (by omega)]at hd;exact⟨by rw[hd],dh⟩
 rw[List.drop_eq_nil_of_le (by omega)]at hd;exact⟨by rw[<-hd];rfl,hb⟩
end Go.Proofs.YtemjejfpadnljaaGreatDoor
namespace Go.Proofs.YtemjejfpadnljaaGreatDoor
open Go.Vc Go.Proofs Go.RowKit Cae
def Arg (v:Value):Prop:=∀n c,v=.slice none n c->n=0/\c=0
theorem iM:∀x,∀u∈bA x,u.oneCell'=true:=by simp[bA,Value.oneCell']
end Go.Proofs.YtemjejfpadnljaaGreatDoor
namespace Cae
def inB (l:List Rg)(p:Int):Bool:=decide (0<=p/\p<=1114111) && fA l p
theorem mN (p:Int):fA [] p=false:=rfl
theorem cC (r:Rg)(s:List Rg)(p:Int):fA (r::s) p=(decide (r.1<=p/\p<=r.2) || fA s p):=by unfold fA;rw[List.any_cons]
theorem uK (a b:List Rg)(p:Int):fA (a++b) p=(fA a p || fA b p):=by unfold fA;rw[List.any_append]
theorem ni:∀{s:List Rg} {a b:Int},b<=a->aO a s=true->aO b s=true
 | [],_,_,_,_=>rfl
 | r::s,a,b,h,hs=>by
  unfold aO at hs ⊢
  split at hs
  ·cases hs
  rw[if_neg (by omega)];exact hs
theorem br {r:Rg}{s:List Rg}{a:Int}:aO a (r::s)=true↔(a+1<r.1/\r.1<=r.2/\r.2<=1114111)/\aO r.2 s=true:=by
 rw[aO];split
 ·constructor
  ·intro h;cases h
  rintro⟨h,_⟩;omega
 constructor
 ·intro h;exact⟨by omega,h⟩
 exact λh=>h.2
theorem rP:∀{s:List Rg} {a p:Int},aO a s=true->fA s p=true->a+1<p/\p<=1114111
 | [],_,_,_,h=>by cases h
 | r::s,a,p,hs,h=>by
  rw[br]at hs;rw[cC,Bool.or_eq_true,decide_eq_true_eq]at h;rcases h with h|h
  ·omega
  have:=rP hs.2 h;omega
theorem uL {s:List Rg}{a p:Int}(hs:aO a s=true)(hp:p<=a+1):fA s p=false:=by
 cases h:fA s p with
 | false=>rfl
 | true=>have:=rP hs h;omega
theorem PK:∀{s t:List Rg} {a b:Int},aO a s=true->aO b t=true->(∀p,fA s p=fA t p)->s=t
 | [],[],_,_,_,_,_=>rfl
 | [],q::t,_,_,_,ht,h=>by
  rw[br]at ht
  have:=h q.1;rw[cC,decide_eq_true (by omega)]at this;cases this
 | r::s,[],_,_,hs,_,h=>by
  rw[br]at hs
  have:=h r.1;rw[cC,decide_eq_true (by omega)]at this;cases this
 | r::s,q::t,a,b,hs,ht,h=>by
  have RV:=br.1 hs;have OR:=br.1 ht;obtain⟨⟨s1,s2,s3⟩,s4⟩:=RV;obtain⟨⟨t1,t2,t3⟩,t4⟩:=OR;have e1:r.1=q.1:=by
   have h1:=h r.1;rw[cC r,decide_eq_true (by omega),Bool.true_or]at h1;have h2:=h q.1;rw[cC q,decide_eq_true (p:=q.1<=q.1/\q.1<=q.2) (by omega),Bool.true_or]at h2;rcases Int.lt_trichotomy r.1 q.1 with ao|heq|H3
   ·have h1:=h1.symm;rw[cC,decide_eq_false (by omega),Bool.false_or]at h1
    have:=rP t4 h1;omega
   ·exact heq
   rw[cC,decide_eq_false (by omega),Bool.false_or]at h2
   have:=rP s4 h2;omega
  have e2:r.2=q.2:=by
   rcases Int.lt_trichotomy r.2 q.2 with ao|heq|H3
   ·have h1:=h (r.2+1);rw[cC,cC,decide_eq_false (by omega),uL s4 (by omega),decide_eq_true (by omega)]at h1;cases h1
   ·exact heq
   have h1:=h (q.2+1);rw[cC,cC,decide_eq_true (by omega),uL t4 (by omega),decide_eq_false (by omega)]at h1;cases h1
  have e:r=q:=Prod.ext e1 e2;subst e;congr 1;refine PK s4 t4 (λp=>?_);by_cases hp:p<=r.2+1
  ·rw[uL s4 hp,uL t4 hp]
  have:=h p;rw[cC,cC,decide_eq_false (by omega),Bool.false_or,Bool.false_or]at this;exact this
def gD (out:List Rg)(r:Rg):List Rg :=
 if min r.2 1114111<max r.1 0 then out
 else match out.getLast? with
  | none=>[(max r.1 0,min r.2 1114111)]
  | some q=>if max r.1 0<=q.2+1 then out.dropLast++[(q.1,max q.2 (min r.2 1114111))] else out++[(max r.1 0,min r.2 1114111)]
def Ag (a:Int):List Rg->Int
 | []=>a
 | r::s=>Ag r.2 s
theorem x8 (a:Int):∀(s:List Rg) (r:Rg),Ag a (s++[r])=r.2
 | [],r=>rfl
 | q::s,r=>by rw[List.cons_append,Ag,x8]
theorem jw (r:Rg):∀(s:List Rg) (a:Int),aO a (s++[r])=true↔aO a s=true/\Ag a s+1<r.1/\r.1<=r.2/\r.2<=1114111
 | [],a=>by
  rw[List.nil_append,br];exact⟨λh=>⟨rfl,h.1⟩,λh=>⟨h.2,rfl⟩⟩
 | q::s,a=>by
  rw[List.cons_append,br,br,jw r s q.2,Ag];exact⟨λh=>⟨⟨h.1,h.2.1⟩,h.2.2⟩,λh=>⟨h.1.1,h.1.2,h.2⟩⟩
structure Hg (out done:List Rg):Prop where
 right:aO (-2) out=true
 has:∀p,fA out p=inB done p
theorem u6 (l:List Rg)(r:Rg)(p:Int):inB (l++[r]) p=(inB l p || decide (max r.1 0<=p/\p<=min r.2 1114111)):=by
 unfold inB;rw[uK,cC,mN,Bool.or_false];by_cases h:0<=p/\p<=1114111
 ·rw[decide_eq_true h,Bool.true_and,Bool.true_and];congr 1;rw[decide_eq_decide];omega
 rw[decide_eq_false h,Bool.false_and,Bool.false_and,decide_eq_false (by omega)];rfl
theorem Ml {out done:List Rg}{r:Rg}(h:Hg out done)(AV:∀q∈out,q.1<=max r.1 0):Hg (gD out r) (done++[r]):=by
 unfold gD;split
 ·rename_i ao;refine⟨h.right,λp=>?_⟩;rw[u6,h.has,decide_eq_false (by omega),Bool.or_false]
 rename_i eY;split
 ·rename_i hn;have:out=[]:=by simpa using hn
  subst this;refine⟨br.2 ⟨⟨by omega,by omega,by omega⟩,rfl⟩,λp=>?_⟩;rw[u6,<-h.has,cC];rw[mN,Bool.or_false,Bool.false_or]
 rename_i q hq;have sK:out=out.dropLast++[q]:=by
  have cY:out≠[]:=λe=>by subst e;simp at hq
  have:=List.dropLast_concat_getLast cY;rw[List.getLast?_eq_some_getLast cY]at hq;cases hq;exact this.symm
 have hqm:q∈out:=by rw[sK];simp
 have hql:=AV q hqm;have hr:=h.right;rw[sK,jw]at hr;obtain⟨r1,r2,r3,r4⟩:=hr;split
 ·rename_i hm;refine⟨(jw _ _ _).2 ⟨r1,by dsimp only;omega,by dsimp only;omega,by dsimp only;omega⟩,λp=>?_⟩;rw[u6,<-h.has,uK]
  conv=>rhs;rw[sK,uK]
  rw[cC,cC,mN,Bool.or_false,Bool.or_false,Bool.or_assoc];congr 1;rw[<-Bool.decide_or,decide_eq_decide];dsimp only;omega
 rename_i hm;refine⟨(jw _ _ _).2 ⟨h.right,?_,by dsimp only;omega,by dsimp only;omega⟩,λp=>?_⟩
 ·rw[sK,x8];dsimp only;omega
 rw[u6,<-h.has,uK,cC,mN,Bool.or_false]
theorem SS {out:List Rg}{r:Rg}{m:Int}(AV:∀q∈out,q.1<=m)(hr:max r.1 0<=m):∀q∈gD out r,q.1<=m:=by
 intro q hq;unfold gD at hq;split at hq
 ·exact AV q hq
 split at hq
 ·simp at hq;subst hq;exact hr
 rename_i q' hq';have hqm:q'∈out:=List.mem_of_getLast? hq';split at hq
 ·rcases List.mem_append.1 hq with h|h
  ·exact AV q (List.dropLast_subset _ h)
  simp at h;subst h;exact AV q' hqm
 rcases List.mem_append.1 hq with h|h
 ·exact AV q h
 simp at h;subst h;exact hr
def iu (l:List Rg):List Rg:=l.foldl gD []
def zI (l:List Rg):Prop:=l.Pairwise λa b=>a.1<=b.1
theorem tL:∀(n:Nat) (l:List Rg),zI l->n<=l.length->Hg (iu (l.take n)) (l.take n)/\∀q∈iu (l.take n),∀(i:Nat) (r:Rg),n<=i->l[i]?=some r->q.1<=max r.1 0
 | 0,l,_,_=>⟨⟨rfl,λp=>by rw[List.take_zero];unfold inB;rw[mN,Bool.and_false];rfl⟩,λq hq=>by rw[List.take_zero]at hq;cases hq⟩
 | n+1,l,hR,hn=>by
  obtain⟨h1,h2⟩:=tL n l hR (by omega);have hx:=List.getElem?_eq_getElem (l:=l) (i:=n) (by omega);have e:l.take (n+1)=l.take n++[l[n]]:=by rw[List.take_add_one,hx];rfl
  have ef:iu (l.take (n+1))=gD (iu (l.take n)) l[n]:=by unfold iu;rw[e,List.foldl_append];rfl
  rw[ef,e];refine⟨Ml h1 (λq hq=>h2 q hq n _ (Nat.le_refl _) hx),λq hq i r hi hr=>?_⟩;have ao:=(List.getElem?_eq_some_iff.1 hr).1;have hle:l[n].1<=r.1:=by
   have:=List.pairwise_iff_getElem.1 hR n i (by omega) ao (by omega);rw[List.getElem?_eq_getElem ao]at hr;cases hr;exact this
  exact SS (m:=max r.1 0) (λq hq=>h2 q hq i r (by omega) hr) (by omega) q hq
theorem xi {l:List Rg}(hR:zI l):Hg (iu l) l:=by
 have:=(tL l.length l hR (Nat.le_refl _)).1;rwa [List.take_length]at this
def setOf (l:List Rg):List Rg:=iu (l.mergeSort λa b=>decide (a.1<=b.1))
theorem Da {l m:List Rg}(h:l.Perm m)(p:Int):fA l p=fA m p:=by
 unfold fA;rw[Bool.eq_iff_iff,List.any_eq_true,List.any_eq_true];exact⟨λ⟨r,h1,h2⟩=>⟨r,h.mem_iff.1 h1,h2⟩,λ⟨r,h1,h2⟩=>⟨r,h.mem_iff.2 h1,h2⟩⟩
theorem Bg (l:List Rg):Hg (setOf l) l:=by
 have hs:zI (l.mergeSort λa b=>decide (a.1<=b.1)):=by
  have:=List.pairwise_mergeSort (le:=λ(a b:Rg)=>decide (a.1<=b.1)) (λa b c h1 h2=>by simp only[decide_eq_true_eq]at *;omega) (λa b=>by simp only[Bool.or_eq_true,decide_eq_true_eq];omega) l;exact this.imp λh=>by simpa using h
 have h:=xi hs;refine⟨h.right,λp=>(h.has p).trans ?_⟩;unfold inB;rw[Da (List.mergeSort_perm l _)]
theorem TI {l m:List Rg}(hp:m.Perm l)(hR:zI m):iu m=setOf l:=by
 have h1:=xi hR;have h2:=Bg l;refine PK h1.right h2.right (λp=>?_);rw[h1.has,h2.has];unfold inB;rw[Da hp]
def oN:Int->List Rg->List Rg
 | f,[]=>if f<=1114111 then [(f,1114111)] else []
 | f,r::s=>(if f<r.1 then [(f,r.1-1)] else [])++oN (r.2+1) s
def gr (s:List Rg):List Rg:=oN 0 s
theorem Ay:∀(s:List Rg) (f:Int),aO (f-2) s=true->aO (f-2) (oN f s)=true/\∀p,fA (oN f s) p=(decide (f<=p/\p<=1114111) && !fA s p)
 | [],f,_=>by
  rw[oN];split
  ·refine⟨br.2 ⟨⟨by dsimp only;omega,by dsimp only;omega,by dsimp only;omega⟩,rfl⟩,λp=>?_⟩;rw[cC,mN,Bool.or_false,Bool.not_false,Bool.and_true]
  refine⟨rfl,λp=>?_⟩;rw[mN,decide_eq_false (by omega),Bool.false_and]
 | r::s,f,h=>by
  rw[br]at h;obtain⟨⟨h1,h2,h3⟩,h4⟩:=h;obtain⟨i1,i2⟩:=Ay s (r.2+1) (ni (by omega) h4);rw[oN];have key:∀p,(decide (f<=p/\p<=r.1-1) || fA (oN (r.2+1) s) p)=(decide (f<=p/\p<=1114111) && !fA (r::s) p):=λp=>by
   rw[i2,cC,Bool.not_or];by_cases hp:p<=r.2+1
   ·rw[uL h4 hp];simp only[Bool.not_false,Bool.and_true];rw[<-Bool.decide_or,<-decide_not,<-Bool.decide_and,decide_eq_decide];omega
   rw[decide_eq_false (p:=f<=p/\p<=r.1-1) (by omega),decide_eq_false (p:=r.1<=p/\p<=r.2) (by omega),Bool.false_or,Bool.not_false,Bool.true_and];congr 1;rw[decide_eq_decide];omega
  split
  ·refine⟨?_,λp=>?_⟩
   ·rw[List.singleton_append];exact br.2 ⟨⟨by dsimp only;omega,by dsimp only;omega,by dsimp only;omega⟩,ni (by dsimp only;omega) i1⟩
   rw[List.singleton_append,cC];exact key p
  refine⟨?_,λp=>?_⟩
  ·rw[List.nil_append];exact ni (by omega) i1
  rw[List.nil_append]
  have:=key p;rwa [decide_eq_false (p:=f<=p/\p<=r.1-1) (by omega),Bool.false_or]at this
theorem pW {s:List Rg}(h:aO (-2) s=true):aO (-2) (gr s)=true:=(Ay s 0 h).1
def Bh (s t:List Rg):List Rg:=setOf (s++t)
def Bf (s t:List Rg):List Rg:=gr (Bh (gr s) (gr t))
def yr (s t:List Rg):List Rg:=Bf s (gr t)
theorem rC (s t:List Rg):aO (-2) (Bh s t)=true:=(Bg _).right
theorem vL (s t:List Rg):aO (-2) (Bf s t)=true:=pW (rC _ _)
theorem DW (s t:List Rg):aO (-2) (yr s t)=true:=vL _ _
theorem Mm (out:List Rg)(r:Rg):(gD out r).length<=out.length+1:=by
 unfold gD;split
 ·omega
 split
 ·simp
 split
 ·simp only[List.length_append,List.length_dropLast,List.length_cons,List.length_nil];omega
 simp
theorem Az (l:List Rg):(iu l).length<=l.length:=by
 have key:∀(l out:List Rg),(l.foldl gD out).length<=out.length+l.length:=λl=>by
  induction l with
  | nil=>intro out;simp
  | cons r l ih =>
   intro out;rw[List.foldl_cons,List.length_cons]
   have:=ih (gD out r)
   have:=Mm out r;omega
 have:=key l [];unfold iu;simpa using this
theorem TJ (l:List Rg):(setOf l).length<=l.length:=by
 have:=Az (l.mergeSort λa b=>decide (a.1<=b.1));rwa [List.length_mergeSort]at this
theorem Dz:∀(s:List Rg) (f:Int),(oN f s).length<=s.length+1
 | [],f=>by rw[oN];split<;>simp
 | r::s,f=>by
  rw[oN,List.length_append,List.length_cons]
  have:=Dz s (r.2+1);split<;>simp<;>omega
theorem tS (s:List Rg):(gr s).length<=s.length+1:=Dz s 0
theorem TK (s t:List Rg):(Bh s t).length<=s.length+t.length:=by
 have:=TJ (s++t);rwa [List.length_append]at this
end Cae
