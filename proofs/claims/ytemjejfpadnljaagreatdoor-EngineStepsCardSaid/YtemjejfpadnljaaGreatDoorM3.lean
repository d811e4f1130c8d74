/- Texts of this claim, merged: P, Set, Arg, Pset. -/
import Derived.Test.YtemjejfpadnljaaGreatDoorM2
set_option maxRecDepth 100000
set_option linter.unusedSimpArgs false
set_option linter.unusedVariables false
set_option maxHeartbeats 8000000
section
section
namespace Cae
open Go Go.Vc
theorem wrap_i64 {n:Int}(h : -9223372036854775808<=n/\n<=9223372036854775807):IntKind.i64.wrap n=n:=by rw[IntKind.wrap_i64];omega
theorem cU {n:Nat}(h:n<9223372036854775808):IntKind.i64.wrap (n:Int)=n:=wrap_i64 (by omega)
theorem wrap_u8 (n:Int):IntKind.u8.wrap n=n % 256:=by simp[IntKind.wrap,IntKind.bits,IntKind.signed]
theorem fR (n:Nat):IntKind.u8.wrap (n:Int)=((n % 256:Nat):Int):=by rw[wrap_u8];omega
theorem eT (n:Nat):IntKind.u32.wrap (n:Int)=((n % 4294967296:Nat):Int):=by simp[IntKind.wrap,IntKind.bits,IntKind.signed]
theorem fQ (n:Nat):IntKind.u64.wrap (n:Int)=((n % 18446744073709551616:Nat):Int):=by simp[IntKind.wrap,IntKind.bits,IntKind.signed]
theorem ll (n x:Nat):BitVec.ofInt n (x:Int)=BitVec.ofNat n x:=by
 apply BitVec.eq_of_toNat_eq;simp
theorem Ks {x y n:Nat}(h:x<2 ^ n):x &&& y<2 ^ n:=Nat.lt_of_le_of_lt Nat.and_le_left h
theorem lL {x y:Nat}(hx:x<9223372036854775808)(hy:y<9223372036854775808):cD .and .i64 x y=((x &&& y:Nat):Int):=by
 simp only[cD,ll,BitVec.toNat_and,BitVec.toNat_ofNat];rw[Nat.mod_eq_of_lt (show x<2 ^ IntKind.i64.bits by show x<2 ^ 64;omega),Nat.mod_eq_of_lt (show y<2 ^ IntKind.i64.bits by show y<2 ^ 64;omega)]
 exact cU (Ks (n:=63) hx)
theorem kA {x y:Nat}(hx:x<9223372036854775808)(hy:y<9223372036854775808):cD .or .i64 x y=((x ||| y:Nat):Int):=by
 simp only[cD,ll,BitVec.toNat_or,BitVec.toNat_ofNat];rw[Nat.mod_eq_of_lt (show x<2 ^ IntKind.i64.bits by show x<2 ^ 64;omega),Nat.mod_eq_of_lt (show y<2 ^ IntKind.i64.bits by show y<2 ^ 64;omega)]
 exact cU (Nat.or_lt_two_pow (n:=63) hx hy)
theorem qA {x y:Nat}(hx:x<256)(hy:y<256):cD .and .u8 x y=((x &&& y:Nat):Int):=by
 simp only[cD,ll,BitVec.toNat_and,BitVec.toNat_ofNat];rw[Nat.mod_eq_of_lt (show x<2 ^ IntKind.u8.bits by show x<2 ^ 8;omega),Nat.mod_eq_of_lt (show y<2 ^ IntKind.u8.bits by show y<2 ^ 8;omega),fR,Nat.mod_eq_of_lt (Ks (n:=8) hx)]
theorem Kx {x y:Nat}(hx:x<256)(hy:y<256):cD .or .u8 x y=((x ||| y:Nat):Int):=by
 simp only[cD,ll,BitVec.toNat_or,BitVec.toNat_ofNat];rw[Nat.mod_eq_of_lt (show x<2 ^ IntKind.u8.bits by show x<2 ^ 8;omega),Nat.mod_eq_of_lt (show y<2 ^ IntKind.u8.bits by show y<2 ^ 8;omega),fR,Nat.mod_eq_of_lt (Nat.or_lt_two_pow (n:=8) hx hy)]
theorem lz (x k:Nat):x &&& (2 ^ k-1)=x % 2 ^ k:=Nat.and_two_pow_sub_one_eq_mod x k
theorem pG {p x k:Nat}(h:x<2 ^ k):p*2 ^ k ||| x=p*2 ^ k+x:=by
 rw[Nat.mul_comm];exact(Nat.two_pow_add_eq_or_of_lt h p).symm
theorem aBU {p k:Nat}{b:Int}(hb:b.toNat=k)(hk:k<=64)(h:p*2 ^ k<9223372036854775808):IntKind.i64.wrap ((p:Int)*2 ^ min b.toNat IntKind.i64.bits)=((p*2 ^ k:Nat):Int):=by
 rw[hb,show min k IntKind.i64.bits=k from Nat.min_eq_left hk]
 rw[show ((p:Int)*2 ^ k)=((p*2 ^ k:Nat):Int) by first|(push_cast;done)|(push_cast;rfl)]
 exact cU h
theorem yi {p k:Nat}{b:Int}{kd:IntKind}(hb:b.toNat=k)(hk:k<=kd.bits):((p:Int).fdiv (2 ^ min b.toNat kd.bits))=((p / 2 ^ k:Nat):Int):=by
 rw[hb,Nat.min_eq_left hk];rw[show (2:Int) ^ k=((2 ^ k:Nat):Int) by first|(push_cast;done)|(push_cast;rfl),Int.fdiv_eq_ediv_of_nonneg _ (Int.natCast_nonneg _)]
 rfl
abbrev Rg:=Int×Int
structure I3 where
 op:Int
 a:Int
 b:Int
 deriving DecidableEq
structure aD where
 sets:List (List Rg)
 ins:List I3
 deriving DecidableEq
def aO:Int->List Rg->Bool
 | _,[]=>true
 | last,r::s=>if r.1<=last+1\/r.2<r.1\/1114111<r.2 then false else aO r.2 s
def ew (s:List Rg)(p:Int):Bool:=s.any λr=>decide (r.1<=p/\p<=r.2)
def bJ (x:I3)(sets n:Int):Bool :=
 if x.op=1 then decide (0<=x.a/\x.a<sets/\x.b=0)
 else if x.op=2 then decide ((0<=x.a/\x.a<n)/\(0<=x.b/\x.b<n))
 else if x.op=3 then decide ((0<=x.a/\x.a<n)/\x.b=0)
 else if x.op=4\/x.op=5 then decide (x.a=0/\x.b=0)
 else false
def aS (c:aD):Bool :=
 decide (1<=c.ins.length/\c.ins.length<=2000/\c.sets.length<=2000) &&
 (match c.ins[c.ins.length-1]? with|some x=>decide (x.op≠1/\x.op≠4)|none=>false) &&
 c.ins.all (λx=>bJ x c.sets.length c.ins.length) && c.sets.all (aO (-2))
theorem bx:∀(s:List Rg) (last:Int),aO last s=true->∀(i:Nat) (r:Rg),s[i]?=some r->last+1<r.1/\r.1<=r.2/\r.2<=1114111/\∀(j:Nat) (q:Rg),i<j->s[j]?=some q->r.2+1<q.1
 | [],_,_,i,r,hr=>by simp at hr
 | x::s,last,h,i,r,hr=>by
  unfold aO at h;split at h
  ·cases h
  rename_i hx;have ih:=bx s x.2 h;cases i with
  | zero =>
   simp at hr;subst hr;refine⟨by omega,by omega,by omega,λj q hj hq=>?_⟩;obtain⟨k,rfl⟩:∃k,j=k+1:=⟨j-1,by omega⟩;exact(ih k q (by simpa using hq)).1
  | succ i =>
   have jK:s[i]?=some r:=by simpa using hr
   obtain⟨h1,h2,h3,h4⟩:=ih i r jK;refine⟨by omega,h2,h3,λj q hj hq=>?_⟩;obtain⟨k,rfl⟩:∃k,j=k+1:=⟨j-1,by omega⟩;exact h4 k q (by omega) (by simpa using hq)
def jM (q:List Nat)(k:Nat):List Nat:=if k∈q then q else q++[k]
inductive Lk
 | yes (st:Nat)
 | no (q nx:List Nat) (st:Nat)
def fA (c:aD)(cur:Option Int)(x:I3)(at_:Nat)(q nx:List Nat):List Nat×List Nat :=
 if x.op=2 then (jM (jM q x.a.toNat) x.b.toNat,nx)
 else if x.op=3 then (jM q x.a.toNat,nx)
 else if x.op=4 then (if cur.isNone then jM q (at_+1) else q,nx)
 else match cur with
  | some p=>(q,if ew (c.sets.getD x.a.toNat []) p then jM nx (at_+1) else nx)
  | none=>(q,nx)
def inner (c:aD)(cur:Option Int):Nat->List Nat->Nat->List Nat->Nat->Lk
 | 0,q,_,nx,st=>.no q nx st
 | f+1,q,k,nx,st=>match q[k]? with
  | none=>.no q nx st
  | some at_=>match c.ins[at_]? with
   | none=>.no q nx st
   | some x=>if x.op=5 then .yes (st+1)
    else inner c cur f (fA c cur x at_ q nx).1 (k+1) (fA c cur x at_ q nx).2 (st+1)
def outer (c:aD):List Int->List Nat->Nat->Bool×Nat
 | [],q,st=>match inner c none (c.ins.length+1) q 0 [] st with
  | .yes Jv=>(true,Jv)
  | .no _ _ Jv=>(false,Jv)
 | p::ps,q,st=>match inner c (some p) (c.ins.length+1) q 0 [] st with
  | .yes Jv=>(true,Jv)
  | .no _ nx Jv=>if nx=[] then (false,Jv) else outer c ps nx Jv
def e9 (c:aD)(ps:List Int):Bool×Nat:=outer c ps [0] 0
def bb (n:Nat)(q:List Nat):Prop:=q.Nodup/\∀k∈q,k<n
theorem bb.add {n:Nat}{q:List Nat}{k:Nat}(h:bb n q)(hk:k<n):bb n (jM q k):=by
 unfold jM;split
 ·exact h
 rename_i hn;refine⟨?_,λj hj=>?_⟩
 ·rw[List.nodup_append];exact⟨h.1,by simp,λa ha b hb=>by rw[List.mem_singleton]at hb;subst hb;intro e;subst e;exact hn ha⟩
 rw[List.mem_append,List.mem_singleton]at hj;rcases hj with hj|rfl
 ·exact h.2 j hj
 exact hk
theorem bb.nil (n:Nat):bb n []:=⟨List.nodup_nil,λ_ h=>by cases h⟩
theorem bb.one {n k:Nat}(h:k<n):bb n [k]:=⟨by simp,λj hj=>by rw[List.mem_singleton]at hj;omega⟩
theorem nH:∀(n:Nat) (q:List Nat),q.Nodup->(∀k∈q,k<n)->q.length<=n
 | 0,[],_,_=>Nat.le_refl _
 | 0,x::q,_,h=>absurd (h x (by simp)) (by omega)
 | n+1,q,h1,h2=>by
  have h3:=nH n (q.erase n) (h1.erase n) (λk hk=>by
   have:=(h1.mem_erase_iff).1 hk
   have:=h2 k this.2;omega)
  rw[List.length_erase]at h3;split at h3<;>omega
theorem bb.len {n:Nat}{q:List Nat}(h:bb n q):q.length<=n:=nH n q h.1 h.2
structure CR (c:aD):Prop where
 one:1<=c.ins.length
 many:c.ins.length<=2000
 sets:c.sets.length<=2000
 ins:∀(i:Nat) (x:I3),c.ins[i]?=some x->bJ x c.sets.length c.ins.length=true
 next:∀(i:Nat) (x:I3),c.ins[i]?=some x->(x.op=1\/x.op=4)->i+1<c.ins.length
 set:∀s∈c.sets,aO (-2) s=true
theorem CR.of {c:aD}(h:aS c=true):CR c:=by
 unfold aS at h;simp only[Bool.and_eq_true,decide_eq_true_eq,List.all_eq_true]at h;obtain⟨⟨⟨⟨h1,h2,h3⟩,hl⟩,hi⟩,hs⟩:=h;refine⟨h1,h2,h3,λi x hx=>hi x (List.mem_of_getElem? hx),λi x hx hop=>?_,hs⟩;have aj:=(List.getElem?_eq_some_iff.1 hx).1;rcases Nat.lt_or_ge (i+1) c.ins.length with h|h
 ·exact h
 have e:i=c.ins.length-1:=by omega
 subst e;rw[hx]at hl;simp only[decide_eq_true_eq]at hl;rcases hop with h|h
 ·exact absurd h hl.1
 exact absurd h hl.2
theorem cJ {x:I3}{s n:Int}(h:bJ x s n=true) :
  (x.op=1/\0<=x.a/\x.a<s/\x.b=0)\/(x.op=2/\0<=x.a/\x.a<n/\0<=x.b/\x.b<n)\/(x.op=3/\0<=x.a/\x.a<n/\x.b=0)\/((x.op=4\/x.op=5)/\x.a=0/\x.b=0):=by
 unfold bJ at h;split at h
 ·rename_i e;simp only[decide_eq_true_eq]at h;exact .inl ⟨e,h⟩
 split at h
 ·rename_i e;simp only[decide_eq_true_eq]at h;exact .inr (.inl ⟨e,h.1.1,h.1.2,h.2⟩)
 split at h
 ·rename_i e;simp only[decide_eq_true_eq]at h;exact .inr (.inr (.inl ⟨e,h.1.1,h.1.2,h.2⟩))
 split at h
 ·rename_i e;simp only[decide_eq_true_eq]at h;exact .inr (.inr (.inr ⟨e,h⟩))
 cases h
theorem tz {c:aD}(hc:CR c){cur:Option Int}{x:I3}{at_:Nat}{q nx:List Nat}(hx:c.ins[at_]?=some x)(h5:x.op≠5)(hq:bb c.ins.length q)(hn:bb c.ins.length nx) :
  bb c.ins.length (fA c cur x at_ q nx).1/\bb c.ins.length (fA c cur x at_ q nx).2:=by
 have hr:=cJ (hc.ins at_ x hx);have jC:=hc.next at_ x hx;unfold fA;rcases hr with ⟨e,h1,h2,h3⟩|⟨e,h1,h2,h3,h4⟩|⟨e,h1,h2,h3⟩|⟨e|e,h1,h2⟩
 ·rw[if_neg (by omega),if_neg (by omega),if_neg (by omega)];cases cur with
  | none=>exact⟨hq,hn⟩
  | some p =>
   refine⟨hq,?_⟩;dsimp only;split
   ·exact hn.add (jC (.inl e))
   exact hn
 ·rw[if_pos e];exact⟨(hq.add (by omega)).add (by omega),hn⟩
 ·rw[if_neg (by omega),if_pos e];exact⟨hq.add (by omega),hn⟩
 ·rw[if_neg (by omega),if_neg (by omega),if_pos e];refine⟨?_,hn⟩;dsimp only;split
  ·exact hq.add (jC (.inr e))
  exact hq
 exact absurd e h5
theorem tc (q:List Nat)(k:Nat):q.length<=(jM q k).length:=by
 unfold jM;split
 ·exact Nat.le_refl _
 simp
theorem RC {c:aD}{cur:Option Int}{f:Nat}{q:List Nat}{k:Nat}{nx:List Nat}{st at_:Nat}{x:I3}(h1:q[k]?=some at_)(h2:c.ins[at_]?=some x)(h5:x.op=5):inner c cur (f+1) q k nx st=.yes (st+1):=by
 rw[inner,h1];dsimp only;rw[h2];dsimp only;rw[if_pos h5]
theorem oo {c:aD}{cur:Option Int}{f:Nat}{q:List Nat}{k:Nat}{nx:List Nat}{st at_:Nat}{x:I3}(h1:q[k]?=some at_)(h2:c.ins[at_]?=some x)(h5:x.op≠5) :
  inner c cur (f+1) q k nx st=inner c cur f (fA c cur x at_ q nx).1 (k+1) (fA c cur x at_ q nx).2 (st+1):=by
 rw[inner,h1];dsimp only;rw[h2];dsimp only;rw[if_neg h5]
theorem RB {c:aD}{cur:Option Int}{f:Nat}{q:List Nat}{k:Nat}{nx:List Nat}{st:Nat}(h1:q[k]?=none):inner c cur (f+1) q k nx st=.no q nx st:=by
 rw[inner,h1]
theorem X6 (c:aD)(ps:List Int)(i:Nat)(q:List Nat)(st:Nat)(hi:i<=ps.length):outer c (ps.drop i) q st =
  match inner c ps[i]? (c.ins.length+1) q 0 [] st with
  | .yes Jv=>(true,Jv)
  | .no _ nx Jv=>if ps.length<=i\/nx=[] then (false,Jv) else outer c (ps.drop (i+1)) nx Jv:=by
 rcases Nat.lt_or_ge i ps.length with h|h
 ·rw[List.drop_eq_getElem_cons h,List.getElem?_eq_getElem h,outer];split
  ·rfl
  split
  ·rename_i e;rw[if_pos (.inr e)]
  rename_i e;rw[if_neg (by intro h';rcases h' with h'|h';omega;exact e h')]
 rw[List.drop_eq_nil_of_le h,List.getElem?_eq_none h,outer];split
 ·rfl
 rw[if_pos (.inl h)]
theorem uV {c:aD}(hc:CR c){cur:Option Int}:∀(f:Nat) (q:List Nat) (k:Nat) (nx:List Nat) (st:Nat),bb c.ins.length q->bb c.ins.length nx ->
  ∀q' Dg Jv,inner c cur f q k nx st=.no q' Dg Jv->bb c.ins.length q'/\bb c.ins.length Dg
 | 0,q,k,nx,st,hq,hn,q',Dg,Jv,h=>by
  rw[inner]at h;cases h;exact⟨hq,hn⟩
 | f+1,q,k,nx,st,hq,hn,q',Dg,Jv,h=>by
  rw[inner]at h;split at h
  ·cases h;exact⟨hq,hn⟩
  split at h
  ·cases h;exact⟨hq,hn⟩
  rename_i x hx;split at h
  ·cases h
  rename_i h5;obtain⟨h1,h2⟩:=tz hc (cur:=cur) hx h5 hq hn;exact uV hc f _ _ _ _ h1 h2 _ _ _ h
structure bV where
 brk:Bool
 before:aD
 after:aD
 deriving DecidableEq
structure bM where
 rules:List bV
 dD:Bool
 deriving DecidableEq
def bt (n:Nat):UInt8:=UInt8.ofNat n
theorem iJ {n:Nat}(h:n<256):(bt n).toNat=n:=by simp[bt];omega
def dw (n:Nat):List UInt8:=if n<128 then [bt n] else bt (n % 128+128)::dw (n / 128)
 termination_by n
 decreasing_by omega
def r7 (b:Bool):List UInt8:=[if b then 1 else 0]
def iw (r:Rg):List UInt8:=dw r.1.toNat++dw r.2.toNat
def pM (s:List Rg):List UInt8:=dw s.length++s.flatMap iw
def ri (x:I3):List UInt8:=dw x.op.toNat++dw x.a.toNat++dw x.b.toNat
def kp (c:aD):List UInt8:=dw c.sets.length++c.sets.flatMap pM++dw c.ins.length++c.ins.flatMap ri
def lG (r:bV):List UInt8:=r7 r.brk++kp r.before++kp r.after
def iD (p:bM):List UInt8:=r7 p.dD++dw p.rules.length++p.rules.flatMap lG
def pV:Nat->Nat->List UInt8->Nat×Nat
 | a,b,[]=>(a,b)
 | a,b,c::s=>pV ((a+c.toNat) % 65521) ((b+(a+c.toNat) % 65521) % 65521) s
def wJ (s:List UInt8):Nat:=(pV 1 0 s).2*65536+(pV 1 0 s).1
def Gv (u:Nat):List UInt8:=[bt (u % 256),bt (u / 256 % 256),bt (u / 65536 % 256),bt (u / 16777216 % 256)]
def iz (p:bM):List UInt8:=iD p++Gv (wJ (iD p))
def bB (p:bM):Bool:=decide (p.rules.length<=20) && p.rules.all λr=>aS r.before && aS r.after
theorem rN {n:Nat}(h:n<128):dw n=[bt n]:=by rw[dw,if_pos h]
theorem G4 {n:Nat}(h:¬n<128):dw n=bt (n % 128+128)::dw (n / 128):=by rw[dw,if_neg h]
theorem qe (n:Nat):1<=(dw n).length:=by
 rw[dw];split<;>simp
theorem JW:∀(k n:Nat),1<=k->n<128 ^ k->(dw n).length<=k
 | 0,_,h,_=>absurd h (by omega)
 | 1,n,_,h=>by rw[rN (by simpa using h)];simp
 | k+2,n,_,h=>by
  by_cases hn:n<128
  ·rw[rN hn];simp
  rw[G4 hn]
  have:=JW (k+1) (n / 128) (by omega) (by rw[Nat.pow_succ]at h;exact Nat.div_lt_of_lt_mul (by rw[Nat.mul_comm];exact h));simp only[List.length_cons];omega
def kH (bad:Bool):Nat->Nat->List UInt8->Nat×List UInt8×Bool
 | _,_,[]=>(0,[],true)
 | i,n,c::r=>if 4<=i then (0,[],true) else if c.toNat<128 then (n+c.toNat*128 ^ i,r,bad || (decide (0<i) && decide (c.toNat=0))) else kH bad (i+1) (n+c.toNat % 128*128 ^ i) r
structure St where
 s:List UInt8
 bad:Bool
 deriving DecidableEq
def dB (x:St):Nat×St:=((kH x.bad 0 0 x.s).1,⟨(kH x.bad 0 0 x.s).2.1,(kH x.bad 0 0 x.s).2.2⟩)
def cE (x:St):Nat×St:=if (dB x).2.s.length<(dB x).1 then (0,⟨(dB x).2.s,true⟩) else dB x
def eF (x:St):Bool×St:=(decide ((dB x).1=1),⟨(dB x).2.s,(dB x).2.bad || decide (1<(dB x).1)⟩)
def eV {α:Type}(f:St->α×St):Nat->St->List α×St
 | 0,x=>([],x)
 | n+1,x=>((f x).1::(eV f n (f x).2).1,(eV f n (f x).2).2)
def jk (x:St):Rg×St:=(((dB x).1,(dB (dB x).2).1),(dB (dB x).2).2)
def nZ (x:St):List Rg×St:=eV jk (cE x).1 (cE x).2
def tG (x:St):I3×St:=(⟨(dB x).1,(dB (dB x).2).1,(dB (dB (dB x).2).2).1⟩,(dB (dB (dB x).2).2).2)
def jE (x:St):List (List Rg)×St:=eV nZ (cE x).1 (cE x).2
def Du (x:St):List I3×St:=eV tG (cE x).1 (cE x).2
def gp (x:St):aD×St:=(⟨(jE x).1,(Du (jE x).2).1⟩,(Du (jE x).2).2)
def lH (x:St):bV×St:=(⟨(eF x).1,(gp (eF x).2).1,(gp (gp (eF x).2).2).1⟩,(gp (gp (eF x).2).2).2)
def BE (x:St):List bV×St:=eV lH (cE x).1 (cE x).2
def gL (x:St):bM×St:=(⟨(BE (eF x).2).1,(eF x).1⟩,(BE (eF x).2).2)
def sumOf (l:List UInt8):Nat:=(l.getD 0 0).toNat+(l.getD 1 0).toNat*256+(l.getD 2 0).toNat*65536+(l.getD 3 0).toNat*16777216
def qi (s:List UInt8):Option bM :=
 if s.length<4 then none
 else if wJ (s.take (s.length-4))≠sumOf (s.drop (s.length-4)) then none
 else let r:=gL ⟨s.take (s.length-4),false⟩
  if r.2.bad=true\/r.2.s≠[]\/bB r.1=false then none else some r.1
theorem Dw {α:Type}(f:St->α×St):∀n x,(eV f n x).1.length=n
 | 0,_=>rfl
 | n+1,x=>by simp only[eV,List.length_cons,Dw f n]
def yl {α:Type}(f:St->α×St)(enc:α->List UInt8)(v:α):Prop:=∀rest,f ⟨enc v++rest,false⟩=(v,⟨rest,false⟩)
theorem BC:∀(k i n m:Nat) (rest:List UInt8),i+k=4->m<128 ^ k->1<=k->(0<i->0<m)->kH false i n (dw m++rest)=(n+m*128 ^ i,rest,false)
 | 0,_,_,_,_,_,_,h,_=>absurd h (by omega)
 | k+1,i,n,m,rest,hi,hm,_,h0=>by
  by_cases h:m<128
  ·rw[rN h,List.singleton_append,kH,if_neg (by omega),iJ (by omega),if_pos h];congr 2;simp only[Bool.false_or,Bool.and_eq_false_iff,decide_eq_false_iff_not];by_cases hi0:0<i
   ·right;have:=h0 hi0;omega
   left;exact hi0
  rw[G4 h,List.cons_append,kH,if_neg (by omega),iJ (by omega),if_neg (by omega)];have hk:1<=k:=by
   rcases Nat.eq_zero_or_pos k with hk|hk
   ·subst hk;simp at hm;omega
   exact hk
  have eE:m / 128<128 ^ k:=by rw[Nat.pow_succ]at hm;exact Nat.div_lt_of_lt_mul (by rw[Nat.mul_comm];exact hm)
  rw[BC k (i+1) _ (m / 128) rest (by omega) eE hk (λ_=>by omega)];congr 1;rw[show (m % 128+128) % 128=m % 128 by omega,Nat.pow_succ]
  have e:m*128 ^ i=m % 128*128 ^ i+m / 128*(128 ^ i*128):=by
   rw[Nat.mul_comm (128 ^ i) 128,<-Nat.mul_assoc,<-Nat.add_mul];congr 1;omega
  omega
theorem jj {n:Nat}(h:n<268435456):yl dB dw n:=λrest=>by
 have:=BC 4 0 0 n rest rfl (by simpa using h) (by omega) (λh=>absurd h (by omega));simp only[dB,this];simp
theorem Dq (b:Bool):yl eF r7 b:=λrest=>by
 have h:∀n,n=0\/n=1->eF ⟨dw n++rest,false⟩=(decide (n=1),⟨rest,false⟩):=λn hn=>by
  simp only[eF];rw[jj (n:=n) (by omega) rest];rcases hn with rfl|rfl<;>rfl
 cases b with
 | true=>have:=h 1 (.inr rfl);rw[rN (by omega)]at this;exact this
 | false=>have:=h 0 (.inl rfl);rw[rN (by omega)]at this;exact this
theorem BB {α:Type}{f:St->α×St}{enc:α->List UInt8}:∀(l:List α),(∀v∈l,yl f enc v)->∀rest,eV f l.length ⟨l.flatMap enc++rest,false⟩=(l,⟨rest,false⟩)
 | [],_,rest=>rfl
 | v::l,h,rest=>by
  simp only[List.length_cons,eV,List.flatMap_cons,List.append_assoc];rw[h v (by simp)];simp only;rw[BB l (λu hu=>h u (by simp[hu])) rest]
theorem qH {α:Type}{enc:α->List UInt8}(h1:∀v,1<=(enc v).length):∀(l:List α),l.length<=(l.flatMap enc).length
 | []=>by simp
 | v::l=>by have:=qH h1 l;have:=h1 v;simp only[List.length_cons,List.flatMap_cons,List.length_append];omega
theorem j1 {α:Type}{f:St->α×St}{enc:α->List UInt8}(h1:∀v,1<=(enc v).length){l:List α}(hl:l.length<268435456)(h:∀v∈l,yl f enc v)(rest:List UInt8) :
  eV f (cE ⟨dw l.length++(l.flatMap enc++rest),false⟩).1 (cE ⟨dw l.length++(l.flatMap enc++rest),false⟩).2=(l,⟨rest,false⟩):=by
 have hm:cE ⟨dw l.length++(l.flatMap enc++rest),false⟩=(l.length,⟨l.flatMap enc++rest,false⟩):=by
  unfold cE;rw[jj hl]
  have:=qH h1 l;rw[if_neg (by simp only[List.length_append];omega)]
 rw[hm];exact BB l h rest
theorem Au (r:Rg):1<=(iw r).length:=by unfold iw;have:=qe r.1.toNat;simp only[List.length_append];omega
theorem YO (s:List Rg):1<=(pM s).length:=by unfold pM;have:=qe s.length;simp only[List.length_append];omega
theorem Wh (x:I3):1<=(ri x).length:=by unfold ri;have:=qe x.op.toNat;simp only[List.length_append];omega
theorem SB (r:bV):1<=(lG r).length:=by unfold lG r7;simp only[List.length_append,List.length_cons];omega
theorem Jg {r:Rg}(h1:0<=r.1/\r.1<=1114111)(h2:0<=r.2/\r.2<=1114111):yl jk iw r:=λrest=>by
 simp only[jk,iw,List.append_assoc];rw[jj (n:=r.1.toNat) (by omega)];simp only;rw[jj (n:=r.2.toNat) (by omega)];obtain⟨a,b⟩:=r;simp only at h1 h2 ⊢
 rw[Int.toNat_of_nonneg h1.1,Int.toNat_of_nonneg h2.1]
theorem SU {s:List Rg}(hs:aO (-2) s=true)(hl:s.length<268435456):yl nZ pM s:=λrest=>by
 have hr:∀r∈s,yl jk iw r:=λr hr=>by
  obtain⟨i,hi⟩:=List.getElem?_of_mem hr;obtain⟨h1,h2,h3,_⟩:=bx s (-2) hs i r hi;exact Jg (by omega) (by omega)
 have:=j1 Au hl hr rest;simp only[pM,List.append_assoc];exact this
theorem SR {x:I3}{s n:Int}(hx:bJ x s n=true)(hs:s<=2000)(hn:n<=2000):yl tG ri x:=λrest=>by
 have hr:=cJ hx;have hb:(0<=x.op/\x.op<=5)/\(0<=x.a/\x.a<=2000)/\(0<=x.b/\x.b<=2000):=by omega
 simp only[tG,ri,List.append_assoc];rw[jj (n:=x.op.toNat) (by omega)];simp only;rw[jj (n:=x.a.toNat) (by omega)];simp only;rw[jj (n:=x.b.toNat) (by omega)];obtain⟨o,a,b⟩:=x;simp only at hb ⊢
 rw[Int.toNat_of_nonneg hb.1.1,Int.toNat_of_nonneg hb.2.1.1,Int.toNat_of_nonneg hb.2.2.1]
def rD (c:aD):Prop:=∀s∈c.sets,s.length<268435456
theorem Aw {c:aD}(h:aS c=true)(hl:rD c):yl gp kp c:=λrest=>by
 have hc:=CR.of h;have h1:=j1 (f:=nZ) (enc:=pM) YO (l:=c.sets) (by have:=hc.sets;omega) (λs hs=>SU (hc.set s hs) (hl s hs)) (dw c.ins.length++(c.ins.flatMap ri++rest));have h2:=j1 (f:=tG) (enc:=ri) Wh (l:=c.ins) (by have:=hc.many;omega) (λx hx=>by
  obtain⟨i,hi⟩:=List.getElem?_of_mem hx;exact SR (hc.ins i x hi) (by have:=hc.sets;omega) (by have:=hc.many;omega)) rest
 simp only[gp,jE,Du,kp,List.append_assoc];rw[h1];simp only;rw[h2]
theorem Ma {r:bV}(h1:aS r.before=true)(h2:aS r.after=true)(l1:rD r.before)(l2:rD r.after):yl lH lG r:=λrest=>by
 have e1:=Dq r.brk (kp r.before++(kp r.after++rest));have e2:=Aw h1 l1 (kp r.after++rest);have e3:=Aw h2 l2 rest;simp only[lH,lG,List.append_assoc];rw[e1];simp only;rw[e2];simp only;rw[e3]
def Gc (p:bM):Prop:=∀r∈p.rules,rD r.before/\rD r.after
theorem eD {p:bM}(h:bB p=true):p.rules.length<=20/\∀r∈p.rules,aS r.before=true/\aS r.after=true:=by
 unfold bB at h;simp only[Bool.and_eq_true,decide_eq_true_eq,List.all_eq_true]at h;exact h
theorem Mb {p:bM}(h:bB p=true)(hl:Gc p):yl gL iD p:=λrest=>by
 obtain⟨h1,h2⟩:=eD h;have e1:=Dq p.dD (dw p.rules.length++(p.rules.flatMap lG++rest));have e2:=j1 (f:=lH) (enc:=lG) SB (l:=p.rules) (by omega) (λr hr=>Ma (h2 r hr).1 (h2 r hr).2 (hl r hr).1 (hl r hr).2) rest;simp only[gL,BE,iD,List.append_assoc];rw[e1];simp only;rw[e2]
theorem Oi:∀(s:List UInt8) (a b:Nat),a<65521->(pV a b s).1=(a+(s.map UInt8.toNat).sum) % 65521
 | [],a,b,h=>by simp only[pV,List.map_nil,List.sum_nil,Nat.add_zero];omega
 | c::s,a,b,h=>by
  rw[pV,Oi s _ _ (Nat.mod_lt _ (by omega)),List.map_cons,List.sum_cons];omega
theorem Oj:∀(s:List UInt8) (a b:Nat),b<65521->(pV a b s).2<65521
 | [],_,_,h=>h
 | c::s,a,b,_=>by rw[pV];exact Oj s _ _ (Nat.mod_lt _ (by omega))
theorem Ol (s:List UInt8):wJ s<4294967296:=by
 have h1:=Oi s 1 0 (by omega);have h2:=Oj s 1 0 (by omega);have h3:=Nat.mod_lt (1+(s.map UInt8.toNat).sum) (show 0<65521 by omega)
 unfold wJ;omega
theorem Mo {u:Nat}(h:u<4294967296):sumOf (Gv u)=u:=by
 simp only[sumOf,Gv,List.getD_cons_zero,List.getD_cons_succ];rw[iJ (by omega),iJ (by omega),iJ (by omega),iJ (by omega)];omega
theorem Y1 (u:Nat):(Gv u).length=4:=rfl
theorem J5 {p:bM}(h:bB p=true)(hl:Gc p):qi (iz p)=some p:=by
 have hlen:(iz p).length-4=(iD p).length:=by simp[iz,Gv]
 have h4:¬(iz p).length<4:=by simp[iz,Gv]
 have ht:(iz p).take (iD p).length=iD p:=by simp[iz]
 have hd:(iz p).drop (iD p).length=Gv (wJ (iD p)):=by simp[iz]
 unfold qi;rw[if_neg h4,hlen,ht,hd,Mo (Ol _),if_neg (by simp)];have e:=Mb h hl [];rw[List.append_nil]at e;simp only[e];rw[if_neg (by simp[h])]
def fM (ps:List Int)(i:Nat)(r:bV):Bool:=(e9 r.before (ps.take i).reverse).1 && (e9 r.after (ps.drop i)).1
def eZ (p:bM)(ps:List Int)(i k:Nat):Bool:=(p.rules.drop k).foldr (λr acc=>if fM ps i r then r.brk else acc) p.dD
def nF (p:bM)(ps:List Int)(i:Nat):Bool:=eZ p ps i 0 || decide (i=0) || decide (i=ps.length)
def bX (p:bM)(ps:List Int)(n:Nat):List Nat:=(List.range n).filter (nF p ps)
def fF (p:bM)(ps:List Int):List Nat:=if ps=[] then [] else bX p ps (ps.length+1)
theorem rq (p:bM)(ps:List Int)(n:Nat):bX p ps (n+1)=if nF p ps n then bX p ps n++[n] else bX p ps n:=by
 unfold bX;rw[List.range_succ,List.filter_append];cases h:nF p ps n<;>simp[List.filter,h]
theorem tk (p:bM)(ps:List Int)(n:Nat):(bX p ps n).length<=n:=by
 unfold bX;exact Nat.le_trans (List.length_filter_le _ _) (by simp)
theorem rr (p:bM)(ps:List Int):bX p ps 0=[]:=rfl
theorem Gn (p:bM)(ps:List Int)(i k:Nat)(h:p.rules.length<=k):eZ p ps i k=p.dD:=by
 unfold eZ;rw[List.drop_eq_nil_of_le h];rfl
theorem DD {p:bM}{ps:List Int}{i k:Nat}{r:bV}(h:p.rules[k]?=some r):eZ p ps i k=if fM ps i r then r.brk else eZ p ps i (k+1):=by
 have aj:=(List.getElem?_eq_some_iff.1 h).1;unfold eZ;rw[List.drop_eq_getElem_cons aj,List.foldr_cons]
 have:=List.getElem?_eq_getElem aj;rw[h]at this;cases this;rfl
def dH (c:aD):Nat->Nat->List Int->Prop
 | 0,_,_=>False
 | h+1,k,ps=>match c.ins[k]? with
  | none=>False
  | some x=>if x.op=5 then True
   else if x.op=2 then dH c h x.a.toNat ps\/dH c h x.b.toNat ps
   else if x.op=3 then dH c h x.a.toNat ps
   else if x.op=4 then ps=[]/\dH c h (k+1) ps
   else match ps with
    | []=>False
    | p::r=>ew (c.sets.getD x.a.toNat []) p=true/\dH c h (k+1) r
def Acc (c:aD)(k:Nat)(ps:List Int):Prop:=∃h,dH c h k ps
theorem lf {c:aD}:∀(h:Nat) (k:Nat) (ps:List Int),dH c h k ps->dH c (h+1) k ps
 | 0,k,ps,hh=>hh.elim
 | h+1,k,ps,hh=>by
  rw[dH]at hh ⊢
  cases hx:c.ins[k]? with
  | none=>rw[hx]at hh;exact hh
  | some x =>
   rw[hx]at hh;dsimp only at hh ⊢
   by_cases h5:x.op=5
   ·rw[if_pos h5];trivial
   rw[if_neg h5]at hh ⊢
   by_cases h2:x.op=2
   ·rw[if_pos h2]at hh ⊢;exact hh.imp (lf h _ _) (lf h _ _)
   rw[if_neg h2]at hh ⊢
   by_cases h3:x.op=3
   ·rw[if_pos h3]at hh ⊢;exact lf h _ _ hh
   rw[if_neg h3]at hh ⊢
   by_cases h4:x.op=4
   ·rw[if_pos h4]at hh ⊢;exact⟨hh.1,lf h _ _ hh.2⟩
   rw[if_neg h4]at hh ⊢
   cases ps with
   | nil=>exact hh
   | cons p r=>exact⟨hh.1,lf h _ _ hh.2⟩
theorem lK {c:aD}{k:Nat}{ps:List Int}{x:I3}(hx:c.ins[k]?=some x)(h:x.op=5):Acc c k ps:=⟨1,by rw[dH,hx];dsimp only;rw[if_pos h];trivial⟩
theorem fC {c:aD}{k:Nat}{ps:List Int}{x:I3}(hx:c.ins[k]?=some x)(h:x.op=2):Acc c k ps↔Acc c x.a.toNat ps\/Acc c x.b.toNat ps:=by
 constructor
 ·rintro⟨h',hh⟩;cases h' with
  | zero=>exact hh.elim
  | succ h' =>
   rw[dH,hx]at hh;dsimp only at hh;rw[if_neg (by omega),if_pos h]at hh;exact hh.imp (λh=>⟨_,h⟩) (λh=>⟨_,h⟩)
 rintro(⟨h',hh⟩|⟨h',hh⟩)
 ·exact⟨h'+1,by rw[dH,hx];dsimp only;rw[if_neg (by omega),if_pos h];exact .inl hh⟩
 exact⟨h'+1,by rw[dH,hx];dsimp only;rw[if_neg (by omega),if_pos h];exact .inr hh⟩
theorem gH {c:aD}{k:Nat}{ps:List Int}{x:I3}(hx:c.ins[k]?=some x)(h:x.op=3):Acc c k ps↔Acc c x.a.toNat ps:=by
 constructor
 ·rintro⟨h',hh⟩;cases h' with
  | zero=>exact hh.elim
  | succ h' =>
   rw[dH,hx]at hh;dsimp only at hh;rw[if_neg (by omega),if_neg (by omega),if_pos h]at hh;exact⟨_,hh⟩
 rintro⟨h',hh⟩;exact⟨h'+1,by rw[dH,hx];dsimp only;rw[if_neg (by omega),if_neg (by omega),if_pos h];exact hh⟩
theorem mo {c:aD}{k:Nat}{ps:List Int}{x:I3}(hx:c.ins[k]?=some x)(h:x.op=4):Acc c k ps↔ps=[]/\Acc c (k+1) ps:=by
 constructor
 ·rintro⟨h',hh⟩;cases h' with
  | zero=>exact hh.elim
  | succ h' =>
   rw[dH,hx]at hh;dsimp only at hh;rw[if_neg (by omega),if_neg (by omega),if_neg (by omega),if_pos h]at hh;exact⟨hh.1,_,hh.2⟩
 rintro⟨h0,h',hh⟩;exact⟨h'+1,by rw[dH,hx];dsimp only;rw[if_neg (by omega),if_neg (by omega),if_neg (by omega),if_pos h];exact⟨h0,hh⟩⟩
theorem gd {c:aD}{k:Nat}{ps:List Int}{x:I3}(hx:c.ins[k]?=some x)(h:x.op≠2/\x.op≠3/\x.op≠4/\x.op≠5):Acc c k ps↔∃p r,ps=p::r/\ew (c.sets.getD x.a.toNat []) p=true/\Acc c (k+1) r:=by
 constructor
 ·rintro⟨h',hh⟩;cases h' with
  | zero=>exact hh.elim
  | succ h' =>
   rw[dH,hx]at hh;dsimp only at hh;rw[if_neg (by omega),if_neg (by omega),if_neg (by omega),if_neg (by omega)]at hh;cases ps with
   | nil=>exact hh.elim
   | cons p r=>exact⟨p,r,rfl,hh.1,_,hh.2⟩
 rintro⟨p,r,rfl,h0,h',hh⟩;exact⟨h'+1,by rw[dH,hx];dsimp only;rw[if_neg (by omega),if_neg (by omega),if_neg (by omega),if_neg (by omega)];exact⟨h0,hh⟩⟩
theorem eN {q:List Nat}{k j:Nat}:j∈jM q k↔j∈q\/j=k:=by
 unfold jM;split
 ·rename_i h;exact⟨.inl,λhh=>hh.elim id (λe=>e▸h)⟩
 simp
theorem tZ {q:List Nat}{k:Nat}:∀(i:Nat) (j:Nat),q[i]?=some j->(jM q k)[i]?=some j:=by
 intro i j h;unfold jM;split
 ·exact h
 rw[List.getElem?_append_left (List.getElem?_eq_some_iff.1 h).1];exact h
def HU (cur:Option Int)(r:List Int):List Int:=match cur with|none=>[]|some p=>p::r
theorem wV {c:aD}{cur:Option Int}{x:I3}{at_:Nat}{q nx:List Nat}(hx:c.ins[at_]?=some x)(h5:x.op≠5)(r:List Int) :
  (∀j∈(fA c cur x at_ q nx).1,j∈q\/(Acc c j (HU cur r)->Acc c at_ (HU cur r))) /\
  (∀j∈(fA c cur x at_ q nx).2,j∈nx\/(cur≠none/\(Acc c j r->Acc c at_ (HU cur r)))) /\
  (∀(i j:Nat),q[i]?=some j->(fA c cur x at_ q nx).1[i]?=some j):=by
 unfold fA;by_cases h2:x.op=2
 ·rw[if_pos h2];refine⟨λj hj=>?_,λj hj=>.inl hj,λi j h=>tZ _ _ (tZ _ _ h)⟩;rw[eN,eN]at hj;rcases hj with (hj|rfl)|rfl
  ·exact .inl hj
  ·exact .inr λh=>(fC hx h2).2 (.inl h)
  exact .inr λh=>(fC hx h2).2 (.inr h)
 rw[if_neg h2];by_cases h3:x.op=3
 ·rw[if_pos h3];refine⟨λj hj=>?_,λj hj=>.inl hj,λi j h=>tZ _ _ h⟩;rw[eN]at hj;rcases hj with hj|rfl
  ·exact .inl hj
  exact .inr λh=>(gH hx h3).2 h
 rw[if_neg h3];by_cases h4:x.op=4
 ·rw[if_pos h4];cases cur with
  | none =>
   refine⟨λj hj=>?_,λj hj=>.inl hj,λi j h=>tZ _ _ h⟩;have hj:j∈jM q (at_+1):=hj;rw[eN]at hj;rcases hj with hj|rfl
   ·exact .inl hj
   exact .inr λh=>(mo hx h4).2 ⟨rfl,h⟩
  | some p=>exact⟨λj hj=>.inl hj,λj hj=>.inl hj,λi j h=>h⟩
 rw[if_neg h4];cases cur with
 | none=>exact⟨λj hj=>.inl hj,λj hj=>.inl hj,λi j h=>h⟩
 | some p =>
  refine⟨λj hj=>.inl hj,λj hj=>?_,λi j h=>h⟩;dsimp only at hj;split at hj
  ·rename_i hh;rw[eN]at hj;rcases hj with hj|rfl
   ·exact .inl hj
   exact .inr ⟨by simp,λh=>(gd hx ⟨h2,h3,h4,h5⟩).2 ⟨p,r,rfl,hh,h⟩⟩
  exact .inl hj
def HT (c:aD)(cur:Option Int)(q nx:List Nat)(at_:Nat):Prop:=∀x,c.ins[at_]?=some x->x.op≠5/\(x.op=2->x.a.toNat∈q/\x.b.toNat∈q)/\(x.op=3->x.a.toNat∈q)/\(x.op=4->cur=none->at_+1∈q) /\
 (x.op≠2->x.op≠3->x.op≠4->∀p,cur=some p->ew (c.sets.getD x.a.toNat []) p=true->at_+1∈nx)
theorem HT.mono {c:aD}{cur:Option Int}{q nx q' Dg:List Nat}{at_:Nat}(h:HT c cur q nx at_)(hq:∀j∈q,j∈q')(hn:∀j∈nx,j∈Dg):HT c cur q' Dg at_:=λx hx=>by
 obtain⟨h1,h2,h3,h4,h5⟩:=h x hx;exact⟨h1,λe=>⟨hq _ (h2 e).1,hq _ (h2 e).2⟩,λe=>hq _ (h3 e),λe e'=>hq _ (h4 e e'),λa b d p e e'=>hn _ (h5 a b d p e e')⟩
theorem L4 {c:aD}{cur:Option Int}{x:I3}{at_:Nat}{q nx:List Nat}(hx:c.ins[at_]?=some x)(h5:x.op≠5) :
  HT c cur (fA c cur x at_ q nx).1 (fA c cur x at_ q nx).2 at_/\(∀j∈q,j∈(fA c cur x at_ q nx).1)/\(∀j∈nx,j∈(fA c cur x at_ q nx).2):=by
 unfold fA HT;by_cases h2:x.op=2
 ·rw[if_pos h2];refine⟨λy hy=>?_,λj hj=>eN.2 (.inl (eN.2 (.inl hj))),λj hj=>hj⟩;rw[hx]at hy;cases hy;exact⟨h5,λ_=>⟨eN.2 (.inl (eN.2 (.inr rfl))),eN.2 (.inr rfl)⟩,λh=>absurd h (by omega),λh=>absurd h (by omega),λh=>absurd h2 h⟩
 rw[if_neg h2];by_cases h3:x.op=3
 ·rw[if_pos h3];refine⟨λy hy=>?_,λj hj=>eN.2 (.inl hj),λj hj=>hj⟩;rw[hx]at hy;cases hy;exact⟨h5,λh=>absurd h h2,λ_=>eN.2 (.inr rfl),λh=>absurd h (by omega),λ_ h=>absurd h3 h⟩
 rw[if_neg h3];by_cases h4:x.op=4
 ·rw[if_pos h4];refine⟨λy hy=>?_,λj hj=>?_,λj hj=>hj⟩
  ·rw[hx]at hy;cases hy;refine⟨h5,λh=>absurd h h2,λh=>absurd h h3,λ_ e=>?_,λ_ _ h=>absurd h4 h⟩;subst e;exact eN.2 (.inr rfl)
  dsimp only;split
  ·exact eN.2 (.inl hj)
  exact hj
 rw[if_neg h4];cases cur with
 | none =>
  refine⟨λy hy=>?_,λj hj=>hj,λj hj=>hj⟩;rw[hx]at hy;cases hy;exact⟨h5,λh=>absurd h h2,λh=>absurd h h3,λh=>absurd h h4,λ_ _ _ p h=>by cases h⟩
 | some p =>
  refine⟨λy hy=>?_,λj hj=>hj,λj hj=>?_⟩
  ·rw[hx]at hy;cases hy;refine⟨h5,λh=>absurd h h2,λh=>absurd h h3,λh=>absurd h h4,λ_ _ _ p' e hh=>?_⟩;cases e;dsimp only;rw[if_pos hh];exact eN.2 (.inr rfl)
  dsimp only;split
  ·exact eN.2 (.inl hj)
  exact hj
theorem xI {c:aD}(cur:Option Int)(r:List Int)(G:Prop)(hG:∀p,cur=some p->True):∀(f:Nat) (q:List Nat) (k:Nat) (nx:List Nat) (st:Nat),(∀j∈q,Acc c j (HU cur r)->G)->(∀j∈nx,cur≠none/\(Acc c j r->G)) ->
  (∀s,inner c cur f q k nx st=.yes s->G)/\(∀q' Dg s,inner c cur f q k nx st=.no q' Dg s->(∀j∈Dg,cur≠none/\(Acc c j r->G)))
 | 0,q,k,nx,st,hq,hn=>⟨λs h=>(by rw[inner]at h;cases h),λq' Dg s h=>by rw[inner]at h;cases h;exact hn⟩
 | f+1,q,k,nx,st,hq,hn=>by
  rw[inner];cases hk:q[k]? with
  | none=>exact⟨λs h=>(by cases h),λq' Dg s h=>by cases h;exact hn⟩
  | some at_ =>
   dsimp only;cases hx:c.ins[at_]? with
   | none=>exact⟨λs h=>(by cases h),λq' Dg s h=>by cases h;exact hn⟩
   | some x =>
    dsimp only;have Fs:=hq at_ (List.mem_of_getElem? hk);by_cases h5:x.op=5
    ·rw[if_pos h5];exact⟨λs _=>Fs (lK hx h5),λq' Dg s h=>by cases h⟩
    rw[if_neg h5];obtain⟨e1,e2,_⟩:=wV (cur:=cur) (q:=q) (nx:=nx) hx h5 r;exact xI cur r G hG f _ _ _ _ (λj hj ha=>(e1 j hj).elim (λh=>hq j h ha) (λh=>Fs (h ha)))
     (λj hj=>(e2 j hj).elim (λh=>hn j h) (λh=>⟨h.1,λha=>Fs (h.2 ha)⟩))
theorem uU {c:aD}(hc:CR c)(cur:Option Int):∀(f:Nat) (q:List Nat) (k:Nat) (nx:List Nat) (st:Nat),bb c.ins.length q->bb c.ins.length nx->c.ins.length+1<=f+k ->
  (∀(i j:Nat),i<k->q[i]?=some j->HT c cur q nx j)->∀q' Dg s,inner c cur f q k nx st=.no q' Dg s->(∀j∈q,j∈q')/\∀j∈q',HT c cur q' Dg j
 | 0,q,k,nx,st,hq,hn,hf,hd,q',Dg,s,h=>by
  rw[inner]at h;cases h;refine⟨λj h=>h,λj hj=>?_⟩;obtain⟨i,hi⟩:=List.getElem?_of_mem hj
  have:=(List.getElem?_eq_some_iff.1 hi).1
  have:=hq.len;exact hd i j (by omega) hi
 | f+1,q,k,nx,st,hq,hn,hf,hd,q',Dg,s,h=>by
  rw[inner]at h;cases hk:q[k]? with
  | none =>
   rw[hk]at h;cases h;refine⟨λj h=>h,λj hj=>?_⟩;obtain⟨i,hi⟩:=List.getElem?_of_mem hj;have h1:=(List.getElem?_eq_some_iff.1 hi).1;have h2:=List.getElem?_eq_none_iff.1 hk;exact hd i j (by omega) hi
  | some at_ =>
   rw[hk]at h;dsimp only at h;have aj:=hq.2 at_ (List.mem_of_getElem? hk);cases hx:c.ins[at_]? with
   | none=>have:=List.getElem?_eq_none_iff.1 hx;omega
   | some x =>
    rw[hx]at h;dsimp only at h;by_cases h5:x.op=5
    ·rw[if_pos h5]at h;cases h
    rw[if_neg h5]at h;obtain⟨p1,p2⟩:=tz hc (cur:=cur) hx h5 hq hn;obtain⟨d1,d2,d3⟩:=L4 (cur:=cur) (q:=q) (nx:=nx) hx h5;obtain⟨_,_,e3⟩:=wV (cur:=cur) (q:=q) (nx:=nx) hx h5 [];obtain⟨r1,r2⟩:=uU hc cur f _ (k+1) _ _ p1 p2 (by omega) (λi j hi hj=>by
     rcases Nat.lt_or_ge i k with WO|WO
     ·have aj:i<q.length:=by
       have:=(List.getElem?_eq_some_iff.1 hk).1;omega
      have Lp:=e3 i _ (List.getElem?_eq_getElem aj);rw[hj]at Lp;cases Lp;exact(hd i _ WO (List.getElem?_eq_getElem aj)).mono d2 d3
     have:i=k:=by omega
     subst this;have Lp:=e3 i _ hk;rw[hj]at Lp;cases Lp;exact d1) q' Dg s h
    exact⟨λj hj=>r1 j (d2 j hj),r2⟩
theorem mB {c:aD}{cur:Option Int}{q nx:List Nat}{r:List Int}(hd:∀j∈q,HT c cur q nx j):∀(h:Nat) (j:Nat),j∈q->dH c h j (HU cur r)->cur≠none/\∃k∈nx,Acc c k r
 | 0,j,hj,ha=>ha.elim
 | h+1,j,hj,ha=>by
  rw[dH]at ha;cases hx:c.ins[j]? with
  | none=>rw[hx]at ha;exact ha.elim
  | some x =>
   rw[hx]at ha;dsimp only at ha;obtain⟨h5,h2,h3,h4,h1⟩:=hd j hj x hx;rw[if_neg h5]at ha;by_cases e2:x.op=2
   ·rw[if_pos e2]at ha;rcases ha with ha|ha
    ·exact mB hd h _ (h2 e2).1 ha
    exact mB hd h _ (h2 e2).2 ha
   rw[if_neg e2]at ha;by_cases e3:x.op=3
   ·rw[if_pos e3]at ha;exact mB hd h _ (h3 e3) ha
   rw[if_neg e3]at ha;by_cases e4:x.op=4
   ·rw[if_pos e4]at ha;cases cur with
    | none=>exact mB hd h _ (h4 e4 rfl) ha.2
    | some p=>cases ha.1
   rw[if_neg e4]at ha;cases cur with
   | none=>exact ha.elim
   | some p =>
    have ha:ew (c.sets.getD x.a.toNat []) p=true/\dH c h (j+1) r:=ha;exact⟨by simp,_,h1 e2 e3 e4 p rfl ha.1,_,ha.2⟩
theorem AR {c:aD}(hc:CR c)(cur:Option Int)(r:List Int){q:List Nat}(hq:bb c.ins.length q)(st:Nat) :
  (∀s,inner c cur (c.ins.length+1) q 0 [] st=.yes s->∃j∈q,Acc c j (HU cur r)) /\
  (∀q' nx s,inner c cur (c.ins.length+1) q 0 [] st=.no q' nx s->bb c.ins.length nx/\(cur=none->nx=[])/\((∃j∈q,Acc c j (HU cur r))↔∃k∈nx,Acc c k r)):=by
 have hs:=xI (c:=c) cur r (∃j∈q,Acc c j (HU cur r)) (λ_ _=>trivial) (c.ins.length+1) q 0 [] st (λj hj ha=>⟨j,hj,ha⟩) (λj hj=>by cases hj);refine⟨hs.1,λq' nx s h=>?_⟩;have h2:=hs.2 q' nx s h;obtain⟨h3,h4⟩:=uU hc cur (c.ins.length+1) q 0 [] st hq (bb.nil _) (by omega) (λi j hi=>absurd hi (by omega)) q' nx s h;refine⟨(uV hc _ _ _ _ _ hq (bb.nil _) _ _ _ h).2,λe=>?_,?_,?_⟩
 ·cases nx with
  | nil=>rfl
  | cons k t=>exact absurd e (h2 k (by simp)).1
 ·rintro⟨j,hj,hh,ha⟩;exact(mB h4 hh j (h3 j hj) ha).2
 rintro⟨k,hk,ha⟩;exact(h2 k hk).2 ha
theorem Di {c:aD}(hc:CR c):∀(ps:List Int) (q:List Nat) (st:Nat),bb c.ins.length q->((outer c ps q st).1=true↔∃j∈q,Acc c j ps)
 | [],q,st,hq=>by
  obtain⟨h1,h2⟩:=AR hc none [] hq st;rw[outer];cases hi:inner c none (c.ins.length+1) q 0 [] st with
  | yes s=>exact⟨λ_=>h1 s hi,λ_=>rfl⟩
  | no q' nx s =>
   obtain⟨_,h3,h4⟩:=h2 q' nx s hi;rw[h3 rfl]at h4;exact⟨λh=>(by cases h),λh=>(by obtain⟨k,hk,_⟩:=h4.1 h;cases hk)⟩
 | p::ps,q,st,hq=>by
  obtain⟨h1,h2⟩:=AR hc (some p) ps hq st;rw[outer];cases hi:inner c (some p) (c.ins.length+1) q 0 [] st with
  | yes s=>exact⟨λ_=>h1 s hi,λ_=>rfl⟩
  | no q' nx s =>
   obtain⟨h3,_,h4⟩:=h2 q' nx s hi;dsimp only;by_cases hn:nx=[]
   ·rw[if_pos hn];subst hn;exact⟨λh=>(by cases h),λh=>(by obtain⟨k,hk,_⟩:=h4.1 h;cases hk)⟩
   rw[if_neg hn,Di hc ps nx s h3];exact h4.symm
theorem mY {c:aD}(hc:CR c)(ps:List Int):(e9 c ps).1=true↔Acc c 0 ps:=by
 unfold e9;rw[Di hc ps [0] 0 (bb.one hc.one)];simp
theorem CR.to {c:aD}(h:CR c):aS c=true:=by
 have h1:=h.one;have hl:c.ins.length-1<c.ins.length:=by omega
 have hx:=List.getElem?_eq_getElem hl;have hn:=h.next _ _ hx;unfold aS;rw[hx];simp only[Bool.and_eq_true,decide_eq_true_eq,List.all_eq_true];refine⟨⟨⟨⟨h.one,h.many,h.sets⟩,⟨λe=>?_,λe=>?_⟩⟩,λx hx=>?_⟩,h.set⟩
 ·have:=hn (.inl e);omega
 ·have:=hn (.inr e);omega
 obtain⟨i,hi⟩:=List.getElem?_of_mem hx;exact h.ins i x hi
def sW (c:aD):Nat->Nat->Nat
 | 0,k=>k
 | f+1,k=>match c.ins[k]? with
  | none=>k
  | some x=>if x.op=3 then sW c f x.a.toNat else k
def gR (c:aD)(k:Nat):Nat:=sW c c.ins.length k
theorem iU {c:aD}(hc:CR c){i:Nat}{x:I3}(hx:c.ins[i]?=some x)(h:x.op=3):0<=x.a/\x.a.toNat<c.ins.length/\x.b=0:=by
 rcases cJ (hc.ins i x hx) with ⟨e,h1,h2,h3⟩|⟨e,h1,h2,h3,h4⟩|⟨e,h1,h2,h3⟩|⟨e|e,h1,h2⟩
 all_goals first|omega|(exact⟨h1,by omega,h3⟩)
theorem mM {c:aD}(hc:CR c){i:Nat}{x:I3}(hx:c.ins[i]?=some x)(h:x.op=2):0<=x.a/\x.a.toNat<c.ins.length/\0<=x.b/\x.b.toNat<c.ins.length:=by
 rcases cJ (hc.ins i x hx) with ⟨e,h1,h2,h3⟩|⟨e,h1,h2,h3,h4⟩|⟨e,h1,h2,h3⟩|⟨e|e,h1,h2⟩
 all_goals first|omega|(exact⟨h1,by omega,h3,by omega⟩)
theorem iV {c:aD}(hc:CR c){i:Nat}{x:I3}(hx:c.ins[i]?=some x)(h:x.op≠2/\x.op≠3/\x.op≠4/\x.op≠5):x.op=1/\0<=x.a/\x.a.toNat<c.sets.length/\x.b=0:=by
 rcases cJ (hc.ins i x hx) with ⟨e,h1,h2,h3⟩|⟨e,h1,h2,h3,h4⟩|⟨e,h1,h2,h3⟩|⟨e|e,h1,h2⟩
 all_goals first|omega|(exact⟨e,h1,by omega,h3⟩)
theorem yX {c:aD}(hc:CR c):∀(f k:Nat),k<c.ins.length->sW c f k<c.ins.length
 | 0,k,h=>h
 | f+1,k,h=>by
  rw[sW];split
  ·exact h
  rename_i x hx;split
  ·rename_i h3;exact yX hc f _ (iU hc hx h3).2.1
  exact h
theorem qF {c:aD}:∀(f k:Nat) (ps:List Int),Acc c (sW c f k) ps↔Acc c k ps
 | 0,k,ps=>Iff.rfl
 | f+1,k,ps=>by
  rw[sW];split
  ·exact Iff.rfl
  rename_i x hx;split
  ·rename_i h3;rw[qF f,gH hx h3]
  exact Iff.rfl
theorem rG {c:aD}:∀(f h k:Nat) (ps:List Int),dH c h k ps->dH c h (sW c f k) ps
 | 0,h,k,ps,ha=>ha
 | f+1,h,k,ps,ha=>by
  rw[sW];split
  ·exact ha
  rename_i x hx;split
  ·rename_i h3;cases h with
   | zero=>exact ha.elim
   | succ h =>
    rw[dH,hx]at ha;dsimp only at ha;rw[if_neg (by omega),if_neg (by omega),if_pos h3]at ha;exact rG f _ _ _ (lf _ _ _ ha)
  exact ha
def bL (c:aD)(x:I3):I3 :=
 if x.op=3 then ⟨x.op,gR c x.a.toNat,x.b⟩
 else if x.op=2 then (if gR c x.a.toNat=gR c x.b.toNat then ⟨3,gR c x.a.toNat,0⟩ else ⟨x.op,gR c x.a.toNat,gR c x.b.toNat⟩)
 else x
def fO (c:aD)(i:Nat):aD:=match c.ins[i]? with
 | none=>c
 | some x=>⟨c.sets,c.ins.set i (bL c x)⟩
def ai (c:aD):Nat->aD
 | 0=>c
 | i+1=>fO (ai c i) i
def oL (c:aD):aD:=ai c c.ins.length
theorem Gw {c:aD}(hc:CR c){i:Nat}{x:I3}(hx:c.ins[i]?=some x):bJ (bL c x) c.sets.length c.ins.length=true/\((bL c x).op=1\/(bL c x).op=4->bL c x=x):=by
 unfold bL;split
 ·rename_i h3;obtain⟨h1,h2,hb⟩:=iU hc hx h3
  have:=yX hc c.ins.length _ h2;refine⟨?_,λh=>by dsimp only at h;omega⟩;unfold bJ gR;dsimp only;rw[if_neg (by omega),if_neg (by omega),if_pos h3];exact decide_eq_true ⟨⟨by omega,by omega⟩,hb⟩
 split
 ·rename_i h3 h2;obtain⟨a1,a2,b1,b2⟩:=mM hc hx h2;have ha:=yX hc c.ins.length _ a2;have hb:=yX hc c.ins.length _ b2;split
  ·refine⟨?_,λh=>by dsimp only at h;omega⟩;unfold bJ gR;dsimp only;rw[if_neg (by omega),if_neg (by omega),if_pos rfl];exact decide_eq_true ⟨⟨by omega,by omega⟩,rfl⟩
  refine⟨?_,λh=>by dsimp only at h;omega⟩;unfold bJ gR;dsimp only;rw[if_neg (by omega),if_pos h2];exact decide_eq_true ⟨⟨by omega,by omega⟩,by omega,by omega⟩
 exact⟨hc.ins i x hx,λ_=>rfl⟩
theorem gr {c:aD}{i:Nat}{x:I3}(hx:c.ins[i]?=some x)(j:Nat):(fO c i).ins[j]?=if j=i then some (bL c x) else c.ins[j]?:=by
 unfold fO;rw[hx];dsimp only;rw[List.getElem?_set]
 have:=(List.getElem?_eq_some_iff.1 hx).1;by_cases h:j=i
 ·subst h;rw[if_pos rfl,if_pos rfl,if_pos this]
 rw[if_neg h,if_neg (λe=>h e.symm)]
theorem j3 (c:aD)(i:Nat):(fO c i).sets=c.sets:=by unfold fO;split<;>rfl
theorem kI (c:aD)(i:Nat):(fO c i).ins.length=c.ins.length:=by unfold fO;split<;>simp
theorem Mt {c:aD}(hc:CR c)(i:Nat):CR (fO c i):=by
 cases hx:c.ins[i]? with
 | none=>unfold fO;rw[hx];exact hc
 | some x =>
  have hs:=Gw hc hx;refine⟨by rw[kI];exact hc.one,by rw[kI];exact hc.many,by rw[j3];exact hc.sets,λj y hy=>?_,λj y hy ho=>?_,by rw[j3];exact hc.set⟩
  ·rw[gr hx]at hy;rw[j3,kI];split at hy
   ·cases hy;exact hs.1
   exact hc.ins j y hy
  rw[gr hx]at hy;rw[kI];split at hy
  ·rename_i e;cases hy;rw[hs.2 ho]at ho;subst e;exact hc.next j x hx ho
  exact hc.next j y hy ho
theorem KF {c:aD}(hc:CR c)(i:Nat)(k:Nat)(ps:List Int):Acc (fO c i) k ps↔Acc c k ps:=by
 cases hx:c.ins[i]? with
 | none=>unfold fO;rw[hx]
 | some x =>
  have AK:=j3 c i;constructor
  ·rintro⟨h,ha⟩;induction h generalizing k ps with
   | zero=>exact ha.elim
   | succ h ih =>
    by_cases hk:k=i
    ·subst hk;have hy:(fO c k).ins[k]?=some (bL c x):=by rw[gr hx,if_pos rfl]
     by_cases h3:x.op=3
     ·rw[gH hx h3];have e:bL c x=⟨x.op,gR c x.a.toNat,x.b⟩:=by unfold bL;rw[if_pos h3]
      rw[e]at hy;rw[dH,hy]at ha;dsimp only at ha;rw[if_neg (by omega),if_neg (by omega),if_pos h3]at ha;rw[Int.toNat_natCast]at ha;exact(qF _ _ _).1 (ih _ _ ha)
     by_cases h2:x.op=2
     ·rw[fC hx h2];by_cases he:gR c x.a.toNat=gR c x.b.toNat
      ·have e:bL c x=⟨3,gR c x.a.toNat,0⟩:=by unfold bL;rw[if_neg h3,if_pos h2,if_pos he]
       rw[e]at hy;rw[dH,hy]at ha;dsimp only at ha;rw[if_neg (by omega),if_neg (by omega),if_pos rfl]at ha;rw[Int.toNat_natCast]at ha;exact .inl ((qF _ _ _).1 (ih _ _ ha))
      have e:bL c x=⟨x.op,gR c x.a.toNat,gR c x.b.toNat⟩:=by unfold bL;rw[if_neg h3,if_pos h2,if_neg he]
      rw[e]at hy;rw[dH,hy]at ha;dsimp only at ha;rw[if_neg (by omega),if_pos h2]at ha;rw[Int.toNat_natCast,Int.toNat_natCast]at ha;exact ha.imp (λha=>(qF _ _ _).1 (ih _ _ ha)) (λha=>(qF _ _ _).1 (ih _ _ ha))
     have e:bL c x=x:=by unfold bL;rw[if_neg h3,if_neg h2]
     rw[e]at hy;rw[dH,hy]at ha;dsimp only at ha;by_cases h5:x.op=5
     ·exact lK hx h5
     rw[if_neg h5,if_neg h2,if_neg h3]at ha;by_cases h4:x.op=4
     ·rw[if_pos h4]at ha;exact(mo hx h4).2 ⟨ha.1,ih _ _ ha.2⟩
     rw[if_neg h4,AK]at ha;cases ps with
     | nil=>exact ha.elim
     | cons p r=>exact(gd hx ⟨h2,h3,h4,h5⟩).2 ⟨p,r,rfl,ha.1,ih _ _ ha.2⟩
    have hy:(fO c i).ins[k]?=c.ins[k]?:=by rw[gr hx,if_neg hk]
    rw[dH,hy]at ha;cases hz:c.ins[k]? with
    | none=>rw[hz]at ha;exact ha.elim
    | some z =>
     rw[hz]at ha;dsimp only at ha;by_cases h5:z.op=5
     ·exact lK hz h5
     rw[if_neg h5]at ha;by_cases h2:z.op=2
     ·rw[if_pos h2]at ha;exact(fC hz h2).2 (ha.imp (ih _ _) (ih _ _))
     rw[if_neg h2]at ha;by_cases h3:z.op=3
     ·rw[if_pos h3]at ha;exact(gH hz h3).2 (ih _ _ ha)
     rw[if_neg h3]at ha;by_cases h4:z.op=4
     ·rw[if_pos h4]at ha;exact(mo hz h4).2 ⟨ha.1,ih _ _ ha.2⟩
     rw[if_neg h4,AK]at ha;cases ps with
     | nil=>exact ha.elim
     | cons p r=>exact(gd hz ⟨h2,h3,h4,h5⟩).2 ⟨p,r,rfl,ha.1,ih _ _ ha.2⟩
  rintro⟨h,ha⟩;induction h generalizing k ps with
  | zero=>exact ha.elim
  | succ h ih =>
   by_cases hk:k=i
   ·subst hk;have hy:(fO c k).ins[k]?=some (bL c x):=by rw[gr hx,if_pos rfl]
    rw[dH,hx]at ha;dsimp only at ha;by_cases h5:x.op=5
    ·exact lK hy (by unfold bL;rw[if_neg (by omega),if_neg (by omega)];exact h5)
    rw[if_neg h5]at ha;by_cases h2:x.op=2
    ·rw[if_pos h2]at ha;have Vs:=ha.imp (λa=>ih _ _ (rG c.ins.length _ _ _ a)) (λa=>ih _ _ (rG c.ins.length _ _ _ a));by_cases he:gR c x.a.toNat=gR c x.b.toNat
     ·have e:bL c x=⟨3,gR c x.a.toNat,0⟩:=by unfold bL;rw[if_neg (by omega),if_pos h2,if_pos he]
      rw[e]at hy;rw[gH hy rfl];dsimp only;rw[Int.toNat_natCast];rcases Vs with a|a
      ·exact a
      rw[he];exact a
     have e:bL c x=⟨x.op,gR c x.a.toNat,gR c x.b.toNat⟩:=by unfold bL;rw[if_neg (by omega),if_pos h2,if_neg he]
     rw[e]at hy;rw[fC hy h2];dsimp only;rw[Int.toNat_natCast,Int.toNat_natCast];exact Vs
    rw[if_neg h2]at ha;by_cases h3:x.op=3
    ·rw[if_pos h3]at ha;have e:bL c x=⟨x.op,gR c x.a.toNat,x.b⟩:=by unfold bL;rw[if_pos h3]
     rw[e]at hy;rw[gH hy h3];dsimp only;rw[Int.toNat_natCast];exact ih _ _ (rG c.ins.length _ _ _ ha)
    rw[if_neg h3]at ha;have e:bL c x=x:=by unfold bL;rw[if_neg h3,if_neg h2]
    rw[e]at hy;by_cases h4:x.op=4
    ·rw[if_pos h4]at ha;exact(mo hy h4).2 ⟨ha.1,ih _ _ ha.2⟩
    rw[if_neg h4]at ha;cases ps with
    | nil=>exact ha.elim
    | cons p r=>exact(gd hy ⟨h2,h3,h4,h5⟩).2 ⟨p,r,rfl,by rw[AK];exact ha.1,ih _ _ ha.2⟩
   have hy:(fO c i).ins[k]?=c.ins[k]?:=by rw[gr hx,if_neg hk]
   rw[dH]at ha;cases hz:c.ins[k]? with
   | none=>rw[hz]at ha;exact ha.elim
   | some z =>
    rw[hz]at ha hy;dsimp only at ha;by_cases h5:z.op=5
    ·exact lK hy h5
    rw[if_neg h5]at ha;by_cases h2:z.op=2
    ·rw[if_pos h2]at ha;exact(fC hy h2).2 (ha.imp (ih _ _) (ih _ _))
    rw[if_neg h2]at ha;by_cases h3:z.op=3
    ·rw[if_pos h3]at ha;exact(gH hy h3).2 (ih _ _ ha)
    rw[if_neg h3]at ha;by_cases h4:z.op=4
    ·rw[if_pos h4]at ha;exact(mo hy h4).2 ⟨ha.1,ih _ _ ha.2⟩
    rw[if_neg h4]at ha;cases ps with
    | nil=>exact ha.elim
    | cons p r=>exact(gd hy ⟨h2,h3,h4,h5⟩).2 ⟨p,r,rfl,by rw[AK];exact ha.1,ih _ _ ha.2⟩
theorem n5 {c:aD}(hc:CR c):∀i,CR (ai c i)/\(ai c i).sets=c.sets/\(ai c i).ins.length=c.ins.length/\(∀k ps,Acc (ai c i) k ps↔Acc c k ps)/\∀j,i<=j->(ai c i).ins[j]?=c.ins[j]?
 | 0=>⟨hc,rfl,rfl,λ_ _=>Iff.rfl,λ_ _=>rfl⟩
 | i+1=>by
  obtain⟨h1,h2,h3,h4,h5⟩:=n5 hc i;rw[ai];refine⟨Mt h1 i,by rw[j3,h2],by rw[kI,h3],λk ps=>by rw[KF h1,h4],λj hj=>?_⟩;rw[<-h5 j (by omega)];cases hx:(ai c i).ins[i]? with
  | none=>unfold fO;rw[hx]
  | some x=>rw[gr hx,if_neg (by omega)]
def tX (c:aD)(x:I3)(i j:Nat):Prop :=
 (x.op=2/\(j=x.a.toNat\/j=x.b.toNat))\/(x.op=3/\j=x.a.toNat)\/(x.op=4/\j=i+1)\/(x.op=1/\c.sets.getD x.a.toNat []≠[]/\j=i+1)
structure sM (c:aD)(is:List Bool):Prop where
 len:is.length=c.ins.length
 zero:is[0]?=some true
 leads:∀(i:Nat) (x:I3),is[i]?=some true->c.ins[i]?=some x->∀j,tX c x i j->is[j]?=some true
def bO (is:List Bool):Nat->Nat->Nat
 | 0,k=>is.length
 | f+1,k=>if is[k]?=some true then k else if k<is.length then bO is f (k+1) else is.length
def q9 (is:List Bool)(i:Nat):Nat:=bO is is.length (i+1)
theorem nY {is:List Bool}:∀(f k:Nat),is.length<=f+k->(is[bO is f k]?=some true/\k<=bO is f k\/bO is f k=is.length)/\∀j,k<=j->j<bO is f k->is[j]?≠some true
 | 0,k,h=>⟨.inr rfl,λj h1 h2=>by rw[bO]at h2;omega⟩
 | f+1,k,h=>by
  rw[bO];split
  ·rename_i hk;exact⟨.inl ⟨hk,Nat.le_refl _⟩,λj h1 h2=>by omega⟩
  rename_i hk;split
  ·obtain⟨h1,h2⟩:=nY (is:=is) f (k+1) (by omega);refine⟨h1.imp (λh=>⟨h.1,by omega⟩) id,λj hj hj2=>?_⟩;by_cases e:j=k
   ·subst e;exact hk
   exact h2 j (by omega) hj2
  exact⟨.inr rfl,λj h1 h2=>by rw[List.getElem?_eq_none (by omega)];simp⟩
theorem G3 {is:List Bool}{f k:Nat}(h:is[k]?=some true):bO is (f+1) k=k:=by rw[bO,if_pos h]
theorem Cr {is:List Bool}{f k:Nat}(h:is[k]?≠some true)(hk:k<is.length):bO is (f+1) k=bO is f (k+1):=by rw[bO,if_neg h,if_pos hk]
theorem pE {is:List Bool}:∀(f:Nat) {k:Nat},is.length<=k->bO is f k=is.length
 | 0,k,h=>rfl
 | f+1,k,h=>by rw[bO,if_neg (by rw[List.getElem?_eq_none h];simp),if_neg (by omega)]
def nL (c:aD)(is:List Bool)(i:Nat):Bool:=match c.ins[i]? with
 | none=>false
 | some x=>decide (x.op=3/\(q9 is i:Int)=x.a/\(i:Int)<x.a)
def eB (c:aD)(is:List Bool)(i:Nat):Bool:=decide (is[i]?=some true) && !nL c is i
def fT (c:aD)(is:List Bool):Nat->Nat
 | 0=>0
 | i+1=>if eB c is i then fT c is i+1 else fT c is i
theorem KH {c : aD} {is : List Bool} {i : Nat} : ∀ {j : Nat}, i <= j -> fT c is i <= fT c is j
  | 0, h => by have : i = 0 := by omega
               subst this; exact Nat.le_refl _
  | j + 1, h => by
    by_cases e : i = j + 1
    · subst e; exact Nat.le_refl _
    have := KH (c := c) (is := is) (i := i) (j := j) (by omega)
    rw [fT]; split <;> omega
theorem kW {c:aD}{is:List Bool}:∀(j:Nat),fT c is j<=j
 | 0=>Nat.le_refl _
 | j+1=>by have:=kW (c:=c) (is:=is) j;rw[fT];split<;>omega
theorem Y8 {c:aD}{is:List Bool}{i j:Nat}(h:i<j)(hk:eB c is i=true):fT c is i<fT c is j:=by
 have h1:fT c is (i+1)=fT c is i+1:=by rw[fT,if_pos hk]
 have:=KH (c:=c) (is:=is) (i:=i+1) (j:=j) (by omega);omega
theorem BZ {c : aD} {is : List Bool} {i : Nat} : ∀ {j : Nat}, i <= j -> (∀ k, i <= k -> k < j -> eB c is k = false) -> fT c is j = fT c is i
  | 0, h, _ => by have : i = 0 := by omega
                  subst this; rfl
  | j + 1, h, hk => by
    by_cases e : i = j + 1
    · subst e; rfl
    rw [fT, if_neg (by rw [hk j (by omega) (by omega)]; simp)]
    exact BZ (by omega) (λk h1 h2 => hk k h1 (by omega))
theorem GM {c:aD}{is:List Bool}{i:Nat}(h:eB c is i=true):is[i]?=some true/\nL c is i=false:=by
 unfold eB at h;simp only[Bool.and_eq_true,decide_eq_true_eq,Bool.not_eq_true']at h;exact h
theorem GN {c:aD}{is:List Bool}{i:Nat}(h:eB c is i=true):i<is.length:=(List.getElem?_eq_some_iff.1 (GM h).1).1
theorem oA {c:aD}{is:List Bool}(hC:sM c is):∀(d i:Nat),is.length<=d+i->is[i]?=some true->∃j,i<=j/\eB c is j=true/\fT c is j=fT c is i/\∀ps,Acc c i ps↔Acc c j ps
 | 0,i,h,hi=>by have:=(List.getElem?_eq_some_iff.1 hi).1;omega
 | d+1,i,h,hi=>by
  by_cases hs:nL c is i=true
  ·have Qp:=hs;unfold nL at hs;cases hx:c.ins[i]? with
   | none=>rw[hx]at hs;cases hs
   | some x =>
    rw[hx]at hs;simp only[decide_eq_true_eq]at hs;obtain⟨h3,hn,HJ⟩:=hs;have hl:=hC.leads i x hi hx x.a.toNat (.inr (.inl ⟨h3,rfl⟩));obtain⟨j,h1,h2,h4,h5⟩:=oA hC d x.a.toNat (by omega) hl;have jC:=nY (is:=is) is.length (i+1) (by omega);have hnn:bO is is.length (i+1)=x.a.toNat:=by unfold q9 at hn;omega
    rw[hnn]at jC;refine⟨j,by omega,h2,?_,λps=>by rw[gH hx h3];exact h5 ps⟩;rw[h4];apply BZ (by omega);intro k Nk jI;unfold eB;by_cases e:k=i
    ·subst e;rw[Qp];simp
    rw[decide_eq_false (jC.2 k (by omega) jI)];rfl
  exact⟨i,Nat.le_refl _,by unfold eB;rw[decide_eq_true hi];simpa using hs,rfl,λ_=>Iff.rfl⟩
structure LS where
 used:List Nat
 ins:List I3
def Qx (a:Nat):List Nat->Nat
 | []=>0
 | b::l=>if b=a then 0 else Qx a l+1
theorem Ir {a:Nat}:∀{l:List Nat},a∈l->l[Qx a l]?=some a
 | [],h=>by cases h
 | b::l,h=>by
  unfold Qx;split
  ·rename_i e;subst e;rfl
  rename_i e;rw[List.getElem?_cons_succ];exact Ir (List.mem_of_ne_of_mem (λh=>e h.symm) h)
def jW (c:aD)(is:List Bool)(used:List Nat)(x:I3):I3 :=
 if x.op=1 then ⟨x.op,(if x.a.toNat∈used then Qx x.a.toNat used else used.length:Nat),x.b⟩
 else if x.op=3 then ⟨x.op,fT c is x.a.toNat,x.b⟩
 else if x.op=2 then ⟨x.op,fT c is x.a.toNat,fT c is x.b.toNat⟩
 else x
def pj (used:List Nat)(x:I3):List Nat:=if x.op=1 then (if x.a.toNat∈used then used else used++[x.a.toNat]) else used
def u7 (c:aD)(is:List Bool)(s:LS)(i:Nat):LS:=match c.ins[i]? with
 | none=>s
 | some x=>if eB c is i=true then ⟨pj s.used x,s.ins++[jW c is s.used x]⟩ else s
def aZ (c:aD)(is:List Bool):Nat->LS
 | 0=>⟨[],[]⟩
 | i+1=>u7 c is (aZ c is i) i
def Wu (c:aD)(s:LS):aD:=⟨s.used.map (λa=>c.sets.getD a []),s.ins⟩
def b8 (c:aD)(is:List Bool):aD:=Wu c (aZ c is c.ins.length)
def pz (c:aD)(is:List Bool)(sets:List (List Rg))(x y:I3):Prop :=
 y.op=x.op/\(x.op=1->y.b=x.b/\0<=y.a/\y.a.toNat<sets.length/\sets.getD y.a.toNat []=c.sets.getD x.a.toNat [])/\(x.op=3->y.a=fT c is x.a.toNat/\y.b=x.b)/\(x.op=2->y.a=fT c is x.a.toNat/\y.b=fT c is x.b.toNat) /\
 (x.op≠1->x.op≠2->x.op≠3->y=x)
theorem pz.more {c:aD}{is:List Bool}{sets more:List (List Rg)}{x y:I3}(h:pz c is sets x y):pz c is (sets++more) x y:=by
 obtain⟨h1,h2,h3,h4,h5⟩:=h;refine⟨h1,λe=>?_,h3,h4,h5⟩;obtain⟨a,b,d,f⟩:=h2 e;refine⟨a,b,by rw[List.length_append];omega,?_⟩;rw[<-f,List.getD_eq_getElem?_getD,List.getD_eq_getElem?_getD,List.getElem?_append_left d]
structure aLn (c:aD)(is:List Bool)(i:Nat)(s:LS):Prop where
 len:s.ins.length=fT c is i
 nodup:s.used.Nodup
 used:∀a∈s.used,a<c.sets.length
 at_:∀(j:Nat) (x:I3),j<i->eB c is j=true->c.ins[j]?=some x->∃y,s.ins[fT c is j]?=some y/\pz c is (s.used.map (λa=>c.sets.getD a [])) x y
 all:∀(k:Nat) (y:I3),s.ins[k]?=some y->∃j x,j<i/\eB c is j=true/\fT c is j=k/\c.ins[j]?=some x/\pz c is (s.used.map (λa=>c.sets.getD a [])) x y
theorem Su (used:List Nat)(x:I3):∃m,pj used x=used++m:=by
 unfold pj;split
 ·split
  ·exact⟨[],by simp⟩
  exact⟨_,rfl⟩
 exact⟨[],by simp⟩
theorem GP {c:aD}(hc:CR c){is:List Bool}{used:List Nat}{i:Nat}{x:I3}(hx:c.ins[i]?=some x):pz c is ((pj used x).map (λa=>c.sets.getD a [])) x (jW c is used x):=by
 unfold pz jW pj;by_cases h1:x.op=1
 ·rw[if_pos h1,if_pos h1];refine⟨rfl,λ_=>?_,λh=>absurd h (by omega),λh=>absurd h (by omega),λh=>absurd h1 h⟩;dsimp only;rw[Int.toNat_natCast];by_cases hm:x.a.toNat∈used
  ·rw[if_pos hm,if_pos hm];have hg:=Ir hm;have hl:=(List.getElem?_eq_some_iff.1 hg).1;refine⟨rfl,by omega,by rw[List.length_map];exact hl,?_⟩;rw[List.getD_eq_getElem?_getD,List.getElem?_map,hg];rfl
  rw[if_neg hm,if_neg hm];refine⟨rfl,by omega,by rw[List.length_map,List.length_append];simp,?_⟩;rw[List.getD_eq_getElem?_getD,List.getElem?_map,List.getElem?_append_right (Nat.le_refl _)];simp
 rw[if_neg h1,if_neg h1];by_cases h3:x.op=3
 ·rw[if_pos h3];exact⟨rfl,λh=>absurd h h1,λ_=>⟨rfl,rfl⟩,λh=>absurd h (by omega),λ_ _ h=>absurd h3 h⟩
 rw[if_neg h3];by_cases h2:x.op=2
 ·rw[if_pos h2];exact⟨rfl,λh=>absurd h h1,λh=>absurd h h3,λ_=>⟨rfl,rfl⟩,λ_ h=>absurd h2 h⟩
 rw[if_neg h2];exact⟨rfl,λh=>absurd h h1,λh=>absurd h h3,λh=>absurd h h2,λ_ _ _=>rfl⟩
theorem di {c:aD}(hc:CR c){is:List Bool}:∀i,i<=c.ins.length->aLn c is i (aZ c is i)
 | 0,_=>⟨rfl,List.nodup_nil,λ_ h=>(by cases h),λj x h=>absurd h (by omega),λk y h=>(by simp[aZ]at h)⟩
 | i+1,hi=>by
  have ih:=di hc (is:=is) i (by omega);have hx:=List.getElem?_eq_getElem (show i<c.ins.length by omega)
  rw[aZ];unfold u7;rw[hx];dsimp only;by_cases hk:eB c is i=true
  ·rw[if_pos hk];have aj:fT c is (i+1)=fT c is i+1:=by rw[fT,if_pos hk]
   obtain⟨m,hm⟩:=Su (aZ c is i).used c.ins[i];have ht:=GP hc (is:=is) (used:=(aZ c is i).used) hx;refine⟨by dsimp only;rw[List.length_append,ih.len,aj];rfl,?_,?_,λj x hj HM hxj=>?_,λk y hy=>?_⟩
   ·dsimp only;unfold pj;split
    ·split
     ·exact ih.nodup
     rename_i hn;rw[List.nodup_append];exact⟨ih.nodup,by simp,λa ha b hb=>by rw[List.mem_singleton]at hb;subst hb;intro e;subst e;exact hn ha⟩
    exact ih.nodup
   ·dsimp only;intro a ha;unfold pj at ha;split at ha
    ·rename_i h1;split at ha
     ·exact ih.used a ha
     rw[List.mem_append,List.mem_singleton]at ha;rcases ha with ha|rfl
     ·exact ih.used a ha
     exact(iV hc hx ⟨by omega,by omega,by omega,by omega⟩).2.2.1
    exact ih.used a ha
   ·dsimp only;by_cases e:j=i
    ·subst e;rw[hx]at hxj;cases hxj;exact⟨_,by rw[List.getElem?_append_right (by rw[ih.len];exact Nat.le_refl _),ih.len];simp,ht⟩
    obtain⟨y,hy,hty⟩:=ih.at_ j x (by omega) HM hxj;exact⟨y,by rw[List.getElem?_append_left (List.getElem?_eq_some_iff.1 hy).1];exact hy,by rw[hm,List.map_append];exact hty.more⟩
   dsimp only at hy;rcases Nat.lt_or_ge k (aZ c is i).ins.length with h|h
   ·rw[List.getElem?_append_left h]at hy;obtain⟨j,x,h1,h2,h3,h4,h5⟩:=ih.all k y hy;exact⟨j,x,by omega,h2,h3,h4,by dsimp only;rw[hm,List.map_append];exact h5.more⟩
   rw[List.getElem?_append_right h]at hy;have:k=(aZ c is i).ins.length:=by
    have:=(List.getElem?_eq_some_iff.1 hy).1;simp at this;omega
   subst this;rw[Nat.sub_self]at hy;cases hy;exact⟨i,_,by omega,hk,ih.len.symm,hx,ht⟩
  rw[if_neg hk];have aj:fT c is (i+1)=fT c is i:=by rw[fT,if_neg hk]
  refine⟨by rw[ih.len,aj],ih.nodup,ih.used,λj x hj HM hxj=>?_,λk y hy=>?_⟩
  ·by_cases e:j=i
   ·subst e;exact absurd HM hk
   exact ih.at_ j x (by omega) HM hxj
  obtain⟨j,x,h1,h2⟩:=ih.all k y hy;exact⟨j,x,by omega,h2⟩
theorem Da {c:aD}(hc:CR c){is:List Bool}(hC:sM c is)(tail:List I3)(i:Nat)(hi:is[i]?=some true)(ps:List Int) :
  Acc c i ps↔Acc ⟨(b8 c is).sets,(b8 c is).ins++tail⟩ (fT c is i) ps:=by
 have hI:=di hc (is:=is) c.ins.length (Nat.le_refl _);have Fs:∀j,eB c is j=true->∃x y,c.ins[j]?=some x/\is[j]?=some true/\((b8 c is).ins++tail)[fT c is j]?=some y/\pz c is (b8 c is).sets x y:=λj hj=>by
  have aj:=GN hj;rw[hC.len]at aj;obtain⟨y,hy,ht⟩:=hI.at_ j _ aj hj (List.getElem?_eq_getElem aj);have hy':(b8 c is).ins[fT c is j]?=some y:=hy;exact⟨_,y,List.getElem?_eq_getElem aj,(GM hj).1,by rw[List.getElem?_append_left (List.getElem?_eq_some_iff.1 hy').1];exact hy',ht⟩
 have rh:∀j,eB c is j=true->fT c is (j+1)=fT c is j+1:=λj hj=>by rw[fT,if_pos hj]
 constructor
 ·rintro⟨h,ha⟩;induction h generalizing i ps with
  | zero=>exact ha.elim
  | succ h ih =>
   by_cases hk:eB c is i=true
   ·obtain⟨x,y,hx,_,hy,ho,t1,t3,t2,t0⟩:=Fs i hk;have hl:=hC.leads i x hi hx;rw[dH,hx]at ha;dsimp only at ha;by_cases h5:x.op=5
    ·exact lK hy (by omega)
    rw[if_neg h5]at ha;by_cases h2:x.op=2
    ·rw[if_pos h2]at ha;obtain⟨e1,e2⟩:=t2 h2;rw[fC hy (by omega),e1,e2,Int.toNat_natCast,Int.toNat_natCast];exact ha.imp (ih _ (hl _ (.inl ⟨h2,.inl rfl⟩)) _) (ih _ (hl _ (.inl ⟨h2,.inr rfl⟩)) _)
    rw[if_neg h2]at ha;by_cases h3:x.op=3
    ·rw[if_pos h3]at ha;obtain⟨e1,e2⟩:=t3 h3;rw[gH hy (by omega),e1,Int.toNat_natCast];exact ih _ (hl _ (.inr (.inl ⟨h3,rfl⟩))) _ ha
    rw[if_neg h3]at ha;by_cases h4:x.op=4
    ·rw[if_pos h4]at ha;rw[mo hy (by omega),<-rh i hk];exact⟨ha.1,ih _ (hl _ (.inr (.inr (.inl ⟨h4,rfl⟩)))) _ ha.2⟩
    rw[if_neg h4]at ha;have h1:=(iV hc hx ⟨h2,h3,h4,h5⟩).1;obtain⟨e1,e2,e3,e4⟩:=t1 h1;cases ps with
    | nil=>exact ha.elim
    | cons p r =>
     have ha:ew (c.sets.getD x.a.toNat []) p=true/\dH c h (i+1) r:=ha;refine(gd hy ⟨by omega,by omega,by omega,by omega⟩).2 ⟨p,r,rfl,?_,?_⟩
     ·dsimp only;rw[e4];exact ha.1
     rw[<-rh i hk];refine ih _ (hl _ (.inr (.inr (.inr ⟨h1,?_,rfl⟩)))) _ ha.2;intro e;rw[e]at ha;exact absurd ha.1 (by simp[ew])
   ·have hs:nL c is i=true:=by
     unfold eB at hk;rw[decide_eq_true hi]at hk;simpa using hk
    obtain⟨j,hij,HM,htj,Fp⟩:=oA hC is.length i (by omega) hi;unfold nL at hs;cases hx:c.ins[i]? with
    | none=>rw[hx]at hs;cases hs
    | some x =>
     rw[hx]at hs;simp only[decide_eq_true_eq]at hs;obtain⟨h3,hn,HJ⟩:=hs;rw[dH,hx]at ha;dsimp only at ha;rw[if_neg (by omega),if_neg (by omega),if_pos h3]at ha;have hl:=hC.leads i x hi hx x.a.toNat (.inr (.inl ⟨h3,rfl⟩))
     have:=ih _ hl _ ha;have jC:=nY (is:=is) is.length (i+1) (by omega);have hnn:bO is is.length (i+1)=x.a.toNat:=by unfold q9 at hn;omega
     rw[hnn]at jC;have DX:fT c is x.a.toNat=fT c is i:=by
      apply BZ (by omega);intro k Nk jI;by_cases e:k=i
      ·subst e;simpa using hk
      unfold eB;rw[decide_eq_false (jC.2 k (by omega) jI)];rfl
     rwa [DX]at this
 rintro⟨h,ha⟩;obtain⟨j,hij,HM,htj,Fp⟩:=oA hC is.length i (by omega) hi;refine(Fp ps).2 ?_;rw[<-htj]at ha;clear Fp htj hi hij i;induction h generalizing j ps with
 | zero=>exact ha.elim
 | succ h ih =>
  have step:∀k,is[k]?=some true->∀ps,dH ⟨(b8 c is).sets,(b8 c is).ins++tail⟩ h (fT c is k) ps->Acc c k ps:=λk hk ps ha=>by
   obtain⟨j',h1,h2,h3,h4⟩:=oA hC is.length k (by omega) hk;rw[<-h3]at ha;exact(h4 ps).2 (ih _ _ ha h2)
  obtain⟨x,y,hx,hi,hy,ho,t1,t3,t2,t0⟩:=Fs j HM;have hl:=hC.leads j x hi hx;rw[dH,hy]at ha;dsimp only at ha;by_cases h5:x.op=5
  ·exact lK hx h5
  rw[if_neg (by omega)]at ha;by_cases h2:x.op=2
  ·rw[if_pos (by omega)]at ha;obtain⟨e1,e2⟩:=t2 h2;rw[e1,e2,Int.toNat_natCast,Int.toNat_natCast]at ha;rw[fC hx h2];exact ha.imp (step _ (hl _ (.inl ⟨h2,.inl rfl⟩)) _) (step _ (hl _ (.inl ⟨h2,.inr rfl⟩)) _)
  rw[if_neg (by omega)]at ha;by_cases h3:x.op=3
  ·rw[if_pos (by omega)]at ha;obtain⟨e1,e2⟩:=t3 h3;rw[e1,Int.toNat_natCast]at ha;rw[gH hx h3];exact step _ (hl _ (.inr (.inl ⟨h3,rfl⟩))) _ ha
  rw[if_neg (by omega)]at ha;by_cases h4:x.op=4
  ·rw[if_pos (by omega),<-rh j HM]at ha;rw[mo hx h4];exact⟨ha.1,step _ (hl _ (.inr (.inr (.inl ⟨h4,rfl⟩)))) _ ha.2⟩
  rw[if_neg (by omega),<-rh j HM]at ha;have h1:=(iV hc hx ⟨h2,h3,h4,h5⟩).1;obtain⟨e1,e2,e3,e4⟩:=t1 h1;cases ps with
  | nil=>exact ha.elim
  | cons p r =>
   have ha:ew ((b8 c is).sets.getD y.a.toNat []) p=true/\dH ⟨(b8 c is).sets,(b8 c is).ins++tail⟩ h (fT c is (j+1)) r:=ha;rw[e4]at ha;refine(gd hx ⟨h2,h3,h4,h5⟩).2 ⟨p,r,rfl,ha.1,step _ (hl _ (.inr (.inr (.inr ⟨h1,?_,rfl⟩)))) _ ha.2⟩;intro e;rw[e]at ha;exact absurd ha.1 (by simp[ew])
def DK:I3:=⟨5,0,0⟩
theorem RO {c:aD}(hc:CR c)(is:List Bool):(b8 c is).ins.length=fT c is c.ins.length:=(di hc (is:=is) c.ins.length (Nat.le_refl _)).len
theorem JA {c:aD}(hc:CR c){is:List Bool}(hC:sM c is):1<=(b8 c is).ins.length/\(b8 c is).ins.length<=c.ins.length/\(b8 c is).sets.length<=c.sets.length /\
  (aS (b8 c is)=true\/(aS (b8 c is)=false/\(b8 c is).ins.length+1<=c.ins.length/\CR ⟨(b8 c is).sets,(b8 c is).ins++[DK]⟩)):=by
 have hI:=di hc (is:=is) c.ins.length (Nat.le_refl _);have hlen:=RO hc is;have hle:=kW (c:=c) (is:=is) c.ins.length;have h1:1<=(b8 c is).ins.length:=by
  obtain⟨j,_,h2,_⟩:=oA hC is.length 0 (by omega) hC.zero
  have:=GN h2;rw[hC.len]at this
  have:=Y8 this h2;omega
 have oh:(b8 c is).sets.length<=c.sets.length:=by
  show ((aZ c is c.ins.length).used.map _).length<=_
  rw[List.length_map];exact nH _ _ hI.nodup hI.used
 have hsr:∀s∈(b8 c is).sets,aO (-2) s=true:=λs hs=>by
  obtain⟨a,ha,rfl⟩:=List.mem_map.1 (show s∈(aZ c is c.ins.length).used.map (λa=>c.sets.getD a []) from hs)
  have aj:=hI.used a ha;rw[List.getD_eq_getElem?_getD,List.getElem?_eq_getElem aj];exact hc.set _ (List.getElem_mem aj)
 have AI:∀k,is[k]?=some true->fT c is k<(b8 c is).ins.length:=λk hk=>by
  obtain⟨j,_,h2,h3,_⟩:=oA hC is.length k (by omega) hk
  have:=GN h2;rw[hC.len]at this
  have:=Y8 this h2;omega
 have Ci:∀(k:Nat) (y:I3),(b8 c is).ins[k]?=some y->bJ y (b8 c is).sets.length (b8 c is).ins.length=true/\(y.op=4->k+1<(b8 c is).ins.length) /\
   (y.op=1->k+1<(b8 c is).ins.length\/(b8 c is).ins.length+1<=c.ins.length):=λk y hy=>by
  obtain⟨j,x,hj,HM,htj,hx,ho,t1,t3,t2,t0⟩:=hI.all k y hy;have hi:=(GM HM).1;have hl:=hC.leads j x hi hx;have rh:fT c is (j+1)=fT c is j+1:=by rw[fT,if_pos HM]
  have hr:=hc.ins j x hx;refine⟨?_,λh4=>?_,λh=>?_⟩
  ·unfold bJ;rcases cJ hr with ⟨e,g1,g2,g3⟩|⟨e,g1,g2,g3,g4⟩|⟨e,g1,g2,g3⟩|⟨e,g1,g2⟩
   ·obtain⟨e1,e2,e3,e4⟩:=t1 e;rw[if_pos (by omega)];have:(y.a.toNat:Nat)<(b8 c is).sets.length:=e3;exact decide_eq_true ⟨e2,by omega,by omega⟩
   ·obtain⟨e1,e2⟩:=t2 e;rw[if_neg (by omega),if_pos (by omega)];have q1:=AI _ (hl _ (.inl ⟨e,.inl rfl⟩));have q2:=AI _ (hl _ (.inl ⟨e,.inr rfl⟩));exact decide_eq_true ⟨⟨by omega,by omega⟩,by omega,by omega⟩
   ·obtain⟨e1,e2⟩:=t3 e;rw[if_neg (by omega),if_neg (by omega),if_pos (by omega)];have q1:=AI _ (hl _ (.inr (.inl ⟨e,rfl⟩)));exact decide_eq_true ⟨⟨by omega,by omega⟩,by omega⟩
   have:=t0 (by omega) (by omega) (by omega);subst this;rw[if_neg (by omega),if_neg (by omega),if_neg (by omega),if_pos e];exact decide_eq_true ⟨g1,g2⟩
  ·have:=AI _ (hl _ (.inr (.inr (.inl ⟨by omega,rfl⟩))));omega
  have aj:=hc.next j x hx (.inl (by omega));by_cases hn:is[j+1]?=some true
  ·have:=AI _ hn;omega
  right;have hkn:eB c is (j+1)=false:=by unfold eB;rw[decide_eq_false hn];rfl
  have q1:fT c is (j+2)=fT c is (j+1):=by rw[fT,hkn];simp
  have q2:=kW (c:=c) (is:=is) (j+1);have q3:∀m,fT c is (j+2+m)<=fT c is (j+2)+m:=λm=>by
   induction m with
   | zero=>exact Nat.le_refl _
   | succ m ih=>rw[<-Nat.add_assoc,fT];split<;>omega
  have:=q3 (c.ins.length-(j+2));rw[show j+2+(c.ins.length-(j+2))=c.ins.length by omega]at this
  omega
 refine⟨h1,by omega,oh,?_⟩;have hm:=hc.many;have hs:=hc.sets;by_cases hR:aS (b8 c is)=true
 ·exact .inl hR
 right;have GG:(b8 c is).ins.length+1<=c.ins.length:=by
  apply Classical.byContradiction;intro hn;apply hR;apply CR.to;refine⟨h1,by omega,by omega,λk y hy=>(Ci k y hy).1,λk y hy hop=>?_,hsr⟩;rcases hop with h|h
  ·rcases(Ci k y hy).2.2 h with h|h
   ·exact h
   exact absurd h hn
  exact(Ci k y hy).2.1 h
 refine⟨by simpa using hR,GG,?_⟩;have WS:((b8 c is).ins++[DK]).length=(b8 c is).ins.length+1:=by simp
 have wid:∀y:I3,bJ y (b8 c is).sets.length (b8 c is).ins.length=true->bJ y (b8 c is).sets.length ((b8 c is).ins++[DK]).length=true:=λy hy=>by
  rw[WS];unfold bJ;rcases cJ hy with ⟨e,g1,g2,g3⟩|⟨e,g1,g2,g3,g4⟩|⟨e,g1,g2,g3⟩|⟨e,g1,g2⟩
  ·rw[if_pos e];exact decide_eq_true ⟨g1,g2,g3⟩
  ·rw[if_neg (by omega),if_pos e];exact decide_eq_true ⟨⟨by omega,by omega⟩,by omega,by omega⟩
  ·rw[if_neg (by omega),if_neg (by omega),if_pos e];exact decide_eq_true ⟨⟨by omega,by omega⟩,by omega⟩
  rw[if_neg (by omega),if_neg (by omega),if_neg (by omega),if_pos e];exact decide_eq_true ⟨g1,g2⟩
 refine⟨by dsimp only;omega,by dsimp only;omega,by dsimp only;omega,λk y hy=>?_,λk y hy hop=>?_,hsr⟩
 ·dsimp only at hy ⊢
  rcases Nat.lt_or_ge k (b8 c is).ins.length with h|h
  ·rw[List.getElem?_append_left h]at hy;exact wid y (Ci k y hy).1
  rw[List.getElem?_append_right h]at hy;have:k-(b8 c is).ins.length=0:=by
   have:=(List.getElem?_eq_some_iff.1 hy).1;simp at this;omega
  rw[this]at hy;cases hy;rfl
 dsimp only at hy ⊢
 rw[WS];rcases Nat.lt_or_ge k (b8 c is).ins.length with h|h
 ·omega
 rw[List.getElem?_append_right h]at hy;have:k-(b8 c is).ins.length=0:=by
  have:=(List.getElem?_eq_some_iff.1 hy).1;simp at this;omega
 rw[this]at hy;cases hy;exact absurd hop (by simp[DK])
end Cae
end
end
section
namespace Go.Proofs.YtemjejfpadnljaaGreatDoor
open Go.Vc Go.Proofs Go.RowKit Cae
attribute [local irreducible] cg aa ag aX runK ar Sl Vc.Own vc aQ br a7
def ay (r:Rg):List Value:=[.int .i64 r.1,.int .i64 r.2]
theorem DF (last:Int)(r:Rg)(s:List Rg):aO last (r::s)=if r.1<=last+1\/r.2<r.1\/1114111<r.2 then false else aO r.2 s:=rfl
theorem tK (s:List Rg)(hs:s.length<1000000000)(X:Nat->Prop)(v:Value)(w:World)(hv:Sl X 2 (En ay) w v s) :
  ar Tryz.prog 125 [v] w λr w'=>r=.bool (aO (-2) s)/\Below w.heap.size w w':=by
 obtain⟨a,c,rfl,hc⟩:=hv.shape;refine aE Tryz.func125 rfl (by kernel_rfl) [2] rfl ?_;push_cast -dsimp(maxSteps:=4000000) [Tryz.ntmps125];refine aK [2,3,5,8,9,10,11,12,13,14,15,16,17,18,19,20,21,22,23,24,25,26,27,28,29,30,31] (λz wx=>∃(i:Nat) (last:Int),z 8=.int .i64 i/\z 3=.int .i64 last/\i<=s.length/\(-2<=last/\last<=1114111)/\aO last (s.drop i)=aO (-2) s/\Below w.heap.size w wx) (λz _=>s.length-(intOf (z 8)).toNat) ?_ ?_
 ·exact⟨0,-2,rfl,rfl,Nat.zero_le _,by omega,rfl,Below.refl _ _⟩
 intro z wx hI;obtain⟨i,last,h8,h3,hi,hl,hd,hb⟩:=hI;push_cast -dsimp[h8,h3];refine⟨λaj=>?_,λeo=>?_⟩
 ·obtain⟨x,hx,mm,hdx,ht⟩:=ah (l:=s) (i:=i) (by omega);obtain⟨b,o,rfl,hX,aU⟩:=(hv.below hb).get hx;have c0:aB wx ⟨b,o+i*2,none⟩ 0 2=some [.int .i64 x.1,.int .i64 x.2]:=ak (ay x) 0 (λj u hu=>by simpa using aU j u hu);push_cast -dsimp[c0];refine⟨⟨by omega,by omega⟩,?_⟩;refine ao (z:=[.int .i64 0,.int .i64 0]) (by kernel_rfl) ?_;intro w1 aV;push_cast -dsimp;refine aH (n:=2) (by kernel_rfl) aV.aM rfl (by simp) (by simp[Value.oneCell']) ?_;intro w2 bH;have c1:w2.cell? ⟨wx.heap.size,0,none⟩=some (.int .i64 x.1):=bH.aM.cell rfl;have c2:w2.cell? ⟨wx.heap.size,1,none⟩=some (.int .i64 x.2):=bH.aM.cell rfl;have dt:Below w.heap.size w w2:=hb.trans ((aV.below.mono hb.size).trans (bH.kept.below (by have:=aV.size;have:=hb.size;omega) (λ_ h=>by have:=hb.size;omega)));rw[hdx,DF]at hd;push_cast -dsimp[c1,c2];refine⟨⟨by omega,by omega⟩,λh1=>⟨λh2=>⟨λh3=>?_,λh3=>?_⟩,λh2=>?_⟩,λh1=>?_⟩
  ·rw[if_pos (by omega)]at hd;exact⟨by rw[hd],dt⟩
  ·rw[if_neg (by omega)]at hd;exact⟨⟨by omega,by omega⟩,⟨i+1,x.2,rfl,rfl,by omega,by omega,hd,dt⟩,by rw[h8];simp only[intOf];omega⟩
  ·rw[if_pos (by omega)]at hd;exact⟨by rw[hd],dt⟩
  rw[if_pos (by omega)]at hd;exact⟨by rw[hd],dt⟩
 rw[List.drop_eq_nil_of_le (by omega)]at hd;exact⟨by rw[<-hd];rfl,hb⟩
end Go.Proofs.YtemjejfpadnljaaGreatDoor
end
section
namespace Go.Proofs.YtemjejfpadnljaaGreatDoor
open Go.Vc Go.Proofs Go.RowKit Cae
def Arg (v:Value):Prop:=∀n c,v=.slice none n c->n=0/\c=0
theorem iL:∀x,∀u∈ay x,u.oneCell'=true:=by simp[ay,Value.oneCell']
end Go.Proofs.YtemjejfpadnljaaGreatDoor
end
section
namespace Cae
def inB (l:List Rg)(p:Int):Bool:=decide (0<=p/\p<=1114111) && ew l p
theorem mH (p:Int):ew [] p=false:=rfl
theorem bz (r:Rg)(s:List Rg)(p:Int):ew (r::s) p=(decide (r.1<=p/\p<=r.2) || ew s p):=by unfold ew;rw[List.any_cons]
theorem uC (a b:List Rg)(p:Int):ew (a++b) p=(ew a p || ew b p):=by unfold ew;rw[List.any_append]
theorem n0:∀{s:List Rg} {a b:Int},b<=a->aO a s=true->aO b s=true
 | [],_,_,_,_=>rfl
 | r::s,a,b,h,hs=>by
  unfold aO at hs ⊢
  split at hs
  ·cases hs
  rw[if_neg (by omega)];exact hs
theorem bo {r:Rg}{s:List Rg}{a:Int}:aO a (r::s)=true↔(a+1<r.1/\r.1<=r.2/\r.2<=1114111)/\aO r.2 s=true:=by
 rw[aO];split
 ·constructor
  ·intro h;cases h
  rintro⟨h,_⟩;omega
 constructor
 ·intro h;exact⟨by omega,h⟩
 exact λh=>h.2
theorem rJ:∀{s:List Rg} {a p:Int},aO a s=true->ew s p=true->a+1<p/\p<=1114111
 | [],_,_,_,h=>by cases h
 | r::s,a,p,hs,h=>by
  rw[bo]at hs;rw[bz,Bool.or_eq_true,decide_eq_true_eq]at h;rcases h with h|h
  ·omega
  have:=rJ hs.2 h;omega
theorem uD {s:List Rg}{a p:Int}(hs:aO a s=true)(hp:p<=a+1):ew s p=false:=by
 cases h:ew s p with
 | false=>rfl
 | true=>have:=rJ hs h;omega
theorem Of:∀{s t:List Rg} {a b:Int},aO a s=true->aO b t=true->(∀p,ew s p=ew t p)->s=t
 | [],[],_,_,_,_,_=>rfl
 | [],q::t,_,_,_,ht,h=>by
  rw[bo]at ht
  have:=h q.1;rw[bz,decide_eq_true (by omega)]at this;cases this
 | r::s,[],_,_,hs,_,h=>by
  rw[bo]at hs
  have:=h r.1;rw[bz,decide_eq_true (by omega)]at this;cases this
 | r::s,q::t,a,b,hs,ht,h=>by
  have Qp:=bo.1 hs;have Nr:=bo.1 ht;obtain⟨⟨s1,s2,s3⟩,s4⟩:=Qp;obtain⟨⟨t1,t2,t3⟩,t4⟩:=Nr;have e1:r.1=q.1:=by
   have h1:=h r.1;rw[bz r,decide_eq_true (by omega),Bool.true_or]at h1;have h2:=h q.1;rw[bz q,decide_eq_true (p:=q.1<=q.1/\q.1<=q.2) (by omega),Bool.true_or]at h2;rcases Int.lt_trichotomy r.1 q.1 with aj|heq|HJ
   ·have h1:=h1.symm;rw[bz,decide_eq_false (by omega),Bool.false_or]at h1
    have:=rJ t4 h1;omega
   ·exact heq
   rw[bz,decide_eq_false (by omega),Bool.false_or]at h2
   have:=rJ s4 h2;omega
  have e2:r.2=q.2:=by
   rcases Int.lt_trichotomy r.2 q.2 with aj|heq|HJ
   ·have h1:=h (r.2+1);rw[bz,bz,decide_eq_false (by omega),uD s4 (by omega),decide_eq_true (by omega)]at h1;cases h1
   ·exact heq
   have h1:=h (q.2+1);rw[bz,bz,decide_eq_true (by omega),uD t4 (by omega),decide_eq_false (by omega)]at h1;cases h1
  have e:r=q:=Prod.ext e1 e2;subst e;congr 1;refine Of s4 t4 (λp=>?_);by_cases hp:p<=r.2+1
  ·rw[uD s4 hp,uD t4 hp]
  have:=h p;rw[bz,bz,decide_eq_false (by omega),Bool.false_or,Bool.false_or]at this;exact this
def gC (out:List Rg)(r:Rg):List Rg :=
 if min r.2 1114111<max r.1 0 then out
 else match out.getLast? with
  | none=>[(max r.1 0,min r.2 1114111)]
  | some q=>if max r.1 0<=q.2+1 then out.dropLast++[(q.1,max q.2 (min r.2 1114111))] else out++[(max r.1 0,min r.2 1114111)]
def AZ (a:Int):List Rg->Int
 | []=>a
 | r::s=>AZ r.2 s
theorem xM (a:Int):∀(s:List Rg) (r:Rg),AZ a (s++[r])=r.2
 | [],r=>rfl
 | q::s,r=>by rw[List.cons_append,AZ,xM]
theorem ju (r:Rg):∀(s:List Rg) (a:Int),aO a (s++[r])=true↔aO a s=true/\AZ a s+1<r.1/\r.1<=r.2/\r.2<=1114111
 | [],a=>by
  rw[List.nil_append,bo];exact⟨λh=>⟨rfl,h.1⟩,λh=>⟨h.2,rfl⟩⟩
 | q::s,a=>by
  rw[List.cons_append,bo,bo,ju r s q.2,AZ];exact⟨λh=>⟨⟨h.1,h.2.1⟩,h.2.2⟩,λh=>⟨h.1.1,h.1.2,h.2⟩⟩
structure HW (out done:List Rg):Prop where
 right:aO (-2) out=true
 has:∀p,ew out p=inB done p
theorem uS (l:List Rg)(r:Rg)(p:Int):inB (l++[r]) p=(inB l p || decide (max r.1 0<=p/\p<=min r.2 1114111)):=by
 unfold inB;rw[uC,bz,mH,Bool.or_false];by_cases h:0<=p/\p<=1114111
 ·rw[decide_eq_true h,Bool.true_and,Bool.true_and];congr 1;rw[decide_eq_decide];omega
 rw[decide_eq_false h,Bool.false_and,Bool.false_and,decide_eq_false (by omega)];rfl
theorem MS {out done:List Rg}{r:Rg}(h:HW out done)(AF:∀q∈out,q.1<=max r.1 0):HW (gC out r) (done++[r]):=by
 unfold gC;split
 ·rename_i aj;refine⟨h.right,λp=>?_⟩;rw[uS,h.has,decide_eq_false (by omega),Bool.or_false]
 rename_i eo;split
 ·rename_i hn;have:out=[]:=by simpa using hn
  subst this;refine⟨bo.2 ⟨⟨by omega,by omega,by omega⟩,rfl⟩,λp=>?_⟩;rw[uS,<-h.has,bz];rw[mH,Bool.or_false,Bool.false_or]
 rename_i q hq;have tT:out=out.dropLast++[q]:=by
  have cW:out≠[]:=λe=>by subst e;simp at hq
  have:=List.dropLast_concat_getLast cW;rw[List.getLast?_eq_some_getLast cW]at hq;cases hq;exact this.symm
 have hqm:q∈out:=by rw[tT];simp
 have hql:=AF q hqm;have hr:=h.right;rw[tT,ju]at hr;obtain⟨r1,r2,r3,r4⟩:=hr;split
 ·rename_i hm;refine⟨(ju _ _ _).2 ⟨r1,by dsimp only;omega,by dsimp only;omega,by dsimp only;omega⟩,λp=>?_⟩;rw[uS,<-h.has,uC]
  conv=>rhs;rw[tT,uC]
  rw[bz,bz,mH,Bool.or_false,Bool.or_false,Bool.or_assoc];congr 1;rw[<-Bool.decide_or,decide_eq_decide];dsimp only;omega
 rename_i hm;refine⟨(ju _ _ _).2 ⟨h.right,?_,by dsimp only;omega,by dsimp only;omega⟩,λp=>?_⟩
 ·rw[tT,xM];dsimp only;omega
 rw[uS,<-h.has,uC,bz,mH,Bool.or_false]
theorem Ro {out:List Rg}{r:Rg}{m:Int}(AF:∀q∈out,q.1<=m)(hr:max r.1 0<=m):∀q∈gC out r,q.1<=m:=by
 intro q hq;unfold gC at hq;split at hq
 ·exact AF q hq
 split at hq
 ·simp at hq;subst hq;exact hr
 rename_i q' hq';have hqm:q'∈out:=List.mem_of_getLast? hq';split at hq
 ·rcases List.mem_append.1 hq with h|h
  ·exact AF q (List.dropLast_subset _ h)
  simp at h;subst h;exact AF q' hqm
 rcases List.mem_append.1 hq with h|h
 ·exact AF q h
 simp at h;subst h;exact hr
def ir (l:List Rg):List Rg:=l.foldl gC []
def yr (l:List Rg):Prop:=l.Pairwise λa b=>a.1<=b.1
theorem tC:∀(n:Nat) (l:List Rg),yr l->n<=l.length->HW (ir (l.take n)) (l.take n)/\∀q∈ir (l.take n),∀(i:Nat) (r:Rg),n<=i->l[i]?=some r->q.1<=max r.1 0
 | 0,l,_,_=>⟨⟨rfl,λp=>by rw[List.take_zero];unfold inB;rw[mH,Bool.and_false];rfl⟩,λq hq=>by rw[List.take_zero]at hq;cases hq⟩
 | n+1,l,hR,hn=>by
  obtain⟨h1,h2⟩:=tC n l hR (by omega);have hx:=List.getElem?_eq_getElem (l:=l) (i:=n) (by omega);have e:l.take (n+1)=l.take n++[l[n]]:=by rw[List.take_add_one,hx];rfl
  have ef:ir (l.take (n+1))=gC (ir (l.take n)) l[n]:=by unfold ir;rw[e,List.foldl_append];rfl
  rw[ef,e];refine⟨MS h1 (λq hq=>h2 q hq n _ (Nat.le_refl _) hx),λq hq i r hi hr=>?_⟩;have aj:=(List.getElem?_eq_some_iff.1 hr).1;have hle:l[n].1<=r.1:=by
   have:=List.pairwise_iff_getElem.1 hR n i (by omega) aj (by omega);rw[List.getElem?_eq_getElem aj]at hr;cases hr;exact this
  exact Ro (m:=max r.1 0) (λq hq=>h2 q hq i r (by omega) hr) (by omega) q hq
theorem xW {l:List Rg}(hR:yr l):HW (ir l) l:=by
 have:=(tC l.length l hR (Nat.le_refl _)).1;rwa [List.take_length]at this
def setOf (l:List Rg):List Rg:=ir (l.mergeSort λa b=>decide (a.1<=b.1))
theorem DT {l m:List Rg}(h:l.Perm m)(p:Int):ew l p=ew m p:=by
 unfold ew;rw[Bool.eq_iff_iff,List.any_eq_true,List.any_eq_true];exact⟨λ⟨r,h1,h2⟩=>⟨r,h.mem_iff.1 h1,h2⟩,λ⟨r,h1,h2⟩=>⟨r,h.mem_iff.2 h1,h2⟩⟩
theorem BN (l:List Rg):HW (setOf l) l:=by
 have hs:yr (l.mergeSort λa b=>decide (a.1<=b.1)):=by
  have:=List.pairwise_mergeSort (le:=λ(a b:Rg)=>decide (a.1<=b.1)) (λa b c h1 h2=>by simp only[decide_eq_true_eq]at *;omega) (λa b=>by simp only[Bool.or_eq_true,decide_eq_true_eq];omega) l;exact this.imp λh=>by simpa using h
 have h:=xW hs;refine⟨h.right,λp=>(h.has p).trans ?_⟩;unfold inB;rw[DT (List.mergeSort_perm l _)]
theorem S8 {l m:List Rg}(hp:m.Perm l)(hR:yr m):ir m=setOf l:=by
 have h1:=xW hR;have h2:=BN l;refine Of h1.right h2.right (λp=>?_);rw[h1.has,h2.has];unfold inB;rw[DT hp]
def oD:Int->List Rg->List Rg
 | f,[]=>if f<=1114111 then [(f,1114111)] else []
 | f,r::s=>(if f<r.1 then [(f,r.1-1)] else [])++oD (r.2+1) s
def gq (s:List Rg):List Rg:=oD 0 s
theorem Ai:∀(s:List Rg) (f:Int),aO (f-2) s=true->aO (f-2) (oD f s)=true/\∀p,ew (oD f s) p=(decide (f<=p/\p<=1114111) && !ew s p)
 | [],f,_=>by
  rw[oD];split
  ·refine⟨bo.2 ⟨⟨by dsimp only;omega,by dsimp only;omega,by dsimp only;omega⟩,rfl⟩,λp=>?_⟩;rw[bz,mH,Bool.or_false,Bool.not_false,Bool.and_true]
  refine⟨rfl,λp=>?_⟩;rw[mH,decide_eq_false (by omega),Bool.false_and]
 | r::s,f,h=>by
  rw[bo]at h;obtain⟨⟨h1,h2,h3⟩,h4⟩:=h;obtain⟨i1,i2⟩:=Ai s (r.2+1) (n0 (by omega) h4);rw[oD];have key:∀p,(decide (f<=p/\p<=r.1-1) || ew (oD (r.2+1) s) p)=(decide (f<=p/\p<=1114111) && !ew (r::s) p):=λp=>by
   rw[i2,bz,Bool.not_or];by_cases hp:p<=r.2+1
   ·rw[uD h4 hp];simp only[Bool.not_false,Bool.and_true];rw[<-Bool.decide_or,<-decide_not,<-Bool.decide_and,decide_eq_decide];omega
   rw[decide_eq_false (p:=f<=p/\p<=r.1-1) (by omega),decide_eq_false (p:=r.1<=p/\p<=r.2) (by omega),Bool.false_or,Bool.not_false,Bool.true_and];congr 1;rw[decide_eq_decide];omega
  split
  ·refine⟨?_,λp=>?_⟩
   ·rw[List.singleton_append];exact bo.2 ⟨⟨by dsimp only;omega,by dsimp only;omega,by dsimp only;omega⟩,n0 (by dsimp only;omega) i1⟩
   rw[List.singleton_append,bz];exact key p
  refine⟨?_,λp=>?_⟩
  ·rw[List.nil_append];exact n0 (by omega) i1
  rw[List.nil_append]
  have:=key p;rwa [decide_eq_false (p:=f<=p/\p<=r.1-1) (by omega),Bool.false_or]at this
theorem pN {s:List Rg}(h:aO (-2) s=true):aO (-2) (gq s)=true:=(Ai s 0 h).1
def BO (s t:List Rg):List Rg:=setOf (s++t)
def BM (s t:List Rg):List Rg:=gq (BO (gq s) (gq t))
def yg (s t:List Rg):List Rg:=BM s (gq t)
theorem qw (s t:List Rg):aO (-2) (BO s t)=true:=(BN _).right
theorem vA (s t:List Rg):aO (-2) (BM s t)=true:=pN (qw _ _)
theorem DE (s t:List Rg):aO (-2) (yg s t)=true:=vA _ _
theorem MT (out:List Rg)(r:Rg):(gC out r).length<=out.length+1:=by
 unfold gC;split
 ·omega
 split
 ·simp
 split
 ·simp only[List.length_append,List.length_dropLast,List.length_cons,List.length_nil];omega
 simp
theorem Aj (l:List Rg):(ir l).length<=l.length:=by
 have key:∀(l out:List Rg),(l.foldl gC out).length<=out.length+l.length:=λl=>by
  induction l with
  | nil=>intro out;simp
  | cons r l ih =>
   intro out;rw[List.foldl_cons,List.length_cons]
   have:=ih (gC out r)
   have:=MT out r;omega
 have:=key l [];unfold ir;simpa using this
theorem S9 (l:List Rg):(setOf l).length<=l.length:=by
 have:=Aj (l.mergeSort λa b=>decide (a.1<=b.1));rwa [List.length_mergeSort]at this
theorem Df:∀(s:List Rg) (f:Int),(oD f s).length<=s.length+1
 | [],f=>by rw[oD];split<;>simp
 | r::s,f=>by
  rw[oD,List.length_append,List.length_cons]
  have:=Df s (r.2+1);split<;>simp<;>omega
theorem tJ (s:List Rg):(gq s).length<=s.length+1:=Df s 0
theorem Sa (s t:List Rg):(BO s t).length<=s.length+t.length:=by
 have:=S9 (s++t);rwa [List.length_append]at this
end Cae
end
