/- Texts of this claim, merged: P, Set, Arg, Pset. -/
import Derived.Test.YtodeeahdhnjpkaaGreatDoorM2
set_option maxRecDepth 100000
set_option linter.unusedSimpArgs false
set_option linter.unusedVariables false
set_option maxHeartbeats 8000000
section
section
namespace Cae
open Go Go.Vc
theorem wrap_i64 {n:Int}(h : -9223372036854775808<=n/\n<=9223372036854775807):IntKind.i64.wrap n=n:=by rw[IntKind.wrap_i64];omega
theorem fW {n:Nat}(h:n<9223372036854775808):IntKind.i64.wrap (n:Int)=n:=wrap_i64 (by omega)
theorem wrap_u8 (n:Int):IntKind.u8.wrap n=n % 256:=by simp[IntKind.wrap,IntKind.bits,IntKind.signed]
theorem iH (n:Nat):IntKind.u8.wrap (n:Int)=((n % 256:Nat):Int):=by rw[wrap_u8];omega
theorem fX (n:Nat):IntKind.u64.wrap (n:Int)=((n % 18446744073709551616:Nat):Int):=by simp[IntKind.wrap,IntKind.bits,IntKind.signed]
theorem qZ (n x:Nat):BitVec.ofInt n (x:Int)=BitVec.ofNat n x:=by
 apply BitVec.eq_of_toNat_eq;simp
theorem IS {x y n:Nat}(h:x<2 ^ n):x &&& y<2 ^ n:=Nat.lt_of_le_of_lt Nat.and_le_left h
theorem jX {x y:Nat}(hx:x<9223372036854775808)(hy:y<9223372036854775808):eJ .and .i64 x y=((x &&& y:Nat):Int):=by
 simp only[eJ,qZ,BitVec.toNat_and,BitVec.toNat_ofNat];rw[Nat.mod_eq_of_lt (show x<2 ^ IntKind.i64.bits by show x<2 ^ 64;omega),Nat.mod_eq_of_lt (show y<2 ^ IntKind.i64.bits by show y<2 ^ 64;omega)]
 exact fW (IS (n:=63) hx)
theorem EW {x y:Nat}(hx:x<9223372036854775808)(hy:y<9223372036854775808):eJ .or .i64 x y=((x ||| y:Nat):Int):=by
 simp only[eJ,qZ,BitVec.toNat_or,BitVec.toNat_ofNat];rw[Nat.mod_eq_of_lt (show x<2 ^ IntKind.i64.bits by show x<2 ^ 64;omega),Nat.mod_eq_of_lt (show y<2 ^ IntKind.i64.bits by show y<2 ^ 64;omega)]
 exact fW (Nat.or_lt_two_pow (n:=63) hx hy)
theorem uh {x y:Nat}(hx:x<256)(hy:y<256):eJ .and .u8 x y=((x &&& y:Nat):Int):=by
 simp only[eJ,qZ,BitVec.toNat_and,BitVec.toNat_ofNat];rw[Nat.mod_eq_of_lt (show x<2 ^ IntKind.u8.bits by show x<2 ^ 8;omega),Nat.mod_eq_of_lt (show y<2 ^ IntKind.u8.bits by show y<2 ^ 8;omega),iH,Nat.mod_eq_of_lt (IS (n:=8) hx)]
theorem lf (x k:Nat):x &&& (2 ^ k-1)=x % 2 ^ k:=Nat.and_two_pow_sub_one_eq_mod x k
theorem aCU {p x k:Nat}(h:x<2 ^ k):p*2 ^ k ||| x=p*2 ^ k+x:=by
 rw[Nat.mul_comm];exact(Nat.two_pow_add_eq_or_of_lt h p).symm
theorem De {p k:Nat}{b:Int}(hb:b.toNat=k)(hk:k<=64)(h:p*2 ^ k<9223372036854775808):IntKind.i64.wrap ((p:Int)*2 ^ min b.toNat IntKind.i64.bits)=((p*2 ^ k:Nat):Int):=by
 rw[hb,show min k IntKind.i64.bits=k from Nat.min_eq_left hk]
 rw[show ((p:Int)*2 ^ k)=((p*2 ^ k:Nat):Int) by first|(push_cast;done)|(push_cast;rfl)]
 exact fW h
theorem kB {p k:Nat}{b:Int}{kd:IntKind}(hb:b.toNat=k)(hk:k<=kd.bits):((p:Int).fdiv (2 ^ min b.toNat kd.bits))=((p / 2 ^ k:Nat):Int):=by
 rw[hb,Nat.min_eq_left hk];rw[show (2:Int) ^ k=((2 ^ k:Nat):Int) by first|(push_cast;done)|(push_cast;rfl),Int.fdiv_eq_ediv_of_nonneg _ (Int.natCast_nonneg _)]
 rfl
abbrev Rg:=Int×Int
structure I3 where
 op:Int
 a:Int
 b:Int
 deriving DecidableEq
structure rB where
 tW:List (List Rg)
 ins:List I3
 deriving DecidableEq
def aH:Int->List Rg->Bool
 | _,[]=>true
 | last,r::s=>if r.1<=last+1\/r.2<r.1\/1114111<r.2 then false else aH r.2 s
def bm (s:List Rg)(p:Int):Bool:=s.any λr=>decide (r.1<=p/\p<=r.2)
def TU (x:I3)(tW n:Int):Bool :=
 if x.op=1 then decide (0<=x.a/\x.a<tW/\x.b=0)
 else if x.op=2 then decide ((0<=x.a/\x.a<n)/\(0<=x.b/\x.b<n))
 else if x.op=3 then decide ((0<=x.a/\x.a<n)/\x.b=0)
 else if x.op=4\/x.op=5 then decide (x.a=0/\x.b=0)
 else false
theorem cu:∀(s:List Rg) (last:Int),aH last s=true->∀(i:Nat) (r:Rg),s[i]?=some r->last+1<r.1/\r.1<=r.2/\r.2<=1114111/\∀(j:Nat) (q:Rg),i<j->s[j]?=some q->r.2+1<q.1
 | [],_,_,i,r,hr=>by simp at hr
 | x::s,last,h,i,r,hr=>by
  unfold aH at h;split at h
  ·cases h
  rename_i hx;have ih:=cu s x.2 h;cases i with
  | zero =>
   simp at hr;subst hr;refine⟨by omega,by omega,by omega,λj q hj hq=>?_⟩;obtain⟨k,rfl⟩:∃k,j=k+1:=⟨j-1,by omega⟩;exact(ih k q (by simpa using hq)).1
  | succ i =>
   have zK:s[i]?=some r:=by simpa using hr
   obtain⟨h1,h2,h3,h4⟩:=ih i r zK;refine⟨by omega,h2,h3,λj q hj hq=>?_⟩;obtain⟨k,rfl⟩:∃k,j=k+1:=⟨j-1,by omega⟩;exact h4 k q (by omega) (by simpa using hq)
inductive Lk
 | yes (st:Nat)
 | no (q nx:List Nat) (st:Nat)
structure CR (c:rB):Prop where
 one:1<=c.ins.length
 many:c.ins.length<=2000
 tW:c.tW.length<=2000
 ins:∀(i:Nat) (x:I3),c.ins[i]?=some x->TU x c.tW.length c.ins.length=true
 next:∀(i:Nat) (x:I3),c.ins[i]?=some x->(x.op=1\/x.op=4)->i+1<c.ins.length
 set:∀s∈c.tW,aH (-2) s=true
structure aEG where
 brk:Bool
 before:rB
 after:rB
 deriving DecidableEq
structure aMd where
 rules:List aEG
 els:Bool
 deriving DecidableEq
def bt (n:Nat):UInt8:=UInt8.ofNat n
structure St where
 s:List UInt8
 bad:Bool
 deriving DecidableEq
def aED (c:rB)(x:I3)(i j:Nat):Prop :=
 (x.op=2/\(j=x.a.toNat\/j=x.b.toNat))\/(x.op=3/\j=x.a.toNat)\/(x.op=4/\j=i+1)\/(x.op=1/\c.tW.getD x.a.toNat []≠[]/\j=i+1)
structure aIN (c:rB)(is:List Bool):Prop where
 len:is.length=c.ins.length
 zero:is[0]?=some true
 leads:∀(i:Nat) (x:I3),is[i]?=some true->c.ins[i]?=some x->∀j,aED c x i j->is[j]?=some true
def Gg (is:List Bool):Nat->Nat->Nat
 | 0,k=>is.length
 | f+1,k=>if is[k]?=some true then k else if k<is.length then Gg is f (k+1) else is.length
def aHg (is:List Bool)(i:Nat):Nat:=Gg is is.length (i+1)
def aHq (c:rB)(is:List Bool)(i:Nat):Bool:=match c.ins[i]? with
 | none=>false
 | some x=>decide (x.op=3/\(aHg is i:Int)=x.a/\(i:Int)<x.a)
def TX (c:rB)(is:List Bool)(i:Nat):Bool:=decide (is[i]?=some true) && !aHq c is i
def toP (c:rB)(is:List Bool):Nat->Nat
 | 0=>0
 | i+1=>if TX c is i then toP c is i+1 else toP c is i
structure LS where
 used:List Nat
 ins:List I3
def QI (c:rB)(is:List Bool)(tW:List (List Rg))(x y:I3):Prop :=
 y.op=x.op/\(x.op=1->y.b=x.b/\0<=y.a/\y.a.toNat<tW.length/\tW.getD y.a.toNat []=c.tW.getD x.a.toNat [])/\(x.op=3->y.a=toP c is x.a.toNat/\y.b=x.b)/\(x.op=2->y.a=toP c is x.a.toNat/\y.b=toP c is x.b.toNat) /\
 (x.op≠1->x.op≠2->x.op≠3->y=x)
structure aOb (c:rB)(is:List Bool)(i:Nat)(s:LS):Prop where
 len:s.ins.length=toP c is i
 nodup:s.used.Nodup
 used:∀a∈s.used,a<c.tW.length
 at_:∀(j:Nat) (x:I3),j<i->TX c is j=true->c.ins[j]?=some x->∃y,s.ins[toP c is j]?=some y/\QI c is (s.used.map (λa=>c.tW.getD a [])) x y
 all:∀(k:Nat) (y:I3),s.ins[k]?=some y->∃j x,j<i/\TX c is j=true/\toP c is j=k/\c.ins[j]?=some x/\QI c is (s.used.map (λa=>c.tW.getD a [])) x y
end Cae
end
end
section
namespace Go.Proofs.YtodeeahdhnjpkaaGreatDoor
open Go.Vc Go.Proofs Go.RowKit Cae
attribute [local irreducible] cw ag aq a8 runK bD Sl Vc.Own vc aW cN ai
def encR (r:Rg):List Value:=[.int .i64 r.1,.int .i64 r.2]
theorem A0 (last:Int)(r:Rg)(s:List Rg):aH last (r::s)=if r.1<=last+1\/r.2<r.1\/1114111<r.2 then false else aH r.2 s:=rfl
theorem yj (s:List Rg)(hs:s.length<1000000000)(X:Nat->Prop)(v:Value)(w:World)(hv:Sl X 2 (En encR) w v s) :
  bD Tryz.prog 164 [v] w λr w'=>r=.bool (aH (-2) s)/\Below w.heap.size w w':=by
 obtain⟨a,c,rfl,hc⟩:=hv.shape;refine aE Tryz.func164 rfl (by kernel_rfl) [2] rfl ?_;push_cast -dsimp(maxSteps:=4000000) [Tryz.ntmps164];refine aM [2,3,5,8,9,10,11,12,13,14,15,16,17,18,19,20,21,22,23,24,25,26,27,28,29,30,31] (λz wx=>∃(i:Nat) (last:Int),z 8=.int .i64 i/\z 3=.int .i64 last/\i<=s.length/\(-2<=last/\last<=1114111)/\aH last (s.drop i)=aH (-2) s/\Below w.heap.size w wx) (λz _=>s.length-(intOf (z 8)).toNat) ?_ ?_
 ·exact⟨0,-2,rfl,rfl,Nat.zero_le _,by omega,rfl,Below.refl _ _⟩
 intro z wx hI;obtain⟨i,last,h8,h3,hi,hl,hd,hb⟩:=hI;push_cast -dsimp[h8,h3];refine⟨λbZ=>?_,λgh=>?_⟩
 ·obtain⟨x,hx,lO,hdx,ht⟩:=bK (l:=s) (i:=i) (by omega);obtain⟨b,o,rfl,hX,aP⟩:=(hv.below hb).get hx;have c0:aB wx ⟨b,o+i*2,none⟩ 0 2=some [.int .i64 x.1,.int .i64 x.2]:=bL (encR x) 0 (λj u hu=>by simpa using aP j u hu);push_cast -dsimp[c0];refine⟨⟨by omega,by omega⟩,?_⟩;refine aR (z:=[.int .i64 0,.int .i64 0]) (by kernel_rfl) ?_;intro w1 au;push_cast -dsimp;refine aF (n:=2) (by kernel_rfl) au.aN rfl (by simp) (by simp[Value.oneCell']) ?_;intro w2 bT;have c1:w2.cell? ⟨wx.heap.size,0,none⟩=some (.int .i64 x.1):=bT.aN.cell rfl;have c2:w2.cell? ⟨wx.heap.size,1,none⟩=some (.int .i64 x.2):=bT.aN.cell rfl;have eW:Below w.heap.size w w2:=hb.trans ((au.below.mono hb.size).trans (bT.kept.below (by have:=au.size;have:=hb.size;omega) (λ_ h=>by have:=hb.size;omega)));rw[hdx,A0]at hd;push_cast -dsimp[c1,c2];refine⟨⟨by omega,by omega⟩,λh1=>⟨λh2=>⟨λh3=>?_,λh3=>?_⟩,λh2=>?_⟩,λh1=>?_⟩
  ·rw[if_pos (by omega)]at hd;exact⟨by rw[hd],eW⟩
  ·rw[if_neg (by omega)]at hd;exact⟨⟨by omega,by omega⟩,⟨i+1,x.2,rfl,rfl,by omega,by omega,hd,eW⟩,by rw[h8];simp only[intOf];omega⟩
  ·rw[if_pos (by omega)]at hd;exact⟨by rw[hd],eW⟩
  rw[if_pos (by omega)]at hd;exact⟨by rw[hd],eW⟩
 rw[List.drop_eq_nil_of_le (by omega)]at hd;exact⟨by rw[<-hd];rfl,hb⟩
end Go.Proofs.YtodeeahdhnjpkaaGreatDoor
end
section
namespace Go.Proofs.YtodeeahdhnjpkaaGreatDoor
open Go.Vc Go.Proofs Go.RowKit Cae
def Arg (v:Value):Prop:=∀n c,v=.slice none n c->n=0/\c=0
theorem gS:∀x,∀u∈encR x,u.oneCell'=true:=by simp[encR,Value.oneCell']
end Go.Proofs.YtodeeahdhnjpkaaGreatDoor
end
section
namespace Cae
def inB (l:List Rg)(p:Int):Bool:=decide (0<=p/\p<=1114111) && bm l p
theorem gT (p:Int):bm [] p=false:=rfl
theorem bU (r:Rg)(s:List Rg)(p:Int):bm (r::s) p=(decide (r.1<=p/\p<=r.2) || bm s p):=by unfold bm;rw[List.any_cons]
theorem kK (a b:List Rg)(p:Int):bm (a++b) p=(bm a p || bm b p):=by unfold bm;rw[List.any_append]
theorem nG:∀{s:List Rg} {a b:Int},b<=a->aH a s=true->aH b s=true
 | [],_,_,_,_=>rfl
 | r::s,a,b,h,hs=>by
  unfold aH at hs ⊢
  split at hs
  ·cases hs
  rw[if_neg (by omega)];exact hs
theorem cE {r:Rg}{s:List Rg}{a:Int}:aH a (r::s)=true↔(a+1<r.1/\r.1<=r.2/\r.2<=1114111)/\aH r.2 s=true:=by
 rw[aH];split
 ·constructor
  ·intro h;cases h
  rintro⟨h,_⟩;omega
 constructor
 ·intro h;exact⟨by omega,h⟩
 exact λh=>h.2
theorem nU:∀{s:List Rg} {a p:Int},aH a s=true->bm s p=true->a+1<p/\p<=1114111
 | [],_,_,_,h=>by cases h
 | r::s,a,p,hs,h=>by
  rw[cE]at hs;rw[bU,Bool.or_eq_true,decide_eq_true_eq]at h;rcases h with h|h
  ·omega
  have:=nU hs.2 h;omega
theorem su {s:List Rg}{a p:Int}(hs:aH a s=true)(hp:p<=a+1):bm s p=false:=by
 cases h:bm s p with
 | false=>rfl
 | true=>have:=nU hs h;omega
theorem q9:∀{s t:List Rg} {a b:Int},aH a s=true->aH b t=true->(∀p,bm s p=bm t p)->s=t
 | [],[],_,_,_,_,_=>rfl
 | [],q::t,_,_,_,ht,h=>by
  rw[cE]at ht
  have:=h q.1;rw[bU,decide_eq_true (by omega)]at this;cases this
 | r::s,[],_,_,hs,_,h=>by
  rw[cE]at hs
  have:=h r.1;rw[bU,decide_eq_true (by omega)]at this;cases this
 | r::s,q::t,a,b,hs,ht,h=>by
  have Vz:=cE.1 hs;have ht':=cE.1 ht;obtain⟨⟨s1,s2,s3⟩,s4⟩:=Vz;obtain⟨⟨t1,t2,t3⟩,t4⟩:=ht';have e1:r.1=q.1:=by
   have h1:=h r.1;rw[bU r,decide_eq_true (by omega),Bool.true_or]at h1;have h2:=h q.1;rw[bU q,decide_eq_true (p:=q.1<=q.1/\q.1<=q.2) (by omega),Bool.true_or]at h2;rcases Int.lt_trichotomy r.1 q.1 with bZ|heq|NK
   ·have h1:=h1.symm;rw[bU,decide_eq_false (by omega),Bool.false_or]at h1
    have:=nU t4 h1;omega
   ·exact heq
   rw[bU,decide_eq_false (by omega),Bool.false_or]at h2
   have:=nU s4 h2;omega
  have e2:r.2=q.2:=by
   rcases Int.lt_trichotomy r.2 q.2 with bZ|heq|NK
   ·have h1:=h (r.2+1);rw[bU,bU,decide_eq_false (by omega),su s4 (by omega),decide_eq_true (by omega)]at h1;cases h1
   ·exact heq
   have h1:=h (q.2+1);rw[bU,bU,decide_eq_true (by omega),su t4 (by omega),decide_eq_false (by omega)]at h1;cases h1
  have e:r=q:=Prod.ext e1 e2;subst e;congr 1;refine q9 s4 t4 (λp=>?_);by_cases hp:p<=r.2+1
  ·rw[su s4 hp,su t4 hp]
  have:=h p;rw[bU,bU,decide_eq_false (by omega),Bool.false_or,Bool.false_or]at this;exact this
def gM (out:List Rg)(r:Rg):List Rg :=
 if min r.2 1114111<max r.1 0 then out
 else match out.getLast? with
  | none=>[(max r.1 0,min r.2 1114111)]
  | some q=>if max r.1 0<=q.2+1 then out.dropLast++[(q.1,max q.2 (min r.2 1114111))] else out++[(max r.1 0,min r.2 1114111)]
def uV (a:Int):List Rg->Int
 | []=>a
 | r::s=>uV r.2 s
theorem jL (a:Int):∀(s:List Rg) (r:Rg),uV a (s++[r])=r.2
 | [],r=>rfl
 | q::s,r=>by rw[List.cons_append,uV,jL]
theorem fD (r:Rg):∀(s:List Rg) (a:Int),aH a (s++[r])=true↔aH a s=true/\uV a s+1<r.1/\r.1<=r.2/\r.2<=1114111
 | [],a=>by
  rw[List.nil_append,cE];exact⟨λh=>⟨rfl,h.1⟩,λh=>⟨h.2,rfl⟩⟩
 | q::s,a=>by
  rw[List.cons_append,cE,cE,fD r s q.2,uV];exact⟨λh=>⟨⟨h.1,h.2.1⟩,h.2.2⟩,λh=>⟨h.1.1,h.1.2,h.2⟩⟩
structure EO (out done:List Rg):Prop where
 right:aH (-2) out=true
 has:∀p,bm out p=inB done p
theorem tE (l:List Rg)(r:Rg)(p:Int):inB (l++[r]) p=(inB l p || decide (max r.1 0<=p/\p<=min r.2 1114111)):=by
 unfold inB;rw[kK,bU,gT,Bool.or_false];by_cases h:0<=p/\p<=1114111
 ·rw[decide_eq_true h,Bool.true_and,Bool.true_and];congr 1;rw[decide_eq_decide];omega
 rw[decide_eq_false h,Bool.false_and,Bool.false_and,decide_eq_false (by omega)];rfl
theorem Jj {out done:List Rg}{r:Rg}(h:EO out done)(ri:∀q∈out,q.1<=max r.1 0):EO (gM out r) (done++[r]):=by
 unfold gM;split
 ·rename_i bZ;refine⟨h.right,λp=>?_⟩;rw[tE,h.has,decide_eq_false (by omega),Bool.or_false]
 rename_i gh;split
 ·rename_i hn;have:out=[]:=by simpa using hn
  subst this;refine⟨cE.2 ⟨⟨by omega,by omega,by omega⟩,rfl⟩,λp=>?_⟩;rw[tE,<-h.has,bU];rw[gT,Bool.or_false,Bool.false_or]
 rename_i q hq;have qv:out=out.dropLast++[q]:=by
  have dA:out≠[]:=λe=>by subst e;simp at hq
  have:=List.dropLast_concat_getLast dA;rw[List.getLast?_eq_some_getLast dA]at hq;cases hq;exact this.symm
 have hqm:q∈out:=by rw[qv];simp
 have hql:=ri q hqm;have hr:=h.right;rw[qv,fD]at hr;obtain⟨r1,r2,r3,r4⟩:=hr;split
 ·rename_i hm;refine⟨(fD _ _ _).2 ⟨r1,by dsimp only;omega,by dsimp only;omega,by dsimp only;omega⟩,λp=>?_⟩;rw[tE,<-h.has,kK]
  conv=>rhs;rw[qv,kK]
  rw[bU,bU,gT,Bool.or_false,Bool.or_false,Bool.or_assoc];congr 1;rw[<-Bool.decide_or,decide_eq_decide];dsimp only;omega
 rename_i hm;refine⟨(fD _ _ _).2 ⟨h.right,?_,by dsimp only;omega,by dsimp only;omega⟩,λp=>?_⟩
 ·rw[qv,jL];dsimp only;omega
 rw[tE,<-h.has,kK,bU,gT,Bool.or_false]
theorem Ns {out:List Rg}{r:Rg}{m:Int}(ri:∀q∈out,q.1<=m)(hr:max r.1 0<=m):∀q∈gM out r,q.1<=m:=by
 intro q hq;unfold gM at hq;split at hq
 ·exact ri q hq
 split at hq
 ·simp at hq;subst hq;exact hr
 rename_i q' hq';have hqm:q'∈out:=List.mem_of_getLast? hq';split at hq
 ·rcases List.mem_append.1 hq with h|h
  ·exact ri q (List.dropLast_subset _ h)
  simp at h;subst h;exact ri q' hqm
 rcases List.mem_append.1 hq with h|h
 ·exact ri q h
 simp at h;subst h;exact hr
def jH (l:List Rg):List Rg:=l.foldl gM []
def wW (l:List Rg):Prop:=l.Pairwise λa b=>a.1<=b.1
theorem sB:∀(n:Nat) (l:List Rg),wW l->n<=l.length->EO (jH (l.take n)) (l.take n)/\∀q∈jH (l.take n),∀(i:Nat) (r:Rg),n<=i->l[i]?=some r->q.1<=max r.1 0
 | 0,l,_,_=>⟨⟨rfl,λp=>by rw[List.take_zero];unfold inB;rw[gT,Bool.and_false];rfl⟩,λq hq=>by rw[List.take_zero]at hq;cases hq⟩
 | n+1,l,hR,hn=>by
  obtain⟨h1,h2⟩:=sB n l hR (by omega);have hx:=List.getElem?_eq_getElem (l:=l) (i:=n) (by omega);have e:l.take (n+1)=l.take n++[l[n]]:=by rw[List.take_add_one,hx];rfl
  have ef:jH (l.take (n+1))=gM (jH (l.take n)) l[n]:=by unfold jH;rw[e,List.foldl_append];rfl
  rw[ef,e];refine⟨Jj h1 (λq hq=>h2 q hq n _ (Nat.le_refl _) hx),λq hq i r hi hr=>?_⟩;have bZ:=(List.getElem?_eq_some_iff.1 hr).1;have hle:l[n].1<=r.1:=by
   have:=List.pairwise_iff_getElem.1 hR n i (by omega) bZ (by omega);rw[List.getElem?_eq_getElem bZ]at hr;cases hr;exact this
  exact Ns (m:=max r.1 0) (λq hq=>h2 q hq i r (by omega) hr) (by omega) q hq
theorem vE {l:List Rg}(hR:wW l):EO (jH l) l:=by
 have:=(sB l.length l hR (Nat.le_refl _)).1;rwa [List.take_length]at this
def setOf (l:List Rg):List Rg:=jH (l.mergeSort λa b=>decide (a.1<=b.1))
theorem Am {l m:List Rg}(h:l.Perm m)(p:Int):bm l p=bm m p:=by
 unfold bm;rw[Bool.eq_iff_iff,List.any_eq_true,List.any_eq_true];exact⟨λ⟨r,h1,h2⟩=>⟨r,h.mem_iff.1 h1,h2⟩,λ⟨r,h1,h2⟩=>⟨r,h.mem_iff.2 h1,h2⟩⟩
theorem sF (l:List Rg):EO (setOf l) l:=by
 have hs:wW (l.mergeSort λa b=>decide (a.1<=b.1)):=by
  have:=List.pairwise_mergeSort (le:=λ(a b:Rg)=>decide (a.1<=b.1)) (λa b c h1 h2=>by simp only[decide_eq_true_eq]at *;omega) (λa b=>by simp only[Bool.or_eq_true,decide_eq_true_eq];omega) l;exact this.imp λh=>by simpa using h
 have h:=vE hs;refine⟨h.right,λp=>(h.has p).trans ?_⟩;unfold inB;rw[Am (List.mergeSort_perm l _)]
theorem Oe {l m:List Rg}(hp:m.Perm l)(hR:wW m):jH m=setOf l:=by
 have h1:=vE hR;have h2:=sF l;refine q9 h1.right h2.right (λp=>?_);rw[h1.has,h2.has];unfold inB;rw[Am hp]
def nh:Int->List Rg->List Rg
 | f,[]=>if f<=1114111 then [(f,1114111)] else []
 | f,r::s=>(if f<r.1 then [(f,r.1-1)] else [])++nh (r.2+1) s
def fm (s:List Rg):List Rg:=nh 0 s
theorem sA:∀(s:List Rg) (f:Int),aH (f-2) s=true->aH (f-2) (nh f s)=true/\∀p,bm (nh f s) p=(decide (f<=p/\p<=1114111) && !bm s p)
 | [],f,_=>by
  rw[nh];split
  ·refine⟨cE.2 ⟨⟨by dsimp only;omega,by dsimp only;omega,by dsimp only;omega⟩,rfl⟩,λp=>?_⟩;rw[bU,gT,Bool.or_false,Bool.not_false,Bool.and_true]
  refine⟨rfl,λp=>?_⟩;rw[gT,decide_eq_false (by omega),Bool.false_and]
 | r::s,f,h=>by
  rw[cE]at h;obtain⟨⟨h1,h2,h3⟩,h4⟩:=h;obtain⟨i1,i2⟩:=sA s (r.2+1) (nG (by omega) h4);rw[nh];have key:∀p,(decide (f<=p/\p<=r.1-1) || bm (nh (r.2+1) s) p)=(decide (f<=p/\p<=1114111) && !bm (r::s) p):=λp=>by
   rw[i2,bU,Bool.not_or];by_cases hp:p<=r.2+1
   ·rw[su h4 hp];simp only[Bool.not_false,Bool.and_true];rw[<-Bool.decide_or,<-decide_not,<-Bool.decide_and,decide_eq_decide];omega
   rw[decide_eq_false (p:=f<=p/\p<=r.1-1) (by omega),decide_eq_false (p:=r.1<=p/\p<=r.2) (by omega),Bool.false_or,Bool.not_false,Bool.true_and];congr 1;rw[decide_eq_decide];omega
  split
  ·refine⟨?_,λp=>?_⟩
   ·rw[List.singleton_append];exact cE.2 ⟨⟨by dsimp only;omega,by dsimp only;omega,by dsimp only;omega⟩,nG (by dsimp only;omega) i1⟩
   rw[List.singleton_append,bU];exact key p
  refine⟨?_,λp=>?_⟩
  ·rw[List.nil_append];exact nG (by omega) i1
  rw[List.nil_append]
  have:=key p;rwa [decide_eq_false (p:=f<=p/\p<=r.1-1) (by omega),Bool.false_or]at this
theorem gN {s:List Rg}(h:aH (-2) s=true):aH (-2) (fm s)=true:=(sA s 0 h).1
theorem mJ {s:List Rg}(h:aH (-2) s=true)(p:Int):bm (fm s) p=(decide (0<=p/\p<=1114111) && !bm s p):=(sA s 0 h).2 p
def pA (s t:List Rg):List Rg:=setOf (s++t)
def nF (s t:List Rg):List Rg:=fm (pA (fm s) (fm t))
def lU (s t:List Rg):List Rg:=nF s (fm t)
theorem kQ (s t:List Rg):aH (-2) (pA s t)=true:=(sF _).right
theorem j6 {s:List Rg}(h:aH (-2) s=true)(p:Int):(decide (0<=p/\p<=1114111) && bm s p)=bm s p:=by
 cases hp:bm s p with
 | false=>rw[Bool.and_false]
 | true=>have:=nU h hp;rw[decide_eq_true (by omega)];rfl
theorem BQ {s t:List Rg}(hs:aH (-2) s=true)(ht:aH (-2) t=true)(p:Int):bm (pA s t) p=(bm s p || bm t p):=by
 rw[show bm (pA s t) p=_ from (sF _).has p]
 unfold inB;rw[kK,Bool.and_or_distrib_left,j6 hs,j6 ht]
theorem oW (s t:List Rg):aH (-2) (nF s t)=true:=gN (kQ _ _)
theorem yi {s t:List Rg}(hs:aH (-2) s=true)(ht:aH (-2) t=true)(p:Int):bm (nF s t) p=(bm s p && bm t p):=by
 unfold nF;rw[mJ (kQ _ _),BQ (gN hs) (gN ht),mJ hs,mJ ht,<-j6 hs p,<-j6 ht p];cases decide (0<=p/\p<=1114111)<;>cases bm s p<;>cases bm t p<;>rfl
theorem rU (s t:List Rg):aH (-2) (lU s t)=true:=oW _ _
theorem HJ {s t:List Rg}(hs:aH (-2) s=true)(ht:aH (-2) t=true)(p:Int):bm (lU s t) p=(bm s p && !bm t p):=by
 unfold lU;rw[yi hs (gN ht),mJ ht,<-j6 hs p];cases decide (0<=p/\p<=1114111)<;>cases bm s p<;>cases bm t p<;>rfl
theorem Jk (out:List Rg)(r:Rg):(gM out r).length<=out.length+1:=by
 unfold gM;split
 ·omega
 split
 ·simp
 split
 ·simp only[List.length_append,List.length_dropLast,List.length_cons,List.length_nil];omega
 simp
theorem yQ (l:List Rg):(jH l).length<=l.length:=by
 have key:∀(l out:List Rg),(l.foldl gM out).length<=out.length+l.length:=λl=>by
  induction l with
  | nil=>intro out;simp
  | cons r l ih =>
   intro out;rw[List.foldl_cons,List.length_cons]
   have:=ih (gM out r)
   have:=Jk out r;omega
 have:=key l [];unfold jH;simpa using this
theorem Of (l:List Rg):(setOf l).length<=l.length:=by
 have:=yQ (l.mergeSort λa b=>decide (a.1<=b.1));rwa [List.length_mergeSort]at this
theorem BA:∀(s:List Rg) (f:Int),(nh f s).length<=s.length+1
 | [],f=>by rw[nh];split<;>simp
 | r::s,f=>by
  rw[nh,List.length_append,List.length_cons]
  have:=BA s (r.2+1);split<;>simp<;>omega
theorem sE (s:List Rg):(fm s).length<=s.length+1:=BA s 0
theorem Og (s t:List Rg):(pA s t).length<=s.length+t.length:=by
 have:=Of (s++t);rwa [List.length_append]at this
end Cae
end
