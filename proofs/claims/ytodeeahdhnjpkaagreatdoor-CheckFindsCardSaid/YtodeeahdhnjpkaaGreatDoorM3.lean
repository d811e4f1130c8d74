/- Texts of this claim, merged: P, Set, Arg, Pset. -/
import Derived.Test.YtodeeahdhnjpkaaGreatDoorM2
set_option maxRecDepth 100000
set_option linter.unusedSimpArgs false
set_option linter.unusedVariables false
set_option maxHeartbeats 8000000
section
section
namespace Cae
open Go Go.Vc
theorem wrap_i64 {n:Int}(h : -9223372036854775808≤n∧n≤9223372036854775807):IntKind.i64.wrap n=n:=by rw[IntKind.wrap_i64];omega
theorem wrap_u8 (n:Int):IntKind.u8.wrap n=n % 256:=by simp[IntKind.wrap,IntKind.bits,IntKind.signed]
theorem wrap_u8_nat (n:Nat):IntKind.u8.wrap (n:Int)=((n % 256:Nat):Int):=by rw[wrap_u8];omega
theorem wrap_u64_nat (n:Nat):IntKind.u64.wrap (n:Int)=((n % 18446744073709551616:Nat):Int):=by simp[IntKind.wrap,IntKind.bits,IntKind.signed]
theorem ofInt_nat (n x:Nat):BitVec.ofInt n (x:Int)=BitVec.ofNat n x:=by
 apply BitVec.eq_of_toNat_eq;simp
theorem and_lt {x y n:Nat}(h:x<2 ^ n):x &&& y<2 ^ n:=Nat.lt_of_le_of_lt Nat.and_le_left h
theorem and_mask (x k:Nat):x &&& (2 ^ k-1)=x % 2 ^ k:=Nat.and_two_pow_sub_one_eq_mod x k
theorem shr_nat {p k:Nat}{b:Int}{kd:IntKind}(hb:b.toNat=k)(hk:k≤kd.bits):((p:Int).fdiv (2 ^ min b.toNat kd.bits))=((p / 2 ^ k:Nat):Int):=by
 rw[hb,Nat.min_eq_left hk];rw[show (2:Int) ^ k=((2 ^ k:Nat):Int) by first|(push_cast;done)|(push_cast;rfl),Int.fdiv_eq_ediv_of_nonneg _ (Int.natCast_nonneg _)]
 rfl
abbrev Rg:=Int×Int
structure I3 where
 op:Int
 a:Int
 b:Int
 deriving DecidableEq
structure CodeP where
 sets:List (List Rg)
 ins:List I3
 deriving DecidableEq
def setRight:Int→List Rg→Bool
 | _,[]=>true
 | last,r::s=>if r.1≤last+1∨r.2<r.1∨1114111<r.2 then false else setRight r.2 s
def hasP (s:List Rg)(p:Int):Bool:=s.any fun r=>decide (r.1≤p∧p≤r.2)
def insRight (x:I3)(sets n:Int):Bool :=
 if x.op=1 then decide (0≤x.a∧x.a<sets∧x.b=0)
 else if x.op=2 then decide ((0≤x.a∧x.a<n)∧(0≤x.b∧x.b<n))
 else if x.op=3 then decide ((0≤x.a∧x.a<n)∧x.b=0)
 else if x.op=4∨x.op=5 then decide (x.a=0∧x.b=0)
 else false
def codeRight (c:CodeP):Bool :=
 decide (1≤c.ins.length∧c.ins.length≤2000∧c.sets.length≤2000) &&
 (match c.ins[c.ins.length-1]? with|some x=>decide (x.op≠1∧x.op≠4)|none=>false) &&
 c.ins.all (fun x=>insRight x c.sets.length c.ins.length) && c.sets.all (setRight (-2))
theorem setRight_sorted:∀(s:List Rg) (last:Int),setRight last s=true→∀(i:Nat) (r:Rg),s[i]?=some r→last+1<r.1∧r.1≤r.2∧r.2≤1114111∧∀(j:Nat) (q:Rg),i<j→s[j]?=some q→r.2+1<q.1
 | [],_,_,i,r,hr=>by simp at hr
 | x::s,last,h,i,r,hr=>by
  unfold setRight at h;split at h
  ·cases h
  ·rename_i hx;have ih:=setRight_sorted s x.2 h;cases i with
   | zero =>
    simp at hr;subst hr;refine⟨by omega,by omega,by omega,fun j q hj hq=>?_⟩;obtain⟨k,rfl⟩:∃k,j=k+1:=⟨j-1,by omega⟩;exact(ih k q (by simpa using hq)).1
   | succ i =>
    have hr':s[i]?=some r:=by simpa using hr
    obtain⟨h1,h2,h3,h4⟩:=ih i r hr';refine⟨by omega,h2,h3,fun j q hj hq=>?_⟩;obtain⟨k,rfl⟩:∃k,j=k+1:=⟨j-1,by omega⟩;exact h4 k q (by omega) (by simpa using hq)
def addQ (q:List Nat)(k:Nat):List Nat:=if k∈q then q else q++[k]
inductive Lk
 | yes (st:Nat)
 | no (q nx:List Nat) (st:Nat)
def Places (n:Nat)(q:List Nat):Prop:=q.Nodup∧∀k∈q,k<n
theorem Places.add {n:Nat}{q:List Nat}{k:Nat}(h:Places n q)(hk:k<n):Places n (addQ q k):=by
 unfold addQ;split
 ·exact h
 ·rename_i hn;refine⟨?_,fun j hj=>?_⟩
  ·rw[List.nodup_append];exact⟨h.1,by simp,fun a ha b hb=>by rw[List.mem_singleton]at hb;subst hb;intro e;subst e;exact hn ha⟩
  ·rw[List.mem_append,List.mem_singleton]at hj;rcases hj with hj|rfl
   ·exact h.2 j hj
   ·exact hk
structure CR (c:CodeP):Prop where
 one:1≤c.ins.length
 many:c.ins.length≤2000
 sets:c.sets.length≤2000
 ins:∀(i:Nat) (x:I3),c.ins[i]?=some x→insRight x c.sets.length c.ins.length=true
 next:∀(i:Nat) (x:I3),c.ins[i]?=some x→(x.op=1∨x.op=4)→i+1<c.ins.length
 set:∀s∈c.sets,setRight (-2) s=true
structure PairP where
 brk:Bool
 before:CodeP
 after:CodeP
 deriving DecidableEq
structure ProgP where
 rules:List PairP
 els:Bool
 deriving DecidableEq
def bt (n:Nat):UInt8:=UInt8.ofNat n
structure St where
 s:List UInt8
 bad:Bool
 deriving DecidableEq
theorem CR.to {c:CodeP}(h:CR c):codeRight c=true:=by
 have h1:=h.one;have hl:c.ins.length-1<c.ins.length:=by omega
 have hx:=List.getElem?_eq_getElem hl;have hn:=h.next _ _ hx;unfold codeRight;rw[hx];simp only[Bool.and_eq_true,decide_eq_true_eq,List.all_eq_true];refine⟨⟨⟨⟨h.one,h.many,h.sets⟩,⟨fun e=>?_,fun e=>?_⟩⟩,fun x hx=>?_⟩,h.set⟩
 ·have:=hn (.inl e);omega
 ·have:=hn (.inr e);omega
 ·obtain⟨i,hi⟩:=List.getElem?_of_mem hx;exact h.ins i x hi
def Leads (c:CodeP)(x:I3)(i j:Nat):Prop :=
 (x.op=2∧(j=x.a.toNat∨j=x.b.toNat))∨(x.op=3∧j=x.a.toNat)∨(x.op=4∧j=i+1)∨(x.op=1∧c.sets.getD x.a.toNat []≠[]∧j=i+1)
structure Closed (c:CodeP)(is:List Bool):Prop where
 len:is.length=c.ins.length
 zero:is[0]?=some true
 leads:∀(i:Nat) (x:I3),is[i]?=some true→c.ins[i]?=some x→∀j,Leads c x i j→is[j]?=some true
def nextFrom (is:List Bool):Nat→Nat→Nat
 | 0,k=>is.length
 | f+1,k=>if is[k]?=some true then k else if k<is.length then nextFrom is f (k+1) else is.length
def nextP (is:List Bool)(i:Nat):Nat:=nextFrom is is.length (i+1)
def skipP (c:CodeP)(is:List Bool)(i:Nat):Bool:=match c.ins[i]? with
 | none=>false
 | some x=>decide (x.op=3∧(nextP is i:Int)=x.a∧(i:Int)<x.a)
def keepP (c:CodeP)(is:List Bool)(i:Nat):Bool:=decide (is[i]?=some true) && !skipP c is i
def toP (c:CodeP)(is:List Bool):Nat→Nat
 | 0=>0
 | i+1=>if keepP c is i then toP c is i+1 else toP c is i
structure LS where
 used:List Nat
 ins:List I3
def Turned (c:CodeP)(is:List Bool)(sets:List (List Rg))(x y:I3):Prop :=
 y.op=x.op∧(x.op=1→y.b=x.b∧0≤y.a∧y.a.toNat<sets.length∧sets.getD y.a.toNat []=c.sets.getD x.a.toNat [])∧(x.op=3→y.a=toP c is x.a.toNat∧y.b=x.b)∧(x.op=2→y.a=toP c is x.a.toNat∧y.b=toP c is x.b.toNat) ∧
 (x.op≠1→x.op≠2→x.op≠3→y=x)
theorem Turned.more {c:CodeP}{is:List Bool}{sets more:List (List Rg)}{x y:I3}(h:Turned c is sets x y):Turned c is (sets++more) x y:=by
 obtain⟨h1,h2,h3,h4,h5⟩:=h;refine⟨h1,fun e=>?_,h3,h4,h5⟩;obtain⟨a,b,d,f⟩:=h2 e;refine⟨a,b,by rw[List.length_append];omega,?_⟩;rw[←f,List.getD_eq_getElem?_getD,List.getD_eq_getElem?_getD,List.getElem?_append_left d]
structure LInv (c:CodeP)(is:List Bool)(i:Nat)(s:LS):Prop where
 len:s.ins.length=toP c is i
 nodup:s.used.Nodup
 used:∀a∈s.used,a<c.sets.length
 at_:∀(j:Nat) (x:I3),j<i→keepP c is j=true→c.ins[j]?=some x→∃y,s.ins[toP c is j]?=some y∧Turned c is (s.used.map (fun a=>c.sets.getD a [])) x y
 all:∀(k:Nat) (y:I3),s.ins[k]?=some y→∃j x,j<i∧keepP c is j=true∧toP c is j=k∧c.ins[j]?=some x∧Turned c is (s.used.map (fun a=>c.sets.getD a [])) x y
end Cae
end
end
section
namespace Go.Proofs.YtodeeahdhnjpkaaGreatDoor
open Go.Vc Go.Proofs Go.RowKit Cae
attribute [local irreducible] wpL callK valK unitK runK Fun Sl Vc.Own vc vcOps opK pureK
def encR (r:Rg):List Value:=[.int .i64 r.1,.int .i64 r.2]
theorem setRight_cons (last:Int)(r:Rg)(s:List Rg):setRight last (r::s)=if r.1≤last+1∨r.2<r.1∨1114111<r.2 then false else setRight r.2 s:=rfl
theorem setRight_c (s:List Rg)(hs:s.length<1000000000)(X:Nat→Prop)(v:Value)(w:World)(hv:Sl X 2 (En encR) w v s) :
  Fun Tryz.prog 164 [v] w fun r w'=>r=.bool (setRight (-2) s)∧Below w.heap.size w w':=by
 obtain⟨a,c,rfl,hc⟩:=hv.shape;refine fun_of_vc Tryz.func164 rfl (by kernel_rfl) [2] rfl ?_;push_cast -dsimp(maxSteps:=4000000) [Tryz.ntmps164];refine wpL_loop [2,3,5,8,9,10,11,12,13,14,15,16,17,18,19,20,21,22,23,24,25,26,27,28,29,30,31] (fun z wx=>∃(i:Nat) (last:Int),z 8=.int .i64 i∧z 3=.int .i64 last∧i≤s.length∧(-2≤last∧last≤1114111)∧setRight last (s.drop i)=setRight (-2) s∧Below w.heap.size w wx) (fun z _=>s.length-(intOf (z 8)).toNat) ?_ ?_
 ·exact⟨0,-2,rfl,rfl,Nat.zero_le _,by omega,rfl,Below.refl _ _⟩
 ·intro z wx hI;obtain⟨i,last,h8,h3,hi,hl,hd,hb⟩:=hI;push_cast -dsimp[h8,h3];refine⟨fun hlt=>?_,fun hge=>?_⟩
  ·obtain⟨x,hx,hxm,hdx,ht⟩:=lt_get (l:=s) (i:=i) (by omega);obtain⟨b,o,rfl,hX,hcell⟩:=(hv.below hb).get hx;have c0:cellsAt wx ⟨b,o+i*2,none⟩ 0 2=some [.int .i64 x.1,.int .i64 x.2]:=cellsAt_of (encR x) 0 (fun j u hu=>by simpa using hcell j u hu);push_cast -dsimp[c0];refine⟨⟨by omega,by omega⟩,?_⟩;refine allocK (z:=[.int .i64 0,.int .i64 0]) (by kernel_rfl) ?_;intro w1 hw1;push_cast -dsimp;refine storeAgg (n:=2) (by kernel_rfl) hw1.blk rfl (by simp) (by simp[Value.oneCell']) ?_;intro w2 hw2;have c1:w2.cell? ⟨wx.heap.size,0,none⟩=some (.int .i64 x.1):=hw2.blk.cell rfl;have c2:w2.cell? ⟨wx.heap.size,1,none⟩=some (.int .i64 x.2):=hw2.blk.cell rfl;have hb2:Below w.heap.size w w2:=hb.trans ((hw1.below.mono hb.size).trans (hw2.kept.below (by have:=hw1.size;have:=hb.size;omega) (fun _ h=>by have:=hb.size;omega)));rw[hdx,setRight_cons]at hd;push_cast -dsimp[c1,c2];refine⟨⟨by omega,by omega⟩,fun h1=>⟨fun h2=>⟨fun h3=>?_,fun h3=>?_⟩,fun h2=>?_⟩,fun h1=>?_⟩
   ·rw[if_pos (by omega)]at hd;exact⟨by rw[hd],hb2⟩
   ·rw[if_neg (by omega)]at hd;exact⟨⟨by omega,by omega⟩,⟨i+1,x.2,rfl,rfl,by omega,by omega,hd,hb2⟩,by rw[h8];simp only[intOf];omega⟩
   ·rw[if_pos (by omega)]at hd;exact⟨by rw[hd],hb2⟩
   ·rw[if_pos (by omega)]at hd;exact⟨by rw[hd],hb2⟩
  ·rw[List.drop_eq_nil_of_le (by omega)]at hd;exact⟨by rw[←hd];rfl,hb⟩
end Go.Proofs.YtodeeahdhnjpkaaGreatDoor
end
section
namespace Go.Proofs.YtodeeahdhnjpkaaGreatDoor
open Go.Vc Go.Proofs Go.RowKit Cae
def Arg (v:Value):Prop:=∀n c,v=.slice none n c→n=0∧c=0
theorem encR_one:∀x,∀u∈encR x,u.oneCell'=true:=by simp[encR,Value.oneCell']
end Go.Proofs.YtodeeahdhnjpkaaGreatDoor
end
section
namespace Cae
def inB (l:List Rg)(p:Int):Bool:=decide (0≤p∧p≤1114111) && hasP l p
theorem hasP_nil (p:Int):hasP [] p=false:=rfl
theorem hasP_cons (r:Rg)(s:List Rg)(p:Int):hasP (r::s) p=(decide (r.1≤p∧p≤r.2) || hasP s p):=by unfold hasP;rw[List.any_cons]
theorem hasP_app (a b:List Rg)(p:Int):hasP (a++b) p=(hasP a p || hasP b p):=by unfold hasP;rw[List.any_append]
theorem setRight_mono:∀{s:List Rg} {a b:Int},b≤a→setRight a s=true→setRight b s=true
 | [],_,_,_,_=>rfl
 | r::s,a,b,h,hs=>by
  unfold setRight at hs ⊢
  split at hs
  ·cases hs
  ·rw[if_neg (by omega)];exact hs
theorem setRight_con {r:Rg}{s:List Rg}{a:Int}:setRight a (r::s)=true↔(a+1<r.1∧r.1≤r.2∧r.2≤1114111)∧setRight r.2 s=true:=by
 rw[setRight];split
 ·constructor
  ·intro h;cases h
  ·rintro⟨h,_⟩;omega
 ·constructor
  ·intro h;exact⟨by omega,h⟩
  ·exact fun h=>h.2
theorem has_above:∀{s:List Rg} {a p:Int},setRight a s=true→hasP s p=true→a+1<p∧p≤1114111
 | [],_,_,_,h=>by cases h
 | r::s,a,p,hs,h=>by
  rw[setRight_con]at hs;rw[hasP_cons,Bool.or_eq_true,decide_eq_true_eq]at h;rcases h with h|h
  ·omega
  ·have:=has_above hs.2 h;omega
theorem has_not {s:List Rg}{a p:Int}(hs:setRight a s=true)(hp:p≤a+1):hasP s p=false:=by
 cases h:hasP s p with
 | false=>rfl
 | true=>have:=has_above hs h;omega
theorem set_ext:∀{s t:List Rg} {a b:Int},setRight a s=true→setRight b t=true→(∀p,hasP s p=hasP t p)→s=t
 | [],[],_,_,_,_,_=>rfl
 | [],q::t,_,_,_,ht,h=>by
  rw[setRight_con]at ht
  have:=h q.1;rw[hasP_cons,decide_eq_true (by omega)]at this;cases this
 | r::s,[],_,_,hs,_,h=>by
  rw[setRight_con]at hs
  have:=h r.1;rw[hasP_cons,decide_eq_true (by omega)]at this;cases this
 | r::s,q::t,a,b,hs,ht,h=>by
  have hs':=setRight_con.1 hs;have ht':=setRight_con.1 ht;obtain⟨⟨s1,s2,s3⟩,s4⟩:=hs';obtain⟨⟨t1,t2,t3⟩,t4⟩:=ht';have e1:r.1=q.1:=by
   have h1:=h r.1;rw[hasP_cons r,decide_eq_true (by omega),Bool.true_or]at h1;have h2:=h q.1;rw[hasP_cons q,decide_eq_true (p:=q.1≤q.1∧q.1≤q.2) (by omega),Bool.true_or]at h2;rcases Int.lt_trichotomy r.1 q.1 with hlt|heq|hgt
   ·have h1:=h1.symm;rw[hasP_cons,decide_eq_false (by omega),Bool.false_or]at h1
    have:=has_above t4 h1;omega
   ·exact heq
   ·rw[hasP_cons,decide_eq_false (by omega),Bool.false_or]at h2
    have:=has_above s4 h2;omega
  have e2:r.2=q.2:=by
   rcases Int.lt_trichotomy r.2 q.2 with hlt|heq|hgt
   ·have h1:=h (r.2+1);rw[hasP_cons,hasP_cons,decide_eq_false (by omega),has_not s4 (by omega),decide_eq_true (by omega)]at h1;cases h1
   ·exact heq
   ·have h1:=h (q.2+1);rw[hasP_cons,hasP_cons,decide_eq_true (by omega),has_not t4 (by omega),decide_eq_false (by omega)]at h1;cases h1
  have e:r=q:=Prod.ext e1 e2;subst e;congr 1;refine set_ext s4 t4 (fun p=>?_);by_cases hp:p≤r.2+1
  ·rw[has_not s4 hp,has_not t4 hp]
  ·have:=h p;rw[hasP_cons,hasP_cons,decide_eq_false (by omega),Bool.false_or,Bool.false_or]at this;exact this
def ofStep (out:List Rg)(r:Rg):List Rg :=
 if min r.2 1114111<max r.1 0 then out
 else match out.getLast? with
  | none=>[(max r.1 0,min r.2 1114111)]
  | some q=>if max r.1 0≤q.2+1 then out.dropLast++[(q.1,max q.2 (min r.2 1114111))] else out++[(max r.1 0,min r.2 1114111)]
def lastHi (a:Int):List Rg→Int
 | []=>a
 | r::s=>lastHi r.2 s
theorem lastHi_snoc (a:Int):∀(s:List Rg) (r:Rg),lastHi a (s++[r])=r.2
 | [],r=>rfl
 | q::s,r=>by rw[List.cons_append,lastHi,lastHi_snoc]
theorem setRight_snoc (r:Rg):∀(s:List Rg) (a:Int),setRight a (s++[r])=true↔setRight a s=true∧lastHi a s+1<r.1∧r.1≤r.2∧r.2≤1114111
 | [],a=>by
  rw[List.nil_append,setRight_con];exact⟨fun h=>⟨rfl,h.1⟩,fun h=>⟨h.2,rfl⟩⟩
 | q::s,a=>by
  rw[List.cons_append,setRight_con,setRight_con,setRight_snoc r s q.2,lastHi];exact⟨fun h=>⟨⟨h.1,h.2.1⟩,h.2.2⟩,fun h=>⟨h.1.1,h.1.2,h.2⟩⟩
structure OfInv (out done:List Rg):Prop where
 right:setRight (-2) out=true
 has:∀p,hasP out p=inB done p
theorem inB_snoc (l:List Rg)(r:Rg)(p:Int):inB (l++[r]) p=(inB l p || decide (max r.1 0≤p∧p≤min r.2 1114111)):=by
 unfold inB;rw[hasP_app,hasP_cons,hasP_nil,Bool.or_false];by_cases h:0≤p∧p≤1114111
 ·rw[decide_eq_true h,Bool.true_and,Bool.true_and];congr 1;rw[decide_eq_decide];omega
 ·rw[decide_eq_false h,Bool.false_and,Bool.false_and,decide_eq_false (by omega)];rfl
theorem ofStep_inv {out done:List Rg}{r:Rg}(h:OfInv out done)(hlo:∀q∈out,q.1≤max r.1 0):OfInv (ofStep out r) (done++[r]):=by
 unfold ofStep;split
 ·rename_i hlt;refine⟨h.right,fun p=>?_⟩;rw[inB_snoc,h.has,decide_eq_false (by omega),Bool.or_false]
 ·rename_i hge;split
  ·rename_i hn;have:out=[]:=by simpa using hn
   subst this;refine⟨setRight_con.2 ⟨⟨by omega,by omega,by omega⟩,rfl⟩,fun p=>?_⟩;rw[inB_snoc,←h.has,hasP_cons];rw[hasP_nil,Bool.or_false,Bool.false_or]
  ·rename_i q hq;have hsp:out=out.dropLast++[q]:=by
    have hne:out≠[]:=fun e=>by subst e;simp at hq
    have:=List.dropLast_concat_getLast hne;rw[List.getLast?_eq_some_getLast hne]at hq;cases hq;exact this.symm
   have hqm:q∈out:=by rw[hsp];simp
   have hql:=hlo q hqm;have hr:=h.right;rw[hsp,setRight_snoc]at hr;obtain⟨r1,r2,r3,r4⟩:=hr;split
   ·rename_i hm;refine⟨(setRight_snoc _ _ _).2 ⟨r1,by dsimp only;omega,by dsimp only;omega,by dsimp only;omega⟩,fun p=>?_⟩;rw[inB_snoc,←h.has,hasP_app]
    conv=>rhs;rw[hsp,hasP_app]
    rw[hasP_cons,hasP_cons,hasP_nil,Bool.or_false,Bool.or_false,Bool.or_assoc];congr 1;rw[←Bool.decide_or,decide_eq_decide];dsimp only;omega
   ·rename_i hm;refine⟨(setRight_snoc _ _ _).2 ⟨h.right,?_,by dsimp only;omega,by dsimp only;omega⟩,fun p=>?_⟩
    ·rw[hsp,lastHi_snoc];dsimp only;omega
    ·rw[inB_snoc,←h.has,hasP_app,hasP_cons,hasP_nil,Bool.or_false]
theorem ofStep_lo {out:List Rg}{r:Rg}{m:Int}(hlo:∀q∈out,q.1≤m)(hr:max r.1 0≤m):∀q∈ofStep out r,q.1≤m:=by
 intro q hq;unfold ofStep at hq;split at hq
 ·exact hlo q hq
 ·split at hq
  ·simp at hq;subst hq;exact hr
  ·rename_i q' hq';have hqm:q'∈out:=List.mem_of_getLast? hq';split at hq
   ·rcases List.mem_append.1 hq with h|h
    ·exact hlo q (List.dropLast_subset _ h)
    ·simp at h;subst h;exact hlo q' hqm
   ·rcases List.mem_append.1 hq with h|h
    ·exact hlo q h
    ·simp at h;subst h;exact hr
def ofFold (l:List Rg):List Rg:=l.foldl ofStep []
def Rising (l:List Rg):Prop:=l.Pairwise fun a b=>a.1≤b.1
theorem ofFold_inv:∀(n:Nat) (l:List Rg),Rising l→n≤l.length→OfInv (ofFold (l.take n)) (l.take n)∧∀q∈ofFold (l.take n),∀(i:Nat) (r:Rg),n≤i→l[i]?=some r→q.1≤max r.1 0
 | 0,l,_,_=>⟨⟨rfl,fun p=>by rw[List.take_zero];unfold inB;rw[hasP_nil,Bool.and_false];rfl⟩,fun q hq=>by rw[List.take_zero]at hq;cases hq⟩
 | n+1,l,hR,hn=>by
  obtain⟨h1,h2⟩:=ofFold_inv n l hR (by omega);have hx:=List.getElem?_eq_getElem (l:=l) (i:=n) (by omega);have e:l.take (n+1)=l.take n++[l[n]]:=by rw[List.take_add_one,hx];rfl
  have ef:ofFold (l.take (n+1))=ofStep (ofFold (l.take n)) l[n]:=by unfold ofFold;rw[e,List.foldl_append];rfl
  rw[ef,e];refine⟨ofStep_inv h1 (fun q hq=>h2 q hq n _ (Nat.le_refl _) hx),fun q hq i r hi hr=>?_⟩;have hlt:=(List.getElem?_eq_some_iff.1 hr).1;have hle:l[n].1≤r.1:=by
   have:=List.pairwise_iff_getElem.1 hR n i (by omega) hlt (by omega);rw[List.getElem?_eq_getElem hlt]at hr;cases hr;exact this
  exact ofStep_lo (m:=max r.1 0) (fun q hq=>h2 q hq i r (by omega) hr) (by omega) q hq
theorem ofFold_spec {l:List Rg}(hR:Rising l):OfInv (ofFold l) l:=by
 have:=(ofFold_inv l.length l hR (Nat.le_refl _)).1;rwa [List.take_length]at this
def setOf (l:List Rg):List Rg:=ofFold (l.mergeSort fun a b=>decide (a.1≤b.1))
theorem hasP_perm {l m:List Rg}(h:l.Perm m)(p:Int):hasP l p=hasP m p:=by
 unfold hasP;rw[Bool.eq_iff_iff,List.any_eq_true,List.any_eq_true];exact⟨fun⟨r,h1,h2⟩=>⟨r,h.mem_iff.1 h1,h2⟩,fun⟨r,h1,h2⟩=>⟨r,h.mem_iff.2 h1,h2⟩⟩
theorem setOf_spec (l:List Rg):OfInv (setOf l) l:=by
 have hs:Rising (l.mergeSort fun a b=>decide (a.1≤b.1)):=by
  have:=List.pairwise_mergeSort (le:=fun(a b:Rg)=>decide (a.1≤b.1)) (fun a b c h1 h2=>by simp only[decide_eq_true_eq]at *;omega) (fun a b=>by simp only[Bool.or_eq_true,decide_eq_true_eq];omega) l;exact this.imp fun h=>by simpa using h
 have h:=ofFold_spec hs;refine⟨h.right,fun p=>(h.has p).trans ?_⟩;unfold inB;rw[hasP_perm (List.mergeSort_perm l _)]
theorem setOf_any {l m:List Rg}(hp:m.Perm l)(hR:Rising m):ofFold m=setOf l:=by
 have h1:=ofFold_spec hR;have h2:=setOf_spec l;refine set_ext h1.right h2.right (fun p=>?_);rw[h1.has,h2.has];unfold inB;rw[hasP_perm hp]
def notGo:Int→List Rg→List Rg
 | f,[]=>if f≤1114111 then [(f,1114111)] else []
 | f,r::s=>(if f<r.1 then [(f,r.1-1)] else [])++notGo (r.2+1) s
def setNot (s:List Rg):List Rg:=notGo 0 s
theorem notGo_spec:∀(s:List Rg) (f:Int),setRight (f-2) s=true→setRight (f-2) (notGo f s)=true∧∀p,hasP (notGo f s) p=(decide (f≤p∧p≤1114111) && !hasP s p)
 | [],f,_=>by
  rw[notGo];split
  ·refine⟨setRight_con.2 ⟨⟨by dsimp only;omega,by dsimp only;omega,by dsimp only;omega⟩,rfl⟩,fun p=>?_⟩;rw[hasP_cons,hasP_nil,Bool.or_false,Bool.not_false,Bool.and_true]
  ·refine⟨rfl,fun p=>?_⟩;rw[hasP_nil,decide_eq_false (by omega),Bool.false_and]
 | r::s,f,h=>by
  rw[setRight_con]at h;obtain⟨⟨h1,h2,h3⟩,h4⟩:=h;obtain⟨i1,i2⟩:=notGo_spec s (r.2+1) (setRight_mono (by omega) h4);rw[notGo];have key:∀p,(decide (f≤p∧p≤r.1-1) || hasP (notGo (r.2+1) s) p)=(decide (f≤p∧p≤1114111) && !hasP (r::s) p):=fun p=>by
   rw[i2,hasP_cons,Bool.not_or];by_cases hp:p≤r.2+1
   ·rw[has_not h4 hp];simp only[Bool.not_false,Bool.and_true];rw[←Bool.decide_or,←decide_not,←Bool.decide_and,decide_eq_decide];omega
   ·rw[decide_eq_false (p:=f≤p∧p≤r.1-1) (by omega),decide_eq_false (p:=r.1≤p∧p≤r.2) (by omega),Bool.false_or,Bool.not_false,Bool.true_and];congr 1;rw[decide_eq_decide];omega
  split
  ·refine⟨?_,fun p=>?_⟩
   ·rw[List.singleton_append];exact setRight_con.2 ⟨⟨by dsimp only;omega,by dsimp only;omega,by dsimp only;omega⟩,setRight_mono (by dsimp only;omega) i1⟩
   ·rw[List.singleton_append,hasP_cons];exact key p
  ·refine⟨?_,fun p=>?_⟩
   ·rw[List.nil_append];exact setRight_mono (by omega) i1
   ·rw[List.nil_append]
    have:=key p;rwa [decide_eq_false (p:=f≤p∧p≤r.1-1) (by omega),Bool.false_or]at this
theorem setNot_right {s:List Rg}(h:setRight (-2) s=true):setRight (-2) (setNot s)=true:=(notGo_spec s 0 h).1
theorem setNot_has {s:List Rg}(h:setRight (-2) s=true)(p:Int):hasP (setNot s) p=(decide (0≤p∧p≤1114111) && !hasP s p):=(notGo_spec s 0 h).2 p
def setOr (s t:List Rg):List Rg:=setOf (s++t)
def setAnd (s t:List Rg):List Rg:=setNot (setOr (setNot s) (setNot t))
def setLess (s t:List Rg):List Rg:=setAnd s (setNot t)
theorem setOr_right (s t:List Rg):setRight (-2) (setOr s t)=true:=(setOf_spec _).right
theorem in_range {s:List Rg}(h:setRight (-2) s=true)(p:Int):(decide (0≤p∧p≤1114111) && hasP s p)=hasP s p:=by
 cases hp:hasP s p with
 | false=>rw[Bool.and_false]
 | true=>have:=has_above h hp;rw[decide_eq_true (by omega)];rfl
theorem setOr_has {s t:List Rg}(hs:setRight (-2) s=true)(ht:setRight (-2) t=true)(p:Int):hasP (setOr s t) p=(hasP s p || hasP t p):=by
 rw[show hasP (setOr s t) p=_ from (setOf_spec _).has p]
 unfold inB;rw[hasP_app,Bool.and_or_distrib_left,in_range hs,in_range ht]
theorem setAnd_right (s t:List Rg):setRight (-2) (setAnd s t)=true:=setNot_right (setOr_right _ _)
theorem setAnd_has {s t:List Rg}(hs:setRight (-2) s=true)(ht:setRight (-2) t=true)(p:Int):hasP (setAnd s t) p=(hasP s p && hasP t p):=by
 unfold setAnd;rw[setNot_has (setOr_right _ _),setOr_has (setNot_right hs) (setNot_right ht),setNot_has hs,setNot_has ht,←in_range hs p,←in_range ht p];cases decide (0≤p∧p≤1114111)<;>cases hasP s p<;>cases hasP t p<;>rfl
theorem setLess_right (s t:List Rg):setRight (-2) (setLess s t)=true:=setAnd_right _ _
theorem setLess_has {s t:List Rg}(hs:setRight (-2) s=true)(ht:setRight (-2) t=true)(p:Int):hasP (setLess s t) p=(hasP s p && !hasP t p):=by
 unfold setLess;rw[setAnd_has hs (setNot_right ht),setNot_has ht,←in_range hs p];cases decide (0≤p∧p≤1114111)<;>cases hasP s p<;>cases hasP t p<;>rfl
theorem ofStep_len (out:List Rg)(r:Rg):(ofStep out r).length≤out.length+1:=by
 unfold ofStep;split
 ·omega
 ·split
  ·simp
  ·split
   ·simp only[List.length_append,List.length_dropLast,List.length_cons,List.length_nil];omega
   ·simp
theorem ofFold_len (l:List Rg):(ofFold l).length≤l.length:=by
 have key:∀(l out:List Rg),(l.foldl ofStep out).length≤out.length+l.length:=fun l=>by
  induction l with
  | nil=>intro out;simp
  | cons r l ih =>
   intro out;rw[List.foldl_cons,List.length_cons]
   have:=ih (ofStep out r)
   have:=ofStep_len out r;omega
 have:=key l [];unfold ofFold;simpa using this
theorem setOf_len (l:List Rg):(setOf l).length≤l.length:=by
 have:=ofFold_len (l.mergeSort fun a b=>decide (a.1≤b.1));rwa [List.length_mergeSort]at this
theorem notGo_len:∀(s:List Rg) (f:Int),(notGo f s).length≤s.length+1
 | [],f=>by rw[notGo];split<;>simp
 | r::s,f=>by
  rw[notGo,List.length_append,List.length_cons]
  have:=notGo_len s (r.2+1);split<;>simp<;>omega
theorem setNot_len (s:List Rg):(setNot s).length≤s.length+1:=notGo_len s 0
theorem setOr_len (s t:List Rg):(setOr s t).length≤s.length+t.length:=by
 have:=setOf_len (s++t);rwa [List.length_append]at this
end Cae
end
