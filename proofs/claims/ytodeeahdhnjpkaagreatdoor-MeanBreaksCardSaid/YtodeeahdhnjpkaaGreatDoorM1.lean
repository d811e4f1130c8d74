/- Texts of this claim, merged: V. -/
import Derived.WalkKit
import Derived.Laws.BytesArg
import Derived.Laws.Externs
import Derived.Laws.MakeOwn
import Derived.Stop.Asserts
import Derived.Laws.OwnMore
set_option maxRecDepth 100000
set_option linter.unusedSimpArgs false
set_option linter.unusedVariables false
set_option maxHeartbeats 8000000
section
section
namespace Go.Vc
open Go.RowKit
inductive Ph {α:Type}(a:α):Type
 | mk
abbrev Fr:=List Value
abbrev EP:=Exit->Fr->World->Prop
abbrev VK:=Value->World->Prop
abbrev VP:=Value->Prop
def ev (t:Fr):Operand->Value
 | .tmp i=>t.getD i undef
 | .const v=>v
 | .global g=>.pointer (some ⟨g,0,none⟩)
 | .func f=>.func (.func f) #[] #[]
def put (t:Fr)(d:Option Tmp)(v:Value):Fr:=match d with|some d=>t.set d v|none=>t
def qD (P:Program)(t:Fr)(K:VK)(Q:EP):Result Next->Prop
 | .ok (.value v) w'=>K v w'
 | .ok .skip w'=>K undef w'
 | .ok (.enter f args) w'=>Calls P f args w' λe ar=>match e with
   | .returned v=>K v ar
   | .panicked c=>Q (.panic c) t ar
   | .outgrown=>False
 | .halt (.panic v) w'=>Q (.panic [{ v,recovered:=false }]) t w'
 | _=>False
def runK (P:Program)(o:Oper)(t:Fr)(w:World)(K:VK)(Q:EP)(_:Ph (o,K,Q)):Prop:=qD P t K Q ((execOp (ev t) o).run P w)
def ag (P:Program)(f:FuncId)(args:List Value)(t:Fr)(w:World)(K:VK)(Q:EP)(_:Ph (K,Q)):Prop:=qD P t K Q ((callFunc f args.toArray).run P w)
def BC (c a b:Value)(K:VP)(_:Ph K):Prop:=match c with|.bool x=>K (if x then a else b)|_=>False
def nQ (c:Value)(x y:Prop)(_:Ph (x,y)):Prop:=match c with|.bool b=>(b=true->x)/\(b=false->y)|_=>False
def gJ (s:Option Nat)(want:Bool)(t:Fr)(yes no:Fr->Prop)(_:Ph (yes,no)):Prop :=
 match s with
 | none=>no t
 | some s=>match t.getD s undef with
  | .bool b=>(b=want->yes (t.set s (.bool want)))/\(b=!want->no (t.set s (.bool !want)))
  | _=>no t
def ji (k:IntKind)(n:Int)(K:VP)(_:Ph K):Prop :=
 match k with
 | .i64=>(-9223372036854775808<=n/\n<=9223372036854775807)/\K (.int .i64 n)
 | k=>K (.int k (k.wrap n))
def eJ (op:BinOp)(k:IntKind)(x y:Int):Int :=
 let a:=BitVec.ofInt k.bits x
 let b:=BitVec.ofInt k.bits y
 match op with
 | .and=>k.wrap (a &&& b).toNat
 | .or=>k.wrap (a ||| b).toNat
 | .xor=>k.wrap (a ^^^ b).toNat
 | _=>k.wrap (a &&& ~~~b).toNat
def pI (op:BinOp)(k:IntKind)(a b:Int)(K:VP)(_:Ph K):Prop :=
 match op with
 | .add=>ji k (a+b) K .mk
 | .sub=>ji k (a-b) K .mk
 | .mul=>ji k (a*b) K .mk
 | .quo=>b≠0/\K (.int k (k.wrap (a.tdiv b)))
 | .rem=>b≠0/\K (.int k (a.tmod b))
 | .and=>K (.int k (eJ .and k a b))
 | .or=>K (.int k (eJ .or k a b))
 | .xor=>K (.int k (eJ .xor k a b))
 | .andNot=>K (.int k (eJ .andNot k a b))
 | .eql=>K (.bool (a == b))
 | .neq=>K (.bool (a != b))
 | .lss=>K (.bool (decide (a<b)))
 | .leq=>K (.bool (decide (a<=b)))
 | .gtr=>K (.bool (decide (b<a)))
 | .geq=>K (.bool (decide (b<=a)))
 | _=>False
def KF (op:BinOp)(k:IntKind)(x y:Int)(K:VP)(_:Ph K):Prop :=
 match op with
 | .shl=>0<=y/\K (.int k (k.wrap (x*2 ^ min y.toNat k.bits)))
 | .shr=>0<=y/\K (.int k (x.fdiv (2 ^ min y.toNat k.bits)))
 | _=>False
def str (l:List UInt8):Value:=.string ⟨l.toArray⟩
def eE (op:BinOp)(x y:Value)(K:VP)(other:Prop)(_:Ph (K,other)):Prop :=
 match op,x,y with
 | .shl,.int k a,.int _ b=>KF .shl k a b K .mk
 | .shr,.int k a,.int _ b=>KF .shr k a b K .mk
 | op,.int k a,.int k' b=>k=k'/\pI op k a b K .mk
 | .add,.string a,.string b=>((a.size:Int)+b.size<=9223372036854775807)/\K (.string (a++b))
 | .eql,.string a,.string b=>K (.bool (a.data.toList == b.data.toList))
 | .neq,.string a,.string b=>K (.bool (!(a.data.toList == b.data.toList)))
 | _,_,_=>other
def unK (op:UnOp)(x:Value)(K:VP)(other:Prop)(_:Ph (K,other)):Prop :=
 match op,x with
 | .neg,.int k n=>K (.int k (k.wrap (0-n)))
 | .not,.bool b=>K (.bool (!b))
 | _,_=>other
def nT (x:Value)(i:Nat)(K:VP)(_:Ph K):Prop:=match x with|.tuple vs=>(match vs.toList[i]? with|some v=>K v|none=>False)|_=>False
def J3 (d:Option TypeDesc)(x:Value)(K:VP)(other:Prop)(_:Ph (K,other)):Prop :=
 match d,x with
 | some .string,.string s=>K (.int .i64 s.size)
 | some (.slice _),.slice _ n _=>K (.int .i64 n)
 | _,_=>other
def sd (d:Option TypeDesc)(x:Value)(K:VP)(other:Prop)(_:Ph (K,other)):Prop :=
 match d,x with
 | some (.int k),.int _ n=>K (.int k (k.wrap n))
 | some .string,.string s=>K (.string s)
 | _,_=>other
def ru (d:Option TypeDesc)(x i:Value)(K:VP)(other:Prop)(_:Ph (K,other)):Prop :=
 match d,x,i with
 | some .string,.string s,.int _ n=>(0<=n/\n<(s.data.toList.length:Int))/\K (.int .u8 (s.data.toList.getD n.toNat 0).toNat)
 | _,_,_=>other
def WE (max:Bool)(xs:List Value)(K:VP)(other:Prop)(_:Ph (K,other)):Prop :=
 match xs with
 | [.int k a,.int _ b]=>K (.int k (if max then (if b>a then b else a) else (if b<a then b else a)))
 | _=>other
def XG (P:Program)(f:Value)(args:List Value)(t:Fr)(w:World)(K:VK)(Q:EP)(other:Prop)(_:Ph (K,Q,other)):Prop :=
 match f with
 | .func (.func g) first cap=>ag P g (first.toList++args++cap.toList) t w K Q .mk
 | _=>other
def aq (P:Program)(s:Sem Value)(t:Fr)(w:World)(K:VK)(Q:EP)(_:Ph (K,Q)):Prop:=qD P t K Q ((do pure (Next.value (<-s)):Sem Next).run P w)
def a8 (P:Program)(s:Sem Unit)(t:Fr)(w:World)(K:VK)(Q:EP)(_:Ph (K,Q)):Prop:=qD P t K Q ((do s;pure Next.skip:Sem Next).run P w)
def lI (P:Program)(ty:TypeId):Option (Option Nat):=match P.underlying ty,P.info? ty with
 | some (.struct _),some i=>some (some i.size)
 | some (.array ..),some i=>some (some i.size)
 | some _,some i=>if i.size=1 then some none else none
 | _,_=>none
def Kp (P:Program):Nat->List Field->Bool
 | _,[]=>true
 | i,f::fs=>f.offset == i && f.name != "_" && (match P.underlying f.type with|some (.int _)=>true|_=>false) && lI P f.type == some none && Kp P (i+1) fs
def FX (P:Program)(ty:TypeId):Bool:=match P.underlying ty with
 | some (.struct fs)=>Kp P 0 fs.toList && !P.eqGuardType P.depth ty && !P.stoodInHeld ty
 | _=>false
def dW (P:Program)(ty:TypeId):Nat:=match P.underlying ty with
 | some (.struct fs)=>if FX P ty then fs.size+7 else 0
 | some (.interface _)=>1|some (.pointer _)=>2|some (.slice _)=>3|some (.map _ _)=>4|some (.func ..)=>5|some .bool=>6|_=>0
def isConst:Operand->Bool
 | .const _=>true
 | _=>false
def jI:List Value->Nat->Bool
 | [],0=>true
 | _::l,n+1=>jI l n
 | _,_=>false
def eK:List Value->List Value->Option Bool
 | [],[]=>some true
 | .int k a::xs,.int k' b::ys=>if k=k' then (eK xs ys).map (decide (a=b) && ·) else none
 | _,_=>none
def rF (kind:Nat)(Kn:Bool)(x y:Value):Option Bool :=
 match kind,x,y with
 | 1,.nilIface,.nilIface=>if Kn then some true else none
 | 1,.iface _ _,.nilIface=>some false
 | 1,.nilIface,.iface _ _=>some false
 | 2,.pointer none,.pointer none=>some true
 | 2,.pointer (some _),.pointer none=>some false
 | 2,.pointer none,.pointer (some _)=>some false
 | 3,.slice none _ _,.slice none _ _=>some true
 | 3,.slice (some _) _ _,.slice none _ _=>some false
 | 5,.nilFunc,.nilFunc=>some true
 | 5,.func ..,.nilFunc=>some false
 | 6,.bool a,.bool b=>some (a == b)
 | n+7,.agg xs,.agg ys=>(match jI xs.toList n with|true=>eK xs.toList ys.toList|false=>none)
 | _,_,_=>none
def cd (kind:Nat)(Kn:Bool)(op:BinOp)(x y:Value)(K:VP)(other:Prop)(_:Ph (K,other)):Prop :=
 match op,rF kind Kn x y with
 | .eql,some b=>K (.bool b)
 | .neq,some b=>K (.bool !b)
 | _,_=>other
def bS (P:Program)(ty:TypeId)(f:Nat):Option (Nat×Option Nat):=match P.underlying ty with
 | some (.struct fs)=>match fs[f]? with
  | some fl=>match lI P fl.type with
   | some none=>some (fl.offset,none)
   | some (some n)=>if n=0 then none else some (fl.offset,some n)
   | none=>none
  | none=>none
 | _=>none
def gE (P:Program)(ty:TypeId):Option (TypeId×Nat):=match P.underlying ty with
 | some (.slice e)=>(P.info? e).map λi=>(e,i.size)
 | _=>none
def pM (P:Program)(ty:TypeId):Option (Nat×TypeId×Nat):=match P.underlying ty with
 | some (.array n e)=>(P.info? e).map λi=>(n,e,i.size)
 | _=>none
def aB (w:World)(a:Addr)(i:Nat):Nat->Option (List Value)
 | 0=>some []
 | n+1=>match w.cell? (a.add i),aB w a (i+1) n with
  | some v,some vs=>some (v::vs)
  | _,_=>none
def pJ {α:Type}(x:Option α)(K:α->Prop)(_:Ph K):Prop:=match x with|some v=>K v|none=>False
def mD (ty:Option (Option Nat))(a:Value)(w:World)(K:VK)(_:Ph K):Prop:=match ty,a with
 | some none,.pointer (some a)=>pJ (w.cell? a) (K · w) .mk
 | some (some n),.pointer (some a)=>pJ (aB w a 0 n) (λcs=>K (.agg cs.toArray) w) .mk
 | _,_=>False
def lp (f:Option (Nat×Option Nat))(a:Value)(K:VP)(_:Ph K):Prop:=match f,a with
 | some (off,_),.pointer (some a)=>K (.pointer (some (a.add off)))
 | _,_=>False
def BB (f:Option (Nat×Option Nat))(x:Value)(K:VP)(_:Ph K):Prop:=match f,x with
 | some (off,none),.agg cs=>pJ (cs.toList[off]?) K .mk
 | some (off,some n),.agg cs=>K (.agg ((cs.toList.drop off).take n).toArray)
 | _,_=>False
def jF (e:Option (TypeId×Nat))(arr:Option (Nat×TypeId×Nat))(x i:Value)(K:VP)(_:Ph K):Prop:=match e,arr,x,i with
 | some (_,size),_,.slice (some a) n _,.int _ i=>(0<=i/\i<n)/\K (.pointer (some (a.add (i.toNat*size))))
 | _,some (n,_,size),.pointer (some a),.int _ i=>(0<=i/\i<n)/\K (.pointer (some (a.add (i.toNat*size))))
 | _,_,_,_=>False
def il (v:Option Value)(aJi:Nat):Option Int:=match v with
 | none=>some aJi
 | some (.int _ i)=>some i
 | _=>none
def gm (d:Option TypeDesc)(e:Option (TypeId×Nat))(x:Value)(lo hi mx:Option Value)(K:VP)(other:Prop)(_:Ph (K,other)):Prop :=
 match d,x,mx with
 | some .string,.string s,none=>match il lo 0,il hi s.data.toList.length with
  | some l,some h=>(0<=l/\l<=h/\h<=s.data.toList.length)/\K (str ((s.data.toList.take h.toNat).drop l.toNat))
  | _,_=>False
 | some (.slice _),.slice a len cap,none=>match e,il lo 0,il hi len with
  | some (_,size),some l,some h=>(0<=l/\l<=h/\h<=(cap:Int))/\K (.slice (if (cap:Int)=l then a else a.map (·.add (l.toNat*size))) (h.toNat-l.toNat) (cap-l.toNat))
  | _,_,_=>False
 | _,_,_=>other
def uR (kind:Nat)(ty:TypeId)(x:Value)(K:VP)(other:Prop)(_:Ph (K,other)):Prop:=match kind with
 | 1=>other
 | _=>K (.iface ty x)
def aAH (e:TypeId)(v:Value)(w:World)(K:VK)(_:Ph K):Prop:=K (.pointer (some ⟨w.heap.size,0,none⟩)) (w.alloc (.cells v.cells e))
def kA:Value->Bool
 | .agg _|.tuple _=>false
 | _=>true
def sJ (ty:Option (Option Nat))(a v:Value)(w:World)(K:VK)(other:Prop)(_:Ph (K,other)):Prop:=match ty,a with
 | some none,.pointer (some a)=>kA v=true/\(w.cell? a).isSome=true/\w.frozen? a=false/\K undef (w.setCell a v)
 | _,_=>other
def e9:List Value->Nat->List Value->List Value
 | l,0,[]=>l
 | x::l,n+1,cs=>x::e9 l n cs
 | _::l,0,c::cs=>c::e9 l 0 cs
 | [],_,_=>[]
def dD:Value->List Value
 | .agg cs=>cs.toList
 | v=>[v]
def lh (places:List (Nat×Nat))(cells:List Value):List (Nat×Value)->Option (List Value)
 | []=>some cells
 | (i,v)::rest=>match places[i]? with
  | some (off,size)=>(match jI (dD v) size && decide (off+size<=cells.length) with
   | true=>lh places (e9 cells off (dD v)) rest
   | false=>none)
  | none=>none
def nL (P:Program)(ty:TypeId):Option (List Value×List (Nat×Nat)):=match P.info? ty,P.underlying ty with
 | some i,some (.struct fs)=>match i.zero with
  | some z=>if fs.toList.all (λf=>(P.info? f.type).isSome) then some (dD z,fs.toList.map λf=>(f.offset,((P.info? f.type).map (·.size)).getD 0)) else none
  | none=>none
 | _,_=>none
def xH (d:Option (List Value×List (Nat×Nat)))(parts:List (Nat×Value))(K:VP)(_:Ph K):Prop:=match d with
 | some (z,places)=>pJ (lh places z parts) (λcs=>K (.agg cs.toArray)) .mk
 | none=>False
def ai (P:Program)(o:Oper)(t:Fr)(L:VP)(other:Prop)(_:Ph (o,L,other)):Prop :=
 match o.op with
 | .move x=>L (ev t x)
 | .assign x=>L (ev t x)
 | .pick c a b=>BC (ev t c) (ev t a) (ev t b) L .mk
 | .binOp op ty x y _=>eE op (ev t x) (ev t y) L (cd (dW P ty) (isConst x || isConst y) op (ev t x) (ev t y) L other .mk) .mk
 | .unOp op _ x=>unK op (ev t x) L other .mk
 | .extract x i=>nT (ev t x) i L .mk
 | .convert s d x=>sd (if (P.underlying s).isSome then P.underlying d else none) (ev t x) L other .mk
 | .index xt x i=>ru (P.underlying xt) (ev t x) (ev t i) L other .mk
 | .makeFunc fn first cap=>L (.func fn (first.map (ev t)) (cap.map (ev t)))
 | .build ty parts=>xH (nL P ty) (parts.toList.map λ(i,x)=>(i,ev t x)) L .mk
 | .call { callee:=.builtin .len,args,argTypes }=>(match args.toList,argTypes.toList with
  | [x],[ty]=>J3 (P.underlying ty) (ev t x) L other .mk
  | _,_=>other)
 | .call { callee:=.builtin .max,args,argTypes:=_ }=>WE true (args.toList.map (ev t)) L other .mk
 | .call { callee:=.builtin .min,args,argTypes:=_ }=>WE false (args.toList.map (ev t)) L other .mk
 | .fieldAddr ty x f=>lp (bS P ty f) (ev t x) L .mk
 | .field ty x f=>BB (bS P ty f) (ev t x) L .mk
 | .indexAddr ty x i=>jF (gE P ty) (pM P ty) (ev t x) (ev t i) L .mk
 | .slice ty x lo hi mx=>gm (P.underlying ty) (gE P ty) (ev t x) (lo.map (ev t)) (hi.map (ev t)) (mx.map (ev t)) L other .mk
 | .makeInterface ty x=>uR (if (P.underlying ty).isSome then dW P ty else 1) ty (ev t x) L other .mk
 | _=>other
def cN (P:Program)(o:Oper)(t:Fr)(w:World)(K:VK)(Q:EP)(_:Ph (o,K,Q)):Prop :=
 match o.op with
 | .call { callee:=.value f,args,argTypes:=_ }=>XG P (ev t f) (args.toList.map (ev t)) t w K Q (runK P o t w K Q .mk) .mk
 | .load ty a=>mD (lI P ty) (ev t a) w K .mk
 | .store ty a v=>sJ (lI P ty) (ev t a) (ev t v) w K (a8 P (Instr.storeAt ty (ev t a) (ev t v)) t w K Q .mk) .mk
 | .box e x=>aAH e (ev t x) w K .mk
 | .alloc e=>aq P (Instr.alloc e true (.tuple #[])) t w K Q .mk
 | .convert s d x=>sd (if (P.underlying s).isSome then P.underlying d else none) (ev t x) (K · w) (aq P (convert s d (ev t x)) t w K Q .mk) .mk
 | .buildSlice ty n parts=>aq P (Instr.buildSlice ty n (parts.map λ(i,x)=>(i,ev t x))) t w K Q .mk
 | .makeSlice ty l c=>aq P (Instr.makeSlice ty (ev t l) (ev t c)) t w K Q .mk
 | .makeMap ty r=>aq P (Instr.makeMap ty (r.map (ev t))) t w K Q .mk
 | .lookup ty x i ok=>aq P (Instr.lookup ty (ev t x) (ev t i) ok) t w K Q .mk
 | .mapUpdate ty m k x=>a8 P (Instr.mapUpdate ty (ev t m) (ev t k) (ev t x)) t w K Q .mk
 | .insert ty m k x=>a8 P (Instr.mapUpdate ty (ev t m) (ev t k) (ev t x)) t w K Q .mk
 | .typeAssert x xt at_ ok=>aq P (Instr.typeAssert (ev t x) xt at_ ok) t w K Q .mk
 | .panic x=>aq P (Instr.panic (ev t x)) t w K Q .mk
 | .range ty x=>aq P (Instr.range ty (ev t x)) t w K Q .mk
 | .call { callee:=.builtin .append,args,argTypes }=>aq P (Builtin.append_ argTypes o.type (args.map (ev t))) t w K Q .mk
 | .call { callee:=.builtin .copy,args,argTypes }=>aq P (Builtin.copy_ argTypes o.type (args.map (ev t))) t w K Q .mk
 | _=>ai P o t (K · w) (runK P o t w K Q .mk) .mk
def iE (ops:List Oper)(j:Nat):Option Nat:=(ops[j]?).bind (·.dst)
def aW (P:Program)(ops:List Oper)(K:Fr->World->Prop)(Q:EP):(l:List Oper)->Fr->World->Ph (ops,K,Q,l)->Prop
 | [],t,w,_=>K t w
 | o::r,t,w,_=>match o.guard with
  | none=>cN P o t w (λv w'=>aW P ops K Q r (put t o.dst v) w' .mk) Q .mk
  | some (j,want)=>gJ (iE ops j) want t (λt'=>cN P o t' w (λv w'=>aW P ops K Q r (put t' o.dst v) w' .mk) Q .mk) (λt'=>aW P ops K Q r (put t' o.dst undef) w .mk) .mk
def lift (Q:EP):Exit->Act->World->Prop:=λe a w=>a.defers=[]/\Q e a.tmps.toList w
def cw (P:Program)(c:Code)(Q:EP)(t:Fr)(w:World)(_:Ph (c,Q)):Prop:=c.wp P (lift Q) ⟨t.toArray,[]⟩ w
def np (N:Fr->World->Prop)(Q:EP)(_:Ph (N,Q)):EP
 | .normal,t,w=>N t w
 | e,t,w=>Q e t w
def jB (id:Nat)(Q:EP)(_:Ph Q):EP
 | .exit i,t,w=>if i=id then Q .normal t w else Q (.exit i) t w
 | e,t,w=>Q e t w
def vc (P:Program):(c:Code)->(Q:EP)->Fr->World->Ph (c,Q)->Prop
 | .skip,Q,t,w,_=>Q .normal t w
 | .region _ ops false,Q,t,w,_=>aW P ops.toList (Q .normal) Q ops.toList t w .mk
 | .region id ops true,Q,t,w,_=>cw P (.region id ops true) Q t w .mk
 | .seq a b,Q,t,w,_=>vc P a (np (λt w=>vc P b Q t w .mk) Q .mk) t w .mk
 | .cond c a b,Q,t,w,_=>nQ (ev t c) (vc P a Q t w .mk) (vc P b Q t w .mk) .mk
 | .block i c,Q,t,w,_=>vc P c (jB i Q .mk) t w .mk
 | .exit i,Q,t,w,_=>Q (.exit i) t w
 | .ret,Q,t,w,_=>Q .ret t w
 | .label _,Q,t,w,_=>Q .normal t w
 | .goto l,Q,t,w,_=>Q (.goto l) t w
 | c,Q,t,w,_=>cw P c Q t w .mk
section
variable {P:Program}
theorem ln (t:Fr)(ds:List Deferred):(Act.mk t.toArray ds).eval=ev t:=by
 funext x;cases x<;>simp[Act.eval,ev,Array.getD_eq_getD_getElem?,List.getD_eq_getElem?_getD]
theorem put_eq (t:Fr)(d:Option Tmp)(v:Value):(Act.mk t.toArray []).put d v=⟨(put t d v).toArray,[]⟩:=by
 cases d<;>simp[Act.put,put]
theorem BJ {o:Oper}{t:Fr}{K:Value->World->Prop}{Q:EP}{r:Result Next}{next:Act->World->Prop}
  (hn:∀v w',K v w'->next ⟨(put t o.dst v).toArray,[]⟩ w') (h:qD P t K Q r):o.upon P ⟨t.toArray,[]⟩ next (lift Q) r:=by
 cases r with
 | ok n w' =>
  cases n<;>simp only[qD]at h<;>simp only[Oper.upon]
  case value v=>rw[put_eq];exact hn _ _ h
  case skip=>rw[put_eq];exact hn _ _ h
  case enter f args =>
   refine h.mono λe ar he=>?_;cases e with
   | returned v=>dsimp only at he ⊢;rw[put_eq];exact hn _ _ he
   | panicked c=>exact⟨rfl,by simpa using he⟩
   | outgrown=>exact he.elim
 | halt x w' =>
  cases x<;>simp only[qD]at h<;>simp only[Oper.upon];exact⟨rfl,by simpa using h⟩
theorem iD {o:Oper}{t:Fr}{w w':World}{K:Value->World->Prop}{Q:EP}{v:Value}(h:(execOp (ev t) o).run P w=.ok (.value v) w')(k:K v w'):runK P o t w K Q .mk:=by
 unfold runK;rw[h];exact k
theorem my {op:BinOp}{ty:TypeId}{x y:Operand}{a b:Value}(ha:a≠.nilIface\/b≠.nilIface)(hb:∀c,a≠.agg c)(w:World):(eqGuard op ty x y a b).run P w=.ok () w:=by
 cases op<;>simp only[eqGuard]<;>first|rfl|(cases a<;>cases b<;>first|rfl|simp_all)
theorem r7 {t:Fr}{o:Oper}{op:BinOp}{ty yt:TypeId}{x y:Operand}(ho:o.op=.binOp op ty x y yt){w:World}{v:Value}
  (hg:(eqGuard op ty x y (ev t x) (ev t y)).run P w=.ok () w) (h:(binOp op ty (ev t x) (ev t y)).run P w=.ok v w):(execOp (ev t) o).run P w=.ok (.value v) w:=by
 unfold execOp;simp only[ho,Sem.run_bind,hg,Result.andThen_ok,h,Sem.run_pure]
theorem Dy {n:Int}(h : -9223372036854775808<=n/\n<=9223372036854775807):IntKind.i64.wrap n=n:=by
 rw[IntKind.wrap_i64];omega
theorem tt {k:IntKind}{n:Int}{K:Value->Prop}(h:ji k n K .mk):K (.int k (k.wrap n)):=by
 cases k<;>simp only[ji]at h<;>first|exact h|(rw[Dy h.1];exact h.2)
theorem Xa {op:BinOp}{k:IntKind}{a b:Int}{K:Value->Prop}{ty:TypeId}(hs:op≠.shl/\op≠.shr)(h:pI op k a b K .mk) :
  ∃v,(∀w,(binOp op ty (.int k a) (.int k b)).run P w=.ok v w)/\K v:=by
 cases op<;>simp only[pI]at h<;>try exact h.elim
 case add=>exact⟨_,λw=>by simp[binOp,Op.intArith],tt h⟩
 case sub=>exact⟨_,λw=>by simp[binOp,Op.intArith],tt h⟩
 case mul=>exact⟨_,λw=>by simp[binOp,Op.intArith],tt h⟩
 case quo=>exact⟨_,λw=>by simp[binOp,Op.intDiv,h.1],h.2⟩
 case rem=>exact⟨_,λw=>by simp[binOp,Op.intDiv,h.1],h.2⟩
 case and=>exact⟨_,λw=>by cases k<;>rfl,h⟩
 case or=>exact⟨_,λw=>by cases k<;>rfl,h⟩
 case xor=>exact⟨_,λw=>by cases k<;>rfl,h⟩
 case andNot=>exact⟨_,λw=>by cases k<;>rfl,h⟩
 all_goals exact⟨_,λw=>by simp[binOp,Op.intCmp],h⟩
theorem BR {op:BinOp}{k k':IntKind}{a b:Int}{K:Value->Prop}{ty:TypeId}(hs:op=.shl\/op=.shr)(h:KF op k a b K .mk) :
  ∃v,(∀w,(binOp op ty (.int k a) (.int k' b)).run P w=.ok v w)/\K v:=by
 rcases hs with rfl|rfl
 ·exact⟨_,λw=>by simp[binOp,Op.shift,show ¬b<0 by have:=h.1;omega],h.2⟩
 exact⟨_,λw=>by simp[binOp,Op.shift,show ¬b<0 by have:=h.1;omega],h.2⟩
theorem yo (a b:ByteArray):(a.toList == b.toList)=(a.data.toList == b.data.toList):=by
 rw[ByteArray.toList_eq,ByteArray.toList_eq]
def K6 (P:Program)(o:Oper)(t:Fr)(v:Value):Prop:=∀w,(execOp (ev t) o).run P w=.ok (.value v) w
theorem WU {o:Oper}{t:Fr}{L:VP}{op:BinOp}{ty yt:TypeId}{x y:Operand}{other:Prop}(ho:o.op=.binOp op ty x y yt)
  (h:eE op (ev t x) (ev t y) L other .mk):other\/∃v,K6 P o t v/\L v:=by
 have go:∀v,(∀c,ev t x≠.agg c)->ev t x≠.nilIface->(∀w,(binOp op ty (ev t x) (ev t y)).run P w=.ok v w)->L v->other\/∃v,K6 P o t v/\L v:=λv h1 h2 hr hk =>
  .inr ⟨v,λw=>r7 ho (my (.inl h2) h1 w) (hr w),hk⟩
 unfold eE at h;split at h
 ·rename_i a b hx hy;obtain⟨v,hr,hk⟩:=BR (P:=P) (ty:=ty) (.inl rfl) h;rw[hx,hy]at go;exact go v (by simp) (by simp) hr hk
 ·rename_i a b hx hy;obtain⟨v,hr,hk⟩:=BR (P:=P) (ty:=ty) (.inr rfl) h;rw[hx,hy]at go;exact go v (by simp) (by simp) hr hk
 ·rename_i k a k' b n1 n2 hx hy;obtain⟨rfl,h⟩:=h;obtain⟨v,hr,hk⟩:=Xa (P:=P) (ty:=ty) ⟨λe=>n1 e,λe=>n2 e⟩ h;rw[hx,hy]at go;exact go v (by simp) (by simp) hr hk
 ·rename_i a b hx hy;rw[hx,hy]at go;refine go _ (by simp) (by simp) (λw=>?_) h.2
  have:=h.1;simp[binOp,Op.stringOp,IntKind.max,IntKind.bits,IntKind.signed];omega
 ·rename_i a b hx hy;rw[hx,hy]at go;exact go _ (by simp) (by simp) (λw=>by simp only[binOp,Op.stringOp,yo];simp) h
 ·rename_i a b hx hy;rw[hx,hy]at go;exact go _ (by simp) (by simp) (λw=>by simp only[binOp,Op.stringOp,yo];simp) h
 exact .inl h
theorem aDO {o:Oper}{t:Fr}{L:VP}{other:Prop}{op:UnOp}{ty:TypeId}{x:Operand}(ho:o.op=.unOp op ty x)
  (h:unK op (ev t x) L other .mk):other\/∃v,K6 P o t v/\L v:=by
 unfold unK at h;split at h
 ·rename_i k n hx;exact .inr ⟨_,λw=>by unfold execOp;simp[ho,hx,Op.unary,Op.intArith],h⟩
 ·rename_i b hx;exact .inr ⟨_,λw=>by unfold execOp;simp[ho,hx,Op.unary],h⟩
 exact .inl h
theorem Er {op:BinOp}{ty:TypeId}{x y:Operand}(h:(isConst x || isConst y)=true)(w:World):(eqGuard op ty x y .nilIface .nilIface).run P w=.ok () w:=by
 cases op<;>first|rfl|(cases x<;>cases y<;>first|rfl|(simp[isConst]at h))
theorem mm:∀(l:List Value) (n:Nat),jI l n=true->l.length=n
 | [],0,_=>rfl
 | [],n+1,h=>by simp[jI]at h
 | _::l,0,h=>by simp[jI]at h
 | _::l,n+1,h=>by simp[jI]at h;simp[mm l n h]
theorem oE {kind:Nat}{Kn:Bool}{x y:Value}{b:Bool}(h:rF kind Kn x y=some b) :
  (kind=1/\(x=.nilIface/\y=.nilIface/\Kn=true/\b=true\/(∃t v,x=.iface t v)/\y=.nilIface/\b=false\/x=.nilIface/\(∃t v,y=.iface t v)/\b=false)) \/
  (kind=2/\(x=.pointer none/\y=.pointer none/\b=true\/(∃a,x=.pointer (some a))/\y=.pointer none/\b=false\/x=.pointer none/\(∃a,y=.pointer (some a))/\b=false)) \/
  (kind=3/\(∃n c n' c' ,y=.slice none n' c'/\(x=.slice none n c/\b=true\/(∃a,x=.slice (some a) n c)/\b=false))) \/
  (kind=5/\(x=.nilFunc/\y=.nilFunc/\b=true\/(∃f g c,x=.func f g c)/\y=.nilFunc/\b=false)) \/
  (kind=6/\∃p q,x=.bool p/\y=.bool q/\b=(p == q)) \/
  (∃n xs ys,kind=n+7/\x=.agg xs/\y=.agg ys/\xs.toList.length=n/\eK xs.toList ys.toList=some b):=by
 unfold rF at h;split at h
 case h_12 =>
  split at h
  ·rename_i n xs ys hs;exact .inr (.inr (.inr (.inr (.inr ⟨_,_,_,rfl,rfl,rfl,mm _ _ hs,h⟩))))
  cases h
 all_goals simp_all
theorem pS {op:BinOp}{ty:TypeId}{x y:Operand}{t:Fr}{b:Bool}(h:rF (dW P ty) (isConst x || isConst y) (ev t x) (ev t y)=some b)(w:World) :
  (eqGuard op ty x y (ev t x) (ev t y)).run P w=.ok () w:=by
 rcases oE h with ⟨_,⟨h1,h2,h3,_⟩|⟨⟨_,_,h1⟩,h2,_⟩|⟨h1,⟨_,_,h2⟩,_⟩⟩|⟨_,⟨h1,h2,_⟩|⟨⟨_,h1⟩,h2,_⟩|⟨h1,⟨_,h2⟩,_⟩⟩|⟨_,_,_,_,_,h2,⟨h1,_⟩|⟨⟨_,h1⟩,_⟩⟩|⟨_,⟨h1,h2,_⟩|⟨⟨_,_,_,h1⟩,h2,_⟩⟩|⟨_,_,_,h1,h2,_⟩|⟨n,xs,ys,hk,h1,h2,_⟩
 case inl.inl=>rw[h1,h2];exact Er h3 w
 case inr.inr.inr.inr.inr =>
  rw[h1,h2];have hf:FX P ty=true:=by
   unfold dW at hk;split at hk<;>first|(exfalso;omega)|skip
   split at hk
   ·assumption
   omega
  unfold FX at hf;split at hf
  ·simp only[Bool.and_eq_true,Bool.not_eq_true']at hf;cases op<;>first|rfl|simp[eqGuard,hf.1.2]
  cases hf
 all_goals (rw[h1,h2];exact my (by simp) (by simp) w)
theorem zV {ty:TypeId}{x y:Value}{kind:Nat}{Kn b:Bool}(h:rF kind Kn x y=some b):binOp .eql ty x y=(do pure (.bool (<-Op.equal ty x y))):=by
 rcases oE h with ⟨_,⟨rfl,rfl,h3,_⟩|⟨⟨_,_,rfl⟩,rfl,_⟩|⟨rfl,⟨_,_,rfl⟩,_⟩⟩|⟨_,⟨rfl,rfl,_⟩|⟨⟨_,rfl⟩,rfl,_⟩|⟨rfl,⟨_,rfl⟩,_⟩⟩|⟨_,_,_,_,_,rfl,⟨rfl,_⟩|⟨⟨_,rfl⟩,_⟩⟩|⟨_,⟨rfl,rfl,_⟩|⟨⟨_,_,_,rfl⟩,rfl,_⟩⟩|⟨_,_,_,rfl,rfl,_⟩|⟨_,_,_,_,rfl,rfl,_⟩<;>rfl
theorem zW {ty:TypeId}{x y:Value}{kind:Nat}{Kn b:Bool}(h:rF kind Kn x y=some b):binOp .neq ty x y=(do pure (.bool (!(<-Op.equal ty x y)))):=by
 rcases oE h with ⟨_,⟨rfl,rfl,h3,_⟩|⟨⟨_,_,rfl⟩,rfl,_⟩|⟨rfl,⟨_,_,rfl⟩,_⟩⟩|⟨_,⟨rfl,rfl,_⟩|⟨⟨_,rfl⟩,rfl,_⟩|⟨rfl,⟨_,rfl⟩,_⟩⟩|⟨_,_,_,_,_,rfl,⟨rfl,_⟩|⟨⟨_,rfl⟩,_⟩⟩|⟨_,⟨rfl,rfl,_⟩|⟨⟨_,_,_,rfl⟩,rfl,_⟩⟩|⟨_,_,_,rfl,rfl,_⟩|⟨_,_,_,_,rfl,rfl,_⟩<;>rfl
theorem mo {ty:TypeId}(h:lI P ty=some none)(w:World):(isAgg ty).run P w=.ok false w/\(sizeOf ty).run P w=.ok 1 w:=by
 unfold lI at h;split at h<;>try (cases h)
 rename_i d i h1 h2 hd hi;split at h
 ·rename_i hs;refine⟨?_,by simp[sizeOf,typeInfo,hi,hs]⟩;simp only[isAgg,Sem.run_bind,run_underlying hd,Result.andThen_ok];cases d<;>first|rfl|simp_all
 cases h
theorem iu {ty:TypeId}{n:Nat}(h:lI P ty=some (some n))(w:World):(isAgg ty).run P w=.ok true w/\(sizeOf ty).run P w=.ok n w:=by
 unfold lI at h;split at h<;>try (cases h)
 ·rename_i hd hi;exact⟨by simp[isAgg,run_underlying hd],by simp[sizeOf,typeInfo,hi]⟩
 ·rename_i hd hi;exact⟨by simp[isAgg,run_underlying hd],by simp[sizeOf,typeInfo,hi]⟩
 split at h<;>cases h
theorem yW {ty:TypeId}(h:lI P ty=some none){cs:Array Value}{off:Nat}{v:Value}(hv:cs.toList[off]?=some v)(w:World):(part ty cs off).run P w=.ok v w:=by
 have NV:cs[off]?=some v:=by simpa using hv
 simp[part,(mo h w).1,NV]
theorem OK {ty:TypeId}{n:Nat}(h:lI P ty=some (some n)){cs:Array Value}{off:Nat}(w:World):(part ty cs off).run P w=.ok (.agg ((cs.toList.drop off).take n).toArray) w:=by
 simp only[part,Sem.run_bind,(iu h w).1,(iu h w).2,Result.andThen_ok,if_true,Sem.run_pure];congr 2;apply Array.ext';simp[List.take_drop,Nat.add_comm]
theorem Et {ty:TypeId}:(dW P ty=1->∃ms,P.underlying ty=some (.interface ms))/\(dW P ty=2->∃e,P.underlying ty=some (.pointer e))/\(dW P ty=3->∃e,P.underlying ty=some (.slice e)) /\
  (dW P ty=5->∃a b c,P.underlying ty=some (.func a b c))/\(dW P ty=6->P.underlying ty=some .bool)/\(∀n,dW P ty=n+7->FX P ty=true/\∃fs,P.underlying ty=some (.struct fs)/\fs.size=n):=by
 unfold dW;split<;>simp_all;split<;>simp_all
theorem nS {xs ys:List Value}{b:Bool}(h:eK xs ys=some b):(xs=[]/\ys=[]/\b=true)\/∃k a c xs' ys' b',xs=.int k a::xs'/\ys=.int k c::ys'/\eK xs' ys'=some b'/\b=(decide (a=c) && b'):=by
 unfold eK at h;split at h
 ·cases h;exact .inl ⟨rfl,rfl,rfl⟩
 ·split at h
  ·rename_i e;subst e;obtain⟨b',h1,h2⟩:=Option.map_eq_some_iff.1 h;exact .inr ⟨_,_,_,_,_,b',rfl,rfl,h1,h2.symm⟩
  cases h
 cases h
theorem rE (d:Nat)(w:World):∀(fs:List Field) (xs ys px py:List Value) (b:Bool),Kp P px.length fs=true->px.length=py.length->fs.length=xs.length->eK xs ys=some b ->
  (Op.eqFields (d+1) (px++xs).toArray (py++ys).toArray fs).run P w=.ok b w
 | [],xs,ys,px,py,b,_,_,hl,h=>by
  have:xs=[]:=List.eq_nil_of_length_eq_zero hl.symm;subst this;rcases nS h with ⟨_,_,rfl⟩|⟨_,_,_,_,_,_,h1,_⟩
  ·simp[Op.eqFields]
  cases h1
 | f::fs,xs,ys,px,py,b,hf,hp,hl,h=>by
  rcases nS h with ⟨rfl,_,_⟩|⟨k,a,c,xs,ys,b',rfl,rfl,h1,rfl⟩
  ·simp at hl
  simp only[Kp,Bool.and_eq_true,beq_iff_eq,bne_iff_ne]at hf;obtain⟨⟨⟨⟨ho,hn⟩,hu⟩,ht⟩,hr⟩:=hf;have EK:∃k,P.underlying f.type=some (.int k):=by
   split at hu
   ·exact⟨_,by assumption⟩
   cases hu
  obtain⟨k',EK⟩:=EK;have e1:(part f.type (px++.int k a::xs).toArray f.offset).run P w=.ok (.int k a) w:=yW ht (by rw[ho];simp) w;have e2:(part f.type (py++.int k c::ys).toArray f.offset).run P w=.ok (.int k c) w:=yW ht (by rw[ho,hp];simp) w;have e3:(Op.equalIn (d+1) f.type (.int k a) (.int k c)).run P w=.ok (a == c) w:=by
   simp[Op.equalIn,run_underlying EK]
  have ih:=rE d w fs xs ys (px++[.int k a]) (py++[.int k c]) b' (by simpa using hr) (by simp[hp]) (by simpa using hl) h1;simp only[List.append_assoc,List.cons_append,List.nil_append]at ih;simp only[Op.eqFields,hn,ne_eq,not_false_eq_true,if_true,Sem.run_bind,e1,e2,e3,Result.andThen_ok];by_cases hac:a=c
  ·subst hac;simp[ih]
  simp[hac]
theorem vd (d:Nat){ty:TypeId}{x y:Value}{Kn b:Bool}{w:World}(h:rF (dW P ty) Kn x y=some b):(Op.equalIn (d+2) ty x y).run P w=.ok b w:=by
 obtain⟨k1,k2,k3,k5,k6,k7⟩:=Et (P:=P) (ty:=ty);rcases oE h with ⟨hk,hh⟩|⟨hk,hh⟩|⟨hk,hh⟩|⟨hk,hh⟩|⟨hk,hh⟩|⟨n,xs,ys,hk,rfl,rfl,hn,hh⟩
 ·obtain⟨ms,hu⟩:=k1 hk;simp only[Op.equalIn,Sem.run_bind,run_underlying hu,Result.andThen_ok];rcases hh with ⟨rfl,rfl,_,rfl⟩|⟨⟨_,_,rfl⟩,rfl,rfl⟩|⟨rfl,⟨_,_,rfl⟩,rfl⟩<;>rfl
 ·obtain⟨ms,hu⟩:=k2 hk;simp only[Op.equalIn,Sem.run_bind,run_underlying hu,Result.andThen_ok];rcases hh with ⟨rfl,rfl,rfl⟩|⟨⟨_,rfl⟩,rfl,rfl⟩|⟨rfl,⟨_,rfl⟩,rfl⟩<;>rfl
 ·obtain⟨ms,hu⟩:=k3 hk;simp only[Op.equalIn,Sem.run_bind,run_underlying hu,Result.andThen_ok];rcases hh with ⟨_,_,_,_,rfl,⟨rfl,rfl⟩|⟨⟨_,rfl⟩,rfl⟩⟩<;>rfl
 ·obtain⟨_,_,_,hu⟩:=k5 hk;simp only[Op.equalIn,Sem.run_bind,run_underlying hu,Result.andThen_ok];rcases hh with ⟨rfl,rfl,rfl⟩|⟨⟨_,_,_,rfl⟩,rfl,rfl⟩<;>rfl
 ·have hu:=k6 hk;simp only[Op.equalIn,Sem.run_bind,run_underlying hu,Result.andThen_ok];obtain⟨_,_,rfl,rfl,rfl⟩:=hh;rfl
 obtain⟨hf,fs,hu,hs⟩:=k7 n hk;unfold FX at hf;rw[hu]at hf;simp only[Bool.and_eq_true,Bool.not_eq_true']at hf;have Pr:P.fieldsOf ty=fs:=by simp[Program.fieldsOf,hu]
 rw[run_equalIn_struct w (d+1) ty xs ys (by rw[Pr];exact hu) hf.2,Pr]
 have:=rE (P:=P) d w fs.toList xs.toList ys.toList [] [] b hf.1.1 rfl (by rw[hn];simpa using hs) hh;simpa using this
theorem sk {ty:TypeId}{x y:Value}{Kn b:Bool}{w:World}(h:rF (dW P ty) Kn x y=some b):(Op.equal ty x y).run P w=.ok b w:=vd 9998 h
theorem run_loadCellsFrom (w:World)(a:Addr):∀(n i:Nat) (acc:Array Value) (cs:List Value),aB w a i n=some cs->(loadCellsFrom a i n acc).run P w=.ok (acc++cs.toArray) w
 | 0,i,acc,cs,h=>by
  simp only[aB,Option.some.injEq]at h;subst h;simp[loadCellsFrom]
 | n+1,i,acc,cs,h=>by
  unfold aB at h;split at h
  ·rename_i v vs h1 h2;cases h;simp only[loadCellsFrom,load,Sem.run_bind,Sem.run,h1,Result.andThen_ok,run_loadCellsFrom w a n (i+1) _ vs h2];simp
  cases h
theorem pT {ty:TypeId}{f off:Nat}{n:Option Nat}(h:bS P ty f=some (off,n)):∃fs fl,P.underlying ty=some (.struct fs)/\fs[f]?=some fl/\fl.offset=off/\lI P fl.type=some n/\n≠some 0:=by
 unfold bS at h;split at h
 ·rename_i fs Pr;split at h
  ·rename_i fl sQ;refine⟨fs,fl,Pr,sQ,?_⟩;split at h
   ·rename_i ht;cases h;exact⟨rfl,ht,by simp⟩
   ·rename_i m ht;split at h
    ·cases h
    cases h;exact⟨rfl,ht,by simp_all⟩
   cases h
  cases h
 cases h
theorem xN {ty e:TypeId}{n:Nat}(h:gE P ty=some (e,n)):P.underlying ty=some (.slice e)/\∃i,P.info? e=some i/\i.size=n:=by
 unfold gE at h;split at h
 ·rename_i e' hu;cases hi:P.info? e' with
  | none=>simp[hi]at h
  | some i=>simp[hi]at h;obtain⟨rfl,rfl⟩:=h;exact⟨hu,i,hi,rfl⟩
 cases h
theorem MD {ty e:TypeId}{m n:Nat}(h:pM P ty=some (m,e,n)):P.underlying ty=some (.array m e)/\∃i,P.info? e=some i/\i.size=n:=by
 unfold pM at h;split at h
 ·rename_i m' e' hu;cases hi:P.info? e' with
  | none=>simp[hi]at h
  | some i=>simp[hi]at h;obtain⟨rfl,rfl,rfl⟩:=h;exact⟨hu,i,hi,rfl⟩
 cases h
theorem gA {o:Oper}{t:Fr}{w:World}{K:VK}{Q:EP}{s:Sem Value}(ho:execOp (ev t) o=(do pure (.value (<-s))))(h:aq P s t w K Q .mk):runK P o t w K Q .mk:=by
 unfold runK;rw[ho];exact h
theorem u3 {o:Oper}{t:Fr}{w:World}{K:VK}{Q:EP}{s:Sem Unit}(ho:execOp (ev t) o=(do s;pure .skip))(h:a8 P s t w K Q .mk):runK P o t w K Q .mk:=by
 unfold runK;rw[ho];exact h
theorem dq {s:Sem Value}{t:Fr}{w w':World}{K:VK}{Q:EP}{v:Value}(h:s.run P w=.ok v w')(k:K v w'):aq P s t w K Q .mk:=by
 unfold aq;simp only[Sem.run_bind,h,Result.andThen_ok,Sem.run_pure];exact k
theorem yq {s:Sem Unit}{t:Fr}{w w':World}{K:VK}{Q:EP}(h:s.run P w=.ok () w')(k:K undef w'):a8 P s t w K Q .mk:=by
 unfold a8;simp only[Sem.run_bind,h,Result.andThen_ok,Sem.run_pure];exact k
theorem jN {α:Type}{x:Option α}{K:α->Prop}(h:pJ x K .mk):∃v,x=some v/\K v:=by
 unfold pJ at h;split at h
 ·exact⟨_,rfl,h⟩
 exact h.elim
theorem Em (s:ByteArray):s.data.toList.length=s.size:=by rw[Array.length_toList];rfl
theorem run_sliceBound {i:Int}{k:IntKind}{y:Nat}{code:BoundsCode}(h:0<=i/\i<=y)(w:World):(Instr.sliceBound (.int k i) y code).run P w=.ok i.toNat w:=by
 simp[Instr.sliceBound,asIntOf,h]
theorem oz {isS:Bool}{len cap:Nat}{lo hi:Option Value}{l h:Int}(hl:il lo 0=some l)(hh:il hi len=some h)(b:0<=l/\l<=h/\h<=cap)(w:World) :
  (Instr.sliceBounds isS len cap lo hi none).run P w=.ok (l.toNat,h.toNat,cap) w:=by
 have low:∀(v:Option Value),il v 0=some l->(match v with|some v=>Instr.sliceBound v h.toNat .sliceB|none=>pure 0).run P w=.ok l.toNat w:=by
  intro v hv;cases v with
  | none=>simp[il]at hv;subst hv;rfl
  | some v =>
   cases v<;>simp[il]at hv;subst hv;exact run_sliceBound (by omega) w
 cases hi with
 | none =>
  simp[il]at hh;subst hh;cases lo with
  | none=>simp[il]at hl;subst hl;simp[Instr.sliceBounds]
  | some v =>
   cases v<;>simp[il]at hl;subst hl;simp[Instr.sliceBounds,run_sliceBound (P:=P) (show 0<=_/\_<=_ from ⟨b.1,b.2.1⟩) w]
 | some v =>
  cases v<;>simp[il]at hh;subst hh;rename_i k i;have e1:∀c,(Instr.sliceBound (.int k i) cap c).run P w=.ok i.toNat w:=λc=>run_sliceBound (by omega) w;have e2:((i.toNat:Nat):Int)=i:=by omega
  cases lo with
  | none=>simp[il]at hl;subst hl;simp[Instr.sliceBounds,e1]
  | some v =>
   cases v<;>simp[il]at hl;subst hl;simp[Instr.sliceBounds,e1,run_sliceBound (P:=P) (show 0<=_/\_<=((i.toNat:Nat):Int) from ⟨b.1,by omega⟩) w]
theorem vI:∀(l:List Value) (n:Nat) (c:Value) (cs:List Value),e9 (l.set n c) (n+1) cs=e9 l n (c::cs)
 | [],n,c,cs=>by cases n<;>simp[e9]
 | x::l,0,c,cs=>by simp[e9]
 | x::l,n+1,c,cs=>by simp[e9,vI l n c cs]
theorem qH:∀(cs:List Value) (off k:Nat) (l:List Value),(cs.zipIdx k).foldl (λa (p:Value×Nat)=>a.set (off+p.2) p.1) l=e9 l (off+k) cs
 | [],off,k,l=>by
  have:∀(l:List Value) (n:Nat),e9 l n []=l:=by
   intro l;induction l with
   | nil=>intro n;cases n<;>simp[e9]
   | cons x l ih=>intro n;cases n<;>simp[e9,ih]
  simp[this]
 | c::cs,off,k,l=>by
  simp only[List.zipIdx_cons,List.foldl_cons];rw[qH cs off (k+1),<-Nat.add_assoc,vI]
theorem jj (v:Value):v.cells.toList=dD v:=by cases v<;>rfl
theorem fill_eq (places:List (Nat×Nat)):∀(parts:List (Nat×Value)) (cells:List Value) (cs:List Value),lh places cells parts=some cs ->
  Instr.fill (λi=>places[i]?) cells.toArray parts=some cs.toArray
 | [],cells,cs,h=>by simp[lh]at h;simp[Instr.fill,h]
 | (i,v)::rest,cells,cs,h=>by
  simp only[lh]at h;simp only[Instr.fill];split at h
  ·rename_i off size hp;simp only[hp];split at h
   ·rename_i hc;simp only[Bool.and_eq_true,decide_eq_true_eq]at hc;have h1:=mm _ _ hc.1;have h2:v.cells.size=size:=by rw[<-h1,<-jj,Array.length_toList]
    rw[if_neg (by simp[h2];omega)];rw[<-fill_eq places rest _ cs h];congr 1;apply Array.ext';have h3:=qH (dD v) off 0 cells;rw[Nat.add_zero]at h3;rw[<-h3,<-jj];rw[<-Array.foldl_toList];have:∀(ps:List (Value×Nat)) (a:Array Value),(ps.foldl (λcs p=>cs.setIfInBounds (off+p.2) p.1) a).toList=ps.foldl (λa p=>a.set (off+p.2) p.1) a.toList:=by
     intro ps;induction ps with
     | nil=>intro a;rfl
     | cons p ps ih=>intro a;simp only[List.foldl_cons,ih,Array.toList_setIfInBounds]
    rw[this];simp[Array.toList_zipIdx]
   cases h
  cases h
theorem run_build {ty:TypeId}{z:List Value}{places:List (Nat×Nat)}{parts:List (Nat×Value)}{cs:List Value}(hb:nL P ty=some (z,places))(h:lh places z parts=some cs)(w:World) :
  (Instr.build ty parts.toArray).run P w=.ok (.agg cs.toArray) w:=by
 unfold nL at hb;split at hb
 ·rename_i i fs hi hu;split at hb
  ·rename_i zv hz;split at hb
   ·rename_i cg;simp only[Option.some.injEq,Prod.mk.injEq]at hb;obtain⟨rfl,rfl⟩:=hb;have hm:∀(l:List Field),l.all (λf=>(P.info? f.type).isSome)=true->(l.mapM (m:=Sem) λf=>do pure (f.offset,<-sizeOf f.type)).run P w=.ok (l.map λf=>(f.offset,((P.info? f.type).map (·.size)).getD 0)) w:=by
     intro l;induction l with
     | nil=>intro _;rfl
     | cons f l ih =>
      intro hl;simp only[List.all_cons,Bool.and_eq_true]at hl;obtain⟨j,hj⟩:=Option.isSome_iff_exists.1 hl.1;have hs:(sizeOf f.type).run P w=.ok j.size w:=by simp[sizeOf,typeInfo,hj]
      simp only[List.mapM_cons,Sem.run_bind,hs,Result.andThen_ok,Sem.run_pure,ih hl.2,List.map_cons,hj,Option.map_some,Option.getD_some]
    have Sr:(fs.mapM (m:=Sem) λf=>do pure (f.offset,<-sizeOf f.type)).run P w=.ok (fs.toList.map λf=>(f.offset,((P.info? f.type).map (·.size)).getD 0)).toArray w:=by
     have e:fs=fs.toList.toArray:=by simp
     rw[e,List.mapM_toArray,map_eq_pure_bind];simp only[Sem.run_bind,hm fs.toList cg,Result.andThen_ok,Sem.run_pure]
    have hf:=fill_eq _ parts _ cs h;unfold Instr.build;have hz':(zeroValue ty).run P w=.ok zv w:=by simp[zeroValue,typeInfo,hi,hz]
    simp only[Sem.run_bind,hz',Result.andThen_ok,run_underlying hu];simp only[Sr,Result.andThen_ok];have e1:zv.cells=(dD zv).toArray:=by rw[<-jj]
    rw[e1];have e2:(λi:Nat=>(fs.toList.map λf=>(f.offset,((P.info? f.type).map (·.size)).getD 0)).toArray[i]?)=(λi:Nat=>(fs.toList.map λf=>(f.offset,((P.info? f.type).map (·.size)).getD 0))[i]?):=by funext i;simp
    rw[e2,hf];rfl
   cases hb
  cases hb
 cases hb
theorem qC {o:Oper}{t:Fr}{L:VP}{other:Prop}(h:ai P o t L other .mk):other\/∃v,K6 P o t v/\L v:=by
 unfold ai at h;split at h
 ·rename_i x ho;exact .inr ⟨_,λw=>by unfold execOp;simp only[ho];rfl,h⟩
 ·rename_i x ho;exact .inr ⟨_,λw=>by unfold execOp;simp only[ho];rfl,h⟩
 ·rename_i c a b ho;unfold BC at h;split at h
  ·rename_i x hx;exact .inr ⟨_,λw=>by unfold execOp;simp only[ho,hx];simp[asBool],h⟩
  exact h.elim
 ·rename_i op ty x y yt ho;have h':=WU (P:=P) ho h;clear h;rcases h' with h|h
  ·unfold cd at h;split at h
   ·rename_i b hb;exact .inr ⟨_,λw=>r7 ho (pS hb w) (by rw[zV hb];simp[sk hb]),h⟩
   ·rename_i b hb;exact .inr ⟨_,λw=>r7 ho (pS hb w) (by rw[zW hb];simp[sk hb]),h⟩
   exact .inl h
  exact .inr h
 ·rename_i op ty x ho;exact aDO ho h
 ·rename_i x i ho;unfold nT at h;split at h
  ·rename_i vs hx;split at h
   ·rename_i v hv;refine .inr ⟨_,λw=>?_,h⟩;have NV:vs[i]?=some v:=by simpa using hv
    unfold execOp;simp[ho,hx,Instr.extract,NV]
   exact h.elim
  exact h.elim
 ·rename_i s d x ho;unfold sd at h;split at h
  ·rename_i k k' n hd hx;refine .inr ⟨_,λw=>?_,h⟩;split at hd
   ·rename_i hs;obtain⟨s',Vz⟩:=Option.isSome_iff_exists.1 hs;unfold execOp;simp[ho,hx,convert,run_underlying hd,run_underlying Vz,Conv.intToInt]
   cases hd
  ·rename_i k hd hx;refine .inr ⟨_,λw=>?_,h⟩;split at hd
   ·rename_i hs;obtain⟨s',Vz⟩:=Option.isSome_iff_exists.1 hs;unfold execOp;simp[ho,hx,convert,run_underlying hd,run_underlying Vz]
   cases hd
  exact .inl h
 ·rename_i ty x i ho;unfold ru at h;split at h
  ·rename_i s k n hd hx hi;obtain⟨⟨h0,h1⟩,h⟩:=h;refine .inr ⟨_,λw=>?_,h⟩;have bZ:n.toNat<s.size:=by
    have e:s.data.toList.length=s.size:=by rw[Array.length_toList];rfl
    rw[e]at h1;omega
   have e1:s[n.toNat]?=some (s.data.toList.getD n.toNat 0):=by
    rw[getElem?_pos s n.toNat bZ];simp[List.getD_eq_getElem?_getD,ByteArray.getElem_eq_getElem_data,bZ]
   unfold execOp;simp only[ho,hx,hi,Instr.index,asIntOf,Sem.run_bind,Sem.run_pure,Result.andThen_ok,run_underlying hd,h0,if_true,e1]
  exact .inl h
 ·rename_i fn first cap ho;exact .inr ⟨_,λw=>by unfold execOp;simp only[ho,Instr.makeFunc];rfl,h⟩
 ·rename_i ty parts ho;unfold xH at h;split at h
  ·rename_i z places hb;obtain⟨cs,hc,hk⟩:=jN h;refine .inr ⟨_,λw=>?_,hk⟩;have hr:=run_build (P:=P) hb hc w;have e:(parts.toList.map λ(p:Nat×Operand)=>(p.1,ev t p.2)).toArray=parts.map λ(p:Nat×Operand)=>(p.1,ev t p.2):=by apply Array.ext';simp
   unfold execOp;simp only[ho];rw[show (Array.map (λ(x:Nat×Operand)=>match x with|(i,x)=>(i,ev t x)) parts)=(parts.toList.map λ(p:Nat×Operand)=>(p.1,ev t p.2)).toArray from e.symm]
   simp only[Sem.run_bind];rw[show (List.map (λ(x:Nat×Operand)=>match x with|(i,x)=>(i,ev t x)) parts.toList)=(parts.toList.map λ(p:Nat×Operand)=>(p.1,ev t p.2)) from rfl]at hr
   rw[hr];rfl
  exact h.elim
 ·rename_i args lg ho;split at h
  ·rename_i x ty ha ht;have Zi:args=#[x]:=by rw[<-Array.toArray_toList (xs:=args),ha]
   have ht':lg=#[ty]:=by rw[<-Array.toArray_toList (xs:=lg),ht]
   unfold J3 at h;split at h
   ·rename_i s hd hx;exact .inr ⟨_,λw=>by unfold execOp;simp[ho,Zi,ht',resolve,invoke,builtin,Builtin.len_,hx,run_underlying hd,goInt],h⟩
   ·rename_i e a n c hd hx;exact .inr ⟨_,λw=>by unfold execOp;simp[ho,Zi,ht',resolve,invoke,builtin,Builtin.len_,hx,run_underlying hd,goInt],h⟩
   exact .inl h
  exact .inl h
 ·rename_i args lg ho;unfold WE at h;split at h
  ·rename_i k a k' b ha;have Zi:(args.map (ev t))=#[.int k a,.int k' b]:=by rw[<-Array.toArray_toList (xs:=args.map (ev t)),Array.toList_map,ha]
   exact .inr ⟨_,λw=>by unfold execOp;simp only[ho,resolve,Zi];simp[invoke,builtin,Builtin.max_,Builtin.max2],h⟩
  exact .inl h
 ·rename_i args lg ho;unfold WE at h;split at h
  ·rename_i k a k' b ha;have Zi:(args.map (ev t))=#[.int k a,.int k' b]:=by rw[<-Array.toArray_toList (xs:=args.map (ev t)),Array.toList_map,ha]
   exact .inr ⟨_,λw=>by unfold execOp;simp only[ho,resolve,Zi];simp[invoke,builtin,Builtin.min_,Builtin.min2],h⟩
  exact .inl h
 ·rename_i ty x f ho;unfold lp at h;split at h
  ·rename_i off n a hf hx;obtain⟨fs,fl,hu,sQ,rfl,ht,hn⟩:=pT hf;refine .inr ⟨_,λw=>?_,h⟩;have hs:∀w:World,∃m,(sizeOf fl.type).run P w=.ok m w/\m≠0:=λw=>by
    cases n with
    | none=>exact⟨1,(mo ht w).2,by simp⟩
    | some m=>exact⟨m,(iu ht w).2,λe=>hn (by rw[e])⟩
   obtain⟨m,hm,hm0⟩:=hs w;unfold execOp;simp[ho,hx,Instr.fieldAt,run_underlying hu,sQ,Instr.sureAddr,fieldPlace,hm,hm0]
  exact h.elim
 ·rename_i ty x f ho;unfold BB at h;split at h
  ·rename_i off cs hf hx;obtain⟨fs,fl,hu,sQ,rfl,ht,hn⟩:=pT hf;obtain⟨v,hc,hk⟩:=jN h;refine .inr ⟨_,λw=>?_,hk⟩;unfold execOp;simp[ho,hx,Instr.field,run_underlying hu,sQ,asAgg,yW ht hc w]
  ·rename_i off n cs hf hx;obtain⟨fs,fl,hu,sQ,rfl,ht,hn⟩:=pT hf;refine .inr ⟨_,λw=>?_,h⟩;unfold execOp;simp[ho,hx,Instr.field,run_underlying hu,sQ,asAgg,OK ht w]
  exact h.elim
 ·rename_i ty x i ho;unfold jF at h;split at h
  ·rename_i e size _ a n c k i' he hx hi;obtain⟨hu,ii,GC,rfl⟩:=xN he;obtain⟨hb,h⟩:=h;refine .inr ⟨_,λw=>?_,h⟩;unfold execOp;simp[ho,hx,hi,Instr.indexAt,asIntOf,run_underlying hu,hb,sizeOf,typeInfo,GC]
  ·rename_i n e size a k i' _ he hx hi;obtain⟨hu,ii,GC,rfl⟩:=MD he;obtain⟨hb,h⟩:=h;refine .inr ⟨_,λw=>?_,h⟩;unfold execOp;simp[ho,hx,hi,Instr.indexAt,Instr.sureAddr,asIntOf,run_underlying hu,hb,sizeOf,typeInfo,GC]
  exact h.elim
 ·rename_i ty x lo hi mx ho;unfold gm at h;split at h
  ·rename_i s hu hx hm;split at h
   ·rename_i l hh h1 h2;obtain⟨hb,hk⟩:=h;refine .inr ⟨_,λw=>?_,hk⟩;have e:=λis=>oz (P:=P) (isS:=is) (cap:=s.data.toList.length) h1 h2 hb w;rw[Em]at e;unfold execOp;have Sr:Option.map (ev t) mx=none:=hm;simp only[ho,hx,Instr.sliceAt,run_underlying hu,Instr.slice,Sr,Sem.run_bind,Result.andThen_ok,Option.isSome_none,Bool.false_eq_true,if_false,e,Sem.run_pure];simp only[str];congr 3;apply ByteArray.ext;apply Array.ext';simp[ByteArray.data_extract,List.drop_take]
   exact h.elim
  ·rename_i e' a len cap hu hx hm;split at h
   ·rename_i e size l hh he h1 h2;obtain⟨EK,ii,GC,rfl⟩:=xN he;obtain⟨hb,hk⟩:=h;refine .inr ⟨_,λw=>?_,hk⟩;have e:=λis=>oz (P:=P) (isS:=is) (cap:=cap) h1 h2 hb w;have Sr:Option.map (ev t) mx=none:=hm;rw[hu]at EK;cases EK;unfold execOp;simp only[ho,hx,Instr.sliceAt,run_underlying hu,Instr.slice,Sr,Sem.run_bind,Result.andThen_ok,e,Sem.run_pure];have:((cap:Int)=l)↔(cap=l.toNat):=by omega
    simp[sizeOf,typeInfo,GC,this]
   exact h.elim
  exact .inl h
 ·rename_i ty x ho;unfold uR at h;split at h
  ·exact .inl h
  rename_i hk;refine .inr ⟨_,λw=>?_,h⟩;split at hk
  ·rename_i hs;obtain⟨d,hd⟩:=Option.isSome_iff_exists.1 hs;unfold execOp;simp only[ho,Instr.makeInterface,Sem.run_bind,run_underlying hd,Result.andThen_ok];cases d<;>first|(simp;done)|(exfalso;exact hk (by simp[dW,hd]))
  exact absurd rfl hk
 exact .inl h
theorem DY {o:Oper}{t:Fr}{w:World}{K:Value->World->Prop}{Q:EP}(h:cN P o t w K Q .mk):runK P o t w K Q .mk:=by
 unfold cN at h;split at h
 ·rename_i f args lg ho;unfold XG at h;split at h
  ·rename_i g first cap hf
   unfold ag at h;unfold runK execOp;have e:(first.toList++args.toList.map (ev t)++cap.toList).toArray=first++args.map (ev t)++cap:=by apply Array.ext';simp
   rw[e]at h;simp only[ho,resolve,hf,Deferred.ofValue,Sem.run_bind,Sem.run_pure,Result.andThen_ok,invoke];exact h
  exact h
 ·rename_i ty x ho;unfold mD at h;split at h
  ·rename_i a ht hx;obtain⟨v,hc,hk⟩:=jN h;refine iD ?_ hk;unfold execOp;simp[ho,hx,Instr.loadAt,Instr.sureAddr,loadVar,(mo ht w).1,load,Sem.run,hc]
  ·rename_i n a ht hx;obtain⟨v,hc,hk⟩:=jN h;refine iD ?_ hk;unfold execOp;simp[ho,hx,Instr.loadAt,Instr.sureAddr,loadVar,(iu ht w).1,(iu ht w).2,loadCells,run_loadCellsFrom (P:=P) w a n 0 #[] v hc]
  exact h.elim
 ·rename_i ty x v ho;have hu:∀h:a8 P (Instr.storeAt ty (ev t x) (ev t v)) t w K Q .mk,runK P o t w K Q .mk:=λh=>u3 (by unfold execOp;simp only[ho]) h;unfold sJ at h;split at h
  ·rename_i a ht hx;obtain⟨h1,h2,h3,hk⟩:=h;obtain⟨u,hc⟩:=Option.isSome_iff_exists.1 h2;refine hu (yq ?_ hk);have e1:(ev t v).cells=#[ev t v]:=by
    generalize ev t v=u at h1;cases u<;>simp_all [Value.cells,kA]
   have e2:∀k:Sem Unit,(Sem.store .plain a (ev t v) k).run P w=k.run P (w.setCell a (ev t v)):=λk=>by
    generalize ev t v=u at h1;cases u<;>simp_all [Sem.run,kA]
   have e3:a.add 0=a:=by simp[Addr.add]
   rw[hx];simp only[Instr.storeAt,Instr.sureAddr,Sem.run_bind,Sem.run_pure,Result.andThen_ok,storeVar,(mo ht w).2,e1,List.size_toArray,List.length_cons,List.length_nil,ne_eq,not_true_eq_false,if_false,storeCells,store,e3,Nat.zero_add];simp only[e2,Sem.run];rfl
  exact hu h
 ·rename_i e x ho;exact iD (by unfold execOp;simp[ho,Instr.box,newVar,newRow]) h
 ·rename_i e ho;exact gA (by unfold execOp;simp only[ho]) h
 ·rename_i s d x ho;rcases qC (P:=P) (o:=o) (t:=t) (L:=(K · w)) (other:=aq P (convert s d (ev t x)) t w K Q .mk) (by unfold ai;simp only[ho];exact h) with h|⟨v,hg,hk⟩
  ·exact gA (by unfold execOp;simp only[ho]) h
  exact iD (hg w) hk
 ·rename_i ty n ps ho;exact gA (by unfold execOp;simp only[ho]) h
 ·rename_i ty l c ho;exact gA (by unfold execOp;simp only[ho]) h
 ·rename_i ty r ho;exact gA (by unfold execOp;simp only[ho]) h
 ·rename_i ty x i ok ho;exact gA (by unfold execOp;simp only[ho]) h
 ·rename_i ty m k x ho;exact u3 (by unfold execOp;simp only[ho]) h
 ·rename_i ty m k x ho;exact u3 (by unfold execOp;simp only[ho]) h
 ·rename_i x xt at_ ok ho;exact gA (by unfold execOp;simp only[ho]) h
 ·rename_i x ho;exact gA (by unfold execOp;simp only[ho]) h
 ·rename_i ty x ho;exact gA (by unfold execOp;simp only[ho]) h
 ·rename_i args lg ho;exact gA (by unfold execOp;simp only[ho];rfl) h
 ·rename_i args lg ho;exact gA (by unfold execOp;simp only[ho];rfl) h
 rcases qC (P:=P) h with h|⟨v,hg,hk⟩
 ·exact h
 exact iD (hg w) hk
theorem Bd {o:Oper}{t:Fr}{w:World}{K:Value->World->Prop}{Q:EP}{next:Act->World->Prop}
  (hn:∀v w',K v w'->next ⟨(put t o.dst v).toArray,[]⟩ w') (h:cN P o t w K Q .mk):o.wp P ⟨t.toArray,[]⟩ w next (lift Q):=by
 have h':=DY h;unfold runK at h';unfold Oper.wp;rw[ln];exact BJ hn h'
theorem ir (t:Fr)(s:Nat)(h:s<t.length):t.set s (t.getD s undef)=t:=by
 apply List.ext_getElem?;intro i;rw[List.getElem?_set];split
 ·rename_i e;subst e;simp[h,List.getD_eq_getElem?_getD]
 rfl
theorem ec (ops:List Oper)(t:Fr)(j:Nat):yielded ops.toArray t.toArray j=((iE ops j).bind (t[·]?)).bind (λ| .bool b=>some b|_=>none):=by
 unfold yielded iE;simp only[List.getElem?_toArray];cases (ops[j]?).bind (·.dst) with
 | none=>rfl
 | some s =>
  simp only[Option.bind_some];cases t[s]? with
  | none=>rfl
  | some v=>cases v<;>rfl
theorem th {ops:List Oper}{K:Fr->World->Prop}{Q:EP}{next:Exit->Act->World->Prop}(hn:∀t w,K t w->next .normal ⟨t.toArray,[]⟩ w)(hq:∀e a w,lift Q e a w->next e a w) :
  ∀(l:List Oper) (t:Fr) (w:World),aW P ops K Q l t w .mk->wpList P ops.toArray next l ⟨t.toArray,[]⟩ w
 | [],t,w,h=>hn t w h
 | o::r,t,w,h=>by
  have step:∀(t':Fr),Region.wanted o (yielded ops.toArray t'.toArray)=true->cN P o t' w (λv w'=>aW P ops K Q r (put t' o.dst v) w' .mk) Q .mk->wpList P ops.toArray next (o::r) ⟨t'.toArray,[]⟩ w:=λt' hw h'=>by
   unfold wpList;rw[if_pos hw];refine .inl ?_
   have:=Bd (next:=wpList P ops.toArray next r) (λv w' hk=>th hn hq r _ w' hk) h'
   unfold Oper.wp at this ⊢
   generalize (execOp _ o).run P w=res at this;cases res with
   | ok n w' =>
    cases n<;>simp only[Oper.upon]at this ⊢<;>first|exact this|skip
    exact this.mono λe ar he=>by
     cases e with
     | returned v=>exact he
     | panicked c=>exact hq _ _ _ he
     | outgrown=>obtain⟨a₀,w₀,hh⟩:=he;exact⟨a₀,w₀,hq _ _ _ hh⟩
   | halt x w'=>cases x<;>simp only[Oper.upon]at this ⊢<;>first|exact this|exact hq _ _ _ this
  have skip:∀(t':Fr),Region.wanted o (yielded ops.toArray t'.toArray)=false->aW P ops K Q r (put t' o.dst undef) w .mk->wpList P ops.toArray next (o::r) ⟨t'.toArray,[]⟩ w:=λt' hw h'=>by
   unfold wpList;rw[if_neg (by rw[hw];simp)];rw[put_eq];exact th hn hq r _ w h'
  simp only[aW]at h;split at h
  ·rename_i hg;exact step t (by simp[Region.wanted,hg]) h
  rename_i j want hg;have j5:∀t':Fr,Region.wanted o (yielded ops.toArray t'.toArray)=(yielded ops.toArray t'.toArray j == some want):=λt'=>by simp only[Region.wanted,hg]
  unfold gJ at h;split at h
  ·rename_i hs;exact skip t (by rw[j5,ec,hs];rfl) h
  rename_i s hs;split at h
  ·rename_i b hb;have bZ:s<t.length:=by
    rcases Nat.lt_or_ge s t.length with h'|h'
    ·exact h'
    simp[List.getD_eq_getElem?_getD,List.getElem?_eq_none h',undef]at hb
   have hv:t[s]?=some (.bool b):=by
    rw[List.getD_eq_getElem?_getD]at hb;rw[List.getElem?_eq_getElem bZ]at hb ⊢
    simpa using hb
   have hy:yielded ops.toArray t.toArray j=some b:=by rw[ec,hs];simp[hv]
   have same:=ir t s bZ;rw[hb]at same;by_cases Hp:b=want
   ·subst Hp;have h1:=h.1 rfl;rw[same]at h1;exact step t (by rw[j5,hy];simp) h1
   have DA:b=!want:=by cases b<;>cases want<;>simp_all
   have h2:=h.2 DA;rw[<-DA,same]at h2;exact skip t (by rw[j5,hy];simpa using Hp) h2
  rename_i hb;refine skip t ?_ h;rw[j5,ec,hs];simp only[Option.bind_some];cases hv:t[s]? with
  | none=>rfl
  | some v =>
   have:t.getD s undef=v:=by rw[List.getD_eq_getElem?_getD,hv];rfl
   rw[this]at hb;cases v<;>simp at hb ⊢
theorem yw {c:Code}{Q Q':EP}{t:Fr}{w:World}(hq:∀e t w,Q e t w->Q' e t w)(h:cw P c Q t w .mk):cw P c Q' t w .mk :=
 Code.wp_mono (λ_ _ _ hh=>⟨hh.1,hq _ _ _ hh.2⟩) h
theorem wX {a:Act}(h:a.defers=[]):a=⟨a.tmps.toList.toArray,[]⟩:=by cases a;simp_all
theorem nt:∀(c:Code) (Q:EP) (t:Fr) (w:World),vc P c Q t w .mk->cw P c Q t w .mk
 | .skip,_,_,_,h=>wp_skip ⟨rfl,by simpa[vc] using h⟩
 | .region _ ops false,Q,t,w,h=>by
  refine wp_region_list ?_
  have:=th (P:=P) (ops:=ops.toList) (next:=lift Q) (λt w hk=>⟨rfl,by simpa using hk⟩) (λ_ _ _ h=>h) ops.toList t w h
  simpa using this
 | .region _ _ true,_,_,_,h=>h
 | .seq a b,Q,t,w,h=>by
  refine wp_seq (Code.wp_mono ?_ (nt a _ t w h));rintro e a' w' ⟨hd,hh⟩;cases e<;>simp only[np]at hh<;>simp only[Exit.then]<;>first|exact⟨hd,hh⟩|skip
  have:=nt b Q _ w' hh;rw[wX hd];exact this
 | .cond c a b,Q,t,w,h=>by
  simp only[vc]at h;unfold nQ at h;split at h
  ·rename_i x hx;refine wp_cond_split (t:=x) (by rw[ln];exact hx) (λNW=>nt a Q t w (h.1 NW)) (λNW=>nt b Q t w (h.2 NW))
  exact h.elim
 | .block i c,Q,t,w,h=>by
  refine wp_block (Code.wp_mono ?_ (nt c _ t w h));rintro e a' w' ⟨hd,hh⟩;cases e<;>simp only[jB]at hh<;>simp only[Exit.inBlock]<;>first|exact⟨hd,hh⟩|skip
  split at hh
  ·rename_i e;simp only[e,if_true];exact⟨hd,hh⟩
  rename_i e;simp only[e,if_false];exact⟨hd,hh⟩
 | .exit i,_,_,_,h=>wp_exit ⟨rfl,by simpa[vc] using h⟩
 | .ret,_,_,_,h=>wp_ret ⟨rfl,by simpa[vc] using h⟩
 | .label _,_,_,_,h=>wp_label ⟨rfl,by simpa[vc] using h⟩
 | .goto l,_,_,_,h=>wp_goto ⟨rfl,by simpa[vc] using h⟩
 | .loop _,_,_,_,h=>h
 | .scope _,_,_,_,h=>h
 | .rangeFunc ..,_,_,_,h=>h
 | .refuse _,_,_,_,h=>h
end
end Go.Vc
end
section
namespace Go.Vc
open Go.RowKit
section
variable {P:Program} {t:Fr} {w:World} {K:VK} {Q:EP} {N:Fr->World->Prop} {L:VP} {other:Prop}
def evs (t:Fr):List (Nat×Operand)->List (Nat×Value)
 | ps=>ps.map λ(i,x)=>(i,ev t x)
theorem XB (t:Fr):evs t []=[]:=(rfl)
theorem Ry (t:Fr)(i x ps):evs t ((i,x)::ps)=(i,ev t x)::evs t ps:=(rfl)
theorem aA4 (i:Nat):ev t (.tmp i)=t.getD i undef:=(rfl)
theorem Rx (v:Value):ev t (.const v)=v:=(rfl)
theorem Mn (g:Nat):ev t (.global g)=.pointer (some ⟨g,0,none⟩):=(rfl)
theorem XA (f:FuncId):ev t (.func f)=.func (.func f) #[] #[]:=(rfl)
theorem U7 (d:Nat)(v:Value):put t (some d) v=t.set d v:=(rfl)
theorem U6 (v:Value):put t none v=t:=(rfl)
theorem SJ (x:Value)(l:List Value)(d:Value):(x::l).getD 0 d=x:=(rfl)
theorem SI (x:Value)(l:List Value)(n:Nat)(d:Value):(x::l).getD (n+1) d=l.getD n d:=(rfl)
theorem Uz (x:Value)(l:List Value)(v:Value):(x::l).set 0 v=v::l:=(rfl)
theorem Uy (x:Value)(l:List Value)(n:Nat)(v:Value):(x::l).set (n+1) v=x::l.set n v:=(rfl)
theorem ZN (p):vc P .skip Q t w p=Q .normal t w:=(rfl)
theorem PU (id:Nat)(l:List Oper)(p):vc P (.region id l.toArray false) Q t w p=aW P l (Q .normal) Q l t w .mk:=(rfl)
theorem ZJ (id:Nat)(l:Array Oper)(p):vc P (.region id l true) Q t w p=cw P (.region id l true) Q t w .mk:=(rfl)
theorem aDQ (a b:Code)(p):vc P (.seq a b) Q t w p=vc P a (np (λt w=>vc P b Q t w .mk) Q .mk) t w .mk:=(rfl)
theorem ZI (c:Operand)(a b:Code)(p):vc P (.cond c a b) Q t w p=nQ (ev t c) (vc P a Q t w .mk) (vc P b Q t w .mk) .mk:=(rfl)
theorem Vh (i:Nat)(c:Code)(p):vc P (.block i c) Q t w p=vc P c (jB i Q .mk) t w .mk:=(rfl)
theorem ZK (i:Nat)(p):vc P (.exit i) Q t w p=Q (.exit i) t w:=(rfl)
theorem aDP (p):vc P .ret Q t w p=Q .ret t w:=(rfl)
theorem Vi (l:Nat)(p):vc P (.label l) Q t w p=Q .normal t w:=(rfl)
theorem ZL (l:Nat)(p):vc P (.goto l) Q t w p=Q (.goto l) t w:=(rfl)
theorem ZM (c:Code)(p):vc P (.loop c) Q t w p=cw P (.loop c) Q t w .mk:=(rfl)
theorem Vj (c:Code)(p):vc P (.scope c) Q t w p=cw P (.scope c) Q t w .mk:=(rfl)
theorem Dv (f ps a b p):vc P (.rangeFunc f ps a b) Q t w p=cw P (.rangeFunc f ps a b) Q t w .mk:=(rfl)
theorem HI (Q:EP)(p):np N Q p .normal t w=N t w:=(rfl)
theorem Ux (Q:EP)(p):np N Q p .ret t w=Q .ret t w:=(rfl)
theorem O6 (Q:EP)(i:Nat)(p):np N Q p (.exit i) t w=Q (.exit i) t w:=(rfl)
theorem Od (Q:EP)(i:Nat)(p):np N Q p (.goto i) t w=Q (.goto i) t w:=(rfl)
theorem yh (Q:EP)(c)(p):np N Q p (.panic c) t w=Q (.panic c) t w:=(rfl)
theorem zX (Q:EP)(i:Nat)(p):jB i Q p .normal t w=Q .normal t w:=(rfl)
theorem I0 (Q:EP)(i:Nat)(p):jB i Q p .ret t w=Q .ret t w:=(rfl)
theorem EX (Q:EP)(i j:Nat)(p):jB i Q p (.goto j) t w=Q (.goto j) t w:=(rfl)
theorem sZ (Q:EP)(i:Nat)(c)(p):jB i Q p (.panic c) t w=Q (.panic c) t w:=(rfl)
theorem ui (Q:EP)(i:Nat)(p):jB i Q p (.exit i) t w=Q .normal t w:=by simp[jB]
theorem Bv (Q:EP)(i j:Nat)(p)(h:(j == i)=false):jB i Q p (.exit j) t w=Q (.exit j) t w:=by simp[jB,show ¬j=i by simpa using h]
theorem PR (ops)(p):aW P ops N Q [] t w p=N t w:=(rfl)
theorem Hd (ops)(d op ty pos af r)(p):aW P ops N Q (⟨d,op,ty,pos,af,none⟩::r) t w p=cN P ⟨d,op,ty,pos,af,none⟩ t w (λv w'=>aW P ops N Q r (put t d v) w' .mk) Q .mk:=(rfl)
theorem Hc (ops)(d op ty pos af j want r)(p):aW P ops N Q (⟨d,op,ty,pos,af,some (j,want)⟩::r) t w p =
  gJ (iE ops j) want t (λt'=>cN P ⟨d,op,ty,pos,af,some (j,want)⟩ t' w (λv w'=>aW P ops N Q r (put t' d v) w' .mk) Q .mk) (λt'=>aW P ops N Q r (put t' d undef) w .mk) .mk:=rfl
theorem HM (o:Oper)(l:List Oper):iE (o::l) 0=o.dst:=(rfl)
theorem HL (o:Oper)(l:List Oper)(n:Nat):iE (o::l) (n+1)=iE l n:=(rfl)
theorem UL (d op ty pos af g):(Oper.mk d op ty pos af g).dst=d:=(rfl)
def gK (v:Value)(s:Nat)(want:Bool)(t:Fr)(yes no:Fr->Prop)(_:Ph (yes,no)):Prop:=match v with
 | .bool b=>(b=want->yes (t.set s (.bool want)))/\(b=!want->no (t.set s (.bool !want)))
 | _=>no t
theorem Mu (s:Nat)(want:Bool)(yes no:Fr->Prop)(p):gJ (some s) want t yes no p=gK (t.getD s undef) s want t yes no .mk:=by
 simp only[gJ,gK]
 all_goals (generalize t.getD s undef=v;cases v<;>rfl)
theorem FY (want:Bool)(yes no:Fr->Prop)(p):gJ none want t yes no p=no t:=(rfl)
theorem aFn (s:Nat)(yes no:Fr->Prop)(p):gK (.bool true) s true t yes no p=yes (t.set s (.bool true)):=by simp[gK]
theorem aFk (s:Nat)(yes no:Fr->Prop)(p):gK (.bool false) s false t yes no p=yes (t.set s (.bool false)):=by simp[gK]
theorem aFm (s:Nat)(yes no:Fr->Prop)(p):gK (.bool true) s false t yes no p=no (t.set s (.bool true)):=by simp[gK]
theorem aFl (s:Nat)(yes no:Fr->Prop)(p):gK (.bool false) s true t yes no p=no (t.set s (.bool false)):=by simp[gK]
theorem SH (s:Nat)(want:Bool)(yes no:Fr->Prop)(p):gK undef s want t yes no p=no t:=(rfl)
theorem RN (x y:Prop)(p):nQ (.bool true) x y p=x:=by simp[nQ]
theorem RM (x y:Prop)(p):nQ (.bool false) x y p=y:=by simp[nQ]
theorem MP (q:Prop)[Decidable q](x y:Prop)(p):nQ (.bool (decide q)) x y p=((q->x)/\(¬q->y)):=by simp[nQ]
theorem MQ (b:Bool)(x y:Prop)(p):nQ (.bool (!b)) x y p=nQ (.bool b) y x .mk:=by cases b<;>simp[nQ]
theorem SG (q:Prop)[Decidable q](s:Nat)(yes no:Fr->Prop)(p):gK (.bool (decide q)) s true t yes no p=((q->yes (t.set s (.bool true)))/\(¬q->no (t.set s (.bool false)))):=by simp[gK]
theorem SF (q:Prop)[Decidable q](s:Nat)(yes no:Fr->Prop)(p):gK (.bool (decide q)) s false t yes no p=((¬q->yes (t.set s (.bool false)))/\(q->no (t.set s (.bool true)))):=by simp[gK]
theorem UU (a b:Value)(p):BC (.bool true) a b L p=L a:=(rfl)
theorem UT (a b:Value)(p):BC (.bool false) a b L p=L b:=(rfl)
theorem UI (d x ty pos af g)(p):cN P ⟨d,.move x,ty,pos,af,g⟩ t w K Q p=K (ev t x) w:=(rfl)
theorem Jm (d x ty pos af g)(p):cN P ⟨d,.assign x,ty,pos,af,g⟩ t w K Q p=K (ev t x) w:=(rfl)
theorem UK (d c a b ty pos af g)(p):cN P ⟨d,.pick c a b,ty,pos,af,g⟩ t w K Q p=BC (ev t c) (ev t a) (ev t b) (K · w) .mk:=(rfl)
theorem YS (d op xt x y yt ty pos af g)(p):cN P ⟨d,.binOp op xt x y yt,ty,pos,af,g⟩ t w K Q p =
  eE op (ev t x) (ev t y) (K · w) (cd (dW P xt) (isConst x || isConst y) op (ev t x) (ev t y) (K · w) (runK P ⟨d,.binOp op xt x y yt,ty,pos,af,g⟩ t w K Q .mk) .mk) .mk:=rfl
theorem aCR (d op xt x ty pos af g)(p):cN P ⟨d,.unOp op xt x,ty,pos,af,g⟩ t w K Q p=unK op (ev t x) (K · w) (runK P ⟨d,.unOp op xt x,ty,pos,af,g⟩ t w K Q .mk) .mk:=(rfl)
theorem Gn (d x i ty pos af g)(p):cN P ⟨d,.extract x i,ty,pos,af,g⟩ t w K Q p=nT (ev t x) i (K · w) .mk:=(rfl)
theorem Gl (d s e x ty pos af g)(p):cN P ⟨d,.convert s e x,ty,pos,af,g⟩ t w K Q p=sd (if (P.underlying s).isSome then P.underlying e else none) (ev t x) (K · w) (aq P (convert s e (ev t x)) t w K Q .mk) .mk:=(rfl)
theorem OB (d xt x i ty pos af g)(p):cN P ⟨d,.index xt x i,ty,pos,af,g⟩ t w K Q p=ru (P.underlying xt) (ev t x) (ev t i) (K · w) (runK P ⟨d,.index xt x i,ty,pos,af,g⟩ t w K Q .mk) .mk:=(rfl)
theorem DW (d fn)(a c:List Operand)(ty pos af g)(p):cN P ⟨d,.makeFunc fn a.toArray c.toArray,ty,pos,af,g⟩ t w K Q p=K (.func fn (a.map (ev t)).toArray (c.map (ev t)).toArray) w:=by
 simp[cN,ai]
theorem UF (d f)(args:List Operand)(lg ty pos af g)(p):cN P ⟨d,.call { callee:=.value f,args:=args.toArray,argTypes:=lg },ty,pos,af,g⟩ t w K Q p =
  XG P (ev t f) (args.map (ev t)) t w K Q (runK P ⟨d,.call { callee:=.value f,args:=args.toArray,argTypes:=lg },ty,pos,af,g⟩ t w K Q .mk) .mk:=rfl
theorem YU (d x lg ty pos af g)(p):cN P ⟨d,.call { callee:=.builtin .len,args:=#[x],argTypes:=#[lg] },ty,pos,af,g⟩ t w K Q p =
  J3 (P.underlying lg) (ev t x) (K · w) (runK P ⟨d,.call { callee:=.builtin .len,args:=#[x],argTypes:=#[lg] },ty,pos,af,g⟩ t w K Q .mk) .mk:=rfl
theorem YV (d)(args:List Operand)(lg ty pos af g)(p):cN P ⟨d,.call { callee:=.builtin .max,args:=args.toArray,argTypes:=lg },ty,pos,af,g⟩ t w K Q p =
  WE true (args.map (ev t)) (K · w) (runK P ⟨d,.call { callee:=.builtin .max,args:=args.toArray,argTypes:=lg },ty,pos,af,g⟩ t w K Q .mk) .mk:=rfl
theorem YW (d)(args:List Operand)(lg ty pos af g)(p):cN P ⟨d,.call { callee:=.builtin .min,args:=args.toArray,argTypes:=lg },ty,pos,af,g⟩ t w K Q p =
  WE false (args.map (ev t)) (K · w) (runK P ⟨d,.call { callee:=.builtin .min,args:=args.toArray,argTypes:=lg },ty,pos,af,g⟩ t w K Q .mk) .mk:=rfl
theorem UH (d xt x ty pos af g)(p):cN P ⟨d,.load xt x,ty,pos,af,g⟩ t w K Q p=mD (lI P xt) (ev t x) w K .mk:=(rfl)
theorem OG (d xt x v ty pos af g)(p):cN P ⟨d,.store xt x v,ty,pos,af,g⟩ t w K Q p=sJ (lI P xt) (ev t x) (ev t v) w K (a8 P (Instr.storeAt xt (ev t x) (ev t v)) t w K Q .mk) .mk:=(rfl)
theorem AR (d xt x f ty pos af g)(p):cN P ⟨d,.fieldAddr xt x f,ty,pos,af,g⟩ t w K Q p=lp (bS P xt f) (ev t x) (K · w) .mk:=(rfl)
theorem Nz (d xt x f ty pos af g)(p):cN P ⟨d,.field xt x f,ty,pos,af,g⟩ t w K Q p=BB (bS P xt f) (ev t x) (K · w) .mk:=(rfl)
theorem AS (d xt x i ty pos af g)(p):cN P ⟨d,.indexAddr xt x i,ty,pos,af,g⟩ t w K Q p=jF (gE P xt) (pM P xt) (ev t x) (ev t i) (K · w) .mk:=(rfl)
theorem OE (d xt x lo hi mx ty pos af g)(p):cN P ⟨d,.slice xt x lo hi mx,ty,pos,af,g⟩ t w K Q p =
  gm (P.underlying xt) (gE P xt) (ev t x) (lo.map (ev t)) (hi.map (ev t)) (mx.map (ev t)) (K · w) (runK P ⟨d,.slice xt x lo hi mx,ty,pos,af,g⟩ t w K Q .mk) .mk:=rfl
theorem OA (d xt x ty pos af g)(p):cN P ⟨d,.makeInterface xt x,ty,pos,af,g⟩ t w K Q p =
  uR (if (P.underlying xt).isSome then dW P xt else 1) xt (ev t x) (K · w) (runK P ⟨d,.makeInterface xt x,ty,pos,af,g⟩ t w K Q .mk) .mk:=rfl
theorem YT (d e x ty pos af g)(p):cN P ⟨d,.box e x,ty,pos,af,g⟩ t w K Q p=aAH e (ev t x) w K .mk:=(rfl)
theorem Nv (d e ty pos af g)(p):cN P ⟨d,.alloc e,ty,pos,af,g⟩ t w K Q p=aq P (Instr.alloc e true (.tuple #[])) t w K Q .mk:=(rfl)
theorem Nw (d bt)(ps:List (Nat×Operand))(ty pos af g)(p):cN P ⟨d,.build bt ps.toArray,ty,pos,af,g⟩ t w K Q p=xH (nL P bt) (evs t ps) (K · w) .mk:=(rfl)
theorem yR (d bt n)(ps:List (Nat×Operand))(ty pos af g)(p):cN P ⟨d,.buildSlice bt n ps.toArray,ty,pos,af,g⟩ t w K Q p=aq P (Instr.buildSlice bt n (evs t ps).toArray) t w K Q .mk:=by
 simp[cN,evs]
theorem AU (d bt l c ty pos af g)(p):cN P ⟨d,.makeSlice bt l c,ty,pos,af,g⟩ t w K Q p=aq P (Instr.makeSlice bt (ev t l) (ev t c)) t w K Q .mk:=(rfl)
theorem Gp (d bt r ty pos af g)(p):cN P ⟨d,.makeMap bt r,ty,pos,af,g⟩ t w K Q p=aq P (Instr.makeMap bt (r.map (ev t))) t w K Q .mk:=(rfl)
theorem Jp (d bt x i ok ty pos af g)(p):cN P ⟨d,.lookup bt x i ok,ty,pos,af,g⟩ t w K Q p=aq P (Instr.lookup bt (ev t x) (ev t i) ok) t w K Q .mk:=(rfl)
theorem AV (d bt m k x ty pos af g)(p):cN P ⟨d,.mapUpdate bt m k x,ty,pos,af,g⟩ t w K Q p=a8 P (Instr.mapUpdate bt (ev t m) (ev t k) (ev t x)) t w K Q .mk:=(rfl)
theorem Jn (d bt m k x ty pos af g)(p):cN P ⟨d,.insert bt m k x,ty,pos,af,g⟩ t w K Q p=a8 P (Instr.mapUpdate bt (ev t m) (ev t k) (ev t x)) t w K Q .mk:=(rfl)
theorem yS (d x xt at_ ok ty pos af g)(p):cN P ⟨d,.typeAssert x xt at_ ok,ty,pos,af,g⟩ t w K Q p=aq P (Instr.typeAssert (ev t x) xt at_ ok) t w K Q .mk:=(rfl)
theorem OC (d x ty pos af g)(p):cN P ⟨d,.panic x,ty,pos,af,g⟩ t w K Q p=aq P (Instr.panic (ev t x)) t w K Q .mk:=(rfl)
theorem OD (d xt x ty pos af g)(p):cN P ⟨d,.range xt x,ty,pos,af,g⟩ t w K Q p=aq P (Instr.range xt (ev t x)) t w K Q .mk:=(rfl)
theorem Jl (d)(args:List Operand)(lg ty pos af g)(p):cN P ⟨d,.call { callee:=.builtin .append,args:=args.toArray,argTypes:=lg },ty,pos,af,g⟩ t w K Q p =
  aq P (Builtin.append_ lg ty (args.map (ev t)).toArray) t w K Q .mk:=by simp[cN]
theorem UG (d)(args:List Operand)(lg ty pos af g)(p):cN P ⟨d,.call { callee:=.builtin .copy,args:=args.toArray,argTypes:=lg },ty,pos,af,g⟩ t w K Q p =
  aq P (Builtin.copy_ lg ty (args.map (ev t)).toArray) t w K Q .mk:=by simp[cN]
theorem Ms (g:FuncId)(a c:List Value)(args:List Value)(p):XG P (.func (.func g) a.toArray c.toArray) args t w K Q other p=ag P g (a++args++c) t w K Q .mk:=(rfl)
theorem IU (n:Int)(p):ji .i64 n L p=((-9223372036854775808<=n/\n<=9223372036854775807)/\L (.int .i64 n)):=(rfl)
theorem MC (n:Int)(p):ji .u8 n L p=L (.int .u8 (IntKind.u8.wrap n)):=(rfl)
theorem IV (n:Int)(p):ji .u32 n L p=L (.int .u32 (IntKind.u32.wrap n)):=(rfl)
theorem IW (n:Int)(p):ji .u64 n L p=L (.int .u64 (IntKind.u64.wrap n)):=(rfl)
theorem IT (n:Int)(p):ji .i32 n L p=L (.int .i32 (IntKind.i32.wrap n)):=(rfl)
section
variable (k k':IntKind) (a b:Int)
theorem Q7 (p):eE .add (.int k a) (.int k b) L other p=ji k (a+b) L .mk:=by simp[eE,pI]
theorem Qk (p):eE .sub (.int k a) (.int k b) L other p=ji k (a-b) L .mk:=by simp[eE,pI]
theorem Qe (p):eE .mul (.int k a) (.int k b) L other p=ji k (a*b) L .mk:=by simp[eE,pI]
theorem Qg (p):eE .quo (.int k a) (.int k b) L other p=(b≠0/\L (.int k (k.wrap (a.tdiv b)))):=by simp[eE,pI]
theorem Qh (p):eE .rem (.int k a) (.int k b) L other p=(b≠0/\L (.int k (a.tmod b))):=by simp[eE,pI]
theorem Q8 (p):eE .and (.int k a) (.int k b) L other p=L (.int k (eJ .and k a b)):=by simp[eE,pI]
theorem WV (p):eE .or (.int k a) (.int k b) L other p=L (.int k (eJ .or k a b)):=by simp[eE,pI]
theorem Ql (p):eE .xor (.int k a) (.int k b) L other p=L (.int k (eJ .xor k a b)):=by simp[eE,pI]
theorem EV (p):eE .andNot (.int k a) (.int k b) L other p=L (.int k (eJ .andNot k a b)):=by simp[eE,pI]
theorem Q9 (p):eE .eql (.int k a) (.int k b) L other p=L (.bool (decide (a=b))):=by simp[eE,pI];rfl
theorem Qf (p):eE .neq (.int k a) (.int k b) L other p=L (.bool (decide (a≠b))):=by
 have:(a != b)=decide (a≠b):=by by_cases h:a=b<;>simp[h]
 simp only[eE,pI,this];simp
theorem Qd (p):eE .lss (.int k a) (.int k b) L other p=L (.bool (decide (a<b))):=by simp[eE,pI]
theorem Qc (p):eE .leq (.int k a) (.int k b) L other p=L (.bool (decide (a<=b))):=by simp[eE,pI]
theorem Qb (p):eE .gtr (.int k a) (.int k b) L other p=L (.bool (decide (b<a))):=by simp[eE,pI]
theorem Qa (p):eE .geq (.int k a) (.int k b) L other p=L (.bool (decide (b<=a))):=by simp[eE,pI]
theorem Qi (p):eE .shl (.int k a) (.int k' b) L other p=(0<=b/\L (.int k (k.wrap (a*2 ^ min b.toNat k.bits)))):=(rfl)
theorem Qj (p):eE .shr (.int k a) (.int k' b) L other p=(0<=b/\L (.int k (a.fdiv (2 ^ min b.toNat k.bits)))):=(rfl)
end
theorem Bo (a b:List UInt8)(p):eE .add (str a) (str b) L other p=(((a.length:Int)+b.length<=9223372036854775807)/\L (str (a++b))):=by
 simp[eE,str,ByteArray.size];intro _;rw[show ({ data:=a.toArray }:ByteArray)++{ data:=b.toArray }={ data:=(a++b).toArray } from by apply ByteArray.ext;simp]
theorem Bp (a b:List UInt8)(p):eE .eql (str a) (str b) L other p=L (.bool (decide (a=b))):=by
 have:(a == b)=decide (a=b):=by by_cases h:a=b<;>simp[h]
 simp[eE,str,this]
theorem Bq (a b:List UInt8)(p):eE .neq (str a) (str b) L other p=L (.bool (decide (a≠b))):=by
 have:(!(a == b))=decide (a≠b):=by by_cases h:a=b<;>simp[h]
 simp only[eE,str,this]
theorem xB (y:Value)(p):eE .eql .nilIface y L other p=other:=by cases y<;>rfl
theorem xC (y:Value)(p):eE .neq .nilIface y L other p=other:=by cases y<;>rfl
theorem wZ (ty v y)(p):eE .eql (.iface ty v) y L other p=other:=by cases y<;>rfl
theorem xA (ty v y)(p):eE .neq (.iface ty v) y L other p=other:=by cases y<;>rfl
theorem Bm (a y)(p):eE .eql (.pointer a) y L other p=other:=by cases y<;>rfl
theorem Bn (a y)(p):eE .neq (.pointer a) y L other p=other:=by cases y<;>rfl
theorem xD (a n c y)(p):eE .eql (.slice a n c) y L other p=other:=by cases y<;>rfl
theorem xE (a n c y)(p):eE .neq (.slice a n c) y L other p=other:=by cases y<;>rfl
theorem zQ (b y)(p):eE .eql (.bool b) y L other p=other:=by cases y<;>rfl
theorem zT (b y)(p):eE .neq (.bool b) y L other p=other:=by cases y<;>rfl
theorem Bk (b y)(p):eE .eql (.agg b) y L other p=other:=by cases y<;>rfl
theorem Bl (b y)(p):eE .neq (.agg b) y L other p=other:=by cases y<;>rfl
theorem tu (y)(p):eE .eql .nilFunc y L other p=other:=by cases y<;>rfl
theorem zU (a b c y)(p):eE .eql (.func a b c) y L other p=other:=by cases y<;>rfl
theorem aA1 (p):cd 1 true .eql .nilIface .nilIface L other p=L (.bool true):=(rfl)
theorem aA0 (ty v c)(p):cd 1 c .eql (.iface ty v) .nilIface L other p=L (.bool false):=(rfl)
theorem YM (p):cd 1 true .neq .nilIface .nilIface L other p=L (.bool false):=(rfl)
theorem YL (ty v c)(p):cd 1 c .neq (.iface ty v) .nilIface L other p=L (.bool true):=(rfl)
theorem aA2 (c)(p):cd 2 c .eql (.pointer none) (.pointer none) L other p=L (.bool true):=(rfl)
theorem aA3 (a c)(p):cd 2 c .eql (.pointer (some a)) (.pointer none) L other p=L (.bool false):=(rfl)
theorem YN (c)(p):cd 2 c .neq (.pointer none) (.pointer none) L other p=L (.bool false):=(rfl)
theorem YO (a c)(p):cd 2 c .neq (.pointer (some a)) (.pointer none) L other p=L (.bool true):=(rfl)
theorem eq_6 (a b c)(p):cd 6 c .eql (.bool a) (.bool b) L other p=L (.bool (a == b)):=(rfl)
theorem aHf (a b c)(p):cd 6 c .neq (.bool a) (.bool b) L other p=L (.bool (!(a == b))):=(rfl)
theorem Ii:eK [] []=some true:=(rfl)
theorem Es (k a b xs ys):eK (.int k a::xs) (.int k b::ys)=(eK xs ys).map (decide (a=b) && ·):=by simp[eK]
theorem MG (f:Bool->Bool)(b:Bool):Option.map f (some b)=some (f b):=(rfl)
def ni (b:Option Bool)(L:VP)(neg:Bool)(other:Prop)(_:Ph (L,other)):Prop:=match b with
 | some b=>L (.bool (xor neg b))
 | none=>other
theorem eq_7 (n c)(xs ys:List Value)(p)(h:jI xs n=true):cd (n+7) c .eql (.agg xs.toArray) (.agg ys.toArray) L other p=ni (eK xs ys) L false other .mk:=by
 simp only[cd,rF,h,ni];cases eK xs ys<;>simp
theorem Az (n c)(xs ys:List Value)(p)(h:jI xs n=true):cd (n+7) c .neq (.agg xs.toArray) (.agg ys.toArray) L other p=ni (eK xs ys) L true other .mk:=by
 simp only[cd,rF,h,ni];cases eK xs ys<;>simp
theorem aFa (c)(x0 y0:Value)(p):cd 8 c .eql (.agg #[x0]) (.agg #[y0]) L other p=ni (eK [x0] [y0]) L false other .mk:=eq_7 1 c [x0] [y0] p rfl
theorem aFb (c)(x0 x1 y0 y1:Value)(p):cd 9 c .eql (.agg #[x0,x1]) (.agg #[y0,y1]) L other p=ni (eK [x0,x1] [y0,y1]) L false other .mk:=eq_7 2 c [x0,x1] [y0,y1] p rfl
theorem aFc (c)(x0 x1 x2 y0 y1 y2:Value)(p):cd 10 c .eql (.agg #[x0,x1,x2]) (.agg #[y0,y1,y2]) L other p=ni (eK [x0,x1,x2] [y0,y1,y2]) L false other .mk:=eq_7 3 c [x0,x1,x2] [y0,y1,y2] p rfl
theorem aFd (c)(x0 x1 x2 x3 y0 y1 y2 y3:Value)(p):cd 11 c .eql (.agg #[x0,x1,x2,x3]) (.agg #[y0,y1,y2,y3]) L other p=ni (eK [x0,x1,x2,x3] [y0,y1,y2,y3]) L false other .mk:=eq_7 4 c [x0,x1,x2,x3] [y0,y1,y2,y3] p rfl
theorem aFe (c)(x0 x1 x2 x3 x4 y0 y1 y2 y3 y4:Value)(p):cd 12 c .eql (.agg #[x0,x1,x2,x3,x4]) (.agg #[y0,y1,y2,y3,y4]) L other p=ni (eK [x0,x1,x2,x3,x4] [y0,y1,y2,y3,y4]) L false other .mk:=eq_7 5 c [x0,x1,x2,x3,x4] [y0,y1,y2,y3,y4] p rfl
theorem aFf (c)(x0 x1 x2 x3 x4 x5 y0 y1 y2 y3 y4 y5:Value)(p):cd 13 c .eql (.agg #[x0,x1,x2,x3,x4,x5]) (.agg #[y0,y1,y2,y3,y4,y5]) L other p=ni (eK [x0,x1,x2,x3,x4,x5] [y0,y1,y2,y3,y4,y5]) L false other .mk:=eq_7 6 c [x0,x1,x2,x3,x4,x5] [y0,y1,y2,y3,y4,y5] p rfl
theorem aCJ (c)(x0 y0:Value)(p):cd 8 c .neq (.agg #[x0]) (.agg #[y0]) L other p=ni (eK [x0] [y0]) L true other .mk:=Az 1 c [x0] [y0] p rfl
theorem aCK (c)(x0 x1 y0 y1:Value)(p):cd 9 c .neq (.agg #[x0,x1]) (.agg #[y0,y1]) L other p=ni (eK [x0,x1] [y0,y1]) L true other .mk:=Az 2 c [x0,x1] [y0,y1] p rfl
theorem aCL (c)(x0 x1 x2 y0 y1 y2:Value)(p):cd 10 c .neq (.agg #[x0,x1,x2]) (.agg #[y0,y1,y2]) L other p=ni (eK [x0,x1,x2] [y0,y1,y2]) L true other .mk:=Az 3 c [x0,x1,x2] [y0,y1,y2] p rfl
theorem aCM (c)(x0 x1 x2 x3 y0 y1 y2 y3:Value)(p):cd 11 c .neq (.agg #[x0,x1,x2,x3]) (.agg #[y0,y1,y2,y3]) L other p=ni (eK [x0,x1,x2,x3] [y0,y1,y2,y3]) L true other .mk:=Az 4 c [x0,x1,x2,x3] [y0,y1,y2,y3] p rfl
theorem aCN (c)(x0 x1 x2 x3 x4 y0 y1 y2 y3 y4:Value)(p):cd 12 c .neq (.agg #[x0,x1,x2,x3,x4]) (.agg #[y0,y1,y2,y3,y4]) L other p=ni (eK [x0,x1,x2,x3,x4] [y0,y1,y2,y3,y4]) L true other .mk:=Az 5 c [x0,x1,x2,x3,x4] [y0,y1,y2,y3,y4] p rfl
theorem aCO (c)(x0 x1 x2 x3 x4 x5 y0 y1 y2 y3 y4 y5:Value)(p):cd 13 c .neq (.agg #[x0,x1,x2,x3,x4,x5]) (.agg #[y0,y1,y2,y3,y4,y5]) L other p=ni (eK [x0,x1,x2,x3,x4,x5] [y0,y1,y2,y3,y4,y5]) L true other .mk:=Az 6 c [x0,x1,x2,x3,x4,x5] [y0,y1,y2,y3,y4,y5] p rfl
theorem aCS (b:Bool)(p):ni (some b) L false other p=L (.bool b):=by simp[ni]
theorem aCT (b:Bool)(p):ni (some b) L true other p=L (.bool (!b)):=by simp[ni]
theorem Ws (a b:Prop)[Decidable a][Decidable b]:(decide a && decide b)=decide (a/\b):=by by_cases a<;>by_cases b<;>simp_all
theorem Wt (a:Prop)[Decidable a]:(!decide a)=decide (¬a):=by by_cases a<;>simp_all
theorem AO (v):isConst (.const v)=true:=(rfl)
theorem GV (i):isConst (.tmp i)=false:=(rfl)
theorem ZC (b:Bool)(p):unK .not (.bool b) L other p=L (.bool (!b)):=(rfl)
theorem ZB (k n)(p):unK .neg (.int k n) L other p=L (.int k (k.wrap (0-n))):=(rfl)
theorem xO (vs:List Value)(i)(p):nT (.tuple vs.toArray) i L p=(pJ vs[i]? L .mk):=by
 simp only[nT,pJ];cases vs[i]?<;>rfl
theorem KS (x:Value)(l:List Value):(x::l)[0]?=some x:=(rfl)
theorem KR (x:Value)(l:List Value)(n:Nat):(x::l)[n+1]?=l[n]?:=(rfl)
theorem OH {α:Type}(x:α)(L:α->Prop)(p):pJ (some x) L p=L x:=(rfl)
theorem Tc (l:List UInt8)(p):J3 (some .string) (str l) L other p=L (.int .i64 l.length):=by simp[J3,str,ByteArray.size]
theorem J4 (e a n c)(p):J3 (some (.slice e)) (.slice a n c) L other p=L (.int .i64 n):=(rfl)
theorem MS (k k' n)(p):sd (some (.int k)) (.int k' n) L other p=L (.int k (k.wrap n)):=(rfl)
theorem MT (l:List UInt8)(p):sd (some .string) (str l) L other p=L (str l):=(rfl)
theorem JX (l:List UInt8)(k n)(p):ru (some .string) (str l) (.int k n) L other p=((0<=n/\n<(l.length:Int))/\L (.int .u8 (l.getD n.toNat 0).toNat)):=by simp[ru,str]
theorem YH (k a k' b)(p):WE true [.int k a,.int k' b] L other p=L (.int k (if b>a then b else a)):=(rfl)
theorem YI (k a k' b)(p):WE false [.int k a,.int k' b] L other p=L (.int k (if b<a then b else a)):=(rfl)
theorem map_nil (f:Operand->Value):List.map f []=[]:=(rfl)
theorem map_cons (f:Operand->Value)(x)(l:List Operand):List.map f (x::l)=f x::List.map f l:=(rfl)
theorem WR (l:List Value):l++[]=l:=List.append_nil l
theorem YQ (l:List Value):[]++l=l:=(rfl)
theorem RO (x:Value)(l m:List Value):(x::l)++m=x::(l++m):=(rfl)
theorem Nu (f:Operand->Value)(x):Option.map f (some x)=some (f x):=(rfl)
theorem Nt (f:Operand->Value):Option.map f none=none:=(rfl)
theorem isSome_some {α:Type}(x:α):(some x).isSome=true:=(rfl)
theorem Ej (a n c)(p):sd (some .string) (.slice a n c) L other p=other:=(rfl)
theorem xM (e x)(p):sd (some (.slice e)) x L other p=other:=by cases x<;>rfl
theorem I5 (k n):dD (.int k n)=[.int k n]:=(rfl)
theorem Eg (b):dD (.bool b)=[.bool b]:=(rfl)
theorem zZ (s):dD (.string s)=[.string s]:=(rfl)
theorem I7 (s):dD (str s)=[str s]:=(rfl)
theorem xK (a):dD (.pointer a)=[.pointer a]:=(rfl)
theorem CB (a n c):dD (.slice a n c)=[.slice a n c]:=(rfl)
theorem I6 (r):dD (.map r)=[.map r]:=(rfl)
theorem Eh (f a c):dD (.func f a c)=[.func f a c]:=(rfl)
theorem xJ:dD .nilFunc=[.nilFunc]:=(rfl)
theorem CA (a v):dD (.iface a v)=[.iface a v]:=(rfl)
theorem vZ:dD .nilIface=[.nilIface]:=(rfl)
theorem I4 (l:List Value):dD (.agg l.toArray)=l:=(rfl)
theorem HP (l:List Value):e9 l 0 []=l:=by cases l<;>rfl
theorem HN (x:Value)(l:List Value)(c:Value)(cs):e9 (x::l) 0 (c::cs)=c::e9 l 0 cs:=(rfl)
theorem HO (x:Value)(l:List Value)(n:Nat)(cs):e9 (x::l) (n+1) cs=x::e9 l n cs:=(rfl)
theorem E0 (z places parts)(p):xH (some (z,places)) parts L p=pJ (lh places z parts) (λcs=>L (.agg cs.toArray)) .mk:=(rfl)
theorem I2 (places cells):lh places cells []=some cells:=(rfl)
def Bs (place:Option (Nat×Nat))(places:List (Nat×Nat))(cells vs:List Value)(rest:List (Nat×Value)):Option (List Value):=match place with
 | some (off,size)=>(match jI vs size && decide (off+size<=cells.length) with
   | true=>lh places (e9 cells off vs) rest
   | false=>none)
 | none=>none
theorem Ea (places cells)(i v rest):lh places cells ((i,v)::rest)=Bs places[i]? places cells (dD v) rest:=(rfl)
theorem Bt (off size places cells vs rest)(h:(jI vs size && decide (off+size<=cells.length))=true):Bs (some (off,size)) places cells vs rest=lh places (e9 cells off vs) rest:=by
 simp only[Bs,h]
theorem Y0 (x:Nat×Nat)(l:List (Nat×Nat)):(x::l)[0]?=some x:=(rfl)
theorem YZ (x:Nat×Nat)(l:List (Nat×Nat))(n:Nat):(x::l)[n+1]?=l[n]?:=(rfl)
theorem KG:jI [] 0=true:=(rfl)
theorem HK (x l n):jI (x::l) (n+1)=jI l n:=(rfl)
theorem Nf (a:Addr)(p):mD (some none) (.pointer (some a)) w K p=pJ (w.cell? a) (K · w) .mk:=(rfl)
theorem J5 (n)(a:Addr)(p):mD (some (some n)) (.pointer (some a)) w K p=pJ (aB w a 0 n) (λcs=>K (.agg cs.toArray) w) .mk:=(rfl)
theorem ve (off n a)(p):lp (some (off,n)) (.pointer (some a)) L p=L (.pointer (some (a.add off))):=(rfl)
theorem OJ (off)(cs:List Value)(p):BB (some (off,none)) (.agg cs.toArray) L p=pJ cs[off]? L .mk:=(rfl)
theorem Js (off n)(cs:List Value)(p):BB (some (off,some n)) (.agg cs.toArray) L p=L (.agg ((cs.drop off).take n).toArray):=(rfl)
theorem uS (e size arr a n c k i)(p):jF (some (e,size)) arr (.slice (some a) n c) (.int k i) L p=((0<=i/\i<n)/\L (.pointer (some (a.add (i.toNat*size))))):=by cases arr<;>rfl
theorem xr (n e size a k i)(p):jF none (some (n,e,size)) (.pointer (some a)) (.int k i) L p=((0<=i/\i<n)/\L (.pointer (some (a.add (i.toNat*size))))):=(rfl)
theorem A5 (e)(l:List UInt8)(k i)(p):gm (some .string) e (str l) (some (.int k i)) none none L other p=((0<=i/\i<=l.length)/\L (str (l.drop i.toNat))):=by
 simp[gm,str,il,List.take_of_length_le]
theorem A4 (e)(l:List UInt8)(k i)(p):gm (some .string) e (str l) none (some (.int k i)) none L other p=((0<=i/\i<=l.length)/\L (str (l.take i.toNat))):=by
 simp[gm,str,il]
theorem KH (e)(l:List UInt8)(k i k' j)(p):gm (some .string) e (str l) (some (.int k i)) (some (.int k' j)) none L other p=((0<=i/\i<=j/\j<=l.length)/\L (str ((l.take j.toNat).drop i.toNat))):=by
 simp[gm,str,il]
theorem add_lit (b o n:Nat):(⟨b,o,none⟩:Addr).add n=⟨b,o+n,none⟩:=by unfold Addr.add;split<;>simp_all
theorem TQ (ty x)(p):uR 0 ty x L other p=L (.iface ty x):=(rfl)
theorem TR (ty x)(p):uR 2 ty x L other p=L (.iface ty x):=(rfl)
def vn:List Value->Value
 | [v]=>v
 | vs=>.tuple vs.toArray
theorem Ys (v:Value):vn [v]=v:=(rfl)
theorem Yr:vn []=.tuple #[]:=(rfl)
theorem VS (v u:Value)(l:List Value):vn (v::u::l)=.tuple (v::u::l).toArray:=(rfl)
def vm (rs:List Tmp)(R:VK)(_:Ph R):EP
 | .normal,t,w=>R (vn (rs.map (t.getD · undef))) w
 | .ret,t,w=>R (vn (rs.map (t.getD · undef))) w
 | _,_,_=>False
theorem Uj (R:VK)(p):vm [] R p .ret t w=R (vn []) w:=(rfl)
theorem HC (R:VK)(p):vm [] R p .normal t w=R (vn []) w:=(rfl)
theorem OP (a:Tmp)(R:VK)(p):vm [a] R p .ret t w=R (t.getD a undef) w:=(rfl)
theorem D5 (a:Tmp)(R:VK)(p):vm [a] R p .normal t w=R (t.getD a undef) w:=(rfl)
theorem OQ (a b:Tmp)(R:VK)(p):vm [a,b] R p .ret t w=R (vn [t.getD a undef,t.getD b undef]) w:=(rfl)
theorem D6 (a b:Tmp)(R:VK)(p):vm [a,b] R p .normal t w=R (vn [t.getD a undef,t.getD b undef]) w:=(rfl)
theorem OR (a b c:Tmp)(R:VK)(p):vm [a,b,c] R p .ret t w=R (vn [t.getD a undef,t.getD b undef,t.getD c undef]) w:=(rfl)
theorem D7 (a b c:Tmp)(R:VK)(p):vm [a,b,c] R p .normal t w=R (vn [t.getD a undef,t.getD b undef,t.getD c undef]) w:=(rfl)
theorem Tj (g:ResultVar->Sem Value)(t:Fr)(hg:∀i,(g (.tmp i)).run P w=.ok (t.getD i undef) w)(rs:List Tmp):(Array.mapM g (rs.map ResultVar.tmp).toArray).run P w=.ok (rs.map (t.getD · undef)).toArray w:=by
 have h1:∀(rs:List Tmp),(List.mapM g (rs.map ResultVar.tmp)).run P w=.ok (rs.map (t.getD · undef)) w:=by
  intro rs;induction rs with
  | nil=>rfl
  | cons r rs ih=>simp only[List.map_cons,List.mapM_cons,Sem.run_bind,Sem.run_pure,Result.andThen_ok,hg,ih]
 rw[List.mapM_toArray,map_eq_pure_bind];simp only[Sem.run_bind,h1,Result.andThen_ok,Sem.run_pure]
theorem mj (fn:Func)(rs:List Tmp)(h:fn.results=(rs.map ResultVar.tmp).toArray)(t:Fr):(results fn t.toArray).run P w=.ok (vn (rs.map (t.getD · undef))) w:=by
 unfold results;rw[h,Sem.run_bind,Tj (t:=t) (hg:=λi=>by simp[List.getD_eq_getElem?_getD,Array.getD_eq_getD_getElem?]),Result.andThen_ok,Sem.run_pure];congr 1;match rs with
 | []=>rfl
 | [a]=>rfl
 | a::b::l=>simp[vn]
def bD (P:Program)(f:FuncId)(args:List Value)(w:World)(R:VK):Prop :=
 (callFunc f args.toArray).run P w=.ok (.enter f args.toArray) w/\Calls P f args.toArray w λe w'=>∃v,e=.returned v/\R v w'
theorem bD.mono {f:FuncId}{args:List Value}{R R':VK}(h:bD P f args w R)(k:∀v w',R v w'->R' v w'):bD P f args w R' :=
 ⟨h.1,h.2.mono λ_ _ ⟨v,he,hr⟩=>⟨v,he,k _ _ hr⟩⟩
theorem aA {f:FuncId}{args:List Value}{R:VK}{p}(h:bD P f args w R)(k:∀v w',R v w'->K v w'):ag P f args t w K Q p:=by
 unfold ag;rw[h.1];exact h.2.mono λe w' ⟨v,he,hr⟩=>by subst he;exact k _ _ hr
theorem cR {f:FuncId}{fn:Func}{args:Array Value}(hf:P.funcs[f]?=some fn)(hb:fn.body.isNone=false)(hn:(fn.name == "runtime.NumGoroutine")=false):(callFunc f args).run P w=.ok (.enter f args) w:=by
 unfold callFunc;simp only[Sem.run_bind,program,Sem.run,Result.andThen_ok,hf,hn,hb,Bool.false_eq_true,if_false,Sem.run_pure]
def sq (args:List Value)(n:Nat):Fr:=args++List.replicate (n-args.length) undef
theorem SE:sq [] 0=[]:=(rfl)
theorem XF (n:Nat):sq [] (n+1)=undef::sq [] n:=by simp[sq,List.replicate_succ]
theorem SD (a:Value)(l:List Value)(n:Nat):sq (a::l) (n+1)=a::sq l n:=by simp[sq]
attribute [push_cast] SE XF SD
theorem aE {f:FuncId}{fn:Func}{c:Code}{args:List Value}{R:VK}(hf:P.funcs[f]?=some fn)(hb:fn.body=some c)(hn:(fn.name == "runtime.NumGoroutine")=false)
  (rs:List Tmp) (fO:fn.results=(rs.map ResultVar.tmp).toArray) (h:vc P c (vm rs R .mk) (sq args fn.ntmps) w .mk):bD P f args w R:=by
 refine⟨cR hf (by simp[hb]) hn,calls_of_wp hf hb ?_⟩;have h1:=nt c _ _ w h;unfold cw at h1;have e:(args.toArray++Array.replicate (fn.ntmps-args.toArray.size) undef)=(sq args fn.ntmps).toArray:=by simp[sq]
 rw[e];refine Code.wp_mono ?_ h1;rintro e a w' ⟨hd,hh⟩;have ha:a.tmps.toList.toArray=a.tmps:=by simp
 cases e<;>simp only[vm]at hh<;>first|exact hh.elim|skip
 ·exact⟨hd,_,by rw[<-ha];exact mj fn rs fO _,_,rfl,hh⟩
 exact⟨hd,_,by rw[<-ha];exact mj fn rs fO _,_,rfl,hh⟩
def at_ (t:Fr):Nat->Value:=λm=>t.getD m undef
def ov (t:Fr)(M:List Nat)(z:Nat->Value):Fr:=M.foldl (λt m=>t.set m (z m)) t
theorem aEO (t:Fr)(m:Nat):at_ t m=t.getD m undef:=(rfl)
theorem aCV (t:Fr)(z):ov t [] z=t:=(rfl)
theorem YX (t:Fr)(m M z):ov t (m::M) z=ov (t.set m (z m)) M z:=(rfl)
theorem UO (M:List Nat):∀t:Fr,ov t M (at_ t)=t:=by
 have:∀(M:List Nat) (t u:Fr),t=u->M.foldl (λt m=>t.set m (at_ u m)) t=u:=by
  intro M;induction M with
  | nil=>intro t u h;exact h
  | cons m M ih =>
   intro t u h;subst h;simp only[List.foldl_cons];refine ih _ _ ?_;unfold at_;by_cases hm:m<t.length
   ·exact ir t m hm
   rw[List.set_eq_of_length_le (by omega)]
 exact λt=>this M t t rfl
theorem aM {c:Code}{p}(M:List Nat)(I:(Nat->Value)->World->Prop)(μ:(Nat->Value)->World->Nat)(h0:I (at_ t) w)
  (hr:∀z w',I z w'->vc P c (np (λYk ar=>Yk=ov t M (at_ Yk)/\I (at_ Yk) ar/\μ (at_ Yk) ar<μ z w') Q .mk) (ov t M z) w' .mk):cw P (.loop c) Q t w p:=by
 unfold cw;refine wp_loop (λa w'=>a.defers=[]/\a.tmps.toList=ov t M (at_ a.tmps.toList)/\I (at_ a.tmps.toList) w') (λa w'=>μ (at_ a.tmps.toList) w') ⟨rfl,by simp[UO],by simpa using h0⟩ ?_;rintro a w' ⟨hd,ht,hI⟩;have h1:=nt c _ _ w' (hr _ w' hI);unfold cw at h1;rw[<-ht]at h1;rw[wX hd];refine Code.wp_mono ?_ h1;rintro e a' ar ⟨Zm,hh⟩;cases e<;>simp only[np]at hh<;>simp only[Exit.then]<;>first|exact⟨Zm,hh⟩|skip
 exact⟨⟨Zm,hh.1,hh.2.1⟩,by simpa using hh.2.2⟩
end
attribute [push_cast] XB Ry aA4 Rx Mn XA U7 U6 SJ SI Uz Uy ZN PU ZJ aDQ ZI Vh ZK aDP Vi ZL ZM Vj Dv HI Ux O6 Od yh zX I0 EX sZ ui Bv PR Hd Hc HM HL UL Mu FY aFn aFk aFm aFl SH RN RM MP MQ SG SF UU UT UI Jm UK YS aCR Gn Gl OB DW UF YU YV YW UH OG AR Nz AS OE OA YT Nv Nw yR AU Gp Jp AV Jn yS OC OD Jl UG Ms IU MC IV IW IT Q7 Qk Qe Qg Qh Q8 WV Ql EV Q9 Qf Qd Qc Qb Qa Qi Qj Bo Bp Bq xB xC wZ xA Bm Bn xD xE zQ zT Bk Bl tu zU aA1 aA0 YM YL aA2 aA3 YN YO eq_6 aHf Ii Es MG aFa aFb aFc aFd aFe aFf aCJ aCK aCL aCM aCN aCO aCS aCT Ws Wt AO GV ZC ZB xO KS KR OH Tc J4 MS MT JX YH YI map_nil map_cons WR YQ RO Nu Nt isSome_some Ej xM I5 Eg zZ I7 xK CB I6 Eh xJ CA vZ I4 HP HN HO E0 I2 Ea Bt Y0 YZ KG HK Nf J5 ve OJ Js uS xr A5 A4 KH add_lit TQ TR Ys Yr VS Uj HC OP D5 OQ D6 OR D7
attribute [push_cast] aEO aCV YX List.length_cons List.length_nil Bool.true_and Bool.and_true Int.toNat_natCast if_true ite_true Int.le_refl true_and and_true and_self implies_true Int.toNat_zero Nat.zero_add
end Go.Vc
end
section
namespace Go.Vc
open Go.RowKit
def chain (P:Program)(o:Oper):Bool:=match o.op with
 | .convert _ d _=>!((P.underlying d) matches some (.int _))
 | .move _|.assign _|.pick ..|.binOp ..|.unOp ..|.extract ..|.index ..|.build ..|.makeFunc ..|.fieldAddr ..|.field ..|.indexAddr ..|.slice ..|.makeInterface ..|.load ..=>false
 | .call { callee:=.builtin .len,.. }|.call { callee:=.builtin .max,.. }|.call { callee:=.builtin .min,.. }=>false
 | .nilCheck _=>false
 | _=>true
section
variable {P:Program} {ops:Array Oper} {md:Region.Mode} {C:World->Prop}
def qy (P:Program)(a:Act)(dst:Option Tmp)(C:World->Prop)(K:Act->World->Prop):Result Next->Prop
 | .ok (.value v) w'=>C w'/\K (a.put dst v) w'
 | .ok .skip w'=>C w'/\K (a.put dst undef) w'
 | .ok (.enter f args) w'=>Calls P f args w' λe ar=>∃v,e=.returned v/\C ar/\K (a.put dst v) ar
 | _=>False
theorem BI {a:Act}{dst:Option Tmp}{K:Act->World->Prop}{r:Result Next}(h:qy P a dst C K r):∃v w',C w'/\K (a.put dst v) w':=by
 cases r with
 | halt x w'=>simp only[qy]at h
 | ok n w' =>
  cases n<;>simp only[qy]at h
  case value v=>exact⟨_,_,h⟩
  case skip=>exact⟨_,_,h⟩
  case enter f args =>
   obtain⟨e,ar,_,⟨v,_,hc,hk⟩,_⟩:=h [];exact⟨v,ar,hc,hk⟩
theorem nn {a b:Act}{dst:Option Tmp}{K K':Act->World->Prop}{r:Result Next}(hk:∀v w',C w'->K (a.put dst v) w'->K' (b.put dst v) w')(h:qy P a dst C K r):qy P b dst C K' r:=by
 cases r with
 | halt x w'=>simp only[qy]at h
 | ok n w' =>
  cases n<;>simp only[qy]at h ⊢
  case value v=>exact⟨h.1,hk _ _ h.1 h.2⟩
  case skip=>exact⟨h.1,hk _ _ h.1 h.2⟩
  case enter f args=>exact h.mono λe ar ⟨v,he,hc,hh⟩=>⟨v,he,hc,hk _ _ hc hh⟩
theorem tf {o:Oper}{a:Act}{K:Act->World->Prop}{Q:Exit->Act->World->Prop}{r:Result Next}(h:qy P a o.dst C K r):o.upon P a (λa' w'=>C w'/\K a' w') Q r:=by
 cases r with
 | halt x w'=>simp only[qy]at h
 | ok n w' =>
  cases n<;>simp only[qy]at h<;>simp only[Oper.upon]
  case value v=>exact h
  case skip=>exact h
  case enter f args=>exact h.mono λe ar ⟨v,he,hh⟩=>by subst he;exact hh
def da (P:Program)(ops:Array Oper)(C:World->Prop)(i:Nat)(K:Act->World->Prop)(a:Act)(w:World):Prop :=
 match ops[i]? with
 | none=>K a w
 | some o =>
  if Region.wanted o (yielded ops a.tmps) then
   if chain P o then qy P a o.dst C K ((execOp a.eval o).run P w)
   else ∃v,(∀w',C w'->(execOp a.eval o).run P w'=.ok (.value v) w')/\K (a.put o.dst v) w
  else K (a.put o.dst undef) w
theorem fh {i:Nat}{K K':Act->World->Prop}{a:Act}{w:World}(hC:C w)(hk:∀a w,C w->K a w->K' a w)(h:da P ops C i K a w):da P ops C i K' a w:=by
 unfold da at *
 split
 ·rename_i ho;simp only[ho]at h;exact hk _ _ hC h
 rename_i o ho;simp only[ho]at h;split
 ·rename_i hw;simp only[hw,if_true]at h;split
  ·rename_i hc;simp only[hc,if_true]at h;exact nn (λv w' wI hh=>hk _ _ wI hh) h
  rename_i hc;simp only[hc]at h;obtain⟨v,h1,h2⟩:=h;exact⟨v,h1,hk _ _ hC h2⟩
 rename_i hw;simp only[hw]at h;exact hk _ _ hC h
theorem yO {i:Nat}{K:Act->World->Prop}{a:Act}{w:World}(hC:C w)(h:da P ops C i K a w):∃a' w',C w'/\K a' w':=by
 unfold da at h;split at h
 ·exact⟨_,_,hC,h⟩
 split at h
 ·split at h
  ·obtain⟨v,w',hh⟩:=BI h;exact⟨_,_,hh⟩
  obtain⟨v,_,hh⟩:=h;exact⟨_,_,hC,hh⟩
 exact⟨_,_,hC,h⟩
theorem ik {i:Nat}{o:Oper}{K:Act->World->Prop}{a:Act}{w:World}(hi:ops[i]?=some o)(hw:Region.wanted o (yielded ops a.tmps)=false):da P ops C i K a w=K (a.put o.dst undef) w:=by
 unfold da;simp[hi,hw]
theorem iC {i:Nat}{o:Oper}{K:Act->World->Prop}{a:Act}{w:World}(hi:ops[i]?=some o)(hw:Region.wanted o (yielded ops a.tmps)=true)(hc:chain P o=true):da P ops C i K a w=qy P a o.dst C K ((execOp a.eval o).run P w):=by
 unfold da;simp[hi,hw,hc]
theorem eO {i:Nat}{o:Oper}{K:Act->World->Prop}{a:Act}{w:World}(hi:ops[i]?=some o)(hw:Region.wanted o (yielded ops a.tmps)=true)(hc:chain P o=false):da P ops C i K a w=∃v,(∀w',C w'->(execOp a.eval o).run P w'=.ok (.value v) w')/\K (a.put o.dst v) w:=by
 unfold da;simp[hi,hw,hc]
theorem yP {i j:Nat}{oi oj:Oper}{K:Act->World->Prop}{a:Act}{w:World}(hi:ops[i]?=some oi)(hj:ops[j]?=some oj)(Pp:oi.apart ops oj=true)(hch:(chain P oi && chain P oj)=false)
  (hsi:∀cs b,oi.op≠.select cs b) (hsj:∀cs b,oj.op≠.select cs b) (h:da P ops C i (da P ops C j K) a w):da P ops C j (da P ops C i K) a w:=by
 obtain⟨h1,h2,h3⟩:=Oper.apart_spec Pp;have ej:∀(b:Act) (v:Value),execOp (b.put oi.dst v).eval oj=execOp b.eval oj:=λb v=>execOp_put oj hsj b oi.dst v h1;have ei:∀(b:Act) (v:Value),execOp (b.put oj.dst v).eval oi=execOp b.eval oi:=λb v=>execOp_put oi hsi b oj.dst v h3;have wj:∀(b:Act) (v:Value),Region.wanted oj (yielded ops (b.put oi.dst v).tmps)=Region.wanted oj (yielded ops b.tmps):=λb v=>wanted_put oj b oi.dst v h1;have wi:∀(b:Act) (v:Value),Region.wanted oi (yielded ops (b.put oj.dst v).tmps)=Region.wanted oi (yielded ops b.tmps):=λb v=>wanted_put oi b oj.dst v h3;have cm:∀(b:Act) (v u:Value),(b.put oi.dst v).put oj.dst u=(b.put oj.dst u).put oi.dst v:=λb v u=>Act.put_comm b v u h2;cases mV:Region.wanted oi (yielded ops a.tmps) with
 | false =>
  rw[ik hi mV]at h;cases qx:Region.wanted oj (yielded ops a.tmps) with
  | false =>
   rw[ik hj (by rw[wj];exact qx)]at h;rw[ik hj qx,ik hi (by rw[wi];exact mV),<-cm];exact h
  | true =>
   cases JC:chain P oj with
   | true =>
    rw[iC hj (by rw[wj];exact qx) JC,ej]at h;rw[iC hj qx JC];refine nn (λv w' _ hh=>?_) h;rw[ik hi (by rw[wi];exact mV),<-cm];exact hh
   | false =>
    rw[eO hj (by rw[wj];exact qx) JC,ej]at h;rw[eO hj qx JC];obtain⟨v,hv,hk⟩:=h;refine⟨v,hv,?_⟩;rw[ik hi (by rw[wi];exact mV),<-cm];exact hk
 | true =>
  cases NF:chain P oi with
  | true =>
   have JC:chain P oj=false:=by simpa[NF] using hch
   rw[iC hi mV NF]at h;cases qx:Region.wanted oj (yielded ops a.tmps) with
   | false =>
    rw[ik hj qx,iC hi (by rw[wi];exact mV) NF,ei];refine nn (λv w' _ hh=>?_) h;rw[ik hj (by rw[wj];exact qx)]at hh;rw[<-cm];exact hh
   | true =>
    obtain⟨v,w',wI,hh⟩:=BI h;rw[eO hj (by rw[wj];exact qx) JC,ej]at hh;obtain⟨u,hu,hk⟩:=hh;rw[eO hj qx JC];refine⟨u,hu,?_⟩;rw[iC hi (by rw[wi];exact mV) NF,ei];refine nn (λv' ar aGY hh=>?_) h;rw[eO hj (by rw[wj];exact qx) JC,ej]at hh;obtain⟨u',EK,hk'⟩:=hh;have e:=(hu ar aGY).symm.trans (EK ar aGY);injection e with e1 _;injection e1 with e2;subst e2;rw[<-cm];exact hk'
  | false =>
   rw[eO hi mV NF]at h;obtain⟨v,hv,hk⟩:=h;cases qx:Region.wanted oj (yielded ops a.tmps) with
   | false =>
    rw[ik hj (by rw[wj];exact qx)]at hk;rw[ik hj qx,eO hi (by rw[wi];exact mV) NF,ei];exact⟨v,hv,by rw[<-cm];exact hk⟩
   | true =>
    cases JC:chain P oj with
    | true =>
     rw[iC hj (by rw[wj];exact qx) JC,ej]at hk;rw[iC hj qx JC];refine nn (λu w' _ hh=>?_) hk;rw[eO hi (by rw[wi];exact mV) NF,ei];exact⟨v,hv,by rw[<-cm];exact hh⟩
    | false =>
     rw[eO hj (by rw[wj];exact qx) JC,ej]at hk;rw[eO hj qx JC];obtain⟨u,hu,hk⟩:=hk;refine⟨u,hu,?_⟩;rw[eO hi (by rw[wi];exact mV) NF,ei];exact⟨v,hv,by rw[<-cm];exact hk⟩
def vR (P:Program)(md:Region.Mode)(ops:Array Oper)(C:World->Prop)(R:Act->World->Prop):Nat->Array Bool->Act->World->Prop
 | 0,listed,a,w=>Region.ready md ops listed=[]/\R a w
 | fuel+1,listed,a,w=>(Region.ready md ops listed=[]->R a w)/\∀i∈Region.ready md ops listed,da P ops C i (vR P md ops C R fuel (listed.setIfInBounds i true)) a w
theorem fV {R:Act->World->Prop}{Q:Exit->Act->World->Prop}(hq:∀a w,R a w->Q .normal a w):∀(fuel:Nat) (listed:Array Bool) (a:Act) (w:World),C w ->
  vR P md ops C R fuel listed a w->wpAny P md ops Q fuel listed a w
 | 0,_,_,_,_,h=>⟨h.1,hq _ _ h.2⟩
 | fuel+1,listed,a,w,hC,h=>⟨λh0=>hq _ _ (h.1 h0),λi hi=>by
   have h1:=h.2 i hi;unfold da at h1;unfold wpOp;split
   ·rename_i ho;simp only[ho]at h1;exact fV hq fuel _ _ _ hC h1
   rename_i o ho;simp only[ho]at h1;split
   ·rename_i hw;simp only[hw,if_true]at h1;refine .inl ?_;split at h1
    ·exact Oper.wp_mono (λa' w' hh=>fV hq fuel _ _ _ hh.1 hh.2) (tf h1)
    obtain⟨v,hv,hk⟩:=h1;unfold Oper.wp;rw[hv w hC];exact fV hq fuel _ _ _ hC hk
   rename_i hw;simp only[hw]at h1;exact fV hq fuel _ _ _ hC h1⟩
theorem ug (ops:List Oper)(acc:Array Nat):∃l:List Nat,(ops.foldl (init:=acc) λacc o=>acc.push (o.after.foldl (λs e=>if Region.binds .any e then s ||| 2 ^ e.on ||| acc.getD e.on 0 else s) 0))=acc++l.toArray/\l.length=ops.length:=by
 induction ops generalizing acc with
 | nil=>exact⟨[],by simp⟩
 | cons o r ih =>
  simp only[List.foldl_cons];obtain⟨l,h1,h2⟩:=ih (acc.push (o.after.foldl (λs e=>if Region.binds .any e then s ||| 2 ^ e.on ||| acc.getD e.on 0 else s) 0))
  exact⟨_::l,by rw[h1];apply Array.ext';simp;rfl,by simp[h2]⟩
theorem Ab (b:Nat->Nat)(i:Nat):∀(es:List Edge) (s:Nat),(es.foldl (λs e=>if Region.binds .any e then s ||| 2 ^ e.on ||| b e.on else s) s).testBit i=true ->
  s.testBit i=true\/∃e∈es,Region.binds .any e=true/\(e.on=i\/(b e.on).testBit i=true)
 | [],s,h=>.inl h
 | e::es,s,h=>by
  simp only[List.foldl_cons]at h;rcases Ab b i es _ h with h|⟨e',Zn,hh⟩
  ·split at h
   ·rename_i hb;simp only[Nat.testBit_or,Bool.or_eq_true]at h;rcases h with (h|h)|h
    ·exact .inl h
    ·refine .inr ⟨e,by simp,hb,.inl ?_⟩;rw[Nat.testBit_two_pow]at h;simpa using h
    exact .inr ⟨e,by simp,hb,.inr h⟩
   exact .inl h
  exact .inr ⟨e',by simp[Zn],hh⟩
theorem EU {j i:Nat}{o:Oper}(hj:ops[j]?=some o)(h:((Region.before ops).getD j 0).testBit i=true) :
  ∃e∈o.after,Region.binds .any e=true/\(e.on=i\/(e.on<j/\((Region.before ops).getD e.on 0).testBit i=true)):=by
 have bZ:j<ops.size:=(Array.getElem?_eq_some_iff.1 hj).1;have split:ops.toList=ops.toList.take j++o::ops.toList.drop (j+1):=by
  have hj':ops.toList[j]?=some o:=by rw[Array.getElem?_toList];exact hj
  have uK:j<ops.toList.length:=by simpa using bZ
  have:ops.toList[j]=o:=by rw[List.getElem?_eq_getElem uK]at hj';simpa using hj'
  rw[<-this,<-List.drop_eq_getElem_cons uK,List.take_append_drop]
 obtain⟨l1,e1,n1⟩:=ug (ops.toList.take j) #[];have wH:l1.length=j:=by rw[n1,List.length_take];simp;omega
 have e1':=e1.trans (show (#[]:Array Nat)++l1.toArray=l1.toArray by simp)
 obtain⟨l2,e2,_⟩:=ug (ops.toList.drop (j+1)) (l1.toArray.push (o.after.foldl (λs e=>if Region.binds .any e then s ||| 2 ^ e.on ||| l1.toArray.getD e.on 0 else s) 0))
 have hb:Region.before ops=l1.toArray.push (o.after.foldl (λs e=>if Region.binds .any e then s ||| 2 ^ e.on ||| l1.toArray.getD e.on 0 else s) 0)++l2.toArray:=by
  unfold Region.before;rw[<-Array.foldl_toList,split,List.foldl_append,List.foldl_cons,e1',e2]
 have qo:∀m,m<j->(Region.before ops).getD m 0=l1.toArray.getD m 0:=by
  intro m hm;rw[hb];simp only[Array.getD_eq_getD_getElem?];congr 1;rw[Array.getElem?_append_left (by simp;omega),Array.getElem?_push_lt (by simp;omega)];simp[wH,hm]
 have aGQ:(Region.before ops).getD j 0=o.after.foldl (λs e=>if Region.binds .any e then s ||| 2 ^ e.on ||| l1.toArray.getD e.on 0 else s) 0:=by
  rw[hb];simp only[Array.getD_eq_getD_getElem?];rw[Array.getElem?_append_left (by simp;omega)];have:j=l1.toArray.size:=by simp[wH]
  rw[this];simp
 rw[aGQ,<-Array.foldl_toList]at h;rcases Ab (λm=>l1.toArray.getD m 0) i o.after.toList 0 h with h|⟨e,he,um,hh⟩
 ·simp at h
 refine⟨e,by simpa using he,um,?_⟩;rcases hh with hh|hh
 ·exact .inl hh
 by_cases hm:e.on<j
 ·exact .inr ⟨hm,by rw[qo _ hm];exact hh⟩
 have:l1.toArray.getD e.on 0=0:=by simp[Array.getD_eq_getD_getElem?,List.getElem?_eq_none (show l1.length<=e.on by omega)]
 rw[this]at hh;simp at hh
def vY (ops:Array Oper)(listed:Array Bool):Prop:=∀(j:Nat) (o:Oper),ops[j]?=some o->listed.getD j false=true->∀e∈o.after,Region.binds .any e=true->listed.getD e.on false=true
theorem vY.set {listed:Array Bool}{i:Nat}(h:vY ops listed)(hi:i∈Region.ready .any ops listed):vY ops (listed.setIfInBounds i true):=by
 intro j o hj hl e he hb;obtain⟨_,o',ho',cg⟩:=mem_ready.1 hi;by_cases hij:i=j
 ·subst hij;rw[hj]at ho';cases ho';exact getD_set_true (cg e he hb)
 rw[getD_set_ne false hij]at hl;exact getD_set_true (h j o hj hl e he hb)
theorem vY.before {listed:Array Bool}(h:vY ops listed):∀(j i:Nat) (o:Oper),ops[j]?=some o->(∀e∈o.after,Region.binds .any e=true->listed.getD e.on false=true) ->
  ((Region.before ops).getD j 0).testBit i=true->listed.getD i false=true:=by
 intro j;induction j using Nat.strongRecOn with
 | _ j ih =>
  intro i o hj cg hb;obtain⟨e,he,um,hh⟩:=EU hj hb;have hl:=cg e he um;rcases hh with hh|⟨bZ,hh⟩
  ·rw[hh]at hl;exact hl
  have Au:e.on<ops.size:=by
   have:=(Array.getElem?_eq_some_iff.1 hj).1;omega
  exact ih e.on bZ i ops[e.on] (by simp[Au]) (λe' Zn pW=>h e.on ops[e.on] (by simp[Au]) hl e' Zn pW) hh
theorem vS {R:Act->World->Prop}{i:Nat}{oi:Oper}(hi:ops[i]?=some oi)(DE:∀(j:Nat) (o:Oper) cs b,ops[j]?=some o->o.op≠.select cs b) :
  ∀(fuel:Nat) (listed:Array Bool) (a:Act) (w:World),C w->vY ops listed ->
   (∀j oj,ops[j]?=some oj->j≠i->listed.getD j true=false->((Region.before ops).getD j 0).testBit i=false->oi.apart ops oj=true/\(chain P oi && chain P oj)=false) ->
   i∈Region.ready .any ops listed->da P ops C i (vR P .any ops C R fuel (listed.setIfInBounds i true)) a w->vR P .any ops C R (fuel+1) listed a w:=by
 intro fuel;induction fuel with
 | zero =>
  intro listed a w hC _ _ hr H;refine⟨λh=>(by rw[h]at hr;cases hr),λj hj=>?_⟩;by_cases uI:j=i
  ·subst uI;exact H
  have:=ready_mono hj uI;obtain⟨_,_,_,hh⟩:=yO hC H;rw[hh.1]at this;cases this
 | succ fuel ih =>
  intro listed a w hC hS rI hr H;refine⟨λh=>(by rw[h]at hr;cases hr),λj hj=>?_⟩;by_cases uI:j=i
  ·subst uI;exact H
  have h1:da P ops C i (da P ops C j (vR P .any ops C R fuel ((listed.setIfInBounds i true).setIfInBounds j true))) a w :=
   fh hC (λa' w' _ hh=>hh.2 j (ready_mono hj uI)) H
  obtain⟨GF,oj,EI,cg⟩:=mem_ready.1 hj;have Sk:listed.getD i false=false:=by
   have h0:=(mem_ready.1 hr).1;rcases Nat.lt_or_ge i listed.size with h'|h'
   ·simp[h']at h0 ⊢;exact h0
   simp[Array.getElem?_eq_none h']
  have Sv:((Region.before ops).getD j 0).testBit i=false:=by
   cases hb:((Region.before ops).getD j 0).testBit i with
   | false=>rfl
   | true=>have:=hS.before j i oj EI cg hb;rw[Sk]at this;cases this
  obtain⟨Pp,hch⟩:=rI j oj EI uI GF Sv;have h2:=yP hi EI Pp hch (λcs b=>DE i oi cs b hi) (λcs b=>DE j oj cs b EI) h1;refine fh hC (λa' w' Mv h3=>ih (listed.setIfInBounds j true) a' w' Mv (hS.set hj) ?_ (ready_mono hr (Ne.symm uI)) ?_) h2
  ·intro k ok hk hki xm gC;refine rI k ok hk hki ?_ gC;by_cases XX:j=k
   ·subst XX;exact GF
   rw[getD_set_ne true XX]at xm;exact xm
  rw[Array.setIfInBounds_comm _ _ uI];exact h3
def tO (P:Program)(ops:Array Oper)(bf:Array Nat)(listed:Array Bool)(i:Nat):Bool :=
 match ops[i]? with
 | none=>false
 | some oi=>(List.range ops.size).all λj=>j == i || listed.getD j true || match ops[j]? with
   | some oj=>(bf.getD j 0).testBit i || (oi.apart ops oj && !(chain P oi && chain P oj))
   | none=>true
theorem oR {i:Nat}{oi:Oper}{listed:Array Bool}(hi:ops[i]?=some oi)(h:tO P ops (Region.before ops) listed i=true)(j:Nat)(oj:Oper)
  (hj:ops[j]?=some oj) (dA:j≠i) (xm:listed.getD j true=false) (gC:((Region.before ops).getD j 0).testBit i=false) :
  oi.apart ops oj=true/\(chain P oi && chain P oj)=false:=by
 simp only[tO,hi,List.all_eq_true,List.mem_range]at h;have h1:=h j (Array.getElem?_eq_some_iff.1 hj).1;simp only[hj,Bool.or_eq_true,beq_iff_eq,dA,false_or,xm,Bool.false_eq_true,gC]at h1;simp only[Bool.and_eq_true,Bool.not_eq_true']at h1;exact h1
def tQ (P:Program)(ops:Array Oper)(bf:Array Nat):Nat->Nat->Array Bool->Bool
 | 0,_,listed=>(Region.ready .any ops listed).isEmpty
 | fuel+1,k,listed=>(Region.ready .any ops listed).contains k && tO P ops bf listed k && tQ P ops bf fuel (k+1) (listed.setIfInBounds k true)
def YF (P:Program)(ops:Array Oper):Bool:=Region.noSelect ops && tQ P ops (Region.before ops) ops.size 0 (Array.replicate ops.size false)
def yx (P:Program)(ops:Array Oper)(C:World->Prop)(R:Act->World->Prop):List Nat->Act->World->Prop
 | [],a,w=>R a w
 | i::r,a,w=>da P ops C i (yx P ops C R r) a w
theorem ue {R:Act->World->Prop}(hs:Region.noSelect ops=true):∀(n k:Nat) (listed:Array Bool) (a:Act) (w:World),k+n=ops.size->C w->vY ops listed ->
  tQ P ops (Region.before ops) n k listed=true->yx P ops C R (List.range' k n) a w->vR P .any ops C R n listed a w
 | 0,_,_,_,_,_,_,_,hB,h=>⟨by simpa[tQ] using hB,h⟩
 | n+1,k,listed,a,w,hk,hC,hS,hB,h=>by
  simp only[tQ,Bool.and_eq_true]at hB;obtain⟨⟨hr,hf⟩,Cq⟩:=hB;have bZ:k<ops.size:=by omega
  have zK:k∈Region.ready .any ops listed:=by simpa using hr
  refine vS (i:=k) (oi:=ops[k]) (by simp[bZ]) (Region.noSelect_spec hs) n listed a w hC hS (oR (by simp[bZ]) hf) zK ?_;simp only[List.range'_succ,yx]at h;exact fh hC (λa' w' Mv hh=>ue hs n (k+1) _ a' w' (by omega) Mv (hS.set zK) Cq hh) h
end
section
variable {P:Program}
def Gj:EP:=λ_ _ _=>False
def Gi (x:Value)(K:VP)(other:Prop)(_:Ph (K,other)):Prop:=match x with|.pointer (some _)=>K x|_=>other
def dT (P:Program)(o:Oper)(t:Fr)(w:World)(C:World->Prop)(K:VK)(_:Ph (o,C,K)):Prop :=
 match o.op with
 | .load ty a=>mD (lI P ty) (ev t a) w (λv w'=>(∀ar,C ar->mD (lI P ty) (ev t a) ar (λu _=>u=v) .mk)/\K v w') .mk
 | .nilCheck x=>Gi (ev t x) (K · w) False .mk
 | _=>if chain P o then cN P o t w (λv w'=>C w'/\K v w') Gj .mk else ai P o t (K · w) False .mk
def mM (P:Program)(ops:List Oper)(C:World->Prop)(R:Fr->World->Prop):(l:List Oper)->Fr->World->Ph (ops,C,R,l)->Prop
 | [],t,w,_=>R t w
 | o::r,t,w,_=>match o.guard with
  | none=>dT P o t w C (λv w'=>mM P ops C R r (put t o.dst v) w' .mk) .mk
  | some (j,want)=>gJ (iE ops j) want t (λt'=>dT P o t' w C (λv w'=>mM P ops C R r (put t' o.dst v) w' .mk) .mk) (λt'=>mM P ops C R r (put t' o.dst undef) w .mk) .mk
theorem D4 {t:Fr}{dst:Option Tmp}{C:World->Prop}{K:VK}{N:Act->World->Prop}(hn:∀v w',K v w'->N ⟨(put t dst v).toArray,[]⟩ w'){r:Result Next}(h:qD P t (λv w'=>C w'/\K v w') Gj r):qy P ⟨t.toArray,[]⟩ dst C N r:=by
 cases r with
 | halt x w'=>cases x<;>simp only[qD,Gj]at h
 | ok n w' =>
  cases n<;>simp only[qD]at h<;>simp only[qy]
  case value v=>exact⟨h.1,by rw[put_eq];exact hn _ _ h.2⟩
  case skip=>exact⟨h.1,by rw[put_eq];exact hn _ _ h.2⟩
  case enter f args =>
   refine h.mono λe ar he=>?_;cases e with
   | returned v=>exact⟨v,rfl,he.1,by rw[put_eq];exact hn _ _ he.2⟩
   | panicked c=>exact he.elim
   | outgrown=>exact he.elim
theorem nd {o:Oper}{ty:TypeId}{x:Operand}{t:Fr}{w:World}{K:VK}(ho:o.op=.load ty x)(h:mD (lI P ty) (ev t x) w K .mk):∃v,(execOp (ev t) o).run P w=.ok (.value v) w/\K v w:=by
 unfold mD at h;split at h
 ·rename_i a ht hx;obtain⟨v,hc,hk⟩:=jN h;refine⟨v,?_,hk⟩;unfold execOp;simp[ho,hx,Instr.loadAt,Instr.sureAddr,loadVar,(mo ht w).1,load,Sem.run,hc]
 ·rename_i n a ht hx;obtain⟨v,hc,hk⟩:=jN h;refine⟨_,?_,hk⟩;unfold execOp;simp[ho,hx,Instr.loadAt,Instr.sureAddr,loadVar,(iu ht w).1,(iu ht w).2,loadCells,run_loadCellsFrom (P:=P) w a n 0 #[] v hc]
 exact h.elim
theorem fi {ops:List Oper}{i:Nat}{o:Oper}{C:World->Prop}{t:Fr}{w:World}{K:VK}{N:Act->World->Prop}(hi:ops[i]?=some o)(hw:Region.wanted o (yielded ops.toArray t.toArray)=true)
  (hn:∀v w',K v w'->N ⟨(put t o.dst v).toArray,[]⟩ w') (h:dT P o t w C K .mk):da P ops.toArray C i N ⟨t.toArray,[]⟩ w:=by
 unfold da;simp only[List.getElem?_toArray,hi,hw,if_true,ln];unfold dT at h;split at h
 ·rename_i ty x ho;have hc:chain P o=false:=by simp[chain,ho]
  simp only[hc,Bool.false_eq_true,if_false];obtain⟨v,hr,cg,hk⟩:=nd ho h;refine⟨v,λw' wI=>?_,by rw[put_eq];exact hn _ _ hk⟩;obtain⟨u,hu,hv⟩:=nd ho (cg w' wI);rw[hu,hv]
 ·rename_i x ho;have hc:chain P o=false:=by simp[chain,ho]
  simp only[hc,Bool.false_eq_true,if_false];unfold Gi at h;split at h
  ·rename_i a hx;refine⟨_,λw' _=>?_,by rw[put_eq];exact hn _ _ h⟩;unfold execOp;simp only[ho,hx];rfl
  exact h.elim
 split at h
 ·rename_i hc;simp only[hc,if_true];exact D4 hn (DY h)
 rename_i hc;simp only[hc];rcases qC h with h|⟨v,hg,hk⟩
 ·exact h.elim
 exact⟨v,λw' _=>hg w',by rw[put_eq];exact hn _ _ hk⟩
theorem rz {ops:List Oper}{i:Nat}{o:Oper}{C:World->Prop}{t:Fr}{w:World}{N:Act->World->Prop}(hi:ops[i]?=some o)(hw:Region.wanted o (yielded ops.toArray t.toArray)=false)
  (h:N ⟨(put t o.dst undef).toArray,[]⟩ w):da P ops.toArray C i N ⟨t.toArray,[]⟩ w:=by
 unfold da;simp only[List.getElem?_toArray,hi,hw,Bool.false_eq_true,if_false];rw[put_eq];exact h
theorem kJ {ops:List Oper}{o:Oper}{j:Nat}{want:Bool}(hg:o.guard=some (j,want)){t:Fr}{yes no:Fr->Prop}(h:gJ (iE ops j) want t yes no .mk) :
  (Region.wanted o (yielded ops.toArray t.toArray)=true/\yes t)\/(Region.wanted o (yielded ops.toArray t.toArray)=false/\no t):=by
 have j5:Region.wanted o (yielded ops.toArray t.toArray)=(yielded ops.toArray t.toArray j == some want):=by simp only[Region.wanted,hg]
 unfold gJ at h;split at h
 ·rename_i hs;exact .inr ⟨by rw[j5,ec,hs];rfl,h⟩
 rename_i s hs;split at h
 ·rename_i b hb;have bZ:s<t.length:=by
   rcases Nat.lt_or_ge s t.length with h'|h'
   ·exact h'
   simp[List.getD_eq_getElem?_getD,List.getElem?_eq_none h',undef]at hb
  have hv:t[s]?=some (.bool b):=by
   rw[List.getD_eq_getElem?_getD]at hb;rw[List.getElem?_eq_getElem bZ]at hb ⊢
   simpa using hb
  have hy:yielded ops.toArray t.toArray j=some b:=by rw[ec,hs];simp[hv]
  have same:=ir t s bZ;rw[hb]at same;by_cases Hp:b=want
  ·subst Hp;have h1:=h.1 rfl;rw[same]at h1;exact .inl ⟨by rw[j5,hy];simp,h1⟩
  have DA:b=!want:=by cases b<;>cases want<;>simp_all
  have h2:=h.2 DA;rw[<-DA,same]at h2;exact .inr ⟨by rw[j5,hy];simpa using Hp,h2⟩
 rename_i hb;refine .inr ⟨?_,h⟩;rw[j5,ec,hs];simp only[Option.bind_some];cases hv:t[s]? with
 | none=>rfl
 | some v =>
  have:t.getD s undef=v:=by rw[List.getD_eq_getElem?_getD,hv];rfl
  rw[this]at hb;cases v<;>simp at hb ⊢
theorem qQ {ops:List Oper}{C:World->Prop}{R:Fr->World->Prop}{N:Act->World->Prop}(hn:∀t w,R t w->N ⟨t.toArray,[]⟩ w):∀(l:List Oper) (k:Nat) (t:Fr) (w:World),(∀j,l[j]?=ops[k+j]?) ->
  mM P ops C R l t w .mk->yx P ops.toArray C N (List.range' k l.length) ⟨t.toArray,[]⟩ w
 | [],_,_,_,_,h=>hn _ _ h
 | o::r,k,t,w,hl,h=>by
  have h0:ops[k]?=some o:=by simpa using(hl 0).symm
  have ih:=λt w=>qQ (C:=C) hn r (k+1) t w (λj=>by have:=hl (j+1);simpa[Nat.add_assoc,Nat.add_comm 1 j] using this);simp only[List.length_cons,List.range'_succ,yx];simp only[mM]at h;split at h
  ·rename_i hg;exact fi h0 (by simp[Region.wanted,hg]) (λv w' hk=>ih _ _ hk) h
  rename_i j want hg;rcases kJ hg h with ⟨hw,hh⟩|⟨hw,hh⟩
  ·exact fi h0 hw (λv w' hk=>ih _ _ hk) hh
  exact rz h0 hw (ih _ _ hh)
theorem aX {id:Nat}{l:List Oper}{t:Fr}{w:World}{Q:EP}{p}(C:World->Prop)(hm:P.follows .mixedOrders=true)(hB:YF P l.toArray=true)(hC:C w.drew)
  (h:mM P l C (Q .normal) l t w.drew .mk):cw P (.region id l.toArray true) Q t w p:=by
 unfold cw;simp only[YF,Bool.and_eq_true]at hB;refine wp_region_any hm (fV (C:=C) (R:=λa w=>lift Q .normal a w) (λ_ _ h=>h) _ _ _ _ hC ?_);refine ue hB.1 _ 0 _ _ _ (by simp) hC (λj o _ hl=>by simp[Array.getElem?_replicate]at hl;split at hl<;>simp at hl) hB.2 ?_
 have:=qQ (P:=P) (ops:=l) (C:=C) (R:=Q .normal) (N:=λa w=>lift Q .normal a w) (λt w hk=>⟨rfl,by simpa using hk⟩) l 0 t w.drew (λj=>by simp) h;simpa using this
variable {t:Fr} {w:World} {C:World->Prop} {K:VK} {R:Fr->World->Prop}
theorem PQ (ops)(p):mM P ops C R [] t w p=R t w:=(rfl)
theorem Hb (ops)(d op ty pos af r)(p):mM P ops C R (⟨d,op,ty,pos,af,none⟩::r) t w p=dT P ⟨d,op,ty,pos,af,none⟩ t w C (λv w'=>mM P ops C R r (put t d v) w' .mk) .mk:=(rfl)
theorem Ha (ops)(d op ty pos af j want r)(p):mM P ops C R (⟨d,op,ty,pos,af,some (j,want)⟩::r) t w p =
  gJ (iE ops j) want t (λt'=>dT P ⟨d,op,ty,pos,af,some (j,want)⟩ t' w C (λv w'=>mM P ops C R r (put t' d v) w' .mk) .mk) (λt'=>mM P ops C R r (put t' d undef) w .mk) .mk:=rfl
theorem Np (d x ty pos af g)(p):dT P ⟨d,.move x,ty,pos,af,g⟩ t w C K p=K (ev t x) w:=(rfl)
theorem Gc (d x ty pos af g)(p):dT P ⟨d,.assign x,ty,pos,af,g⟩ t w C K p=K (ev t x) w:=(rfl)
theorem Nq (d c a b ty pos af g)(p):dT P ⟨d,.pick c a b,ty,pos,af,g⟩ t w C K p=BC (ev t c) (ev t a) (ev t b) (K · w) .mk:=(rfl)
theorem Tr (d op xt x y yt ty pos af g)(p):dT P ⟨d,.binOp op xt x y yt,ty,pos,af,g⟩ t w C K p =
  eE op (ev t x) (ev t y) (K · w) (cd (dW P xt) (isConst x || isConst y) op (ev t x) (ev t y) (K · w) False .mk) .mk:=rfl
theorem YG (d op xt x ty pos af g)(p):dT P ⟨d,.unOp op xt x,ty,pos,af,g⟩ t w C K p=unK op (ev t x) (K · w) False .mk:=(rfl)
theorem DU (d x i ty pos af g)(p):dT P ⟨d,.extract x i,ty,pos,af,g⟩ t w C K p=nT (ev t x) i (K · w) .mk:=(rfl)
def ng (P:Program)(d:Option TypeDesc)(o:Oper)(t:Fr)(w:World)(C:World->Prop)(K:VK)(_:Ph (o,C,K)):Prop :=
 match d with
 | some (.int _)=>ai P o t (K · w) False .mk
 | _=>cN P o t w (λv w'=>C w'/\K v w') Gj .mk
theorem DT (d s e x ty pos af g)(p):dT P ⟨d,.convert s e x,ty,pos,af,g⟩ t w C K p=ng P (P.underlying e) ⟨d,.convert s e x,ty,pos,af,g⟩ t w C K .mk:=by
 cases h:P.underlying e with
 | none=>simp[dT,chain,h,ng]
 | some d=>cases d<;>simp[dT,chain,h,ng]
theorem DR (k d s e x ty pos af g)(p):ng P (some (.int k)) ⟨d,.convert s e x,ty,pos,af,g⟩ t w C K p=sd (if (P.underlying s).isSome then P.underlying e else none) (ev t x) (K · w) False .mk:=(rfl)
theorem DS (o)(p):ng P (some .string) o t w C K p=cN P o t w (λv w'=>C w'/\K v w') Gj .mk:=(rfl)
theorem yK (e o)(p):ng P (some (.slice e)) o t w C K p=cN P o t w (λv w'=>C w'/\K v w') Gj .mk:=(rfl)
theorem Jf (d xt x i ty pos af g)(p):dT P ⟨d,.index xt x i,ty,pos,af,g⟩ t w C K p=ru (P.underlying xt) (ev t x) (ev t i) (K · w) False .mk:=(rfl)
theorem Tt (d x lg ty pos af g)(p):dT P ⟨d,.call { callee:=.builtin .len,args:=#[x],argTypes:=#[lg] },ty,pos,af,g⟩ t w C K p=J3 (P.underlying lg) (ev t x) (K · w) False .mk:=(rfl)
theorem No (d xt x ty pos af g)(p):dT P ⟨d,.load xt x,ty,pos,af,g⟩ t w C K p=mD (lI P xt) (ev t x) w (λv w'=>(∀ar,C ar->mD (lI P xt) (ev t x) ar (λu _=>u=v) .mk)/\K v w') .mk:=(rfl)
theorem yL (d xt x f ty pos af g)(p):dT P ⟨d,.fieldAddr xt x f,ty,pos,af,g⟩ t w C K p=lp (bS P xt f) (ev t x) (K · w) .mk:=(rfl)
theorem Jd (d xt x f ty pos af g)(p):dT P ⟨d,.field xt x f,ty,pos,af,g⟩ t w C K p=BB (bS P xt f) (ev t x) (K · w) .mk:=(rfl)
theorem yM (d xt x i ty pos af g)(p):dT P ⟨d,.indexAddr xt x i,ty,pos,af,g⟩ t w C K p=jF (gE P xt) (pM P xt) (ev t x) (ev t i) (K · w) .mk:=(rfl)
theorem Jg (d xt x lo hi mx ty pos af g)(p):dT P ⟨d,.slice xt x lo hi mx,ty,pos,af,g⟩ t w C K p =
  gm (P.underlying xt) (gE P xt) (ev t x) (lo.map (ev t)) (hi.map (ev t)) (mx.map (ev t)) (K · w) False .mk:=rfl
theorem Nn (d f)(args:List Operand)(lg ty pos af g)(p):dT P ⟨d,.call { callee:=.value f,args:=args.toArray,argTypes:=lg },ty,pos,af,g⟩ t w C K p =
  cN P ⟨d,.call { callee:=.value f,args:=args.toArray,argTypes:=lg },ty,pos,af,g⟩ t w (λv w'=>C w'/\K v w') Gj .mk:=rfl
theorem Jh (d xt x v ty pos af g)(p):dT P ⟨d,.store xt x v,ty,pos,af,g⟩ t w C K p=cN P ⟨d,.store xt x v,ty,pos,af,g⟩ t w (λv w'=>C w'/\K v w') Gj .mk:=(rfl)
theorem Ts (d e x ty pos af g)(p):dT P ⟨d,.box e x,ty,pos,af,g⟩ t w C K p=cN P ⟨d,.box e x,ty,pos,af,g⟩ t w (λv w'=>C w'/\K v w') Gj .mk:=(rfl)
theorem vk (d bt n ps ty pos af g)(p):dT P ⟨d,.buildSlice bt n ps,ty,pos,af,g⟩ t w C K p=cN P ⟨d,.buildSlice bt n ps,ty,pos,af,g⟩ t w (λv w'=>C w'/\K v w') Gj .mk:=(rfl)
theorem Jc (d bt)(ps:List (Nat×Operand))(ty pos af g)(p):dT P ⟨d,.build bt ps.toArray,ty,pos,af,g⟩ t w C K p=xH (nL P bt) (evs t ps) (K · w) .mk:=(rfl)
theorem Gb (d)(args:Array Operand)(lg ty pos af g)(p):dT P ⟨d,.call { callee:=.builtin .append,args:=args,argTypes:=lg },ty,pos,af,g⟩ t w C K p =
  cN P ⟨d,.call { callee:=.builtin .append,args:=args,argTypes:=lg },ty,pos,af,g⟩ t w (λv w'=>C w'/\K v w') Gj .mk:=rfl
end
attribute [push_cast] PQ Hb Ha Np Gc Nq Tr YG DU DT DR DS yK Jf Tt No yL Jd yM Jg Nn Jh Ts vk Jc Gb
end Go.Vc
end
section
namespace Go.Vc
open Go.RowKit
def Sl {α:Type}(X:Nat->Prop)(k:Nat)(R:List Value->α->Prop)(w:World)(v:Value)(l:List α):Prop :=
 ∃a c,v=.slice a l.length c/\l.length<=c/\∀i x,l[i]?=some x->∃b o cs,a=some ⟨b,o,none⟩/\¬X b/\cs.length=k/\(∀j u,cs[j]?=some u->w.cell? ⟨b,o+i*k+j,none⟩=some u)/\R cs x
theorem Sl.mono {α:Type}{X X':Nat->Prop}{k:Nat}{R R':List Value->α->Prop}{w w':World}{v:Value}{l:List α}(h:Sl X k R w v l)(hs:∀b,¬X b->b<w.heap.size->w'.heap[b]?=w.heap[b]?)
  (hR:∀cs x,x∈l->R cs x->R' cs x) (hX:∀b,X' b->X b):Sl X' k R' w' v l:=by
 obtain⟨a,c,rfl,hc,h⟩:=h;refine⟨a,c,rfl,hc,λi x hx=>?_⟩;obtain⟨b,o,cs,ha,hb,hk,aP,hr⟩:=h i x hx;refine⟨b,o,cs,ha,λhh=>hb (hX b hh),hk,λj u hu=>?_,hR _ _ (List.mem_of_getElem? hx) hr⟩;have hc:=aP j u hu;exact(World.cell?_of_block (w:=w) (hs b hb (World.block_lt_of_cell? w _ hc))).trans hc
abbrev En {α:Type}(enc:α->List Value):List Value->α->Prop:=λcs x=>cs=enc x
theorem Sl.below {α:Type}{X:Nat->Prop}{k:Nat}{R:List Value->α->Prop}{w w':World}{v:Value}{l:List α}(h:Sl X k R w v l)(hb:Below w.heap.size w w'):Sl X k R w' v l :=
 h.mono (λb _ bZ=>hb.block b bZ) (λ_ _ _ h=>h) (λ_ h=>h)
theorem Sl.weaken {α:Type}{X X':Nat->Prop}{k:Nat}{R:List Value->α->Prop}{w:World}{v:Value}{l:List α}(h:Sl X k R w v l)(hX:∀b,X' b->X b):Sl X' k R w v l :=
 h.mono (λ_ _ _=>rfl) (λ_ _ _ h=>h) hX
theorem Sl.nil {α:Type}(X:Nat->Prop)(k:Nat)(R:List Value->α->Prop)(w:World)(c:Nat)(a:Option Addr):Sl X k R w (.slice a 0 c) ([]:List α):=⟨a,c,rfl,Nat.zero_le _,λi x hx=>by simp at hx⟩
theorem bL {w:World}{b o:Nat}:∀(cs:List Value) (i:Nat),(∀j u,cs[j]?=some u->w.cell? ⟨b,o+(i+j),none⟩=some u)->aB w ⟨b,o,none⟩ i cs.length=some cs
 | [],_,_=>rfl
 | c::cs,i,h=>by
  have h0:=h 0 c rfl;have h1:=bL cs (i+1) (λj u hu=>by have:=h (j+1) u (by simpa using hu);rwa [show i+(j+1)=i+1+j by omega]at this)
  simp only[List.length_cons,aB,add_lit,h1];rw[show o+i=o+(i+0) by omega,h0]
def Own {α:Type}(base:Nat)(e:TypeId)(k:Nat)(enc:α->List Value)(w:World)(v:Value)(l:List α):Prop:=w.ownsRow base e k v l.length (l.flatMap enc)/\∀x,(enc x).length=k
theorem kI {α:Type}{enc:α->List Value}{k:Nat}(hk:∀x,(enc x).length=k):∀(l:List α) (i j:Nat) (x:α) (u:Value),l[i]?=some x->(enc x)[j]?=some u->(l.flatMap enc)[i*k+j]?=some u
 | [],i,j,x,u,h,_=>by simp at h
 | y::l,0,j,x,u,h,hu=>by
  simp at h;subst h;simp only[List.flatMap_cons,Nat.zero_mul,Nat.zero_add];rw[List.getElem?_append_left (List.getElem?_eq_some_iff.1 hu).1];exact hu
 | y::l,i+1,j,x,u,h,hu=>by
  simp only[List.flatMap_cons];rw[List.getElem?_append_right (by rw[hk];simp[Nat.add_mul];omega),hk,show (i+1)*k+j-k=i*k+j by rw[Nat.add_mul];omega]
  exact kI hk l i j x u (by simpa using h) hu
theorem Own.sl {α:Type}{base:Nat}{e:TypeId}{k:Nat}{enc:α->List Value}{w:World}{v:Value}{l:List α}(h:Own base e k enc w v l):Sl (·<base) k (En enc) w v l:=by
 obtain⟨h,hk⟩:=h;rcases h.2 with ⟨rfl,h0⟩|⟨g,cap,cur,rfl,hb,hg,hn,_,hs,ht⟩
 ·have:l=[]:=List.eq_nil_of_length_eq_zero h0;subst this;exact Sl.nil _ _ _ _ _ _
 refine⟨_,cap,rfl,hn,λi x hx=>⟨g,0,enc x,rfl,by omega,hk x,λj u hu=>?_,rfl⟩⟩;have XX:j<k:=by have:=(List.getElem?_eq_some_iff.1 hu).1;rw[hk]at this;exact this
 have Zr:i<l.length:=(List.getElem?_eq_some_iff.1 hx).1;have bZ:i*k+j<l.length*k:=by
  have:(i+1)*k<=l.length*k:=Nat.mul_le_mul_right k Zr;rw[Nat.add_mul]at this;omega
 have h1:=kI hk l i j x u hx hu;rw[<-ht,List.getElem?_take,if_pos bZ]at h1;rw[cell_of_row w g _ cur e (0,0) hg];rw[Nat.zero_add];simpa using h1
theorem Sl.shape {α:Type}{X:Nat->Prop}{k:Nat}{R:List Value->α->Prop}{w:World}{v:Value}{l:List α}(h:Sl X k R w v l):∃a c,v=.slice a l.length c/\l.length<=c:=by
 obtain⟨a,c,h,hc,_⟩:=h;exact⟨a,c,h,hc⟩
theorem Sl.get {α:Type}{X:Nat->Prop}{k:Nat}{enc:α->List Value}{w:World}{a:Option Addr}{n c:Nat}{l:List α}(h:Sl X k (En enc) w (.slice a n c) l){i:Nat}{x:α}(hx:l[i]?=some x) :
  ∃b o,a=some ⟨b,o,none⟩/\¬X b/\∀j u,(enc x)[j]?=some u->w.cell? ⟨b,o+i*k+j,none⟩=some u:=by
 obtain⟨a',c',he,_,h⟩:=h;obtain⟨b,o,cs,ha,hX,_,hc,hr⟩:=h i x hx;cases he;subst hr;exact⟨b,o,ha,hX,hc⟩
theorem bK {α:Type}{l:List α}{i:Nat}(h:i<l.length):∃x,l[i]?=some x/\x∈l/\l.drop i=x::l.drop (i+1)/\l.take (i+1)=l.take i++[x]:=by
 refine⟨l[i],List.getElem?_eq_getElem h,List.getElem_mem h,List.drop_eq_getElem_cons h,?_⟩;rw[List.take_add_one,List.getElem?_eq_getElem h];rfl
theorem Own.nil {α:Type}(base:Nat)(e:TypeId){k:Nat}{enc:α->List Value}(hk:∀x,(enc x).length=k)(w:World):Own base e k enc w (.slice none 0 0) ([]:List α) :=
 ⟨World.ownsRow_nil w base e k,hk⟩
theorem Own.mono {α:Type}{base ZZ:Nat}{e:TypeId}{k:Nat}{enc:α->List Value}{w:World}{v:Value}{l:List α}(h:Own base e k enc w v l)(hb:ZZ<=base):Own ZZ e k enc w v l :=
 ⟨⟨h.1.1,h.1.2.imp id λ⟨g,cap,cur,h1,h2,h3⟩=>⟨g,cap,cur,h1,Nat.le_trans hb h2,h3⟩⟩,h.2⟩
theorem Own.slice {α:Type}{base:Nat}{e:TypeId}{k:Nat}{enc:α->List Value}{w:World}{v:Value}{l:List α}(h:Own base e k enc w v l):∃a c,v=.slice a l.length c:=by
 rcases h.1.2 with ⟨rfl,h0⟩|⟨g,cap,cur,rfl,_⟩
 ·exact⟨none,0,by rw[h0]⟩
 exact⟨_,cap,rfl⟩
theorem Own.below {α:Type}{base:Nat}{e:TypeId}{k:Nat}{enc:α->List Value}{w w':World}{v:Value}{l:List α}(h:Own base e k enc w v l)(hb:Below w.heap.size w w'):Own base e k enc w' v l:=by
 refine⟨h.1.kept (w':=w') (row:=none) ⟨hb.os,hb.tape,hb.output,hb.size,λk hk _=>hb.block k hk⟩ ?_,h.2⟩;cases v.ownBlock<;>simp
def zC (P:Program)(t:TypeId):Option (TypeId×Nat×Nat):=match P.underlying t with
 | some (.slice e)=>match P.info? e with
  | some i=>match i.zero with
   | some z=>if z.cells.size=i.size/\0<i.size/\0<i.bytes then some (e,i.size,i.bytes) else none
   | none=>none
  | none=>none
 | _=>none
theorem ll {P:Program}{t e:TypeId}{k bytes:Nat}(h:zC P t=some (e,k,bytes)) :
  P.underlying t=some (.slice e)/\∃i z,P.info? e=some i/\i.zero=some z/\i.size=k/\i.bytes=bytes/\z.cells.size=k/\0<k/\0<bytes:=by
 unfold zC at h;split at h
 ·rename_i e' hu;split at h
  ·rename_i i hi;split at h
   ·rename_i z hz;split at h
    ·rename_i hh;cases h;exact⟨hu,i,z,hi,hz,rfl,rfl,hh.1,hh.2⟩
    cases h
   cases h
  cases h
 cases h
structure qR (w w':World)(e:TypeId)(cs:List Value):Prop where
 is:w'=w.alloc (.cells cs.toArray e)
theorem qR.below {w w':World}{e:TypeId}{cs:List Value}(h:qR w w' e cs):Below w.heap.size w w':=by rw[h.is];exact(Below.refl _ _).alloc (Nat.le_refl _) _
theorem qR.size {w w':World}{e:TypeId}{cs:List Value}(h:qR w w' e cs):w'.heap.size=w.heap.size+1:=by rw[h.is];simp
theorem qR.block {w w':World}{e:TypeId}{cs:List Value}(h:qR w w' e cs):w'.heap[w.heap.size]?=some (.cells cs.toArray e (0,0)):=by rw[h.is];exact heap_alloc_new w _
theorem qR.cell {w w':World}{e:TypeId}{cs:List Value}(h:qR w w' e cs){j:Nat}{u:Value}(hu:cs[j]?=some u):w'.cell? ⟨w.heap.size,j,none⟩=some u:=by
 rw[h.is,World.cell?_alloc_new];simpa using hu
theorem qR.cell0 {w w':World}{e:TypeId}{u:Value}{cs:List Value}(h:qR w w' e (u::cs)):w'.cell? ⟨w.heap.size,0,none⟩=some u:=h.cell rfl
theorem Below.own {base:Nat}{w0 w w':World}(h:Below base w0 w)(h':Below w.heap.size w w')(hb:base<=w.heap.size):Below base w0 w':=h.trans (h'.mono hb)
section
variable {P:Program} {t:Fr} {w:World} {K:VK} {Q:EP}
theorem ah {e:TypeId}{v:Value}{p}(k:∀w',qR w w' e (dD v)->K (.pointer (some ⟨w.heap.size,0,none⟩)) w'):aAH e v w K p :=
 k _ ⟨by rw[<-jj]⟩
def cJ:List (Nat×Value)->List Value
 | []=>[]
 | (_,v)::r=>dD v++cJ r
theorem AW:cJ []=[]:=(rfl)
theorem yV (i v r):cJ ((i,v)::r)=dD v++cJ r:=(rfl)
def wO (k:Nat):Nat->List (Nat×Value)->Bool
 | _,[]=>true
 | i,(j,v)::r=>i == j && jI (dD v) k && wO k (i+1) r
theorem FV (k:Nat):∀(parts:List (Nat×Value)) (i:Nat) (l1 l2:List Value),wO k i parts=true->l1.length=i*k->l2.length=parts.length*k ->
  Instr.fill (λi=>some (i*k,k)) (l1++l2).toArray parts=some (l1++cJ parts).toArray
 | [],i,l1,l2,_,_,h2=>by
  have:l2=[]:=List.eq_nil_of_length_eq_zero (by simpa using h2);simp[Instr.fill,cJ,this]
 | (j,v)::r,i,l1,l2,h,h1,h2=>by
  simp only[wO,Bool.and_eq_true,beq_iff_eq]at h;obtain⟨⟨rfl,hs⟩,hr⟩:=h;have h3:=mm _ _ hs;have h4:v.cells.size=k:=by rw[<-h3,<-jj,Array.length_toList]
  simp only[List.length_cons,Nat.add_mul,Nat.one_mul]at h2;simp only[Instr.fill];rw[if_neg (by simp[h4,h1];omega)];have e1:(v.cells.zipIdx.foldl (λcs (x:Value×Nat)=>match x with|(c,j)=>cs.setIfInBounds (i*k+j) c) (l1++l2).toArray)=((l1++dD v)++l2.drop k).toArray:=by
   apply Array.ext';rw[<-Array.foldl_toList];have:∀(ps:List (Value×Nat)) (a:Array Value),(ps.foldl (λcs (x:Value×Nat)=>match x with|(c,j)=>cs.setIfInBounds (i*k+j) c) a).toList=ps.foldl (λa p=>a.set (i*k+p.2) p.1) a.toList:=by
    intro ps;induction ps with
    | nil=>intro a;rfl
    | cons p ps ih=>intro a;simp only[List.foldl_cons,ih,Array.toList_setIfInBounds]
   rw[this,Array.toList_zipIdx,jj];have h5:=qH (dD v) (i*k) 0 (l1++l2);rw[Nat.add_zero]at h5;rw[h5,<-h1];have sp1:∀(cs l:List Value),cs.length<=l.length->e9 l 0 cs=cs++l.drop cs.length:=by
    intro cs;induction cs with
    | nil=>intro l _;cases l<;>simp[e9]
    | cons c cs ih=>intro l hl;cases l with
     | nil=>simp at hl
     | cons x l=>simp only[e9,List.cons_append,List.length_cons,List.drop_succ_cons];rw[ih l (by simpa using hl)]
   have sp2:∀(a b cs:List Value),e9 (a++b) a.length cs=a++e9 b 0 cs:=by
    intro a;induction a with
    | nil=>intro b cs;rfl
    | cons x a ih=>intro b cs;simp only[List.cons_append,List.length_cons,e9,ih]
   rw[sp2,sp1 _ _ (by omega),h3];simp
  rw[e1,FV k r (i+1) (l1++dD v) (l2.drop k) hr (by simp[h1,h3,Nat.add_mul]) (by simp;omega)];simp[cJ]
theorem cY {bt e:TypeId}{k bytes n:Nat}{parts:List (Nat×Value)}{p}(hE:zC P bt=some (e,k,bytes))(hp:wO k 0 parts=true)(hl:parts.length=n)(hn:n*k<=16777216)
  (kk:∀w',qR w w' e (cJ parts)->K (.slice (some ⟨w.heap.size,0,none⟩) n n) w'):aq P (Instr.buildSlice bt n parts.toArray) t w K Q p:=by
 obtain⟨hu,i,z,hi,hz,rfl,rfl,JV,hk,_⟩:=ll hE;refine dq (w':=w.alloc (.cells (cJ parts).toArray e)) ?_ (kk _ ⟨rfl⟩);have hf:=λ(l2:List Value) (h2:l2.length=parts.length*i.size)=>FV i.size parts 0 [] l2 hp (by simp) h2;simp only[List.nil_append]at hf;have hf':=hf ((Array.range (n*i.size)).map (z.cells[· % z.cells.size]!)).toList (by simp[hl]);simp only[Array.toArray_toList]at hf';by_cases h0:n*i.size=0
 ·have oK:n=0:=by rcases Nat.mul_eq_zero.1 h0 with h|h<;>omega
  subst oK;have:parts=[]:=List.eq_nil_of_length_eq_zero hl;subst this;simp[Instr.buildSlice,run_underlying hu,sizeOf,typeInfo,hi,Instr.fill,newRow,cJ,Array.range_zero']
 simp[Instr.buildSlice,run_underlying hu,sizeOf,typeInfo,hi,zeroValue,hz,h0,show ¬16777216<n*i.size by omega,hf',newRow]
theorem vt {α:Type}{bt ty e:TypeId}{k bytes base:Nat}{enc:α->List Value}{v:Value}{l ys:List α}{b o c:Nat}{p}(hE:zC P bt=some (e,k,bytes))(gU:Own base e k enc w v l)
  (hy:∀j u,(ys.flatMap enc)[j]?=some u->w.cell? ⟨b,o+j,none⟩=some u) (h1:∀x,∀u∈enc x,u.oneCell'=true)
  (hm:(l.length+ys.length)*bytes<=140737488355328) (nV:base<=w.heap.size)
  (kk:∀v' w',Own base e k enc w' v' (l++ys)->w.grownBy w' v.ownBlock->Below base w w'->K v' w'):aq P (Builtin.append_ #[bt,bt] ty [v,.slice (some ⟨b,o,none⟩) ys.length c].toArray) t w K Q p:=by
 obtain⟨hu,i,z,hi,hz,rfl,rfl,JV,hk,cp⟩:=ll hE;have hlen:∀(ys:List α),(ys.flatMap enc).length=ys.length*i.size:=by
  intro ys;induction ys with
  | nil=>simp
  | cons y ys ih=>simp[List.flatMap_cons,gU.2,ih,Nat.add_mul];omega
 have hle:l.length+ys.length<=140737488355328:=Nat.le_trans (Nat.le_mul_of_pos_right _ cp) hm;obtain⟨v',w',hr,ho,hg,_⟩:=run_append_own (P:=P) w base bt ty e i z i.size i.bytes hu hi hz rfl rfl JV hk v l.length (l.flatMap enc) gU.1 ⟨b,o,none⟩ ys.length c (ys.flatMap enc) (hlen ys)
  (λj u hj=>by rw[add_lit];exact hy j u hj) (λu EK=>by obtain⟨x,_,hx⟩:=List.mem_flatMap.1 EK;exact h1 x u hx) (by simp only[maxLen];omega) hm nV
 refine dq hr (kk v' w' ⟨by simpa[List.flatMap_append] using ho,gU.2⟩ hg ?_);exact(Below.refl _ _).grown hg nV λk hk=>(gU.1.lt k hk).1
theorem VI {s d e:TypeId}{n c:Nat}{p}(hs:P.underlying s=some (.slice e))(he:P.underlying e=some (.int .u8))(hd:P.underlying d=some .string)(k:K (str []) w):aq P (convert s d (.slice none n c)) t w K Q p :=
 dq (run_convert_bytes_nil w s e hs he n c d hd) k
def si (b:UInt8):List Value:=[.int .u8 b.toNat]
theorem VH {s d e:TypeId}{v:Value}{l:List UInt8}{X:Nat->Prop}{p}(hs:P.underlying s=some (.slice e))(he:P.underlying e=some (.int .u8))(hd:P.underlying d=some .string)(hl:Sl X 1 (En si) w v l)(k:K (str l) w) :
  aq P (convert s d v) t w K Q p:=by
 obtain⟨a,c,rfl,hc,h⟩:=hl;by_cases h0:l=[]
 ·subst h0;cases a with
  | none=>exact VI hs he hd k
  | some a =>
   refine dq ?_ k;rw[run_convert_bytes_string w s d e _ _ c hs he hd,run_bytesToString w a _ c [] (by rfl)];rfl
 obtain⟨x,l',rfl⟩:=List.exists_cons_of_ne_nil h0;obtain⟨b,o,cs,rfl,_,_,_,_⟩:=h 0 x rfl;have aP:∀i,i<(x::l').length->w.cell? ⟨b,o+i,none⟩=some (.int .u8 (((x::l').map λb=>(b.toNat:Int)).getD i 0)):=by
  intro i hi;obtain⟨b',o',cs,pW,_,_,Sb,rfl⟩:=h i (x::l')[i] (by simp);cases pW
  have:=Sb 0 _ rfl;rw[Nat.mul_one,Nat.add_zero]at this;rw[this,List.getD_eq_getElem?_getD,List.getElem?_map,List.getElem?_eq_getElem hi];rfl
 have hr:=run_convert_bytes_arg (P:=P) w s e hs he b o (x::l').length c ((x::l').map λb=>(b.toNat:Int)) (by simp) aP d hd;refine dq hr ?_;have e2:Value.string (strOfNums ((x::l').map λb=>(b.toNat:Int)))=str (x::l'):=by
  simp only[str,strOfNums];congr 3;rw[List.map_map]
  conv=>rhs;rw[<-List.map_id (x::l')]
  apply List.map_congr_left;intro b _;simp
 rw[e2];exact k
end
attribute [push_cast] AW yV Nat.add_zero Nat.mul_one
end Go.Vc
end
section
namespace Cae
end Cae
namespace Go.Vc
open Go.RowKit
theorem aDi (l:List UInt8):Value.string ⟨l.toArray⟩=str l:=(rfl)
section
variable {P:Program} {t:Fr} {w:World} {K:VK} {Q:EP} {other:Prop}
theorem On (e e':TypeId)(k b o n c:Nat)(kk:IntKind)(i:Int)(L:VP)(other:Prop)(p):gm (some (.slice e)) (some (e',k)) (.slice (some ⟨b,o,none⟩) n c) none (some (.int kk i)) none L other p=((0<=i/\i<=c)/\L (.slice (some ⟨b,o,none⟩) i.toNat c)):=by
 simp only[gm,il,Option.map_some,Int.toNat_natCast,Nat.zero_mul,add_lit,Nat.add_zero,Nat.sub_zero,ite_self,Int.natCast_zero,Int.toNat_zero,Int.le_refl,true_and]
def Xc (P:Program)(recv:Value)(m:String)(args:List Value)(t:Fr)(w:World)(K:VK)(Q:EP)(_:Ph (K,Q)):Prop:=qD P t K Q ((callMethod recv m args.toArray).run P w)
theorem Jo (d r m)(args:List Operand)(lg ty pos af g)(p):cN P ⟨d,.call { callee:=.invoke r m,args:=args.toArray,argTypes:=lg },ty,pos,af,g⟩ t w K Q p =
  Xc P (ev t r) m (args.map (ev t)) t w K Q .mk:=by
 simp only[cN,ai,runK,Xc];unfold execOp;simp only[resolve,Sem.run_bind,Sem.run_pure,Result.andThen_ok,invoke];have e1:(#[ev t r]++args.toArray.map (ev t))[0]?=some (ev t r):=by simp
 have e2:(#[ev t r]++args.toArray.map (ev t)).extract 1 (#[ev t r]++args.toArray.map (ev t)).size=(args.map (ev t)).toArray:=by
  apply Array.ext';simp[List.take_of_length_le]
 rw[e1,e2]
theorem oO {ty:TypeId}{v:Value}{m:String}{args:List Value}{f:FuncId}{r:Value}{p}(hm:(method (P.types.size+Made.depth) ty v m).run P w=.ok (f,r) w)(h:ag P f (r::args) t w K Q .mk):Xc P (.iface ty v) m args t w K Q p:=by
 unfold Xc callMethod;simp only[Sem.run_bind,program,Sem.run,Result.andThen_ok,hm];unfold ag at h;have e:(#[r]++args.toArray)=(r::args).toArray:=by apply Array.ext';simp
 rw[e];exact h
theorem eR {f:FuncId}{fn:Func}{e:Array Value->Sem Value}{args:List Value}{v:Value}{w':World}{p}(hf:P.funcs[f]?=some fn)(aGv:(fn.name == "runtime.NumGoroutine")=false)
  (hb:fn.body.isNone=true) (hn:Extern.findNext fn=none) (he:Extern.find fn=some e) (hr:(e args.toArray).run P w=.ok v w') (k:K v w'):ag P f args t w K Q p:=by
 unfold ag;rw[run_callFunc_extern hf aGv hb hn he,hr];exact k
theorem Nr (a:Addr)(L:VP)(p):Gi (.pointer (some a)) L other p=L (.pointer (some a)):=(rfl)
theorem DX (d x ty pos af g)(p):cN P ⟨d,.nilCheck x,ty,pos,af,g⟩ t w K Q p=Gi (ev t x) (K · w) (runK P ⟨d,.nilCheck x,ty,pos,af,g⟩ t w K Q .mk) .mk:=by
 unfold Gi;split
 ·rename_i a h;simp only[cN,ai,runK];unfold execOp;simp only[h];rfl
 rfl
section
variable {C:World->Prop}
theorem AQ (d x ty pos af g)(p):dT P ⟨d,.nilCheck x,ty,pos,af,g⟩ t w C K p=Gi (ev t x) (K · w) False .mk:=(rfl)
theorem Gd (d r m)(args:Array Operand)(lg ty pos af g)(p):dT P ⟨d,.call { callee:=.invoke r m,args:=args,argTypes:=lg },ty,pos,af,g⟩ t w C K p =
  cN P ⟨d,.call { callee:=.invoke r m,args:=args,argTypes:=lg },ty,pos,af,g⟩ t w (λv w'=>C w'/\K v w') Gj .mk:=(rfl)
theorem Jb (d e ty pos af g)(p):dT P ⟨d,.alloc e,ty,pos,af,g⟩ t w C K p=cN P ⟨d,.alloc e,ty,pos,af,g⟩ t w (λv w'=>C w'/\K v w') Gj .mk:=(rfl)
theorem Je (d xt x ty pos af g)(p):dT P ⟨d,.makeInterface xt x,ty,pos,af,g⟩ t w C K p =
  uR (if (P.underlying xt).isSome then dW P xt else 1) xt (ev t x) (K · w) False .mk:=(rfl)
theorem yN (d bt l c ty pos af g)(p):dT P ⟨d,.makeSlice bt l c,ty,pos,af,g⟩ t w C K p=cN P ⟨d,.makeSlice bt l c,ty,pos,af,g⟩ t w (λv w'=>C w'/\K v w') Gj .mk:=(rfl)
theorem vl (d x xt at_ ok ty pos af g)(p):dT P ⟨d,.typeAssert x xt at_ ok,ty,pos,af,g⟩ t w C K p=cN P ⟨d,.typeAssert x xt at_ ok,ty,pos,af,g⟩ t w (λv w'=>C w'/\K v w') Gj .mk:=(rfl)
theorem AP (d fn)(a c:List Operand)(ty pos af g)(p):dT P ⟨d,.makeFunc fn a.toArray c.toArray,ty,pos,af,g⟩ t w C K p=K (.func fn (a.map (ev t)).toArray (c.map (ev t)).toArray) w:=by
 simp[dT,ai,chain]
end
structure Kept (X:Nat->Prop)(w w':World):Prop where
 os:w'.os=w.os
 tape:w'.tape=w.tape
 output:w'.output=w.output
 size:w.heap.size<=w'.heap.size
 block:∀k,k<w.heap.size->¬X k->w'.heap[k]?=w.heap[k]?
theorem Kept.refl (X:Nat->Prop)(w:World):Kept X w w:=⟨rfl,rfl,rfl,Nat.le_refl _,λ_ _ _=>rfl⟩
theorem Kept.trans {X Y:Nat->Prop}{a b c:World}(h:Kept X a b)(k:Kept Y b c)(hY:∀i,i<a.heap.size->Y i->X i):Kept X a c :=
 ⟨k.os.trans h.os,k.tape.trans h.tape,k.output.trans h.output,Nat.le_trans h.size k.size,λi hi hx=>(k.block i (Nat.lt_of_lt_of_le hi h.size) (λhh=>hx (hY i hi hh))).trans (h.block i hi hx)⟩
theorem Kept.weaken {X Y:Nat->Prop}{a b:World}(h:Kept X a b)(hY:∀i,i<a.heap.size->X i->Y i):Kept Y a b:=⟨h.os,h.tape,h.output,h.size,λi hi hx=>h.block i hi λhh=>hx (hY i hi hh)⟩
theorem Kept.below {X:Nat->Prop}{a b:World}(h:Kept X a b){B:Nat}(hB:B<=a.heap.size)(hX:∀i,X i->B<=i):Below B a b:=⟨h.os,h.tape,h.output,h.size,λi hi=>h.block i (by omega) λhh=>by have:=hX i hh;omega⟩
theorem Kept.aJ {B:Nat}{a b:World}(h:Below B a b){X:Nat->Prop}(hX:∀i,B<=i->i<a.heap.size->X i):Kept X a b:=⟨h.os,h.tape,h.output,h.size,λi hi hx=>h.block i (Classical.byContradiction λhh=>hx (hX i (by omega) hi))⟩
theorem Kept.new {X:Nat->Prop}{a b:World}{e:TypeId}{cs:List Value}(h:qR a b e cs):Kept X a b:=Kept.aJ h.below λi hi hh=>by omega
theorem Kept.drew {X:Nat->Prop}{a w:World}(h:Kept X a w):Kept X a w.drew:=⟨h.os,h.tape,h.output,h.size,h.block⟩
theorem Kept.grown {a b:World}{row:Option Nat}(h:a.grownBy b row){X:Nat->Prop}(hX:∀k,row=some k->X k):Kept X a b:=⟨h.os,h.tape,h.output,h.size,λi hi hx=>h.block i hi λhh=>hx (hX i hh.symm)⟩
theorem Kept.cell {X:Nat->Prop}{a b:World}(h:Kept X a b){p:Addr}{v:Value}(hv:a.cell? p=some v)(hX:¬X p.block):b.cell? p=some v :=
 (World.cell?_of_block (h.block p.block (World.block_lt_of_cell? a p hv) hX)).trans hv
theorem Sl.kept {α:Type}{X Y:Nat->Prop}{k:Nat}{R:List Value->α->Prop}{w w':World}{v:Value}{l:List α}(h:Sl X k R w v l)(hb:Kept Y w w')(hY:∀i,Y i->X i):Sl X k R w' v l :=
 h.mono (λb pW bZ=>hb.block b bZ λhh=>pW (hY b hh)) (λ_ _ _ h=>h) (λ_ h=>h)
def aO (w:World)(b:Nat)(e:TypeId)(cs:List Value):Prop:=w.heap[b]?=some (.cells cs.toArray e (0,0))
theorem aO.lt {w:World}{b:Nat}{e:TypeId}{cs:List Value}(h:aO w b e cs):b<w.heap.size:=(Array.getElem?_eq_some_iff.1 h).1
theorem aO.cell {w:World}{b:Nat}{e:TypeId}{cs:List Value}(h:aO w b e cs){o:Nat}{u:Value}(hu:cs[o]?=some u):w.cell? ⟨b,o,none⟩=some u:=by
 rw[cell_of_row w b o _ e (0,0) h];simpa using hu
theorem aO.kept {X:Nat->Prop}{w w':World}{b:Nat}{e:TypeId}{cs:List Value}(h:aO w b e cs)(hk:Kept X w w')(hX:¬X b):aO w' b e cs:=(hk.block b h.lt hX).trans h
theorem aO.below {B:Nat}{w w':World}{b:Nat}{e:TypeId}{cs:List Value}(h:aO w b e cs)(hk:Below B w w')(hX:b<B):aO w' b e cs:=(hk.block b hX).trans h
theorem aO.drew {w:World}{b:Nat}{e:TypeId}{cs:List Value}(h:aO w b e cs):aO w.drew b e cs:=h
theorem qR.aN {w w':World}{e:TypeId}{cs:List Value}(h:qR w w' e cs):aO w' w.heap.size e cs:=h.block
structure Lz (w w':World)(b:Nat)(e:TypeId)(cs:List Value):Prop where
 aN:aO w' b e cs
 kept:Kept (·=b) w w'
 size:w'.heap.size=w.heap.size
theorem Lz.q0 {w:World}{b:Nat}{e:TypeId}{Wm cs:List Value}(h:aO w b e Wm):Lz w (w.setRow b cs.toArray) b e cs :=
 ⟨setRow_heap w b _ _ e _ h,⟨rfl,rfl,rfl,by simp,λk _ hk=>setRow_other w b k _ hk⟩,by simp⟩
theorem aC {b o:Nat}{e:TypeId}{cs:List Value}{v:Value}{p}(hB:aO w b e cs)(ho:o<cs.length)(h1:kA v=true)(kk:∀w',Lz w w' b e (cs.set o v)->K undef w') :
  sJ (some none) (.pointer (some ⟨b,o,none⟩)) v w K other p:=by
 refine⟨h1,by rw[hB.cell (List.getElem?_eq_getElem ho)];rfl,?_,kk _ ?_⟩
 ·simp only[World.frozen?];rw[show w.heap[b]?=_ from hB]
  simp
 rw[setCell_eq_setRow w b o _ e (0,0) v hB,List.setIfInBounds_toArray];exact Lz.q0 hB
theorem HW (n:Nat)(a v:Value)(p):sJ (some (some n)) a v w K other p=other:=(rfl)
theorem aF {xt:TypeId}{b o n:Nat}{e:TypeId}{Wm cs:List Value}(hty:lI P xt=some (some n))(hB:aO w b e Wm)(hn:cs.length=n)(ho:o+n<=Wm.length)(h1:∀v∈cs,v.oneCell'=true)
  (kk:∀w',Lz w w' b e (Wm.take o++cs++Wm.drop (o+n))->K undef w'):a8 P (Instr.storeAt xt (.pointer (some ⟨b,o,none⟩)) (.agg cs.toArray)) t w K Q .mk:=by
 have:=run_storeCells_at P b o e cs 0 Wm.toArray w hB (by simp;omega) h1;simp only[Nat.add_zero,List.size_toArray]at this;refine yq (w':=w.setRow b (Wm.take o++cs++Wm.drop (o+n)).toArray) ?_ (kk _ (Lz.q0 hB));subst hn;simp only[Instr.storeAt,Instr.sureAddr,Sem.run_bind,Sem.run_pure,Result.andThen_ok,storeVar,(iu hty w).2,Value.cells,List.size_toArray,ne_eq,not_true_eq_false,if_false,this]
theorem aR {e:TypeId}{z:List Value}{p}(hz:(P.info? e).bind (λi=>i.zero.map dD)=some z)(kk:∀w',qR w w' e z->K (.pointer (some ⟨w.heap.size,0,none⟩)) w'):aq P (Instr.alloc e true (.tuple #[])) t w K Q p:=by
 obtain⟨i,hi,hz⟩:=Option.bind_eq_some_iff.1 hz;obtain⟨v,hv,rfl⟩:=Option.map_eq_some_iff.1 hz;refine dq (w':=w.alloc (.cells (dD v).toArray e)) ?_ (kk _ ⟨rfl⟩);rw[<-jj];simp[Instr.alloc,zeroValue,typeInfo,hi,hv,newVar,newRow]
def oT (P:Program)(t:Fr)(w:World):List ResultVar->(List Value->Prop)->Prop
 | [],k=>k []
 | .tmp i::r,k=>oT P t w r λvs=>k (t.getD i undef::vs)
 | .cell a ty::r,k=>mD (lI P ty) (t.getD a undef) w (λv _=>oT P t w r λvs=>k (v::vs)) .mk
def Gz (P:Program)(rs:List ResultVar)(R:VK)(_:Ph R):EP
 | .normal,t,w=>oT P t w rs λvs=>R (vn vs) w
 | .ret,t,w=>oT P t w rs λvs=>R (vn vs) w
 | _,_,_=>False
theorem Ue (rs)(R:VK)(p):Gz P rs R p .ret t w=oT P t w rs λvs=>R (vn vs) w:=(rfl)
theorem HA (rs)(R:VK)(p):Gz P rs R p .normal t w=oT P t w rs λvs=>R (vn vs) w:=(rfl)
theorem Uh (k:List Value->Prop):oT P t w [] k=k []:=(rfl)
theorem Ui (i)(r)(k:List Value->Prop):oT P t w (.tmp i::r) k=oT P t w r λvs=>k (t.getD i undef::vs):=(rfl)
theorem ON (a ty)(r)(k:List Value->Prop):oT P t w (.cell a ty::r) k=mD (lI P ty) (t.getD a undef) w (λv _=>oT P t w r λvs=>k (v::vs)) .mk:=(rfl)
theorem G6 {ty:TypeId}{a:Value}{w:World}{k:VK}(h:mD (lI P ty) a w k .mk):∃ad v,a=.pointer (some ad)/\(loadVar ty ad).run P w=.ok v w/\k v w:=by
 unfold mD at h;split at h
 ·rename_i ad ht;obtain⟨v,hc,hk⟩:=jN h;exact⟨ad,v,rfl,by simp[loadVar,(mo ht w).1,load,Sem.run,hc],hk⟩
 ·rename_i n ad ht;obtain⟨v,hc,hk⟩:=jN h;exact⟨ad,_,rfl,by simp[loadVar,(iu ht w).1,(iu ht w).2,loadCells,run_loadCellsFrom (P:=P) w ad n 0 #[] v hc],hk⟩
 exact h.elim
theorem yd (g:ResultVar->Sem Value)(h1:∀i,(g (.tmp i)).run P w=.ok (t.getD i undef) w)(h2:∀a ty ad v,t.getD a undef=.pointer (some ad)->(loadVar ty ad).run P w=.ok v w->(g (.cell a ty)).run P w=.ok v w):∀(rs:List ResultVar) (k:List Value->Prop),oT P t w rs k->∃vs,(List.mapM g rs).run P w=.ok vs w/\k vs
 | [],k,h=>⟨[],rfl,h⟩
 | .tmp i::r,k,h=>by
  obtain⟨vs,h3,h4⟩:=yd g h1 h2 r _ h;refine⟨_,?_,h4⟩;simp only[List.mapM_cons,Sem.run_bind,Sem.run_pure,Result.andThen_ok,h1,h3]
 | .cell a ty::r,k,h=>by
  obtain⟨ad,v,ha,hl,h⟩:=G6 h;obtain⟨vs,h3,h4⟩:=yd g h1 h2 r _ h;refine⟨_,?_,h4⟩;simp only[List.mapM_cons,Sem.run_bind,Sem.run_pure,Result.andThen_ok,h2 _ _ _ _ ha hl,h3]
theorem Ng (g:ResultVar->Sem Value)(h1:∀i,(g (.tmp i)).run P w=.ok (t.getD i undef) w)(h2:∀a ty ad v,t.getD a undef=.pointer (some ad)->(loadVar ty ad).run P w=.ok v w->(g (.cell a ty)).run P w=.ok v w)(rs:List ResultVar)(k:List Value->Prop)(h:oT P t w rs k):∃vs,(Array.mapM g rs.toArray).run P w=.ok vs.toArray w/\k vs:=by
 obtain⟨vs,h3,h4⟩:=yd g h1 h2 rs k h;refine⟨vs,?_,h4⟩;rw[List.mapM_toArray,map_eq_pure_bind];simp only[Sem.run_bind,h3,Result.andThen_ok,Sem.run_pure]
theorem PA (g:ResultVar->Sem Value)(F:Array Value->World->Result Value)(h1:∀i,(g (.tmp i)).run P w=.ok (t.getD i undef) w)(h2:∀a ty ad v,t.getD a undef=.pointer (some ad)->(loadVar ty ad).run P w=.ok v w->(g (.cell a ty)).run P w=.ok v w)(hF:∀vs:List Value,F vs.toArray w=.ok (vn vs) w)(rs:List ResultVar)(k:List Value->Prop)(h:oT P t w rs k):∃vs,((Array.mapM g rs.toArray).run P w).andThen F=.ok (vn vs) w/\k vs:=by
 obtain⟨vs,h3,h4⟩:=Ng g h1 h2 rs k h;exact⟨vs,by rw[h3,Result.andThen_ok,hF],h4⟩
theorem dL (fn:Func)(rs:List ResultVar)(h:fn.results=rs.toArray)(t:Fr)(k:List Value->Prop)(hl:oT P t w rs k):∃vs,(results fn t.toArray).run P w=.ok (vn vs) w/\k vs:=by
 unfold results;rw[h,Sem.run_bind];refine PA (t:=t) _ _ ?_ ?_ ?_ rs k hl
 ·intro i;simp[List.getD_eq_getElem?_getD,Array.getD_eq_getD_getElem?]
 ·intro a ty ad v ha hl;have Zi:t.toArray.getD a undef=.pointer (some ad):=by rw[<-ha];simp[List.getD_eq_getElem?_getD,Array.getD_eq_getD_getElem?]
  have hA:asAddr (t.toArray.getD a undef)=pure ad:=by rw[Zi];rfl
  simp only[hA,Sem.run_bind,Sem.run_pure,Result.andThen_ok,hl]
 intro vs;rw[Sem.run_pure];congr 1;match vs with
 | []=>rfl
 | [a]=>rfl
 | a::b::l=>simp[vn]
theorem Im {f:FuncId}{fn:Func}{c:Code}{args:List Value}{R:VK}(hf:P.funcs[f]?=some fn)(hb:fn.body=some c)(hn:(fn.name == "runtime.NumGoroutine")=false)
  (rs:List ResultVar) (fO:fn.results=rs.toArray) (h:vc P c (Gz P rs R .mk) (sq args fn.ntmps) w .mk):bD P f args w R:=by
 refine⟨cR hf (by simp[hb]) hn,calls_of_wp hf hb ?_⟩;have h1:=nt c _ _ w h;unfold cw at h1;have e:(args.toArray++Array.replicate (fn.ntmps-args.toArray.size) undef)=(sq args fn.ntmps).toArray:=by simp[sq]
 rw[e];refine Code.wp_mono ?_ h1;rintro e a w' ⟨hd,hh⟩;have ha:a.tmps.toList.toArray=a.tmps:=by simp
 cases e<;>simp only[Gz]at hh<;>first|exact hh.elim|skip
 ·obtain⟨vs,hv,hk⟩:=dL fn rs fO _ _ hh;exact⟨hd,_,by rw[<-ha];exact hv,_,rfl,hk⟩
 obtain⟨vs,hv,hk⟩:=dL fn rs fO _ _ hh;exact⟨hd,_,by rw[<-ha];exact hv,_,rfl,hk⟩
theorem ae {α:Type}{bt ty e:TypeId}{k bytes base n:Nat}{enc:α->List Value}{v:Value}{l:List α}(ys:List α){b o c:Nat}{p}(hE:zC P bt=some (e,k,bytes))(gU:Own base e k enc w v l)(hn:ys.length=n)
  (hy:∀j u,(ys.flatMap enc)[j]?=some u->w.cell? ⟨b,o+j,none⟩=some u) (h1:∀x,∀u∈enc x,u.oneCell'=true)
  (hm:(l.length+ys.length)*bytes<=140737488355328) (nV:base<=w.heap.size)
  (kk:∀v' w',Own base e k enc w' v' (l++ys)->w.grownBy w' v.ownBlock->(∀g,v'.ownBlock=some g->v.ownBlock=some g\/w.heap.size<=g)->K v' w'):aq P (Builtin.append_ #[bt,bt] ty [v,.slice (some ⟨b,o,none⟩) n c].toArray) t w K Q p:=by
 subst hn;obtain⟨hu,i,z,hi,hz,rfl,rfl,JV,hk,cp⟩:=ll hE;have hlen:∀(ys:List α),(ys.flatMap enc).length=ys.length*i.size:=by
  intro ys;induction ys with
  | nil=>simp
  | cons y ys ih=>simp[List.flatMap_cons,gU.2,ih,Nat.add_mul];omega
 have hle:l.length+ys.length<=140737488355328:=Nat.le_trans (Nat.le_mul_of_pos_right _ cp) hm;have hy':∀j u,(ys.flatMap enc)[j]?=some u->w.cell? ((⟨b,o,none⟩:Addr).add j)=some u:=λj u hj=>by rw[add_lit];exact hy j u hj
 have qV:∀u∈ys.flatMap enc,u.oneCell'=true:=λu EK=>by obtain⟨x,_,hx⟩:=List.mem_flatMap.1 EK;exact h1 x u hx
 obtain⟨v',w',hr,ho,hg,_⟩:=run_append_own (P:=P) w base bt ty e i z i.size i.bytes hu hi hz rfl rfl JV hk v l.length (l.flatMap enc) gU.1 ⟨b,o,none⟩ ys.length c (ys.flatMap enc) (hlen ys)
  hy' qV (by simp only[maxLen];omega) hm nV
 refine dq hr (kk v' w' ⟨by simpa[List.flatMap_append] using ho,gU.2⟩ hg ?_);intro g' Se;rcases gU.1.2 with ⟨rfl,h0⟩|⟨g,cap,cur,rfl,XT,Vw,Zv,qm,je,aGV⟩
 ·have hl:l=[]:=List.eq_nil_of_length_eq_zero h0;subst hl;have TC:w.ownsRow w.heap.size e i.size (.slice none 0 0) 0 []:=World.ownsRow_nil _ _ _ _;obtain⟨v2,w2,EJ,ow,_,_⟩:=run_append_own (P:=P) w w.heap.size bt ty e i z i.size i.bytes hu hi hz rfl rfl JV hk _ 0 [] TC ⟨b,o,none⟩ ys.length c (ys.flatMap enc) (hlen ys)
   hy' qV (by simp only[maxLen];omega) (by simpa using hm) (Nat.le_refl _)
  have:=hr.symm.trans EJ;cases this;exact .inr (ow.lt g' Se).1
 by_cases TG:l.length+ys.length<=cap
 ·obtain⟨w2,EJ,_⟩:=run_append_fits (P:=P) (w:=w) base bt ty e i i.size hu hi rfl g l.length cap (l.flatMap enc) gU.1 ⟨b,o,none⟩ ys.length c (ys.flatMap enc) (hlen ys) hy' qV TG
  have:=hr.symm.trans EJ;cases this;exact .inl Se
 have EJ:=run_append_grow (P:=P) w bt ty e i z hu hi hz ⟨g,0,none⟩ l.length cap (l.flatMap enc) gU.1.1 (gU.1.cells (g:=g) rfl) ⟨b,o,none⟩ ys.length c (ys.flatMap enc) (hlen ys) hy' (by omega) (by omega) (growslice_fits (by omega) hm)
 have:=hr.symm.trans EJ;cases this;simp only[Value.ownBlock,Option.some.injEq]at Se;exact .inr (by omega)
theorem Own.ak {α:Type}{base:Nat}{e:TypeId}{k:Nat}{enc:α->List Value}{X:Nat->Prop}{w w':World}{v:Value}{l:List α}(h:Own base e k enc w v l)(hb:Kept X w w')(hX:∀g,v.ownBlock=some g->¬X g):Own base e k enc w' v l:=by
 refine⟨⟨h.1.1,?_⟩,h.2⟩;rcases h.1.2 with hn|⟨g,cap,cur,rfl,XT,Vw,rest⟩
 ·exact .inl hn
 refine .inr ⟨g,cap,cur,rfl,XT,?_,rest⟩;rw[hb.block g (Array.getElem?_eq_some_iff.1 Vw).1 (hX g rfl)];exact Vw
theorem Own.new {α:Type}{base:Nat}{e:TypeId}{k:Nat}{enc:α->List Value}{w w':World}{v:Value}{l:List α}{e':TypeId}{cs:List Value}(h:Own base e k enc w v l)(hn:qR w w' e' cs):Own base e k enc w' v l:=h.below hn.below
theorem Own.block {α:Type}{base:Nat}{e:TypeId}{k:Nat}{enc:α->List Value}{w:World}{v:Value}{l:List α}(h:Own base e k enc w v l):∀g,v.ownBlock=some g->base<=g/\g<w.heap.size:=h.1.lt
theorem sY {ty xT I:TypeId}{v z:Value}{want}{p}(hu:P.underlying I=some (.interface want))(h:(P.info? ty).map (λi=>(lacking want i.methods).isEmpty)=some false)(hz:(P.info? I).map (·.zero)=some (some z))(k:K (.tuple #[z,.bool false]) w) :
  aq P (Instr.typeAssert (.iface ty v) xT I true) t w K Q p:=dq (run_typeAssert_lacksB hu h hz v xT w) k
theorem IX {ty xT I:TypeId}{v:Value}{want}{p}(hu:P.underlying I=some (.interface want))(h:(P.info? ty).map (λi=>(lacking want i.methods).isEmpty)=some true)(k:K (.tuple #[.iface ty v,.bool true]) w) :
  aq P (Instr.typeAssert (.iface ty v) xT I true) t w K Q p:=dq (run_typeAssert_hasB hu h v xT w) k
end
attribute [push_cast] Bool.false_or Bool.or_true Nr DX AQ Gd Jb Je yN vl AP aDi On Jo HW Ue HA Uh Ui ON
end Go.Vc
end
section
namespace Go.Vc
open Go.RowKit
def eV (n:Int):List Value:=[.int .i64 n]
theorem qR.own {α:Type}{base k n:Nat}{e:TypeId}{enc:α->List Value}{w w':World}{cs:List Value}{l:List α}(h:qR w w' e cs)(je:cs=l.flatMap enc)(hn:l.length=n)(hk:∀x,(enc x).length=k)(hb:base<=w.heap.size)(hm:n<=140737488355328) :
  Own base e k enc w' (.slice (some ⟨w.heap.size,0,none⟩) n n) l:=by
 subst je hn;have hlen:(l.flatMap enc).length=l.length*k:=by
  clear h hb hm;induction l with
  | nil=>simp
  | cons y ys ih=>simp[List.flatMap_cons,hk,ih,Nat.add_mul];omega
 refine⟨⟨hlen,.inr ⟨w.heap.size,l.length,(l.flatMap enc).toArray,rfl,hb,h.block,Nat.le_refl _,by simp only[maxLen];omega,by simp[hlen],?_⟩⟩,hk⟩;rw[<-hlen];exact List.take_length
theorem Own.cut {α:Type}{base k n c:Nat}{e:TypeId}{enc:α->List Value}{w:World}{a:Option Addr}{l:List α}(h:Own base e k enc w (.slice a n c) l) :
  (a=none/\n=0/\c=0/\l=[])\/∃g,a=some ⟨g,0,none⟩/\n=l.length/\n<=c/\∀m,m<=n->Own base e k enc w (.slice (some ⟨g,0,none⟩) m c) (l.take m):=by
 obtain⟨⟨h1,h2⟩,hk⟩:=h;rcases h2 with ⟨he,h0⟩|⟨g,cap,cur,he,XT,Vw,Zv,qm,je,rp⟩
 ·cases he;exact .inl ⟨rfl,rfl,rfl,List.eq_nil_of_length_eq_zero h0⟩
 cases he;refine .inr ⟨g,rfl,rfl,Zv,λm hm=>⟨⟨?_,.inr ⟨g,c,cur,?_,XT,Vw,?_,qm,je,?_⟩⟩,hk⟩⟩
 ·clear rp h1;have:∀(l:List α),(l.flatMap enc).length=l.length*k:=by
   intro l;induction l with
   | nil=>simp
   | cons y ys ih=>simp[List.flatMap_cons,hk,ih,Nat.add_mul];omega
  rw[this]
 ·rw[List.length_take,Nat.min_eq_left hm]
 ·rw[List.length_take];omega
 have hl:∀(l:List α),(l.flatMap enc).length=l.length*k:=by
  intro l;induction l with
  | nil=>simp
  | cons y ys ih=>simp[List.flatMap_cons,hk,ih,Nat.add_mul];omega
 have h3:l.flatMap enc=(l.take m).flatMap enc++(l.drop m).flatMap enc:=by rw[<-List.flatMap_append,List.take_append_drop]
 rw[h3]at rp;have h4:=congrArg (List.take ((l.take m).length*k)) rp;rw[List.take_take,<-hl (l.take m),List.take_left,hl,Nat.min_eq_left (Nat.mul_le_mul_right k (by rw[List.length_take];omega))]at h4;exact h4
theorem A3 (e:TypeId)(e':TypeId)(k:Nat)(kk:IntKind)(L:VP)(other:Prop)(p):gm (some (.slice e)) (some (e',k)) (.slice none 0 0) none (some (.int kk 0)) none L other p=L (.slice none 0 0):=by
 simp[gm,il]
attribute [push_cast] A3
theorem aO.aB {w:World}{b:Nat}{e:TypeId}{cs:List Value}(h:aO w b e cs):aB w ⟨b,0,none⟩ 0 cs.length=some cs :=
 bL cs 0 λj u hu=>by rw[Nat.zero_add,Nat.zero_add];exact h.cell hu
end Go.Vc
end
section
namespace Go.Vc
open Go.RowKit
inductive Ord where
 | done
 | one (k:Nat) (r:Ord)
 | two (k:Nat) (r:Ord) (k':Nat) (r':Ord)
def yT (P:Program)(ops:Array Oper)(bf:Array Nat):Nat->Ord->Array Bool->Bool
 | _,.done,listed=>(Region.ready .any ops listed).isEmpty
 | n+1,.one k r,listed=>(Region.ready .any ops listed).contains k && tO P ops bf listed k && yT P ops bf n r (listed.setIfInBounds k true)
 | n+1,.two k r k' r',listed=>(Region.ready .any ops listed).contains k && (Region.ready .any ops listed).all (λi=>i == k || i == k') && yT P ops bf n r (listed.setIfInBounds k true) && yT P ops bf n r' (listed.setIfInBounds k' true)
 | _,_,_=>false
def aHe (P:Program)(ops:Array Oper)(o:Ord):Bool:=Region.noSelect ops && yT P ops (Region.before ops) ops.size o (Array.replicate ops.size false)
section
variable {P:Program} {ops:Array Oper} {C:World->Prop}
def yz (P:Program)(ops:Array Oper)(C:World->Prop)(R:Act->World->Prop):Ord->Act->World->Prop
 | .done,a,w=>R a w
 | .one k r,a,w=>da P ops C k (yz P ops C R r) a w
 | .two k r k' r',a,w=>da P ops C k (yz P ops C R r) a w/\da P ops C k' (yz P ops C R r') a w
theorem oo {R:Act->World->Prop}(hs:Region.noSelect ops=true):∀(o:Ord) (n:Nat) (listed:Array Bool) (a:Act) (w:World),C w->vY ops listed ->
  yT P ops (Region.before ops) n o listed=true->yz P ops C R o a w->vR P .any ops C R n listed a w
 | .done,0,listed,a,w,_,_,hB,h=>⟨by simpa[yT] using hB,h⟩
 | .done,n+1,listed,a,w,_,_,hB,h=>⟨λ_=>h,λi hi=>by
   have:Region.ready .any ops listed=[]:=by simpa[yT] using hB
   rw[this]at hi;cases hi⟩
 | .one k r,0,_,_,_,_,_,hB,_=>by simp[yT]at hB
 | .two ..,0,_,_,_,_,_,hB,_=>by simp[yT]at hB
 | .one k r,n+1,listed,a,w,hC,hS,hB,h=>by
  simp only[yT,Bool.and_eq_true]at hB;obtain⟨⟨hr,hf⟩,Cq⟩:=hB;have zK:k∈Region.ready .any ops listed:=by simpa using hr
  obtain⟨_,ok,cD,_⟩:=mem_ready.1 zK;refine vS (i:=k) (oi:=ok) cD (Region.noSelect_spec hs) n listed a w hC hS (oR cD hf) zK ?_;exact fh hC (λa' w' Mv hh=>oo hs r n _ a' w' Mv (hS.set zK) Cq hh) h
 | .two k r k' r',n+1,listed,a,w,hC,hS,hB,h=>by
  simp only[yT,Bool.and_eq_true,List.all_eq_true,Bool.or_eq_true,beq_iff_eq]at hB;obtain⟨⟨⟨hr,cg⟩,iK⟩,jK⟩:=hB;have zK:k∈Region.ready .any ops listed:=by simpa using hr
  refine⟨λh0=>(by rw[h0]at zK;cases zK),λi hi=>?_⟩;rcases cg i hi with rfl|rfl
  ·exact fh hC (λa' w' Mv hh=>oo hs r n _ a' w' Mv (hS.set hi) iK hh) h.1
  exact fh hC (λa' w' Mv hh=>oo hs r' n _ a' w' Mv (hS.set hi) jK hh) h.2
end
section
variable {P:Program}
def iG (P:Program)(ops:List Oper)(C:World->Prop)(o:Option Oper)(K:Fr->World->Prop)(t:Fr)(w:World)(_:Ph (ops,C,K)):Prop:=match o with
 | none=>False
 | some o=>match o.guard with
  | none=>dT P o t w C (λv w'=>K (put t o.dst v) w') .mk
  | some (j,want)=>gJ (iE ops j) want t (λt'=>dT P o t' w C (λv w'=>K (put t' o.dst v) w') .mk) (λt'=>K (put t' o.dst undef) w) .mk
def lB (P:Program)(ops:List Oper)(C:World->Prop)(R:Fr->World->Prop):(o:Ord)->Fr->World->Ph (ops,C,R)->Prop
 | .done,t,w,_=>R t w
 | .one k r,t,w,_=>iG P ops C ops[k]? (λt w=>lB P ops C R r t w .mk) t w .mk
 | .two k r k' r',t,w,_=>iG P ops C ops[k]? (λt w=>lB P ops C R r t w .mk) t w .mk/\iG P ops C ops[k']? (λt w=>lB P ops C R r' t w .mk) t w .mk
theorem mF {ops:List Oper}{C:World->Prop}{K:Fr->World->Prop}{N:Act->World->Prop}(hn:∀t w,K t w->N ⟨t.toArray,[]⟩ w){k:Nat}{t:Fr}{w:World}(h:iG P ops C ops[k]? K t w .mk):da P ops.toArray C k N ⟨t.toArray,[]⟩ w:=by
 unfold iG at h;split at h
 ·exact h.elim
 rename_i o h0;split at h
 ·rename_i hg;exact fi h0 (by simp[Region.wanted,hg]) (λv w' hk=>hn _ _ hk) h
 rename_i j want hg;rcases kJ hg h with ⟨hw,hh⟩|⟨hw,hh⟩
 ·exact fi h0 hw (λv w' hk=>hn _ _ hk) hh
 exact rz h0 hw (hn _ _ hh)
theorem iU {ops:List Oper}{C:World->Prop}{R:Fr->World->Prop}{N:Act->World->Prop}(hn:∀t w,R t w->N ⟨t.toArray,[]⟩ w):∀(o:Ord) (t:Fr) (w:World),
  lB P ops C R o t w .mk->yz P ops.toArray C N o ⟨t.toArray,[]⟩ w
 | .done,t,w,h=>hn t w h
 | .one k r,t,w,h=>mF (λt w=>iU hn r t w) h
 | .two k r k' r',t,w,h=>⟨mF (λt w=>iU hn r t w) h.1,mF (λt w=>iU hn r' t w) h.2⟩
theorem Vl {id:Nat}{l:List Oper}{t:Fr}{w:World}{Q:EP}{p}(o:Ord)(C:World->Prop)(hm:P.follows .mixedOrders=true)(hB:aHe P l.toArray o=true)(hC:C w.drew)
  (h:lB P l C (Q .normal) o t w.drew .mk):cw P (.region id l.toArray true) Q t w p:=by
 unfold cw;simp only[aHe,Bool.and_eq_true]at hB;refine wp_region_any hm (fV (C:=C) (R:=λa w=>lift Q .normal a w) (λ_ _ h=>h) _ _ _ _ hC ?_);refine oo hB.1 o _ _ _ _ hC (λj o _ hl=>by simp[Array.getElem?_replicate]at hl;split at hl<;>simp at hl) hB.2 ?_;exact iU (R:=Q .normal) (λt w hk=>⟨rfl,by simpa using hk⟩) o t w.drew h
theorem dF {a:Option Addr}{ad:Addr}(h:a=some ad):∀(e size arr n c k i) (L:VP) (p),jF (some (e,size)) arr (.slice a n c) (.int k i) L p=((0<=i/\i<n)/\L (.pointer (some (ad.add (i.toNat*size))))):=by
 subst h;intro e size arr n c k i L p;cases arr<;>rfl
theorem ZP {c:Code}{t:Fr}{w:World}{Q:EP}{p}(M:List Nat)(J:(Nat->Value)->World->Prop)(h1:cw P c (λe t' w'=>e=.normal/\t'=ov t M (at_ t')/\J (at_ t') w') t w .mk)
  (h2:∀z w',J z w'->Q .normal (ov t M z) w'):cw P c Q t w p:=by
 refine yw ?_ h1;rintro e t' w' ⟨rfl,ht,hJ⟩;rw[ht];exact h2 _ _ hJ
variable {t:Fr} {w:World} {C:World->Prop} {R K:Fr->World->Prop}
theorem Hj (ops)(p):lB P ops C R .done t w p=R t w:=(rfl)
theorem K1 (ops k r)(p):lB P ops C R (.one k r) t w p=iG P ops C ops[k]? (λt w=>lB P ops C R r t w .mk) t w .mk:=(rfl)
theorem K2 (ops k r k' r')(p):lB P ops C R (.two k r k' r') t w p=(iG P ops C ops[k]? (λt w=>lB P ops C R r t w .mk) t w .mk/\iG P ops C ops[k']? (λt w=>lB P ops C R r' t w .mk) t w .mk):=(rfl)
theorem HV (ops)(d op ty pos af)(p):iG P ops C (some ⟨d,op,ty,pos,af,none⟩) K t w p=dT P ⟨d,op,ty,pos,af,none⟩ t w C (λv w'=>K (put t d v) w') .mk:=(rfl)
theorem HU (ops)(d op ty pos af j want)(p):iG P ops C (some ⟨d,op,ty,pos,af,some (j,want)⟩) K t w p =
  gJ (iE ops j) want t (λt'=>dT P ⟨d,op,ty,pos,af,some (j,want)⟩ t' w C (λv w'=>K (put t' d v) w') .mk) (λt'=>K (put t' d undef) w) .mk:=(rfl)
theorem UN (x:Oper)(l:List Oper):(x::l)[0]?=some x:=(rfl)
theorem UM (x:Oper)(l:List Oper)(n:Nat):(x::l)[n+1]?=l[n]?:=(rfl)
end
attribute [push_cast] Hj K1 K2 HV HU UN UM
attribute [irreducible] lB iG
end Go.Vc
end
section
namespace Go.Vc
open Go.RowKit
section
variable {P:Program} {ops:Array Oper} {C:World->Prop}
def sO (P:Program)(ops:Array Oper)(C:World->Prop)(m:Nat)(R:Act->World->Prop):Nat->Array Bool->Act->World->Prop
 | 0,listed,a,w=>(∀j∈Region.ready .any ops listed,j=m)/\vR P .any ops (λ_=>True) R 1 listed a w
 | n+1,listed,a,w=>(Region.ready .any ops listed=[]->R a w)/\∀i∈Region.ready .any ops listed,da P ops C i (sO P ops C m R n (listed.setIfInBounds i true)) a w
theorem iw {m:Nat}{R:Act->World->Prop}{Q:Exit->Act->World->Prop}(hq:∀a w,R a w->Q .normal a w):∀(n:Nat) (listed:Array Bool) (a:Act) (w:World),C w ->
  sO P ops C m R n listed a w->wpAny P .any ops Q (n+1) listed a w
 | 0,listed,a,w,_,h=>fV (C:=λ_=>True) hq 1 listed a w trivial h.2
 | fuel+1,listed,a,w,hC,h=>⟨λh0=>hq _ _ (h.1 h0),λi hi=>by
   have h1:=h.2 i hi;unfold da at h1;unfold wpOp;split
   ·rename_i ho;simp only[ho]at h1;exact iw hq fuel _ _ _ hC h1
   rename_i o ho;simp only[ho]at h1;split
   ·rename_i hw;simp only[hw,if_true]at h1;refine .inl ?_;split at h1
    ·exact Oper.wp_mono (λa' w' hh=>iw hq fuel _ _ _ hh.1 hh.2) (tf h1)
    obtain⟨v,hv,hk⟩:=h1;unfold Oper.wp;rw[hv w hC];exact iw hq fuel _ _ _ hC hk
   rename_i hw;simp only[hw]at h1;exact iw hq fuel _ _ _ hC h1⟩
theorem Dx {m:Nat}{R:Act->World->Prop}{i:Nat}{oi:Oper}(hi:ops[i]?=some oi)(him:i≠m)(hm:((Region.before ops).getD m 0).testBit i=true)(DE:∀(j:Nat) (o:Oper) cs b,ops[j]?=some o->o.op≠.select cs b) :
  ∀(fuel:Nat) (listed:Array Bool) (a:Act) (w:World),C w->vY ops listed ->
   (∀j oj,ops[j]?=some oj->j≠i->listed.getD j true=false->((Region.before ops).getD j 0).testBit i=false->oi.apart ops oj=true/\(chain P oi && chain P oj)=false) ->
   i∈Region.ready .any ops listed->da P ops C i (sO P ops C m R fuel (listed.setIfInBounds i true)) a w->sO P ops C m R (fuel+1) listed a w:=by
 have xm:∀listed:Array Bool,i∈Region.ready .any ops listed->listed.getD i false=false:=λlisted hr=>by
  have h0:=(mem_ready.1 hr).1;rcases Nat.lt_or_ge i listed.size with h'|h'
  ·simp[h']at h0 ⊢;exact h0
  simp[Array.getElem?_eq_none h']
 intro fuel;induction fuel with
 | zero =>
  intro listed a w hC hS _ hr H;refine⟨λh=>(by rw[h]at hr;cases hr),λj hj=>?_⟩;by_cases uI:j=i
  ·subst uI;exact H
  have:=ready_mono hj uI;obtain⟨_,_,_,hh⟩:=yO hC H;have Zt:=hh.1 j this;subst Zt;obtain⟨_,oj,EI,cg⟩:=mem_ready.1 hj
  have:=hS.before j i oj EI cg hm;rw[xm listed hr]at this;cases this
 | succ fuel ih =>
  intro listed a w hC hS rI hr H;refine⟨λh=>(by rw[h]at hr;cases hr),λj hj=>?_⟩;by_cases uI:j=i
  ·subst uI;exact H
  have h1:da P ops C i (da P ops C j (sO P ops C m R fuel ((listed.setIfInBounds i true).setIfInBounds j true))) a w :=
   fh hC (λa' w' _ hh=>hh.2 j (ready_mono hj uI)) H
  obtain⟨GF,oj,EI,cg⟩:=mem_ready.1 hj;have Sk:=xm listed hr;have Sv:((Region.before ops).getD j 0).testBit i=false:=by
   cases hb:((Region.before ops).getD j 0).testBit i with
   | false=>rfl
   | true=>have:=hS.before j i oj EI cg hb;rw[Sk]at this;cases this
  obtain⟨Pp,hch⟩:=rI j oj EI uI GF Sv;have h2:=yP hi EI Pp hch (λcs b=>DE i oi cs b hi) (λcs b=>DE j oj cs b EI) h1;refine fh hC (λa' w' Mv h3=>ih (listed.setIfInBounds j true) a' w' Mv (hS.set hj) ?_ (ready_mono hr (Ne.symm uI)) ?_) h2
  ·intro k ok hk hki xm gC;refine rI k ok hk hki ?_ gC;by_cases XX:j=k
   ·subst XX;exact GF
   rw[getD_set_ne true XX]at xm;exact xm
  rw[Array.setIfInBounds_comm _ _ uI];exact h3
def pq (P:Program)(ops:Array Oper)(bf:Array Nat)(m:Nat):Nat->Nat->Array Bool->Bool
 | 0,_,listed=>(Region.ready .any ops listed).contains m && (Region.ready .any ops listed).all (· == m) && (Region.ready .any ops (listed.setIfInBounds m true)).isEmpty
 | fuel+1,k,listed=>(Region.ready .any ops listed).contains k && tO P ops bf listed k && (bf.getD m 0).testBit k && pq P ops bf m fuel (k+1) (listed.setIfInBounds k true)
def aAk (P:Program)(ops:Array Oper):Bool:=Region.noSelect ops && pq P ops (Region.before ops) (ops.size-1) (ops.size-1) 0 (Array.replicate ops.size false)
def ud (P:Program)(ops:Array Oper)(C:World->Prop)(m:Nat)(R:Act->World->Prop):List Nat->Act->World->Prop
 | [],a,w=>da P ops (λ_=>True) m R a w
 | i::r,a,w=>da P ops C i (ud P ops C m R r) a w
theorem yy {m:Nat}{R:Act->World->Prop}(hs:Region.noSelect ops=true):∀(n k:Nat) (listed:Array Bool) (a:Act) (w:World),k+n=m->m<ops.size->C w->vY ops listed ->
  pq P ops (Region.before ops) m n k listed=true->ud P ops C m R (List.range' k n) a w->sO P ops C m R n listed a w
 | 0,_,listed,a,w,_,_,_,_,hB,h=>by
  simp only[pq,Bool.and_eq_true,List.all_eq_true,beq_iff_eq,List.isEmpty_iff]at hB;obtain⟨⟨h1,h2⟩,h3⟩:=hB;refine⟨h2,⟨λh0=>?_,λi hi=>?_⟩⟩
  ·rw[h0]at h1;simp at h1
  rw[h2 i hi];exact fh trivial (λa' w' _ hh=>⟨h3,hh⟩) h
 | n+1,k,listed,a,w,hk,bZ,hC,hS,hB,h=>by
  simp only[pq,Bool.and_eq_true]at hB;obtain⟨⟨⟨hr,hf⟩,hm⟩,Cq⟩:=hB;have uK:k<ops.size:=by omega
  have zK:k∈Region.ready .any ops listed:=by simpa using hr
  refine Dx (i:=k) (oi:=ops[k]) (by simp[uK]) (by omega) hm (Region.noSelect_spec hs) n listed a w hC hS (oR (by simp[uK]) hf) zK ?_;simp only[List.range'_succ,ud]at h;exact fh hC (λa' w' Mv hh=>yy hs n (k+1) _ a' w' (by omega) bZ Mv (hS.set zK) Cq hh) h
end
section
variable {P:Program}
def jb (P:Program)(ops:List Oper)(C:World->Prop)(R:Fr->World->Prop):(l:List Oper)->Fr->World->Ph (ops,C,R,l)->Prop
 | [],_,_,_=>False
 | [o],t,w,_=>match o.guard with
  | none=>dT P o t w (λ_=>True) (λv w'=>R (put t o.dst v) w') .mk
  | some _=>False
 | o::o'::r,t,w,_=>match o.guard with
  | none=>dT P o t w C (λv w'=>jb P ops C R (o'::r) (put t o.dst v) w' .mk) .mk
  | some (j,want)=>gJ (iE ops j) want t (λt'=>dT P o t' w C (λv w'=>jb P ops C R (o'::r) (put t' o.dst v) w' .mk) .mk) (λt'=>jb P ops C R (o'::r) (put t' o.dst undef) w .mk) .mk
theorem nw {ops:List Oper}{C:World->Prop}{R:Fr->World->Prop}{N:Act->World->Prop}(hn:∀t w,R t w->N ⟨t.toArray,[]⟩ w):∀(l:List Oper) (k m:Nat) (t:Fr) (w:World),(∀j,l[j]?=ops[k+j]?)->k+l.length=m+1 ->
  jb P ops C R l t w .mk->ud P ops.toArray C m N (List.range' k (l.length-1)) ⟨t.toArray,[]⟩ w
 | [],_,_,_,_,_,_,h=>h.elim
 | [o],k,m,t,w,hl,hm,h=>by
  have hkm:k=m:=by simpa using hm
  subst hkm;have h0:ops[k]?=some o:=by simpa using(hl 0).symm
  simp only[jb]at h;simp only[List.length_cons,List.length_nil,Nat.zero_add,Nat.sub_self,List.range'_zero,ud];split at h
  ·rename_i hg;exact fi h0 (by simp[Region.wanted,hg]) (λv w' hk=>hn _ _ hk) h
  exact h.elim
 | o::o'::r,k,m,t,w,hl,hm,h=>by
  have h0:ops[k]?=some o:=by simpa using(hl 0).symm
  have ih:=λt w=>nw (C:=C) hn (o'::r) (k+1) m t w (λj=>by have:=hl (j+1);simpa[Nat.add_assoc,Nat.add_comm 1 j] using this) (by simp only[List.length_cons]at hm ⊢;omega);have hlen:(o::o'::r).length-1=((o'::r).length-1)+1:=by simp
  rw[hlen,List.range'_succ];simp only[ud];simp only[jb]at h;split at h
  ·rename_i hg;exact fi h0 (by simp[Region.wanted,hg]) (λv w' hk=>ih _ _ hk) h
  rename_i j want hg;rcases kJ hg h with ⟨hw,hh⟩|⟨hw,hh⟩
  ·exact fi h0 hw (λv w' hk=>ih _ _ hk) hh
  exact rz h0 hw (ih _ _ hh)
theorem kT {id:Nat}{l:List Oper}{t:Fr}{w:World}{Q:EP}{p}(C:World->Prop)(hm:P.follows .mixedOrders=true)(hB:aAk P l.toArray=true)(hl:l≠[])(hC:C w.drew)
  (h:jb P l C (Q .normal) l t w.drew .mk):cw P (.region id l.toArray true) Q t w p:=by
 unfold cw;simp only[aAk,Bool.and_eq_true]at hB;have pG:0<l.length:=List.length_pos_iff.2 hl;have Au:l.toArray.size=(l.length-1)+1:=by simp;omega
 refine wp_region_any hm ?_;have hG:sO P l.toArray C (l.length-1) (λa w=>lift Q .normal a w) (l.length-1) (Array.replicate l.toArray.size false) ⟨t.toArray,[]⟩ w.drew:=by
  refine yy hB.1 _ 0 _ _ _ (by simp) (by simp;omega) hC (λj o _ hl=>by simp[Array.getElem?_replicate]at hl;split at hl<;>simp at hl) (by simpa using hB.2) ?_;exact nw (P:=P) (ops:=l) (C:=C) (R:=Q .normal) (N:=λa w=>lift Q .normal a w) (λt w hk=>⟨rfl,by simpa using hk⟩) l 0 (l.length-1) t w.drew (λj=>by simp) (by omega) h
 have:=iw (C:=C) (R:=λa w=>lift Q .normal a w) (Q:=λe a w=>lift Q e a w) (λ_ _ h=>h) _ _ _ _ hC hG;rw[<-Au]at this;exact this
variable {t:Fr} {w:World} {C:World->Prop} {K:VK} {R:Fr->World->Prop}
theorem KW (ops)(d op ty pos af)(p):jb P ops C R [⟨d,op,ty,pos,af,none⟩] t w p=dT P ⟨d,op,ty,pos,af,none⟩ t w (λ_=>True) (λv w'=>R (put t d v) w') .mk:=(rfl)
theorem Dq (ops)(d op ty pos af o' r)(p):jb P ops C R (⟨d,op,ty,pos,af,none⟩::o'::r) t w p=dT P ⟨d,op,ty,pos,af,none⟩ t w C (λv w'=>jb P ops C R (o'::r) (put t d v) w' .mk) .mk:=(rfl)
theorem Dp (ops)(d op ty pos af j want o' r)(p):jb P ops C R (⟨d,op,ty,pos,af,some (j,want)⟩::o'::r) t w p =
  gJ (iE ops j) want t (λt'=>dT P ⟨d,op,ty,pos,af,some (j,want)⟩ t' w C (λv w'=>jb P ops C R (o'::r) (put t' d v) w' .mk) .mk) (λt'=>jb P ops C R (o'::r) (put t' d undef) w .mk) .mk:=(rfl)
end
attribute [push_cast] KW Dq Dp
attribute [irreducible] jb
end Go.Vc
end
section
namespace Go.Vc
open Go.RowKit
section
variable {P:Program}
end
end Go.Vc
end
section
namespace Go.Vc
open Go.RowKit
section
variable {P:Program} {ops:Array Oper} {C:World->Prop}
end
section
variable {P:Program} {ops:Array Oper} {C:World->Prop}
end
section
variable {P:Program}
def sN (P:Program)(ops:List Oper)(R:Fr->World->Prop):(l:List Nat)->Fr->World->Ph (ops,R,l)->Prop
 | [],t,w,_=>R t w
 | k::r,t,w,_=>iG P ops (λ_=>True) ops[k]? (λt w=>sN P ops R r t w .mk) t w .mk
def Hg (P:Program)(ops:List Oper)(C:World->Prop)(R:Fr->World->Prop)(post:List Nat):(l:List Nat)->Fr->World->Ph (ops,C,R,post,l)->Prop
 | [],t,w,_=>sN P ops R post t w .mk
 | k::r,t,w,_=>iG P ops C ops[k]? (λt w=>Hg P ops C R post r t w .mk) t w .mk
variable {t:Fr} {w:World} {C:World->Prop} {R:Fr->World->Prop}
theorem KY (ops)(p):sN P ops R [] t w p=R t w:=(rfl)
theorem Hf (ops k r)(p):sN P ops R (k::r) t w p=iG P ops (λ_=>True) ops[k]? (λt w=>sN P ops R r t w .mk) t w .mk:=(rfl)
theorem PT (ops post)(p):Hg P ops C R post [] t w p=sN P ops R post t w .mk:=(rfl)
theorem K0 (ops post k r)(p):Hg P ops C R post (k::r) t w p=iG P ops C ops[k]? (λt w=>Hg P ops C R post r t w .mk) t w .mk:=(rfl)
end
attribute [push_cast] KY Hf PT K0
attribute [irreducible] sN Hg
end Go.Vc
end
section
namespace Go.Vc
open Go.RowKit
section
variable {P:Program} {w:World} {K:VK} {L:VP} {other:Prop}
theorem gW {α:Type}{base:Nat}{e:TypeId}{enc:α->List Value}{v:Value}{l:List α}{g i:Nat}{y:α}{u:Value}{p}(ho:Own base e 1 enc w v l)(hg:v.ownBlock=some g)(hi:i<l.length)(hu:enc y=[u])(h1:kA u=true)
  (kk:∀w',Own base e 1 enc w' v (l.set i y)->Kept (·=g) w w'->w'.heap.size=w.heap.size->K undef w'):sJ (some none) (.pointer (some ⟨g,i,none⟩)) u w K other p:=by
 obtain⟨⟨hlen,hr⟩,hk⟩:=ho;have sQ:∀l:List α,(l.flatMap enc).length=l.length:=λl=>by
  induction l with
  | nil=>rfl
  | cons x l ih=>simp[List.flatMap_cons,hk,ih];omega
 rcases hr with ⟨he,_⟩|⟨g',cap,cur,he,XT,Vw,Zv,qm,je,rp⟩
 ·subst he;cases hg
 subst he;have:g'=g:=by simpa[Value.ownBlock] using hg
 subst this;have hB:aO w g' e cur.toList:=Vw;have Ar:l.length<=cur.size:=by have:=congrArg List.length rp;rw[List.length_take,sQ,Array.length_toList]at this;omega
 refine aC hB (by rw[Array.length_toList];omega) h1 ?_;intro w' wI;refine kk w' ⟨⟨?_,.inr ⟨g',cap,(cur.toList.set i u).toArray,by simp,XT,wI.aN,by simpa using Zv,qm,by simpa using je,?_⟩⟩,hk⟩ wI.kept wI.size
 ·rw[sQ,List.length_set];omega
 have vj:(l.set i y).flatMap enc=(l.flatMap enc).set i u:=by
  clear hg hi kk rp Ar hlen Zv wI;induction l generalizing i with
  | nil=>simp
  | cons x l ih =>
   have hx:=hk x;match hex:enc x,hx with
   | [z],_ =>
    cases i with
    | zero=>simp[List.flatMap_cons,hu,hex]
    | succ i=>simp[List.flatMap_cons,hex];exact ih
 rw[vj,<-rp,List.length_set];simp only[List.length_take,List.length_set,Array.length_toList];rw[List.take_set]
end
end Go.Vc
end
section
namespace Go.Vc
open Go.RowKit
section
variable {P:Program} {ops:Array Oper} {C:World->Prop}
end
section
variable {P:Program}
end
end Go.Vc
end
section
namespace Go.Vc
open Go.RowKit
section
variable {P:Program} {w:World} {t:Fr} {K:VK} {Q:EP} {L:VP} {other:Prop}
theorem pU {α:Type}{k:Nat}{enc:α->List Value}(hk:∀x,(enc x).length=k):∀(l:List α),(l.flatMap enc).length=l.length*k
 | []=>by simp
 | y::ys=>by simp[List.flatMap_cons,hk,pU hk ys,Nat.add_mul];omega
theorem so {α:Type}{k:Nat}{enc:α->List Value}(hk:∀x,(enc x).length=k){f:Nat}(hf:f<k){u:Value}{x y:α}(hy:enc y=(enc x).set f u):∀(l:List α) (i:Nat),l[i]?=some x->(l.set i y).flatMap enc=(l.flatMap enc).set (i*k+f) u
 | [],i,h=>by simp at h
 | z::l,0,h=>by
  simp at h;subst h;simp only[List.set_cons_zero,List.flatMap_cons,Nat.zero_mul,Nat.zero_add];rw[hy,List.set_append_left _ _ (by rw[hk];exact hf)]
 | z::l,i+1,h=>by
  simp only[List.set_cons_succ,List.flatMap_cons];rw[so hk hf hy l i (by simpa using h),List.set_append_right _ _ (by rw[hk,Nat.add_mul];omega),hk];congr 2;rw[Nat.add_mul];omega
theorem Own.opened {α:Type}{base k g:Nat}{e:TypeId}{enc:α->List Value}{v:Value}{l:List α}(ho:Own base e k enc w v l)(hg:v.ownBlock=some g) :
  ∃cur,aO w g e cur/\l.length*k<=cur.length/\cur.take (l.length*k)=l.flatMap enc/\∀(w':World) (qk:List Value) (l':List α),aO w' g e qk->qk.length=cur.length->l'.length=l.length->qk.take (l.length*k)=l'.flatMap enc->Own base e k enc w' v l':=by
 obtain⟨⟨hlen,hr⟩,hk⟩:=ho;have sQ:=pU hk;rcases hr with ⟨he,_⟩|⟨g',cap,cur,he,XT,Vw,Zv,qm,je,rp⟩
 ·subst he;cases hg
 subst he;have:g'=g:=by simpa[Value.ownBlock] using hg
 subst this;refine⟨cur.toList,Vw,?_,by rw[<-sQ];simpa[sQ] using rp,λw' qk l' hB hl hl' ht=>?_⟩
 ·have:=congrArg List.length rp;rw[List.length_take,sQ]at this;omega
 exact⟨⟨by rw[sQ],.inr ⟨g',cap,qk.toArray,by rw[hl'],XT,hB,by rw[hl'];exact Zv,qm,by rw[<-je];simpa using hl,by rw[hl'];simpa using ht⟩⟩,hk⟩
theorem BU {α:Type}{base k:Nat}{e:TypeId}{enc:α->List Value}{v:Value}{l:List α}{g i f:Nat}{x y:α}{u:Value}{p}(ho:Own base e k enc w v l)(hg:v.ownBlock=some g)(hx:l[i]?=some x)(hf:f<k)(hu:enc y=(enc x).set f u)(h1:kA u=true)
  (kk:∀w',Own base e k enc w' v (l.set i y)->Kept (·=g) w w'->w'.heap.size=w.heap.size->K undef w'):sJ (some none) (.pointer (some ⟨g,i*k+f,none⟩)) u w K other p:=by
 obtain⟨cur,hB,hl,rp,sx⟩:=ho.opened hg;have hk:=ho.2;have hi:=(List.getElem?_eq_some_iff.1 hx).1;have Kw:i*k+f<l.length*k:=by
  have:(i+1)*k<=l.length*k:=Nat.mul_le_mul_right _ hi;rw[Nat.add_mul]at this;omega
 refine aC hB (by omega) h1 ?_;intro w' wI;refine kk w' (sx w' _ _ wI.aN (by simp) (by simp) ?_) wI.kept wI.size;rw[List.take_set,rp,so hk hf hu l i hx]
theorem Own.dH {α:Type}{base k:Nat}{e:TypeId}{enc:α->List Value}{v:Value}{l:List α}(h:Own base e k enc w v l):∀n c,v=.slice none n c->n=0/\c=0:=λn c hh=>by
 rcases h.1.2 with ⟨he,_⟩|⟨g,cap,cur,he,_⟩
 ·rw[he]at hh;cases hh;exact⟨rfl,rfl⟩
 rw[he]at hh;cases hh
end
end Go.Vc
end
section
namespace Go.Vc
open Go.RowKit
section
variable {P:Program} {t:Fr} {w:World} {K:VK} {Q:EP}
theorem jh {α:Type}{bt ty e:TypeId}{k bytes base:Nat}{enc:α->List Value}{X:Nat->Prop}{v x:Value}{l ys:List α}{p}(hE:zC P bt=some (e,k,bytes))(gU:Own base e k enc w v l)(hx:Sl X k (En enc) w x ys)
  (DD:∀n c,x=.slice none n c->n=0/\c=0) (h1:∀x,∀u∈enc x,u.oneCell'=true)
  (hm:(l.length+ys.length)*bytes<=140737488355328) (nV:base<=w.heap.size)
  (kk:∀v' w',Own base e k enc w' v' (l++ys)->w.grownBy w' v.ownBlock->Below base w w'->K v' w'):aq P (Builtin.append_ #[bt,bt] ty [v,x].toArray) t w K Q p:=by
 obtain⟨hu,i,z,hi,hz,rfl,rfl,JV,hk,cp⟩:=ll hE;have hlen:∀(ys:List α),(ys.flatMap enc).length=ys.length*i.size:=by
  intro ys;induction ys with
  | nil=>simp
  | cons y ys ih=>simp[List.flatMap_cons,gU.2,ih,Nat.add_mul];omega
 have hle:l.length+ys.length<=140737488355328:=Nat.le_trans (Nat.le_mul_of_pos_right _ cp) hm;unfold Sl at hx;obtain⟨a,c,rfl,hc,AF⟩:=hx;cases a with
 | none =>
  obtain⟨h0,rfl⟩:=DD _ _ rfl;have:ys=[]:=List.eq_nil_of_length_eq_zero h0;subst this;have hr:=run_append_owned_none (P:=P) w base bt ty e i i.size hu hi v l.length (l.flatMap enc) gU.1;refine dq (w':=w) (v:=v) hr (kk v w (by rw[List.append_nil];exact gU) ⟨rfl,rfl,rfl,Nat.le_refl _,λ_ _ _=>rfl⟩ (Below.refl _ _))
 | some ad =>
  have hy:∀j u,(ys.flatMap enc)[j]?=some u->w.cell? (ad.add j)=some u:=by
   intro j u hj;have Zs:=(List.getElem?_eq_some_iff.1 hj).1;rw[hlen]at Zs;have hq:j / i.size<ys.length:=Nat.div_lt_of_lt_mul (by rw[Nat.mul_comm];exact Zs);have NX:ys[j / i.size]?=some ys[j / i.size]:=List.getElem?_eq_getElem hq;obtain⟨b,o,cs,hb,_,je,aP,rfl⟩:=AF _ _ NX;cases hb;have hr:j % i.size<(enc ys[j / i.size]).length:=by rw[je];exact Nat.mod_lt _ hk
   have hg:=kI gU.2 ys (j / i.size) (j % i.size) _ _ NX (List.getElem?_eq_getElem hr);have ej:j / i.size*i.size+j % i.size=j:=by rw[Nat.mul_comm];exact Nat.div_add_mod j i.size
   rw[ej,hj]at hg
   have:=aP _ _ (List.getElem?_eq_getElem hr);rw[add_lit];rw[Nat.add_assoc,ej]at this;rw[this,hg]
  obtain⟨v',w',hr,ho,hg,_⟩:=run_append_own (P:=P) w base bt ty e i z i.size i.bytes hu hi hz rfl rfl JV hk v l.length (l.flatMap enc) gU.1 ad ys.length c (ys.flatMap enc) (hlen ys)
   hy (λu EK=>by obtain⟨x,_,hx⟩:=List.mem_flatMap.1 EK;exact h1 x u hx) (by simp only[maxLen];omega) hm nV
  refine dq hr (kk v' w' ⟨by simpa[List.flatMap_append] using ho,gU.2⟩ hg ?_);exact(Below.refl _ _).grown hg nV λk hk=>(gU.1.lt k hk).1
end
attribute [push_cast] decide_true ne_eq eq_self not_true_eq_false not_false_eq_true true_imp_iff false_imp_iff Bool.not_true Bool.not_false
end Go.Vc
end
end
