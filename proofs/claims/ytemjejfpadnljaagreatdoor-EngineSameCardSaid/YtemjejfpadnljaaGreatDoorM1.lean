/- Part. -/
import Derived.WalkKit
import Derived.Laws.BytesArg
import Derived.Laws.Externs
import Derived.Laws.MakeOwn
import Derived.Stop.Asserts
import Derived.Laws.OwnMore
set_option maxRecDepth 100000
set_option linter.unusedSimpArgs false
set_option linter.unusedVariables false
set_option maxHeartbeats 8000000
namespace Go.Vc
open Go.RowKit
inductive Ph {α:Type}(a:α):Type
 | mk
abbrev Fr:=List Value
abbrev EP:=Exit->Fr->World->Prop
abbrev VK:=Value->World->Prop
abbrev VP:=Value->Prop
def ev (t:Fr):Operand->Value
 | .tmp i=>t.getD i undef
 | .const v=>v
 | .global g=>.pointer (some ⟨g,0,none⟩)
 | .func f=>.func (.func f) #[] #[]
def put (t:Fr)(d:Option Tmp)(v:Value):Fr:=match d with|some d=>t.set d v|none=>t
def tR (P:Program)(t:Fr)(K:VK)(Q:EP):Result Next->Prop
 | .ok (.value v) w'=>K v w'
 | .ok .skip w'=>K undef w'
 | .ok (.enter f args) w'=>Calls P f args w' λe bQ=>match e with
   | .returned v=>K v bQ
   | .panicked c=>Q (.panic c) t bQ
   | .outgrown=>False
 | .halt (.panic v) w'=>Q (.panic [{ v,recovered:=false }]) t w'
 | _=>False
def runK (P:Program)(o:Oper)(t:Fr)(w:World)(K:VK)(Q:EP)(_:Ph (o,K,Q)):Prop:=tR P t K Q ((execOp (ev t) o).run P w)
def ae (P:Program)(f:FuncId)(args:List Value)(t:Fr)(w:World)(K:VK)(Q:EP)(_:Ph (K,Q)):Prop:=tR P t K Q ((callFunc f args.toArray).run P w)
def Fs (c a b:Value)(K:VP)(_:Ph K):Prop:=match c with|.bool x=>K (if x then a else b)|_=>False
def nt (c:Value)(x y:Prop)(_:Ph (x,y)):Prop:=match c with|.bool b=>(b=true->x)/\(b=false->y)|_=>False
def iq (s:Option Nat)(want:Bool)(t:Fr)(yes no:Fr->Prop)(_:Ph (yes,no)):Prop :=
 match s with
 | none=>no t
 | some s=>match t.getD s undef with
  | .bool b=>(b=want->yes (t.set s (.bool want)))/\(b=!want->no (t.set s (.bool !want)))
  | _=>no t
def kM (k:IntKind)(n:Int)(K:VP)(_:Ph K):Prop :=
 match k with
 | .i64=>(-9223372036854775808<=n/\n<=9223372036854775807)/\K (.int .i64 n)
 | k=>K (.int k (k.wrap n))
def cR (op:BinOp)(k:IntKind)(x y:Int):Int :=
 let a:=BitVec.ofInt k.bits x
 let b:=BitVec.ofInt k.bits y
 match op with
 | .and=>k.wrap (a &&& b).toNat
 | .or=>k.wrap (a ||| b).toNat
 | .xor=>k.wrap (a ^^^ b).toNat
 | _=>k.wrap (a &&& ~~~b).toNat
def qu (op:BinOp)(k:IntKind)(a b:Int)(K:VP)(_:Ph K):Prop :=
 match op with
 | .add=>kM k (a+b) K .mk
 | .sub=>kM k (a-b) K .mk
 | .mul=>kM k (a*b) K .mk
 | .quo=>b≠0/\K (.int k (k.wrap (a.tdiv b)))
 | .rem=>b≠0/\K (.int k (a.tmod b))
 | .and=>K (.int k (cR .and k a b))
 | .or=>K (.int k (cR .or k a b))
 | .xor=>K (.int k (cR .xor k a b))
 | .andNot=>K (.int k (cR .andNot k a b))
 | .eql=>K (.bool (a == b))
 | .neq=>K (.bool (a != b))
 | .lss=>K (.bool (decide (a<b)))
 | .leq=>K (.bool (decide (a<=b)))
 | .gtr=>K (.bool (decide (b<a)))
 | .geq=>K (.bool (decide (b<=a)))
 | _=>False
def Oq (op:BinOp)(k:IntKind)(x y:Int)(K:VP)(_:Ph K):Prop :=
 match op with
 | .shl=>0<=y/\K (.int k (k.wrap (x*2 ^ min y.toNat k.bits)))
 | .shr=>0<=y/\K (.int k (x.fdiv (2 ^ min y.toNat k.bits)))
 | _=>False
def str (l:List UInt8):Value:=.string ⟨l.toArray⟩
def dw (op:BinOp)(x y:Value)(K:VP)(other:Prop)(_:Ph (K,other)):Prop :=
 match op,x,y with
 | .shl,.int k a,.int _ b=>Oq .shl k a b K .mk
 | .shr,.int k a,.int _ b=>Oq .shr k a b K .mk
 | op,.int k a,.int k' b=>k=k'/\qu op k a b K .mk
 | .add,.string a,.string b=>((a.size:Int)+b.size<=9223372036854775807)/\K (.string (a++b))
 | .eql,.string a,.string b=>K (.bool (a.data.toList == b.data.toList))
 | .neq,.string a,.string b=>K (.bool (!(a.data.toList == b.data.toList)))
 | _,_,_=>other
def unK (op:UnOp)(x:Value)(K:VP)(other:Prop)(_:Ph (K,other)):Prop :=
 match op,x with
 | .neg,.int k n=>K (.int k (k.wrap (0-n)))
 | .not,.bool b=>K (.bool (!b))
 | _,_=>other
def pC (x:Value)(i:Nat)(K:VP)(_:Ph K):Prop:=match x with|.tuple vs=>(match vs.toList[i]? with|some v=>K v|none=>False)|_=>False
def OP (d:Option TypeDesc)(x:Value)(K:VP)(other:Prop)(_:Ph (K,other)):Prop :=
 match d,x with
 | some .string,.string s=>K (.int .i64 s.size)
 | some (.slice _),.slice _ n _=>K (.int .i64 n)
 | _,_=>other
def vT (d:Option TypeDesc)(x:Value)(K:VP)(other:Prop)(_:Ph (K,other)):Prop :=
 match d,x with
 | some (.int k),.int _ n=>K (.int k (k.wrap n))
 | some .string,.string s=>K (.string s)
 | _,_=>other
def yM (d:Option TypeDesc)(x i:Value)(K:VP)(other:Prop)(_:Ph (K,other)):Prop :=
 match d,x,i with
 | some .string,.string s,.int _ n=>(0<=n/\n<(s.data.toList.length:Int))/\K (.int .u8 (s.data.toList.getD n.toNat 0).toNat)
 | _,_,_=>other
def mmK (max:Bool)(xs:List Value)(K:VP)(other:Prop)(_:Ph (K,other)):Prop :=
 match xs with
 | [.int k a,.int _ b]=>K (.int k (if max then (if b>a then b else a) else (if b<a then b else a)))
 | _=>other
def aCi (P:Program)(f:Value)(args:List Value)(t:Fr)(w:World)(K:VK)(Q:EP)(other:Prop)(_:Ph (K,Q,other)):Prop :=
 match f with
 | .func (.func g) first cap=>ae P g (first.toList++args++cap.toList) t w K Q .mk
 | _=>other
def ak (P:Program)(s:Sem Value)(t:Fr)(w:World)(K:VK)(Q:EP)(_:Ph (K,Q)):Prop:=tR P t K Q ((do pure (Next.value (<-s)):Sem Next).run P w)
def aY (P:Program)(s:Sem Unit)(t:Fr)(w:World)(K:VK)(Q:EP)(_:Ph (K,Q)):Prop:=tR P t K Q ((do s;pure Next.skip:Sem Next).run P w)
def lC (P:Program)(ty:TypeId):Option (Option Nat):=match P.underlying ty,P.info? ty with
 | some (.struct _),some i=>some (some i.size)
 | some (.array ..),some i=>some (some i.size)
 | some _,some i=>if i.size=1 then some none else none
 | _,_=>none
def QF (P:Program):Nat->List Field->Bool
 | _,[]=>true
 | i,f::fs=>f.offset == i && f.name != "_" && (match P.underlying f.type with|some (.int _)=>true|_=>false) && lC P f.type == some none && QF P (i+1) fs
def KQ (P:Program)(ty:TypeId):Bool:=match P.underlying ty with
 | some (.struct fs)=>QF P 0 fs.toList && !P.eqGuardType P.depth ty && !P.stoodInHeld ty
 | _=>false
def dC (P:Program)(ty:TypeId):Nat:=match P.underlying ty with
 | some (.struct fs)=>if KQ P ty then fs.size+7 else 0
 | some (.interface _)=>1|some (.pointer _)=>2|some (.slice _)=>3|some (.map _ _)=>4|some (.func ..)=>5|some .bool=>6|_=>0
def isConst:Operand->Bool
 | .const _=>true
 | _=>false
def jZ:List Value->Nat->Bool
 | [],0=>true
 | _::l,n+1=>jZ l n
 | _,_=>false
def eE:List Value->List Value->Option Bool
 | [],[]=>some true
 | .int k a::xs,.int k' b::ys=>if k=k' then (eE xs ys).map (decide (a=b) && ·) else none
 | _,_=>none
def tY (kind:Nat)(QA:Bool)(x y:Value):Option Bool :=
 match kind,x,y with
 | 1,.nilIface,.nilIface=>if QA then some true else none
 | 1,.iface _ _,.nilIface=>some false
 | 1,.nilIface,.iface _ _=>some false
 | 2,.pointer none,.pointer none=>some true
 | 2,.pointer (some _),.pointer none=>some false
 | 2,.pointer none,.pointer (some _)=>some false
 | 3,.slice none _ _,.slice none _ _=>some true
 | 3,.slice (some _) _ _,.slice none _ _=>some false
 | 5,.nilFunc,.nilFunc=>some true
 | 5,.func ..,.nilFunc=>some false
 | 6,.bool a,.bool b=>some (a == b)
 | n+7,.agg xs,.agg ys=>(match jZ xs.toList n with|true=>eE xs.toList ys.toList|false=>none)
 | _,_,_=>none
def cX (kind:Nat)(QA:Bool)(op:BinOp)(x y:Value)(K:VP)(other:Prop)(_:Ph (K,other)):Prop :=
 match op,tY kind QA x y with
 | .eql,some b=>K (.bool b)
 | .neq,some b=>K (.bool !b)
 | _,_=>other
def bA (P:Program)(ty:TypeId)(f:Nat):Option (Nat×Option Nat):=match P.underlying ty with
 | some (.struct fs)=>match fs[f]? with
  | some fl=>match lC P fl.type with
   | some none=>some (fl.offset,none)
   | some (some n)=>if n=0 then none else some (fl.offset,some n)
   | none=>none
  | none=>none
 | _=>none
def gT (P:Program)(ty:TypeId):Option (TypeId×Nat):=match P.underlying ty with
 | some (.slice e)=>(P.info? e).map λi=>(e,i.size)
 | _=>none
def tF (P:Program)(ty:TypeId):Option (Nat×TypeId×Nat):=match P.underlying ty with
 | some (.array n e)=>(P.info? e).map λi=>(n,e,i.size)
 | _=>none
def aB (w:World)(a:Addr)(i:Nat):Nat->Option (List Value)
 | 0=>some []
 | n+1=>match w.cell? (a.add i),aB w a (i+1) n with
  | some v,some vs=>some (v::vs)
  | _,_=>none
def pP {α:Type}(x:Option α)(K:α->Prop)(_:Ph K):Prop:=match x with|some v=>K v|none=>False
def nQ (ty:Option (Option Nat))(a:Value)(w:World)(K:VK)(_:Ph K):Prop:=match ty,a with
 | some none,.pointer (some a)=>pP (w.cell? a) (K · w) .mk
 | some (some n),.pointer (some a)=>pP (aB w a 0 n) (λcs=>K (.agg cs.toArray) w) .mk
 | _,_=>False
def nG (f:Option (Nat×Option Nat))(a:Value)(K:VP)(_:Ph K):Prop:=match f,a with
 | some (off,_),.pointer (some a)=>K (.pointer (some (a.add off)))
 | _,_=>False
def Fq (f:Option (Nat×Option Nat))(x:Value)(K:VP)(_:Ph K):Prop:=match f,x with
 | some (off,none),.agg cs=>pP (cs.toList[off]?) K .mk
 | some (off,some n),.agg cs=>K (.agg ((cs.toList.drop off).take n).toArray)
 | _,_=>False
def jW (e:Option (TypeId×Nat))(arr:Option (Nat×TypeId×Nat))(x i:Value)(K:VP)(_:Ph K):Prop:=match e,arr,x,i with
 | some (_,size),_,.slice (some a) n _,.int _ i=>(0<=i/\i<n)/\K (.pointer (some (a.add (i.toNat*size))))
 | _,some (n,_,size),.pointer (some a),.int _ i=>(0<=i/\i<n)/\K (.pointer (some (a.add (i.toNat*size))))
 | _,_,_,_=>False
def iL (v:Option Value)(aOm:Nat):Option Int:=match v with
 | none=>some aOm
 | some (.int _ i)=>some i
 | _=>none
def gA (d:Option TypeDesc)(e:Option (TypeId×Nat))(x:Value)(lo hi mx:Option Value)(K:VP)(other:Prop)(_:Ph (K,other)):Prop :=
 match d,x,mx with
 | some .string,.string s,none=>match iL lo 0,iL hi s.data.toList.length with
  | some l,some h=>(0<=l/\l<=h/\h<=s.data.toList.length)/\K (str ((s.data.toList.take h.toNat).drop l.toNat))
  | _,_=>False
 | some (.slice _),.slice a len cap,none=>match e,iL lo 0,iL hi len with
  | some (_,size),some l,some h=>(0<=l/\l<=h/\h<=(cap:Int))/\K (.slice (if (cap:Int)=l then a else a.map (·.add (l.toNat*size))) (h.toNat-l.toNat) (cap-l.toNat))
  | _,_,_=>False
 | _,_,_=>other
def uX (kind:Nat)(ty:TypeId)(x:Value)(K:VP)(other:Prop)(_:Ph (K,other)):Prop:=match kind with
 | 1=>other
 | _=>K (.iface ty x)
def aF7 (e:TypeId)(v:Value)(w:World)(K:VK)(_:Ph K):Prop:=K (.pointer (some ⟨w.heap.size,0,none⟩)) (w.alloc (.cells v.cells e))
def lG:Value->Bool
 | .agg _|.tuple _=>false
 | _=>true
def uu (ty:Option (Option Nat))(a v:Value)(w:World)(K:VK)(other:Prop)(_:Ph (K,other)):Prop:=match ty,a with
 | some none,.pointer (some a)=>lG v=true/\(w.cell? a).isSome=true/\w.frozen? a=false/\K undef (w.setCell a v)
 | _,_=>other
def ee:List Value->Nat->List Value->List Value
 | l,0,[]=>l
 | x::l,n+1,cs=>x::ee l n cs
 | _::l,0,c::cs=>c::ee l 0 cs
 | [],_,_=>[]
def dU:Value->List Value
 | .agg cs=>cs.toList
 | v=>[v]
def nA (places:List (Nat×Nat))(cells:List Value):List (Nat×Value)->Option (List Value)
 | []=>some cells
 | (i,v)::rest=>match places[i]? with
  | some (off,size)=>(match jZ (dU v) size && decide (off+size<=cells.length) with
   | true=>nA places (ee cells off (dU v)) rest
   | false=>none)
  | none=>none
def lO (P:Program)(ty:TypeId):Option (List Value×List (Nat×Nat)):=match P.info? ty,P.underlying ty with
 | some i,some (.struct fs)=>match i.zero with
  | some z=>if fs.toList.all (λf=>(P.info? f.type).isSome) then some (dU z,fs.toList.map λf=>(f.offset,((P.info? f.type).map (·.size)).getD 0)) else none
  | none=>none
 | _,_=>none
def BO (d:Option (List Value×List (Nat×Nat)))(parts:List (Nat×Value))(K:VP)(_:Ph K):Prop:=match d with
 | some (z,places)=>pP (nA places z parts) (λcs=>K (.agg cs.toArray)) .mk
 | none=>False
def a7 (P:Program)(o:Oper)(t:Fr)(L:VP)(other:Prop)(_:Ph (o,L,other)):Prop :=
 match o.op with
 | .move x=>L (ev t x)
 | .assign x=>L (ev t x)
 | .pick c a b=>Fs (ev t c) (ev t a) (ev t b) L .mk
 | .binOp op ty x y _=>dw op (ev t x) (ev t y) L (cX (dC P ty) (isConst x || isConst y) op (ev t x) (ev t y) L other .mk) .mk
 | .unOp op _ x=>unK op (ev t x) L other .mk
 | .extract x i=>pC (ev t x) i L .mk
 | .convert s d x=>vT (if (P.underlying s).isSome then P.underlying d else none) (ev t x) L other .mk
 | .index xt x i=>yM (P.underlying xt) (ev t x) (ev t i) L other .mk
 | .makeFunc fn first cap=>L (.func fn (first.map (ev t)) (cap.map (ev t)))
 | .build ty parts=>BO (lO P ty) (parts.toList.map λ(i,x)=>(i,ev t x)) L .mk
 | .call { callee:=.builtin .len,args,argTypes }=>(match args.toList,argTypes.toList with
  | [x],[ty]=>OP (P.underlying ty) (ev t x) L other .mk
  | _,_=>other)
 | .call { callee:=.builtin .max,args,argTypes:=_ }=>mmK true (args.toList.map (ev t)) L other .mk
 | .call { callee:=.builtin .min,args,argTypes:=_ }=>mmK false (args.toList.map (ev t)) L other .mk
 | .fieldAddr ty x f=>nG (bA P ty f) (ev t x) L .mk
 | .field ty x f=>Fq (bA P ty f) (ev t x) L .mk
 | .indexAddr ty x i=>jW (gT P ty) (tF P ty) (ev t x) (ev t i) L .mk
 | .slice ty x lo hi mx=>gA (P.underlying ty) (gT P ty) (ev t x) (lo.map (ev t)) (hi.map (ev t)) (mx.map (ev t)) L other .mk
 | .makeInterface ty x=>uX (if (P.underlying ty).isSome then dC P ty else 1) ty (ev t x) L other .mk
 | _=>other
def cJ (P:Program)(o:Oper)(t:Fr)(w:World)(K:VK)(Q:EP)(_:Ph (o,K,Q)):Prop :=
 match o.op with
 | .call { callee:=.value f,args,argTypes:=_ }=>aCi P (ev t f) (args.toList.map (ev t)) t w K Q (runK P o t w K Q .mk) .mk
 | .load ty a=>nQ (lC P ty) (ev t a) w K .mk
 | .store ty a v=>uu (lC P ty) (ev t a) (ev t v) w K (aY P (Instr.storeAt ty (ev t a) (ev t v)) t w K Q .mk) .mk
 | .box e x=>aF7 e (ev t x) w K .mk
 | .alloc e=>ak P (Instr.alloc e true (.tuple #[])) t w K Q .mk
 | .convert s d x=>vT (if (P.underlying s).isSome then P.underlying d else none) (ev t x) (K · w) (ak P (convert s d (ev t x)) t w K Q .mk) .mk
 | .buildSlice ty n parts=>ak P (Instr.buildSlice ty n (parts.map λ(i,x)=>(i,ev t x))) t w K Q .mk
 | .makeSlice ty l c=>ak P (Instr.makeSlice ty (ev t l) (ev t c)) t w K Q .mk
 | .makeMap ty r=>ak P (Instr.makeMap ty (r.map (ev t))) t w K Q .mk
 | .lookup ty x i ok=>ak P (Instr.lookup ty (ev t x) (ev t i) ok) t w K Q .mk
 | .mapUpdate ty m k x=>aY P (Instr.mapUpdate ty (ev t m) (ev t k) (ev t x)) t w K Q .mk
 | .insert ty m k x=>aY P (Instr.mapUpdate ty (ev t m) (ev t k) (ev t x)) t w K Q .mk
 | .typeAssert x xt at_ ok=>ak P (Instr.typeAssert (ev t x) xt at_ ok) t w K Q .mk
 | .panic x=>ak P (Instr.panic (ev t x)) t w K Q .mk
 | .range ty x=>ak P (Instr.range ty (ev t x)) t w K Q .mk
 | .call { callee:=.builtin .append,args,argTypes }=>ak P (Builtin.append_ argTypes o.type (args.map (ev t))) t w K Q .mk
 | .call { callee:=.builtin .copy,args,argTypes }=>ak P (Builtin.copy_ argTypes o.type (args.map (ev t))) t w K Q .mk
 | _=>a7 P o t (K · w) (runK P o t w K Q .mk) .mk
def j0 (ops:List Oper)(j:Nat):Option Nat:=(ops[j]?).bind (·.dst)
def aV (P:Program)(ops:List Oper)(K:Fr->World->Prop)(Q:EP):(l:List Oper)->Fr->World->Ph (ops,K,Q,l)->Prop
 | [],t,w,_=>K t w
 | o::r,t,w,_=>match o.guard with
  | none=>cJ P o t w (λv w'=>aV P ops K Q r (put t o.dst v) w' .mk) Q .mk
  | some (j,want)=>iq (j0 ops j) want t (λt'=>cJ P o t' w (λv w'=>aV P ops K Q r (put t' o.dst v) w' .mk) Q .mk) (λt'=>aV P ops K Q r (put t' o.dst undef) w .mk) .mk
def lift (Q:EP):Exit->Act->World->Prop:=λe a w=>a.defers=[]/\Q e a.tmps.toList w
def dN (P:Program)(c:Code)(Q:EP)(t:Fr)(w:World)(_:Ph (c,Q)):Prop:=c.wp P (lift Q) ⟨t.toArray,[]⟩ w
def uj (N:Fr->World->Prop)(Q:EP)(_:Ph (N,Q)):EP
 | .normal,t,w=>N t w
 | e,t,w=>Q e t w
def kN (id:Nat)(Q:EP)(_:Ph Q):EP
 | .exit i,t,w=>if i=id then Q .normal t w else Q (.exit i) t w
 | e,t,w=>Q e t w
def vc (P:Program):(c:Code)->(Q:EP)->Fr->World->Ph (c,Q)->Prop
 | .skip,Q,t,w,_=>Q .normal t w
 | .region _ ops false,Q,t,w,_=>aV P ops.toList (Q .normal) Q ops.toList t w .mk
 | .region id ops true,Q,t,w,_=>dN P (.region id ops true) Q t w .mk
 | .seq a b,Q,t,w,_=>vc P a (uj (λt w=>vc P b Q t w .mk) Q .mk) t w .mk
 | .cond c a b,Q,t,w,_=>nt (ev t c) (vc P a Q t w .mk) (vc P b Q t w .mk) .mk
 | .block i c,Q,t,w,_=>vc P c (kN i Q .mk) t w .mk
 | .exit i,Q,t,w,_=>Q (.exit i) t w
 | .ret,Q,t,w,_=>Q .ret t w
 | .label _,Q,t,w,_=>Q .normal t w
 | .goto l,Q,t,w,_=>Q (.goto l) t w
 | c,Q,t,w,_=>dN P c Q t w .mk
section
variable {P:Program}
theorem ny (t:Fr)(ds:List Deferred):(Act.mk t.toArray ds).eval=ev t:=by
 funext x;cases x<;>simp[Act.eval,ev,Array.getD_eq_getD_getElem?,List.getD_eq_getElem?_getD]
theorem put_eq (t:Fr)(d:Option Tmp)(v:Value):(Act.mk t.toArray []).put d v=⟨(put t d v).toArray,[]⟩:=by
 cases d<;>simp[Act.put,put]
theorem U4 {o:Oper}{t:Fr}{K:Value->World->Prop}{Q:EP}{r:Result Next}{next:Act->World->Prop}
  (hn:∀v w',K v w'->next ⟨(put t o.dst v).toArray,[]⟩ w') (h:tR P t K Q r):o.upon P ⟨t.toArray,[]⟩ next (lift Q) r:=by
 cases r with
 | ok n w' =>
  cases n<;>simp only[tR]at h<;>simp only[Oper.upon]
  case value v=>rw[put_eq];exact hn _ _ h
  case skip=>rw[put_eq];exact hn _ _ h
  case enter f args =>
   refine h.mono λe bQ he=>?_;cases e with
   | returned v=>dsimp only at he ⊢;rw[put_eq];exact hn _ _ he
   | panicked c=>exact⟨rfl,by simpa using he⟩
   | outgrown=>exact he.elim
 | halt x w' =>
  cases x<;>simp only[tR]at h<;>simp only[Oper.upon];exact⟨rfl,by simpa using h⟩
theorem nU {o:Oper}{t:Fr}{w w':World}{K:Value->World->Prop}{Q:EP}{v:Value}(h:(execOp (ev t) o).run P w=.ok (.value v) w')(k:K v w'):runK P o t w K Q .mk:=by
 unfold runK;rw[h];exact k
theorem oT {op:BinOp}{ty:TypeId}{x y:Operand}{a b:Value}(ha:a≠.nilIface\/b≠.nilIface)(hb:∀c,a≠.agg c)(w:World):(eqGuard op ty x y a b).run P w=.ok () w:=by
 cases op<;>simp only[eqGuard]<;>first|rfl|(cases a<;>cases b<;>first|rfl|simp_all)
theorem uF {t:Fr}{o:Oper}{op:BinOp}{ty yt:TypeId}{x y:Operand}(ho:o.op=.binOp op ty x y yt){w:World}{v:Value}
  (hg:(eqGuard op ty x y (ev t x) (ev t y)).run P w=.ok () w) (h:(binOp op ty (ev t x) (ev t y)).run P w=.ok v w):(execOp (ev t) o).run P w=.ok (.value v) w:=by
 unfold execOp;simp only[ho,Sem.run_bind,hg,Result.andThen_ok,h,Sem.run_pure]
theorem JK {n:Int}(h : -9223372036854775808<=n/\n<=9223372036854775807):IntKind.i64.wrap n=n:=by
 rw[IntKind.wrap_i64];omega
theorem xe {k:IntKind}{n:Int}{K:Value->Prop}(h:kM k n K .mk):K (.int k (k.wrap n)):=by
 cases k<;>simp only[kM]at h<;>first|exact h|(rw[JK h.1];exact h.2)
theorem aDm {op:BinOp}{k:IntKind}{a b:Int}{K:Value->Prop}{ty:TypeId}(hs:op≠.shl/\op≠.shr)(h:qu op k a b K .mk) :
  ∃v,(∀w,(binOp op ty (.int k a) (.int k b)).run P w=.ok v w)/\K v:=by
 cases op<;>simp only[qu]at h<;>try exact h.elim
 case add=>exact⟨_,λw=>by simp[binOp,Op.intArith],xe h⟩
 case sub=>exact⟨_,λw=>by simp[binOp,Op.intArith],xe h⟩
 case mul=>exact⟨_,λw=>by simp[binOp,Op.intArith],xe h⟩
 case quo=>exact⟨_,λw=>by simp[binOp,Op.intDiv,h.1],h.2⟩
 case rem=>exact⟨_,λw=>by simp[binOp,Op.intDiv,h.1],h.2⟩
 case and=>exact⟨_,λw=>by cases k<;>rfl,h⟩
 case or=>exact⟨_,λw=>by cases k<;>rfl,h⟩
 case xor=>exact⟨_,λw=>by cases k<;>rfl,h⟩
 case andNot=>exact⟨_,λw=>by cases k<;>rfl,h⟩
 all_goals exact⟨_,λw=>by simp[binOp,Op.intCmp],h⟩
theorem GU {op:BinOp}{k k':IntKind}{a b:Int}{K:Value->Prop}{ty:TypeId}(hs:op=.shl\/op=.shr)(h:Oq op k a b K .mk) :
  ∃v,(∀w,(binOp op ty (.int k a) (.int k' b)).run P w=.ok v w)/\K v:=by
 rcases hs with rfl|rfl
 ·exact⟨_,λw=>by simp[binOp,Op.shift,show ¬b<0 by have:=h.1;omega],h.2⟩
 exact⟨_,λw=>by simp[binOp,Op.shift,show ¬b<0 by have:=h.1;omega],h.2⟩
theorem D7 (a b:ByteArray):(a.toList == b.toList)=(a.data.toList == b.data.toList):=by
 rw[ByteArray.toList_eq,ByteArray.toList_eq]
def Pk (P:Program)(o:Oper)(t:Fr)(v:Value):Prop:=∀w,(execOp (ev t) o).run P w=.ok (.value v) w
theorem aBG {o:Oper}{t:Fr}{L:VP}{op:BinOp}{ty yt:TypeId}{x y:Operand}{other:Prop}(ho:o.op=.binOp op ty x y yt)
  (h:dw op (ev t x) (ev t y) L other .mk):other\/∃v,Pk P o t v/\L v:=by
 have go:∀v,(∀c,ev t x≠.agg c)->ev t x≠.nilIface->(∀w,(binOp op ty (ev t x) (ev t y)).run P w=.ok v w)->L v->other\/∃v,Pk P o t v/\L v:=λv h1 h2 hr hk =>
  .inr ⟨v,λw=>uF ho (oT (.inl h2) h1 w) (hr w),hk⟩
 unfold dw at h;split at h
 ·rename_i a b hx hy;obtain⟨v,hr,hk⟩:=GU (P:=P) (ty:=ty) (.inl rfl) h;rw[hx,hy]at go;exact go v (by simp) (by simp) hr hk
 ·rename_i a b hx hy;obtain⟨v,hr,hk⟩:=GU (P:=P) (ty:=ty) (.inr rfl) h;rw[hx,hy]at go;exact go v (by simp) (by simp) hr hk
 ·rename_i k a k' b n1 n2 hx hy;obtain⟨rfl,h⟩:=h;obtain⟨v,hr,hk⟩:=aDm (P:=P) (ty:=ty) ⟨λe=>n1 e,λe=>n2 e⟩ h;rw[hx,hy]at go;exact go v (by simp) (by simp) hr hk
 ·rename_i a b hx hy;rw[hx,hy]at go;refine go _ (by simp) (by simp) (λw=>?_) h.2
  have:=h.1;simp[binOp,Op.stringOp,IntKind.max,IntKind.bits,IntKind.signed];omega
 ·rename_i a b hx hy;rw[hx,hy]at go;exact go _ (by simp) (by simp) (λw=>by simp only[binOp,Op.stringOp,D7];simp) h
 ·rename_i a b hx hy;rw[hx,hy]at go;exact go _ (by simp) (by simp) (λw=>by simp only[binOp,Op.stringOp,D7];simp) h
 exact .inl h
theorem aI9 {o:Oper}{t:Fr}{L:VP}{other:Prop}{op:UnOp}{ty:TypeId}{x:Operand}(ho:o.op=.unOp op ty x)
  (h:unK op (ev t x) L other .mk):other\/∃v,Pk P o t v/\L v:=by
 unfold unK at h;split at h
 ·rename_i k n hx;exact .inr ⟨_,λw=>by unfold execOp;simp[ho,hx,Op.unary,Op.intArith],h⟩
 ·rename_i b hx;exact .inr ⟨_,λw=>by unfold execOp;simp[ho,hx,Op.unary],h⟩
 exact .inl h
theorem Ju {op:BinOp}{ty:TypeId}{x y:Operand}(h:(isConst x || isConst y)=true)(w:World):(eqGuard op ty x y .nilIface .nilIface).run P w=.ok () w:=by
 cases op<;>first|rfl|(cases x<;>cases y<;>first|rfl|(simp[isConst]at h))
theorem oH:∀(l:List Value) (n:Nat),jZ l n=true->l.length=n
 | [],0,_=>rfl
 | [],n+1,h=>by simp[jZ]at h
 | _::l,0,h=>by simp[jZ]at h
 | _::l,n+1,h=>by simp[jZ]at h;simp[oH l n h]
theorem pw {kind:Nat}{QA:Bool}{x y:Value}{b:Bool}(h:tY kind QA x y=some b) :
  (kind=1/\(x=.nilIface/\y=.nilIface/\QA=true/\b=true\/(∃t v,x=.iface t v)/\y=.nilIface/\b=false\/x=.nilIface/\(∃t v,y=.iface t v)/\b=false)) \/
  (kind=2/\(x=.pointer none/\y=.pointer none/\b=true\/(∃a,x=.pointer (some a))/\y=.pointer none/\b=false\/x=.pointer none/\(∃a,y=.pointer (some a))/\b=false)) \/
  (kind=3/\(∃n c n' c' ,y=.slice none n' c'/\(x=.slice none n c/\b=true\/(∃a,x=.slice (some a) n c)/\b=false))) \/
  (kind=5/\(x=.nilFunc/\y=.nilFunc/\b=true\/(∃f g c,x=.func f g c)/\y=.nilFunc/\b=false)) \/
  (kind=6/\∃p q,x=.bool p/\y=.bool q/\b=(p == q)) \/
  (∃n xs ys,kind=n+7/\x=.agg xs/\y=.agg ys/\xs.toList.length=n/\eE xs.toList ys.toList=some b):=by
 unfold tY at h;split at h
 case h_12 =>
  split at h
  ·rename_i n xs ys hs;exact .inr (.inr (.inr (.inr (.inr ⟨_,_,_,rfl,rfl,rfl,oH _ _ hs,h⟩))))
  cases h
 all_goals simp_all
theorem rK {op:BinOp}{ty:TypeId}{x y:Operand}{t:Fr}{b:Bool}(h:tY (dC P ty) (isConst x || isConst y) (ev t x) (ev t y)=some b)(w:World) :
  (eqGuard op ty x y (ev t x) (ev t y)).run P w=.ok () w:=by
 rcases pw h with ⟨_,⟨h1,h2,h3,_⟩|⟨⟨_,_,h1⟩,h2,_⟩|⟨h1,⟨_,_,h2⟩,_⟩⟩|⟨_,⟨h1,h2,_⟩|⟨⟨_,h1⟩,h2,_⟩|⟨h1,⟨_,h2⟩,_⟩⟩|⟨_,_,_,_,_,h2,⟨h1,_⟩|⟨⟨_,h1⟩,_⟩⟩|⟨_,⟨h1,h2,_⟩|⟨⟨_,_,_,h1⟩,h2,_⟩⟩|⟨_,_,_,h1,h2,_⟩|⟨n,xs,ys,hk,h1,h2,_⟩
 case inl.inl=>rw[h1,h2];exact Ju h3 w
 case inr.inr.inr.inr.inr =>
  rw[h1,h2];have hf:KQ P ty=true:=by
   unfold dC at hk;split at hk<;>first|(exfalso;omega)|skip
   split at hk
   ·assumption
   omega
  unfold KQ at hf;split at hf
  ·simp only[Bool.and_eq_true,Bool.not_eq_true']at hf;cases op<;>first|rfl|simp[eqGuard,hf.1.2]
  cases hf
 all_goals (rw[h1,h2];exact oT (by simp) (by simp) w)
theorem EJ {ty:TypeId}{x y:Value}{kind:Nat}{QA b:Bool}(h:tY kind QA x y=some b):binOp .eql ty x y=(do pure (.bool (<-Op.equal ty x y))):=by
 rcases pw h with ⟨_,⟨rfl,rfl,h3,_⟩|⟨⟨_,_,rfl⟩,rfl,_⟩|⟨rfl,⟨_,_,rfl⟩,_⟩⟩|⟨_,⟨rfl,rfl,_⟩|⟨⟨_,rfl⟩,rfl,_⟩|⟨rfl,⟨_,rfl⟩,_⟩⟩|⟨_,_,_,_,_,rfl,⟨rfl,_⟩|⟨⟨_,rfl⟩,_⟩⟩|⟨_,⟨rfl,rfl,_⟩|⟨⟨_,_,_,rfl⟩,rfl,_⟩⟩|⟨_,_,_,rfl,rfl,_⟩|⟨_,_,_,_,rfl,rfl,_⟩<;>rfl
theorem EK {ty:TypeId}{x y:Value}{kind:Nat}{QA b:Bool}(h:tY kind QA x y=some b):binOp .neq ty x y=(do pure (.bool (!(<-Op.equal ty x y)))):=by
 rcases pw h with ⟨_,⟨rfl,rfl,h3,_⟩|⟨⟨_,_,rfl⟩,rfl,_⟩|⟨rfl,⟨_,_,rfl⟩,_⟩⟩|⟨_,⟨rfl,rfl,_⟩|⟨⟨_,rfl⟩,rfl,_⟩|⟨rfl,⟨_,rfl⟩,_⟩⟩|⟨_,_,_,_,_,rfl,⟨rfl,_⟩|⟨⟨_,rfl⟩,_⟩⟩|⟨_,⟨rfl,rfl,_⟩|⟨⟨_,_,_,rfl⟩,rfl,_⟩⟩|⟨_,_,_,rfl,rfl,_⟩|⟨_,_,_,_,rfl,rfl,_⟩<;>rfl
theorem oJ {ty:TypeId}(h:lC P ty=some none)(w:World):(isAgg ty).run P w=.ok false w/\(sizeOf ty).run P w=.ok 1 w:=by
 unfold lC at h;split at h<;>try (cases h)
 rename_i d i h1 h2 hd hi;split at h
 ·rename_i hs;refine⟨?_,by simp[sizeOf,typeInfo,hi,hs]⟩;simp only[isAgg,Sem.run_bind,run_underlying hd,Result.andThen_ok];cases d<;>first|rfl|simp_all
 cases h
theorem jP {ty:TypeId}{n:Nat}(h:lC P ty=some (some n))(w:World):(isAgg ty).run P w=.ok true w/\(sizeOf ty).run P w=.ok n w:=by
 unfold lC at h;split at h<;>try (cases h)
 ·rename_i hd hi;exact⟨by simp[isAgg,run_underlying hd],by simp[sizeOf,typeInfo,hi]⟩
 ·rename_i hd hi;exact⟨by simp[isAgg,run_underlying hd],by simp[sizeOf,typeInfo,hi]⟩
 split at h<;>cases h
theorem DB {ty:TypeId}(h:lC P ty=some none){cs:Array Value}{off:Nat}{v:Value}(hv:cs.toList[off]?=some v)(w:World):(part ty cs off).run P w=.ok v w:=by
 have Q5:cs[off]?=some v:=by simpa using hv
 simp[part,(oJ h w).1,Q5]
theorem UZ {ty:TypeId}{n:Nat}(h:lC P ty=some (some n)){cs:Array Value}{off:Nat}(w:World):(part ty cs off).run P w=.ok (.agg ((cs.toList.drop off).take n).toArray) w:=by
 simp only[part,Sem.run_bind,(jP h w).1,(jP h w).2,Result.andThen_ok,if_true,Sem.run_pure];congr 2;apply Array.ext';simp[List.take_drop,Nat.add_comm]
theorem Jw {ty:TypeId}:(dC P ty=1->∃ms,P.underlying ty=some (.interface ms))/\(dC P ty=2->∃e,P.underlying ty=some (.pointer e))/\(dC P ty=3->∃e,P.underlying ty=some (.slice e)) /\
  (dC P ty=5->∃a b c,P.underlying ty=some (.func a b c))/\(dC P ty=6->P.underlying ty=some .bool)/\(∀n,dC P ty=n+7->KQ P ty=true/\∃fs,P.underlying ty=some (.struct fs)/\fs.size=n):=by
 unfold dC;split<;>simp_all;split<;>simp_all
theorem oz {xs ys:List Value}{b:Bool}(h:eE xs ys=some b):(xs=[]/\ys=[]/\b=true)\/∃k a c xs' ys' b',xs=.int k a::xs'/\ys=.int k c::ys'/\eE xs' ys'=some b'/\b=(decide (a=c) && b'):=by
 unfold eE at h;split at h
 ·cases h;exact .inl ⟨rfl,rfl,rfl⟩
 ·split at h
  ·rename_i e;subst e;obtain⟨b',h1,h2⟩:=Option.map_eq_some_iff.1 h;exact .inr ⟨_,_,_,_,_,b',rfl,rfl,h1,h2.symm⟩
  cases h
 cases h
theorem tX (d:Nat)(w:World):∀(fs:List Field) (xs ys px py:List Value) (b:Bool),QF P px.length fs=true->px.length=py.length->fs.length=xs.length->eE xs ys=some b ->
  (Op.eqFields (d+1) (px++xs).toArray (py++ys).toArray fs).run P w=.ok b w
 | [],xs,ys,px,py,b,_,_,hl,h=>by
  have:xs=[]:=List.eq_nil_of_length_eq_zero hl.symm;subst this;rcases oz h with ⟨_,_,rfl⟩|⟨_,_,_,_,_,_,h1,_⟩
  ·simp[Op.eqFields]
  cases h1
 | f::fs,xs,ys,px,py,b,hf,hp,hl,h=>by
  rcases oz h with ⟨rfl,_,_⟩|⟨k,a,c,xs,ys,b',rfl,rfl,h1,rfl⟩
  ·simp at hl
  simp only[QF,Bool.and_eq_true,beq_iff_eq,bne_iff_ne]at hf;obtain⟨⟨⟨⟨ho,hn⟩,hu⟩,ht⟩,hr⟩:=hf;have JV:∃k,P.underlying f.type=some (.int k):=by
   split at hu
   ·exact⟨_,by assumption⟩
   cases hu
  obtain⟨k',JV⟩:=JV;have e1:(part f.type (px++.int k a::xs).toArray f.offset).run P w=.ok (.int k a) w:=DB ht (by rw[ho];simp) w;have e2:(part f.type (py++.int k c::ys).toArray f.offset).run P w=.ok (.int k c) w:=DB ht (by rw[ho,hp];simp) w;have e3:(Op.equalIn (d+1) f.type (.int k a) (.int k c)).run P w=.ok (a == c) w:=by
   simp[Op.equalIn,run_underlying JV]
  have ih:=tX d w fs xs ys (px++[.int k a]) (py++[.int k c]) b' (by simpa using hr) (by simp[hp]) (by simpa using hl) h1;simp only[List.append_assoc,List.cons_append,List.nil_append]at ih;simp only[Op.eqFields,hn,ne_eq,not_false_eq_true,if_true,Sem.run_bind,e1,e2,e3,Result.andThen_ok];by_cases hac:a=c
  ·subst hac;simp[ih]
  simp[hac]
theorem AH (d:Nat){ty:TypeId}{x y:Value}{QA b:Bool}{w:World}(h:tY (dC P ty) QA x y=some b):(Op.equalIn (d+2) ty x y).run P w=.ok b w:=by
 obtain⟨k1,k2,k3,k5,k6,k7⟩:=Jw (P:=P) (ty:=ty);rcases pw h with ⟨hk,hh⟩|⟨hk,hh⟩|⟨hk,hh⟩|⟨hk,hh⟩|⟨hk,hh⟩|⟨n,xs,ys,hk,rfl,rfl,hn,hh⟩
 ·obtain⟨ms,hu⟩:=k1 hk;simp only[Op.equalIn,Sem.run_bind,run_underlying hu,Result.andThen_ok];rcases hh with ⟨rfl,rfl,_,rfl⟩|⟨⟨_,_,rfl⟩,rfl,rfl⟩|⟨rfl,⟨_,_,rfl⟩,rfl⟩<;>rfl
 ·obtain⟨ms,hu⟩:=k2 hk;simp only[Op.equalIn,Sem.run_bind,run_underlying hu,Result.andThen_ok];rcases hh with ⟨rfl,rfl,rfl⟩|⟨⟨_,rfl⟩,rfl,rfl⟩|⟨rfl,⟨_,rfl⟩,rfl⟩<;>rfl
 ·obtain⟨ms,hu⟩:=k3 hk;simp only[Op.equalIn,Sem.run_bind,run_underlying hu,Result.andThen_ok];rcases hh with ⟨_,_,_,_,rfl,⟨rfl,rfl⟩|⟨⟨_,rfl⟩,rfl⟩⟩<;>rfl
 ·obtain⟨_,_,_,hu⟩:=k5 hk;simp only[Op.equalIn,Sem.run_bind,run_underlying hu,Result.andThen_ok];rcases hh with ⟨rfl,rfl,rfl⟩|⟨⟨_,_,_,rfl⟩,rfl,rfl⟩<;>rfl
 ·have hu:=k6 hk;simp only[Op.equalIn,Sem.run_bind,run_underlying hu,Result.andThen_ok];obtain⟨_,_,rfl,rfl,rfl⟩:=hh;rfl
 obtain⟨hf,fs,hu,hs⟩:=k7 n hk;unfold KQ at hf;rw[hu]at hf;simp only[Bool.and_eq_true,Bool.not_eq_true']at hf;have hfs:P.fieldsOf ty=fs:=by simp[Program.fieldsOf,hu]
 rw[run_equalIn_struct w (d+1) ty xs ys (by rw[hfs];exact hu) hf.2,hfs]
 have:=tX (P:=P) d w fs.toList xs.toList ys.toList [] [] b hf.1.1 rfl (by rw[hn];simpa using hs) hh;simpa using this
theorem vX {ty:TypeId}{x y:Value}{QA b:Bool}{w:World}(h:tY (dC P ty) QA x y=some b):(Op.equal ty x y).run P w=.ok b w:=AH 9998 h
theorem run_loadCellsFrom (w:World)(a:Addr):∀(n i:Nat) (acc:Array Value) (cs:List Value),aB w a i n=some cs->(loadCellsFrom a i n acc).run P w=.ok (acc++cs.toArray) w
 | 0,i,acc,cs,h=>by
  simp only[aB,Option.some.injEq]at h;subst h;simp[loadCellsFrom]
 | n+1,i,acc,cs,h=>by
  unfold aB at h;split at h
  ·rename_i v vs h1 h2;cases h;simp only[loadCellsFrom,load,Sem.run_bind,Sem.run,h1,Result.andThen_ok,run_loadCellsFrom w a n (i+1) _ vs h2];simp
  cases h
theorem rM {ty:TypeId}{f off:Nat}{n:Option Nat}(h:bA P ty f=some (off,n)):∃fs fl,P.underlying ty=some (.struct fs)/\fs[f]?=some fl/\fl.offset=off/\lC P fl.type=some n/\n≠some 0:=by
 unfold bA at h;split at h
 ·rename_i fs hfs;split at h
  ·rename_i fl tL;refine⟨fs,fl,hfs,tL,?_⟩;split at h
   ·rename_i ht;cases h;exact⟨rfl,ht,by simp⟩
   ·rename_i m ht;split at h
    ·cases h
    cases h;exact⟨rfl,ht,by simp_all⟩
   cases h
  cases h
 cases h
theorem Be {ty e:TypeId}{n:Nat}(h:gT P ty=some (e,n)):P.underlying ty=some (.slice e)/\∃i,P.info? e=some i/\i.size=n:=by
 unfold gT at h;split at h
 ·rename_i e' hu;cases hi:P.info? e' with
  | none=>simp[hi]at h
  | some i=>simp[hi]at h;obtain⟨rfl,rfl⟩:=h;exact⟨hu,i,hi,rfl⟩
 cases h
theorem Rp {ty e:TypeId}{m n:Nat}(h:tF P ty=some (m,e,n)):P.underlying ty=some (.array m e)/\∃i,P.info? e=some i/\i.size=n:=by
 unfold tF at h;split at h
 ·rename_i m' e' hu;cases hi:P.info? e' with
  | none=>simp[hi]at h
  | some i=>simp[hi]at h;obtain⟨rfl,rfl,rfl⟩:=h;exact⟨hu,i,hi,rfl⟩
 cases h
theorem gQ {o:Oper}{t:Fr}{w:World}{K:VK}{Q:EP}{s:Sem Value}(ho:execOp (ev t) o=(do pure (.value (<-s))))(h:ak P s t w K Q .mk):runK P o t w K Q .mk:=by
 unfold runK;rw[ho];exact h
theorem yR {o:Oper}{t:Fr}{w:World}{K:VK}{Q:EP}{s:Sem Unit}(ho:execOp (ev t) o=(do s;pure .skip))(h:aY P s t w K Q .mk):runK P o t w K Q .mk:=by
 unfold runK;rw[ho];exact h
theorem fN {s:Sem Value}{t:Fr}{w w':World}{K:VK}{Q:EP}{v:Value}(h:s.run P w=.ok v w')(k:K v w'):ak P s t w K Q .mk:=by
 unfold ak;simp only[Sem.run_bind,h,Result.andThen_ok,Sem.run_pure];exact k
theorem Da {s:Sem Unit}{t:Fr}{w w':World}{K:VK}{Q:EP}(h:s.run P w=.ok () w')(k:K undef w'):aY P s t w K Q .mk:=by
 unfold aY;simp only[Sem.run_bind,h,Result.andThen_ok,Sem.run_pure];exact k
theorem j9 {α:Type}{x:Option α}{K:α->Prop}(h:pP x K .mk):∃v,x=some v/\K v:=by
 unfold pP at h;split at h
 ·exact⟨_,rfl,h⟩
 exact h.elim
theorem Jn (s:ByteArray):s.data.toList.length=s.size:=by rw[Array.length_toList];rfl
theorem run_sliceBound {i:Int}{k:IntKind}{y:Nat}{code:BoundsCode}(h:0<=i/\i<=y)(w:World):(Instr.sliceBound (.int k i) y code).run P w=.ok i.toNat w:=by
 simp[Instr.sliceBound,asIntOf,h]
theorem qg {isS:Bool}{len cap:Nat}{lo hi:Option Value}{l h:Int}(hl:iL lo 0=some l)(hh:iL hi len=some h)(b:0<=l/\l<=h/\h<=cap)(w:World) :
  (Instr.sliceBounds isS len cap lo hi none).run P w=.ok (l.toNat,h.toNat,cap) w:=by
 have low:∀(v:Option Value),iL v 0=some l->(match v with|some v=>Instr.sliceBound v h.toNat .sliceB|none=>pure 0).run P w=.ok l.toNat w:=by
  intro v hv;cases v with
  | none=>simp[iL]at hv;subst hv;rfl
  | some v =>
   cases v<;>simp[iL]at hv;subst hv;exact run_sliceBound (by omega) w
 cases hi with
 | none =>
  simp[iL]at hh;subst hh;cases lo with
  | none=>simp[iL]at hl;subst hl;simp[Instr.sliceBounds]
  | some v =>
   cases v<;>simp[iL]at hl;subst hl;simp[Instr.sliceBounds,run_sliceBound (P:=P) (show 0<=_/\_<=_ from ⟨b.1,b.2.1⟩) w]
 | some v =>
  cases v<;>simp[iL]at hh;subst hh;rename_i k i;have e1:∀c,(Instr.sliceBound (.int k i) cap c).run P w=.ok i.toNat w:=λc=>run_sliceBound (by omega) w;have e2:((i.toNat:Nat):Int)=i:=by omega
  cases lo with
  | none=>simp[iL]at hl;subst hl;simp[Instr.sliceBounds,e1]
  | some v =>
   cases v<;>simp[iL]at hl;subst hl;simp[Instr.sliceBounds,e1,run_sliceBound (P:=P) (show 0<=_/\_<=((i.toNat:Nat):Int) from ⟨b.1,by omega⟩) w]
theorem zk:∀(l:List Value) (n:Nat) (c:Value) (cs:List Value),ee (l.set n c) (n+1) cs=ee l n (c::cs)
 | [],n,c,cs=>by cases n<;>simp[ee]
 | x::l,0,c,cs=>by simp[ee]
 | x::l,n+1,c,cs=>by simp[ee,zk l n c cs]
theorem sI:∀(cs:List Value) (off k:Nat) (l:List Value),(cs.zipIdx k).foldl (λa (p:Value×Nat)=>a.set (off+p.2) p.1) l=ee l (off+k) cs
 | [],off,k,l=>by
  have:∀(l:List Value) (n:Nat),ee l n []=l:=by
   intro l;induction l with
   | nil=>intro n;cases n<;>simp[ee]
   | cons x l ih=>intro n;cases n<;>simp[ee,ih]
  simp[this]
 | c::cs,off,k,l=>by
  simp only[List.zipIdx_cons,List.foldl_cons];rw[sI cs off (k+1),<-Nat.add_assoc,zk]
theorem kQ (v:Value):v.cells.toList=dU v:=by cases v<;>rfl
theorem fill_eq (places:List (Nat×Nat)):∀(parts:List (Nat×Value)) (cells:List Value) (cs:List Value),nA places cells parts=some cs ->
  Instr.fill (λi=>places[i]?) cells.toArray parts=some cs.toArray
 | [],cells,cs,h=>by simp[nA]at h;simp[Instr.fill,h]
 | (i,v)::rest,cells,cs,h=>by
  simp only[nA]at h;simp only[Instr.fill];split at h
  ·rename_i off size hp;simp only[hp];split at h
   ·rename_i hc;simp only[Bool.and_eq_true,decide_eq_true_eq]at hc;have h1:=oH _ _ hc.1;have h2:v.cells.size=size:=by rw[<-h1,<-kQ,Array.length_toList]
    rw[if_neg (by simp[h2];omega)];rw[<-fill_eq places rest _ cs h];congr 1;apply Array.ext';have h3:=sI (dU v) off 0 cells;rw[Nat.add_zero]at h3;rw[<-h3,<-kQ];rw[<-Array.foldl_toList];have:∀(ps:List (Value×Nat)) (a:Array Value),(ps.foldl (λcs p=>cs.setIfInBounds (off+p.2) p.1) a).toList=ps.foldl (λa p=>a.set (off+p.2) p.1) a.toList:=by
     intro ps;induction ps with
     | nil=>intro a;rfl
     | cons p ps ih=>intro a;simp only[List.foldl_cons,ih,Array.toList_setIfInBounds]
    rw[this];simp[Array.toList_zipIdx]
   cases h
  cases h
theorem run_build {ty:TypeId}{z:List Value}{places:List (Nat×Nat)}{parts:List (Nat×Value)}{cs:List Value}(hb:lO P ty=some (z,places))(h:nA places z parts=some cs)(w:World) :
  (Instr.build ty parts.toArray).run P w=.ok (.agg cs.toArray) w:=by
 unfold lO at hb;split at hb
 ·rename_i i fs hi hu;split at hb
  ·rename_i zv hz;split at hb
   ·rename_i cg;simp only[Option.some.injEq,Prod.mk.injEq]at hb;obtain⟨rfl,rfl⟩:=hb;have hm:∀(l:List Field),l.all (λf=>(P.info? f.type).isSome)=true->(l.mapM (m:=Sem) λf=>do pure (f.offset,<-sizeOf f.type)).run P w=.ok (l.map λf=>(f.offset,((P.info? f.type).map (·.size)).getD 0)) w:=by
     intro l;induction l with
     | nil=>intro _;rfl
     | cons f l ih =>
      intro hl;simp only[List.all_cons,Bool.and_eq_true]at hl;obtain⟨j,hj⟩:=Option.isSome_iff_exists.1 hl.1;have hs:(sizeOf f.type).run P w=.ok j.size w:=by simp[sizeOf,typeInfo,hj]
      simp only[List.mapM_cons,Sem.run_bind,hs,Result.andThen_ok,Sem.run_pure,ih hl.2,List.map_cons,hj,Option.map_some,Option.getD_some]
    have QY:(fs.mapM (m:=Sem) λf=>do pure (f.offset,<-sizeOf f.type)).run P w=.ok (fs.toList.map λf=>(f.offset,((P.info? f.type).map (·.size)).getD 0)).toArray w:=by
     have e:fs=fs.toList.toArray:=by simp
     rw[e,List.mapM_toArray,map_eq_pure_bind];simp only[Sem.run_bind,hm fs.toList cg,Result.andThen_ok,Sem.run_pure]
    have hf:=fill_eq _ parts _ cs h;unfold Instr.build;have hz':(zeroValue ty).run P w=.ok zv w:=by simp[zeroValue,typeInfo,hi,hz]
    simp only[Sem.run_bind,hz',Result.andThen_ok,run_underlying hu];simp only[QY,Result.andThen_ok];have e1:zv.cells=(dU zv).toArray:=by rw[<-kQ]
    rw[e1];have e2:(λi:Nat=>(fs.toList.map λf=>(f.offset,((P.info? f.type).map (·.size)).getD 0)).toArray[i]?)=(λi:Nat=>(fs.toList.map λf=>(f.offset,((P.info? f.type).map (·.size)).getD 0))[i]?):=by funext i;simp
    rw[e2,hf];rfl
   cases hb
  cases hb
 cases hb
theorem sA {o:Oper}{t:Fr}{L:VP}{other:Prop}(h:a7 P o t L other .mk):other\/∃v,Pk P o t v/\L v:=by
 unfold a7 at h;split at h
 ·rename_i x ho;exact .inr ⟨_,λw=>by unfold execOp;simp only[ho];rfl,h⟩
 ·rename_i x ho;exact .inr ⟨_,λw=>by unfold execOp;simp only[ho];rfl,h⟩
 ·rename_i c a b ho;unfold Fs at h;split at h
  ·rename_i x hx;exact .inr ⟨_,λw=>by unfold execOp;simp only[ho,hx];simp[asBool],h⟩
  exact h.elim
 ·rename_i op ty x y yt ho;have h':=aBG (P:=P) ho h;clear h;rcases h' with h|h
  ·unfold cX at h;split at h
   ·rename_i b hb;exact .inr ⟨_,λw=>uF ho (rK hb w) (by rw[EJ hb];simp[vX hb]),h⟩
   ·rename_i b hb;exact .inr ⟨_,λw=>uF ho (rK hb w) (by rw[EK hb];simp[vX hb]),h⟩
   exact .inl h
  exact .inr h
 ·rename_i op ty x ho;exact aI9 ho h
 ·rename_i x i ho;unfold pC at h;split at h
  ·rename_i vs hx;split at h
   ·rename_i v hv;refine .inr ⟨_,λw=>?_,h⟩;have Q5:vs[i]?=some v:=by simpa using hv
    unfold execOp;simp[ho,hx,Instr.extract,Q5]
   exact h.elim
  exact h.elim
 ·rename_i s d x ho;unfold vT at h;split at h
  ·rename_i k k' n hd hx;refine .inr ⟨_,λw=>?_,h⟩;split at hd
   ·rename_i hs;obtain⟨s',TV⟩:=Option.isSome_iff_exists.1 hs;unfold execOp;simp[ho,hx,convert,run_underlying hd,run_underlying TV,Conv.intToInt]
   cases hd
  ·rename_i k hd hx;refine .inr ⟨_,λw=>?_,h⟩;split at hd
   ·rename_i hs;obtain⟨s',TV⟩:=Option.isSome_iff_exists.1 hs;unfold execOp;simp[ho,hx,convert,run_underlying hd,run_underlying TV]
   cases hd
  exact .inl h
 ·rename_i ty x i ho;unfold yM at h;split at h
  ·rename_i s k n hd hx hi;obtain⟨⟨h0,h1⟩,h⟩:=h;refine .inr ⟨_,λw=>?_,h⟩;have aq:n.toNat<s.size:=by
    have e:s.data.toList.length=s.size:=by rw[Array.length_toList];rfl
    rw[e]at h1;omega
   have e1:s[n.toNat]?=some (s.data.toList.getD n.toNat 0):=by
    rw[getElem?_pos s n.toNat aq];simp[List.getD_eq_getElem?_getD,ByteArray.getElem_eq_getElem_data,aq]
   unfold execOp;simp only[ho,hx,hi,Instr.index,asIntOf,Sem.run_bind,Sem.run_pure,Result.andThen_ok,run_underlying hd,h0,if_true,e1]
  exact .inl h
 ·rename_i fn first cap ho;exact .inr ⟨_,λw=>by unfold execOp;simp only[ho,Instr.makeFunc];rfl,h⟩
 ·rename_i ty parts ho;unfold BO at h;split at h
  ·rename_i z places hb;obtain⟨cs,hc,hk⟩:=j9 h;refine .inr ⟨_,λw=>?_,hk⟩;have hr:=run_build (P:=P) hb hc w;have e:(parts.toList.map λ(p:Nat×Operand)=>(p.1,ev t p.2)).toArray=parts.map λ(p:Nat×Operand)=>(p.1,ev t p.2):=by apply Array.ext';simp
   unfold execOp;simp only[ho];rw[show (Array.map (λ(x:Nat×Operand)=>match x with|(i,x)=>(i,ev t x)) parts)=(parts.toList.map λ(p:Nat×Operand)=>(p.1,ev t p.2)).toArray from e.symm]
   simp only[Sem.run_bind];rw[show (List.map (λ(x:Nat×Operand)=>match x with|(i,x)=>(i,ev t x)) parts.toList)=(parts.toList.map λ(p:Nat×Operand)=>(p.1,ev t p.2)) from rfl]at hr
   rw[hr];rfl
  exact h.elim
 ·rename_i args nf ho;split at h
  ·rename_i x ty ha ht;have YG:args=#[x]:=by rw[<-Array.toArray_toList (xs:=args),ha]
   have ht':nf=#[ty]:=by rw[<-Array.toArray_toList (xs:=nf),ht]
   unfold OP at h;split at h
   ·rename_i s hd hx;exact .inr ⟨_,λw=>by unfold execOp;simp[ho,YG,ht',resolve,invoke,builtin,Builtin.len_,hx,run_underlying hd,goInt],h⟩
   ·rename_i e a n c hd hx;exact .inr ⟨_,λw=>by unfold execOp;simp[ho,YG,ht',resolve,invoke,builtin,Builtin.len_,hx,run_underlying hd,goInt],h⟩
   exact .inl h
  exact .inl h
 ·rename_i args nf ho;unfold mmK at h;split at h
  ·rename_i k a k' b ha;have YG:(args.map (ev t))=#[.int k a,.int k' b]:=by rw[<-Array.toArray_toList (xs:=args.map (ev t)),Array.toList_map,ha]
   exact .inr ⟨_,λw=>by unfold execOp;simp only[ho,resolve,YG];simp[invoke,builtin,Builtin.max_,Builtin.max2],h⟩
  exact .inl h
 ·rename_i args nf ho;unfold mmK at h;split at h
  ·rename_i k a k' b ha;have YG:(args.map (ev t))=#[.int k a,.int k' b]:=by rw[<-Array.toArray_toList (xs:=args.map (ev t)),Array.toList_map,ha]
   exact .inr ⟨_,λw=>by unfold execOp;simp only[ho,resolve,YG];simp[invoke,builtin,Builtin.min_,Builtin.min2],h⟩
  exact .inl h
 ·rename_i ty x f ho;unfold nG at h;split at h
  ·rename_i off n a hf hx;obtain⟨fs,fl,hu,tL,rfl,ht,hn⟩:=rM hf;refine .inr ⟨_,λw=>?_,h⟩;have hs:∀w:World,∃m,(sizeOf fl.type).run P w=.ok m w/\m≠0:=λw=>by
    cases n with
    | none=>exact⟨1,(oJ ht w).2,by simp⟩
    | some m=>exact⟨m,(jP ht w).2,λe=>hn (by rw[e])⟩
   obtain⟨m,hm,hm0⟩:=hs w;unfold execOp;simp[ho,hx,Instr.fieldAt,run_underlying hu,tL,Instr.sureAddr,fieldPlace,hm,hm0]
  exact h.elim
 ·rename_i ty x f ho;unfold Fq at h;split at h
  ·rename_i off cs hf hx;obtain⟨fs,fl,hu,tL,rfl,ht,hn⟩:=rM hf;obtain⟨v,hc,hk⟩:=j9 h;refine .inr ⟨_,λw=>?_,hk⟩;unfold execOp;simp[ho,hx,Instr.field,run_underlying hu,tL,asAgg,DB ht hc w]
  ·rename_i off n cs hf hx;obtain⟨fs,fl,hu,tL,rfl,ht,hn⟩:=rM hf;refine .inr ⟨_,λw=>?_,h⟩;unfold execOp;simp[ho,hx,Instr.field,run_underlying hu,tL,asAgg,UZ ht w]
  exact h.elim
 ·rename_i ty x i ho;unfold jW at h;split at h
  ·rename_i e size _ a n c k i' he hx hi;obtain⟨hu,ii,Ka,rfl⟩:=Be he;obtain⟨hb,h⟩:=h;refine .inr ⟨_,λw=>?_,h⟩;unfold execOp;simp[ho,hx,hi,Instr.indexAt,asIntOf,run_underlying hu,hb,sizeOf,typeInfo,Ka]
  ·rename_i n e size a k i' _ he hx hi;obtain⟨hu,ii,Ka,rfl⟩:=Rp he;obtain⟨hb,h⟩:=h;refine .inr ⟨_,λw=>?_,h⟩;unfold execOp;simp[ho,hx,hi,Instr.indexAt,Instr.sureAddr,asIntOf,run_underlying hu,hb,sizeOf,typeInfo,Ka]
  exact h.elim
 ·rename_i ty x lo hi mx ho;unfold gA at h;split at h
  ·rename_i s hu hx hm;split at h
   ·rename_i l hh h1 h2;obtain⟨hb,hk⟩:=h;refine .inr ⟨_,λw=>?_,hk⟩;have e:=λis=>qg (P:=P) (isS:=is) (cap:=s.data.toList.length) h1 h2 hb w;rw[Jn]at e;unfold execOp;have QY:Option.map (ev t) mx=none:=hm;simp only[ho,hx,Instr.sliceAt,run_underlying hu,Instr.slice,QY,Sem.run_bind,Result.andThen_ok,Option.isSome_none,Bool.false_eq_true,if_false,e,Sem.run_pure];simp only[str];congr 3;apply ByteArray.ext;apply Array.ext';simp[ByteArray.data_extract,List.drop_take]
   exact h.elim
  ·rename_i e' a len cap hu hx hm;split at h
   ·rename_i e size l hh he h1 h2;obtain⟨JV,ii,Ka,rfl⟩:=Be he;obtain⟨hb,hk⟩:=h;refine .inr ⟨_,λw=>?_,hk⟩;have e:=λis=>qg (P:=P) (isS:=is) (cap:=cap) h1 h2 hb w;have QY:Option.map (ev t) mx=none:=hm;rw[hu]at JV;cases JV;unfold execOp;simp only[ho,hx,Instr.sliceAt,run_underlying hu,Instr.slice,QY,Sem.run_bind,Result.andThen_ok,e,Sem.run_pure];have:((cap:Int)=l)↔(cap=l.toNat):=by omega
    simp[sizeOf,typeInfo,Ka,this]
   exact h.elim
  exact .inl h
 ·rename_i ty x ho;unfold uX at h;split at h
  ·exact .inl h
  rename_i hk;refine .inr ⟨_,λw=>?_,h⟩;split at hk
  ·rename_i hs;obtain⟨d,hd⟩:=Option.isSome_iff_exists.1 hs;unfold execOp;simp only[ho,Instr.makeInterface,Sem.run_bind,run_underlying hd,Result.andThen_ok];cases d<;>first|(simp;done)|(exfalso;exact hk (by simp[dC,hd]))
  exact absurd rfl hk
 exact .inl h
theorem I5 {o:Oper}{t:Fr}{w:World}{K:Value->World->Prop}{Q:EP}(h:cJ P o t w K Q .mk):runK P o t w K Q .mk:=by
 unfold cJ at h;split at h
 ·rename_i f args nf ho;unfold aCi at h;split at h
  ·rename_i g first cap hf
   unfold ae at h;unfold runK execOp;have e:(first.toList++args.toList.map (ev t)++cap.toList).toArray=first++args.map (ev t)++cap:=by apply Array.ext';simp
   rw[e]at h;simp only[ho,resolve,hf,Deferred.ofValue,Sem.run_bind,Sem.run_pure,Result.andThen_ok,invoke];exact h
  exact h
 ·rename_i ty x ho;unfold nQ at h;split at h
  ·rename_i a ht hx;obtain⟨v,hc,hk⟩:=j9 h;refine nU ?_ hk;unfold execOp;simp[ho,hx,Instr.loadAt,Instr.sureAddr,loadVar,(oJ ht w).1,load,Sem.run,hc]
  ·rename_i n a ht hx;obtain⟨v,hc,hk⟩:=j9 h;refine nU ?_ hk;unfold execOp;simp[ho,hx,Instr.loadAt,Instr.sureAddr,loadVar,(jP ht w).1,(jP ht w).2,loadCells,run_loadCellsFrom (P:=P) w a n 0 #[] v hc]
  exact h.elim
 ·rename_i ty x v ho;have hu:∀h:aY P (Instr.storeAt ty (ev t x) (ev t v)) t w K Q .mk,runK P o t w K Q .mk:=λh=>yR (by unfold execOp;simp only[ho]) h;unfold uu at h;split at h
  ·rename_i a ht hx;obtain⟨h1,h2,h3,hk⟩:=h;obtain⟨u,hc⟩:=Option.isSome_iff_exists.1 h2;refine hu (Da ?_ hk);have e1:(ev t v).cells=#[ev t v]:=by
    generalize ev t v=u at h1;cases u<;>simp_all [Value.cells,lG]
   have e2:∀k:Sem Unit,(Sem.store .plain a (ev t v) k).run P w=k.run P (w.setCell a (ev t v)):=λk=>by
    generalize ev t v=u at h1;cases u<;>simp_all [Sem.run,lG]
   have e3:a.add 0=a:=by simp[Addr.add]
   rw[hx];simp only[Instr.storeAt,Instr.sureAddr,Sem.run_bind,Sem.run_pure,Result.andThen_ok,storeVar,(oJ ht w).2,e1,List.size_toArray,List.length_cons,List.length_nil,ne_eq,not_true_eq_false,if_false,storeCells,store,e3,Nat.zero_add];simp only[e2,Sem.run];rfl
  exact hu h
 ·rename_i e x ho;exact nU (by unfold execOp;simp[ho,Instr.box,newVar,newRow]) h
 ·rename_i e ho;exact gQ (by unfold execOp;simp only[ho]) h
 ·rename_i s d x ho;rcases sA (P:=P) (o:=o) (t:=t) (L:=(K · w)) (other:=ak P (convert s d (ev t x)) t w K Q .mk) (by unfold a7;simp only[ho];exact h) with h|⟨v,hg,hk⟩
  ·exact gQ (by unfold execOp;simp only[ho]) h
  exact nU (hg w) hk
 ·rename_i ty n ps ho;exact gQ (by unfold execOp;simp only[ho]) h
 ·rename_i ty l c ho;exact gQ (by unfold execOp;simp only[ho]) h
 ·rename_i ty r ho;exact gQ (by unfold execOp;simp only[ho]) h
 ·rename_i ty x i ok ho;exact gQ (by unfold execOp;simp only[ho]) h
 ·rename_i ty m k x ho;exact yR (by unfold execOp;simp only[ho]) h
 ·rename_i ty m k x ho;exact yR (by unfold execOp;simp only[ho]) h
 ·rename_i x xt at_ ok ho;exact gQ (by unfold execOp;simp only[ho]) h
 ·rename_i x ho;exact gQ (by unfold execOp;simp only[ho]) h
 ·rename_i ty x ho;exact gQ (by unfold execOp;simp only[ho]) h
 ·rename_i args nf ho;exact gQ (by unfold execOp;simp only[ho];rfl) h
 ·rename_i args nf ho;exact gQ (by unfold execOp;simp only[ho];rfl) h
 rcases sA (P:=P) h with h|⟨v,hg,hk⟩
 ·exact h
 exact nU (hg w) hk
theorem VS {o:Oper}{t:Fr}{w:World}{K:Value->World->Prop}{Q:EP}{next:Act->World->Prop}
  (hn:∀v w',K v w'->next ⟨(put t o.dst v).toArray,[]⟩ w') (h:cJ P o t w K Q .mk):o.wp P ⟨t.toArray,[]⟩ w next (lift Q):=by
 have h':=I5 h;unfold runK at h';unfold Oper.wp;rw[ny];exact U4 hn h'
theorem lI (t:Fr)(s:Nat)(h:s<t.length):t.set s (t.getD s undef)=t:=by
 apply List.ext_getElem?;intro i;rw[List.getElem?_set];split
 ·rename_i e;subst e;simp[h,List.getD_eq_getElem?_getD]
 rfl
theorem gb (ops:List Oper)(t:Fr)(j:Nat):yielded ops.toArray t.toArray j=((j0 ops j).bind (t[·]?)).bind (λ| .bool b=>some b|_=>none):=by
 unfold yielded j0;simp only[List.getElem?_toArray];cases (ops[j]?).bind (·.dst) with
 | none=>rfl
 | some s =>
  simp only[Option.bind_some];cases t[s]? with
  | none=>rfl
  | some v=>cases v<;>rfl
theorem De {ops:List Oper}{K:Fr->World->Prop}{Q:EP}{next:Exit->Act->World->Prop}(hn:∀t w,K t w->next .normal ⟨t.toArray,[]⟩ w)(hq:∀e a w,lift Q e a w->next e a w) :
  ∀(l:List Oper) (t:Fr) (w:World),aV P ops K Q l t w .mk->wpList P ops.toArray next l ⟨t.toArray,[]⟩ w
 | [],t,w,h=>hn t w h
 | o::r,t,w,h=>by
  have step:∀(t':Fr),Region.wanted o (yielded ops.toArray t'.toArray)=true->cJ P o t' w (λv w'=>aV P ops K Q r (put t' o.dst v) w' .mk) Q .mk->wpList P ops.toArray next (o::r) ⟨t'.toArray,[]⟩ w:=λt' hw h'=>by
   unfold wpList;rw[if_pos hw];refine .inl ?_
   have:=VS (next:=wpList P ops.toArray next r) (λv w' hk=>De hn hq r _ w' hk) h'
   unfold Oper.wp at this ⊢
   generalize (execOp _ o).run P w=res at this;cases res with
   | ok n w' =>
    cases n<;>simp only[Oper.upon]at this ⊢<;>first|exact this|skip
    exact this.mono λe bQ he=>by
     cases e with
     | returned v=>exact he
     | panicked c=>exact hq _ _ _ he
     | outgrown=>obtain⟨a₀,w₀,hh⟩:=he;exact⟨a₀,w₀,hq _ _ _ hh⟩
   | halt x w'=>cases x<;>simp only[Oper.upon]at this ⊢<;>first|exact this|exact hq _ _ _ this
  have skip:∀(t':Fr),Region.wanted o (yielded ops.toArray t'.toArray)=false->aV P ops K Q r (put t' o.dst undef) w .mk->wpList P ops.toArray next (o::r) ⟨t'.toArray,[]⟩ w:=λt' hw h'=>by
   unfold wpList;rw[if_neg (by rw[hw];simp)];rw[put_eq];exact De hn hq r _ w h'
  simp only[aV]at h;split at h
  ·rename_i hg;exact step t (by simp[Region.wanted,hg]) h
  rename_i j want hg;have oB:∀t':Fr,Region.wanted o (yielded ops.toArray t'.toArray)=(yielded ops.toArray t'.toArray j == some want):=λt'=>by simp only[Region.wanted,hg]
  unfold iq at h;split at h
  ·rename_i hs;exact skip t (by rw[oB,gb,hs];rfl) h
  rename_i s hs;split at h
  ·rename_i b hb;have aq:s<t.length:=by
    rcases Nat.lt_or_ge s t.length with h'|h'
    ·exact h'
    simp[List.getD_eq_getElem?_getD,List.getElem?_eq_none h',undef]at hb
   have hv:t[s]?=some (.bool b):=by
    rw[List.getD_eq_getElem?_getD]at hb;rw[List.getElem?_eq_getElem aq]at hb ⊢
    simpa using hb
   have hy:yielded ops.toArray t.toArray j=some b:=by rw[gb,hs];simp[hv]
   have same:=lI t s aq;rw[hb]at same;by_cases hbw:b=want
   ·subst hbw;have h1:=h.1 rfl;rw[same]at h1;exact step t (by rw[oB,hy];simp) h1
   have hbn:b=!want:=by cases b<;>cases want<;>simp_all
   have h2:=h.2 hbn;rw[<-hbn,same]at h2;exact skip t (by rw[oB,hy];simpa using hbw) h2
  rename_i hb;refine skip t ?_ h;rw[oB,gb,hs];simp only[Option.bind_some];cases hv:t[s]? with
  | none=>rfl
  | some v =>
   have:t.getD s undef=v:=by rw[List.getD_eq_getElem?_getD,hv];rfl
   rw[this]at hb;cases v<;>simp at hb ⊢
theorem Mb {c:Code}{Q Q':EP}{t:Fr}{w:World}(hq:∀e t w,Q e t w->Q' e t w)(h:dN P c Q t w .mk):dN P c Q' t w .mk :=
 Code.wp_mono (λ_ _ _ hh=>⟨hh.1,hq _ _ _ hh.2⟩) h
theorem NB {a:Act}(h:a.defers=[]):a=⟨a.tmps.toList.toArray,[]⟩:=by cases a;simp_all
theorem tq:∀(c:Code) (Q:EP) (t:Fr) (w:World),vc P c Q t w .mk->dN P c Q t w .mk
 | .skip,_,_,_,h=>wp_skip ⟨rfl,by simpa[vc] using h⟩
 | .region _ ops false,Q,t,w,h=>by
  refine wp_region_list ?_
  have:=De (P:=P) (ops:=ops.toList) (next:=lift Q) (λt w hk=>⟨rfl,by simpa using hk⟩) (λ_ _ _ h=>h) ops.toList t w h
  simpa using this
 | .region _ _ true,_,_,_,h=>h
 | .seq a b,Q,t,w,h=>by
  refine wp_seq (Code.wp_mono ?_ (tq a _ t w h));rintro e a' w' ⟨hd,hh⟩;cases e<;>simp only[uj]at hh<;>simp only[Exit.then]<;>first|exact⟨hd,hh⟩|skip
  have:=tq b Q _ w' hh;rw[NB hd];exact this
 | .cond c a b,Q,t,w,h=>by
  simp only[vc]at h;unfold nt at h;split at h
  ·rename_i x hx;refine wp_cond_split (t:=x) (by rw[ny];exact hx) (λID=>tq a Q t w (h.1 ID)) (λID=>tq b Q t w (h.2 ID))
  exact h.elim
 | .block i c,Q,t,w,h=>by
  refine wp_block (Code.wp_mono ?_ (tq c _ t w h));rintro e a' w' ⟨hd,hh⟩;cases e<;>simp only[kN]at hh<;>simp only[Exit.inBlock]<;>first|exact⟨hd,hh⟩|skip
  split at hh
  ·rename_i e;simp only[e,if_true];exact⟨hd,hh⟩
  rename_i e;simp only[e,if_false];exact⟨hd,hh⟩
 | .exit i,_,_,_,h=>wp_exit ⟨rfl,by simpa[vc] using h⟩
 | .ret,_,_,_,h=>wp_ret ⟨rfl,by simpa[vc] using h⟩
 | .label _,_,_,_,h=>wp_label ⟨rfl,by simpa[vc] using h⟩
 | .goto l,_,_,_,h=>wp_goto ⟨rfl,by simpa[vc] using h⟩
 | .loop _,_,_,_,h=>h
 | .scope _,_,_,_,h=>h
 | .rangeFunc ..,_,_,_,h=>h
 | .refuse _,_,_,_,h=>h
end
section
variable {P:Program} {t:Fr} {w:World} {K:VK} {Q:EP} {N:Fr->World->Prop} {L:VP} {other:Prop}
def evs (t:Fr):List (Nat×Operand)->List (Nat×Value)
 | ps=>ps.map λ(i,x)=>(i,ev t x)
theorem aCe (t:Fr):evs t []=[]:=(rfl)
theorem Xg (t:Fr)(i x ps):evs t ((i,x)::ps)=(i,ev t x)::evs t ps:=(rfl)
theorem aGs (i:Nat):ev t (.tmp i)=t.getD i undef:=(rfl)
theorem Xf (v:Value):ev t (.const v)=v:=(rfl)
theorem Sa (g:Nat):ev t (.global g)=.pointer (some ⟨g,0,none⟩):=(rfl)
theorem aCd (f:FuncId):ev t (.func f)=.func (.func f) #[] #[]:=(rfl)
theorem aAd (d:Nat)(v:Value):put t (some d) v=t.set d v:=(rfl)
theorem aAc (v:Value):put t none v=t:=(rfl)
theorem Xu (x:Value)(l:List Value)(d:Value):(x::l).getD 0 d=x:=(rfl)
theorem Xt (x:Value)(l:List Value)(n:Nat)(d:Value):(x::l).getD (n+1) d=l.getD n d:=(rfl)
theorem aAG (x:Value)(l:List Value)(v:Value):(x::l).set 0 v=v::l:=(rfl)
theorem aAF (x:Value)(l:List Value)(n:Nat)(v:Value):(x::l).set (n+1) v=x::l.set n v:=(rfl)
theorem aEO (p):vc P .skip Q t w p=Q .normal t w:=(rfl)
theorem VN (id:Nat)(l:List Oper)(p):vc P (.region id l.toArray false) Q t w p=aV P l (Q .normal) Q l t w .mk:=(rfl)
theorem aEK (id:Nat)(l:Array Oper)(p):vc P (.region id l true) Q t w p=dN P (.region id l true) Q t w .mk:=(rfl)
theorem aJb (a b:Code)(p):vc P (.seq a b) Q t w p=vc P a (uj (λt w=>vc P b Q t w .mk) Q .mk) t w .mk:=(rfl)
theorem aEJ (c:Operand)(a b:Code)(p):vc P (.cond c a b) Q t w p=nt (ev t c) (vc P a Q t w .mk) (vc P b Q t w .mk) .mk:=(rfl)
theorem aA5 (i:Nat)(c:Code)(p):vc P (.block i c) Q t w p=vc P c (kN i Q .mk) t w .mk:=(rfl)
theorem aEL (i:Nat)(p):vc P (.exit i) Q t w p=Q (.exit i) t w:=(rfl)
theorem aJa (p):vc P .ret Q t w p=Q .ret t w:=(rfl)
theorem aA6 (l:Nat)(p):vc P (.label l) Q t w p=Q .normal t w:=(rfl)
theorem aEM (l:Nat)(p):vc P (.goto l) Q t w p=Q (.goto l) t w:=(rfl)
theorem aEN (c:Code)(p):vc P (.loop c) Q t w p=dN P (.loop c) Q t w .mk:=(rfl)
theorem aA7 (c:Code)(p):vc P (.scope c) Q t w p=dN P (.scope c) Q t w .mk:=(rfl)
theorem JG (f ps a b p):vc P (.rangeFunc f ps a b) Q t w p=dN P (.rangeFunc f ps a b) Q t w .mk:=(rfl)
theorem Lu (Q:EP)(p):uj N Q p .normal t w=N t w:=(rfl)
theorem aAD (Q:EP)(p):uj N Q p .ret t w=Q .ret t w:=(rfl)
theorem Um (Q:EP)(i:Nat)(p):uj N Q p (.exit i) t w=Q (.exit i) t w:=(rfl)
theorem Un (Q:EP)(i:Nat)(p):uj N Q p (.goto i) t w=Q (.goto i) t w:=(rfl)
theorem DY (Q:EP)(c)(p):uj N Q p (.panic c) t w=Q (.panic c) t w:=(rfl)
theorem EL (Q:EP)(i:Nat)(p):kN i Q p .normal t w=Q .normal t w:=(rfl)
theorem NL (Q:EP)(i:Nat)(p):kN i Q p .ret t w=Q .ret t w:=(rfl)
theorem J6 (Q:EP)(i j:Nat)(p):kN i Q p (.goto j) t w=Q (.goto j) t w:=(rfl)
theorem vO (Q:EP)(i:Nat)(c)(p):kN i Q p (.panic c) t w=Q (.panic c) t w:=(rfl)
theorem yd (Q:EP)(i:Nat)(p):kN i Q p (.exit i) t w=Q .normal t w:=by simp[kN]
theorem Gd (Q:EP)(i j:Nat)(p)(h:(j == i)=false):kN i Q p (.exit j) t w=Q (.exit j) t w:=by simp[kN,show ¬j=i by simpa using h]
theorem VL (ops)(p):aV P ops N Q [] t w p=N t w:=(rfl)
theorem M4 (ops)(d op ty pos af r)(p):aV P ops N Q (⟨d,op,ty,pos,af,none⟩::r) t w p=cJ P ⟨d,op,ty,pos,af,none⟩ t w (λv w'=>aV P ops N Q r (put t d v) w' .mk) Q .mk:=(rfl)
theorem M3 (ops)(d op ty pos af j want r)(p):aV P ops N Q (⟨d,op,ty,pos,af,some (j,want)⟩::r) t w p =
  iq (j0 ops j) want t (λt'=>cJ P ⟨d,op,ty,pos,af,some (j,want)⟩ t' w (λv w'=>aV P ops N Q r (put t' d v) w' .mk) Q .mk) (λt'=>aV P ops N Q r (put t' d undef) w .mk) .mk:=rfl
theorem MB (o:Oper)(l:List Oper):j0 (o::l) 0=o.dst:=(rfl)
theorem MA (o:Oper)(l:List Oper)(n:Nat):j0 (o::l) (n+1)=j0 l n:=(rfl)
theorem Zg (d op ty pos af g):(Oper.mk d op ty pos af g).dst=d:=(rfl)
def gK (v:Value)(s:Nat)(want:Bool)(t:Fr)(yes no:Fr->Prop)(_:Ph (yes,no)):Prop:=match v with
 | .bool b=>(b=want->yes (t.set s (.bool want)))/\(b=!want->no (t.set s (.bool !want)))
 | _=>no t
theorem Sg (s:Nat)(want:Bool)(yes no:Fr->Prop)(p):iq (some s) want t yes no p=gK (t.getD s undef) s want t yes no .mk:=by
 simp only[iq,gK]
 all_goals (generalize t.getD s undef=v;cases v<;>rfl)
theorem KR (want:Bool)(yes no:Fr->Prop)(p):iq none want t yes no p=no t:=(rfl)
theorem aKr (s:Nat)(yes no:Fr->Prop)(p):gK (.bool true) s true t yes no p=yes (t.set s (.bool true)):=by simp[gK]
theorem aKo (s:Nat)(yes no:Fr->Prop)(p):gK (.bool false) s false t yes no p=yes (t.set s (.bool false)):=by simp[gK]
theorem aKq (s:Nat)(yes no:Fr->Prop)(p):gK (.bool true) s false t yes no p=no (t.set s (.bool true)):=by simp[gK]
theorem aKp (s:Nat)(yes no:Fr->Prop)(p):gK (.bool false) s true t yes no p=no (t.set s (.bool false)):=by simp[gK]
theorem Xs (s:Nat)(want:Bool)(yes no:Fr->Prop)(p):gK undef s want t yes no p=no t:=(rfl)
theorem XL (x y:Prop)(p):nt (.bool true) x y p=x:=by simp[nt]
theorem XK (x y:Prop)(p):nt (.bool false) x y p=y:=by simp[nt]
theorem Gk (b:Bool)(x y:Prop)(p):nt (.bool b) x y p=((b=true->x)/\(b=false->y)):=(rfl)
theorem SA (q:Prop)[Decidable q](x y:Prop)(p):nt (.bool (decide q)) x y p=((q->x)/\(¬q->y)):=by simp[nt]
theorem SB (b:Bool)(x y:Prop)(p):nt (.bool (!b)) x y p=nt (.bool b) y x .mk:=by cases b<;>simp[nt]
theorem Xr (q:Prop)[Decidable q](s:Nat)(yes no:Fr->Prop)(p):gK (.bool (decide q)) s true t yes no p=((q->yes (t.set s (.bool true)))/\(¬q->no (t.set s (.bool false)))):=by simp[gK]
theorem Xq (q:Prop)[Decidable q](s:Nat)(yes no:Fr->Prop)(p):gK (.bool (decide q)) s false t yes no p=((¬q->yes (t.set s (.bool false)))/\(q->no (t.set s (.bool true)))):=by simp[gK]
theorem Zs (a b:Value)(p):Fs (.bool true) a b L p=L a:=(rfl)
theorem Zr (a b:Value)(p):Fs (.bool false) a b L p=L b:=(rfl)
theorem Ze (d x ty pos af g)(p):cJ P ⟨d,.move x,ty,pos,af,g⟩ t w K Q p=K (ev t x) w:=(rfl)
theorem O6 (d x ty pos af g)(p):cJ P ⟨d,.assign x,ty,pos,af,g⟩ t w K Q p=K (ev t x) w:=(rfl)
theorem Zf (d c a b ty pos af g)(p):cJ P ⟨d,.pick c a b,ty,pos,af,g⟩ t w K Q p=Fs (ev t c) (ev t a) (ev t b) (K · w) .mk:=(rfl)
theorem aD0 (d op xt x y yt ty pos af g)(p):cJ P ⟨d,.binOp op xt x y yt,ty,pos,af,g⟩ t w K Q p =
  dw op (ev t x) (ev t y) (K · w) (cX (dC P xt) (isConst x || isConst y) op (ev t x) (ev t y) (K · w) (runK P ⟨d,.binOp op xt x y yt,ty,pos,af,g⟩ t w K Q .mk) .mk) .mk:=rfl
theorem aIt (d op xt x ty pos af g)(p):cJ P ⟨d,.unOp op xt x,ty,pos,af,g⟩ t w K Q p=unK op (ev t x) (K · w) (runK P ⟨d,.unOp op xt x,ty,pos,af,g⟩ t w K Q .mk) .mk:=(rfl)
theorem L5 (d x i ty pos af g)(p):cJ P ⟨d,.extract x i,ty,pos,af,g⟩ t w K Q p=pC (ev t x) i (K · w) .mk:=(rfl)
theorem L4 (d s e x ty pos af g)(p):cJ P ⟨d,.convert s e x,ty,pos,af,g⟩ t w K Q p=vT (if (P.underlying s).isSome then P.underlying e else none) (ev t x) (K · w) (ak P (convert s e (ev t x)) t w K Q .mk) .mk:=(rfl)
theorem UP (d xt x i ty pos af g)(p):cJ P ⟨d,.index xt x i,ty,pos,af,g⟩ t w K Q p=yM (P.underlying xt) (ev t x) (ev t i) (K · w) (runK P ⟨d,.index xt x i,ty,pos,af,g⟩ t w K Q .mk) .mk:=(rfl)
theorem I2 (d fn)(a c:List Operand)(ty pos af g)(p):cJ P ⟨d,.makeFunc fn a.toArray c.toArray,ty,pos,af,g⟩ t w K Q p=K (.func fn (a.map (ev t)).toArray (c.map (ev t)).toArray) w:=by
 simp[cJ,a7]
theorem Zb (d f)(args:List Operand)(nf ty pos af g)(p):cJ P ⟨d,.call { callee:=.value f,args:=args.toArray,argTypes:=nf },ty,pos,af,g⟩ t w K Q p =
  aCi P (ev t f) (args.map (ev t)) t w K Q (runK P ⟨d,.call { callee:=.value f,args:=args.toArray,argTypes:=nf },ty,pos,af,g⟩ t w K Q .mk) .mk:=rfl
theorem aD2 (d x nf ty pos af g)(p):cJ P ⟨d,.call { callee:=.builtin .len,args:=#[x],argTypes:=#[nf] },ty,pos,af,g⟩ t w K Q p =
  OP (P.underlying nf) (ev t x) (K · w) (runK P ⟨d,.call { callee:=.builtin .len,args:=#[x],argTypes:=#[nf] },ty,pos,af,g⟩ t w K Q .mk) .mk:=rfl
theorem aD3 (d)(args:List Operand)(nf ty pos af g)(p):cJ P ⟨d,.call { callee:=.builtin .max,args:=args.toArray,argTypes:=nf },ty,pos,af,g⟩ t w K Q p =
  mmK true (args.map (ev t)) (K · w) (runK P ⟨d,.call { callee:=.builtin .max,args:=args.toArray,argTypes:=nf },ty,pos,af,g⟩ t w K Q .mk) .mk:=rfl
theorem aD4 (d)(args:List Operand)(nf ty pos af g)(p):cJ P ⟨d,.call { callee:=.builtin .min,args:=args.toArray,argTypes:=nf },ty,pos,af,g⟩ t w K Q p =
  mmK false (args.map (ev t)) (K · w) (runK P ⟨d,.call { callee:=.builtin .min,args:=args.toArray,argTypes:=nf },ty,pos,af,g⟩ t w K Q .mk) .mk:=rfl
theorem Zd (d xt x ty pos af g)(p):cJ P ⟨d,.load xt x,ty,pos,af,g⟩ t w K Q p=nQ (lC P xt) (ev t x) w K .mk:=(rfl)
theorem UT (d xt x v ty pos af g)(p):cJ P ⟨d,.store xt x v,ty,pos,af,g⟩ t w K Q p=uu (lC P xt) (ev t x) (ev t v) w K (aY P (Instr.storeAt xt (ev t x) (ev t v)) t w K Q .mk) .mk:=(rfl)
theorem Et (d xt x f ty pos af g)(p):cJ P ⟨d,.fieldAddr xt x f,ty,pos,af,g⟩ t w K Q p=nG (bA P xt f) (ev t x) (K · w) .mk:=(rfl)
theorem UN (d xt x f ty pos af g)(p):cJ P ⟨d,.field xt x f,ty,pos,af,g⟩ t w K Q p=Fq (bA P xt f) (ev t x) (K · w) .mk:=(rfl)
theorem Eu (d xt x i ty pos af g)(p):cJ P ⟨d,.indexAddr xt x i,ty,pos,af,g⟩ t w K Q p=jW (gT P xt) (tF P xt) (ev t x) (ev t i) (K · w) .mk:=(rfl)
theorem US (d xt x lo hi mx ty pos af g)(p):cJ P ⟨d,.slice xt x lo hi mx,ty,pos,af,g⟩ t w K Q p =
  gA (P.underlying xt) (gT P xt) (ev t x) (lo.map (ev t)) (hi.map (ev t)) (mx.map (ev t)) (K · w) (runK P ⟨d,.slice xt x lo hi mx,ty,pos,af,g⟩ t w K Q .mk) .mk:=rfl
theorem UO (d xt x ty pos af g)(p):cJ P ⟨d,.makeInterface xt x,ty,pos,af,g⟩ t w K Q p =
  uX (if (P.underlying xt).isSome then dC P xt else 1) xt (ev t x) (K · w) (runK P ⟨d,.makeInterface xt x,ty,pos,af,g⟩ t w K Q .mk) .mk:=rfl
theorem aD1 (d e x ty pos af g)(p):cJ P ⟨d,.box e x,ty,pos,af,g⟩ t w K Q p=aF7 e (ev t x) w K .mk:=(rfl)
theorem UL (d e ty pos af g)(p):cJ P ⟨d,.alloc e,ty,pos,af,g⟩ t w K Q p=ak P (Instr.alloc e true (.tuple #[])) t w K Q .mk:=(rfl)
theorem UM (d bt)(ps:List (Nat×Operand))(ty pos af g)(p):cJ P ⟨d,.build bt ps.toArray,ty,pos,af,g⟩ t w K Q p=BO (lO P bt) (evs t ps) (K · w) .mk:=(rfl)
theorem Cs (d bt n)(ps:List (Nat×Operand))(ty pos af g)(p):cJ P ⟨d,.buildSlice bt n ps.toArray,ty,pos,af,g⟩ t w K Q p=ak P (Instr.buildSlice bt n (evs t ps).toArray) t w K Q .mk:=by
 simp[cJ,evs]
theorem Ev (d bt l c ty pos af g)(p):cJ P ⟨d,.makeSlice bt l c,ty,pos,af,g⟩ t w K Q p=ak P (Instr.makeSlice bt (ev t l) (ev t c)) t w K Q .mk:=(rfl)
theorem L6 (d bt r ty pos af g)(p):cJ P ⟨d,.makeMap bt r,ty,pos,af,g⟩ t w K Q p=ak P (Instr.makeMap bt (r.map (ev t))) t w K Q .mk:=(rfl)
theorem O8 (d bt x i ok ty pos af g)(p):cJ P ⟨d,.lookup bt x i ok,ty,pos,af,g⟩ t w K Q p=ak P (Instr.lookup bt (ev t x) (ev t i) ok) t w K Q .mk:=(rfl)
theorem Ew (d bt m k x ty pos af g)(p):cJ P ⟨d,.mapUpdate bt m k x,ty,pos,af,g⟩ t w K Q p=aY P (Instr.mapUpdate bt (ev t m) (ev t k) (ev t x)) t w K Q .mk:=(rfl)
theorem O7 (d bt m k x ty pos af g)(p):cJ P ⟨d,.insert bt m k x,ty,pos,af,g⟩ t w K Q p=aY P (Instr.mapUpdate bt (ev t m) (ev t k) (ev t x)) t w K Q .mk:=(rfl)
theorem Cv (d x xt at_ ok ty pos af g)(p):cJ P ⟨d,.typeAssert x xt at_ ok,ty,pos,af,g⟩ t w K Q p=ak P (Instr.typeAssert (ev t x) xt at_ ok) t w K Q .mk:=(rfl)
theorem UQ (d x ty pos af g)(p):cJ P ⟨d,.panic x,ty,pos,af,g⟩ t w K Q p=ak P (Instr.panic (ev t x)) t w K Q .mk:=(rfl)
theorem UR (d xt x ty pos af g)(p):cJ P ⟨d,.range xt x,ty,pos,af,g⟩ t w K Q p=ak P (Instr.range xt (ev t x)) t w K Q .mk:=(rfl)
theorem O5 (d)(args:List Operand)(nf ty pos af g)(p):cJ P ⟨d,.call { callee:=.builtin .append,args:=args.toArray,argTypes:=nf },ty,pos,af,g⟩ t w K Q p =
  ak P (Builtin.append_ nf ty (args.map (ev t)).toArray) t w K Q .mk:=by simp[cJ]
theorem Zc (d)(args:List Operand)(nf ty pos af g)(p):cJ P ⟨d,.call { callee:=.builtin .copy,args:=args.toArray,argTypes:=nf },ty,pos,af,g⟩ t w K Q p =
  ak P (Builtin.copy_ nf ty (args.map (ev t)).toArray) t w K Q .mk:=by simp[cJ]
theorem Se (g:FuncId)(a c:List Value)(args:List Value)(p):aCi P (.func (.func g) a.toArray c.toArray) args t w K Q other p=ae P g (a++args++c) t w K Q .mk:=(rfl)
theorem NH (n:Int)(p):kM .i64 n L p=((-9223372036854775808<=n/\n<=9223372036854775807)/\L (.int .i64 n)):=(rfl)
theorem Ro (n:Int)(p):kM .u8 n L p=L (.int .u8 (IntKind.u8.wrap n)):=(rfl)
theorem NI (n:Int)(p):kM .u32 n L p=L (.int .u32 (IntKind.u32.wrap n)):=(rfl)
theorem NJ (n:Int)(p):kM .u64 n L p=L (.int .u64 (IntKind.u64.wrap n)):=(rfl)
theorem NG (n:Int)(p):kM .i32 n L p=L (.int .i32 (IntKind.i32.wrap n)):=(rfl)
section
variable (k k':IntKind) (a b:Int)
theorem WT (p):dw .add (.int k a) (.int k b) L other p=kM k (a+b) L .mk:=by simp[dw,qu]
theorem W9 (p):dw .sub (.int k a) (.int k b) L other p=kM k (a-b) L .mk:=by simp[dw,qu]
theorem W0 (p):dw .mul (.int k a) (.int k b) L other p=kM k (a*b) L .mk:=by simp[dw,qu]
theorem W5 (p):dw .quo (.int k a) (.int k b) L other p=(b≠0/\L (.int k (k.wrap (a.tdiv b)))):=by simp[dw,qu]
theorem W6 (p):dw .rem (.int k a) (.int k b) L other p=(b≠0/\L (.int k (a.tmod b))):=by simp[dw,qu]
theorem WU (p):dw .and (.int k a) (.int k b) L other p=L (.int k (cR .and k a b)):=by simp[dw,qu]
theorem aBH (p):dw .or (.int k a) (.int k b) L other p=L (.int k (cR .or k a b)):=by simp[dw,qu]
theorem Wa (p):dw .xor (.int k a) (.int k b) L other p=L (.int k (cR .xor k a b)):=by simp[dw,qu]
theorem J5 (p):dw .andNot (.int k a) (.int k b) L other p=L (.int k (cR .andNot k a b)):=by simp[dw,qu]
theorem WV (p):dw .eql (.int k a) (.int k b) L other p=L (.bool (decide (a=b))):=by simp[dw,qu];rfl
theorem W4 (p):dw .neq (.int k a) (.int k b) L other p=L (.bool (decide (a≠b))):=by
 have:(a != b)=decide (a≠b):=by by_cases h:a=b<;>simp[h]
 simp only[dw,qu,this];simp
theorem WZ (p):dw .lss (.int k a) (.int k b) L other p=L (.bool (decide (a<b))):=by simp[dw,qu]
theorem WY (p):dw .leq (.int k a) (.int k b) L other p=L (.bool (decide (a<=b))):=by simp[dw,qu]
theorem WX (p):dw .gtr (.int k a) (.int k b) L other p=L (.bool (decide (b<a))):=by simp[dw,qu]
theorem WW (p):dw .geq (.int k a) (.int k b) L other p=L (.bool (decide (b<=a))):=by simp[dw,qu]
theorem W7 (p):dw .shl (.int k a) (.int k' b) L other p=(0<=b/\L (.int k (k.wrap (a*2 ^ min b.toNat k.bits)))):=(rfl)
theorem W8 (p):dw .shr (.int k a) (.int k' b) L other p=(0<=b/\L (.int k (a.fdiv (2 ^ min b.toNat k.bits)))):=(rfl)
end
theorem G7 (a b:List UInt8)(p):dw .add (str a) (str b) L other p=(((a.length:Int)+b.length<=9223372036854775807)/\L (str (a++b))):=by
 simp[dw,str,ByteArray.size];intro _;rw[show ({ data:=a.toArray }:ByteArray)++{ data:=b.toArray }={ data:=(a++b).toArray } from by apply ByteArray.ext;simp]
theorem G8 (a b:List UInt8)(p):dw .eql (str a) (str b) L other p=L (.bool (decide (a=b))):=by
 have:(a == b)=decide (a=b):=by by_cases h:a=b<;>simp[h]
 simp[dw,str,this]
theorem G9 (a b:List UInt8)(p):dw .neq (str a) (str b) L other p=L (.bool (decide (a≠b))):=by
 have:(!(a == b))=decide (a≠b):=by by_cases h:a=b<;>simp[h]
 simp only[dw,str,this]
theorem BJ (y:Value)(p):dw .eql .nilIface y L other p=other:=by cases y<;>rfl
theorem BK (y:Value)(p):dw .neq .nilIface y L other p=other:=by cases y<;>rfl
theorem BH (ty v y)(p):dw .eql (.iface ty v) y L other p=other:=by cases y<;>rfl
theorem BI (ty v y)(p):dw .neq (.iface ty v) y L other p=other:=by cases y<;>rfl
theorem G5 (a y)(p):dw .eql (.pointer a) y L other p=other:=by cases y<;>rfl
theorem G6 (a y)(p):dw .neq (.pointer a) y L other p=other:=by cases y<;>rfl
theorem BL (a n c y)(p):dw .eql (.slice a n c) y L other p=other:=by cases y<;>rfl
theorem BM (a n c y)(p):dw .neq (.slice a n c) y L other p=other:=by cases y<;>rfl
theorem EG (b y)(p):dw .eql (.bool b) y L other p=other:=by cases y<;>rfl
theorem EH (b y)(p):dw .neq (.bool b) y L other p=other:=by cases y<;>rfl
theorem G3 (b y)(p):dw .eql (.agg b) y L other p=other:=by cases y<;>rfl
theorem G4 (b y)(p):dw .neq (.agg b) y L other p=other:=by cases y<;>rfl
theorem xf (y)(p):dw .eql .nilFunc y L other p=other:=by cases y<;>rfl
theorem EI (a b c y)(p):dw .eql (.func a b c) y L other p=other:=by cases y<;>rfl
theorem aGp (p):cX 1 true .eql .nilIface .nilIface L other p=L (.bool true):=(rfl)
theorem aGo (ty v c)(p):cX 1 c .eql (.iface ty v) .nilIface L other p=L (.bool false):=(rfl)
theorem aDW (p):cX 1 true .neq .nilIface .nilIface L other p=L (.bool false):=(rfl)
theorem aDV (ty v c)(p):cX 1 c .neq (.iface ty v) .nilIface L other p=L (.bool true):=(rfl)
theorem aGq (c)(p):cX 2 c .eql (.pointer none) (.pointer none) L other p=L (.bool true):=(rfl)
theorem aGr (a c)(p):cX 2 c .eql (.pointer (some a)) (.pointer none) L other p=L (.bool false):=(rfl)
theorem aDX (c)(p):cX 2 c .neq (.pointer none) (.pointer none) L other p=L (.bool false):=(rfl)
theorem aDY (a c)(p):cX 2 c .neq (.pointer (some a)) (.pointer none) L other p=L (.bool true):=(rfl)
theorem eq_6 (a b c)(p):cX 6 c .eql (.bool a) (.bool b) L other p=L (.bool (a == b)):=(rfl)
theorem aMP (a b c)(p):cX 6 c .neq (.bool a) (.bool b) L other p=L (.bool (!(a == b))):=(rfl)
theorem N2:eE [] []=some true:=(rfl)
theorem Jv (k a b xs ys):eE (.int k a::xs) (.int k b::ys)=(eE xs ys).map (decide (a=b) && ·):=by simp[eE]
theorem Rr (f:Bool->Bool)(b:Bool):Option.map f (some b)=some (f b):=(rfl)
def pO (b:Option Bool)(L:VP)(neg:Bool)(other:Prop)(_:Ph (L,other)):Prop:=match b with
 | some b=>L (.bool (xor neg b))
 | none=>other
theorem eq_7 (n c)(xs ys:List Value)(p)(h:jZ xs n=true):cX (n+7) c .eql (.agg xs.toArray) (.agg ys.toArray) L other p=pO (eE xs ys) L false other .mk:=by
 simp only[cX,tY,h,pO];cases eE xs ys<;>simp
theorem Fk (n c)(xs ys:List Value)(p)(h:jZ xs n=true):cX (n+7) c .neq (.agg xs.toArray) (.agg ys.toArray) L other p=pO (eE xs ys) L true other .mk:=by
 simp only[cX,tY,h,pO];cases eE xs ys<;>simp
theorem aKe (c)(x0 y0:Value)(p):cX 8 c .eql (.agg #[x0]) (.agg #[y0]) L other p=pO (eE [x0] [y0]) L false other .mk:=eq_7 1 c [x0] [y0] p rfl
theorem aKf (c)(x0 x1 y0 y1:Value)(p):cX 9 c .eql (.agg #[x0,x1]) (.agg #[y0,y1]) L other p=pO (eE [x0,x1] [y0,y1]) L false other .mk:=eq_7 2 c [x0,x1] [y0,y1] p rfl
theorem aKg (c)(x0 x1 x2 y0 y1 y2:Value)(p):cX 10 c .eql (.agg #[x0,x1,x2]) (.agg #[y0,y1,y2]) L other p=pO (eE [x0,x1,x2] [y0,y1,y2]) L false other .mk:=eq_7 3 c [x0,x1,x2] [y0,y1,y2] p rfl
theorem aKh (c)(x0 x1 x2 x3 y0 y1 y2 y3:Value)(p):cX 11 c .eql (.agg #[x0,x1,x2,x3]) (.agg #[y0,y1,y2,y3]) L other p=pO (eE [x0,x1,x2,x3] [y0,y1,y2,y3]) L false other .mk:=eq_7 4 c [x0,x1,x2,x3] [y0,y1,y2,y3] p rfl
theorem aKi (c)(x0 x1 x2 x3 x4 y0 y1 y2 y3 y4:Value)(p):cX 12 c .eql (.agg #[x0,x1,x2,x3,x4]) (.agg #[y0,y1,y2,y3,y4]) L other p=pO (eE [x0,x1,x2,x3,x4] [y0,y1,y2,y3,y4]) L false other .mk:=eq_7 5 c [x0,x1,x2,x3,x4] [y0,y1,y2,y3,y4] p rfl
theorem aKj (c)(x0 x1 x2 x3 x4 x5 y0 y1 y2 y3 y4 y5:Value)(p):cX 13 c .eql (.agg #[x0,x1,x2,x3,x4,x5]) (.agg #[y0,y1,y2,y3,y4,y5]) L other p=pO (eE [x0,x1,x2,x3,x4,x5] [y0,y1,y2,y3,y4,y5]) L false other .mk:=eq_7 6 c [x0,x1,x2,x3,x4,x5] [y0,y1,y2,y3,y4,y5] p rfl
theorem aIl (c)(x0 y0:Value)(p):cX 8 c .neq (.agg #[x0]) (.agg #[y0]) L other p=pO (eE [x0] [y0]) L true other .mk:=Fk 1 c [x0] [y0] p rfl
theorem aIm (c)(x0 x1 y0 y1:Value)(p):cX 9 c .neq (.agg #[x0,x1]) (.agg #[y0,y1]) L other p=pO (eE [x0,x1] [y0,y1]) L true other .mk:=Fk 2 c [x0,x1] [y0,y1] p rfl
theorem aIn (c)(x0 x1 x2 y0 y1 y2:Value)(p):cX 10 c .neq (.agg #[x0,x1,x2]) (.agg #[y0,y1,y2]) L other p=pO (eE [x0,x1,x2] [y0,y1,y2]) L true other .mk:=Fk 3 c [x0,x1,x2] [y0,y1,y2] p rfl
theorem aIo (c)(x0 x1 x2 x3 y0 y1 y2 y3:Value)(p):cX 11 c .neq (.agg #[x0,x1,x2,x3]) (.agg #[y0,y1,y2,y3]) L other p=pO (eE [x0,x1,x2,x3] [y0,y1,y2,y3]) L true other .mk:=Fk 4 c [x0,x1,x2,x3] [y0,y1,y2,y3] p rfl
theorem aIp (c)(x0 x1 x2 x3 x4 y0 y1 y2 y3 y4:Value)(p):cX 12 c .neq (.agg #[x0,x1,x2,x3,x4]) (.agg #[y0,y1,y2,y3,y4]) L other p=pO (eE [x0,x1,x2,x3,x4] [y0,y1,y2,y3,y4]) L true other .mk:=Fk 5 c [x0,x1,x2,x3,x4] [y0,y1,y2,y3,y4] p rfl
theorem aIq (c)(x0 x1 x2 x3 x4 x5 y0 y1 y2 y3 y4 y5:Value)(p):cX 13 c .neq (.agg #[x0,x1,x2,x3,x4,x5]) (.agg #[y0,y1,y2,y3,y4,y5]) L other p=pO (eE [x0,x1,x2,x3,x4,x5] [y0,y1,y2,y3,y4,y5]) L true other .mk:=Fk 6 c [x0,x1,x2,x3,x4,x5] [y0,y1,y2,y3,y4,y5] p rfl
theorem aIu (b:Bool)(p):pO (some b) L false other p=L (.bool b):=by simp[pO]
theorem aIv (b:Bool)(p):pO (some b) L true other p=L (.bool (!b)):=by simp[pO]
theorem aB7 (a b:Prop)[Decidable a][Decidable b]:(decide a && decide b)=decide (a/\b):=by by_cases a<;>by_cases b<;>simp_all
theorem aB8 (a:Prop)[Decidable a]:(!decide a)=decide (¬a):=by by_cases a<;>simp_all
theorem Eo (v):isConst (.const v)=true:=(rfl)
theorem Kv (i):isConst (.tmp i)=false:=(rfl)
theorem aEG (b:Bool)(p):unK .not (.bool b) L other p=L (.bool (!b)):=(rfl)
theorem aEF (k n)(p):unK .neg (.int k n) L other p=L (.int k (k.wrap (0-n))):=(rfl)
theorem Bh (vs:List Value)(i)(p):pC (.tuple vs.toArray) i L p=(pP vs[i]? L .mk):=by
 simp only[pC,pP];cases vs[i]?<;>rfl
theorem PJ (x:Value)(l:List Value):(x::l)[0]?=some x:=(rfl)
theorem PI (x:Value)(l:List Value)(n:Nat):(x::l)[n+1]?=l[n]?:=(rfl)
theorem UU {α:Type}(x:α)(L:α->Prop)(p):pP (some x) L p=L x:=(rfl)
theorem ZH (l:List UInt8)(p):OP (some .string) (str l) L other p=L (.int .i64 l.length):=by simp[OP,str,ByteArray.size]
theorem OQ (e a n c)(p):OP (some (.slice e)) (.slice a n c) L other p=L (.int .i64 n):=(rfl)
theorem SC (k k' n)(p):vT (some (.int k)) (.int k' n) L other p=L (.int k (k.wrap n)):=(rfl)
theorem SD (l:List UInt8)(p):vT (some .string) (str l) L other p=L (str l):=(rfl)
theorem OK (l:List UInt8)(k n)(p):yM (some .string) (str l) (.int k n) L other p=((0<=n/\n<(l.length:Int))/\L (.int .u8 (l.getD n.toNat 0).toNat)):=by simp[yM,str]
theorem aDH (k a k' b)(p):mmK true [.int k a,.int k' b] L other p=L (.int k (if b>a then b else a)):=(rfl)
theorem aDI (k a k' b)(p):mmK false [.int k a,.int k' b] L other p=L (.int k (if b<a then b else a)):=(rfl)
theorem map_nil (f:Operand->Value):List.map f []=[]:=(rfl)
theorem map_cons (f:Operand->Value)(x)(l:List Operand):List.map f (x::l)=f x::List.map f l:=(rfl)
theorem aBE (l:List Value):l++[]=l:=List.append_nil l
theorem aDZ (l:List Value):[]++l=l:=(rfl)
theorem XM (x:Value)(l m:List Value):(x::l)++m=x::(l++m):=(rfl)
theorem UK (f:Operand->Value)(x):Option.map f (some x)=some (f x):=(rfl)
theorem UJ (f:Operand->Value):Option.map f none=none:=(rfl)
theorem isSome_some {α:Type}(x:α):(some x).isSome=true:=(rfl)
theorem Ji (a n c)(p):vT (some .string) (.slice a n c) L other p=other:=(rfl)
theorem B8 (e x)(p):vT (some (.slice e)) x L other p=other:=by cases x<;>rfl
theorem NP (k n):dU (.int k n)=[.int k n]:=(rfl)
theorem Jd (b):dU (.bool b)=[.bool b]:=(rfl)
theorem EN (s):dU (.string s)=[.string s]:=(rfl)
theorem NR (s):dU (str s)=[str s]:=(rfl)
theorem BR (a):dU (.pointer a)=[.pointer a]:=(rfl)
theorem Gh (a n c):dU (.slice a n c)=[.slice a n c]:=(rfl)
theorem NQ (r):dU (.map r)=[.map r]:=(rfl)
theorem Je (f a c):dU (.func f a c)=[.func f a c]:=(rfl)
theorem BQ:dU .nilFunc=[.nilFunc]:=(rfl)
theorem Gg (a v):dU (.iface a v)=[.iface a v]:=(rfl)
theorem AF:dU .nilIface=[.nilIface]:=(rfl)
theorem NO (l:List Value):dU (.agg l.toArray)=l:=(rfl)
theorem ME (l:List Value):ee l 0 []=l:=by cases l<;>rfl
theorem MC (x:Value)(l:List Value)(c:Value)(cs):ee (x::l) 0 (c::cs)=c::ee l 0 cs:=(rfl)
theorem MD (x:Value)(l:List Value)(n:Nat)(cs):ee (x::l) (n+1) cs=x::ee l n cs:=(rfl)
theorem Ja (z places parts)(p):BO (some (z,places)) parts L p=pP (nA places z parts) (λcs=>L (.agg cs.toArray)) .mk:=(rfl)
theorem NN (places cells):nA places cells []=some cells:=(rfl)
def Gb (place:Option (Nat×Nat))(places:List (Nat×Nat))(cells vs:List Value)(rest:List (Nat×Value)):Option (List Value):=match place with
 | some (off,size)=>(match jZ vs size && decide (off+size<=cells.length) with
   | true=>nA places (ee cells off vs) rest
   | false=>none)
 | none=>none
theorem Jb (places cells)(i v rest):nA places cells ((i,v)::rest)=Gb places[i]? places cells (dU v) rest:=(rfl)
theorem Gc (off size places cells vs rest)(h:(jZ vs size && decide (off+size<=cells.length))=true):Gb (some (off,size)) places cells vs rest=nA places (ee cells off vs) rest:=by
 simp only[Gb,h]
theorem aD9 (x:Nat×Nat)(l:List (Nat×Nat)):(x::l)[0]?=some x:=(rfl)
theorem aD8 (x:Nat×Nat)(l:List (Nat×Nat))(n:Nat):(x::l)[n+1]?=l[n]?:=(rfl)
theorem Ot:jZ [] 0=true:=(rfl)
theorem Lz (x l n):jZ (x::l) (n+1)=jZ l n:=(rfl)
theorem Tr (a:Addr)(p):nQ (some none) (.pointer (some a)) w K p=pP (w.cell? a) (K · w) .mk:=(rfl)
theorem OR (n)(a:Addr)(p):nQ (some (some n)) (.pointer (some a)) w K p=pP (aB w a 0 n) (λcs=>K (.agg cs.toArray) w) .mk:=(rfl)
theorem AI (off n a)(p):nG (some (off,n)) (.pointer (some a)) L p=L (.pointer (some (a.add off))):=(rfl)
theorem UY (off)(cs:List Value)(p):Fq (some (off,none)) (.agg cs.toArray) L p=pP cs[off]? L .mk:=(rfl)
theorem Ob (off n)(cs:List Value)(p):Fq (some (off,some n)) (.agg cs.toArray) L p=L (.agg ((cs.drop off).take n).toArray):=(rfl)
theorem yL (e size arr a n c k i)(p):jW (some (e,size)) arr (.slice (some a) n c) (.int k i) L p=((0<=i/\i<n)/\L (.pointer (some (a.add (i.toNat*size))))):=by cases arr<;>rfl
theorem CL (n e size a k i)(p):jW none (some (n,e,size)) (.pointer (some a)) (.int k i) L p=((0<=i/\i<n)/\L (.pointer (some (a.add (i.toNat*size))))):=(rfl)
theorem FI (e)(l:List UInt8)(k i)(p):gA (some .string) e (str l) (some (.int k i)) none none L other p=((0<=i/\i<=l.length)/\L (str (l.drop i.toNat))):=by
 simp[gA,str,iL,List.take_of_length_le]
theorem FH (e)(l:List UInt8)(k i)(p):gA (some .string) e (str l) none (some (.int k i)) none L other p=((0<=i/\i<=l.length)/\L (str (l.take i.toNat))):=by
 simp[gA,str,iL]
theorem Ou (e)(l:List UInt8)(k i k' j)(p):gA (some .string) e (str l) (some (.int k i)) (some (.int k' j)) none L other p=((0<=i/\i<=j/\j<=l.length)/\L (str ((l.take j.toNat).drop i.toNat))):=by
 simp[gA,str,iL]
theorem add_lit (b o n:Nat):(⟨b,o,none⟩:Addr).add n=⟨b,o+n,none⟩:=by unfold Addr.add;split<;>simp_all
theorem Yr (ty x)(p):uX 0 ty x L other p=L (.iface ty x):=(rfl)
theorem Ys (ty x)(p):uX 2 ty x L other p=L (.iface ty x):=(rfl)
def A6:List Value->Value
 | [v]=>v
 | vs=>.tuple vs.toArray
theorem aEq (v:Value):A6 [v]=v:=(rfl)
theorem aEp:A6 []=.tuple #[]:=(rfl)
theorem aA1 (v u:Value)(l:List Value):A6 (v::u::l)=.tuple (v::u::l).toArray:=(rfl)
def FC (rs:List Tmp)(R:VK)(_:Ph R):EP
 | .normal,t,w=>R (A6 (rs.map (t.getD · undef))) w
 | .ret,t,w=>R (A6 (rs.map (t.getD · undef))) w
 | _,_,_=>False
theorem aAo (R:VK)(p):FC [] R p .ret t w=R (A6 []) w:=(rfl)
theorem Lj (R:VK)(p):FC [] R p .normal t w=R (A6 []) w:=(rfl)
theorem U7 (a:Tmp)(R:VK)(p):FC [a] R p .ret t w=R (t.getD a undef) w:=(rfl)
theorem Ij (a:Tmp)(R:VK)(p):FC [a] R p .normal t w=R (t.getD a undef) w:=(rfl)
theorem U8 (a b:Tmp)(R:VK)(p):FC [a,b] R p .ret t w=R (A6 [t.getD a undef,t.getD b undef]) w:=(rfl)
theorem Ik (a b:Tmp)(R:VK)(p):FC [a,b] R p .normal t w=R (A6 [t.getD a undef,t.getD b undef]) w:=(rfl)
theorem U9 (a b c:Tmp)(R:VK)(p):FC [a,b,c] R p .ret t w=R (A6 [t.getD a undef,t.getD b undef,t.getD c undef]) w:=(rfl)
theorem Il (a b c:Tmp)(R:VK)(p):FC [a,b,c] R p .normal t w=R (A6 [t.getD a undef,t.getD b undef,t.getD c undef]) w:=(rfl)
theorem ZP (g:ResultVar->Sem Value)(t:Fr)(hg:∀i,(g (.tmp i)).run P w=.ok (t.getD i undef) w)(rs:List Tmp):(Array.mapM g (rs.map ResultVar.tmp).toArray).run P w=.ok (rs.map (t.getD · undef)).toArray w:=by
 have h1:∀(rs:List Tmp),(List.mapM g (rs.map ResultVar.tmp)).run P w=.ok (rs.map (t.getD · undef)) w:=by
  intro rs;induction rs with
  | nil=>rfl
  | cons r rs ih=>simp only[List.map_cons,List.mapM_cons,Sem.run_bind,Sem.run_pure,Result.andThen_ok,hg,ih]
 rw[List.mapM_toArray,map_eq_pure_bind];simp only[Sem.run_bind,h1,Result.andThen_ok,Sem.run_pure]
theorem zW (fn:Func)(rs:List Tmp)(h:fn.results=(rs.map ResultVar.tmp).toArray)(t:Fr):(results fn t.toArray).run P w=.ok (A6 (rs.map (t.getD · undef))) w:=by
 unfold results;rw[h,Sem.run_bind,ZP (t:=t) (hg:=λi=>by simp[List.getD_eq_getElem?_getD,Array.getD_eq_getD_getElem?]),Result.andThen_ok,Sem.run_pure];congr 1;match rs with
 | []=>rfl
 | [a]=>rfl
 | a::b::l=>simp[A6]
def aw (P:Program)(f:FuncId)(args:List Value)(w:World)(R:VK):Prop :=
 (callFunc f args.toArray).run P w=.ok (.enter f args.toArray) w/\Calls P f args.toArray w λe w'=>∃v,e=.returned v/\R v w'
theorem aw.mono {f:FuncId}{args:List Value}{R R':VK}(h:aw P f args w R)(k:∀v w',R v w'->R' v w'):aw P f args w R' :=
 ⟨h.1,h.2.mono λ_ _ ⟨v,he,hr⟩=>⟨v,he,k _ _ hr⟩⟩
theorem aA {f:FuncId}{args:List Value}{R:VK}{p}(h:aw P f args w R)(k:∀v w',R v w'->K v w'):ae P f args t w K Q p:=by
 unfold ae;rw[h.1];exact h.2.mono λe w' ⟨v,he,hr⟩=>by subst he;exact k _ _ hr
theorem cC {f:FuncId}{fn:Func}{args:Array Value}(hf:P.funcs[f]?=some fn)(hb:fn.body.isNone=false)(hn:(fn.name == "runtime.NumGoroutine")=false):(callFunc f args).run P w=.ok (.enter f args) w:=by
 unfold callFunc;simp only[Sem.run_bind,program,Sem.run,Result.andThen_ok,hf,hn,hb,Bool.false_eq_true,if_false,Sem.run_pure]
def yj (args:List Value)(n:Nat):Fr:=args++List.replicate (n-args.length) undef
theorem Xm:yj [] 0=[]:=(rfl)
theorem aCh (n:Nat):yj [] (n+1)=undef::yj [] n:=by simp[yj,List.replicate_succ]
theorem Xl (a:Value)(l:List Value)(n:Nat):yj (a::l) (n+1)=a::yj l n:=by simp[yj]
attribute [push_cast] Xm aCh Xl
theorem aD {f:FuncId}{fn:Func}{c:Code}{args:List Value}{R:VK}(hf:P.funcs[f]?=some fn)(hb:fn.body=some c)(hn:(fn.name == "runtime.NumGoroutine")=false)
  (rs:List Tmp) (iW:fn.results=(rs.map ResultVar.tmp).toArray) (h:vc P c (FC rs R .mk) (yj args fn.ntmps) w .mk):aw P f args w R:=by
 refine⟨cC hf (by simp[hb]) hn,calls_of_wp hf hb ?_⟩;have h1:=tq c _ _ w h;unfold dN at h1;have e:(args.toArray++Array.replicate (fn.ntmps-args.toArray.size) undef)=(yj args fn.ntmps).toArray:=by simp[yj]
 rw[e];refine Code.wp_mono ?_ h1;rintro e a w' ⟨hd,hh⟩;have ha:a.tmps.toList.toArray=a.tmps:=by simp
 cases e<;>simp only[FC]at hh<;>first|exact hh.elim|skip
 ·exact⟨hd,_,by rw[<-ha];exact zW fn rs iW _,_,rfl,hh⟩
 exact⟨hd,_,by rw[<-ha];exact zW fn rs iW _,_,rfl,hh⟩
def at_ (t:Fr):Nat->Value:=λm=>t.getD m undef
def ov (t:Fr)(M:List Nat)(z:Nat->Value):Fr:=M.foldl (λt m=>t.set m (z m)) t
theorem aJY (t:Fr)(m:Nat):at_ t m=t.getD m undef:=(rfl)
theorem aIw (t:Fr)(z):ov t [] z=t:=(rfl)
theorem aD5 (t:Fr)(m M z):ov t (m::M) z=ov (t.set m (z m)) M z:=(rfl)
theorem aFR (M:List Nat):∀t:Fr,ov t M (at_ t)=t:=by
 have:∀(M:List Nat) (t u:Fr),t=u->M.foldl (λt m=>t.set m (at_ u m)) t=u:=by
  intro M;induction M with
  | nil=>intro t u h;exact h
  | cons m M ih =>
   intro t u h;subst h;simp only[List.foldl_cons];refine ih _ _ ?_;unfold at_;by_cases hm:m<t.length
   ·exact lI t m hm
   rw[List.set_eq_of_length_le (by omega)]
 exact λt=>this M t t rfl
theorem aK {c:Code}{p}(M:List Nat)(I:(Nat->Value)->World->Prop)(μ:(Nat->Value)->World->Nat)(h0:I (at_ t) w)
  (hr:∀z w',I z w'->vc P c (uj (λt'' bQ=>t''=ov t M (at_ t'')/\I (at_ t'') bQ/\μ (at_ t'') bQ<μ z w') Q .mk) (ov t M z) w' .mk):dN P (.loop c) Q t w p:=by
 unfold dN;refine wp_loop (λa w'=>a.defers=[]/\a.tmps.toList=ov t M (at_ a.tmps.toList)/\I (at_ a.tmps.toList) w') (λa w'=>μ (at_ a.tmps.toList) w') ⟨rfl,by simp[aFR],by simpa using h0⟩ ?_;rintro a w' ⟨hd,ht,hI⟩;have h1:=tq c _ _ w' (hr _ w' hI);unfold dN at h1;rw[<-ht]at h1;rw[NB hd];refine Code.wp_mono ?_ h1;rintro e a' bQ ⟨hd',hh⟩;cases e<;>simp only[uj]at hh<;>simp only[Exit.then]<;>first|exact⟨hd',hh⟩|skip
 exact⟨⟨hd',hh.1,hh.2.1⟩,by simpa using hh.2.2⟩
end
attribute [push_cast] aCe Xg aGs Xf Sa aCd aAd aAc Xu Xt aAG aAF aEO VN aEK aJb aEJ aA5 aEL aJa aA6 aEM aEN aA7 JG Lu aAD Um Un DY EL NL J6 vO yd Gd VL M4 M3 MB MA Zg Sg KR aKr aKo aKq aKp Xs XL XK SA SB Xr Xq Zs Zr Ze O6 Zf aD0 aIt L5 L4 UP I2 Zb aD2 aD3 aD4 Zd UT Et UN Eu US UO aD1 UL UM Cs Ev L6 O8 Ew O7 Cv UQ UR O5 Zc Se NH Ro NI NJ NG WT W9 W0 W5 W6 WU aBH Wa J5 WV W4 WZ WY WX WW W7 W8 G7 G8 G9 BJ BK BH BI G5 G6 BL BM EG EH G3 G4 xf EI aGp aGo aDW aDV aGq aGr aDX aDY eq_6 aMP N2 Jv Rr aKe aKf aKg aKh aKi aKj aIl aIm aIn aIo aIp aIq aIu aIv aB7 aB8 Eo Kv aEG aEF Bh PJ PI UU ZH OQ SC SD OK aDH aDI map_nil map_cons aBE aDZ XM UK UJ isSome_some Ji B8 NP Jd EN NR BR Gh NQ Je BQ Gg AF NO ME MC MD Ja NN Jb Gc aD9 aD8 Ot Lz Tr OR AI UY Ob yL CL FI FH Ou add_lit Yr Ys aEq aEp aA1 aAo Lj U7 Ij U8 Ik U9 Il
attribute [push_cast] aJY aIw aD5 List.length_cons List.length_nil Bool.true_and Bool.and_true Int.toNat_natCast if_true ite_true Int.le_refl true_and and_true and_self implies_true Int.toNat_zero Nat.zero_add
def chain (P:Program)(o:Oper):Bool:=match o.op with
 | .convert _ d _=>!((P.underlying d) matches some (.int _))
 | .move _|.assign _|.pick ..|.binOp ..|.unOp ..|.extract ..|.index ..|.build ..|.makeFunc ..|.fieldAddr ..|.field ..|.indexAddr ..|.slice ..|.makeInterface ..|.load ..=>false
 | .call { callee:=.builtin .len,.. }|.call { callee:=.builtin .max,.. }|.call { callee:=.builtin .min,.. }=>false
 | .nilCheck _=>false
 | _=>true
section
variable {P:Program} {ops:Array Oper} {md:Region.Mode} {C:World->Prop}
def tQ (P:Program)(a:Act)(dst:Option Tmp)(C:World->Prop)(K:Act->World->Prop):Result Next->Prop
 | .ok (.value v) w'=>C w'/\K (a.put dst v) w'
 | .ok .skip w'=>C w'/\K (a.put dst undef) w'
 | .ok (.enter f args) w'=>Calls P f args w' λe bQ=>∃v,e=.returned v/\C bQ/\K (a.put dst v) bQ
 | _=>False
theorem GD {a:Act}{dst:Option Tmp}{K:Act->World->Prop}{r:Result Next}(h:tQ P a dst C K r):∃v w',C w'/\K (a.put dst v) w':=by
 cases r with
 | halt x w'=>simp only[tQ]at h
 | ok n w' =>
  cases n<;>simp only[tQ]at h
  case value v=>exact⟨_,_,h⟩
  case skip=>exact⟨_,_,h⟩
  case enter f args =>
   obtain⟨e,bQ,_,⟨v,_,hc,hk⟩,_⟩:=h [];exact⟨v,bQ,hc,hk⟩
theorem kZ {a b:Act}{dst:Option Tmp}{K K':Act->World->Prop}{r:Result Next}(hk:∀v w',C w'->K (a.put dst v) w'->K' (b.put dst v) w')(h:tQ P a dst C K r):tQ P b dst C K' r:=by
 cases r with
 | halt x w'=>simp only[tQ]at h
 | ok n w' =>
  cases n<;>simp only[tQ]at h ⊢
  case value v=>exact⟨h.1,hk _ _ h.1 h.2⟩
  case skip=>exact⟨h.1,hk _ _ h.1 h.2⟩
  case enter f args=>exact h.mono λe bQ ⟨v,he,hc,hh⟩=>⟨v,he,hc,hk _ _ hc hh⟩
theorem me {o:Oper}{a:Act}{K:Act->World->Prop}{Q:Exit->Act->World->Prop}{r:Result Next}(h:tQ P a o.dst C K r):o.upon P a (λa' w'=>C w'/\K a' w') Q r:=by
 cases r with
 | halt x w'=>simp only[tQ]at h
 | ok n w' =>
  cases n<;>simp only[tQ]at h<;>simp only[Oper.upon]
  case value v=>exact h
  case skip=>exact h
  case enter f args=>exact h.mono λe bQ ⟨v,he,hh⟩=>by subst he;exact hh
def bH (P:Program)(ops:Array Oper)(C:World->Prop)(i:Nat)(K:Act->World->Prop)(a:Act)(w:World):Prop :=
 match ops[i]? with
 | none=>K a w
 | some o =>
  if Region.wanted o (yielded ops a.tmps) then
   if chain P o then tQ P a o.dst C K ((execOp a.eval o).run P w)
   else ∃v,(∀w',C w'->(execOp a.eval o).run P w'=.ok (.value v) w')/\K (a.put o.dst v) w
  else K (a.put o.dst undef) w
theorem cE {i:Nat}{K K':Act->World->Prop}{a:Act}{w:World}(hC:C w)(hk:∀a w,C w->K a w->K' a w)(h:bH P ops C i K a w):bH P ops C i K' a w:=by
 unfold bH at *
 split
 ·rename_i ho;simp only[ho]at h;exact hk _ _ hC h
 rename_i o ho;simp only[ho]at h;split
 ·rename_i hw;simp only[hw,if_true]at h;split
  ·rename_i hc;simp only[hc,if_true]at h;exact kZ (λv w' vD hh=>hk _ _ vD hh) h
  rename_i hc;simp only[hc]at h;obtain⟨v,h1,h2⟩:=h;exact⟨v,h1,hk _ _ hC h2⟩
 rename_i hw;simp only[hw]at h;exact hk _ _ hC h
theorem qK {i:Nat}{K:Act->World->Prop}{a:Act}{w:World}(hC:C w)(h:bH P ops C i K a w):∃a' w',C w'/\K a' w':=by
 unfold bH at h;split at h
 ·exact⟨_,_,hC,h⟩
 split at h
 ·split at h
  ·obtain⟨v,w',hh⟩:=GD h;exact⟨_,_,hh⟩
  obtain⟨v,_,hh⟩:=h;exact⟨_,_,hC,hh⟩
 exact⟨_,_,hC,h⟩
theorem dL {i:Nat}{o:Oper}{K:Act->World->Prop}{a:Act}{w:World}(hi:ops[i]?=some o)(hw:Region.wanted o (yielded ops a.tmps)=false):bH P ops C i K a w=K (a.put o.dst undef) w:=by
 unfold bH;simp[hi,hw]
theorem eR {i:Nat}{o:Oper}{K:Act->World->Prop}{a:Act}{w:World}(hi:ops[i]?=some o)(hw:Region.wanted o (yielded ops a.tmps)=true)(hc:chain P o=true):bH P ops C i K a w=tQ P a o.dst C K ((execOp a.eval o).run P w):=by
 unfold bH;simp[hi,hw,hc]
theorem bU {i:Nat}{o:Oper}{K:Act->World->Prop}{a:Act}{w:World}(hi:ops[i]?=some o)(hw:Region.wanted o (yielded ops a.tmps)=true)(hc:chain P o=false):bH P ops C i K a w=∃v,(∀w',C w'->(execOp a.eval o).run P w'=.ok (.value v) w')/\K (a.put o.dst v) w:=by
 unfold bH;simp[hi,hw,hc]
theorem nR {i j:Nat}{oi oj:Oper}{K:Act->World->Prop}{a:Act}{w:World}(hi:ops[i]?=some oi)(hj:ops[j]?=some oj)(uK:oi.apart ops oj=true)(VZ:(chain P oi && chain P oj)=false)
  (hsi:∀cs b,oi.op≠.select cs b) (hsj:∀cs b,oj.op≠.select cs b) (h:bH P ops C i (bH P ops C j K) a w):bH P ops C j (bH P ops C i K) a w:=by
 obtain⟨h1,h2,h3⟩:=Oper.apart_spec uK;have ej:∀(b:Act) (v:Value),execOp (b.put oi.dst v).eval oj=execOp b.eval oj:=λb v=>execOp_put oj hsj b oi.dst v h1;have ei:∀(b:Act) (v:Value),execOp (b.put oj.dst v).eval oi=execOp b.eval oi:=λb v=>execOp_put oi hsi b oj.dst v h3;have wj:∀(b:Act) (v:Value),Region.wanted oj (yielded ops (b.put oi.dst v).tmps)=Region.wanted oj (yielded ops b.tmps):=λb v=>wanted_put oj b oi.dst v h1;have wi:∀(b:Act) (v:Value),Region.wanted oi (yielded ops (b.put oj.dst v).tmps)=Region.wanted oi (yielded ops b.tmps):=λb v=>wanted_put oi b oj.dst v h3;have cm:∀(b:Act) (v u:Value),(b.put oi.dst v).put oj.dst u=(b.put oj.dst u).put oi.dst v:=λb v u=>Act.put_comm b v u h2;cases gu:Region.wanted oi (yielded ops a.tmps) with
 | false =>
  rw[dL hi gu]at h;cases gF:Region.wanted oj (yielded ops a.tmps) with
  | false =>
   rw[dL hj (by rw[wj];exact gF)]at h;rw[dL hj gF,dL hi (by rw[wi];exact gu),<-cm];exact h
  | true =>
   cases rT:chain P oj with
   | true =>
    rw[eR hj (by rw[wj];exact gF) rT,ej]at h;rw[eR hj gF rT];refine kZ (λv w' _ hh=>?_) h;rw[dL hi (by rw[wi];exact gu),<-cm];exact hh
   | false =>
    rw[bU hj (by rw[wj];exact gF) rT,ej]at h;rw[bU hj gF rT];obtain⟨v,hv,hk⟩:=h;refine⟨v,hv,?_⟩;rw[dL hi (by rw[wi];exact gu),<-cm];exact hk
 | true =>
  cases EY:chain P oi with
  | true =>
   have rT:chain P oj=false:=by simpa[EY] using VZ
   rw[eR hi gu EY]at h;cases gF:Region.wanted oj (yielded ops a.tmps) with
   | false =>
    rw[dL hj gF,eR hi (by rw[wi];exact gu) EY,ei];refine kZ (λv w' _ hh=>?_) h;rw[dL hj (by rw[wj];exact gF)]at hh;rw[<-cm];exact hh
   | true =>
    obtain⟨v,w',vD,hh⟩:=GD h;rw[bU hj (by rw[wj];exact gF) rT,ej]at hh;obtain⟨u,hu,hk⟩:=hh;rw[bU hj gF rT];refine⟨u,hu,?_⟩;rw[eR hi (by rw[wi];exact gu) EY,ei];refine kZ (λv' bQ aMu hh=>?_) h;rw[bU hj (by rw[wj];exact gF) rT,ej]at hh;obtain⟨u',JV,Dy⟩:=hh;have e:=(hu bQ aMu).symm.trans (JV bQ aMu);injection e with e1 _;injection e1 with e2;subst e2;rw[<-cm];exact Dy
  | false =>
   rw[bU hi gu EY]at h;obtain⟨v,hv,hk⟩:=h;cases gF:Region.wanted oj (yielded ops a.tmps) with
   | false =>
    rw[dL hj (by rw[wj];exact gF)]at hk;rw[dL hj gF,bU hi (by rw[wi];exact gu) EY,ei];exact⟨v,hv,by rw[<-cm];exact hk⟩
   | true =>
    cases rT:chain P oj with
    | true =>
     rw[eR hj (by rw[wj];exact gF) rT,ej]at hk;rw[eR hj gF rT];refine kZ (λu w' _ hh=>?_) hk;rw[bU hi (by rw[wi];exact gu) EY,ei];exact⟨v,hv,by rw[<-cm];exact hh⟩
    | false =>
     rw[bU hj (by rw[wj];exact gF) rT,ej]at hk;rw[bU hj gF rT];obtain⟨u,hu,hk⟩:=hk;refine⟨u,hu,?_⟩;rw[bU hi (by rw[wi];exact gu) EY,ei];exact⟨v,hv,by rw[<-cm];exact hk⟩
def zm (P:Program)(md:Region.Mode)(ops:Array Oper)(C:World->Prop)(R:Act->World->Prop):Nat->Array Bool->Act->World->Prop
 | 0,listed,a,w=>Region.ready md ops listed=[]/\R a w
 | fuel+1,listed,a,w=>(Region.ready md ops listed=[]->R a w)/\∀i∈Region.ready md ops listed,bH P ops C i (zm P md ops C R fuel (listed.setIfInBounds i true)) a w
theorem fm {R:Act->World->Prop}{Q:Exit->Act->World->Prop}(hq:∀a w,R a w->Q .normal a w):∀(fuel:Nat) (listed:Array Bool) (a:Act) (w:World),C w ->
  zm P md ops C R fuel listed a w->wpAny P md ops Q fuel listed a w
 | 0,_,_,_,_,h=>⟨h.1,hq _ _ h.2⟩
 | fuel+1,listed,a,w,hC,h=>⟨λh0=>hq _ _ (h.1 h0),λi hi=>by
   have h1:=h.2 i hi;unfold bH at h1;unfold wpOp;split
   ·rename_i ho;simp only[ho]at h1;exact fm hq fuel _ _ _ hC h1
   rename_i o ho;simp only[ho]at h1;split
   ·rename_i hw;simp only[hw,if_true]at h1;refine .inl ?_;split at h1
    ·exact Oper.wp_mono (λa' w' hh=>fm hq fuel _ _ _ hh.1 hh.2) (me h1)
    obtain⟨v,hv,hk⟩:=h1;unfold Oper.wp;rw[hv w hC];exact fm hq fuel _ _ _ hC hk
   rename_i hw;simp only[hw]at h1;exact fm hq fuel _ _ _ hC h1⟩
theorem yb (ops:List Oper)(acc:Array Nat):∃l:List Nat,(ops.foldl (init:=acc) λacc o=>acc.push (o.after.foldl (λs e=>if Region.binds .any e then s ||| 2 ^ e.on ||| acc.getD e.on 0 else s) 0))=acc++l.toArray/\l.length=ops.length:=by
 induction ops generalizing acc with
 | nil=>exact⟨[],by simp⟩
 | cons o r ih =>
  simp only[List.foldl_cons];obtain⟨l,h1,h2⟩:=ih (acc.push (o.after.foldl (λs e=>if Region.binds .any e then s ||| 2 ^ e.on ||| acc.getD e.on 0 else s) 0))
  exact⟨_::l,by rw[h1];apply Array.ext';simp;rfl,by simp[h2]⟩
theorem FP (b:Nat->Nat)(i:Nat):∀(es:List Edge) (s:Nat),(es.foldl (λs e=>if Region.binds .any e then s ||| 2 ^ e.on ||| b e.on else s) s).testBit i=true ->
  s.testBit i=true\/∃e∈es,Region.binds .any e=true/\(e.on=i\/(b e.on).testBit i=true)
 | [],s,h=>.inl h
 | e::es,s,h=>by
  simp only[List.foldl_cons]at h;rcases FP b i es _ h with h|⟨e',QO,hh⟩
  ·split at h
   ·rename_i hb;simp only[Nat.testBit_or,Bool.or_eq_true]at h;rcases h with (h|h)|h
    ·exact .inl h
    ·refine .inr ⟨e,by simp,hb,.inl ?_⟩;rw[Nat.testBit_two_pow]at h;simpa using h
    exact .inr ⟨e,by simp,hb,.inr h⟩
   exact .inl h
  exact .inr ⟨e',by simp[QO],hh⟩
theorem J4 {j i:Nat}{o:Oper}(hj:ops[j]?=some o)(h:((Region.before ops).getD j 0).testBit i=true) :
  ∃e∈o.after,Region.binds .any e=true/\(e.on=i\/(e.on<j/\((Region.before ops).getD e.on 0).testBit i=true)):=by
 have aq:j<ops.size:=(Array.getElem?_eq_some_iff.1 hj).1;have split:ops.toList=ops.toList.take j++o::ops.toList.drop (j+1):=by
  have Vf:ops.toList[j]?=some o:=by rw[Array.getElem?_toList];exact hj
  have rW:j<ops.toList.length:=by simpa using aq
  have:ops.toList[j]=o:=by rw[List.getElem?_eq_getElem rW]at Vf;simpa using Vf
  rw[<-this,<-List.drop_eq_getElem_cons rW,List.take_append_drop]
 obtain⟨l1,e1,n1⟩:=yb (ops.toList.take j) #[];have hn1:l1.length=j:=by rw[n1,List.length_take];simp;omega
 have e1':=e1.trans (show (#[]:Array Nat)++l1.toArray=l1.toArray by simp)
 obtain⟨l2,e2,_⟩:=yb (ops.toList.drop (j+1)) (l1.toArray.push (o.after.foldl (λs e=>if Region.binds .any e then s ||| 2 ^ e.on ||| l1.toArray.getD e.on 0 else s) 0))
 have hb:Region.before ops=l1.toArray.push (o.after.foldl (λs e=>if Region.binds .any e then s ||| 2 ^ e.on ||| l1.toArray.getD e.on 0 else s) 0)++l2.toArray:=by
  unfold Region.before;rw[<-Array.foldl_toList,split,List.foldl_append,List.foldl_cons,e1',e2]
 have AR:∀m,m<j->(Region.before ops).getD m 0=l1.toArray.getD m 0:=by
  intro m hm;rw[hb];simp only[Array.getD_eq_getD_getElem?];congr 1;rw[Array.getElem?_append_left (by simp;omega),Array.getElem?_push_lt (by simp;omega)];simp[hn1,hm]
 have aMm:(Region.before ops).getD j 0=o.after.foldl (λs e=>if Region.binds .any e then s ||| 2 ^ e.on ||| l1.toArray.getD e.on 0 else s) 0:=by
  rw[hb];simp only[Array.getD_eq_getD_getElem?];rw[Array.getElem?_append_left (by simp;omega)];have:j=l1.toArray.size:=by simp[hn1]
  rw[this];simp
 rw[aMm,<-Array.foldl_toList]at h;rcases FP (λm=>l1.toArray.getD m 0) i o.after.toList 0 h with h|⟨e,he,qp,hh⟩
 ·simp at h
 refine⟨e,by simpa using he,qp,?_⟩;rcases hh with hh|hh
 ·exact .inl hh
 by_cases hm:e.on<j
 ·exact .inr ⟨hm,by rw[AR _ hm];exact hh⟩
 have:l1.toArray.getD e.on 0=0:=by simp[Array.getD_eq_getD_getElem?,List.getElem?_eq_none (show l1.length<=e.on by omega)]
 rw[this]at hh;simp at hh
def qk (ops:Array Oper)(listed:Array Bool):Prop:=∀(j:Nat) (o:Oper),ops[j]?=some o->listed.getD j false=true->∀e∈o.after,Region.binds .any e=true->listed.getD e.on false=true
theorem qk.set {listed:Array Bool}{i:Nat}(h:qk ops listed)(hi:i∈Region.ready .any ops listed):qk ops (listed.setIfInBounds i true):=by
 intro j o hj hl e he hb;obtain⟨_,o',ho',cg⟩:=mem_ready.1 hi;by_cases hij:i=j
 ·subst hij;rw[hj]at ho';cases ho';exact getD_set_true (cg e he hb)
 rw[getD_set_ne false hij]at hl;exact getD_set_true (h j o hj hl e he hb)
theorem qk.before {listed:Array Bool}(h:qk ops listed):∀(j i:Nat) (o:Oper),ops[j]?=some o->(∀e∈o.after,Region.binds .any e=true->listed.getD e.on false=true) ->
  ((Region.before ops).getD j 0).testBit i=true->listed.getD i false=true:=by
 intro j;induction j using Nat.strongRecOn with
 | _ j ih =>
  intro i o hj cg hb;obtain⟨e,he,qp,hh⟩:=J4 hj hb;have hl:=cg e he qp;rcases hh with hh|⟨aq,hh⟩
  ·rw[hh]at hl;exact hl
  have ED:e.on<ops.size:=by
   have:=(Array.getElem?_eq_some_iff.1 hj).1;omega
  exact ih e.on aq i ops[e.on] (by simp[ED]) (λe' QO Dw=>h e.on ops[e.on] (by simp[ED]) hl e' QO Dw) hh
theorem zt {R:Act->World->Prop}{i:Nat}{oi:Oper}(hi:ops[i]?=some oi)(qD:∀(j:Nat) (o:Oper) cs b,ops[j]?=some o->o.op≠.select cs b) :
  ∀(fuel:Nat) (listed:Array Bool) (a:Act) (w:World),C w->qk ops listed ->
   (∀j oj,ops[j]?=some oj->j≠i->listed.getD j true=false->((Region.before ops).getD j 0).testBit i=false->oi.apart ops oj=true/\(chain P oi && chain P oj)=false) ->
   i∈Region.ready .any ops listed->bH P ops C i (zm P .any ops C R fuel (listed.setIfInBounds i true)) a w->zm P .any ops C R (fuel+1) listed a w:=by
 intro fuel;induction fuel with
 | zero =>
  intro listed a w hC _ _ hr H;refine⟨λh=>(by rw[h]at hr;cases hr),λj hj=>?_⟩;by_cases oA:j=i
  ·subst oA;exact H
  have:=ready_mono hj oA;obtain⟨_,_,_,hh⟩:=qK hC H;rw[hh.1]at this;cases this
 | succ fuel ih =>
  intro listed a w hC hS mG hr H;refine⟨λh=>(by rw[h]at hr;cases hr),λj hj=>?_⟩;by_cases oA:j=i
  ·subst oA;exact H
  have h1:bH P ops C i (bH P ops C j (zm P .any ops C R fuel ((listed.setIfInBounds i true).setIfInBounds j true))) a w :=
   cE hC (λa' w' _ hh=>hh.2 j (ready_mono hj oA)) H
  obtain⟨vv,oj,rX,cg⟩:=mem_ready.1 hj;have Hr:listed.getD i false=false:=by
   have h0:=(mem_ready.1 hr).1;rcases Nat.lt_or_ge i listed.size with h'|h'
   ·simp[h']at h0 ⊢;exact h0
   simp[Array.getElem?_eq_none h']
  have CA:((Region.before ops).getD j 0).testBit i=false:=by
   cases hb:((Region.before ops).getD j 0).testBit i with
   | false=>rfl
   | true=>have:=hS.before j i oj rX cg hb;rw[Hr]at this;cases this
  obtain⟨uK,VZ⟩:=mG j oj rX oA vv CA;have h2:=nR hi rX uK VZ (λcs b=>qD i oi cs b hi) (λcs b=>qD j oj cs b rX) h1;refine cE hC (λa' w' uI h3=>ih (listed.setIfInBounds j true) a' w' uI (hS.set hj) ?_ (ready_mono hr (Ne.symm oA)) ?_) h2
  ·intro k ok hk Ke CG ep;refine mG k ok hk Ke ?_ ep;by_cases Nu:j=k
   ·subst Nu;exact vv
   rw[getD_set_ne true Nu]at CG;exact CG
  rw[Array.setIfInBounds_comm _ _ oA];exact h3
def mY (P:Program)(ops:Array Oper)(bf:Array Nat)(listed:Array Bool)(i:Nat):Bool :=
 match ops[i]? with
 | none=>false
 | some oi=>(List.range ops.size).all λj=>j == i || listed.getD j true || match ops[j]? with
   | some oj=>(bf.getD j 0).testBit i || (oi.apart ops oj && !(chain P oi && chain P oj))
   | none=>true
theorem fh {i:Nat}{oi:Oper}{listed:Array Bool}(hi:ops[i]?=some oi)(h:mY P ops (Region.before ops) listed i=true)(j:Nat)(oj:Oper)
  (hj:ops[j]?=some oj) (cf:j≠i) (CG:listed.getD j true=false) (ep:((Region.before ops).getD j 0).testBit i=false) :
  oi.apart ops oj=true/\(chain P oi && chain P oj)=false:=by
 simp only[mY,hi,List.all_eq_true,List.mem_range]at h;have h1:=h j (Array.getElem?_eq_some_iff.1 hj).1;simp only[hj,Bool.or_eq_true,beq_iff_eq,cf,false_or,CG,Bool.false_eq_true,ep]at h1;simp only[Bool.and_eq_true,Bool.not_eq_true']at h1;exact h1
def wX (P:Program)(ops:Array Oper)(bf:Array Nat):Nat->Nat->Array Bool->Bool
 | 0,_,listed=>(Region.ready .any ops listed).isEmpty
 | fuel+1,k,listed=>(Region.ready .any ops listed).contains k && mY P ops bf listed k && wX P ops bf fuel (k+1) (listed.setIfInBounds k true)
def aDF (P:Program)(ops:Array Oper):Bool:=Region.noSelect ops && wX P ops (Region.before ops) ops.size 0 (Array.replicate ops.size false)
def Dh (P:Program)(ops:Array Oper)(C:World->Prop)(R:Act->World->Prop):List Nat->Act->World->Prop
 | [],a,w=>R a w
 | i::r,a,w=>bH P ops C i (Dh P ops C R r) a w
theorem y8 {R:Act->World->Prop}(hs:Region.noSelect ops=true):∀(n k:Nat) (listed:Array Bool) (a:Act) (w:World),k+n=ops.size->C w->qk ops listed ->
  wX P ops (Region.before ops) n k listed=true->Dh P ops C R (List.range' k n) a w->zm P .any ops C R n listed a w
 | 0,_,_,_,_,_,_,_,hB,h=>⟨by simpa[wX] using hB,h⟩
 | n+1,k,listed,a,w,hk,hC,hS,hB,h=>by
  simp only[wX,Bool.and_eq_true]at hB;obtain⟨⟨hr,hf⟩,nz⟩:=hB;have aq:k<ops.size:=by omega
  have jh:k∈Region.ready .any ops listed:=by simpa using hr
  refine zt (i:=k) (oi:=ops[k]) (by simp[aq]) (Region.noSelect_spec hs) n listed a w hC hS (fh (by simp[aq]) hf) jh ?_;simp only[List.range'_succ,Dh]at h;exact cE hC (λa' w' uI hh=>y8 hs n (k+1) _ a' w' (by omega) uI (hS.set jh) nz hh) h
end
section
variable {P:Program}
def LX:EP:=λ_ _ _=>False
def LW (x:Value)(K:VP)(other:Prop)(_:Ph (K,other)):Prop:=match x with|.pointer (some _)=>K x|_=>other
def eG (P:Program)(o:Oper)(t:Fr)(w:World)(C:World->Prop)(K:VK)(_:Ph (o,C,K)):Prop :=
 match o.op with
 | .load ty a=>nQ (lC P ty) (ev t a) w (λv w'=>(∀bQ,C bQ->nQ (lC P ty) (ev t a) bQ (λu _=>u=v) .mk)/\K v w') .mk
 | .nilCheck x=>LW (ev t x) (K · w) False .mk
 | _=>if chain P o then cJ P o t w (λv w'=>C w'/\K v w') LX .mk else a7 P o t (K · w) False .mk
def nY (P:Program)(ops:List Oper)(C:World->Prop)(R:Fr->World->Prop):(l:List Oper)->Fr->World->Ph (ops,C,R,l)->Prop
 | [],t,w,_=>R t w
 | o::r,t,w,_=>match o.guard with
  | none=>eG P o t w C (λv w'=>nY P ops C R r (put t o.dst v) w' .mk) .mk
  | some (j,want)=>iq (j0 ops j) want t (λt'=>eG P o t' w C (λv w'=>nY P ops C R r (put t' o.dst v) w' .mk) .mk) (λt'=>nY P ops C R r (put t' o.dst undef) w .mk) .mk
theorem Ii {t:Fr}{dst:Option Tmp}{C:World->Prop}{K:VK}{N:Act->World->Prop}(hn:∀v w',K v w'->N ⟨(put t dst v).toArray,[]⟩ w'){r:Result Next}(h:tR P t (λv w'=>C w'/\K v w') LX r):tQ P ⟨t.toArray,[]⟩ dst C N r:=by
 cases r with
 | halt x w'=>cases x<;>simp only[tR,LX]at h
 | ok n w' =>
  cases n<;>simp only[tR]at h<;>simp only[tQ]
  case value v=>exact⟨h.1,by rw[put_eq];exact hn _ _ h.2⟩
  case skip=>exact⟨h.1,by rw[put_eq];exact hn _ _ h.2⟩
  case enter f args =>
   refine h.mono λe bQ he=>?_;cases e with
   | returned v=>exact⟨v,rfl,he.1,by rw[put_eq];exact hn _ _ he.2⟩
   | panicked c=>exact he.elim
   | outgrown=>exact he.elim
theorem pK {o:Oper}{ty:TypeId}{x:Operand}{t:Fr}{w:World}{K:VK}(ho:o.op=.load ty x)(h:nQ (lC P ty) (ev t x) w K .mk):∃v,(execOp (ev t) o).run P w=.ok (.value v) w/\K v w:=by
 unfold nQ at h;split at h
 ·rename_i a ht hx;obtain⟨v,hc,hk⟩:=j9 h;refine⟨v,?_,hk⟩;unfold execOp;simp[ho,hx,Instr.loadAt,Instr.sureAddr,loadVar,(oJ ht w).1,load,Sem.run,hc]
 ·rename_i n a ht hx;obtain⟨v,hc,hk⟩:=j9 h;refine⟨_,?_,hk⟩;unfold execOp;simp[ho,hx,Instr.loadAt,Instr.sureAddr,loadVar,(jP ht w).1,(jP ht w).2,loadCells,run_loadCellsFrom (P:=P) w a n 0 #[] v hc]
 exact h.elim
theorem fx {ops:List Oper}{i:Nat}{o:Oper}{C:World->Prop}{t:Fr}{w:World}{K:VK}{N:Act->World->Prop}(hi:ops[i]?=some o)(hw:Region.wanted o (yielded ops.toArray t.toArray)=true)
  (hn:∀v w',K v w'->N ⟨(put t o.dst v).toArray,[]⟩ w') (h:eG P o t w C K .mk):bH P ops.toArray C i N ⟨t.toArray,[]⟩ w:=by
 unfold bH;simp only[List.getElem?_toArray,hi,hw,if_true,ny];unfold eG at h;split at h
 ·rename_i ty x ho;have hc:chain P o=false:=by simp[chain,ho]
  simp only[hc,Bool.false_eq_true,if_false];obtain⟨v,hr,cg,hk⟩:=pK ho h;refine⟨v,λw' vD=>?_,by rw[put_eq];exact hn _ _ hk⟩;obtain⟨u,hu,hv⟩:=pK ho (cg w' vD);rw[hu,hv]
 ·rename_i x ho;have hc:chain P o=false:=by simp[chain,ho]
  simp only[hc,Bool.false_eq_true,if_false];unfold LW at h;split at h
  ·rename_i a hx;refine⟨_,λw' _=>?_,by rw[put_eq];exact hn _ _ h⟩;unfold execOp;simp only[ho,hx];rfl
  exact h.elim
 split at h
 ·rename_i hc;simp only[hc,if_true];exact Ii hn (I5 h)
 rename_i hc;simp only[hc];rcases sA h with h|⟨v,hg,hk⟩
 ·exact h.elim
 exact⟨v,λw' _=>hg w',by rw[put_eq];exact hn _ _ hk⟩
theorem u6 {ops:List Oper}{i:Nat}{o:Oper}{C:World->Prop}{t:Fr}{w:World}{N:Act->World->Prop}(hi:ops[i]?=some o)(hw:Region.wanted o (yielded ops.toArray t.toArray)=false)
  (h:N ⟨(put t o.dst undef).toArray,[]⟩ w):bH P ops.toArray C i N ⟨t.toArray,[]⟩ w:=by
 unfold bH;simp only[List.getElem?_toArray,hi,hw,Bool.false_eq_true,if_false];rw[put_eq];exact h
theorem lS {ops:List Oper}{o:Oper}{j:Nat}{want:Bool}(hg:o.guard=some (j,want)){t:Fr}{yes no:Fr->Prop}(h:iq (j0 ops j) want t yes no .mk) :
  (Region.wanted o (yielded ops.toArray t.toArray)=true/\yes t)\/(Region.wanted o (yielded ops.toArray t.toArray)=false/\no t):=by
 have oB:Region.wanted o (yielded ops.toArray t.toArray)=(yielded ops.toArray t.toArray j == some want):=by simp only[Region.wanted,hg]
 unfold iq at h;split at h
 ·rename_i hs;exact .inr ⟨by rw[oB,gb,hs];rfl,h⟩
 rename_i s hs;split at h
 ·rename_i b hb;have aq:s<t.length:=by
   rcases Nat.lt_or_ge s t.length with h'|h'
   ·exact h'
   simp[List.getD_eq_getElem?_getD,List.getElem?_eq_none h',undef]at hb
  have hv:t[s]?=some (.bool b):=by
   rw[List.getD_eq_getElem?_getD]at hb;rw[List.getElem?_eq_getElem aq]at hb ⊢
   simpa using hb
  have hy:yielded ops.toArray t.toArray j=some b:=by rw[gb,hs];simp[hv]
  have same:=lI t s aq;rw[hb]at same;by_cases hbw:b=want
  ·subst hbw;have h1:=h.1 rfl;rw[same]at h1;exact .inl ⟨by rw[oB,hy];simp,h1⟩
  have hbn:b=!want:=by cases b<;>cases want<;>simp_all
  have h2:=h.2 hbn;rw[<-hbn,same]at h2;exact .inr ⟨by rw[oB,hy];simpa using hbw,h2⟩
 rename_i hb;refine .inr ⟨?_,h⟩;rw[oB,gb,hs];simp only[Option.bind_some];cases hv:t[s]? with
 | none=>rfl
 | some v =>
  have:t.getD s undef=v:=by rw[List.getD_eq_getElem?_getD,hv];rfl
  rw[this]at hb;cases v<;>simp at hb ⊢
theorem sP {ops:List Oper}{C:World->Prop}{R:Fr->World->Prop}{N:Act->World->Prop}(hn:∀t w,R t w->N ⟨t.toArray,[]⟩ w):∀(l:List Oper) (k:Nat) (t:Fr) (w:World),(∀j,l[j]?=ops[k+j]?) ->
  nY P ops C R l t w .mk->Dh P ops.toArray C N (List.range' k l.length) ⟨t.toArray,[]⟩ w
 | [],_,_,_,_,h=>hn _ _ h
 | o::r,k,t,w,hl,h=>by
  have h0:ops[k]?=some o:=by simpa using(hl 0).symm
  have ih:=λt w=>sP (C:=C) hn r (k+1) t w (λj=>by have:=hl (j+1);simpa[Nat.add_assoc,Nat.add_comm 1 j] using this);simp only[List.length_cons,List.range'_succ,Dh];simp only[nY]at h;split at h
  ·rename_i hg;exact fx h0 (by simp[Region.wanted,hg]) (λv w' hk=>ih _ _ hk) h
  rename_i j want hg;rcases lS hg h with ⟨hw,hh⟩|⟨hw,hh⟩
  ·exact fx h0 hw (λv w' hk=>ih _ _ hk) hh
  exact u6 h0 hw (ih _ _ hh)
theorem bu {id:Nat}{l:List Oper}{t:Fr}{w:World}{Q:EP}{p}(C:World->Prop)(hm:P.follows .mixedOrders=true)(hB:aDF P l.toArray=true)(hC:C w.drew)
  (h:nY P l C (Q .normal) l t w.drew .mk):dN P (.region id l.toArray true) Q t w p:=by
 unfold dN;simp only[aDF,Bool.and_eq_true]at hB;refine wp_region_any hm (fm (C:=C) (R:=λa w=>lift Q .normal a w) (λ_ _ h=>h) _ _ _ _ hC ?_);refine y8 hB.1 _ 0 _ _ _ (by simp) hC (λj o _ hl=>by simp[Array.getElem?_replicate]at hl;split at hl<;>simp at hl) hB.2 ?_
 have:=sP (P:=P) (ops:=l) (C:=C) (R:=Q .normal) (N:=λa w=>lift Q .normal a w) (λt w hk=>⟨rfl,by simpa using hk⟩) l 0 t w.drew (λj=>by simp) h;simpa using this
variable {t:Fr} {w:World} {C:World->Prop} {K:VK} {R:Fr->World->Prop}
theorem VJ (ops)(p):nY P ops C R [] t w p=R t w:=(rfl)
theorem M1 (ops)(d op ty pos af r)(p):nY P ops C R (⟨d,op,ty,pos,af,none⟩::r) t w p=eG P ⟨d,op,ty,pos,af,none⟩ t w C (λv w'=>nY P ops C R r (put t d v) w' .mk) .mk:=(rfl)
theorem M0 (ops)(d op ty pos af j want r)(p):nY P ops C R (⟨d,op,ty,pos,af,some (j,want)⟩::r) t w p =
  iq (j0 ops j) want t (λt'=>eG P ⟨d,op,ty,pos,af,some (j,want)⟩ t' w C (λv w'=>nY P ops C R r (put t' d v) w' .mk) .mk) (λt'=>nY P ops C R r (put t' d undef) w .mk) .mk:=rfl
theorem UA (d x ty pos af g)(p):eG P ⟨d,.move x,ty,pos,af,g⟩ t w C K p=K (ev t x) w:=(rfl)
theorem LM (d x ty pos af g)(p):eG P ⟨d,.assign x,ty,pos,af,g⟩ t w C K p=K (ev t x) w:=(rfl)
theorem UB (d c a b ty pos af g)(p):eG P ⟨d,.pick c a b,ty,pos,af,g⟩ t w C K p=Fs (ev t c) (ev t a) (ev t b) (K · w) .mk:=(rfl)
theorem ZY (d op xt x y yt ty pos af g)(p):eG P ⟨d,.binOp op xt x y yt,ty,pos,af,g⟩ t w C K p =
  dw op (ev t x) (ev t y) (K · w) (cX (dC P xt) (isConst x || isConst y) op (ev t x) (ev t y) (K · w) False .mk) .mk:=rfl
theorem aDG (d op xt x ty pos af g)(p):eG P ⟨d,.unOp op xt x,ty,pos,af,g⟩ t w C K p=unK op (ev t x) (K · w) False .mk:=(rfl)
theorem IX (d x i ty pos af g)(p):eG P ⟨d,.extract x i,ty,pos,af,g⟩ t w C K p=pC (ev t x) i (K · w) .mk:=(rfl)
def pL (P:Program)(d:Option TypeDesc)(o:Oper)(t:Fr)(w:World)(C:World->Prop)(K:VK)(_:Ph (o,C,K)):Prop :=
 match d with
 | some (.int _)=>a7 P o t (K · w) False .mk
 | _=>cJ P o t w (λv w'=>C w'/\K v w') LX .mk
theorem IW (d s e x ty pos af g)(p):eG P ⟨d,.convert s e x,ty,pos,af,g⟩ t w C K p=pL P (P.underlying e) ⟨d,.convert s e x,ty,pos,af,g⟩ t w C K .mk:=by
 cases h:P.underlying e with
 | none=>simp[eG,chain,h,pL]
 | some d=>cases d<;>simp[eG,chain,h,pL]
theorem IU (k d s e x ty pos af g)(p):pL P (some (.int k)) ⟨d,.convert s e x,ty,pos,af,g⟩ t w C K p=vT (if (P.underlying s).isSome then P.underlying e else none) (ev t x) (K · w) False .mk:=(rfl)
theorem IV (o)(p):pL P (some .string) o t w C K p=cJ P o t w (λv w'=>C w'/\K v w') LX .mk:=(rfl)
theorem Ch (e o)(p):pL P (some (.slice e)) o t w C K p=cJ P o t w (λv w'=>C w'/\K v w') LX .mk:=(rfl)
theorem OX (d xt x i ty pos af g)(p):eG P ⟨d,.index xt x i,ty,pos,af,g⟩ t w C K p=yM (P.underlying xt) (ev t x) (ev t i) (K · w) False .mk:=(rfl)
theorem Z0 (d x nf ty pos af g)(p):eG P ⟨d,.call { callee:=.builtin .len,args:=#[x],argTypes:=#[nf] },ty,pos,af,g⟩ t w C K p=OP (P.underlying nf) (ev t x) (K · w) False .mk:=(rfl)
theorem Tz (d xt x ty pos af g)(p):eG P ⟨d,.load xt x,ty,pos,af,g⟩ t w C K p=nQ (lC P xt) (ev t x) w (λv w'=>(∀bQ,C bQ->nQ (lC P xt) (ev t x) bQ (λu _=>u=v) .mk)/\K v w') .mk:=(rfl)
theorem Ci (d xt x f ty pos af g)(p):eG P ⟨d,.fieldAddr xt x f,ty,pos,af,g⟩ t w C K p=nG (bA P xt f) (ev t x) (K · w) .mk:=(rfl)
theorem OV (d xt x f ty pos af g)(p):eG P ⟨d,.field xt x f,ty,pos,af,g⟩ t w C K p=Fq (bA P xt f) (ev t x) (K · w) .mk:=(rfl)
theorem Cj (d xt x i ty pos af g)(p):eG P ⟨d,.indexAddr xt x i,ty,pos,af,g⟩ t w C K p=jW (gT P xt) (tF P xt) (ev t x) (ev t i) (K · w) .mk:=(rfl)
theorem OY (d xt x lo hi mx ty pos af g)(p):eG P ⟨d,.slice xt x lo hi mx,ty,pos,af,g⟩ t w C K p =
  gA (P.underlying xt) (gT P xt) (ev t x) (lo.map (ev t)) (hi.map (ev t)) (mx.map (ev t)) (K · w) False .mk:=rfl
theorem Ty (d f)(args:List Operand)(nf ty pos af g)(p):eG P ⟨d,.call { callee:=.value f,args:=args.toArray,argTypes:=nf },ty,pos,af,g⟩ t w C K p =
  cJ P ⟨d,.call { callee:=.value f,args:=args.toArray,argTypes:=nf },ty,pos,af,g⟩ t w (λv w'=>C w'/\K v w') LX .mk:=rfl
theorem OZ (d xt x v ty pos af g)(p):eG P ⟨d,.store xt x v,ty,pos,af,g⟩ t w C K p=cJ P ⟨d,.store xt x v,ty,pos,af,g⟩ t w (λv w'=>C w'/\K v w') LX .mk:=(rfl)
theorem ZZ (d e x ty pos af g)(p):eG P ⟨d,.box e x,ty,pos,af,g⟩ t w C K p=cJ P ⟨d,.box e x,ty,pos,af,g⟩ t w (λv w'=>C w'/\K v w') LX .mk:=(rfl)
theorem AY (d bt n ps ty pos af g)(p):eG P ⟨d,.buildSlice bt n ps,ty,pos,af,g⟩ t w C K p=cJ P ⟨d,.buildSlice bt n ps,ty,pos,af,g⟩ t w (λv w'=>C w'/\K v w') LX .mk:=(rfl)
theorem OU (d bt)(ps:List (Nat×Operand))(ty pos af g)(p):eG P ⟨d,.build bt ps.toArray,ty,pos,af,g⟩ t w C K p=BO (lO P bt) (evs t ps) (K · w) .mk:=(rfl)
theorem LL (d)(args:Array Operand)(nf ty pos af g)(p):eG P ⟨d,.call { callee:=.builtin .append,args:=args,argTypes:=nf },ty,pos,af,g⟩ t w C K p =
  cJ P ⟨d,.call { callee:=.builtin .append,args:=args,argTypes:=nf },ty,pos,af,g⟩ t w (λv w'=>C w'/\K v w') LX .mk:=rfl
end
attribute [push_cast] VJ M1 M0 UA LM UB ZY aDG IX IW IU IV Ch OX Z0 Tz Ci OV Cj OY Ty OZ ZZ AY OU LL
def Sl {α:Type}(X:Nat->Prop)(k:Nat)(R:List Value->α->Prop)(w:World)(v:Value)(l:List α):Prop :=
 ∃a c,v=.slice a l.length c/\l.length<=c/\∀i x,l[i]?=some x->∃b o cs,a=some ⟨b,o,none⟩/\¬X b/\cs.length=k/\(∀j u,cs[j]?=some u->w.cell? ⟨b,o+i*k+j,none⟩=some u)/\R cs x
theorem Sl.mono {α:Type}{X X':Nat->Prop}{k:Nat}{R R':List Value->α->Prop}{w w':World}{v:Value}{l:List α}(h:Sl X k R w v l)(hs:∀b,¬X b->b<w.heap.size->w'.heap[b]?=w.heap[b]?)
  (hR:∀cs x,x∈l->R cs x->R' cs x) (hX:∀b,X' b->X b):Sl X' k R' w' v l:=by
 obtain⟨a,c,rfl,hc,h⟩:=h;refine⟨a,c,rfl,hc,λi x hx=>?_⟩;obtain⟨b,o,cs,ha,hb,hk,aM,hr⟩:=h i x hx;refine⟨b,o,cs,ha,λhh=>hb (hX b hh),hk,λj u hu=>?_,hR _ _ (List.mem_of_getElem? hx) hr⟩;have hc:=aM j u hu;exact(World.cell?_of_block (w:=w) (hs b hb (World.block_lt_of_cell? w _ hc))).trans hc
abbrev En {α:Type}(enc:α->List Value):List Value->α->Prop:=λcs x=>cs=enc x
theorem Sl.below {α:Type}{X:Nat->Prop}{k:Nat}{R:List Value->α->Prop}{w w':World}{v:Value}{l:List α}(h:Sl X k R w v l)(hb:Below w.heap.size w w'):Sl X k R w' v l :=
 h.mono (λb _ aq=>hb.block b aq) (λ_ _ _ h=>h) (λ_ h=>h)
theorem Sl.weaken {α:Type}{X X':Nat->Prop}{k:Nat}{R:List Value->α->Prop}{w:World}{v:Value}{l:List α}(h:Sl X k R w v l)(hX:∀b,X' b->X b):Sl X' k R w v l :=
 h.mono (λ_ _ _=>rfl) (λ_ _ _ h=>h) hX
theorem Sl.nil {α:Type}(X:Nat->Prop)(k:Nat)(R:List Value->α->Prop)(w:World)(c:Nat)(a:Option Addr):Sl X k R w (.slice a 0 c) ([]:List α):=⟨a,c,rfl,Nat.zero_le _,λi x hx=>by simp at hx⟩
theorem ao {w:World}{b o:Nat}:∀(cs:List Value) (i:Nat),(∀j u,cs[j]?=some u->w.cell? ⟨b,o+(i+j),none⟩=some u)->aB w ⟨b,o,none⟩ i cs.length=some cs
 | [],_,_=>rfl
 | c::cs,i,h=>by
  have h0:=h 0 c rfl;have h1:=ao cs (i+1) (λj u hu=>by have:=h (j+1) u (by simpa using hu);rwa [show i+(j+1)=i+1+j by omega]at this)
  simp only[List.length_cons,aB,add_lit,h1];rw[show o+i=o+(i+0) by omega,h0]
def Own {α:Type}(base:Nat)(e:TypeId)(k:Nat)(enc:α->List Value)(w:World)(v:Value)(l:List α):Prop:=w.ownsRow base e k v l.length (l.flatMap enc)/\∀x,(enc x).length=k
theorem lR {α:Type}{enc:α->List Value}{k:Nat}(hk:∀x,(enc x).length=k):∀(l:List α) (i j:Nat) (x:α) (u:Value),l[i]?=some x->(enc x)[j]?=some u->(l.flatMap enc)[i*k+j]?=some u
 | [],i,j,x,u,h,_=>by simp at h
 | y::l,0,j,x,u,h,hu=>by
  simp at h;subst h;simp only[List.flatMap_cons,Nat.zero_mul,Nat.zero_add];rw[List.getElem?_append_left (List.getElem?_eq_some_iff.1 hu).1];exact hu
 | y::l,i+1,j,x,u,h,hu=>by
  simp only[List.flatMap_cons];rw[List.getElem?_append_right (by rw[hk];simp[Nat.add_mul];omega),hk,show (i+1)*k+j-k=i*k+j by rw[Nat.add_mul];omega]
  exact lR hk l i j x u (by simpa using h) hu
theorem Own.sl {α:Type}{base:Nat}{e:TypeId}{k:Nat}{enc:α->List Value}{w:World}{v:Value}{l:List α}(h:Own base e k enc w v l):Sl (·<base) k (En enc) w v l:=by
 obtain⟨h,hk⟩:=h;rcases h.2 with ⟨rfl,h0⟩|⟨g,cap,cur,rfl,hb,hg,hn,_,hs,ht⟩
 ·have:l=[]:=List.eq_nil_of_length_eq_zero h0;subst this;exact Sl.nil _ _ _ _ _ _
 refine⟨_,cap,rfl,hn,λi x hx=>⟨g,0,enc x,rfl,by omega,hk x,λj u hu=>?_,rfl⟩⟩;have Nu:j<k:=by have:=(List.getElem?_eq_some_iff.1 hu).1;rw[hk]at this;exact this
 have Af:i<l.length:=(List.getElem?_eq_some_iff.1 hx).1;have aq:i*k+j<l.length*k:=by
  have:(i+1)*k<=l.length*k:=Nat.mul_le_mul_right k Af;rw[Nat.add_mul]at this;omega
 have h1:=lR hk l i j x u hx hu;rw[<-ht,List.getElem?_take,if_pos aq]at h1;rw[cell_of_row w g _ cur e (0,0) hg];rw[Nat.zero_add];simpa using h1
theorem Sl.shape {α:Type}{X:Nat->Prop}{k:Nat}{R:List Value->α->Prop}{w:World}{v:Value}{l:List α}(h:Sl X k R w v l):∃a c,v=.slice a l.length c/\l.length<=c:=by
 obtain⟨a,c,h,hc,_⟩:=h;exact⟨a,c,h,hc⟩
theorem Sl.get {α:Type}{X:Nat->Prop}{k:Nat}{enc:α->List Value}{w:World}{a:Option Addr}{n c:Nat}{l:List α}(h:Sl X k (En enc) w (.slice a n c) l){i:Nat}{x:α}(hx:l[i]?=some x) :
  ∃b o,a=some ⟨b,o,none⟩/\¬X b/\∀j u,(enc x)[j]?=some u->w.cell? ⟨b,o+i*k+j,none⟩=some u:=by
 obtain⟨a',c',he,_,h⟩:=h;obtain⟨b,o,cs,ha,hX,_,hc,hr⟩:=h i x hx;cases he;subst hr;exact⟨b,o,ha,hX,hc⟩
theorem ag {α:Type}{l:List α}{i:Nat}(h:i<l.length):∃x,l[i]?=some x/\x∈l/\l.drop i=x::l.drop (i+1)/\l.take (i+1)=l.take i++[x]:=by
 refine⟨l[i],List.getElem?_eq_getElem h,List.getElem_mem h,List.drop_eq_getElem_cons h,?_⟩;rw[List.take_add_one,List.getElem?_eq_getElem h];rfl
theorem Own.nil {α:Type}(base:Nat)(e:TypeId){k:Nat}{enc:α->List Value}(hk:∀x,(enc x).length=k)(w:World):Own base e k enc w (.slice none 0 0) ([]:List α) :=
 ⟨World.ownsRow_nil w base e k,hk⟩
theorem Own.mono {α:Type}{base Pp:Nat}{e:TypeId}{k:Nat}{enc:α->List Value}{w:World}{v:Value}{l:List α}(h:Own base e k enc w v l)(hb:Pp<=base):Own Pp e k enc w v l :=
 ⟨⟨h.1.1,h.1.2.imp id λ⟨g,cap,cur,h1,h2,h3⟩=>⟨g,cap,cur,h1,Nat.le_trans hb h2,h3⟩⟩,h.2⟩
theorem Own.slice {α:Type}{base:Nat}{e:TypeId}{k:Nat}{enc:α->List Value}{w:World}{v:Value}{l:List α}(h:Own base e k enc w v l):∃a c,v=.slice a l.length c:=by
 rcases h.1.2 with ⟨rfl,h0⟩|⟨g,cap,cur,rfl,_⟩
 ·exact⟨none,0,by rw[h0]⟩
 exact⟨_,cap,rfl⟩
theorem Own.below {α:Type}{base:Nat}{e:TypeId}{k:Nat}{enc:α->List Value}{w w':World}{v:Value}{l:List α}(h:Own base e k enc w v l)(hb:Below w.heap.size w w'):Own base e k enc w' v l:=by
 refine⟨h.1.kept (w':=w') (row:=none) ⟨hb.os,hb.tape,hb.output,hb.size,λk hk _=>hb.block k hk⟩ ?_,h.2⟩;cases v.ownBlock<;>simp
def Bd (P:Program)(t:TypeId):Option (TypeId×Nat×Nat):=match P.underlying t with
 | some (.slice e)=>match P.info? e with
  | some i=>match i.zero with
   | some z=>if z.cells.size=i.size/\0<i.size/\0<i.bytes then some (e,i.size,i.bytes) else none
   | none=>none
  | none=>none
 | _=>none
theorem nE {P:Program}{t e:TypeId}{k bytes:Nat}(h:Bd P t=some (e,k,bytes)) :
  P.underlying t=some (.slice e)/\∃i z,P.info? e=some i/\i.zero=some z/\i.size=k/\i.bytes=bytes/\z.cells.size=k/\0<k/\0<bytes:=by
 unfold Bd at h;split at h
 ·rename_i e' hu;split at h
  ·rename_i i hi;split at h
   ·rename_i z hz;split at h
    ·rename_i hh;cases h;exact⟨hu,i,z,hi,hz,rfl,rfl,hh.1,hh.2⟩
    cases h
   cases h
  cases h
 cases h
structure mN (w w':World)(e:TypeId)(cs:List Value):Prop where
 is:w'=w.alloc (.cells cs.toArray e)
theorem mN.below {w w':World}{e:TypeId}{cs:List Value}(h:mN w w' e cs):Below w.heap.size w w':=by rw[h.is];exact(Below.refl _ _).alloc (Nat.le_refl _) _
theorem mN.size {w w':World}{e:TypeId}{cs:List Value}(h:mN w w' e cs):w'.heap.size=w.heap.size+1:=by rw[h.is];simp
theorem mN.block {w w':World}{e:TypeId}{cs:List Value}(h:mN w w' e cs):w'.heap[w.heap.size]?=some (.cells cs.toArray e (0,0)):=by rw[h.is];exact heap_alloc_new w _
theorem mN.cell {w w':World}{e:TypeId}{cs:List Value}(h:mN w w' e cs){j:Nat}{u:Value}(hu:cs[j]?=some u):w'.cell? ⟨w.heap.size,j,none⟩=some u:=by
 rw[h.is,World.cell?_alloc_new];simpa using hu
theorem mN.cell0 {w w':World}{e:TypeId}{u:Value}{cs:List Value}(h:mN w w' e (u::cs)):w'.cell? ⟨w.heap.size,0,none⟩=some u:=h.cell rfl
section
variable {P:Program} {t:Fr} {w:World} {K:VK} {Q:EP}
theorem aS {e:TypeId}{v:Value}{p}(k:∀w',mN w w' e (dU v)->K (.pointer (some ⟨w.heap.size,0,none⟩)) w'):aF7 e v w K p :=
 k _ ⟨by rw[<-kQ]⟩
def fX:List (Nat×Value)->List Value
 | []=>[]
 | (_,v)::r=>dU v++fX r
theorem Ex:fX []=[]:=(rfl)
theorem DA (i v r):fX ((i,v)::r)=dU v++fX r:=(rfl)
def Al (k:Nat):Nat->List (Nat×Value)->Bool
 | _,[]=>true
 | i,(j,v)::r=>i == j && jZ (dU v) k && Al k (i+1) r
theorem KN (k:Nat):∀(parts:List (Nat×Value)) (i:Nat) (l1 l2:List Value),Al k i parts=true->l1.length=i*k->l2.length=parts.length*k ->
  Instr.fill (λi=>some (i*k,k)) (l1++l2).toArray parts=some (l1++fX parts).toArray
 | [],i,l1,l2,_,_,h2=>by
  have:l2=[]:=List.eq_nil_of_length_eq_zero (by simpa using h2);simp[Instr.fill,fX,this]
 | (j,v)::r,i,l1,l2,h,h1,h2=>by
  simp only[Al,Bool.and_eq_true,beq_iff_eq]at h;obtain⟨⟨rfl,hs⟩,hr⟩:=h;have h3:=oH _ _ hs;have h4:v.cells.size=k:=by rw[<-h3,<-kQ,Array.length_toList]
  simp only[List.length_cons,Nat.add_mul,Nat.one_mul]at h2;simp only[Instr.fill];rw[if_neg (by simp[h4,h1];omega)];have e1:(v.cells.zipIdx.foldl (λcs (x:Value×Nat)=>match x with|(c,j)=>cs.setIfInBounds (i*k+j) c) (l1++l2).toArray)=((l1++dU v)++l2.drop k).toArray:=by
   apply Array.ext';rw[<-Array.foldl_toList];have:∀(ps:List (Value×Nat)) (a:Array Value),(ps.foldl (λcs (x:Value×Nat)=>match x with|(c,j)=>cs.setIfInBounds (i*k+j) c) a).toList=ps.foldl (λa p=>a.set (i*k+p.2) p.1) a.toList:=by
    intro ps;induction ps with
    | nil=>intro a;rfl
    | cons p ps ih=>intro a;simp only[List.foldl_cons,ih,Array.toList_setIfInBounds]
   rw[this,Array.toList_zipIdx,kQ];have h5:=sI (dU v) (i*k) 0 (l1++l2);rw[Nat.add_zero]at h5;rw[h5,<-h1];have sp1:∀(cs l:List Value),cs.length<=l.length->ee l 0 cs=cs++l.drop cs.length:=by
    intro cs;induction cs with
    | nil=>intro l _;cases l<;>simp[ee]
    | cons c cs ih=>intro l hl;cases l with
     | nil=>simp at hl
     | cons x l=>simp only[ee,List.cons_append,List.length_cons,List.drop_succ_cons];rw[ih l (by simpa using hl)]
   have sp2:∀(a b cs:List Value),ee (a++b) a.length cs=a++ee b 0 cs:=by
    intro a;induction a with
    | nil=>intro b cs;rfl
    | cons x a ih=>intro b cs;simp only[List.cons_append,List.length_cons,ee,ih]
   rw[sp2,sp1 _ _ (by omega),h3];simp
  rw[e1,KN k r (i+1) (l1++dU v) (l2.drop k) hr (by simp[h1,h3,Nat.add_mul]) (by simp;omega)];simp[fX]
theorem cF {bt e:TypeId}{k bytes n:Nat}{parts:List (Nat×Value)}{p}(hE:Bd P bt=some (e,k,bytes))(hp:Al k 0 parts=true)(hl:parts.length=n)(hn:n*k<=16777216)
  (kk:∀w',mN w w' e (fX parts)->K (.slice (some ⟨w.heap.size,0,none⟩) n n) w'):ak P (Instr.buildSlice bt n parts.toArray) t w K Q p:=by
 obtain⟨hu,i,z,hi,hz,rfl,rfl,OH,hk,_⟩:=nE hE;refine fN (w':=w.alloc (.cells (fX parts).toArray e)) ?_ (kk _ ⟨rfl⟩);have hf:=λ(l2:List Value) (h2:l2.length=parts.length*i.size)=>KN i.size parts 0 [] l2 hp (by simp) h2;simp only[List.nil_append]at hf;have hf':=hf ((Array.range (n*i.size)).map (z.cells[· % z.cells.size]!)).toList (by simp[hl]);simp only[Array.toArray_toList]at hf';by_cases h0:n*i.size=0
 ·have yE:n=0:=by rcases Nat.mul_eq_zero.1 h0 with h|h<;>omega
  subst yE;have:parts=[]:=List.eq_nil_of_length_eq_zero hl;subst this;simp[Instr.buildSlice,run_underlying hu,sizeOf,typeInfo,hi,Instr.fill,newRow,fX,Array.range_zero']
 simp[Instr.buildSlice,run_underlying hu,sizeOf,typeInfo,hi,zeroValue,hz,h0,show ¬16777216<n*i.size by omega,hf',newRow]
theorem Po {α:Type}{bt ty e:TypeId}{k bytes base:Nat}{enc:α->List Value}{v:Value}{l ys:List α}{b o c:Nat}{p}(hE:Bd P bt=some (e,k,bytes))(gj:Own base e k enc w v l)
  (hy:∀j u,(ys.flatMap enc)[j]?=some u->w.cell? ⟨b,o+j,none⟩=some u) (h1:∀x,∀u∈enc x,u.oneCell'=true)
  (hm:(l.length+ys.length)*bytes<=140737488355328) (rS:base<=w.heap.size)
  (kk:∀v' w',Own base e k enc w' v' (l++ys)->w.grownBy w' v.ownBlock->Below base w w'->K v' w'):ak P (Builtin.append_ #[bt,bt] ty [v,.slice (some ⟨b,o,none⟩) ys.length c].toArray) t w K Q p:=by
 obtain⟨hu,i,z,hi,hz,rfl,rfl,OH,hk,gn⟩:=nE hE;have hlen:∀(ys:List α),(ys.flatMap enc).length=ys.length*i.size:=by
  intro ys;induction ys with
  | nil=>simp
  | cons y ys ih=>simp[List.flatMap_cons,gj.2,ih,Nat.add_mul];omega
 have hle:l.length+ys.length<=140737488355328:=Nat.le_trans (Nat.le_mul_of_pos_right _ gn) hm;obtain⟨v',w',hr,ho,hg,_⟩:=run_append_own (P:=P) w base bt ty e i z i.size i.bytes hu hi hz rfl rfl OH hk v l.length (l.flatMap enc) gj.1 ⟨b,o,none⟩ ys.length c (ys.flatMap enc) (hlen ys)
  (λj u hj=>by rw[add_lit];exact hy j u hj) (λu JV=>by obtain⟨x,_,hx⟩:=List.mem_flatMap.1 JV;exact h1 x u hx) (by simp only[maxLen];omega) hm rS
 refine fN hr (kk v' w' ⟨by simpa[List.flatMap_append] using ho,gj.2⟩ hg ?_);exact(Below.refl _ _).grown hg rS λk hk=>(gj.1.lt k hk).1
theorem aAR {s d e:TypeId}{n c:Nat}{p}(hs:P.underlying s=some (.slice e))(he:P.underlying e=some (.int .u8))(hd:P.underlying d=some .string)(k:K (str []) w):ak P (convert s d (.slice none n c)) t w K Q p :=
 fN (run_convert_bytes_nil w s e hs he n c d hd) k
def je (b:UInt8):List Value:=[.int .u8 b.toNat]
theorem aIL {s d e:TypeId}{v:Value}{l:List UInt8}{X:Nat->Prop}{p}(hs:P.underlying s=some (.slice e))(he:P.underlying e=some (.int .u8))(hd:P.underlying d=some .string)(hl:Sl X 1 (En je) w v l)(k:K (str l) w) :
  ak P (convert s d v) t w K Q p:=by
 obtain⟨a,c,rfl,hc,h⟩:=hl;by_cases h0:l=[]
 ·subst h0;cases a with
  | none=>exact aAR hs he hd k
  | some a =>
   refine fN ?_ k;rw[run_convert_bytes_string w s d e _ _ c hs he hd,run_bytesToString w a _ c [] (by rfl)];rfl
 obtain⟨x,l',rfl⟩:=List.exists_cons_of_ne_nil h0;obtain⟨b,o,cs,rfl,_,_,_,_⟩:=h 0 x rfl;have aM:∀i,i<(x::l').length->w.cell? ⟨b,o+i,none⟩=some (.int .u8 (((x::l').map λb=>(b.toNat:Int)).getD i 0)):=by
  intro i hi;obtain⟨b',o',cs,Dw,_,_,hcc,rfl⟩:=h i (x::l')[i] (by simp);cases Dw
  have:=hcc 0 _ rfl;rw[Nat.mul_one,Nat.add_zero]at this;rw[this,List.getD_eq_getElem?_getD,List.getElem?_map,List.getElem?_eq_getElem hi];rfl
 have hr:=run_convert_bytes_arg (P:=P) w s e hs he b o (x::l').length c ((x::l').map λb=>(b.toNat:Int)) (by simp) aM d hd;refine fN hr ?_;have e2:Value.string (strOfNums ((x::l').map λb=>(b.toNat:Int)))=str (x::l'):=by
  simp only[str,strOfNums];congr 3;rw[List.map_map]
  conv=>rhs;rw[<-List.map_id (x::l')]
  apply List.map_congr_left;intro b _;simp
 rw[e2];exact k
end
attribute [push_cast] Ex DA Nat.add_zero Nat.mul_one
theorem aIM (l:List UInt8):Value.string ⟨l.toArray⟩=str l:=(rfl)
section
variable {P:Program} {t:Fr} {w:World} {K:VK} {Q:EP} {other:Prop}
theorem Ut (e e':TypeId)(k b o n c:Nat)(kk:IntKind)(i:Int)(L:VP)(other:Prop)(p):gA (some (.slice e)) (some (e',k)) (.slice (some ⟨b,o,none⟩) n c) none (some (.int kk i)) none L other p=((0<=i/\i<=c)/\L (.slice (some ⟨b,o,none⟩) i.toNat c)):=by
 simp only[gA,iL,Option.map_some,Int.toNat_natCast,Nat.zero_mul,add_lit,Nat.add_zero,Nat.sub_zero,ite_self,Int.natCast_zero,Int.toNat_zero,Int.le_refl,true_and]
theorem UH (a:Addr)(L:VP)(p):LW (.pointer (some a)) L other p=L (.pointer (some a)):=(rfl)
theorem I4 (d x ty pos af g)(p):cJ P ⟨d,.nilCheck x,ty,pos,af,g⟩ t w K Q p=LW (ev t x) (K · w) (runK P ⟨d,.nilCheck x,ty,pos,af,g⟩ t w K Q .mk) .mk:=by
 unfold LW;split
 ·rename_i a h;simp only[cJ,a7,runK];unfold execOp;simp only[h];rfl
 rfl
section
variable {C:World->Prop}
theorem Er (d x ty pos af g)(p):eG P ⟨d,.nilCheck x,ty,pos,af,g⟩ t w C K p=LW (ev t x) (K · w) False .mk:=(rfl)
theorem LN (d r m)(args:Array Operand)(nf ty pos af g)(p):eG P ⟨d,.call { callee:=.invoke r m,args:=args,argTypes:=nf },ty,pos,af,g⟩ t w C K p =
  cJ P ⟨d,.call { callee:=.invoke r m,args:=args,argTypes:=nf },ty,pos,af,g⟩ t w (λv w'=>C w'/\K v w') LX .mk:=(rfl)
theorem OT (d e ty pos af g)(p):eG P ⟨d,.alloc e,ty,pos,af,g⟩ t w C K p=cJ P ⟨d,.alloc e,ty,pos,af,g⟩ t w (λv w'=>C w'/\K v w') LX .mk:=(rfl)
theorem OW (d xt x ty pos af g)(p):eG P ⟨d,.makeInterface xt x,ty,pos,af,g⟩ t w C K p =
  uX (if (P.underlying xt).isSome then dC P xt else 1) xt (ev t x) (K · w) False .mk:=(rfl)
theorem Ck (d bt l c ty pos af g)(p):eG P ⟨d,.makeSlice bt l c,ty,pos,af,g⟩ t w C K p=cJ P ⟨d,.makeSlice bt l c,ty,pos,af,g⟩ t w (λv w'=>C w'/\K v w') LX .mk:=(rfl)
theorem AZ (d x xt at_ ok ty pos af g)(p):eG P ⟨d,.typeAssert x xt at_ ok,ty,pos,af,g⟩ t w C K p=cJ P ⟨d,.typeAssert x xt at_ ok,ty,pos,af,g⟩ t w (λv w'=>C w'/\K v w') LX .mk:=(rfl)
theorem Ep (d fn)(a c:List Operand)(ty pos af g)(p):eG P ⟨d,.makeFunc fn a.toArray c.toArray,ty,pos,af,g⟩ t w C K p=K (.func fn (a.map (ev t)).toArray (c.map (ev t)).toArray) w:=by
 simp[eG,a7,chain]
end
structure Kept (X:Nat->Prop)(w w':World):Prop where
 os:w'.os=w.os
 tape:w'.tape=w.tape
 output:w'.output=w.output
 size:w.heap.size<=w'.heap.size
 block:∀k,k<w.heap.size->¬X k->w'.heap[k]?=w.heap[k]?
theorem Kept.refl (X:Nat->Prop)(w:World):Kept X w w:=⟨rfl,rfl,rfl,Nat.le_refl _,λ_ _ _=>rfl⟩
theorem Kept.trans {X Y:Nat->Prop}{a b c:World}(h:Kept X a b)(k:Kept Y b c)(hY:∀i,i<a.heap.size->Y i->X i):Kept X a c :=
 ⟨k.os.trans h.os,k.tape.trans h.tape,k.output.trans h.output,Nat.le_trans h.size k.size,λi hi hx=>(k.block i (Nat.lt_of_lt_of_le hi h.size) (λhh=>hx (hY i hi hh))).trans (h.block i hi hx)⟩
theorem Kept.weaken {X Y:Nat->Prop}{a b:World}(h:Kept X a b)(hY:∀i,i<a.heap.size->X i->Y i):Kept Y a b:=⟨h.os,h.tape,h.output,h.size,λi hi hx=>h.block i hi λhh=>hx (hY i hi hh)⟩
theorem Kept.below {X:Nat->Prop}{a b:World}(h:Kept X a b){B:Nat}(hB:B<=a.heap.size)(hX:∀i,X i->B<=i):Below B a b:=⟨h.os,h.tape,h.output,h.size,λi hi=>h.block i (by omega) λhh=>by have:=hX i hh;omega⟩
theorem Kept.aQ {B:Nat}{a b:World}(h:Below B a b){X:Nat->Prop}(hX:∀i,B<=i->i<a.heap.size->X i):Kept X a b:=⟨h.os,h.tape,h.output,h.size,λi hi hx=>h.block i (Classical.byContradiction λhh=>hx (hX i (by omega) hi))⟩
theorem Kept.new {X:Nat->Prop}{a b:World}{e:TypeId}{cs:List Value}(h:mN a b e cs):Kept X a b:=Kept.aQ h.below λi hi hh=>by omega
theorem Kept.drew {X:Nat->Prop}{a w:World}(h:Kept X a w):Kept X a w.drew:=⟨h.os,h.tape,h.output,h.size,h.block⟩
theorem Kept.grown {a b:World}{row:Option Nat}(h:a.grownBy b row){X:Nat->Prop}(hX:∀k,row=some k->X k):Kept X a b:=⟨h.os,h.tape,h.output,h.size,λi hi hx=>h.block i hi λhh=>hx (hX i hh.symm)⟩
theorem Kept.cell {X:Nat->Prop}{a b:World}(h:Kept X a b){p:Addr}{v:Value}(hv:a.cell? p=some v)(hX:¬X p.block):b.cell? p=some v :=
 (World.cell?_of_block (h.block p.block (World.block_lt_of_cell? a p hv) hX)).trans hv
theorem Sl.kept {α:Type}{X Y:Nat->Prop}{k:Nat}{R:List Value->α->Prop}{w w':World}{v:Value}{l:List α}(h:Sl X k R w v l)(hb:Kept Y w w')(hY:∀i,Y i->X i):Sl X k R w' v l :=
 h.mono (λb Dw aq=>hb.block b aq λhh=>Dw (hY b hh)) (λ_ _ _ h=>h) (λ_ h=>h)
def aN (w:World)(b:Nat)(e:TypeId)(cs:List Value):Prop:=w.heap[b]?=some (.cells cs.toArray e (0,0))
theorem aN.lt {w:World}{b:Nat}{e:TypeId}{cs:List Value}(h:aN w b e cs):b<w.heap.size:=(Array.getElem?_eq_some_iff.1 h).1
theorem aN.cell {w:World}{b:Nat}{e:TypeId}{cs:List Value}(h:aN w b e cs){o:Nat}{u:Value}(hu:cs[o]?=some u):w.cell? ⟨b,o,none⟩=some u:=by
 rw[cell_of_row w b o _ e (0,0) h];simpa using hu
theorem aN.kept {X:Nat->Prop}{w w':World}{b:Nat}{e:TypeId}{cs:List Value}(h:aN w b e cs)(hk:Kept X w w')(hX:¬X b):aN w' b e cs:=(hk.block b h.lt hX).trans h
theorem aN.below {B:Nat}{w w':World}{b:Nat}{e:TypeId}{cs:List Value}(h:aN w b e cs)(hk:Below B w w')(hX:b<B):aN w' b e cs:=(hk.block b hX).trans h
theorem aN.drew {w:World}{b:Nat}{e:TypeId}{cs:List Value}(h:aN w b e cs):aN w.drew b e cs:=h
theorem mN.aL {w w':World}{e:TypeId}{cs:List Value}(h:mN w w' e cs):aN w' w.heap.size e cs:=h.block
structure A8 (w w':World)(b:Nat)(e:TypeId)(cs:List Value):Prop where
 aL:aN w' b e cs
 kept:Kept (·=b) w w'
 size:w'.heap.size=w.heap.size
theorem A8.Fo {w:World}{b:Nat}{e:TypeId}{cs0 cs:List Value}(h:aN w b e cs0):A8 w (w.setRow b cs.toArray) b e cs :=
 ⟨setRow_heap w b _ _ e _ h,⟨rfl,rfl,rfl,by simp,λk _ hk=>setRow_other w b k _ hk⟩,by simp⟩
theorem aC {b o:Nat}{e:TypeId}{cs:List Value}{v:Value}{p}(hB:aN w b e cs)(ho:o<cs.length)(h1:lG v=true)(kk:∀w',A8 w w' b e (cs.set o v)->K undef w') :
  uu (some none) (.pointer (some ⟨b,o,none⟩)) v w K other p:=by
 refine⟨h1,by rw[hB.cell (List.getElem?_eq_getElem ho)];rfl,?_,kk _ ?_⟩
 ·simp only[World.frozen?];rw[show w.heap[b]?=_ from hB]
  simp
 rw[setCell_eq_setRow w b o _ e (0,0) v hB,List.setIfInBounds_toArray];exact A8.Fo hB
theorem MM (n:Nat)(a v:Value)(p):uu (some (some n)) a v w K other p=other:=(rfl)
theorem aI {xt:TypeId}{b o n:Nat}{e:TypeId}{cs0 cs:List Value}(hty:lC P xt=some (some n))(hB:aN w b e cs0)(hn:cs.length=n)(ho:o+n<=cs0.length)(h1:∀v∈cs,v.oneCell'=true)
  (kk:∀w',A8 w w' b e (cs0.take o++cs++cs0.drop (o+n))->K undef w'):aY P (Instr.storeAt xt (.pointer (some ⟨b,o,none⟩)) (.agg cs.toArray)) t w K Q .mk:=by
 have:=run_storeCells_at P b o e cs 0 cs0.toArray w hB (by simp;omega) h1;simp only[Nat.add_zero,List.size_toArray]at this;refine Da (w':=w.setRow b (cs0.take o++cs++cs0.drop (o+n)).toArray) ?_ (kk _ (A8.Fo hB));subst hn;simp only[Instr.storeAt,Instr.sureAddr,Sem.run_bind,Sem.run_pure,Result.andThen_ok,storeVar,(jP hty w).2,Value.cells,List.size_toArray,ne_eq,not_true_eq_false,if_false,this]
theorem ah {e:TypeId}{z:List Value}{p}(hz:(P.info? e).bind (λi=>i.zero.map dU)=some z)(kk:∀w',mN w w' e z->K (.pointer (some ⟨w.heap.size,0,none⟩)) w'):ak P (Instr.alloc e true (.tuple #[])) t w K Q p:=by
 obtain⟨i,hi,hz⟩:=Option.bind_eq_some_iff.1 hz;obtain⟨v,hv,rfl⟩:=Option.map_eq_some_iff.1 hz;refine fN (w':=w.alloc (.cells (dU v).toArray e)) ?_ (kk _ ⟨rfl⟩);rw[<-kQ];simp[Instr.alloc,zeroValue,typeInfo,hi,hv,newVar,newRow]
def qR (P:Program)(t:Fr)(w:World):List ResultVar->(List Value->Prop)->Prop
 | [],k=>k []
 | .tmp i::r,k=>qR P t w r λvs=>k (t.getD i undef::vs)
 | .cell a ty::r,k=>nQ (lC P ty) (t.getD a undef) w (λv _=>qR P t w r λvs=>k (v::vs)) .mk
def U5 (P:Program)(rs:List ResultVar)(R:VK)(_:Ph R):EP
 | .normal,t,w=>qR P t w rs λvs=>R (A6 vs) w
 | .ret,t,w=>qR P t w rs λvs=>R (A6 vs) w
 | _,_,_=>False
theorem aAj (rs)(R:VK)(p):U5 P rs R p .ret t w=qR P t w rs λvs=>R (A6 vs) w:=(rfl)
theorem Lh (rs)(R:VK)(p):U5 P rs R p .normal t w=qR P t w rs λvs=>R (A6 vs) w:=(rfl)
theorem aAm (k:List Value->Prop):qR P t w [] k=k []:=(rfl)
theorem aAn (i)(r)(k:List Value->Prop):qR P t w (.tmp i::r) k=qR P t w r λvs=>k (t.getD i undef::vs):=(rfl)
theorem U6 (a ty)(r)(k:List Value->Prop):qR P t w (.cell a ty::r) k=nQ (lC P ty) (t.getD a undef) w (λv _=>qR P t w r λvs=>k (v::vs)) .mk:=(rfl)
theorem LF {ty:TypeId}{a:Value}{w:World}{k:VK}(h:nQ (lC P ty) a w k .mk):∃ad v,a=.pointer (some ad)/\(loadVar ty ad).run P w=.ok v w/\k v w:=by
 unfold nQ at h;split at h
 ·rename_i ad ht;obtain⟨v,hc,hk⟩:=j9 h;exact⟨ad,v,rfl,by simp[loadVar,(oJ ht w).1,load,Sem.run,hc],hk⟩
 ·rename_i n ad ht;obtain⟨v,hc,hk⟩:=j9 h;exact⟨ad,_,rfl,by simp[loadVar,(jP ht w).1,(jP ht w).2,loadCells,run_loadCellsFrom (P:=P) w ad n 0 #[] v hc],hk⟩
 exact h.elim
theorem DL (g:ResultVar->Sem Value)(h1:∀i,(g (.tmp i)).run P w=.ok (t.getD i undef) w)(h2:∀a ty ad v,t.getD a undef=.pointer (some ad)->(loadVar ty ad).run P w=.ok v w->(g (.cell a ty)).run P w=.ok v w):∀(rs:List ResultVar) (k:List Value->Prop),qR P t w rs k->∃vs,(List.mapM g rs).run P w=.ok vs w/\k vs
 | [],k,h=>⟨[],rfl,h⟩
 | .tmp i::r,k,h=>by
  obtain⟨vs,h3,h4⟩:=DL g h1 h2 r _ h;refine⟨_,?_,h4⟩;simp only[List.mapM_cons,Sem.run_bind,Sem.run_pure,Result.andThen_ok,h1,h3]
 | .cell a ty::r,k,h=>by
  obtain⟨ad,v,ha,hl,h⟩:=LF h;obtain⟨vs,h3,h4⟩:=DL g h1 h2 r _ h;refine⟨_,?_,h4⟩;simp only[List.mapM_cons,Sem.run_bind,Sem.run_pure,Result.andThen_ok,h2 _ _ _ _ ha hl,h3]
theorem Ts (g:ResultVar->Sem Value)(h1:∀i,(g (.tmp i)).run P w=.ok (t.getD i undef) w)(h2:∀a ty ad v,t.getD a undef=.pointer (some ad)->(loadVar ty ad).run P w=.ok v w->(g (.cell a ty)).run P w=.ok v w)(rs:List ResultVar)(k:List Value->Prop)(h:qR P t w rs k):∃vs,(Array.mapM g rs.toArray).run P w=.ok vs.toArray w/\k vs:=by
 obtain⟨vs,h3,h4⟩:=DL g h1 h2 rs k h;refine⟨vs,?_,h4⟩;rw[List.mapM_toArray,map_eq_pure_bind];simp only[Sem.run_bind,h3,Result.andThen_ok,Sem.run_pure]
theorem Uz (g:ResultVar->Sem Value)(F:Array Value->World->Result Value)(h1:∀i,(g (.tmp i)).run P w=.ok (t.getD i undef) w)(h2:∀a ty ad v,t.getD a undef=.pointer (some ad)->(loadVar ty ad).run P w=.ok v w->(g (.cell a ty)).run P w=.ok v w)(hF:∀vs:List Value,F vs.toArray w=.ok (A6 vs) w)(rs:List ResultVar)(k:List Value->Prop)(h:qR P t w rs k):∃vs,((Array.mapM g rs.toArray).run P w).andThen F=.ok (A6 vs) w/\k vs:=by
 obtain⟨vs,h3,h4⟩:=Ts g h1 h2 rs k h;exact⟨vs,by rw[h3,Result.andThen_ok,hF],h4⟩
theorem dI (fn:Func)(rs:List ResultVar)(h:fn.results=rs.toArray)(t:Fr)(k:List Value->Prop)(hl:qR P t w rs k):∃vs,(results fn t.toArray).run P w=.ok (A6 vs) w/\k vs:=by
 unfold results;rw[h,Sem.run_bind];refine Uz (t:=t) _ _ ?_ ?_ ?_ rs k hl
 ·intro i;simp[List.getD_eq_getElem?_getD,Array.getD_eq_getD_getElem?]
 ·intro a ty ad v ha hl;have YG:t.toArray.getD a undef=.pointer (some ad):=by rw[<-ha];simp[List.getD_eq_getElem?_getD,Array.getD_eq_getD_getElem?]
  have hA:asAddr (t.toArray.getD a undef)=pure ad:=by rw[YG];rfl
  simp only[hA,Sem.run_bind,Sem.run_pure,Result.andThen_ok,hl]
 intro vs;rw[Sem.run_pure];congr 1;match vs with
 | []=>rfl
 | [a]=>rfl
 | a::b::l=>simp[A6]
theorem iI {f:FuncId}{fn:Func}{c:Code}{args:List Value}{R:VK}(hf:P.funcs[f]?=some fn)(hb:fn.body=some c)(hn:(fn.name == "runtime.NumGoroutine")=false)
  (rs:List ResultVar) (iW:fn.results=rs.toArray) (h:vc P c (U5 P rs R .mk) (yj args fn.ntmps) w .mk):aw P f args w R:=by
 refine⟨cC hf (by simp[hb]) hn,calls_of_wp hf hb ?_⟩;have h1:=tq c _ _ w h;unfold dN at h1;have e:(args.toArray++Array.replicate (fn.ntmps-args.toArray.size) undef)=(yj args fn.ntmps).toArray:=by simp[yj]
 rw[e];refine Code.wp_mono ?_ h1;rintro e a w' ⟨hd,hh⟩;have ha:a.tmps.toList.toArray=a.tmps:=by simp
 cases e<;>simp only[U5]at hh<;>first|exact hh.elim|skip
 ·obtain⟨vs,hv,hk⟩:=dI fn rs iW _ _ hh;exact⟨hd,_,by rw[<-ha];exact hv,_,rfl,hk⟩
 obtain⟨vs,hv,hk⟩:=dI fn rs iW _ _ hh;exact⟨hd,_,by rw[<-ha];exact hv,_,rfl,hk⟩
theorem aP {α:Type}{bt ty e:TypeId}{k bytes base n:Nat}{enc:α->List Value}{v:Value}{l:List α}(ys:List α){b o c:Nat}{p}(hE:Bd P bt=some (e,k,bytes))(gj:Own base e k enc w v l)(hn:ys.length=n)
  (hy:∀j u,(ys.flatMap enc)[j]?=some u->w.cell? ⟨b,o+j,none⟩=some u) (h1:∀x,∀u∈enc x,u.oneCell'=true)
  (hm:(l.length+ys.length)*bytes<=140737488355328) (rS:base<=w.heap.size)
  (kk:∀v' w',Own base e k enc w' v' (l++ys)->w.grownBy w' v.ownBlock->(∀g,v'.ownBlock=some g->v.ownBlock=some g\/w.heap.size<=g)->K v' w'):ak P (Builtin.append_ #[bt,bt] ty [v,.slice (some ⟨b,o,none⟩) n c].toArray) t w K Q p:=by
 subst hn;obtain⟨hu,i,z,hi,hz,rfl,rfl,OH,hk,gn⟩:=nE hE;have hlen:∀(ys:List α),(ys.flatMap enc).length=ys.length*i.size:=by
  intro ys;induction ys with
  | nil=>simp
  | cons y ys ih=>simp[List.flatMap_cons,gj.2,ih,Nat.add_mul];omega
 have hle:l.length+ys.length<=140737488355328:=Nat.le_trans (Nat.le_mul_of_pos_right _ gn) hm;have hy':∀j u,(ys.flatMap enc)[j]?=some u->w.cell? ((⟨b,o,none⟩:Addr).add j)=some u:=λj u hj=>by rw[add_lit];exact hy j u hj
 have yk:∀u∈ys.flatMap enc,u.oneCell'=true:=λu JV=>by obtain⟨x,_,hx⟩:=List.mem_flatMap.1 JV;exact h1 x u hx
 obtain⟨v',w',hr,ho,hg,_⟩:=run_append_own (P:=P) w base bt ty e i z i.size i.bytes hu hi hz rfl rfl OH hk v l.length (l.flatMap enc) gj.1 ⟨b,o,none⟩ ys.length c (ys.flatMap enc) (hlen ys)
  hy' yk (by simp only[maxLen];omega) hm rS
 refine fN hr (kk v' w' ⟨by simpa[List.flatMap_append] using ho,gj.2⟩ hg ?_);intro g' x6;rcases gj.1.2 with ⟨rfl,h0⟩|⟨g,cap,cur,rfl,hbg,K7,x7,s9,il,aMp⟩
 ·have hl:l=[]:=List.eq_nil_of_length_eq_zero h0;subst hl;have Ya:w.ownsRow w.heap.size e i.size (.slice none 0 0) 0 []:=World.ownsRow_nil _ _ _ _;obtain⟨v2,w2,rZ,ln,_,_⟩:=run_append_own (P:=P) w w.heap.size bt ty e i z i.size i.bytes hu hi hz rfl rfl OH hk _ 0 [] Ya ⟨b,o,none⟩ ys.length c (ys.flatMap enc) (hlen ys)
   hy' yk (by simp only[maxLen];omega) (by simpa using hm) (Nat.le_refl _)
  have:=hr.symm.trans rZ;cases this;exact .inr (ln.lt g' x6).1
 by_cases Yd:l.length+ys.length<=cap
 ·obtain⟨w2,rZ,_⟩:=run_append_fits (P:=P) (w:=w) base bt ty e i i.size hu hi rfl g l.length cap (l.flatMap enc) gj.1 ⟨b,o,none⟩ ys.length c (ys.flatMap enc) (hlen ys) hy' yk Yd
  have:=hr.symm.trans rZ;cases this;exact .inl x6
 have rZ:=run_append_grow (P:=P) w bt ty e i z hu hi hz ⟨g,0,none⟩ l.length cap (l.flatMap enc) gj.1.1 (gj.1.cells (g:=g) rfl) ⟨b,o,none⟩ ys.length c (ys.flatMap enc) (hlen ys) hy' (by omega) (by omega) (growslice_fits (by omega) hm)
 have:=hr.symm.trans rZ;cases this;simp only[Value.ownBlock,Option.some.injEq]at x6;exact .inr (by omega)
theorem Own.aH {α:Type}{base:Nat}{e:TypeId}{k:Nat}{enc:α->List Value}{X:Nat->Prop}{w w':World}{v:Value}{l:List α}(h:Own base e k enc w v l)(hb:Kept X w w')(hX:∀g,v.ownBlock=some g->¬X g):Own base e k enc w' v l:=by
 refine⟨⟨h.1.1,?_⟩,h.2⟩;rcases h.1.2 with hn|⟨g,cap,cur,rfl,hbg,K7,rest⟩
 ·exact .inl hn
 refine .inr ⟨g,cap,cur,rfl,hbg,?_,rest⟩;rw[hb.block g (Array.getElem?_eq_some_iff.1 K7).1 (hX g rfl)];exact K7
theorem Own.new {α:Type}{base:Nat}{e:TypeId}{k:Nat}{enc:α->List Value}{w w':World}{v:Value}{l:List α}{e':TypeId}{cs:List Value}(h:Own base e k enc w v l)(hn:mN w w' e' cs):Own base e k enc w' v l:=h.below hn.below
theorem Own.block {α:Type}{base:Nat}{e:TypeId}{k:Nat}{enc:α->List Value}{w:World}{v:Value}{l:List α}(h:Own base e k enc w v l):∀g,v.ownBlock=some g->base<=g/\g<w.heap.size:=h.1.lt
end
attribute [push_cast] Bool.false_or Bool.or_true UH I4 Er LN OT OW Ck AZ Ep aIM Ut MM aAj Lh aAm aAn U6
def oS (n:Int):List Value:=[.int .i64 n]
theorem mN.own {α:Type}{base k n:Nat}{e:TypeId}{enc:α->List Value}{w w':World}{cs:List Value}{l:List α}(h:mN w w' e cs)(il:cs=l.flatMap enc)(hn:l.length=n)(hk:∀x,(enc x).length=k)(hb:base<=w.heap.size)(hm:n<=140737488355328) :
  Own base e k enc w' (.slice (some ⟨w.heap.size,0,none⟩) n n) l:=by
 subst il hn;have hlen:(l.flatMap enc).length=l.length*k:=by
  clear h hb hm;induction l with
  | nil=>simp
  | cons y ys ih=>simp[List.flatMap_cons,hk,ih,Nat.add_mul];omega
 refine⟨⟨hlen,.inr ⟨w.heap.size,l.length,(l.flatMap enc).toArray,rfl,hb,h.block,Nat.le_refl _,by simp only[maxLen];omega,by simp[hlen],?_⟩⟩,hk⟩;rw[<-hlen];exact List.take_length
theorem Sl.AJ {α:Type}{X:Nat->Prop}{k:Nat}{R:List Value->α->Prop}{w:World}{a:Option Addr}{n c:Nat}{l:List α}(h:Sl X k R w (.slice a n c) l){i:Nat}{x:α}(hx:l[i]?=some x) :
  ∃b o cs,a=some ⟨b,o,none⟩/\¬X b/\cs.length=k/\(∀j u,cs[j]?=some u->w.cell? ⟨b,o+i*k+j,none⟩=some u)/\R cs x:=by
 obtain⟨a',c',he,_,h⟩:=h;cases he;exact h i x hx
theorem Own.cut {α:Type}{base k n c:Nat}{e:TypeId}{enc:α->List Value}{w:World}{a:Option Addr}{l:List α}(h:Own base e k enc w (.slice a n c) l) :
  (a=none/\n=0/\c=0/\l=[])\/∃g,a=some ⟨g,0,none⟩/\n=l.length/\n<=c/\∀m,m<=n->Own base e k enc w (.slice (some ⟨g,0,none⟩) m c) (l.take m):=by
 obtain⟨⟨h1,h2⟩,hk⟩:=h;rcases h2 with ⟨he,h0⟩|⟨g,cap,cur,he,hbg,K7,x7,s9,il,JU⟩
 ·cases he;exact .inl ⟨rfl,rfl,rfl,List.eq_nil_of_length_eq_zero h0⟩
 cases he;refine .inr ⟨g,rfl,rfl,x7,λm hm=>⟨⟨?_,.inr ⟨g,c,cur,?_,hbg,K7,?_,s9,il,?_⟩⟩,hk⟩⟩
 ·clear JU h1;have:∀(l:List α),(l.flatMap enc).length=l.length*k:=by
   intro l;induction l with
   | nil=>simp
   | cons y ys ih=>simp[List.flatMap_cons,hk,ih,Nat.add_mul];omega
  rw[this]
 ·rw[List.length_take,Nat.min_eq_left hm]
 ·rw[List.length_take];omega
 have hl:∀(l:List α),(l.flatMap enc).length=l.length*k:=by
  intro l;induction l with
  | nil=>simp
  | cons y ys ih=>simp[List.flatMap_cons,hk,ih,Nat.add_mul];omega
 have h3:l.flatMap enc=(l.take m).flatMap enc++(l.drop m).flatMap enc:=by rw[<-List.flatMap_append,List.take_append_drop]
 rw[h3]at JU;have h4:=congrArg (List.take ((l.take m).length*k)) JU;rw[List.take_take,<-hl (l.take m),List.take_left,hl,Nat.min_eq_left (Nat.mul_le_mul_right k (by rw[List.length_take];omega))]at h4;exact h4
theorem FG (e:TypeId)(e':TypeId)(k:Nat)(kk:IntKind)(L:VP)(other:Prop)(p):gA (some (.slice e)) (some (e',k)) (.slice none 0 0) none (some (.int kk 0)) none L other p=L (.slice none 0 0):=by
 simp[gA,iL]
attribute [push_cast] FG
theorem aN.aB {w:World}{b:Nat}{e:TypeId}{cs:List Value}(h:aN w b e cs):aB w ⟨b,0,none⟩ 0 cs.length=some cs :=
 ao cs 0 λj u hu=>by rw[Nat.zero_add,Nat.zero_add];exact h.cell hu
inductive Ord where
 | done
 | one (k:Nat) (r:Ord)
 | two (k:Nat) (r:Ord) (k':Nat) (r':Ord)
def Cx (P:Program)(ops:Array Oper)(bf:Array Nat):Nat->Ord->Array Bool->Bool
 | _,.done,listed=>(Region.ready .any ops listed).isEmpty
 | n+1,.one k r,listed=>(Region.ready .any ops listed).contains k && mY P ops bf listed k && Cx P ops bf n r (listed.setIfInBounds k true)
 | n+1,.two k r k' r',listed=>(Region.ready .any ops listed).contains k && (Region.ready .any ops listed).all (λi=>i == k || i == k') && Cx P ops bf n r (listed.setIfInBounds k true) && Cx P ops bf n r' (listed.setIfInBounds k' true)
 | _,_,_=>false
def aMO (P:Program)(ops:Array Oper)(o:Ord):Bool:=Region.noSelect ops && Cx P ops (Region.before ops) ops.size o (Array.replicate ops.size false)
section
variable {P:Program} {ops:Array Oper} {C:World->Prop}
def Dm (P:Program)(ops:Array Oper)(C:World->Prop)(R:Act->World->Prop):Ord->Act->World->Prop
 | .done,a,w=>R a w
 | .one k r,a,w=>bH P ops C k (Dm P ops C R r) a w
 | .two k r k' r',a,w=>bH P ops C k (Dm P ops C R r) a w/\bH P ops C k' (Dm P ops C R r') a w
theorem q8 {R:Act->World->Prop}(hs:Region.noSelect ops=true):∀(o:Ord) (n:Nat) (listed:Array Bool) (a:Act) (w:World),C w->qk ops listed ->
  Cx P ops (Region.before ops) n o listed=true->Dm P ops C R o a w->zm P .any ops C R n listed a w
 | .done,0,listed,a,w,_,_,hB,h=>⟨by simpa[Cx] using hB,h⟩
 | .done,n+1,listed,a,w,_,_,hB,h=>⟨λ_=>h,λi hi=>by
   have:Region.ready .any ops listed=[]:=by simpa[Cx] using hB
   rw[this]at hi;cases hi⟩
 | .one k r,0,_,_,_,_,_,hB,_=>by simp[Cx]at hB
 | .two ..,0,_,_,_,_,_,hB,_=>by simp[Cx]at hB
 | .one k r,n+1,listed,a,w,hC,hS,hB,h=>by
  simp only[Cx,Bool.and_eq_true]at hB;obtain⟨⟨hr,hf⟩,nz⟩:=hB;have jh:k∈Region.ready .any ops listed:=by simpa using hr
  obtain⟨_,ok,bI,_⟩:=mem_ready.1 jh;refine zt (i:=k) (oi:=ok) bI (Region.noSelect_spec hs) n listed a w hC hS (fh bI hf) jh ?_;exact cE hC (λa' w' uI hh=>q8 hs r n _ a' w' uI (hS.set jh) nz hh) h
 | .two k r k' r',n+1,listed,a,w,hC,hS,hB,h=>by
  simp only[Cx,Bool.and_eq_true,List.all_eq_true,Bool.or_eq_true,beq_iff_eq]at hB;obtain⟨⟨⟨hr,cg⟩,oU⟩,gy⟩:=hB;have jh:k∈Region.ready .any ops listed:=by simpa using hr
  refine⟨λh0=>(by rw[h0]at jh;cases jh),λi hi=>?_⟩;rcases cg i hi with rfl|rfl
  ·exact cE hC (λa' w' uI hh=>q8 hs r n _ a' w' uI (hS.set hi) oU hh) h.1
  exact cE hC (λa' w' uI hh=>q8 hs r' n _ a' w' uI (hS.set hi) gy hh) h.2
end
section
variable {P:Program}
def iR (P:Program)(ops:List Oper)(C:World->Prop)(o:Option Oper)(K:Fr->World->Prop)(t:Fr)(w:World)(_:Ph (ops,C,K)):Prop:=match o with
 | none=>False
 | some o=>match o.guard with
  | none=>eG P o t w C (λv w'=>K (put t o.dst v) w') .mk
  | some (j,want)=>iq (j0 ops j) want t (λt'=>eG P o t' w C (λv w'=>K (put t' o.dst v) w') .mk) (λt'=>K (put t' o.dst undef) w) .mk
def mD (P:Program)(ops:List Oper)(C:World->Prop)(R:Fr->World->Prop):(o:Ord)->Fr->World->Ph (ops,C,R)->Prop
 | .done,t,w,_=>R t w
 | .one k r,t,w,_=>iR P ops C ops[k]? (λt w=>mD P ops C R r t w .mk) t w .mk
 | .two k r k' r',t,w,_=>iR P ops C ops[k]? (λt w=>mD P ops C R r t w .mk) t w .mk/\iR P ops C ops[k']? (λt w=>mD P ops C R r' t w .mk) t w .mk
theorem dh {ops:List Oper}{C:World->Prop}{K:Fr->World->Prop}{N:Act->World->Prop}(hn:∀t w,K t w->N ⟨t.toArray,[]⟩ w){k:Nat}{t:Fr}{w:World}(h:iR P ops C ops[k]? K t w .mk):bH P ops.toArray C k N ⟨t.toArray,[]⟩ w:=by
 unfold iR at h;split at h
 ·exact h.elim
 rename_i o h0;split at h
 ·rename_i hg;exact fx h0 (by simp[Region.wanted,hg]) (λv w' hk=>hn _ _ hk) h
 rename_i j want hg;rcases lS hg h with ⟨hw,hh⟩|⟨hw,hh⟩
 ·exact fx h0 hw (λv w' hk=>hn _ _ hk) hh
 exact u6 h0 hw (hn _ _ hh)
theorem ij {ops:List Oper}{C:World->Prop}{R:Fr->World->Prop}{N:Act->World->Prop}(hn:∀t w,R t w->N ⟨t.toArray,[]⟩ w):∀(o:Ord) (t:Fr) (w:World),
  mD P ops C R o t w .mk->Dm P ops.toArray C N o ⟨t.toArray,[]⟩ w
 | .done,t,w,h=>hn t w h
 | .one k r,t,w,h=>dh (λt w=>ij hn r t w) h
 | .two k r k' r',t,w,h=>⟨dh (λt w=>ij hn r t w) h.1,dh (λt w=>ij hn r' t w) h.2⟩
theorem xX {id:Nat}{l:List Oper}{t:Fr}{w:World}{Q:EP}{p}(o:Ord)(C:World->Prop)(hm:P.follows .mixedOrders=true)(hB:aMO P l.toArray o=true)(hC:C w.drew)
  (h:mD P l C (Q .normal) o t w.drew .mk):dN P (.region id l.toArray true) Q t w p:=by
 unfold dN;simp only[aMO,Bool.and_eq_true]at hB;refine wp_region_any hm (fm (C:=C) (R:=λa w=>lift Q .normal a w) (λ_ _ h=>h) _ _ _ _ hC ?_);refine q8 hB.1 o _ _ _ _ hC (λj o _ hl=>by simp[Array.getElem?_replicate]at hl;split at hl<;>simp at hl) hB.2 ?_;exact ij (R:=Q .normal) (λt w hk=>⟨rfl,by simpa using hk⟩) o t w.drew h
theorem oZ {a:Option Addr}{ad:Addr}(h:a=some ad):∀(e size arr n c k i) (L:VP) (p),jW (some (e,size)) arr (.slice a n c) (.int k i) L p=((0<=i/\i<n)/\L (.pointer (some (ad.add (i.toNat*size))))):=by
 subst h;intro e size arr n c k i L p;cases arr<;>rfl
theorem aEQ {c:Code}{t:Fr}{w:World}{Q:EP}{p}(M:List Nat)(J:(Nat->Value)->World->Prop)(h1:dN P c (λe t' w'=>e=.normal/\t'=ov t M (at_ t')/\J (at_ t') w') t w .mk)
  (h2:∀z w',J z w'->Q .normal (ov t M z) w'):dN P c Q t w p:=by
 refine Mb ?_ h1;rintro e t' w' ⟨rfl,ht,hJ⟩;rw[ht];exact h2 _ _ hJ
variable {t:Fr} {w:World} {C:World->Prop} {R K:Fr->World->Prop}
theorem M8 (ops)(p):mD P ops C R .done t w p=R t w:=(rfl)
theorem PT (ops k r)(p):mD P ops C R (.one k r) t w p=iR P ops C ops[k]? (λt w=>mD P ops C R r t w .mk) t w .mk:=(rfl)
theorem PU (ops k r k' r')(p):mD P ops C R (.two k r k' r') t w p=(iR P ops C ops[k]? (λt w=>mD P ops C R r t w .mk) t w .mk/\iR P ops C ops[k']? (λt w=>mD P ops C R r' t w .mk) t w .mk):=(rfl)
theorem MK (ops)(d op ty pos af)(p):iR P ops C (some ⟨d,op,ty,pos,af,none⟩) K t w p=eG P ⟨d,op,ty,pos,af,none⟩ t w C (λv w'=>K (put t d v) w') .mk:=(rfl)
theorem MJ (ops)(d op ty pos af j want)(p):iR P ops C (some ⟨d,op,ty,pos,af,some (j,want)⟩) K t w p =
  iq (j0 ops j) want t (λt'=>eG P ⟨d,op,ty,pos,af,some (j,want)⟩ t' w C (λv w'=>K (put t' d v) w') .mk) (λt'=>K (put t' d undef) w) .mk:=(rfl)
theorem Zi (x:Oper)(l:List Oper):(x::l)[0]?=some x:=(rfl)
theorem Zh (x:Oper)(l:List Oper)(n:Nat):(x::l)[n+1]?=l[n]?:=(rfl)
end
attribute [push_cast] M8 PT PU MK MJ Zi Zh
attribute [irreducible] mD iR
section
variable {P:Program} {ops:Array Oper} {C:World->Prop}
def ux (P:Program)(ops:Array Oper)(C:World->Prop)(m:Nat)(R:Act->World->Prop):Nat->Array Bool->Act->World->Prop
 | 0,listed,a,w=>(∀j∈Region.ready .any ops listed,j=m)/\zm P .any ops (λ_=>True) R 1 listed a w
 | n+1,listed,a,w=>(Region.ready .any ops listed=[]->R a w)/\∀i∈Region.ready .any ops listed,bH P ops C i (ux P ops C m R n (listed.setIfInBounds i true)) a w
theorem jQ {m:Nat}{R:Act->World->Prop}{Q:Exit->Act->World->Prop}(hq:∀a w,R a w->Q .normal a w):∀(n:Nat) (listed:Array Bool) (a:Act) (w:World),C w ->
  ux P ops C m R n listed a w->wpAny P .any ops Q (n+1) listed a w
 | 0,listed,a,w,_,h=>fm (C:=λ_=>True) hq 1 listed a w trivial h.2
 | fuel+1,listed,a,w,hC,h=>⟨λh0=>hq _ _ (h.1 h0),λi hi=>by
   have h1:=h.2 i hi;unfold bH at h1;unfold wpOp;split
   ·rename_i ho;simp only[ho]at h1;exact jQ hq fuel _ _ _ hC h1
   rename_i o ho;simp only[ho]at h1;split
   ·rename_i hw;simp only[hw,if_true]at h1;refine .inl ?_;split at h1
    ·exact Oper.wp_mono (λa' w' hh=>jQ hq fuel _ _ _ hh.1 hh.2) (me h1)
    obtain⟨v,hv,hk⟩:=h1;unfold Oper.wp;rw[hv w hC];exact jQ hq fuel _ _ _ hC hk
   rename_i hw;simp only[hw]at h1;exact jQ hq fuel _ _ _ hC h1⟩
theorem JI {m:Nat}{R:Act->World->Prop}{i:Nat}{oi:Oper}(hi:ops[i]?=some oi)(him:i≠m)(hm:((Region.before ops).getD m 0).testBit i=true)(qD:∀(j:Nat) (o:Oper) cs b,ops[j]?=some o->o.op≠.select cs b) :
  ∀(fuel:Nat) (listed:Array Bool) (a:Act) (w:World),C w->qk ops listed ->
   (∀j oj,ops[j]?=some oj->j≠i->listed.getD j true=false->((Region.before ops).getD j 0).testBit i=false->oi.apart ops oj=true/\(chain P oi && chain P oj)=false) ->
   i∈Region.ready .any ops listed->bH P ops C i (ux P ops C m R fuel (listed.setIfInBounds i true)) a w->ux P ops C m R (fuel+1) listed a w:=by
 have CG:∀listed:Array Bool,i∈Region.ready .any ops listed->listed.getD i false=false:=λlisted hr=>by
  have h0:=(mem_ready.1 hr).1;rcases Nat.lt_or_ge i listed.size with h'|h'
  ·simp[h']at h0 ⊢;exact h0
  simp[Array.getElem?_eq_none h']
 intro fuel;induction fuel with
 | zero =>
  intro listed a w hC hS _ hr H;refine⟨λh=>(by rw[h]at hr;cases hr),λj hj=>?_⟩;by_cases oA:j=i
  ·subst oA;exact H
  have:=ready_mono hj oA;obtain⟨_,_,_,hh⟩:=qK hC H;have Ht:=hh.1 j this;subst Ht;obtain⟨_,oj,rX,cg⟩:=mem_ready.1 hj
  have:=hS.before j i oj rX cg hm;rw[CG listed hr]at this;cases this
 | succ fuel ih =>
  intro listed a w hC hS mG hr H;refine⟨λh=>(by rw[h]at hr;cases hr),λj hj=>?_⟩;by_cases oA:j=i
  ·subst oA;exact H
  have h1:bH P ops C i (bH P ops C j (ux P ops C m R fuel ((listed.setIfInBounds i true).setIfInBounds j true))) a w :=
   cE hC (λa' w' _ hh=>hh.2 j (ready_mono hj oA)) H
  obtain⟨vv,oj,rX,cg⟩:=mem_ready.1 hj;have Hr:=CG listed hr;have CA:((Region.before ops).getD j 0).testBit i=false:=by
   cases hb:((Region.before ops).getD j 0).testBit i with
   | false=>rfl
   | true=>have:=hS.before j i oj rX cg hb;rw[Hr]at this;cases this
  obtain⟨uK,VZ⟩:=mG j oj rX oA vv CA;have h2:=nR hi rX uK VZ (λcs b=>qD i oi cs b hi) (λcs b=>qD j oj cs b rX) h1;refine cE hC (λa' w' uI h3=>ih (listed.setIfInBounds j true) a' w' uI (hS.set hj) ?_ (ready_mono hr (Ne.symm oA)) ?_) h2
  ·intro k ok hk Ke CG ep;refine mG k ok hk Ke ?_ ep;by_cases Nu:j=k
   ·subst Nu;exact vv
   rw[getD_set_ne true Nu]at CG;exact CG
  rw[Array.setIfInBounds_comm _ _ oA];exact h3
def ri (P:Program)(ops:Array Oper)(bf:Array Nat)(m:Nat):Nat->Nat->Array Bool->Bool
 | 0,_,listed=>(Region.ready .any ops listed).contains m && (Region.ready .any ops listed).all (· == m) && (Region.ready .any ops (listed.setIfInBounds m true)).isEmpty
 | fuel+1,k,listed=>(Region.ready .any ops listed).contains k && mY P ops bf listed k && (bf.getD m 0).testBit k && ri P ops bf m fuel (k+1) (listed.setIfInBounds k true)
def aFQ (P:Program)(ops:Array Oper):Bool:=Region.noSelect ops && ri P ops (Region.before ops) (ops.size-1) (ops.size-1) 0 (Array.replicate ops.size false)
def y7 (P:Program)(ops:Array Oper)(C:World->Prop)(m:Nat)(R:Act->World->Prop):List Nat->Act->World->Prop
 | [],a,w=>bH P ops (λ_=>True) m R a w
 | i::r,a,w=>bH P ops C i (y7 P ops C m R r) a w
theorem Di {m:Nat}{R:Act->World->Prop}(hs:Region.noSelect ops=true):∀(n k:Nat) (listed:Array Bool) (a:Act) (w:World),k+n=m->m<ops.size->C w->qk ops listed ->
  ri P ops (Region.before ops) m n k listed=true->y7 P ops C m R (List.range' k n) a w->ux P ops C m R n listed a w
 | 0,_,listed,a,w,_,_,_,_,hB,h=>by
  simp only[ri,Bool.and_eq_true,List.all_eq_true,beq_iff_eq,List.isEmpty_iff]at hB;obtain⟨⟨h1,h2⟩,h3⟩:=hB;refine⟨h2,⟨λh0=>?_,λi hi=>?_⟩⟩
  ·rw[h0]at h1;simp at h1
  rw[h2 i hi];exact cE trivial (λa' w' _ hh=>⟨h3,hh⟩) h
 | n+1,k,listed,a,w,hk,aq,hC,hS,hB,h=>by
  simp only[ri,Bool.and_eq_true]at hB;obtain⟨⟨⟨hr,hf⟩,hm⟩,nz⟩:=hB;have rW:k<ops.size:=by omega
  have jh:k∈Region.ready .any ops listed:=by simpa using hr
  refine JI (i:=k) (oi:=ops[k]) (by simp[rW]) (by omega) hm (Region.noSelect_spec hs) n listed a w hC hS (fh (by simp[rW]) hf) jh ?_;simp only[List.range'_succ,y7]at h;exact cE hC (λa' w' uI hh=>Di hs n (k+1) _ a' w' (by omega) aq uI (hS.set jh) nz hh) h
end
section
variable {P:Program}
def kE (P:Program)(ops:List Oper)(C:World->Prop)(R:Fr->World->Prop):(l:List Oper)->Fr->World->Ph (ops,C,R,l)->Prop
 | [],_,_,_=>False
 | [o],t,w,_=>match o.guard with
  | none=>eG P o t w (λ_=>True) (λv w'=>R (put t o.dst v) w') .mk
  | some _=>False
 | o::o'::r,t,w,_=>match o.guard with
  | none=>eG P o t w C (λv w'=>kE P ops C R (o'::r) (put t o.dst v) w' .mk) .mk
  | some (j,want)=>iq (j0 ops j) want t (λt'=>eG P o t' w C (λv w'=>kE P ops C R (o'::r) (put t' o.dst v) w' .mk) .mk) (λt'=>kE P ops C R (o'::r) (put t' o.dst undef) w .mk) .mk
theorem p6 {ops:List Oper}{C:World->Prop}{R:Fr->World->Prop}{N:Act->World->Prop}(hn:∀t w,R t w->N ⟨t.toArray,[]⟩ w):∀(l:List Oper) (k m:Nat) (t:Fr) (w:World),(∀j,l[j]?=ops[k+j]?)->k+l.length=m+1 ->
  kE P ops C R l t w .mk->y7 P ops.toArray C m N (List.range' k (l.length-1)) ⟨t.toArray,[]⟩ w
 | [],_,_,_,_,_,_,h=>h.elim
 | [o],k,m,t,w,hl,hm,h=>by
  have vB:k=m:=by simpa using hm
  subst vB;have h0:ops[k]?=some o:=by simpa using(hl 0).symm
  simp only[kE]at h;simp only[List.length_cons,List.length_nil,Nat.zero_add,Nat.sub_self,List.range'_zero,y7];split at h
  ·rename_i hg;exact fx h0 (by simp[Region.wanted,hg]) (λv w' hk=>hn _ _ hk) h
  exact h.elim
 | o::o'::r,k,m,t,w,hl,hm,h=>by
  have h0:ops[k]?=some o:=by simpa using(hl 0).symm
  have ih:=λt w=>p6 (C:=C) hn (o'::r) (k+1) m t w (λj=>by have:=hl (j+1);simpa[Nat.add_assoc,Nat.add_comm 1 j] using this) (by simp only[List.length_cons]at hm ⊢;omega);have hlen:(o::o'::r).length-1=((o'::r).length-1)+1:=by simp
  rw[hlen,List.range'_succ];simp only[y7];simp only[kE]at h;split at h
  ·rename_i hg;exact fx h0 (by simp[Region.wanted,hg]) (λv w' hk=>ih _ _ hk) h
  rename_i j want hg;rcases lS hg h with ⟨hw,hh⟩|⟨hw,hh⟩
  ·exact fx h0 hw (λv w' hk=>ih _ _ hk) hh
  exact u6 h0 hw (ih _ _ hh)
theorem eC {id:Nat}{l:List Oper}{t:Fr}{w:World}{Q:EP}{p}(C:World->Prop)(hm:P.follows .mixedOrders=true)(hB:aFQ P l.toArray=true)(hl:l≠[])(hC:C w.drew)
  (h:kE P l C (Q .normal) l t w.drew .mk):dN P (.region id l.toArray true) Q t w p:=by
 unfold dN;simp only[aFQ,Bool.and_eq_true]at hB;have qB:0<l.length:=List.length_pos_iff.2 hl;have ED:l.toArray.size=(l.length-1)+1:=by simp;omega
 refine wp_region_any hm ?_;have hG:ux P l.toArray C (l.length-1) (λa w=>lift Q .normal a w) (l.length-1) (Array.replicate l.toArray.size false) ⟨t.toArray,[]⟩ w.drew:=by
  refine Di hB.1 _ 0 _ _ _ (by simp) (by simp;omega) hC (λj o _ hl=>by simp[Array.getElem?_replicate]at hl;split at hl<;>simp at hl) (by simpa using hB.2) ?_;exact p6 (P:=P) (ops:=l) (C:=C) (R:=Q .normal) (N:=λa w=>lift Q .normal a w) (λt w hk=>⟨rfl,by simpa using hk⟩) l 0 (l.length-1) t w.drew (λj=>by simp) (by omega) h
 have:=jQ (C:=C) (R:=λa w=>lift Q .normal a w) (Q:=λe a w=>lift Q e a w) (λ_ _ h=>h) _ _ _ _ hC hG;rw[<-ED]at this;exact this
variable {t:Fr} {w:World} {C:World->Prop} {K:VK} {R:Fr->World->Prop}
theorem PN (ops)(d op ty pos af)(p):kE P ops C R [⟨d,op,ty,pos,af,none⟩] t w p=eG P ⟨d,op,ty,pos,af,none⟩ t w (λ_=>True) (λv w'=>R (put t d v) w') .mk:=(rfl)
theorem JD (ops)(d op ty pos af o' r)(p):kE P ops C R (⟨d,op,ty,pos,af,none⟩::o'::r) t w p=eG P ⟨d,op,ty,pos,af,none⟩ t w C (λv w'=>kE P ops C R (o'::r) (put t d v) w' .mk) .mk:=(rfl)
theorem JC (ops)(d op ty pos af j want o' r)(p):kE P ops C R (⟨d,op,ty,pos,af,some (j,want)⟩::o'::r) t w p =
  iq (j0 ops j) want t (λt'=>eG P ⟨d,op,ty,pos,af,some (j,want)⟩ t' w C (λv w'=>kE P ops C R (o'::r) (put t' d v) w' .mk) .mk) (λt'=>kE P ops C R (o'::r) (put t' d undef) w .mk) .mk:=(rfl)
end
attribute [push_cast] PN JD JC
attribute [irreducible] kE
section
variable {P:Program} {ops:Array Oper} {C:World->Prop}
def JJ (P:Program)(ops:Array Oper)(R:Act->World->Prop):List Nat->Act->World->Prop
 | [],a,w=>R a w
 | k::r,a,w=>bH P ops (λ_=>True) k (JJ P ops R r) a w
def aBa (P:Program)(ops:Array Oper)(C:World->Prop)(R:Act->World->Prop)(post:List Nat):List Nat->Act->World->Prop
 | [],a,w=>JJ P ops R post a w
 | k::r,a,w=>bH P ops C k (aBa P ops C R post r) a w
end
section
variable {P:Program}
def sO (P:Program)(ops:List Oper)(R:Fr->World->Prop):(l:List Nat)->Fr->World->Ph (ops,R,l)->Prop
 | [],t,w,_=>R t w
 | k::r,t,w,_=>iR P ops (λ_=>True) ops[k]? (λt w=>sO P ops R r t w .mk) t w .mk
def Df (P:Program)(ops:List Oper)(C:World->Prop)(R:Fr->World->Prop)(post:List Nat):(l:List Nat)->Fr->World->Ph (ops,C,R,post,l)->Prop
 | [],t,w,_=>sO P ops R post t w .mk
 | k::r,t,w,_=>iR P ops C ops[k]? (λt w=>Df P ops C R post r t w .mk) t w .mk
theorem p8 {ops:List Oper}{R:Fr->World->Prop}{N:Act->World->Prop}(hn:∀t w,R t w->N ⟨t.toArray,[]⟩ w):∀(l:List Nat) (t:Fr) (w:World),sO P ops R l t w .mk->JJ P ops.toArray N l ⟨t.toArray,[]⟩ w
 | [],t,w,h=>hn t w h
 | k::r,t,w,h=>dh (λt w=>p8 hn r t w) h
theorem sQ {ops:List Oper}{C:World->Prop}{R:Fr->World->Prop}{N:Act->World->Prop}{post:List Nat}(hn:∀t w,R t w->N ⟨t.toArray,[]⟩ w):∀(l:List Nat) (t:Fr) (w:World),Df P ops C R post l t w .mk->aBa P ops.toArray C N post l ⟨t.toArray,[]⟩ w
 | [],t,w,h=>p8 hn post t w h
 | k::r,t,w,h=>dh (λt w=>sQ hn r t w) h
variable {t:Fr} {w:World} {C:World->Prop} {R:Fr->World->Prop}
theorem PO (ops)(p):sO P ops R [] t w p=R t w:=(rfl)
theorem M6 (ops k r)(p):sO P ops R (k::r) t w p=iR P ops (λ_=>True) ops[k]? (λt w=>sO P ops R r t w .mk) t w .mk:=(rfl)
theorem VM (ops post)(p):Df P ops C R post [] t w p=sO P ops R post t w .mk:=(rfl)
theorem PR (ops post k r)(p):Df P ops C R post (k::r) t w p=iR P ops C ops[k]? (λt w=>Df P ops C R post r t w .mk) t w .mk:=(rfl)
end
attribute [push_cast] PO M6 VM PR
attribute [irreducible] sO Df
section
variable {P:Program} {w:World} {K:VK} {L:VP} {other:Prop}
theorem aAM {α:Type}{X:Nat->Prop}{R:List Value->α->Prop}{e e':TypeId}{k n c i:Nat}{a:Option Addr}{l:List α}{p}(hs:Sl X k R w (.slice a n c) l)(hi:i<=n)
  (kk:∀a' c',Sl X k R w (.slice a' (n-i) c') (l.drop i)->L (.slice a' (n-i) c')):gA (some (.slice e)) (some (e',k)) (.slice a n c) (some (.int .i64 (i:Int))) none none L other p:=by
 unfold Sl at hs;obtain⟨a0,c0,he,hc,tf⟩:=hs;cases he;simp only[gA,iL];refine⟨by omega,?_⟩;simp only[Int.toNat_natCast];refine kk _ _ ?_;refine⟨_,_,by rw[List.length_drop],by rw[List.length_drop];omega,λj x hx=>?_⟩;rw[List.getElem?_drop]at hx;have aq:=(List.getElem?_eq_some_iff.1 hx).1;obtain⟨b,o,cs,rfl,hb,il,aM,hr⟩:=tf (i+j) x hx;rw[if_neg (by omega)];refine⟨b,o+i*k,cs,by simp only[Option.map_some,add_lit],hb,il,λq u hu=>?_,hr⟩
 have:=aM q u hu;rwa [Nat.add_mul,<-Nat.add_assoc]at this
theorem aAL {α:Type}{X:Nat->Prop}{R:List Value->α->Prop}{e e':TypeId}{k n c i:Nat}{a:Option Addr}{l:List α}{p}(hs:Sl X k R w (.slice a n c) l)(hi:i<=n)
  (kk:Sl X k R w (.slice a i c) (l.take i)->L (.slice a i c)):gA (some (.slice e)) (some (e',k)) (.slice a n c) none (some (.int .i64 (i:Int))) none L other p:=by
 have hs0:=hs;unfold Sl at hs;obtain⟨a0,c0,he,hc,tf⟩:=hs;cases he;simp only[gA,iL];refine⟨by omega,?_⟩;have e1:(a.map (·.add (Int.toNat ((0:Nat):Int)*k)))=a:=by
  cases a with
  | none=>rfl
  | some a=>simp[Addr.add]
 rw[e1,ite_self];simp only[Int.toNat_natCast,Nat.sub_zero];refine kk ⟨_,_,by rw[List.length_take,Nat.min_eq_left hi],by rw[List.length_take];omega,λj x hx=>tf j x ?_⟩;rw[List.getElem?_take]at hx;split at hx
 ·exact hx
 cases hx
theorem xV {α:Type}{base:Nat}{e:TypeId}{enc:α->List Value}{v:Value}{l:List α}{g i:Nat}{y:α}{u:Value}{p}(ho:Own base e 1 enc w v l)(hg:v.ownBlock=some g)(hi:i<l.length)(hu:enc y=[u])(h1:lG u=true)
  (kk:∀w',Own base e 1 enc w' v (l.set i y)->Kept (·=g) w w'->w'.heap.size=w.heap.size->K undef w'):uu (some none) (.pointer (some ⟨g,i,none⟩)) u w K other p:=by
 obtain⟨⟨hlen,hr⟩,hk⟩:=ho;have tL:∀l:List α,(l.flatMap enc).length=l.length:=λl=>by
  induction l with
  | nil=>rfl
  | cons x l ih=>simp[List.flatMap_cons,hk,ih];omega
 rcases hr with ⟨he,_⟩|⟨g',cap,cur,he,hbg,K7,x7,s9,il,JU⟩
 ·subst he;cases hg
 subst he;have:g'=g:=by simpa[Value.ownBlock] using hg
 subst this;have hB:aN w g' e cur.toList:=K7;have Kf:l.length<=cur.size:=by have:=congrArg List.length JU;rw[List.length_take,tL,Array.length_toList]at this;omega
 refine aC hB (by rw[Array.length_toList];omega) h1 ?_;intro w' vD;refine kk w' ⟨⟨?_,.inr ⟨g',cap,(cur.toList.set i u).toArray,by simp,hbg,vD.aL,by simpa using x7,s9,by simpa using il,?_⟩⟩,hk⟩ vD.kept vD.size
 ·rw[tL,List.length_set];omega
 have uS:(l.set i y).flatMap enc=(l.flatMap enc).set i u:=by
  clear hg hi kk JU Kf hlen x7 vD;induction l generalizing i with
  | nil=>simp
  | cons x l ih =>
   have hx:=hk x;match hex:enc x,hx with
   | [z],_ =>
    cases i with
    | zero=>simp[List.flatMap_cons,hu,hex]
    | succ i=>simp[List.flatMap_cons,hex];exact ih
 rw[uS,<-JU,List.length_set];simp only[List.length_take,List.length_set,Array.length_toList];rw[List.take_set]
end
def still (o:Oper):Bool:=match o.op with
 | .move _=>true
 | _=>false
def cls (C:World->Prop)(m:Nat)(listed:Array Bool):World->Prop:=λw=>listed.getD m false=true\/C w
section
variable {P:Program} {ops:Array Oper} {C:World->Prop}
theorem po {m:Nat}{listed:Array Bool}(h:listed.getD m false=true):cls C m listed=λ_=>True:=funext λw=>propext ⟨λ_=>trivial,λ_=>.inl h⟩
theorem uD {m:Nat}{listed:Array Bool}(h:listed.getD m false=false):cls C m listed=C:=funext λw=>propext ⟨λhh=>hh.resolve_left (by rw[h];simp),.inr⟩
theorem B0 {m i:Nat}{listed:Array Bool}{w:World}(h:cls C m listed w):cls C m (listed.setIfInBounds i true) w:=by
 rcases h with h|h
 ·exact .inl (getD_set_true h)
 exact .inr h
theorem LQ {D:World->Prop}{i:Nat}{o:Oper}{K:Act->World->Prop}{a:Act}{w:World}(hi:ops[i]?=some o)(hs:still o=true)(hC:C w)(h:bH P ops C i K a w):bH P ops D i K a w:=by
 unfold still at hs;split at hs
 ·rename_i x hx;have VZ:chain P o=false:=by unfold chain;rw[hx]
  unfold bH at h ⊢
  simp only[hi,VZ,Bool.false_eq_true,if_false]at h ⊢
  split at h
  ·rename_i hw;rw[if_pos hw];obtain⟨v,hv,hk⟩:=h;have e:∀w':World,(execOp a.eval o).run P w'=.ok (.value (a.eval x)) w':=λw'=>by unfold execOp;rw[hx];rfl
   have:=hv w hC;rw[e w]at this;cases this;exact⟨_,λw' _=>e w',hk⟩
  rename_i hw;rw[if_neg hw];exact h
 cases hs
def qX (P:Program)(ops:Array Oper)(C:World->Prop)(m:Nat)(R:Act->World->Prop):Nat->Array Bool->Act->World->Prop
 | 0,listed,a,w=>Region.ready .any ops listed=[]/\R a w
 | n+1,listed,a,w=>(Region.ready .any ops listed=[]->R a w)/\∀i∈Region.ready .any ops listed,bH P ops (cls C m (listed.setIfInBounds i true)) i (qX P ops C m R n (listed.setIfInBounds i true)) a w
theorem jR {m:Nat}{R:Act->World->Prop}{Q:Exit->Act->World->Prop}(hq:∀a w,R a w->Q .normal a w):∀(n:Nat) (listed:Array Bool) (a:Act) (w:World),cls C m listed w ->
  qX P ops C m R n listed a w->wpAny P .any ops Q n listed a w
 | 0,listed,a,w,_,h=>⟨h.1,hq _ _ h.2⟩
 | fuel+1,listed,a,w,hC,h=>⟨λh0=>hq _ _ (h.1 h0),λi hi=>by
   have h1:=h.2 i hi;have uI:=B0 (i:=i) hC;unfold bH at h1;unfold wpOp;split
   ·rename_i ho;simp only[ho]at h1;exact jR hq fuel _ _ _ uI h1
   rename_i o ho;simp only[ho]at h1;split
   ·rename_i hw;simp only[hw,if_true]at h1;refine .inl ?_;split at h1
    ·exact Oper.wp_mono (λa' w' hh=>jR hq fuel _ _ _ hh.1 hh.2) (me h1)
    obtain⟨v,hv,hk⟩:=h1;unfold Oper.wp;rw[hv w uI];exact jR hq fuel _ _ _ uI hk
   rename_i hw;simp only[hw]at h1;exact jR hq fuel _ _ _ uI h1⟩
theorem xY {m:Nat}{R:Act->World->Prop}{i:Nat}{oi:Oper}(hi:ops[i]?=some oi)(qD:∀(j:Nat) (o:Oper) cs b,ops[j]?=some o->o.op≠.select cs b) :
  ∀(fuel:Nat) (listed:Array Bool) (a:Act) (w:World),cls C m listed w->qk ops listed ->
   (listed.getD m false=true\/(i≠m/\(((Region.before ops).getD m 0).testBit i=true\/still oi=true))) ->
   (∀j oj,ops[j]?=some oj->j≠i->listed.getD j true=false->((Region.before ops).getD j 0).testBit i=false->oi.apart ops oj=true/\(chain P oi && chain P oj)=false) ->
   i∈Region.ready .any ops listed->bH P ops (cls C m (listed.setIfInBounds i true)) i (qX P ops C m R fuel (listed.setIfInBounds i true)) a w->qX P ops C m R (fuel+1) listed a w:=by
 have CG:∀listed:Array Bool,∀i∈Region.ready .any ops listed,i<listed.size/\listed.getD i false=false:=λlisted i hr=>by
  have h0:=(mem_ready.1 hr).1;rcases Nat.lt_or_ge i listed.size with h'|h'
  ·simp[h']at h0 ⊢;exact h0
  simp[h']at h0
 intro fuel;induction fuel with
 | zero =>
  intro listed a w hC hS _ _ hr H;refine⟨λh=>(by rw[h]at hr;cases hr),λj hj=>?_⟩;by_cases oA:j=i
  ·subst oA;exact H
  have:=ready_mono hj oA;obtain⟨_,_,_,hh⟩:=qK (B0 hC) H;rw[hh.1]at this;cases this
 | succ fuel ih =>
  intro listed a w hC hS yn mG hr H;refine⟨λh=>(by rw[h]at hr;cases hr),λj hj=>?_⟩;by_cases oA:j=i
  ·subst oA;exact H
  have h1:bH P ops (cls C m (listed.setIfInBounds i true)) i (bH P ops (cls C m ((listed.setIfInBounds i true).setIfInBounds j true)) j (qX P ops C m R fuel ((listed.setIfInBounds i true).setIfInBounds j true))) a w :=
   cE (B0 hC) (λa' w' _ hh=>hh.2 j (ready_mono hj oA)) H
  obtain⟨vv,oj,rX,cg⟩:=mem_ready.1 hj;obtain⟨aQd,Hr⟩:=CG listed i hr;have aHo:=(CG listed j hj).1;have CA:((Region.before ops).getD j 0).testBit i=false:=by
   cases hb:((Region.before ops).getD j 0).testBit i with
   | false=>rfl
   | true=>have:=hS.before j i oj rX cg hb;rw[Hr]at this;cases this
  obtain⟨uK,VZ⟩:=mG j oj rX oA vv CA;have key:∃D:World->Prop,D w/\cls C m (listed.setIfInBounds j true)=D/\cls C m ((listed.setIfInBounds j true).setIfInBounds i true)=D/\bH P ops D i (bH P ops D j (qX P ops C m R fuel ((listed.setIfInBounds i true).setIfInBounds j true))) a w /\
    ((listed.setIfInBounds j true).getD m false=true\/(i≠m/\(((Region.before ops).getD m 0).testBit i=true\/still oi=true))):=by
   cases hm:listed.getD m false with
   | true =>
    have e1:∀k,(listed.setIfInBounds k true).getD m false=true:=λk=>getD_set_true hm;have e2:∀k k',((listed.setIfInBounds k true).setIfInBounds k' true).getD m false=true:=λk k'=>getD_set_true (e1 k);rw[po (e1 i),po (e2 i j)]at h1;exact⟨λ_=>True,trivial,po (e1 j),po (e2 j i),h1,.inl (e1 j)⟩
   | false =>
    have oW:=yn.resolve_left (by rw[hm];simp);have hCw:C w:=by rw[uD hm]at hC;exact hC
    have ei:(listed.setIfInBounds i true).getD m false=false:=by rw[getD_set_ne false oW.1];exact hm
    by_cases Ht:j=m
    ·subst Ht;have bm:still oi=true:=by
      rcases oW.2 with h|h
      ·rw[CA]at h;cases h
      exact h
     have ej:(listed.setIfInBounds j true).getD j false=true:=by simp[aHo]
     have eji:((listed.setIfInBounds j true).setIfInBounds i true).getD j false=true:=getD_set_true ej;have eij:((listed.setIfInBounds i true).setIfInBounds j true).getD j false=true:=by simp[aHo]
     rw[uD ei,po eij]at h1;exact⟨λ_=>True,trivial,po ej,po eji,LQ hi bm hCw h1,.inl ej⟩
    have ej:(listed.setIfInBounds j true).getD m false=false:=by rw[getD_set_ne false Ht];exact hm
    have eji:((listed.setIfInBounds j true).setIfInBounds i true).getD m false=false:=by rw[getD_set_ne false oW.1];exact ej
    have eij:((listed.setIfInBounds i true).setIfInBounds j true).getD m false=false:=by rw[getD_set_ne false Ht];exact ei
    rw[uD ei,uD eij]at h1;exact⟨C,hCw,uD ej,uD eji,h1,.inr oW⟩
  obtain⟨D,hD,eD1,eD2,h1,tJ⟩:=key;have h2:=nR hi rX uK VZ (λcs b=>qD i oi cs b hi) (λcs b=>qD j oj cs b rX) h1;rw[eD1];refine cE hD (λa' w' uI h3=>ih (listed.setIfInBounds j true) a' w' (by rw[eD1];exact uI) (hS.set hj) tJ ?_ (ready_mono hr (Ne.symm oA)) ?_) h2
  ·intro k ok hk Ke Ym ep;refine mG k ok hk Ke ?_ ep;by_cases Nu:j=k
   ·subst Nu;exact vv
   rw[getD_set_ne true Nu]at Ym;exact Ym
  rw[eD2,Array.setIfInBounds_comm _ _ oA];exact h3
def zl (P:Program)(ops:Array Oper)(bf:Array Nat)(m:Nat):List Nat->Array Bool->Bool
 | [],listed=>(Region.ready .any ops listed).isEmpty
 | k::r,listed=>(Region.ready .any ops listed).contains k && (if listed.getD m false then mY P ops bf listed k else if k == m then (Region.ready .any ops listed).all (· == m) else mY P ops bf listed k && ((bf.getD m 0).testBit k || (match ops[k]? with|some o=>still o|none=>false))) && zl P ops bf m r (listed.setIfInBounds k true)
def Zj (P:Program)(ops:Array Oper)(pre:List Nat)(m:Nat)(post:List Nat):Bool:=Region.noSelect ops && (pre.length+(post.length+1) == ops.size) && pre.all (· != m) && decide (m<ops.size) && zl P ops (Region.before ops) m (pre++m::post) (Array.replicate ops.size false)
theorem zn {m:Nat}{R:Act->World->Prop}(hs:Region.noSelect ops=true):∀(post:List Nat) (listed:Array Bool) (a:Act) (w:World),listed.getD m false=true->qk ops listed ->
  zl P ops (Region.before ops) m post listed=true->JJ P ops R post a w->qX P ops C m R post.length listed a w
 | [],listed,a,w,_,_,hB,h=>⟨by simpa[zl] using hB,h⟩
 | k::r,listed,a,w,hm,hS,hB,h=>by
  simp only[zl,Bool.and_eq_true,hm,if_true]at hB;obtain⟨⟨hr,hf⟩,nz⟩:=hB;have jh:k∈Region.ready .any ops listed:=by simpa using hr
  obtain⟨_,ok,bI,_⟩:=mem_ready.1 jh;refine xY (i:=k) (oi:=ok) bI (Region.noSelect_spec hs) r.length listed a w (.inl hm) hS (.inl hm) (fh bI hf) jh ?_;rw[po (getD_set_true hm)];exact cE trivial (λa' w' _ hh=>zn hs r _ a' w' (getD_set_true hm) (hS.set jh) nz hh) h
theorem Dj {m:Nat}{post:List Nat}{R:Act->World->Prop}(hs:Region.noSelect ops=true):∀(pre:List Nat) (listed:Array Bool) (a:Act) (w:World),C w->listed.getD m false=false->(∀k∈pre,k≠m)->qk ops listed ->
  zl P ops (Region.before ops) m (pre++m::post) listed=true->aBa P ops C R (m::post) pre a w->qX P ops C m R (pre++m::post).length listed a w
 | [],listed,a,w,hC,hm,_,hS,hB,h=>by
  simp only[List.nil_append,zl,Bool.and_eq_true,hm,Bool.false_eq_true,if_false,beq_self_eq_true,if_true,List.all_eq_true,beq_iff_eq]at hB;obtain⟨⟨hr,cg⟩,nz⟩:=hB;have jh:m∈Region.ready .any ops listed:=by simpa using hr
  have ED:m<listed.size:=by
   have h0:=(mem_ready.1 jh).1;rcases Nat.lt_or_ge m listed.size with h'|h'
   ·exact h'
   simp[h']at h0
  have em:(listed.setIfInBounds m true).getD m false=true:=by simp[ED]
  refine⟨λh0=>(by rw[h0]at jh;cases jh),λi hi=>?_⟩;rw[cg i hi];rw[po em];exact cE trivial (λa' w' _ hh=>zn hs post _ a' w' em (hS.set jh) nz hh) h
 | k::r,listed,a,w,hC,hm,cf,hS,hB,h=>by
  have vB:k≠m:=cf k (by simp);simp only[List.cons_append,zl,Bool.and_eq_true,hm,Bool.false_eq_true,if_false,beq_iff_eq,vB,Bool.or_eq_true]at hB;obtain⟨⟨hr,hf,bm⟩,nz⟩:=hB;have jh:k∈Region.ready .any ops listed:=by simpa using hr
  obtain⟨_,ok,bI,_⟩:=mem_ready.1 jh;rw[bI]at bm;have em:(listed.setIfInBounds k true).getD m false=false:=by rw[getD_set_ne false vB];exact hm
  refine xY (i:=k) (oi:=ok) bI (Region.noSelect_spec hs) _ listed a w (.inr hC) hS (.inr ⟨vB,bm⟩) (fh bI hf) jh ?_;rw[uD em];exact cE hC (λa' w' uI hh=>Dj hs r _ a' w' uI em (λk hk=>cf k (by simp[hk])) (hS.set jh) nz hh) h
end
section
variable {P:Program}
theorem Dg {id:Nat}{l:List Oper}{t:Fr}{w:World}{Q:EP}{p}(pre:List Nat)(m:Nat)(post:List Nat)(C:World->Prop)(hm:P.follows .mixedOrders=true)(hB:Zj P l.toArray pre m post=true)(hC:C w.drew)
  (h:Df P l C (Q .normal) (m::post) pre t w.drew .mk):dN P (.region id l.toArray true) Q t w p:=by
 unfold dN;simp only[Zj,Bool.and_eq_true,beq_iff_eq,List.all_eq_true,bne_iff_ne,decide_eq_true_eq]at hB;refine wp_region_any hm ?_;have hG:qX P l.toArray C m (λa w=>lift Q .normal a w) (pre++m::post).length (Array.replicate l.toArray.size false) ⟨t.toArray,[]⟩ w.drew:=by
  refine Dj hB.1.1.1.1 pre _ _ _ hC (by rw[Array.getD_eq_getD_getElem?,Array.getElem?_replicate];split<;>rfl) hB.1.1.2 (λj o _ hl=>by simp[Array.getElem?_replicate]at hl;split at hl<;>simp at hl) hB.2 ?_;exact sQ (P:=P) (R:=Q .normal) (N:=λa w=>lift Q .normal a w) (λt w hk=>⟨rfl,by simpa using hk⟩) pre t w.drew h
 have:=jR (C:=C) (R:=λa w=>lift Q .normal a w) (Q:=λe a w=>lift Q e a w) (λ_ _ h=>h) _ _ _ _ (.inr hC) hG;rw[List.length_append,List.length_cons,hB.1.1.1.2]at this;exact this
end
section
variable {P:Program} {w:World} {t:Fr} {K:VK} {Q:EP} {L:VP} {other:Prop}
theorem rO {α:Type}{k:Nat}{enc:α->List Value}(hk:∀x,(enc x).length=k):∀(l:List α),(l.flatMap enc).length=l.length*k
 | []=>by simp
 | y::ys=>by simp[List.flatMap_cons,hk,rO hk ys,Nat.add_mul];omega
theorem vd {α:Type}{k:Nat}{enc:α->List Value}(hk:∀x,(enc x).length=k){f:Nat}(hf:f<k){u:Value}{x y:α}(hy:enc y=(enc x).set f u):∀(l:List α) (i:Nat),l[i]?=some x->(l.set i y).flatMap enc=(l.flatMap enc).set (i*k+f) u
 | [],i,h=>by simp at h
 | z::l,0,h=>by
  simp at h;subst h;simp only[List.set_cons_zero,List.flatMap_cons,Nat.zero_mul,Nat.zero_add];rw[hy,List.set_append_left _ _ (by rw[hk];exact hf)]
 | z::l,i+1,h=>by
  simp only[List.set_cons_succ,List.flatMap_cons];rw[vd hk hf hy l i (by simpa using h),List.set_append_right _ _ (by rw[hk,Nat.add_mul];omega),hk];congr 2;rw[Nat.add_mul];omega
theorem vZ {α:Type}{k:Nat}{enc:α->List Value}(hk:∀x,(enc x).length=k){y:α}:∀(l:List α) (i:Nat),i<l.length->(l.set i y).flatMap enc=(l.flatMap enc).take (i*k)++enc y++(l.flatMap enc).drop (i*k+k)
 | [],i,h=>by simp at h
 | z::l,0,h=>by
  simp only[List.set_cons_zero,List.flatMap_cons,Nat.zero_mul,Nat.zero_add,List.take_zero,List.nil_append];rw[List.drop_append_of_le_length (by rw[hk];exact Nat.le_refl _),List.drop_eq_nil_of_le (by rw[hk];exact Nat.le_refl _),List.nil_append]
 | z::l,i+1,h=>by
  simp only[List.set_cons_succ,List.flatMap_cons];have e1:(enc z++l.flatMap enc).take ((i+1)*k)=enc z++(l.flatMap enc).take (i*k):=by
   rw[show (i+1)*k=(enc z).length+i*k by rw[hk,Nat.add_mul];omega,List.take_length_add_append]
  have e2:(enc z++l.flatMap enc).drop ((i+1)*k+k)=(l.flatMap enc).drop (i*k+k):=by
   rw[show (i+1)*k+k=(enc z).length+(i*k+k) by rw[hk,Nat.add_mul];omega,List.drop_length_add_append]
  rw[vZ hk l i (by simpa using h),e1,e2,List.append_assoc,List.append_assoc,List.append_assoc]
theorem Own.opened {α:Type}{base k g:Nat}{e:TypeId}{enc:α->List Value}{v:Value}{l:List α}(ho:Own base e k enc w v l)(hg:v.ownBlock=some g) :
  ∃cur,aN w g e cur/\l.length*k<=cur.length/\cur.take (l.length*k)=l.flatMap enc/\∀(w':World) (SE:List Value) (l':List α),aN w' g e SE->SE.length=cur.length->l'.length=l.length->SE.take (l.length*k)=l'.flatMap enc->Own base e k enc w' v l':=by
 obtain⟨⟨hlen,hr⟩,hk⟩:=ho;have tL:=rO hk;rcases hr with ⟨he,_⟩|⟨g',cap,cur,he,hbg,K7,x7,s9,il,JU⟩
 ·subst he;cases hg
 subst he;have:g'=g:=by simpa[Value.ownBlock] using hg
 subst this;refine⟨cur.toList,K7,?_,by rw[<-tL];simpa[tL] using JU,λw' SE l' hB hl hl' ht=>?_⟩
 ·have:=congrArg List.length JU;rw[List.length_take,tL]at this;omega
 exact⟨⟨by rw[tL],.inr ⟨g',cap,SE.toArray,by rw[hl'],hbg,hB,by rw[hl'];exact x7,s9,by rw[<-il];simpa using hl,by rw[hl'];simpa using ht⟩⟩,hk⟩
theorem gR {α:Type}{base k:Nat}{e:TypeId}{enc:α->List Value}{v:Value}{l:List α}{g i f:Nat}{x y:α}{u:Value}{p}(ho:Own base e k enc w v l)(hg:v.ownBlock=some g)(hx:l[i]?=some x)(hf:f<k)(hu:enc y=(enc x).set f u)(h1:lG u=true)
  (kk:∀w',Own base e k enc w' v (l.set i y)->Kept (·=g) w w'->w'.heap.size=w.heap.size->K undef w'):uu (some none) (.pointer (some ⟨g,i*k+f,none⟩)) u w K other p:=by
 obtain⟨cur,hB,hl,JU,rR⟩:=ho.opened hg;have hk:=ho.2;have hi:=(List.getElem?_eq_some_iff.1 hx).1;have Y0:i*k+f<l.length*k:=by
  have:(i+1)*k<=l.length*k:=Nat.mul_le_mul_right _ hi;rw[Nat.add_mul]at this;omega
 refine aC hB (by omega) h1 ?_;intro w' vD;refine kk w' (rR w' _ _ vD.aL (by simp) (by simp) ?_) vD.kept vD.size;rw[List.take_set,JU,vd hk hf hu l i hx]
theorem Ux {α:Type}{base k:Nat}{e xt:TypeId}{enc:α->List Value}{v:Value}{l:List α}{g i:Nat}{y:α}{cs:List Value}(hty:lC P xt=some (some k))(ho:Own base e k enc w v l)(hg:v.ownBlock=some g)(hi:i<l.length)(hu:enc y=cs)(h1:∀v∈cs,v.oneCell'=true)
  (kk:∀w',Own base e k enc w' v (l.set i y)->Kept (·=g) w w'->w'.heap.size=w.heap.size->K undef w'):aY P (Instr.storeAt xt (.pointer (some ⟨g,i*k,none⟩)) (.agg cs.toArray)) t w K Q .mk:=by
 obtain⟨cur,hB,hl,JU,rR⟩:=ho.opened hg;have hk:=ho.2;have il:cs.length=k:=by rw[<-hu,hk]
 have Y0:i*k+k<=l.length*k:=by
  have:(i+1)*k<=l.length*k:=Nat.mul_le_mul_right _ hi;rw[Nat.add_mul]at this;omega
 refine aI (n:=k) hty hB il (by omega) h1 ?_;intro w' vD;refine kk w' (rR w' _ _ vD.aL (by simp only[List.length_append,List.length_take,List.length_drop];omega) (by simp) ?_) vD.kept vD.size;rw[vZ hk l i hi,hu,<-JU,List.take_take,Nat.min_eq_left (by omega),List.drop_take];have e1:cur.take (i*k)++cs++cur.drop (i*k+k)=(cur.take (i*k)++cs)++cur.drop (i*k+k):=rfl;rw[e1,show l.length*k=(cur.take (i*k)++cs).length+(l.length*k-(i*k+k)) by rw[List.length_append,List.length_take,il];omega,List.take_length_add_append]
 rw[List.length_append,List.length_take,il];congr 2;omega
theorem Own.di {α:Type}{base k:Nat}{e:TypeId}{enc:α->List Value}{v:Value}{l:List α}(h:Own base e k enc w v l):∀n c,v=.slice none n c->n=0/\c=0:=λn c hh=>by
 rcases h.1.2 with ⟨he,_⟩|⟨g,cap,cur,he,_⟩
 ·rw[he]at hh;cases hh;exact⟨rfl,rfl⟩
 rw[he]at hh;cases hh
theorem gw {b o:Nat}{e:TypeId}{cs:List Value}{u:Value}(h:aN w b e cs)(hu:cs[o]?=some u):pP (w.cell? ⟨b,o,none⟩) (λx=>x=u) .mk:=by rw[h.cell hu];exact rfl
theorem I6 {b n:Nat}{e:TypeId}{cs:List Value}{V:Value}(h:aN w b e cs)(hn:cs.length=n)(hV:Value.agg cs.toArray=V):pP (aB w ⟨b,0,none⟩ 0 n) (λl=>Value.agg l.toArray=V) .mk:=by
 subst hn;rw[h.aB];exact hV
end
section
variable {P:Program} {t:Fr} {w:World} {K:VK} {Q:EP}
theorem mi {α:Type}{bt ty e:TypeId}{k bytes base:Nat}{enc:α->List Value}{X:Nat->Prop}{v x:Value}{l ys:List α}{p}(hE:Bd P bt=some (e,k,bytes))(gj:Own base e k enc w v l)(hx:Sl X k (En enc) w x ys)
  (uN:∀n c,x=.slice none n c->n=0/\c=0) (h1:∀x,∀u∈enc x,u.oneCell'=true)
  (hm:(l.length+ys.length)*bytes<=140737488355328) (rS:base<=w.heap.size)
  (kk:∀v' w',Own base e k enc w' v' (l++ys)->w.grownBy w' v.ownBlock->Below base w w'->K v' w'):ak P (Builtin.append_ #[bt,bt] ty [v,x].toArray) t w K Q p:=by
 obtain⟨hu,i,z,hi,hz,rfl,rfl,OH,hk,gn⟩:=nE hE;have hlen:∀(ys:List α),(ys.flatMap enc).length=ys.length*i.size:=by
  intro ys;induction ys with
  | nil=>simp
  | cons y ys ih=>simp[List.flatMap_cons,gj.2,ih,Nat.add_mul];omega
 have hle:l.length+ys.length<=140737488355328:=Nat.le_trans (Nat.le_mul_of_pos_right _ gn) hm;unfold Sl at hx;obtain⟨a,c,rfl,hc,tf⟩:=hx;cases a with
 | none =>
  obtain⟨h0,rfl⟩:=uN _ _ rfl;have:ys=[]:=List.eq_nil_of_length_eq_zero h0;subst this;have hr:=run_append_owned_none (P:=P) w base bt ty e i i.size hu hi v l.length (l.flatMap enc) gj.1;refine fN (w':=w) (v:=v) hr (kk v w (by rw[List.append_nil];exact gj) ⟨rfl,rfl,rfl,Nat.le_refl _,λ_ _ _=>rfl⟩ (Below.refl _ _))
 | some ad =>
  have hy:∀j u,(ys.flatMap enc)[j]?=some u->w.cell? (ad.add j)=some u:=by
   intro j u hj;have hjl:=(List.getElem?_eq_some_iff.1 hj).1;rw[hlen]at hjl;have hq:j / i.size<ys.length:=Nat.div_lt_of_lt_mul (by rw[Nat.mul_comm];exact hjl);have hy0:ys[j / i.size]?=some ys[j / i.size]:=List.getElem?_eq_getElem hq;obtain⟨b,o,cs,hb,_,il,aM,rfl⟩:=tf _ _ hy0;cases hb;have hr:j % i.size<(enc ys[j / i.size]).length:=by rw[il];exact Nat.mod_lt _ hk
   have hg:=lR gj.2 ys (j / i.size) (j % i.size) _ _ hy0 (List.getElem?_eq_getElem hr);have ej:j / i.size*i.size+j % i.size=j:=by rw[Nat.mul_comm];exact Nat.div_add_mod j i.size
   rw[ej,hj]at hg
   have:=aM _ _ (List.getElem?_eq_getElem hr);rw[add_lit];rw[Nat.add_assoc,ej]at this;rw[this,hg]
  obtain⟨v',w',hr,ho,hg,_⟩:=run_append_own (P:=P) w base bt ty e i z i.size i.bytes hu hi hz rfl rfl OH hk v l.length (l.flatMap enc) gj.1 ad ys.length c (ys.flatMap enc) (hlen ys)
   hy (λu JV=>by obtain⟨x,_,hx⟩:=List.mem_flatMap.1 JV;exact h1 x u hx) (by simp only[maxLen];omega) hm rS
  refine fN hr (kk v' w' ⟨by simpa[List.flatMap_append] using ho,gj.2⟩ hg ?_);exact(Below.refl _ _).grown hg rS λk hk=>(gj.1.lt k hk).1
end
attribute [push_cast] decide_true ne_eq eq_self not_true_eq_false not_false_eq_true true_imp_iff false_imp_iff Bool.not_true Bool.not_false
end Go.Vc
