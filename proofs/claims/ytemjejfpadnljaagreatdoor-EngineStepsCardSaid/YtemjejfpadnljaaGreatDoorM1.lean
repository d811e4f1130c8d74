/- Texts of this claim, merged: V. -/
import Derived.WalkKit
import Derived.Laws.BytesArg
import Derived.Laws.Externs
import Derived.Laws.MakeOwn
import Derived.Stop.Asserts
import Derived.Laws.OwnMore
set_option maxRecDepth 100000
set_option linter.unusedSimpArgs false
set_option linter.unusedVariables false
set_option maxHeartbeats 8000000
section
section
namespace Go.Vc
open Go.RowKit
inductive Ph {α:Type}(a:α):Type
 | mk
abbrev Fr:=List Value
abbrev EP:=Exit->Fr->World->Prop
abbrev VK:=Value->World->Prop
abbrev VP:=Value->Prop
def ev (t:Fr):Operand->Value
 | .tmp i=>t.getD i undef
 | .const v=>v
 | .global g=>.pointer (some ⟨g,0,none⟩)
 | .func f=>.func (.func f) #[] #[]
def put (t:Fr)(d:Option Tmp)(v:Value):Fr:=match d with|some d=>t.set d v|none=>t
def rl (P:Program)(t:Fr)(K:VK)(Q:EP):Result Next->Prop
 | .ok (.value v) w'=>K v w'
 | .ok .skip w'=>K undef w'
 | .ok (.enter f args) w'=>Calls P f args w' λe bE=>match e with
   | .returned v=>K v bE
   | .panicked c=>Q (.panic c) t bE
   | .outgrown=>False
 | .halt (.panic v) w'=>Q (.panic [{ v,recovered:=false }]) t w'
 | _=>False
def runK (P:Program)(o:Oper)(t:Fr)(w:World)(K:VK)(Q:EP)(_:Ph (o,K,Q)):Prop:=rl P t K Q ((execOp (ev t) o).run P w)
def aa (P:Program)(f:FuncId)(args:List Value)(t:Fr)(w:World)(K:VK)(Q:EP)(_:Ph (K,Q)):Prop:=rl P t K Q ((callFunc f args.toArray).run P w)
def Dk (c a b:Value)(K:VP)(_:Ph K):Prop:=match c with|.bool x=>K (if x then a else b)|_=>False
def my (c:Value)(x y:Prop)(_:Ph (x,y)):Prop:=match c with|.bool b=>(b=true->x)/\(b=false->y)|_=>False
def iE (s:Option Nat)(want:Bool)(t:Fr)(yes no:Fr->Prop)(_:Ph (yes,no)):Prop :=
 match s with
 | none=>no t
 | some s=>match t.getD s undef with
  | .bool b=>(b=want->yes (t.set s (.bool want)))/\(b=!want->no (t.set s (.bool !want)))
  | _=>no t
def jb (k:IntKind)(n:Int)(K:VP)(_:Ph K):Prop :=
 match k with
 | .i64=>(-9223372036854775808<=n/\n<=9223372036854775807)/\K (.int .i64 n)
 | k=>K (.int k (k.wrap n))
def cD (op:BinOp)(k:IntKind)(x y:Int):Int :=
 let a:=BitVec.ofInt k.bits x
 let b:=BitVec.ofInt k.bits y
 match op with
 | .and=>k.wrap (a &&& b).toNat
 | .or=>k.wrap (a ||| b).toNat
 | .xor=>k.wrap (a ^^^ b).toNat
 | _=>k.wrap (a &&& ~~~b).toNat
def pg (op:BinOp)(k:IntKind)(a b:Int)(K:VP)(_:Ph K):Prop :=
 match op with
 | .add=>jb k (a+b) K .mk
 | .sub=>jb k (a-b) K .mk
 | .mul=>jb k (a*b) K .mk
 | .quo=>b≠0/\K (.int k (k.wrap (a.tdiv b)))
 | .rem=>b≠0/\K (.int k (a.tmod b))
 | .and=>K (.int k (cD .and k a b))
 | .or=>K (.int k (cD .or k a b))
 | .xor=>K (.int k (cD .xor k a b))
 | .andNot=>K (.int k (cD .andNot k a b))
 | .eql=>K (.bool (a == b))
 | .neq=>K (.bool (a != b))
 | .lss=>K (.bool (decide (a<b)))
 | .leq=>K (.bool (decide (a<=b)))
 | .gtr=>K (.bool (decide (b<a)))
 | .geq=>K (.bool (decide (b<=a)))
 | _=>False
def Mh (op:BinOp)(k:IntKind)(x y:Int)(K:VP)(_:Ph K):Prop :=
 match op with
 | .shl=>0<=y/\K (.int k (k.wrap (x*2 ^ min y.toNat k.bits)))
 | .shr=>0<=y/\K (.int k (x.fdiv (2 ^ min y.toNat k.bits)))
 | _=>False
def str (l:List UInt8):Value:=.string ⟨l.toArray⟩
def da (op:BinOp)(x y:Value)(K:VP)(other:Prop)(_:Ph (K,other)):Prop :=
 match op,x,y with
 | .shl,.int k a,.int _ b=>Mh .shl k a b K .mk
 | .shr,.int k a,.int _ b=>Mh .shr k a b K .mk
 | op,.int k a,.int k' b=>k=k'/\pg op k a b K .mk
 | .add,.string a,.string b=>((a.size:Int)+b.size<=9223372036854775807)/\K (.string (a++b))
 | .eql,.string a,.string b=>K (.bool (a.data.toList == b.data.toList))
 | .neq,.string a,.string b=>K (.bool (!(a.data.toList == b.data.toList)))
 | _,_,_=>other
def unK (op:UnOp)(x:Value)(K:VP)(other:Prop)(_:Ph (K,other)):Prop :=
 match op,x with
 | .neg,.int k n=>K (.int k (k.wrap (0-n)))
 | .not,.bool b=>K (.bool (!b))
 | _,_=>other
def nr (x:Value)(i:Nat)(K:VP)(_:Ph K):Prop:=match x with|.tuple vs=>(match vs.toList[i]? with|some v=>K v|none=>False)|_=>False
def MF (d:Option TypeDesc)(x:Value)(K:VP)(other:Prop)(_:Ph (K,other)):Prop :=
 match d,x with
 | some .string,.string s=>K (.int .i64 s.size)
 | some (.slice _),.slice _ n _=>K (.int .i64 n)
 | _,_=>other
def tp (d:Option TypeDesc)(x:Value)(K:VP)(other:Prop)(_:Ph (K,other)):Prop :=
 match d,x with
 | some (.int k),.int _ n=>K (.int k (k.wrap n))
 | some .string,.string s=>K (.string s)
 | _,_=>other
def vx (d:Option TypeDesc)(x i:Value)(K:VP)(other:Prop)(_:Ph (K,other)):Prop :=
 match d,x,i with
 | some .string,.string s,.int _ n=>(0<=n/\n<(s.data.toList.length:Int))/\K (.int .u8 (s.data.toList.getD n.toNat 0).toNat)
 | _,_,_=>other
def Yy (max:Bool)(xs:List Value)(K:VP)(other:Prop)(_:Ph (K,other)):Prop :=
 match xs with
 | [.int k a,.int _ b]=>K (.int k (if max then (if b>a then b else a) else (if b<a then b else a)))
 | _=>other
def Zk (P:Program)(f:Value)(args:List Value)(t:Fr)(w:World)(K:VK)(Q:EP)(other:Prop)(_:Ph (K,Q,other)):Prop :=
 match f with
 | .func (.func g) first cap=>aa P g (first.toList++args++cap.toList) t w K Q .mk
 | _=>other
def ag (P:Program)(s:Sem Value)(t:Fr)(w:World)(K:VK)(Q:EP)(_:Ph (K,Q)):Prop:=rl P t K Q ((do pure (Next.value (<-s)):Sem Next).run P w)
def aX (P:Program)(s:Sem Unit)(t:Fr)(w:World)(K:VK)(Q:EP)(_:Ph (K,Q)):Prop:=rl P t K Q ((do s;pure Next.skip:Sem Next).run P w)
def jw (P:Program)(ty:TypeId):Option (Option Nat):=match P.underlying ty,P.info? ty with
 | some (.struct _),some i=>some (some i.size)
 | some (.array ..),some i=>some (some i.size)
 | some _,some i=>if i.size=1 then some none else none
 | _,_=>none
def N3 (P:Program):Nat->List Field->Bool
 | _,[]=>true
 | i,f::fs=>f.offset == i && f.name != "_" && (match P.underlying f.type with|some (.int _)=>true|_=>false) && jw P f.type == some none && N3 P (i+1) fs
def IK (P:Program)(ty:TypeId):Bool:=match P.underlying ty with
 | some (.struct fs)=>N3 P 0 fs.toList && !P.eqGuardType P.depth ty && !P.stoodInHeld ty
 | _=>false
def cR (P:Program)(ty:TypeId):Nat:=match P.underlying ty with
 | some (.struct fs)=>if IK P ty then fs.size+7 else 0
 | some (.interface _)=>1|some (.pointer _)=>2|some (.slice _)=>3|some (.map _ _)=>4|some (.func ..)=>5|some .bool=>6|_=>0
def isConst:Operand->Bool
 | .const _=>true
 | _=>false
def ix:List Value->Nat->Bool
 | [],0=>true
 | _::l,n+1=>ix l n
 | _,_=>false
def dh:List Value->List Value->Option Bool
 | [],[]=>some true
 | .int k a::xs,.int k' b::ys=>if k=k' then (dh xs ys).map (decide (a=b) && ·) else none
 | _,_=>none
def rz (kind:Nat)(NX:Bool)(x y:Value):Option Bool :=
 match kind,x,y with
 | 1,.nilIface,.nilIface=>if NX then some true else none
 | 1,.iface _ _,.nilIface=>some false
 | 1,.nilIface,.iface _ _=>some false
 | 2,.pointer none,.pointer none=>some true
 | 2,.pointer (some _),.pointer none=>some false
 | 2,.pointer none,.pointer (some _)=>some false
 | 3,.slice none _ _,.slice none _ _=>some true
 | 3,.slice (some _) _ _,.slice none _ _=>some false
 | 5,.nilFunc,.nilFunc=>some true
 | 5,.func ..,.nilFunc=>some false
 | 6,.bool a,.bool b=>some (a == b)
 | n+7,.agg xs,.agg ys=>(match ix xs.toList n with|true=>dh xs.toList ys.toList|false=>none)
 | _,_,_=>none
def cF (kind:Nat)(NX:Bool)(op:BinOp)(x y:Value)(K:VP)(other:Prop)(_:Ph (K,other)):Prop :=
 match op,rz kind NX x y with
 | .eql,some b=>K (.bool b)
 | .neq,some b=>K (.bool !b)
 | _,_=>other
def au (P:Program)(ty:TypeId)(f:Nat):Option (Nat×Option Nat):=match P.underlying ty with
 | some (.struct fs)=>match fs[f]? with
  | some fl=>match jw P fl.type with
   | some none=>some (fl.offset,none)
   | some (some n)=>if n=0 then none else some (fl.offset,some n)
   | none=>none
  | none=>none
 | _=>none
def fw (P:Program)(ty:TypeId):Option (TypeId×Nat):=match P.underlying ty with
 | some (.slice e)=>(P.info? e).map λi=>(e,i.size)
 | _=>none
def r5 (P:Program)(ty:TypeId):Option (Nat×TypeId×Nat):=match P.underlying ty with
 | some (.array n e)=>(P.info? e).map λi=>(n,e,i.size)
 | _=>none
def aB (w:World)(a:Addr)(i:Nat):Nat->Option (List Value)
 | 0=>some []
 | n+1=>match w.cell? (a.add i),aB w a (i+1) n with
  | some v,some vs=>some (v::vs)
  | _,_=>none
def mR {α:Type}(x:Option α)(K:α->Prop)(_:Ph K):Prop:=match x with|some v=>K v|none=>False
def mO (ty:Option (Option Nat))(a:Value)(w:World)(K:VK)(_:Ph K):Prop:=match ty,a with
 | some none,.pointer (some a)=>mR (w.cell? a) (K · w) .mk
 | some (some n),.pointer (some a)=>mR (aB w a 0 n) (λcs=>K (.agg cs.toArray) w) .mk
 | _,_=>False
def mF (f:Option (Nat×Option Nat))(a:Value)(K:VP)(_:Ph K):Prop:=match f,a with
 | some (off,_),.pointer (some a)=>K (.pointer (some (a.add off)))
 | _,_=>False
def Dj (f:Option (Nat×Option Nat))(x:Value)(K:VP)(_:Ph K):Prop:=match f,x with
 | some (off,none),.agg cs=>mR (cs.toList[off]?) K .mk
 | some (off,some n),.agg cs=>K (.agg ((cs.toList.drop off).take n).toArray)
 | _,_=>False
def iq (e:Option (TypeId×Nat))(arr:Option (Nat×TypeId×Nat))(x i:Value)(K:VP)(_:Ph K):Prop:=match e,arr,x,i with
 | some (_,size),_,.slice (some a) n _,.int _ i=>(0<=i/\i<n)/\K (.pointer (some (a.add (i.toNat*size))))
 | _,some (n,_,size),.pointer (some a),.int _ i=>(0<=i/\i<n)/\K (.pointer (some (a.add (i.toNat*size))))
 | _,_,_,_=>False
def gm (v:Option Value)(aLw:Nat):Option Int:=match v with
 | none=>some aLw
 | some (.int _ i)=>some i
 | _=>none
def fY (d:Option TypeDesc)(e:Option (TypeId×Nat))(x:Value)(lo hi mx:Option Value)(K:VP)(other:Prop)(_:Ph (K,other)):Prop :=
 match d,x,mx with
 | some .string,.string s,none=>match gm lo 0,gm hi s.data.toList.length with
  | some l,some h=>(0<=l/\l<=h/\h<=s.data.toList.length)/\K (str ((s.data.toList.take h.toNat).drop l.toNat))
  | _,_=>False
 | some (.slice _),.slice a len cap,none=>match e,gm lo 0,gm hi len with
  | some (_,size),some l,some h=>(0<=l/\l<=h/\h<=(cap:Int))/\K (.slice (if (cap:Int)=l then a else a.map (·.add (l.toNat*size))) (h.toNat-l.toNat) (cap-l.toNat))
  | _,_,_=>False
 | _,_,_=>other
def sr (kind:Nat)(ty:TypeId)(x:Value)(K:VP)(other:Prop)(_:Ph (K,other)):Prop:=match kind with
 | 1=>other
 | _=>K (.iface ty x)
def aDH (e:TypeId)(v:Value)(w:World)(K:VK)(_:Ph K):Prop:=K (.pointer (some ⟨w.heap.size,0,none⟩)) (w.alloc (.cells v.cells e))
def jt:Value->Bool
 | .agg _|.tuple _=>false
 | _=>true
def tN (ty:Option (Option Nat))(a v:Value)(w:World)(K:VK)(other:Prop)(_:Ph (K,other)):Prop:=match ty,a with
 | some none,.pointer (some a)=>jt v=true/\(w.cell? a).isSome=true/\w.frozen? a=false/\K undef (w.setCell a v)
 | _,_=>other
def eM:List Value->Nat->List Value->List Value
 | l,0,[]=>l
 | x::l,n+1,cs=>x::eM l n cs
 | _::l,0,c::cs=>c::eM l 0 cs
 | [],_,_=>[]
def cz:Value->List Value
 | .agg cs=>cs.toList
 | v=>[v]
def mA (places:List (Nat×Nat))(cells:List Value):List (Nat×Value)->Option (List Value)
 | []=>some cells
 | (i,v)::rest=>match places[i]? with
  | some (off,size)=>(match ix (cz v) size && decide (off+size<=cells.length) with
   | true=>mA places (eM cells off (cz v)) rest
   | false=>none)
  | none=>none
def kK (P:Program)(ty:TypeId):Option (List Value×List (Nat×Nat)):=match P.info? ty,P.underlying ty with
 | some i,some (.struct fs)=>match i.zero with
  | some z=>if fs.toList.all (λf=>(P.info? f.type).isSome) then some (cz z,fs.toList.map λf=>(f.offset,((P.info? f.type).map (·.size)).getD 0)) else none
  | none=>none
 | _,_=>none
def zI (d:Option (List Value×List (Nat×Nat)))(parts:List (Nat×Value))(K:VP)(_:Ph K):Prop:=match d with
 | some (z,places)=>mR (mA places z parts) (λcs=>K (.agg cs.toArray)) .mk
 | none=>False
def a7 (P:Program)(o:Oper)(t:Fr)(L:VP)(other:Prop)(_:Ph (o,L,other)):Prop :=
 match o.op with
 | .move x=>L (ev t x)
 | .assign x=>L (ev t x)
 | .pick c a b=>Dk (ev t c) (ev t a) (ev t b) L .mk
 | .binOp op ty x y _=>da op (ev t x) (ev t y) L (cF (cR P ty) (isConst x || isConst y) op (ev t x) (ev t y) L other .mk) .mk
 | .unOp op _ x=>unK op (ev t x) L other .mk
 | .extract x i=>nr (ev t x) i L .mk
 | .convert s d x=>tp (if (P.underlying s).isSome then P.underlying d else none) (ev t x) L other .mk
 | .index xt x i=>vx (P.underlying xt) (ev t x) (ev t i) L other .mk
 | .makeFunc fn first cap=>L (.func fn (first.map (ev t)) (cap.map (ev t)))
 | .build ty parts=>zI (kK P ty) (parts.toList.map λ(i,x)=>(i,ev t x)) L .mk
 | .call { callee:=.builtin .len,args,argTypes }=>(match args.toList,argTypes.toList with
  | [x],[ty]=>MF (P.underlying ty) (ev t x) L other .mk
  | _,_=>other)
 | .call { callee:=.builtin .max,args,argTypes:=_ }=>Yy true (args.toList.map (ev t)) L other .mk
 | .call { callee:=.builtin .min,args,argTypes:=_ }=>Yy false (args.toList.map (ev t)) L other .mk
 | .fieldAddr ty x f=>mF (au P ty f) (ev t x) L .mk
 | .field ty x f=>Dj (au P ty f) (ev t x) L .mk
 | .indexAddr ty x i=>iq (fw P ty) (r5 P ty) (ev t x) (ev t i) L .mk
 | .slice ty x lo hi mx=>fY (P.underlying ty) (fw P ty) (ev t x) (lo.map (ev t)) (hi.map (ev t)) (mx.map (ev t)) L other .mk
 | .makeInterface ty x=>sr (if (P.underlying ty).isSome then cR P ty else 1) ty (ev t x) L other .mk
 | _=>other
def br (P:Program)(o:Oper)(t:Fr)(w:World)(K:VK)(Q:EP)(_:Ph (o,K,Q)):Prop :=
 match o.op with
 | .call { callee:=.value f,args,argTypes:=_ }=>Zk P (ev t f) (args.toList.map (ev t)) t w K Q (runK P o t w K Q .mk) .mk
 | .load ty a=>mO (jw P ty) (ev t a) w K .mk
 | .store ty a v=>tN (jw P ty) (ev t a) (ev t v) w K (aX P (Instr.storeAt ty (ev t a) (ev t v)) t w K Q .mk) .mk
 | .box e x=>aDH e (ev t x) w K .mk
 | .alloc e=>ag P (Instr.alloc e true (.tuple #[])) t w K Q .mk
 | .convert s d x=>tp (if (P.underlying s).isSome then P.underlying d else none) (ev t x) (K · w) (ag P (convert s d (ev t x)) t w K Q .mk) .mk
 | .buildSlice ty n parts=>ag P (Instr.buildSlice ty n (parts.map λ(i,x)=>(i,ev t x))) t w K Q .mk
 | .makeSlice ty l c=>ag P (Instr.makeSlice ty (ev t l) (ev t c)) t w K Q .mk
 | .makeMap ty r=>ag P (Instr.makeMap ty (r.map (ev t))) t w K Q .mk
 | .lookup ty x i ok=>ag P (Instr.lookup ty (ev t x) (ev t i) ok) t w K Q .mk
 | .mapUpdate ty m k x=>aX P (Instr.mapUpdate ty (ev t m) (ev t k) (ev t x)) t w K Q .mk
 | .insert ty m k x=>aX P (Instr.mapUpdate ty (ev t m) (ev t k) (ev t x)) t w K Q .mk
 | .typeAssert x xt at_ ok=>ag P (Instr.typeAssert (ev t x) xt at_ ok) t w K Q .mk
 | .panic x=>ag P (Instr.panic (ev t x)) t w K Q .mk
 | .range ty x=>ag P (Instr.range ty (ev t x)) t w K Q .mk
 | .call { callee:=.builtin .append,args,argTypes }=>ag P (Builtin.append_ argTypes o.type (args.map (ev t))) t w K Q .mk
 | .call { callee:=.builtin .copy,args,argTypes }=>ag P (Builtin.copy_ argTypes o.type (args.map (ev t))) t w K Q .mk
 | _=>a7 P o t (K · w) (runK P o t w K Q .mk) .mk
def iy (ops:List Oper)(j:Nat):Option Nat:=(ops[j]?).bind (·.dst)
def aQ (P:Program)(ops:List Oper)(K:Fr->World->Prop)(Q:EP):(l:List Oper)->Fr->World->Ph (ops,K,Q,l)->Prop
 | [],t,w,_=>K t w
 | o::r,t,w,_=>match o.guard with
  | none=>br P o t w (λv w'=>aQ P ops K Q r (put t o.dst v) w' .mk) Q .mk
  | some (j,want)=>iE (iy ops j) want t (λt'=>br P o t' w (λv w'=>aQ P ops K Q r (put t' o.dst v) w' .mk) Q .mk) (λt'=>aQ P ops K Q r (put t' o.dst undef) w .mk) .mk
def lift (Q:EP):Exit->Act->World->Prop:=λe a w=>a.defers=[]/\Q e a.tmps.toList w
def cg (P:Program)(c:Code)(Q:EP)(t:Fr)(w:World)(_:Ph (c,Q)):Prop:=c.wp P (lift Q) ⟨t.toArray,[]⟩ w
def tI (N:Fr->World->Prop)(Q:EP)(_:Ph (N,Q)):EP
 | .normal,t,w=>N t w
 | e,t,w=>Q e t w
def jc (id:Nat)(Q:EP)(_:Ph Q):EP
 | .exit i,t,w=>if i=id then Q .normal t w else Q (.exit i) t w
 | e,t,w=>Q e t w
def vc (P:Program):(c:Code)->(Q:EP)->Fr->World->Ph (c,Q)->Prop
 | .skip,Q,t,w,_=>Q .normal t w
 | .region _ ops false,Q,t,w,_=>aQ P ops.toList (Q .normal) Q ops.toList t w .mk
 | .region id ops true,Q,t,w,_=>cg P (.region id ops true) Q t w .mk
 | .seq a b,Q,t,w,_=>vc P a (tI (λt w=>vc P b Q t w .mk) Q .mk) t w .mk
 | .cond c a b,Q,t,w,_=>my (ev t c) (vc P a Q t w .mk) (vc P b Q t w .mk) .mk
 | .block i c,Q,t,w,_=>vc P c (jc i Q .mk) t w .mk
 | .exit i,Q,t,w,_=>Q (.exit i) t w
 | .ret,Q,t,w,_=>Q .ret t w
 | .label _,Q,t,w,_=>Q .normal t w
 | .goto l,Q,t,w,_=>Q (.goto l) t w
 | c,Q,t,w,_=>cg P c Q t w .mk
section
variable {P:Program}
theorem nB (t:Fr)(ds:List Deferred):(Act.mk t.toArray ds).eval=ev t:=by
 funext x;cases x<;>simp[Act.eval,ev,Array.getD_eq_getD_getElem?,List.getD_eq_getElem?_getD]
theorem put_eq (t:Fr)(d:Option Tmp)(v:Value):(Act.mk t.toArray []).put d v=⟨(put t d v).toArray,[]⟩:=by
 cases d<;>simp[Act.put,put]
theorem SI {o:Oper}{t:Fr}{K:Value->World->Prop}{Q:EP}{r:Result Next}{next:Act->World->Prop}
  (hn:∀v w',K v w'->next ⟨(put t o.dst v).toArray,[]⟩ w') (h:rl P t K Q r):o.upon P ⟨t.toArray,[]⟩ next (lift Q) r:=by
 cases r with
 | ok n w' =>
  cases n<;>simp only[rl]at h<;>simp only[Oper.upon]
  case value v=>rw[put_eq];exact hn _ _ h
  case skip=>rw[put_eq];exact hn _ _ h
  case enter f args =>
   refine h.mono λe bE he=>?_;cases e with
   | returned v=>dsimp only at he ⊢;rw[put_eq];exact hn _ _ he
   | panicked c=>exact⟨rfl,by simpa using he⟩
   | outgrown=>exact he.elim
 | halt x w' =>
  cases x<;>simp only[rl]at h<;>simp only[Oper.upon];exact⟨rfl,by simpa using h⟩
theorem mT {o:Oper}{t:Fr}{w w':World}{K:Value->World->Prop}{Q:EP}{v:Value}(h:(execOp (ev t) o).run P w=.ok (.value v) w')(k:K v w'):runK P o t w K Q .mk:=by
 unfold runK;rw[h];exact k
theorem nU {op:BinOp}{ty:TypeId}{x y:Operand}{a b:Value}(ha:a≠.nilIface\/b≠.nilIface)(hb:∀c,a≠.agg c)(w:World):(eqGuard op ty x y a b).run P w=.ok () w:=by
 cases op<;>simp only[eqGuard]<;>first|rfl|(cases a<;>cases b<;>first|rfl|simp_all)
theorem sV {t:Fr}{o:Oper}{op:BinOp}{ty yt:TypeId}{x y:Operand}(ho:o.op=.binOp op ty x y yt){w:World}{v:Value}
  (hg:(eqGuard op ty x y (ev t x) (ev t y)).run P w=.ok () w) (h:(binOp op ty (ev t x) (ev t y)).run P w=.ok v w):(execOp (ev t) o).run P w=.ok (.value v) w:=by
 unfold execOp;simp only[ho,Sem.run_bind,hg,Result.andThen_ok,h,Sem.run_pure]
theorem HG {n:Int}(h : -9223372036854775808<=n/\n<=9223372036854775807):IntKind.i64.wrap n=n:=by
 rw[IntKind.wrap_i64];omega
theorem vO {k:IntKind}{n:Int}{K:Value->Prop}(h:jb k n K .mk):K (.int k (k.wrap n)):=by
 cases k<;>simp only[jb]at h<;>first|exact h|(rw[HG h.1];exact h.2)
theorem aA0 {op:BinOp}{k:IntKind}{a b:Int}{K:Value->Prop}{ty:TypeId}(hs:op≠.shl/\op≠.shr)(h:pg op k a b K .mk) :
  ∃v,(∀w,(binOp op ty (.int k a) (.int k b)).run P w=.ok v w)/\K v:=by
 cases op<;>simp only[pg]at h<;>try exact h.elim
 case add=>exact⟨_,λw=>by simp[binOp,Op.intArith],vO h⟩
 case sub=>exact⟨_,λw=>by simp[binOp,Op.intArith],vO h⟩
 case mul=>exact⟨_,λw=>by simp[binOp,Op.intArith],vO h⟩
 case quo=>exact⟨_,λw=>by simp[binOp,Op.intDiv,h.1],h.2⟩
 case rem=>exact⟨_,λw=>by simp[binOp,Op.intDiv,h.1],h.2⟩
 case and=>exact⟨_,λw=>by cases k<;>rfl,h⟩
 case or=>exact⟨_,λw=>by cases k<;>rfl,h⟩
 case xor=>exact⟨_,λw=>by cases k<;>rfl,h⟩
 case andNot=>exact⟨_,λw=>by cases k<;>rfl,h⟩
 all_goals exact⟨_,λw=>by simp[binOp,Op.intCmp],h⟩
theorem EI {op:BinOp}{k k':IntKind}{a b:Int}{K:Value->Prop}{ty:TypeId}(hs:op=.shl\/op=.shr)(h:Mh op k a b K .mk) :
  ∃v,(∀w,(binOp op ty (.int k a) (.int k' b)).run P w=.ok v w)/\K v:=by
 rcases hs with rfl|rfl
 ·exact⟨_,λw=>by simp[binOp,Op.shift,show ¬b<0 by have:=h.1;omega],h.2⟩
 exact⟨_,λw=>by simp[binOp,Op.shift,show ¬b<0 by have:=h.1;omega],h.2⟩
theorem BW (a b:ByteArray):(a.toList == b.toList)=(a.data.toList == b.data.toList):=by
 rw[ByteArray.toList_eq,ByteArray.toList_eq]
def NN (P:Program)(o:Oper)(t:Fr)(v:Value):Prop:=∀w,(execOp (ev t) o).run P w=.ok (.value v) w
theorem ZH {o:Oper}{t:Fr}{L:VP}{op:BinOp}{ty yt:TypeId}{x y:Operand}{other:Prop}(ho:o.op=.binOp op ty x y yt)
  (h:da op (ev t x) (ev t y) L other .mk):other\/∃v,NN P o t v/\L v:=by
 have go:∀v,(∀c,ev t x≠.agg c)->ev t x≠.nilIface->(∀w,(binOp op ty (ev t x) (ev t y)).run P w=.ok v w)->L v->other\/∃v,NN P o t v/\L v:=λv h1 h2 hr hk =>
  .inr ⟨v,λw=>sV ho (nU (.inl h2) h1 w) (hr w),hk⟩
 unfold da at h;split at h
 ·rename_i a b hx hy;obtain⟨v,hr,hk⟩:=EI (P:=P) (ty:=ty) (.inl rfl) h;rw[hx,hy]at go;exact go v (by simp) (by simp) hr hk
 ·rename_i a b hx hy;obtain⟨v,hr,hk⟩:=EI (P:=P) (ty:=ty) (.inr rfl) h;rw[hx,hy]at go;exact go v (by simp) (by simp) hr hk
 ·rename_i k a k' b n1 n2 hx hy;obtain⟨rfl,h⟩:=h;obtain⟨v,hr,hk⟩:=aA0 (P:=P) (ty:=ty) ⟨λe=>n1 e,λe=>n2 e⟩ h;rw[hx,hy]at go;exact go v (by simp) (by simp) hr hk
 ·rename_i a b hx hy;rw[hx,hy]at go;refine go _ (by simp) (by simp) (λw=>?_) h.2
  have:=h.1;simp[binOp,Op.stringOp,IntKind.max,IntKind.bits,IntKind.signed];omega
 ·rename_i a b hx hy;rw[hx,hy]at go;exact go _ (by simp) (by simp) (λw=>by simp only[binOp,Op.stringOp,BW];simp) h
 ·rename_i a b hx hy;rw[hx,hy]at go;exact go _ (by simp) (by simp) (λw=>by simp only[binOp,Op.stringOp,BW];simp) h
 exact .inl h
theorem aGx {o:Oper}{t:Fr}{L:VP}{other:Prop}{op:UnOp}{ty:TypeId}{x:Operand}(ho:o.op=.unOp op ty x)
  (h:unK op (ev t x) L other .mk):other\/∃v,NN P o t v/\L v:=by
 unfold unK at h;split at h
 ·rename_i k n hx;exact .inr ⟨_,λw=>by unfold execOp;simp[ho,hx,Op.unary,Op.intArith],h⟩
 ·rename_i b hx;exact .inr ⟨_,λw=>by unfold execOp;simp[ho,hx,Op.unary],h⟩
 exact .inl h
theorem Hn {op:BinOp}{ty:TypeId}{x y:Operand}(h:(isConst x || isConst y)=true)(w:World):(eqGuard op ty x y .nilIface .nilIface).run P w=.ok () w:=by
 cases op<;>first|rfl|(cases x<;>cases y<;>first|rfl|(simp[isConst]at h))
theorem nK:∀(l:List Value) (n:Nat),ix l n=true->l.length=n
 | [],0,_=>rfl
 | [],n+1,h=>by simp[ix]at h
 | _::l,0,h=>by simp[ix]at h
 | _::l,n+1,h=>by simp[ix]at h;simp[nK l n h]
theorem o8 {kind:Nat}{NX:Bool}{x y:Value}{b:Bool}(h:rz kind NX x y=some b) :
  (kind=1/\(x=.nilIface/\y=.nilIface/\NX=true/\b=true\/(∃t v,x=.iface t v)/\y=.nilIface/\b=false\/x=.nilIface/\(∃t v,y=.iface t v)/\b=false)) \/
  (kind=2/\(x=.pointer none/\y=.pointer none/\b=true\/(∃a,x=.pointer (some a))/\y=.pointer none/\b=false\/x=.pointer none/\(∃a,y=.pointer (some a))/\b=false)) \/
  (kind=3/\(∃n c n' c' ,y=.slice none n' c'/\(x=.slice none n c/\b=true\/(∃a,x=.slice (some a) n c)/\b=false))) \/
  (kind=5/\(x=.nilFunc/\y=.nilFunc/\b=true\/(∃f g c,x=.func f g c)/\y=.nilFunc/\b=false)) \/
  (kind=6/\∃p q,x=.bool p/\y=.bool q/\b=(p == q)) \/
  (∃n xs ys,kind=n+7/\x=.agg xs/\y=.agg ys/\xs.toList.length=n/\dh xs.toList ys.toList=some b):=by
 unfold rz at h;split at h
 case h_12 =>
  split at h
  ·rename_i n xs ys hs;exact .inr (.inr (.inr (.inr (.inr ⟨_,_,_,rfl,rfl,rfl,nK _ _ hs,h⟩))))
  cases h
 all_goals simp_all
theorem qE {op:BinOp}{ty:TypeId}{x y:Operand}{t:Fr}{b:Bool}(h:rz (cR P ty) (isConst x || isConst y) (ev t x) (ev t y)=some b)(w:World) :
  (eqGuard op ty x y (ev t x) (ev t y)).run P w=.ok () w:=by
 rcases o8 h with ⟨_,⟨h1,h2,h3,_⟩|⟨⟨_,_,h1⟩,h2,_⟩|⟨h1,⟨_,_,h2⟩,_⟩⟩|⟨_,⟨h1,h2,_⟩|⟨⟨_,h1⟩,h2,_⟩|⟨h1,⟨_,h2⟩,_⟩⟩|⟨_,_,_,_,_,h2,⟨h1,_⟩|⟨⟨_,h1⟩,_⟩⟩|⟨_,⟨h1,h2,_⟩|⟨⟨_,_,_,h1⟩,h2,_⟩⟩|⟨_,_,_,h1,h2,_⟩|⟨n,xs,ys,hk,h1,h2,_⟩
 case inl.inl=>rw[h1,h2];exact Hn h3 w
 case inr.inr.inr.inr.inr =>
  rw[h1,h2];have hf:IK P ty=true:=by
   unfold cR at hk;split at hk<;>first|(exfalso;omega)|skip
   split at hk
   ·assumption
   omega
  unfold IK at hf;split at hf
  ·simp only[Bool.and_eq_true,Bool.not_eq_true']at hf;cases op<;>first|rfl|simp[eqGuard,hf.1.2]
  cases hf
 all_goals (rw[h1,h2];exact nU (by simp) (by simp) w)
theorem CO {ty:TypeId}{x y:Value}{kind:Nat}{NX b:Bool}(h:rz kind NX x y=some b):binOp .eql ty x y=(do pure (.bool (<-Op.equal ty x y))):=by
 rcases o8 h with ⟨_,⟨rfl,rfl,h3,_⟩|⟨⟨_,_,rfl⟩,rfl,_⟩|⟨rfl,⟨_,_,rfl⟩,_⟩⟩|⟨_,⟨rfl,rfl,_⟩|⟨⟨_,rfl⟩,rfl,_⟩|⟨rfl,⟨_,rfl⟩,_⟩⟩|⟨_,_,_,_,_,rfl,⟨rfl,_⟩|⟨⟨_,rfl⟩,_⟩⟩|⟨_,⟨rfl,rfl,_⟩|⟨⟨_,_,_,rfl⟩,rfl,_⟩⟩|⟨_,_,_,rfl,rfl,_⟩|⟨_,_,_,_,rfl,rfl,_⟩<;>rfl
theorem CP {ty:TypeId}{x y:Value}{kind:Nat}{NX b:Bool}(h:rz kind NX x y=some b):binOp .neq ty x y=(do pure (.bool (!(<-Op.equal ty x y)))):=by
 rcases o8 h with ⟨_,⟨rfl,rfl,h3,_⟩|⟨⟨_,_,rfl⟩,rfl,_⟩|⟨rfl,⟨_,_,rfl⟩,_⟩⟩|⟨_,⟨rfl,rfl,_⟩|⟨⟨_,rfl⟩,rfl,_⟩|⟨rfl,⟨_,rfl⟩,_⟩⟩|⟨_,_,_,_,_,rfl,⟨rfl,_⟩|⟨⟨_,rfl⟩,_⟩⟩|⟨_,⟨rfl,rfl,_⟩|⟨⟨_,_,_,rfl⟩,rfl,_⟩⟩|⟨_,_,_,rfl,rfl,_⟩|⟨_,_,_,_,rfl,rfl,_⟩<;>rfl
theorem nN {ty:TypeId}(h:jw P ty=some none)(w:World):(isAgg ty).run P w=.ok false w/\(sizeOf ty).run P w=.ok 1 w:=by
 unfold jw at h;split at h<;>try (cases h)
 rename_i d i h1 h2 hd hi;split at h
 ·rename_i hs;refine⟨?_,by simp[sizeOf,typeInfo,hi,hs]⟩;simp only[isAgg,Sem.run_bind,run_underlying hd,Result.andThen_ok];cases d<;>first|rfl|simp_all
 cases h
theorem iY {ty:TypeId}{n:Nat}(h:jw P ty=some (some n))(w:World):(isAgg ty).run P w=.ok true w/\(sizeOf ty).run P w=.ok n w:=by
 unfold jw at h;split at h<;>try (cases h)
 ·rename_i hd hi;exact⟨by simp[isAgg,run_underlying hd],by simp[sizeOf,typeInfo,hi]⟩
 ·rename_i hd hi;exact⟨by simp[isAgg,run_underlying hd],by simp[sizeOf,typeInfo,hi]⟩
 split at h<;>cases h
theorem Ao {ty:TypeId}(h:jw P ty=some none){cs:Array Value}{off:Nat}{v:Value}(hv:cs.toList[off]?=some v)(w:World):(part ty cs off).run P w=.ok v w:=by
 have Nv:cs[off]?=some v:=by simpa using hv
 simp[part,(nN h w).1,Nv]
theorem SE {ty:TypeId}{n:Nat}(h:jw P ty=some (some n)){cs:Array Value}{off:Nat}(w:World):(part ty cs off).run P w=.ok (.agg ((cs.toList.drop off).take n).toArray) w:=by
 simp only[part,Sem.run_bind,(iY h w).1,(iY h w).2,Result.andThen_ok,if_true,Sem.run_pure];congr 2;apply Array.ext';simp[List.take_drop,Nat.add_comm]
theorem Hp {ty:TypeId}:(cR P ty=1->∃ms,P.underlying ty=some (.interface ms))/\(cR P ty=2->∃e,P.underlying ty=some (.pointer e))/\(cR P ty=3->∃e,P.underlying ty=some (.slice e)) /\
  (cR P ty=5->∃a b c,P.underlying ty=some (.func a b c))/\(cR P ty=6->P.underlying ty=some .bool)/\(∀n,cR P ty=n+7->IK P ty=true/\∃fs,P.underlying ty=some (.struct fs)/\fs.size=n):=by
 unfold cR;split<;>simp_all;split<;>simp_all
theorem nq {xs ys:List Value}{b:Bool}(h:dh xs ys=some b):(xs=[]/\ys=[]/\b=true)\/∃k a c xs' ys' b',xs=.int k a::xs'/\ys=.int k c::ys'/\dh xs' ys'=some b'/\b=(decide (a=c) && b'):=by
 unfold dh at h;split at h
 ·cases h;exact .inl ⟨rfl,rfl,rfl⟩
 ·split at h
  ·rename_i e;subst e;obtain⟨b',h1,h2⟩:=Option.map_eq_some_iff.1 h;exact .inr ⟨_,_,_,_,_,b',rfl,rfl,h1,h2.symm⟩
  cases h
 cases h
theorem ry (d:Nat)(w:World):∀(fs:List Field) (xs ys px py:List Value) (b:Bool),N3 P px.length fs=true->px.length=py.length->fs.length=xs.length->dh xs ys=some b ->
  (Op.eqFields (d+1) (px++xs).toArray (py++ys).toArray fs).run P w=.ok b w
 | [],xs,ys,px,py,b,_,_,hl,h=>by
  have:xs=[]:=List.eq_nil_of_length_eq_zero hl.symm;subst this;rcases nq h with ⟨_,_,rfl⟩|⟨_,_,_,_,_,_,h1,_⟩
  ·simp[Op.eqFields]
  cases h1
 | f::fs,xs,ys,px,py,b,hf,hp,hl,h=>by
  rcases nq h with ⟨rfl,_,_⟩|⟨k,a,c,xs,ys,b',rfl,rfl,h1,rfl⟩
  ·simp at hl
  simp only[N3,Bool.and_eq_true,beq_iff_eq,bne_iff_ne]at hf;obtain⟨⟨⟨⟨ho,hn⟩,hu⟩,ht⟩,hr⟩:=hf;have Nu:∃k,P.underlying f.type=some (.int k):=by
   split at hu
   ·exact⟨_,by assumption⟩
   cases hu
  obtain⟨k',Nu⟩:=Nu;have e1:(part f.type (px++.int k a::xs).toArray f.offset).run P w=.ok (.int k a) w:=Ao ht (by rw[ho];simp) w;have e2:(part f.type (py++.int k c::ys).toArray f.offset).run P w=.ok (.int k c) w:=Ao ht (by rw[ho,hp];simp) w;have e3:(Op.equalIn (d+1) f.type (.int k a) (.int k c)).run P w=.ok (a == c) w:=by
   simp[Op.equalIn,run_underlying Nu]
  have ih:=ry d w fs xs ys (px++[.int k a]) (py++[.int k c]) b' (by simpa using hr) (by simp[hp]) (by simpa using hl) h1;simp only[List.append_assoc,List.cons_append,List.nil_append]at ih;simp only[Op.eqFields,hn,ne_eq,not_false_eq_true,if_true,Sem.run_bind,e1,e2,e3,Result.andThen_ok];by_cases hac:a=c
  ·subst hac;simp[ih]
  simp[hac]
theorem xu (d:Nat){ty:TypeId}{x y:Value}{NX b:Bool}{w:World}(h:rz (cR P ty) NX x y=some b):(Op.equalIn (d+2) ty x y).run P w=.ok b w:=by
 obtain⟨k1,k2,k3,k5,k6,k7⟩:=Hp (P:=P) (ty:=ty);rcases o8 h with ⟨hk,hh⟩|⟨hk,hh⟩|⟨hk,hh⟩|⟨hk,hh⟩|⟨hk,hh⟩|⟨n,xs,ys,hk,rfl,rfl,hn,hh⟩
 ·obtain⟨ms,hu⟩:=k1 hk;simp only[Op.equalIn,Sem.run_bind,run_underlying hu,Result.andThen_ok];rcases hh with ⟨rfl,rfl,_,rfl⟩|⟨⟨_,_,rfl⟩,rfl,rfl⟩|⟨rfl,⟨_,_,rfl⟩,rfl⟩<;>rfl
 ·obtain⟨ms,hu⟩:=k2 hk;simp only[Op.equalIn,Sem.run_bind,run_underlying hu,Result.andThen_ok];rcases hh with ⟨rfl,rfl,rfl⟩|⟨⟨_,rfl⟩,rfl,rfl⟩|⟨rfl,⟨_,rfl⟩,rfl⟩<;>rfl
 ·obtain⟨ms,hu⟩:=k3 hk;simp only[Op.equalIn,Sem.run_bind,run_underlying hu,Result.andThen_ok];rcases hh with ⟨_,_,_,_,rfl,⟨rfl,rfl⟩|⟨⟨_,rfl⟩,rfl⟩⟩<;>rfl
 ·obtain⟨_,_,_,hu⟩:=k5 hk;simp only[Op.equalIn,Sem.run_bind,run_underlying hu,Result.andThen_ok];rcases hh with ⟨rfl,rfl,rfl⟩|⟨⟨_,_,_,rfl⟩,rfl,rfl⟩<;>rfl
 ·have hu:=k6 hk;simp only[Op.equalIn,Sem.run_bind,run_underlying hu,Result.andThen_ok];obtain⟨_,_,rfl,rfl,rfl⟩:=hh;rfl
 obtain⟨hf,fs,hu,hs⟩:=k7 n hk;unfold IK at hf;rw[hu]at hf;simp only[Bool.and_eq_true,Bool.not_eq_true']at hf;have hfs:P.fieldsOf ty=fs:=by simp[Program.fieldsOf,hu]
 rw[run_equalIn_struct w (d+1) ty xs ys (by rw[hfs];exact hu) hf.2,hfs]
 have:=ry (P:=P) d w fs.toList xs.toList ys.toList [] [] b hf.1.1 rfl (by rw[hn];simpa using hs) hh;simpa using this
theorem tx {ty:TypeId}{x y:Value}{NX b:Bool}{w:World}(h:rz (cR P ty) NX x y=some b):(Op.equal ty x y).run P w=.ok b w:=xu 9998 h
theorem run_loadCellsFrom (w:World)(a:Addr):∀(n i:Nat) (acc:Array Value) (cs:List Value),aB w a i n=some cs->(loadCellsFrom a i n acc).run P w=.ok (acc++cs.toArray) w
 | 0,i,acc,cs,h=>by
  simp only[aB,Option.some.injEq]at h;subst h;simp[loadCellsFrom]
 | n+1,i,acc,cs,h=>by
  unfold aB at h;split at h
  ·rename_i v vs h1 h2;cases h;simp only[loadCellsFrom,load,Sem.run_bind,Sem.run,h1,Result.andThen_ok,run_loadCellsFrom w a n (i+1) _ vs h2];simp
  cases h
theorem qG {ty:TypeId}{f off:Nat}{n:Option Nat}(h:au P ty f=some (off,n)):∃fs fl,P.underlying ty=some (.struct fs)/\fs[f]?=some fl/\fl.offset=off/\jw P fl.type=some n/\n≠some 0:=by
 unfold au at h;split at h
 ·rename_i fs hfs;split at h
  ·rename_i fl DX;refine⟨fs,fl,hfs,DX,?_⟩;split at h
   ·rename_i ht;cases h;exact⟨rfl,ht,by simp⟩
   ·rename_i m ht;split at h
    ·cases h
    cases h;exact⟨rfl,ht,by simp_all⟩
   cases h
  cases h
 cases h
theorem zW {ty e:TypeId}{n:Nat}(h:fw P ty=some (e,n)):P.underlying ty=some (.slice e)/\∃i,P.info? e=some i/\i.size=n:=by
 unfold fw at h;split at h
 ·rename_i e' hu;cases hi:P.info? e' with
  | none=>simp[hi]at h
  | some i=>simp[hi]at h;obtain⟨rfl,rfl⟩:=h;exact⟨hu,i,hi,rfl⟩
 cases h
theorem PC {ty e:TypeId}{m n:Nat}(h:r5 P ty=some (m,e,n)):P.underlying ty=some (.array m e)/\∃i,P.info? e=some i/\i.size=n:=by
 unfold r5 at h;split at h
 ·rename_i m' e' hu;cases hi:P.info? e' with
  | none=>simp[hi]at h
  | some i=>simp[hi]at h;obtain⟨rfl,rfl,rfl⟩:=h;exact⟨hu,i,hi,rfl⟩
 cases h
theorem fq {o:Oper}{t:Fr}{w:World}{K:VK}{Q:EP}{s:Sem Value}(ho:execOp (ev t) o=(do pure (.value (<-s))))(h:ag P s t w K Q .mk):runK P o t w K Q .mk:=by
 unfold runK;rw[ho];exact h
theorem wE {o:Oper}{t:Fr}{w:World}{K:VK}{Q:EP}{s:Sem Unit}(ho:execOp (ev t) o=(do s;pure .skip))(h:aX P s t w K Q .mk):runK P o t w K Q .mk:=by
 unfold runK;rw[ho];exact h
theorem ff {s:Sem Value}{t:Fr}{w w':World}{K:VK}{Q:EP}{v:Value}(h:s.run P w=.ok v w')(k:K v w'):ag P s t w K Q .mk:=by
 unfold ag;simp only[Sem.run_bind,h,Result.andThen_ok,Sem.run_pure];exact k
theorem B7 {s:Sem Unit}{t:Fr}{w w':World}{K:VK}{Q:EP}(h:s.run P w=.ok () w')(k:K undef w'):aX P s t w K Q .mk:=by
 unfold aX;simp only[Sem.run_bind,h,Result.andThen_ok,Sem.run_pure];exact k
theorem jD {α:Type}{x:Option α}{K:α->Prop}(h:mR x K .mk):∃v,x=some v/\K v:=by
 unfold mR at h;split at h
 ·exact⟨_,rfl,h⟩
 exact h.elim
theorem Hh (s:ByteArray):s.data.toList.length=s.size:=by rw[Array.length_toList];rfl
theorem run_sliceBound {i:Int}{k:IntKind}{y:Nat}{code:BoundsCode}(h:0<=i/\i<=y)(w:World):(Instr.sliceBound (.int k i) y code).run P w=.ok i.toNat w:=by
 simp[Instr.sliceBound,asIntOf,h]
theorem pU {isS:Bool}{len cap:Nat}{lo hi:Option Value}{l h:Int}(hl:gm lo 0=some l)(hh:gm hi len=some h)(b:0<=l/\l<=h/\h<=cap)(w:World) :
  (Instr.sliceBounds isS len cap lo hi none).run P w=.ok (l.toNat,h.toNat,cap) w:=by
 have low:∀(v:Option Value),gm v 0=some l->(match v with|some v=>Instr.sliceBound v h.toNat .sliceB|none=>pure 0).run P w=.ok l.toNat w:=by
  intro v hv;cases v with
  | none=>simp[gm]at hv;subst hv;rfl
  | some v =>
   cases v<;>simp[gm]at hv;subst hv;exact run_sliceBound (by omega) w
 cases hi with
 | none =>
  simp[gm]at hh;subst hh;cases lo with
  | none=>simp[gm]at hl;subst hl;simp[Instr.sliceBounds]
  | some v =>
   cases v<;>simp[gm]at hl;subst hl;simp[Instr.sliceBounds,run_sliceBound (P:=P) (show 0<=_/\_<=_ from ⟨b.1,b.2.1⟩) w]
 | some v =>
  cases v<;>simp[gm]at hh;subst hh;rename_i k i;have e1:∀c,(Instr.sliceBound (.int k i) cap c).run P w=.ok i.toNat w:=λc=>run_sliceBound (by omega) w;have e2:((i.toNat:Nat):Int)=i:=by omega
  cases lo with
  | none=>simp[gm]at hl;subst hl;simp[Instr.sliceBounds,e1]
  | some v =>
   cases v<;>simp[gm]at hl;subst hl;simp[Instr.sliceBounds,e1,run_sliceBound (P:=P) (show 0<=_/\_<=((i.toNat:Nat):Int) from ⟨b.1,by omega⟩) w]
theorem x9:∀(l:List Value) (n:Nat) (c:Value) (cs:List Value),eM (l.set n c) (n+1) cs=eM l n (c::cs)
 | [],n,c,cs=>by cases n<;>simp[eM]
 | x::l,0,c,cs=>by simp[eM]
 | x::l,n+1,c,cs=>by simp[eM,x9 l n c cs]
theorem qx:∀(cs:List Value) (off k:Nat) (l:List Value),(cs.zipIdx k).foldl (λa (p:Value×Nat)=>a.set (off+p.2) p.1) l=eM l (off+k) cs
 | [],off,k,l=>by
  have:∀(l:List Value) (n:Nat),eM l n []=l:=by
   intro l;induction l with
   | nil=>intro n;cases n<;>simp[eM]
   | cons x l ih=>intro n;cases n<;>simp[eM,ih]
  simp[this]
 | c::cs,off,k,l=>by
  simp only[List.zipIdx_cons,List.foldl_cons];rw[qx cs off (k+1),<-Nat.add_assoc,x9]
theorem jd (v:Value):v.cells.toList=cz v:=by cases v<;>rfl
theorem fill_eq (places:List (Nat×Nat)):∀(parts:List (Nat×Value)) (cells:List Value) (cs:List Value),mA places cells parts=some cs ->
  Instr.fill (λi=>places[i]?) cells.toArray parts=some cs.toArray
 | [],cells,cs,h=>by simp[mA]at h;simp[Instr.fill,h]
 | (i,v)::rest,cells,cs,h=>by
  simp only[mA]at h;simp only[Instr.fill];split at h
  ·rename_i off size hp;simp only[hp];split at h
   ·rename_i hc;simp only[Bool.and_eq_true,decide_eq_true_eq]at hc;have h1:=nK _ _ hc.1;have h2:v.cells.size=size:=by rw[<-h1,<-jd,Array.length_toList]
    rw[if_neg (by simp[h2];omega)];rw[<-fill_eq places rest _ cs h];congr 1;apply Array.ext';have h3:=qx (cz v) off 0 cells;rw[Nat.add_zero]at h3;rw[<-h3,<-jd];rw[<-Array.foldl_toList];have:∀(ps:List (Value×Nat)) (a:Array Value),(ps.foldl (λcs p=>cs.setIfInBounds (off+p.2) p.1) a).toList=ps.foldl (λa p=>a.set (off+p.2) p.1) a.toList:=by
     intro ps;induction ps with
     | nil=>intro a;rfl
     | cons p ps ih=>intro a;simp only[List.foldl_cons,ih,Array.toList_setIfInBounds]
    rw[this];simp[Array.toList_zipIdx]
   cases h
  cases h
theorem run_build {ty:TypeId}{z:List Value}{places:List (Nat×Nat)}{parts:List (Nat×Value)}{cs:List Value}(hb:kK P ty=some (z,places))(h:mA places z parts=some cs)(w:World) :
  (Instr.build ty parts.toArray).run P w=.ok (.agg cs.toArray) w:=by
 unfold kK at hb;split at hb
 ·rename_i i fs hi hu;split at hb
  ·rename_i zv hz;split at hb
   ·rename_i dA;simp only[Option.some.injEq,Prod.mk.injEq]at hb;obtain⟨rfl,rfl⟩:=hb;have hm:∀(l:List Field),l.all (λf=>(P.info? f.type).isSome)=true->(l.mapM (m:=Sem) λf=>do pure (f.offset,<-sizeOf f.type)).run P w=.ok (l.map λf=>(f.offset,((P.info? f.type).map (·.size)).getD 0)) w:=by
     intro l;induction l with
     | nil=>intro _;rfl
     | cons f l ih =>
      intro hl;simp only[List.all_cons,Bool.and_eq_true]at hl;obtain⟨j,hj⟩:=Option.isSome_iff_exists.1 hl.1;have hs:(sizeOf f.type).run P w=.ok j.size w:=by simp[sizeOf,typeInfo,hj]
      simp only[List.mapM_cons,Sem.run_bind,hs,Result.andThen_ok,Sem.run_pure,ih hl.2,List.map_cons,hj,Option.map_some,Option.getD_some]
    have No:(fs.mapM (m:=Sem) λf=>do pure (f.offset,<-sizeOf f.type)).run P w=.ok (fs.toList.map λf=>(f.offset,((P.info? f.type).map (·.size)).getD 0)).toArray w:=by
     have e:fs=fs.toList.toArray:=by simp
     rw[e,List.mapM_toArray,map_eq_pure_bind];simp only[Sem.run_bind,hm fs.toList dA,Result.andThen_ok,Sem.run_pure]
    have hf:=fill_eq _ parts _ cs h;unfold Instr.build;have hz':(zeroValue ty).run P w=.ok zv w:=by simp[zeroValue,typeInfo,hi,hz]
    simp only[Sem.run_bind,hz',Result.andThen_ok,run_underlying hu];simp only[No,Result.andThen_ok];have e1:zv.cells=(cz zv).toArray:=by rw[<-jd]
    rw[e1];have e2:(λi:Nat=>(fs.toList.map λf=>(f.offset,((P.info? f.type).map (·.size)).getD 0)).toArray[i]?)=(λi:Nat=>(fs.toList.map λf=>(f.offset,((P.info? f.type).map (·.size)).getD 0))[i]?):=by funext i;simp
    rw[e2,hf];rfl
   cases hb
  cases hb
 cases hb
theorem qn {o:Oper}{t:Fr}{L:VP}{other:Prop}(h:a7 P o t L other .mk):other\/∃v,NN P o t v/\L v:=by
 unfold a7 at h;split at h
 ·rename_i x ho;exact .inr ⟨_,λw=>by unfold execOp;simp only[ho];rfl,h⟩
 ·rename_i x ho;exact .inr ⟨_,λw=>by unfold execOp;simp only[ho];rfl,h⟩
 ·rename_i c a b ho;unfold Dk at h;split at h
  ·rename_i x hx;exact .inr ⟨_,λw=>by unfold execOp;simp only[ho,hx];simp[asBool],h⟩
  exact h.elim
 ·rename_i op ty x y yt ho;have h':=ZH (P:=P) ho h;clear h;rcases h' with h|h
  ·unfold cF at h;split at h
   ·rename_i b hb;exact .inr ⟨_,λw=>sV ho (qE hb w) (by rw[CO hb];simp[tx hb]),h⟩
   ·rename_i b hb;exact .inr ⟨_,λw=>sV ho (qE hb w) (by rw[CP hb];simp[tx hb]),h⟩
   exact .inl h
  exact .inr h
 ·rename_i op ty x ho;exact aGx ho h
 ·rename_i x i ho;unfold nr at h;split at h
  ·rename_i vs hx;split at h
   ·rename_i v hv;refine .inr ⟨_,λw=>?_,h⟩;have Nv:vs[i]?=some v:=by simpa using hv
    unfold execOp;simp[ho,hx,Instr.extract,Nv]
   exact h.elim
  exact h.elim
 ·rename_i s d x ho;unfold tp at h;split at h
  ·rename_i k k' n hd hx;refine .inr ⟨_,λw=>?_,h⟩;split at hd
   ·rename_i hs;obtain⟨s',Qp⟩:=Option.isSome_iff_exists.1 hs;unfold execOp;simp[ho,hx,convert,run_underlying hd,run_underlying Qp,Conv.intToInt]
   cases hd
  ·rename_i k hd hx;refine .inr ⟨_,λw=>?_,h⟩;split at hd
   ·rename_i hs;obtain⟨s',Qp⟩:=Option.isSome_iff_exists.1 hs;unfold execOp;simp[ho,hx,convert,run_underlying hd,run_underlying Qp]
   cases hd
  exact .inl h
 ·rename_i ty x i ho;unfold vx at h;split at h
  ·rename_i s k n hd hx hi;obtain⟨⟨h0,h1⟩,h⟩:=h;refine .inr ⟨_,λw=>?_,h⟩;have aj:n.toNat<s.size:=by
    have e:s.data.toList.length=s.size:=by rw[Array.length_toList];rfl
    rw[e]at h1;omega
   have e1:s[n.toNat]?=some (s.data.toList.getD n.toNat 0):=by
    rw[getElem?_pos s n.toNat aj];simp[List.getD_eq_getElem?_getD,ByteArray.getElem_eq_getElem_data,aj]
   unfold execOp;simp only[ho,hx,hi,Instr.index,asIntOf,Sem.run_bind,Sem.run_pure,Result.andThen_ok,run_underlying hd,h0,if_true,e1]
  exact .inl h
 ·rename_i fn first cap ho;exact .inr ⟨_,λw=>by unfold execOp;simp only[ho,Instr.makeFunc];rfl,h⟩
 ·rename_i ty parts ho;unfold zI at h;split at h
  ·rename_i z places hb;obtain⟨cs,hc,hk⟩:=jD h;refine .inr ⟨_,λw=>?_,hk⟩;have hr:=run_build (P:=P) hb hc w;have e:(parts.toList.map λ(p:Nat×Operand)=>(p.1,ev t p.2)).toArray=parts.map λ(p:Nat×Operand)=>(p.1,ev t p.2):=by apply Array.ext';simp
   unfold execOp;simp only[ho];rw[show (Array.map (λ(x:Nat×Operand)=>match x with|(i,x)=>(i,ev t x)) parts)=(parts.toList.map λ(p:Nat×Operand)=>(p.1,ev t p.2)).toArray from e.symm]
   simp only[Sem.run_bind];rw[show (List.map (λ(x:Nat×Operand)=>match x with|(i,x)=>(i,ev t x)) parts.toList)=(parts.toList.map λ(p:Nat×Operand)=>(p.1,ev t p.2)) from rfl]at hr
   rw[hr];rfl
  exact h.elim
 ·rename_i args mi ho;split at h
  ·rename_i x ty ha ht;have Vs:args=#[x]:=by rw[<-Array.toArray_toList (xs:=args),ha]
   have Nr:mi=#[ty]:=by rw[<-Array.toArray_toList (xs:=mi),ht]
   unfold MF at h;split at h
   ·rename_i s hd hx;exact .inr ⟨_,λw=>by unfold execOp;simp[ho,Vs,Nr,resolve,invoke,builtin,Builtin.len_,hx,run_underlying hd,goInt],h⟩
   ·rename_i e a n c hd hx;exact .inr ⟨_,λw=>by unfold execOp;simp[ho,Vs,Nr,resolve,invoke,builtin,Builtin.len_,hx,run_underlying hd,goInt],h⟩
   exact .inl h
  exact .inl h
 ·rename_i args mi ho;unfold Yy at h;split at h
  ·rename_i k a k' b ha;have Vs:(args.map (ev t))=#[.int k a,.int k' b]:=by rw[<-Array.toArray_toList (xs:=args.map (ev t)),Array.toList_map,ha]
   exact .inr ⟨_,λw=>by unfold execOp;simp only[ho,resolve,Vs];simp[invoke,builtin,Builtin.max_,Builtin.max2],h⟩
  exact .inl h
 ·rename_i args mi ho;unfold Yy at h;split at h
  ·rename_i k a k' b ha;have Vs:(args.map (ev t))=#[.int k a,.int k' b]:=by rw[<-Array.toArray_toList (xs:=args.map (ev t)),Array.toList_map,ha]
   exact .inr ⟨_,λw=>by unfold execOp;simp only[ho,resolve,Vs];simp[invoke,builtin,Builtin.min_,Builtin.min2],h⟩
  exact .inl h
 ·rename_i ty x f ho;unfold mF at h;split at h
  ·rename_i off n a hf hx;obtain⟨fs,fl,hu,DX,rfl,ht,hn⟩:=qG hf;refine .inr ⟨_,λw=>?_,h⟩;have hs:∀w:World,∃m,(sizeOf fl.type).run P w=.ok m w/\m≠0:=λw=>by
    cases n with
    | none=>exact⟨1,(nN ht w).2,by simp⟩
    | some m=>exact⟨m,(iY ht w).2,λe=>hn (by rw[e])⟩
   obtain⟨m,hm,hm0⟩:=hs w;unfold execOp;simp[ho,hx,Instr.fieldAt,run_underlying hu,DX,Instr.sureAddr,fieldPlace,hm,hm0]
  exact h.elim
 ·rename_i ty x f ho;unfold Dj at h;split at h
  ·rename_i off cs hf hx;obtain⟨fs,fl,hu,DX,rfl,ht,hn⟩:=qG hf;obtain⟨v,hc,hk⟩:=jD h;refine .inr ⟨_,λw=>?_,hk⟩;unfold execOp;simp[ho,hx,Instr.field,run_underlying hu,DX,asAgg,Ao ht hc w]
  ·rename_i off n cs hf hx;obtain⟨fs,fl,hu,DX,rfl,ht,hn⟩:=qG hf;refine .inr ⟨_,λw=>?_,h⟩;unfold execOp;simp[ho,hx,Instr.field,run_underlying hu,DX,asAgg,SE ht w]
  exact h.elim
 ·rename_i ty x i ho;unfold iq at h;split at h
  ·rename_i e size _ a n c k i' he hx hi;obtain⟨hu,ii,I7,rfl⟩:=zW he;obtain⟨hb,h⟩:=h;refine .inr ⟨_,λw=>?_,h⟩;unfold execOp;simp[ho,hx,hi,Instr.indexAt,asIntOf,run_underlying hu,hb,sizeOf,typeInfo,I7]
  ·rename_i n e size a k i' _ he hx hi;obtain⟨hu,ii,I7,rfl⟩:=PC he;obtain⟨hb,h⟩:=h;refine .inr ⟨_,λw=>?_,h⟩;unfold execOp;simp[ho,hx,hi,Instr.indexAt,Instr.sureAddr,asIntOf,run_underlying hu,hb,sizeOf,typeInfo,I7]
  exact h.elim
 ·rename_i ty x lo hi mx ho;unfold fY at h;split at h
  ·rename_i s hu hx hm;split at h
   ·rename_i l hh h1 h2;obtain⟨hb,hk⟩:=h;refine .inr ⟨_,λw=>?_,hk⟩;have e:=λis=>pU (P:=P) (isS:=is) (cap:=s.data.toList.length) h1 h2 hb w;rw[Hh]at e;unfold execOp;have No:Option.map (ev t) mx=none:=hm;simp only[ho,hx,Instr.sliceAt,run_underlying hu,Instr.slice,No,Sem.run_bind,Result.andThen_ok,Option.isSome_none,Bool.false_eq_true,if_false,e,Sem.run_pure];simp only[str];congr 3;apply ByteArray.ext;apply Array.ext';simp[ByteArray.data_extract,List.drop_take]
   exact h.elim
  ·rename_i e' a len cap hu hx hm;split at h
   ·rename_i e size l hh he h1 h2;obtain⟨Nu,ii,I7,rfl⟩:=zW he;obtain⟨hb,hk⟩:=h;refine .inr ⟨_,λw=>?_,hk⟩;have e:=λis=>pU (P:=P) (isS:=is) (cap:=cap) h1 h2 hb w;have No:Option.map (ev t) mx=none:=hm;rw[hu]at Nu;cases Nu;unfold execOp;simp only[ho,hx,Instr.sliceAt,run_underlying hu,Instr.slice,No,Sem.run_bind,Result.andThen_ok,e,Sem.run_pure];have:((cap:Int)=l)↔(cap=l.toNat):=by omega
    simp[sizeOf,typeInfo,I7,this]
   exact h.elim
  exact .inl h
 ·rename_i ty x ho;unfold sr at h;split at h
  ·exact .inl h
  rename_i hk;refine .inr ⟨_,λw=>?_,h⟩;split at hk
  ·rename_i hs;obtain⟨d,hd⟩:=Option.isSome_iff_exists.1 hs;unfold execOp;simp only[ho,Instr.makeInterface,Sem.run_bind,run_underlying hd,Result.andThen_ok];cases d<;>first|(simp;done)|(exfalso;exact hk (by simp[cR,hd]))
  exact absurd rfl hk
 exact .inl h
theorem G7 {o:Oper}{t:Fr}{w:World}{K:Value->World->Prop}{Q:EP}(h:br P o t w K Q .mk):runK P o t w K Q .mk:=by
 unfold br at h;split at h
 ·rename_i f args mi ho;unfold Zk at h;split at h
  ·rename_i g first cap hf
   unfold aa at h;unfold runK execOp;have e:(first.toList++args.toList.map (ev t)++cap.toList).toArray=first++args.map (ev t)++cap:=by apply Array.ext';simp
   rw[e]at h;simp only[ho,resolve,hf,Deferred.ofValue,Sem.run_bind,Sem.run_pure,Result.andThen_ok,invoke];exact h
  exact h
 ·rename_i ty x ho;unfold mO at h;split at h
  ·rename_i a ht hx;obtain⟨v,hc,hk⟩:=jD h;refine mT ?_ hk;unfold execOp;simp[ho,hx,Instr.loadAt,Instr.sureAddr,loadVar,(nN ht w).1,load,Sem.run,hc]
  ·rename_i n a ht hx;obtain⟨v,hc,hk⟩:=jD h;refine mT ?_ hk;unfold execOp;simp[ho,hx,Instr.loadAt,Instr.sureAddr,loadVar,(iY ht w).1,(iY ht w).2,loadCells,run_loadCellsFrom (P:=P) w a n 0 #[] v hc]
  exact h.elim
 ·rename_i ty x v ho;have hu:∀h:aX P (Instr.storeAt ty (ev t x) (ev t v)) t w K Q .mk,runK P o t w K Q .mk:=λh=>wE (by unfold execOp;simp only[ho]) h;unfold tN at h;split at h
  ·rename_i a ht hx;obtain⟨h1,h2,h3,hk⟩:=h;obtain⟨u,hc⟩:=Option.isSome_iff_exists.1 h2;refine hu (B7 ?_ hk);have e1:(ev t v).cells=#[ev t v]:=by
    generalize ev t v=u at h1;cases u<;>simp_all [Value.cells,jt]
   have e2:∀k:Sem Unit,(Sem.store .plain a (ev t v) k).run P w=k.run P (w.setCell a (ev t v)):=λk=>by
    generalize ev t v=u at h1;cases u<;>simp_all [Sem.run,jt]
   have e3:a.add 0=a:=by simp[Addr.add]
   rw[hx];simp only[Instr.storeAt,Instr.sureAddr,Sem.run_bind,Sem.run_pure,Result.andThen_ok,storeVar,(nN ht w).2,e1,List.size_toArray,List.length_cons,List.length_nil,ne_eq,not_true_eq_false,if_false,storeCells,store,e3,Nat.zero_add];simp only[e2,Sem.run];rfl
  exact hu h
 ·rename_i e x ho;exact mT (by unfold execOp;simp[ho,Instr.box,newVar,newRow]) h
 ·rename_i e ho;exact fq (by unfold execOp;simp only[ho]) h
 ·rename_i s d x ho;rcases qn (P:=P) (o:=o) (t:=t) (L:=(K · w)) (other:=ag P (convert s d (ev t x)) t w K Q .mk) (by unfold a7;simp only[ho];exact h) with h|⟨v,hg,hk⟩
  ·exact fq (by unfold execOp;simp only[ho]) h
  exact mT (hg w) hk
 ·rename_i ty n ps ho;exact fq (by unfold execOp;simp only[ho]) h
 ·rename_i ty l c ho;exact fq (by unfold execOp;simp only[ho]) h
 ·rename_i ty r ho;exact fq (by unfold execOp;simp only[ho]) h
 ·rename_i ty x i ok ho;exact fq (by unfold execOp;simp only[ho]) h
 ·rename_i ty m k x ho;exact wE (by unfold execOp;simp only[ho]) h
 ·rename_i ty m k x ho;exact wE (by unfold execOp;simp only[ho]) h
 ·rename_i x xt at_ ok ho;exact fq (by unfold execOp;simp only[ho]) h
 ·rename_i x ho;exact fq (by unfold execOp;simp only[ho]) h
 ·rename_i ty x ho;exact fq (by unfold execOp;simp only[ho]) h
 ·rename_i args mi ho;exact fq (by unfold execOp;simp only[ho];rfl) h
 ·rename_i args mi ho;exact fq (by unfold execOp;simp only[ho];rfl) h
 rcases qn (P:=P) h with h|⟨v,hg,hk⟩
 ·exact h
 exact mT (hg w) hk
theorem TE {o:Oper}{t:Fr}{w:World}{K:Value->World->Prop}{Q:EP}{next:Act->World->Prop}
  (hn:∀v w',K v w'->next ⟨(put t o.dst v).toArray,[]⟩ w') (h:br P o t w K Q .mk):o.wp P ⟨t.toArray,[]⟩ w next (lift Q):=by
 have h':=G7 h;unfold runK at h';unfold Oper.wp;rw[nB];exact SI hn h'
theorem jv (t:Fr)(s:Nat)(h:s<t.length):t.set s (t.getD s undef)=t:=by
 apply List.ext_getElem?;intro i;rw[List.getElem?_set];split
 ·rename_i e;subst e;simp[h,List.getD_eq_getElem?_getD]
 rfl
theorem gF (ops:List Oper)(t:Fr)(j:Nat):yielded ops.toArray t.toArray j=((iy ops j).bind (t[·]?)).bind (λ| .bool b=>some b|_=>none):=by
 unfold yielded iy;simp only[List.getElem?_toArray];cases (ops[j]?).bind (·.dst) with
 | none=>rfl
 | some s =>
  simp only[Option.bind_some];cases t[s]? with
  | none=>rfl
  | some v=>cases v<;>rfl
theorem Be {ops:List Oper}{K:Fr->World->Prop}{Q:EP}{next:Exit->Act->World->Prop}(hn:∀t w,K t w->next .normal ⟨t.toArray,[]⟩ w)(hq:∀e a w,lift Q e a w->next e a w) :
  ∀(l:List Oper) (t:Fr) (w:World),aQ P ops K Q l t w .mk->wpList P ops.toArray next l ⟨t.toArray,[]⟩ w
 | [],t,w,h=>hn t w h
 | o::r,t,w,h=>by
  have step:∀(t':Fr),Region.wanted o (yielded ops.toArray t'.toArray)=true->br P o t' w (λv w'=>aQ P ops K Q r (put t' o.dst v) w' .mk) Q .mk->wpList P ops.toArray next (o::r) ⟨t'.toArray,[]⟩ w:=λt' hw h'=>by
   unfold wpList;rw[if_pos hw];refine .inl ?_
   have:=TE (next:=wpList P ops.toArray next r) (λv w' hk=>Be hn hq r _ w' hk) h'
   unfold Oper.wp at this ⊢
   generalize (execOp _ o).run P w=res at this;cases res with
   | ok n w' =>
    cases n<;>simp only[Oper.upon]at this ⊢<;>first|exact this|skip
    exact this.mono λe bE he=>by
     cases e with
     | returned v=>exact he
     | panicked c=>exact hq _ _ _ he
     | outgrown=>obtain⟨a₀,w₀,hh⟩:=he;exact⟨a₀,w₀,hq _ _ _ hh⟩
   | halt x w'=>cases x<;>simp only[Oper.upon]at this ⊢<;>first|exact this|exact hq _ _ _ this
  have skip:∀(t':Fr),Region.wanted o (yielded ops.toArray t'.toArray)=false->aQ P ops K Q r (put t' o.dst undef) w .mk->wpList P ops.toArray next (o::r) ⟨t'.toArray,[]⟩ w:=λt' hw h'=>by
   unfold wpList;rw[if_neg (by rw[hw];simp)];rw[put_eq];exact Be hn hq r _ w h'
  simp only[aQ]at h;split at h
  ·rename_i hg;exact step t (by simp[Region.wanted,hg]) h
  rename_i j want hg;have nE:∀t':Fr,Region.wanted o (yielded ops.toArray t'.toArray)=(yielded ops.toArray t'.toArray j == some want):=λt'=>by simp only[Region.wanted,hg]
  unfold iE at h;split at h
  ·rename_i hs;exact skip t (by rw[nE,gF,hs];rfl) h
  rename_i s hs;split at h
  ·rename_i b hb;have aj:s<t.length:=by
    rcases Nat.lt_or_ge s t.length with h'|h'
    ·exact h'
    simp[List.getD_eq_getElem?_getD,List.getElem?_eq_none h',undef]at hb
   have hv:t[s]?=some (.bool b):=by
    rw[List.getD_eq_getElem?_getD]at hb;rw[List.getElem?_eq_getElem aj]at hb ⊢
    simpa using hb
   have hy:yielded ops.toArray t.toArray j=some b:=by rw[gF,hs];simp[hv]
   have same:=jv t s aj;rw[hb]at same;by_cases Yr:b=want
   ·subst Yr;have h1:=h.1 rfl;rw[same]at h1;exact step t (by rw[nE,hy];simp) h1
   have hbn:b=!want:=by cases b<;>cases want<;>simp_all
   have h2:=h.2 hbn;rw[<-hbn,same]at h2;exact skip t (by rw[nE,hy];simpa using Yr) h2
  rename_i hb;refine skip t ?_ h;rw[nE,gF,hs];simp only[Option.bind_some];cases hv:t[s]? with
  | none=>rfl
  | some v =>
   have:t.getD s undef=v:=by rw[List.getD_eq_getElem?_getD,hv];rfl
   rw[this]at hb;cases v<;>simp at hb ⊢
theorem K0 {c:Code}{Q Q':EP}{t:Fr}{w:World}(hq:∀e t w,Q e t w->Q' e t w)(h:cg P c Q t w .mk):cg P c Q' t w .mk :=
 Code.wp_mono (λ_ _ _ hh=>⟨hh.1,hq _ _ _ hh.2⟩) h
theorem Kq {a:Act}(h:a.defers=[]):a=⟨a.tmps.toList.toArray,[]⟩:=by cases a;simp_all
theorem sL:∀(c:Code) (Q:EP) (t:Fr) (w:World),vc P c Q t w .mk->cg P c Q t w .mk
 | .skip,_,_,_,h=>wp_skip ⟨rfl,by simpa[vc] using h⟩
 | .region _ ops false,Q,t,w,h=>by
  refine wp_region_list ?_
  have:=Be (P:=P) (ops:=ops.toList) (next:=lift Q) (λt w hk=>⟨rfl,by simpa using hk⟩) (λ_ _ _ h=>h) ops.toList t w h
  simpa using this
 | .region _ _ true,_,_,_,h=>h
 | .seq a b,Q,t,w,h=>by
  refine wp_seq (Code.wp_mono ?_ (sL a _ t w h));rintro e a' w' ⟨hd,hh⟩;cases e<;>simp only[tI]at hh<;>simp only[Exit.then]<;>first|exact⟨hd,hh⟩|skip
  have:=sL b Q _ w' hh;rw[Kq hd];exact this
 | .cond c a b,Q,t,w,h=>by
  simp only[vc]at h;unfold my at h;split at h
  ·rename_i x hx;refine wp_cond_split (t:=x) (by rw[nB];exact hx) (λGJ=>sL a Q t w (h.1 GJ)) (λGJ=>sL b Q t w (h.2 GJ))
  exact h.elim
 | .block i c,Q,t,w,h=>by
  refine wp_block (Code.wp_mono ?_ (sL c _ t w h));rintro e a' w' ⟨hd,hh⟩;cases e<;>simp only[jc]at hh<;>simp only[Exit.inBlock]<;>first|exact⟨hd,hh⟩|skip
  split at hh
  ·rename_i e;simp only[e,if_true];exact⟨hd,hh⟩
  rename_i e;simp only[e,if_false];exact⟨hd,hh⟩
 | .exit i,_,_,_,h=>wp_exit ⟨rfl,by simpa[vc] using h⟩
 | .ret,_,_,_,h=>wp_ret ⟨rfl,by simpa[vc] using h⟩
 | .label _,_,_,_,h=>wp_label ⟨rfl,by simpa[vc] using h⟩
 | .goto l,_,_,_,h=>wp_goto ⟨rfl,by simpa[vc] using h⟩
 | .loop _,_,_,_,h=>h
 | .scope _,_,_,_,h=>h
 | .rangeFunc ..,_,_,_,h=>h
 | .refuse _,_,_,_,h=>h
end
end Go.Vc
end
section
namespace Go.Vc
open Go.RowKit
section
variable {P:Program} {t:Fr} {w:World} {K:VK} {Q:EP} {N:Fr->World->Prop} {L:VP} {other:Prop}
def evs (t:Fr):List (Nat×Operand)->List (Nat×Value)
 | ps=>ps.map λ(i,x)=>(i,ev t x)
theorem Zg (t:Fr):evs t []=[]:=(rfl)
theorem VQ (t:Fr)(i x ps):evs t ((i,x)::ps)=(i,ev t x)::evs t ps:=(rfl)
theorem aD2 (i:Nat):ev t (.tmp i)=t.getD i undef:=(rfl)
theorem VO (v:Value):ev t (.const v)=v:=(rfl)
theorem QJ (g:Nat):ev t (.global g)=.pointer (some ⟨g,0,none⟩):=(rfl)
theorem Zf (f:FuncId):ev t (.func f)=.func (.func f) #[] #[]:=(rfl)
theorem Xq (d:Nat)(v:Value):put t (some d) v=t.set d v:=(rfl)
theorem Xm (v:Value):put t none v=t:=(rfl)
theorem Vb (x:Value)(l:List Value)(d:Value):(x::l).getD 0 d=x:=(rfl)
theorem V6 (x:Value)(l:List Value)(n:Nat)(d:Value):(x::l).getD (n+1) d=l.getD n d:=(rfl)
theorem YQ (x:Value)(l:List Value)(v:Value):(x::l).set 0 v=v::l:=(rfl)
theorem YP (x:Value)(l:List Value)(n:Nat)(v:Value):(x::l).set (n+1) v=x::l.set n v:=(rfl)
theorem aCo (p):vc P .skip Q t w p=Q .normal t w:=(rfl)
theorem Sz (id:Nat)(l:List Oper)(p):vc P (.region id l.toArray false) Q t w p=aQ P l (Q .normal) Q l t w .mk:=(rfl)
theorem aCk (id:Nat)(l:Array Oper)(p):vc P (.region id l true) Q t w p=cg P (.region id l true) Q t w .mk:=(rfl)
theorem aGz (a b:Code)(p):vc P (.seq a b) Q t w p=vc P a (tI (λt w=>vc P b Q t w .mk) Q .mk) t w .mk:=(rfl)
theorem aCj (c:Operand)(a b:Code)(p):vc P (.cond c a b) Q t w p=my (ev t c) (vc P a Q t w .mk) (vc P b Q t w .mk) .mk:=(rfl)
theorem Yd (i:Nat)(c:Code)(p):vc P (.block i c) Q t w p=vc P c (jc i Q .mk) t w .mk:=(rfl)
theorem aCl (i:Nat)(p):vc P (.exit i) Q t w p=Q (.exit i) t w:=(rfl)
theorem aGy (p):vc P .ret Q t w p=Q .ret t w:=(rfl)
theorem Ye (l:Nat)(p):vc P (.label l) Q t w p=Q .normal t w:=(rfl)
theorem aCm (l:Nat)(p):vc P (.goto l) Q t w p=Q (.goto l) t w:=(rfl)
theorem aCn (c:Code)(p):vc P (.loop c) Q t w p=cg P (.loop c) Q t w .mk:=(rfl)
theorem Yf (c:Code)(p):vc P (.scope c) Q t w p=cg P (.scope c) Q t w .mk:=(rfl)
theorem HC (f ps a b p):vc P (.rangeFunc f ps a b) Q t w p=cg P (.rangeFunc f ps a b) Q t w .mk:=(rfl)
theorem Jl (Q:EP)(p):tI N Q p .normal t w=N t w:=(rfl)
theorem YN (Q:EP)(p):tI N Q p .ret t w=Q .ret t w:=(rfl)
theorem S5 (Q:EP)(i:Nat)(p):tI N Q p (.exit i) t w=Q (.exit i) t w:=(rfl)
theorem S6 (Q:EP)(i:Nat)(p):tI N Q p (.goto i) t w=Q (.goto i) t w:=(rfl)
theorem BL (Q:EP)(c)(p):tI N Q p (.panic c) t w=Q (.panic c) t w:=(rfl)
theorem CQ (Q:EP)(i:Nat)(p):jc i Q p .normal t w=Q .normal t w:=(rfl)
theorem Ky (Q:EP)(i:Nat)(p):jc i Q p .ret t w=Q .ret t w:=(rfl)
theorem H0 (Q:EP)(i j:Nat)(p):jc i Q p (.goto j) t w=Q (.goto j) t w:=(rfl)
theorem th (Q:EP)(i:Nat)(c)(p):jc i Q p (.panic c) t w=Q (.panic c) t w:=(rfl)
theorem wS (Q:EP)(i:Nat)(p):jc i Q p (.exit i) t w=Q .normal t w:=by simp[jc]
theorem Eg (Q:EP)(i j:Nat)(p)(h:(j == i)=false):jc i Q p (.exit j) t w=Q (.exit j) t w:=by simp[jc,show ¬j=i by simpa using h]
theorem Sx (ops)(p):aQ P ops N Q [] t w p=N t w:=(rfl)
theorem KT (ops)(d op ty pos af r)(p):aQ P ops N Q (⟨d,op,ty,pos,af,none⟩::r) t w p=br P ⟨d,op,ty,pos,af,none⟩ t w (λv w'=>aQ P ops N Q r (put t d v) w' .mk) Q .mk:=(rfl)
theorem KS (ops)(d op ty pos af j want r)(p):aQ P ops N Q (⟨d,op,ty,pos,af,some (j,want)⟩::r) t w p =
  iE (iy ops j) want t (λt'=>br P ⟨d,op,ty,pos,af,some (j,want)⟩ t' w (λv w'=>aQ P ops N Q r (put t' d v) w' .mk) Q .mk) (λt'=>aQ P ops N Q r (put t' d undef) w .mk) .mk:=rfl
theorem Jq (o:Oper)(l:List Oper):iy (o::l) 0=o.dst:=(rfl)
theorem Jp (o:Oper)(l:List Oper)(n:Nat):iy (o::l) (n+1)=iy l n:=(rfl)
theorem X0 (d op ty pos af g):(Oper.mk d op ty pos af g).dst=d:=(rfl)
def gK (v:Value)(s:Nat)(want:Bool)(t:Fr)(yes no:Fr->Prop)(_:Ph (yes,no)):Prop:=match v with
 | .bool b=>(b=want->yes (t.set s (.bool want)))/\(b=!want->no (t.set s (.bool !want)))
 | _=>no t
theorem QP (s:Nat)(want:Bool)(yes no:Fr->Prop)(p):iE (some s) want t yes no p=gK (t.getD s undef) s want t yes no .mk:=by
 simp only[iE,gK]
 all_goals (generalize t.getD s undef=v;cases v<;>rfl)
theorem IL (want:Bool)(yes no:Fr->Prop)(p):iE none want t yes no p=no t:=(rfl)
theorem aHN (s:Nat)(yes no:Fr->Prop)(p):gK (.bool true) s true t yes no p=yes (t.set s (.bool true)):=by simp[gK]
theorem aHK (s:Nat)(yes no:Fr->Prop)(p):gK (.bool false) s false t yes no p=yes (t.set s (.bool false)):=by simp[gK]
theorem aHM (s:Nat)(yes no:Fr->Prop)(p):gK (.bool true) s false t yes no p=no (t.set s (.bool true)):=by simp[gK]
theorem aHL (s:Nat)(yes no:Fr->Prop)(p):gK (.bool false) s true t yes no p=no (t.set s (.bool false)):=by simp[gK]
theorem VZ (s:Nat)(want:Bool)(yes no:Fr->Prop)(p):gK undef s want t yes no p=no t:=(rfl)
theorem Uj (x y:Prop)(p):my (.bool true) x y p=x:=by simp[my]
theorem Ui (x y:Prop)(p):my (.bool false) x y p=y:=by simp[my]
theorem Eo (b:Bool)(x y:Prop)(p):my (.bool b) x y p=((b=true->x)/\(b=false->y)):=(rfl)
theorem PO (q:Prop)[Decidable q](x y:Prop)(p):my (.bool (decide q)) x y p=((q->x)/\(¬q->y)):=by simp[my]
theorem PQ (b:Bool)(x y:Prop)(p):my (.bool (!b)) x y p=my (.bool b) y x .mk:=by cases b<;>simp[my]
theorem VY (q:Prop)[Decidable q](s:Nat)(yes no:Fr->Prop)(p):gK (.bool (decide q)) s true t yes no p=((q->yes (t.set s (.bool true)))/\(¬q->no (t.set s (.bool false)))):=by simp[gK]
theorem VW (q:Prop)[Decidable q](s:Nat)(yes no:Fr->Prop)(p):gK (.bool (decide q)) s false t yes no p=((¬q->yes (t.set s (.bool false)))/\(q->no (t.set s (.bool true)))):=by simp[gK]
theorem Xd (a b:Value)(p):Dk (.bool true) a b L p=L a:=(rfl)
theorem Xb (a b:Value)(p):Dk (.bool false) a b L p=L b:=(rfl)
theorem XY (d x ty pos af g)(p):br P ⟨d,.move x,ty,pos,af,g⟩ t w K Q p=K (ev t x) w:=(rfl)
theorem MV (d x ty pos af g)(p):br P ⟨d,.assign x,ty,pos,af,g⟩ t w K Q p=K (ev t x) w:=(rfl)
theorem XZ (d c a b ty pos af g)(p):br P ⟨d,.pick c a b,ty,pos,af,g⟩ t w K Q p=Dk (ev t c) (ev t a) (ev t b) (K · w) .mk:=(rfl)
theorem aBC (d op xt x y yt ty pos af g)(p):br P ⟨d,.binOp op xt x y yt,ty,pos,af,g⟩ t w K Q p =
  da op (ev t x) (ev t y) (K · w) (cF (cR P xt) (isConst x || isConst y) op (ev t x) (ev t y) (K · w) (runK P ⟨d,.binOp op xt x y yt,ty,pos,af,g⟩ t w K Q .mk) .mk) .mk:=rfl
theorem aFT (d op xt x ty pos af g)(p):br P ⟨d,.unOp op xt x,ty,pos,af,g⟩ t w K Q p=unK op (ev t x) (K · w) (runK P ⟨d,.unOp op xt x,ty,pos,af,g⟩ t w K Q .mk) .mk:=(rfl)
theorem JZ (d x i ty pos af g)(p):br P ⟨d,.extract x i,ty,pos,af,g⟩ t w K Q p=nr (ev t x) i (K · w) .mk:=(rfl)
theorem JY (d s e x ty pos af g)(p):br P ⟨d,.convert s e x,ty,pos,af,g⟩ t w K Q p=tp (if (P.underlying s).isSome then P.underlying e else none) (ev t x) (K · w) (ag P (convert s e (ev t x)) t w K Q .mk) .mk:=(rfl)
theorem Rv (d xt x i ty pos af g)(p):br P ⟨d,.index xt x i,ty,pos,af,g⟩ t w K Q p=vx (P.underlying xt) (ev t x) (ev t i) (K · w) (runK P ⟨d,.index xt x i,ty,pos,af,g⟩ t w K Q .mk) .mk:=(rfl)
theorem G5 (d fn)(a c:List Operand)(ty pos af g)(p):br P ⟨d,.makeFunc fn a.toArray c.toArray,ty,pos,af,g⟩ t w K Q p=K (.func fn (a.map (ev t)).toArray (c.map (ev t)).toArray) w:=by
 simp[br,a7]
theorem XV (d f)(args:List Operand)(mi ty pos af g)(p):br P ⟨d,.call { callee:=.value f,args:=args.toArray,argTypes:=mi },ty,pos,af,g⟩ t w K Q p =
  Zk P (ev t f) (args.map (ev t)) t w K Q (runK P ⟨d,.call { callee:=.value f,args:=args.toArray,argTypes:=mi },ty,pos,af,g⟩ t w K Q .mk) .mk:=rfl
theorem aBE (d x mi ty pos af g)(p):br P ⟨d,.call { callee:=.builtin .len,args:=#[x],argTypes:=#[mi] },ty,pos,af,g⟩ t w K Q p =
  MF (P.underlying mi) (ev t x) (K · w) (runK P ⟨d,.call { callee:=.builtin .len,args:=#[x],argTypes:=#[mi] },ty,pos,af,g⟩ t w K Q .mk) .mk:=rfl
theorem aBF (d)(args:List Operand)(mi ty pos af g)(p):br P ⟨d,.call { callee:=.builtin .max,args:=args.toArray,argTypes:=mi },ty,pos,af,g⟩ t w K Q p =
  Yy true (args.map (ev t)) (K · w) (runK P ⟨d,.call { callee:=.builtin .max,args:=args.toArray,argTypes:=mi },ty,pos,af,g⟩ t w K Q .mk) .mk:=rfl
theorem aBG (d)(args:List Operand)(mi ty pos af g)(p):br P ⟨d,.call { callee:=.builtin .min,args:=args.toArray,argTypes:=mi },ty,pos,af,g⟩ t w K Q p =
  Yy false (args.map (ev t)) (K · w) (runK P ⟨d,.call { callee:=.builtin .min,args:=args.toArray,argTypes:=mi },ty,pos,af,g⟩ t w K Q .mk) .mk:=rfl
theorem XX (d xt x ty pos af g)(p):br P ⟨d,.load xt x,ty,pos,af,g⟩ t w K Q p=mO (jw P xt) (ev t x) w K .mk:=(rfl)
theorem Rz (d xt x v ty pos af g)(p):br P ⟨d,.store xt x v,ty,pos,af,g⟩ t w K Q p=tN (jw P xt) (ev t x) (ev t v) w K (aX P (Instr.storeAt xt (ev t x) (ev t v)) t w K Q .mk) .mk:=(rfl)
theorem Cs (d xt x f ty pos af g)(p):br P ⟨d,.fieldAddr xt x f,ty,pos,af,g⟩ t w K Q p=mF (au P xt f) (ev t x) (K · w) .mk:=(rfl)
theorem Rt (d xt x f ty pos af g)(p):br P ⟨d,.field xt x f,ty,pos,af,g⟩ t w K Q p=Dj (au P xt f) (ev t x) (K · w) .mk:=(rfl)
theorem Cv (d xt x i ty pos af g)(p):br P ⟨d,.indexAddr xt x i,ty,pos,af,g⟩ t w K Q p=iq (fw P xt) (r5 P xt) (ev t x) (ev t i) (K · w) .mk:=(rfl)
theorem Ry (d xt x lo hi mx ty pos af g)(p):br P ⟨d,.slice xt x lo hi mx,ty,pos,af,g⟩ t w K Q p =
  fY (P.underlying xt) (fw P xt) (ev t x) (lo.map (ev t)) (hi.map (ev t)) (mx.map (ev t)) (K · w) (runK P ⟨d,.slice xt x lo hi mx,ty,pos,af,g⟩ t w K Q .mk) .mk:=rfl
theorem Ru (d xt x ty pos af g)(p):br P ⟨d,.makeInterface xt x,ty,pos,af,g⟩ t w K Q p =
  sr (if (P.underlying xt).isSome then cR P xt else 1) xt (ev t x) (K · w) (runK P ⟨d,.makeInterface xt x,ty,pos,af,g⟩ t w K Q .mk) .mk:=rfl
theorem aBD (d e x ty pos af g)(p):br P ⟨d,.box e x,ty,pos,af,g⟩ t w K Q p=aDH e (ev t x) w K .mk:=(rfl)
theorem Rr (d e ty pos af g)(p):br P ⟨d,.alloc e,ty,pos,af,g⟩ t w K Q p=ag P (Instr.alloc e true (.tuple #[])) t w K Q .mk:=(rfl)
theorem Rs (d bt)(ps:List (Nat×Operand))(ty pos af g)(p):br P ⟨d,.build bt ps.toArray,ty,pos,af,g⟩ t w K Q p=zI (kK P bt) (evs t ps) (K · w) .mk:=(rfl)
theorem Ak (d bt n)(ps:List (Nat×Operand))(ty pos af g)(p):br P ⟨d,.buildSlice bt n ps.toArray,ty,pos,af,g⟩ t w K Q p=ag P (Instr.buildSlice bt n (evs t ps).toArray) t w K Q .mk:=by
 simp[br,evs]
theorem Cx (d bt l c ty pos af g)(p):br P ⟨d,.makeSlice bt l c,ty,pos,af,g⟩ t w K Q p=ag P (Instr.makeSlice bt (ev t l) (ev t c)) t w K Q .mk:=(rfl)
theorem J0 (d bt r ty pos af g)(p):br P ⟨d,.makeMap bt r,ty,pos,af,g⟩ t w K Q p=ag P (Instr.makeMap bt (r.map (ev t))) t w K Q .mk:=(rfl)
theorem MX (d bt x i ok ty pos af g)(p):br P ⟨d,.lookup bt x i ok,ty,pos,af,g⟩ t w K Q p=ag P (Instr.lookup bt (ev t x) (ev t i) ok) t w K Q .mk:=(rfl)
theorem Cy (d bt m k x ty pos af g)(p):br P ⟨d,.mapUpdate bt m k x,ty,pos,af,g⟩ t w K Q p=aX P (Instr.mapUpdate bt (ev t m) (ev t k) (ev t x)) t w K Q .mk:=(rfl)
theorem MW (d bt m k x ty pos af g)(p):br P ⟨d,.insert bt m k x,ty,pos,af,g⟩ t w K Q p=aX P (Instr.mapUpdate bt (ev t m) (ev t k) (ev t x)) t w K Q .mk:=(rfl)
theorem Al (d x xt at_ ok ty pos af g)(p):br P ⟨d,.typeAssert x xt at_ ok,ty,pos,af,g⟩ t w K Q p=ag P (Instr.typeAssert (ev t x) xt at_ ok) t w K Q .mk:=(rfl)
theorem Rw (d x ty pos af g)(p):br P ⟨d,.panic x,ty,pos,af,g⟩ t w K Q p=ag P (Instr.panic (ev t x)) t w K Q .mk:=(rfl)
theorem Rx (d xt x ty pos af g)(p):br P ⟨d,.range xt x,ty,pos,af,g⟩ t w K Q p=ag P (Instr.range xt (ev t x)) t w K Q .mk:=(rfl)
theorem MU (d)(args:List Operand)(mi ty pos af g)(p):br P ⟨d,.call { callee:=.builtin .append,args:=args.toArray,argTypes:=mi },ty,pos,af,g⟩ t w K Q p =
  ag P (Builtin.append_ mi ty (args.map (ev t)).toArray) t w K Q .mk:=by simp[br]
theorem XW (d)(args:List Operand)(mi ty pos af g)(p):br P ⟨d,.call { callee:=.builtin .copy,args:=args.toArray,argTypes:=mi },ty,pos,af,g⟩ t w K Q p =
  ag P (Builtin.copy_ mi ty (args.map (ev t)).toArray) t w K Q .mk:=by simp[br]
theorem QN (g:FuncId)(a c:List Value)(args:List Value)(p):Zk P (.func (.func g) a.toArray c.toArray) args t w K Q other p=aa P g (a++args++c) t w K Q .mk:=(rfl)
theorem Ku (n:Int)(p):jb .i64 n L p=((-9223372036854775808<=n/\n<=9223372036854775807)/\L (.int .i64 n)):=(rfl)
theorem PA (n:Int)(p):jb .u8 n L p=L (.int .u8 (IntKind.u8.wrap n)):=(rfl)
theorem Kv (n:Int)(p):jb .u32 n L p=L (.int .u32 (IntKind.u32.wrap n)):=(rfl)
theorem Kw (n:Int)(p):jb .u64 n L p=L (.int .u64 (IntKind.u64.wrap n)):=(rfl)
theorem Kt (n:Int)(p):jb .i32 n L p=L (.int .i32 (IntKind.i32.wrap n)):=(rfl)
section
variable (k k':IntKind) (a b:Int)
theorem Tu (p):da .add (.int k a) (.int k b) L other p=jb k (a+b) L .mk:=by simp[da,pg]
theorem UJ (p):da .sub (.int k a) (.int k b) L other p=jb k (a-b) L .mk:=by simp[da,pg]
theorem UD (p):da .mul (.int k a) (.int k b) L other p=jb k (a*b) L .mk:=by simp[da,pg]
theorem UF (p):da .quo (.int k a) (.int k b) L other p=(b≠0/\L (.int k (k.wrap (a.tdiv b)))):=by simp[da,pg]
theorem UG (p):da .rem (.int k a) (.int k b) L other p=(b≠0/\L (.int k (a.tmod b))):=by simp[da,pg]
theorem Tx (p):da .and (.int k a) (.int k b) L other p=L (.int k (cD .and k a b)):=by simp[da,pg]
theorem ZI (p):da .or (.int k a) (.int k b) L other p=L (.int k (cD .or k a b)):=by simp[da,pg]
theorem UK (p):da .xor (.int k a) (.int k b) L other p=L (.int k (cD .xor k a b)):=by simp[da,pg]
theorem HZ (p):da .andNot (.int k a) (.int k b) L other p=L (.int k (cD .andNot k a b)):=by simp[da,pg]
theorem Ty (p):da .eql (.int k a) (.int k b) L other p=L (.bool (decide (a=b))):=by simp[da,pg];rfl
theorem UE (p):da .neq (.int k a) (.int k b) L other p=L (.bool (decide (a≠b))):=by
 have:(a != b)=decide (a≠b):=by by_cases h:a=b<;>simp[h]
 simp only[da,pg,this];simp
theorem UC (p):da .lss (.int k a) (.int k b) L other p=L (.bool (decide (a<b))):=by simp[da,pg]
theorem UB (p):da .leq (.int k a) (.int k b) L other p=L (.bool (decide (a<=b))):=by simp[da,pg]
theorem UA (p):da .gtr (.int k a) (.int k b) L other p=L (.bool (decide (b<a))):=by simp[da,pg]
theorem Tz (p):da .geq (.int k a) (.int k b) L other p=L (.bool (decide (b<=a))):=by simp[da,pg]
theorem UH (p):da .shl (.int k a) (.int k' b) L other p=(0<=b/\L (.int k (k.wrap (a*2 ^ min b.toNat k.bits)))):=(rfl)
theorem UI (p):da .shr (.int k a) (.int k' b) L other p=(0<=b/\L (.int k (a.fdiv (2 ^ min b.toNat k.bits)))):=(rfl)
end
theorem Ea (a b:List UInt8)(p):da .add (str a) (str b) L other p=(((a.length:Int)+b.length<=9223372036854775807)/\L (str (a++b))):=by
 simp[da,str,ByteArray.size];intro _;rw[show ({ data:=a.toArray }:ByteArray)++{ data:=b.toArray }={ data:=(a++b).toArray } from by apply ByteArray.ext;simp]
theorem Eb (a b:List UInt8)(p):da .eql (str a) (str b) L other p=L (.bool (decide (a=b))):=by
 have:(a == b)=decide (a=b):=by by_cases h:a=b<;>simp[h]
 simp[da,str,this]
theorem Ec (a b:List UInt8)(p):da .neq (str a) (str b) L other p=L (.bool (decide (a≠b))):=by
 have:(!(a == b))=decide (a≠b):=by by_cases h:a=b<;>simp[h]
 simp only[da,str,this]
theorem zC (y:Value)(p):da .eql .nilIface y L other p=other:=by cases y<;>rfl
theorem zD (y:Value)(p):da .neq .nilIface y L other p=other:=by cases y<;>rfl
theorem yz (ty v y)(p):da .eql (.iface ty v) y L other p=other:=by cases y<;>rfl
theorem zB (ty v y)(p):da .neq (.iface ty v) y L other p=other:=by cases y<;>rfl
theorem EZ (a y)(p):da .eql (.pointer a) y L other p=other:=by cases y<;>rfl
theorem E0 (a y)(p):da .neq (.pointer a) y L other p=other:=by cases y<;>rfl
theorem zE (a n c y)(p):da .eql (.slice a n c) y L other p=other:=by cases y<;>rfl
theorem zG (a n c y)(p):da .neq (.slice a n c) y L other p=other:=by cases y<;>rfl
theorem CL (b y)(p):da .eql (.bool b) y L other p=other:=by cases y<;>rfl
theorem CM (b y)(p):da .neq (.bool b) y L other p=other:=by cases y<;>rfl
theorem EX (b y)(p):da .eql (.agg b) y L other p=other:=by cases y<;>rfl
theorem EY (b y)(p):da .neq (.agg b) y L other p=other:=by cases y<;>rfl
theorem vP (y)(p):da .eql .nilFunc y L other p=other:=by cases y<;>rfl
theorem CN (a b c y)(p):da .eql (.func a b c) y L other p=other:=by cases y<;>rfl
theorem aDZ (p):cF 1 true .eql .nilIface .nilIface L other p=L (.bool true):=(rfl)
theorem aDY (ty v c)(p):cF 1 c .eql (.iface ty v) .nilIface L other p=L (.bool false):=(rfl)
theorem aBy (p):cF 1 true .neq .nilIface .nilIface L other p=L (.bool false):=(rfl)
theorem aBx (ty v c)(p):cF 1 c .neq (.iface ty v) .nilIface L other p=L (.bool true):=(rfl)
theorem aD0 (c)(p):cF 2 c .eql (.pointer none) (.pointer none) L other p=L (.bool true):=(rfl)
theorem aD1 (a c)(p):cF 2 c .eql (.pointer (some a)) (.pointer none) L other p=L (.bool false):=(rfl)
theorem aBz (c)(p):cF 2 c .neq (.pointer none) (.pointer none) L other p=L (.bool false):=(rfl)
theorem aBA (a c)(p):cF 2 c .neq (.pointer (some a)) (.pointer none) L other p=L (.bool true):=(rfl)
theorem eq_6 (a b c)(p):cF 6 c .eql (.bool a) (.bool b) L other p=L (.bool (a == b)):=(rfl)
theorem aJ5 (a b c)(p):cF 6 c .neq (.bool a) (.bool b) L other p=L (.bool (!(a == b))):=(rfl)
theorem LQ:dh [] []=some true:=(rfl)
theorem Ho (k a b xs ys):dh (.int k a::xs) (.int k b::ys)=(dh xs ys).map (decide (a=b) && ·):=by simp[dh]
theorem PF (f:Bool->Bool)(b:Bool):Option.map f (some b)=some (f b):=(rfl)
def oF (b:Option Bool)(L:VP)(neg:Bool)(other:Prop)(_:Ph (L,other)):Prop:=match b with
 | some b=>L (.bool (xor neg b))
 | none=>other
theorem eq_7 (n c)(xs ys:List Value)(p)(h:ix xs n=true):cF (n+7) c .eql (.agg xs.toArray) (.agg ys.toArray) L other p=oF (dh xs ys) L false other .mk:=by
 simp only[cF,rz,h,oF];cases dh xs ys<;>simp
theorem De (n c)(xs ys:List Value)(p)(h:ix xs n=true):cF (n+7) c .neq (.agg xs.toArray) (.agg ys.toArray) L other p=oF (dh xs ys) L true other .mk:=by
 simp only[cF,rz,h,oF];cases dh xs ys<;>simp
theorem aHA (c)(x0 y0:Value)(p):cF 8 c .eql (.agg #[x0]) (.agg #[y0]) L other p=oF (dh [x0] [y0]) L false other .mk:=eq_7 1 c [x0] [y0] p rfl
theorem aHB (c)(x0 x1 y0 y1:Value)(p):cF 9 c .eql (.agg #[x0,x1]) (.agg #[y0,y1]) L other p=oF (dh [x0,x1] [y0,y1]) L false other .mk:=eq_7 2 c [x0,x1] [y0,y1] p rfl
theorem aHC (c)(x0 x1 x2 y0 y1 y2:Value)(p):cF 10 c .eql (.agg #[x0,x1,x2]) (.agg #[y0,y1,y2]) L other p=oF (dh [x0,x1,x2] [y0,y1,y2]) L false other .mk:=eq_7 3 c [x0,x1,x2] [y0,y1,y2] p rfl
theorem aHD (c)(x0 x1 x2 x3 y0 y1 y2 y3:Value)(p):cF 11 c .eql (.agg #[x0,x1,x2,x3]) (.agg #[y0,y1,y2,y3]) L other p=oF (dh [x0,x1,x2,x3] [y0,y1,y2,y3]) L false other .mk:=eq_7 4 c [x0,x1,x2,x3] [y0,y1,y2,y3] p rfl
theorem aHE (c)(x0 x1 x2 x3 x4 y0 y1 y2 y3 y4:Value)(p):cF 12 c .eql (.agg #[x0,x1,x2,x3,x4]) (.agg #[y0,y1,y2,y3,y4]) L other p=oF (dh [x0,x1,x2,x3,x4] [y0,y1,y2,y3,y4]) L false other .mk:=eq_7 5 c [x0,x1,x2,x3,x4] [y0,y1,y2,y3,y4] p rfl
theorem aHF (c)(x0 x1 x2 x3 x4 x5 y0 y1 y2 y3 y4 y5:Value)(p):cF 13 c .eql (.agg #[x0,x1,x2,x3,x4,x5]) (.agg #[y0,y1,y2,y3,y4,y5]) L other p=oF (dh [x0,x1,x2,x3,x4,x5] [y0,y1,y2,y3,y4,y5]) L false other .mk:=eq_7 6 c [x0,x1,x2,x3,x4,x5] [y0,y1,y2,y3,y4,y5] p rfl
theorem aFL (c)(x0 y0:Value)(p):cF 8 c .neq (.agg #[x0]) (.agg #[y0]) L other p=oF (dh [x0] [y0]) L true other .mk:=De 1 c [x0] [y0] p rfl
theorem aFM (c)(x0 x1 y0 y1:Value)(p):cF 9 c .neq (.agg #[x0,x1]) (.agg #[y0,y1]) L other p=oF (dh [x0,x1] [y0,y1]) L true other .mk:=De 2 c [x0,x1] [y0,y1] p rfl
theorem aFN (c)(x0 x1 x2 y0 y1 y2:Value)(p):cF 10 c .neq (.agg #[x0,x1,x2]) (.agg #[y0,y1,y2]) L other p=oF (dh [x0,x1,x2] [y0,y1,y2]) L true other .mk:=De 3 c [x0,x1,x2] [y0,y1,y2] p rfl
theorem aFO (c)(x0 x1 x2 x3 y0 y1 y2 y3:Value)(p):cF 11 c .neq (.agg #[x0,x1,x2,x3]) (.agg #[y0,y1,y2,y3]) L other p=oF (dh [x0,x1,x2,x3] [y0,y1,y2,y3]) L true other .mk:=De 4 c [x0,x1,x2,x3] [y0,y1,y2,y3] p rfl
theorem aFP (c)(x0 x1 x2 x3 x4 y0 y1 y2 y3 y4:Value)(p):cF 12 c .neq (.agg #[x0,x1,x2,x3,x4]) (.agg #[y0,y1,y2,y3,y4]) L other p=oF (dh [x0,x1,x2,x3,x4] [y0,y1,y2,y3,y4]) L true other .mk:=De 5 c [x0,x1,x2,x3,x4] [y0,y1,y2,y3,y4] p rfl
theorem aFQ (c)(x0 x1 x2 x3 x4 x5 y0 y1 y2 y3 y4 y5:Value)(p):cF 13 c .neq (.agg #[x0,x1,x2,x3,x4,x5]) (.agg #[y0,y1,y2,y3,y4,y5]) L other p=oF (dh [x0,x1,x2,x3,x4,x5] [y0,y1,y2,y3,y4,y5]) L true other .mk:=De 6 c [x0,x1,x2,x3,x4,x5] [y0,y1,y2,y3,y4,y5] p rfl
theorem aFU (b:Bool)(p):oF (some b) L false other p=L (.bool b):=by simp[oF]
theorem aFV (b:Bool)(p):oF (some b) L true other p=L (.bool (!b)):=by simp[oF]
theorem Z9 (a b:Prop)[Decidable a][Decidable b]:(decide a && decide b)=decide (a/\b):=by by_cases a<;>by_cases b<;>simp_all
theorem Za (a:Prop)[Decidable a]:(!decide a)=decide (¬a):=by by_cases a<;>simp_all
theorem Co (v):isConst (.const v)=true:=(rfl)
theorem It (i):isConst (.tmp i)=false:=(rfl)
theorem aCg (b:Bool)(p):unK .not (.bool b) L other p=L (.bool (!b)):=(rfl)
theorem aCf (k n)(p):unK .neg (.int k n) L other p=L (.int k (k.wrap (0-n))):=(rfl)
theorem zZ (vs:List Value)(i)(p):nr (.tuple vs.toArray) i L p=(mR vs[i]? L .mk):=by
 simp only[nr,mR];cases vs[i]?<;>rfl
theorem My (x:Value)(l:List Value):(x::l)[0]?=some x:=(rfl)
theorem Mx (x:Value)(l:List Value)(n:Nat):(x::l)[n+1]?=l[n]?:=(rfl)
theorem SA {α:Type}(x:α)(L:α->Prop)(p):mR (some x) L p=L x:=(rfl)
theorem Wt (l:List UInt8)(p):MF (some .string) (str l) L other p=L (.int .i64 l.length):=by simp[MF,str,ByteArray.size]
theorem MG (e a n c)(p):MF (some (.slice e)) (.slice a n c) L other p=L (.int .i64 n):=(rfl)
theorem PR (k k' n)(p):tp (some (.int k)) (.int k' n) L other p=L (.int k (k.wrap n)):=(rfl)
theorem PT (l:List UInt8)(p):tp (some .string) (str l) L other p=L (str l):=(rfl)
theorem MA (l:List UInt8)(k n)(p):vx (some .string) (str l) (.int k n) L other p=((0<=n/\n<(l.length:Int))/\L (.int .u8 (l.getD n.toNat 0).toNat)):=by simp[vx,str]
theorem aBj (k a k' b)(p):Yy true [.int k a,.int k' b] L other p=L (.int k (if b>a then b else a)):=(rfl)
theorem aBk (k a k' b)(p):Yy false [.int k a,.int k' b] L other p=L (.int k (if b<a then b else a)):=(rfl)
theorem map_nil (f:Operand->Value):List.map f []=[]:=(rfl)
theorem map_cons (f:Operand->Value)(x)(l:List Operand):List.map f (x::l)=f x::List.map f l:=(rfl)
theorem ZF (l:List Value):l++[]=l:=List.append_nil l
theorem aBB (l:List Value):[]++l=l:=(rfl)
theorem Uk (x:Value)(l m:List Value):(x::l)++m=x::(l++m):=(rfl)
theorem Rq (f:Operand->Value)(x):Option.map f (some x)=some (f x):=(rfl)
theorem Rp (f:Operand->Value):Option.map f none=none:=(rfl)
theorem isSome_some {α:Type}(x:α):(some x).isSome=true:=(rfl)
theorem Hc (a n c)(p):tp (some .string) (.slice a n c) L other p=other:=(rfl)
theorem zU (e x)(p):tp (some (.slice e)) x L other p=other:=by cases x<;>rfl
theorem LC (k n):cz (.int k n)=[.int k n]:=(rfl)
theorem H8 (b):cz (.bool b)=[.bool b]:=(rfl)
theorem CS (s):cz (.string s)=[.string s]:=(rfl)
theorem LF (s):cz (str s)=[str s]:=(rfl)
theorem zL (a):cz (.pointer a)=[.pointer a]:=(rfl)
theorem Ek (a n c):cz (.slice a n c)=[.slice a n c]:=(rfl)
theorem LD (r):cz (.map r)=[.map r]:=(rfl)
theorem H9 (f a c):cz (.func f a c)=[.func f a c]:=(rfl)
theorem zK:cz .nilFunc=[.nilFunc]:=(rfl)
theorem Ej (a v):cz (.iface a v)=[.iface a v]:=(rfl)
theorem xq:cz .nilIface=[.nilIface]:=(rfl)
theorem LB (l:List Value):cz (.agg l.toArray)=l:=(rfl)
theorem Jt (l:List Value):eM l 0 []=l:=by cases l<;>rfl
theorem Jr (x:Value)(l:List Value)(c:Value)(cs):eM (x::l) 0 (c::cs)=c::eM l 0 cs:=(rfl)
theorem Js (x:Value)(l:List Value)(n:Nat)(cs):eM (x::l) (n+1) cs=x::eM l n cs:=(rfl)
theorem H5 (z places parts)(p):zI (some (z,places)) parts L p=mR (mA places z parts) (λcs=>L (.agg cs.toArray)) .mk:=(rfl)
theorem LA (places cells):mA places cells []=some cells:=(rfl)
def Ee (place:Option (Nat×Nat))(places:List (Nat×Nat))(cells vs:List Value)(rest:List (Nat×Value)):Option (List Value):=match place with
 | some (off,size)=>(match ix vs size && decide (off+size<=cells.length) with
   | true=>mA places (eM cells off vs) rest
   | false=>none)
 | none=>none
theorem H6 (places cells)(i v rest):mA places cells ((i,v)::rest)=Ee places[i]? places cells (cz v) rest:=(rfl)
theorem Ef (off size places cells vs rest)(h:(ix vs size && decide (off+size<=cells.length))=true):Ee (some (off,size)) places cells vs rest=mA places (eM cells off vs) rest:=by
 simp only[Ee,h]
theorem aBL (x:Nat×Nat)(l:List (Nat×Nat)):(x::l)[0]?=some x:=(rfl)
theorem aBK (x:Nat×Nat)(l:List (Nat×Nat))(n:Nat):(x::l)[n+1]?=l[n]?:=(rfl)
theorem Mi:ix [] 0=true:=(rfl)
theorem Jo (x l n):ix (x::l) (n+1)=ix l n:=(rfl)
theorem RR (a:Addr)(p):mO (some none) (.pointer (some a)) w K p=mR (w.cell? a) (K · w) .mk:=(rfl)
theorem MH (n)(a:Addr)(p):mO (some (some n)) (.pointer (some a)) w K p=mR (aB w a 0 n) (λcs=>K (.agg cs.toArray) w) .mk:=(rfl)
theorem xv (off n a)(p):mF (some (off,n)) (.pointer (some a)) L p=L (.pointer (some (a.add off))):=(rfl)
theorem SD (off)(cs:List Value)(p):Dj (some (off,none)) (.agg cs.toArray) L p=mR cs[off]? L .mk:=(rfl)
theorem M0 (off n)(cs:List Value)(p):Dj (some (off,some n)) (.agg cs.toArray) L p=L (.agg ((cs.drop off).take n).toArray):=(rfl)
theorem vw (e size arr a n c k i)(p):iq (some (e,size)) arr (.slice (some a) n c) (.int k i) L p=((0<=i/\i<n)/\L (.pointer (some (a.add (i.toNat*size))))):=by cases arr<;>rfl
theorem AP (n e size a k i)(p):iq none (some (n,e,size)) (.pointer (some a)) (.int k i) L p=((0<=i/\i<n)/\L (.pointer (some (a.add (i.toNat*size))))):=(rfl)
theorem DI (e)(l:List UInt8)(k i)(p):fY (some .string) e (str l) (some (.int k i)) none none L other p=((0<=i/\i<=l.length)/\L (str (l.drop i.toNat))):=by
 simp[fY,str,gm,List.take_of_length_le]
theorem DH (e)(l:List UInt8)(k i)(p):fY (some .string) e (str l) none (some (.int k i)) none L other p=((0<=i/\i<=l.length)/\L (str (l.take i.toNat))):=by
 simp[fY,str,gm]
theorem Mj (e)(l:List UInt8)(k i k' j)(p):fY (some .string) e (str l) (some (.int k i)) (some (.int k' j)) none L other p=((0<=i/\i<=j/\j<=l.length)/\L (str ((l.take j.toNat).drop i.toNat))):=by
 simp[fY,str,gm]
theorem add_lit (b o n:Nat):(⟨b,o,none⟩:Addr).add n=⟨b,o+n,none⟩:=by unfold Addr.add;split<;>simp_all
theorem We (ty x)(p):sr 0 ty x L other p=L (.iface ty x):=(rfl)
theorem Wf (ty x)(p):sr 2 ty x L other p=L (.iface ty x):=(rfl)
def yT:List Value->Value
 | [v]=>v
 | vs=>.tuple vs.toArray
theorem aB0 (v:Value):yT [v]=v:=(rfl)
theorem aBZ:yT []=.tuple #[]:=(rfl)
theorem Ya (v u:Value)(l:List Value):yT (v::u::l)=.tuple (v::u::l).toArray:=(rfl)
def DC (rs:List Tmp)(R:VK)(_:Ph R):EP
 | .normal,t,w=>R (yT (rs.map (t.getD · undef))) w
 | .ret,t,w=>R (yT (rs.map (t.getD · undef))) w
 | _,_,_=>False
theorem Xz (R:VK)(p):DC [] R p .ret t w=R (yT []) w:=(rfl)
theorem Jd (R:VK)(p):DC [] R p .normal t w=R (yT []) w:=(rfl)
theorem SL (a:Tmp)(R:VK)(p):DC [a] R p .ret t w=R (t.getD a undef) w:=(rfl)
theorem Gi (a:Tmp)(R:VK)(p):DC [a] R p .normal t w=R (t.getD a undef) w:=(rfl)
theorem SM (a b:Tmp)(R:VK)(p):DC [a,b] R p .ret t w=R (yT [t.getD a undef,t.getD b undef]) w:=(rfl)
theorem Gj (a b:Tmp)(R:VK)(p):DC [a,b] R p .normal t w=R (yT [t.getD a undef,t.getD b undef]) w:=(rfl)
theorem SN (a b c:Tmp)(R:VK)(p):DC [a,b,c] R p .ret t w=R (yT [t.getD a undef,t.getD b undef,t.getD c undef]) w:=(rfl)
theorem Gk (a b c:Tmp)(R:VK)(p):DC [a,b,c] R p .normal t w=R (yT [t.getD a undef,t.getD b undef,t.getD c undef]) w:=(rfl)
theorem Wz (g:ResultVar->Sem Value)(t:Fr)(hg:∀i,(g (.tmp i)).run P w=.ok (t.getD i undef) w)(rs:List Tmp):(Array.mapM g (rs.map ResultVar.tmp).toArray).run P w=.ok (rs.map (t.getD · undef)).toArray w:=by
 have h1:∀(rs:List Tmp),(List.mapM g (rs.map ResultVar.tmp)).run P w=.ok (rs.map (t.getD · undef)) w:=by
  intro rs;induction rs with
  | nil=>rfl
  | cons r rs ih=>simp only[List.map_cons,List.mapM_cons,Sem.run_bind,Sem.run_pure,Result.andThen_ok,hg,ih]
 rw[List.mapM_toArray,map_eq_pure_bind];simp only[Sem.run_bind,h1,Result.andThen_ok,Sem.run_pure]
theorem xY (fn:Func)(rs:List Tmp)(h:fn.results=(rs.map ResultVar.tmp).toArray)(t:Fr):(results fn t.toArray).run P w=.ok (yT (rs.map (t.getD · undef))) w:=by
 unfold results;rw[h,Sem.run_bind,Wz (t:=t) (hg:=λi=>by simp[List.getD_eq_getElem?_getD,Array.getD_eq_getD_getElem?]),Result.andThen_ok,Sem.run_pure];congr 1;match rs with
 | []=>rfl
 | [a]=>rfl
 | a::b::l=>simp[yT]
def ar (P:Program)(f:FuncId)(args:List Value)(w:World)(R:VK):Prop :=
 (callFunc f args.toArray).run P w=.ok (.enter f args.toArray) w/\Calls P f args.toArray w λe w'=>∃v,e=.returned v/\R v w'
theorem ar.mono {f:FuncId}{args:List Value}{R R':VK}(h:ar P f args w R)(k:∀v w',R v w'->R' v w'):ar P f args w R' :=
 ⟨h.1,h.2.mono λ_ _ ⟨v,he,hr⟩=>⟨v,he,k _ _ hr⟩⟩
theorem aA {f:FuncId}{args:List Value}{R:VK}{p}(h:ar P f args w R)(k:∀v w',R v w'->K v w'):aa P f args t w K Q p:=by
 unfold aa;rw[h.1];exact h.2.mono λe w' ⟨v,he,hr⟩=>by subst he;exact k _ _ hr
theorem bg {f:FuncId}{fn:Func}{args:Array Value}(hf:P.funcs[f]?=some fn)(hb:fn.body.isNone=false)(hn:(fn.name == "runtime.NumGoroutine")=false):(callFunc f args).run P w=.ok (.enter f args) w:=by
 unfold callFunc;simp only[Sem.run_bind,program,Sem.run,Result.andThen_ok,hf,hn,hb,Bool.false_eq_true,if_false,Sem.run_pure]
def wY (args:List Value)(n:Nat):Fr:=args++List.replicate (n-args.length) undef
theorem VV:wY [] 0=[]:=(rfl)
theorem Zj (n:Nat):wY [] (n+1)=undef::wY [] n:=by simp[wY,List.replicate_succ]
theorem VU (a:Value)(l:List Value)(n:Nat):wY (a::l) (n+1)=a::wY l n:=by simp[wY]
attribute [push_cast] VV Zj VU
theorem aE {f:FuncId}{fn:Func}{c:Code}{args:List Value}{R:VK}(hf:P.funcs[f]?=some fn)(hb:fn.body=some c)(hn:(fn.name == "runtime.NumGoroutine")=false)
  (rs:List Tmp) (jU:fn.results=(rs.map ResultVar.tmp).toArray) (h:vc P c (DC rs R .mk) (wY args fn.ntmps) w .mk):ar P f args w R:=by
 refine⟨bg hf (by simp[hb]) hn,calls_of_wp hf hb ?_⟩;have h1:=sL c _ _ w h;unfold cg at h1;have e:(args.toArray++Array.replicate (fn.ntmps-args.toArray.size) undef)=(wY args fn.ntmps).toArray:=by simp[wY]
 rw[e];refine Code.wp_mono ?_ h1;rintro e a w' ⟨hd,hh⟩;have ha:a.tmps.toList.toArray=a.tmps:=by simp
 cases e<;>simp only[DC]at hh<;>first|exact hh.elim|skip
 ·exact⟨hd,_,by rw[<-ha];exact xY fn rs jU _,_,rfl,hh⟩
 exact⟨hd,_,by rw[<-ha];exact xY fn rs jU _,_,rfl,hh⟩
def at_ (t:Fr):Nat->Value:=λm=>t.getD m undef
def ov (t:Fr)(M:List Nat)(z:Nat->Value):Fr:=M.foldl (λt m=>t.set m (z m)) t
theorem aHk (t:Fr)(m:Nat):at_ t m=t.getD m undef:=(rfl)
theorem aFW (t:Fr)(z):ov t [] z=t:=(rfl)
theorem aBH (t:Fr)(m M z):ov t (m::M) z=ov (t.set m (z m)) M z:=(rfl)
theorem aDp (M:List Nat):∀t:Fr,ov t M (at_ t)=t:=by
 have:∀(M:List Nat) (t u:Fr),t=u->M.foldl (λt m=>t.set m (at_ u m)) t=u:=by
  intro M;induction M with
  | nil=>intro t u h;exact h
  | cons m M ih =>
   intro t u h;subst h;simp only[List.foldl_cons];refine ih _ _ ?_;unfold at_;by_cases hm:m<t.length
   ·exact jv t m hm
   rw[List.set_eq_of_length_le (by omega)]
 exact λt=>this M t t rfl
theorem aK {c:Code}{p}(M:List Nat)(I:(Nat->Value)->World->Prop)(μ:(Nat->Value)->World->Nat)(h0:I (at_ t) w)
  (hr:∀z w',I z w'->vc P c (tI (λt'' bE=>t''=ov t M (at_ t'')/\I (at_ t'') bE/\μ (at_ t'') bE<μ z w') Q .mk) (ov t M z) w' .mk):cg P (.loop c) Q t w p:=by
 unfold cg;refine wp_loop (λa w'=>a.defers=[]/\a.tmps.toList=ov t M (at_ a.tmps.toList)/\I (at_ a.tmps.toList) w') (λa w'=>μ (at_ a.tmps.toList) w') ⟨rfl,by simp[aDp],by simpa using h0⟩ ?_;rintro a w' ⟨hd,ht,hI⟩;have h1:=sL c _ _ w' (hr _ w' hI);unfold cg at h1;rw[<-ht]at h1;rw[Kq hd];refine Code.wp_mono ?_ h1;rintro e a' bE ⟨hd',hh⟩;cases e<;>simp only[tI]at hh<;>simp only[Exit.then]<;>first|exact⟨hd',hh⟩|skip
 exact⟨⟨hd',hh.1,hh.2.1⟩,by simpa using hh.2.2⟩
end
attribute [push_cast] Zg VQ aD2 VO QJ Zf Xq Xm Vb V6 YQ YP aCo Sz aCk aGz aCj Yd aCl aGy Ye aCm aCn Yf HC Jl YN S5 S6 BL CQ Ky H0 th wS Eg Sx KT KS Jq Jp X0 QP IL aHN aHK aHM aHL VZ Uj Ui PO PQ VY VW Xd Xb XY MV XZ aBC aFT JZ JY Rv G5 XV aBE aBF aBG XX Rz Cs Rt Cv Ry Ru aBD Rr Rs Ak Cx J0 MX Cy MW Al Rw Rx MU XW QN Ku PA Kv Kw Kt Tu UJ UD UF UG Tx ZI UK HZ Ty UE UC UB UA Tz UH UI Ea Eb Ec zC zD yz zB EZ E0 zE zG CL CM EX EY vP CN aDZ aDY aBy aBx aD0 aD1 aBz aBA eq_6 aJ5 LQ Ho PF aHA aHB aHC aHD aHE aHF aFL aFM aFN aFO aFP aFQ aFU aFV Z9 Za Co It aCg aCf zZ My Mx SA Wt MG PR PT MA aBj aBk map_nil map_cons ZF aBB Uk Rq Rp isSome_some Hc zU LC H8 CS LF zL Ek LD H9 zK Ej xq LB Jt Jr Js H5 LA H6 Ef aBL aBK Mi Jo RR MH xv SD M0 vw AP DI DH Mj add_lit We Wf aB0 aBZ Ya Xz Jd SL Gi SM Gj SN Gk
attribute [push_cast] aHk aFW aBH List.length_cons List.length_nil Bool.true_and Bool.and_true Int.toNat_natCast if_true ite_true Int.le_refl true_and and_true and_self implies_true Int.toNat_zero Nat.zero_add
end Go.Vc
end
section
namespace Go.Vc
open Go.RowKit
def chain (P:Program)(o:Oper):Bool:=match o.op with
 | .convert _ d _=>!((P.underlying d) matches some (.int _))
 | .move _|.assign _|.pick ..|.binOp ..|.unOp ..|.extract ..|.index ..|.build ..|.makeFunc ..|.fieldAddr ..|.field ..|.indexAddr ..|.slice ..|.makeInterface ..|.load ..=>false
 | .call { callee:=.builtin .len,.. }|.call { callee:=.builtin .max,.. }|.call { callee:=.builtin .min,.. }=>false
 | .nilCheck _=>false
 | _=>true
section
variable {P:Program} {ops:Array Oper} {md:Region.Mode} {C:World->Prop}
def rk (P:Program)(a:Act)(dst:Option Tmp)(C:World->Prop)(K:Act->World->Prop):Result Next->Prop
 | .ok (.value v) w'=>C w'/\K (a.put dst v) w'
 | .ok .skip w'=>C w'/\K (a.put dst undef) w'
 | .ok (.enter f args) w'=>Calls P f args w' λe bE=>∃v,e=.returned v/\C bE/\K (a.put dst v) bE
 | _=>False
theorem Ds {a:Act}{dst:Option Tmp}{K:Act->World->Prop}{r:Result Next}(h:rk P a dst C K r):∃v w',C w'/\K (a.put dst v) w':=by
 cases r with
 | halt x w'=>simp only[rk]at h
 | ok n w' =>
  cases n<;>simp only[rk]at h
  case value v=>exact⟨_,_,h⟩
  case skip=>exact⟨_,_,h⟩
  case enter f args =>
   obtain⟨e,bE,_,⟨v,_,hc,hk⟩,_⟩:=h [];exact⟨v,bE,hc,hk⟩
theorem ji {a b:Act}{dst:Option Tmp}{K K':Act->World->Prop}{r:Result Next}(hk:∀v w',C w'->K (a.put dst v) w'->K' (b.put dst v) w')(h:rk P a dst C K r):rk P b dst C K' r:=by
 cases r with
 | halt x w'=>simp only[rk]at h
 | ok n w' =>
  cases n<;>simp only[rk]at h ⊢
  case value v=>exact⟨h.1,hk _ _ h.1 h.2⟩
  case skip=>exact⟨h.1,hk _ _ h.1 h.2⟩
  case enter f args=>exact h.mono λe bE ⟨v,he,hc,hh⟩=>⟨v,he,hc,hk _ _ hc hh⟩
theorem lZ {o:Oper}{a:Act}{K:Act->World->Prop}{Q:Exit->Act->World->Prop}{r:Result Next}(h:rk P a o.dst C K r):o.upon P a (λa' w'=>C w'/\K a' w') Q r:=by
 cases r with
 | halt x w'=>simp only[rk]at h
 | ok n w' =>
  cases n<;>simp only[rk]at h<;>simp only[Oper.upon]
  case value v=>exact h
  case skip=>exact h
  case enter f args=>exact h.mono λe bE ⟨v,he,hh⟩=>by subst he;exact hh
def bA (P:Program)(ops:Array Oper)(C:World->Prop)(i:Nat)(K:Act->World->Prop)(a:Act)(w:World):Prop :=
 match ops[i]? with
 | none=>K a w
 | some o =>
  if Region.wanted o (yielded ops a.tmps) then
   if chain P o then rk P a o.dst C K ((execOp a.eval o).run P w)
   else ∃v,(∀w',C w'->(execOp a.eval o).run P w'=.ok (.value v) w')/\K (a.put o.dst v) w
  else K (a.put o.dst undef) w
theorem bl {i:Nat}{K K':Act->World->Prop}{a:Act}{w:World}(hC:C w)(hk:∀a w,C w->K a w->K' a w)(h:bA P ops C i K a w):bA P ops C i K' a w:=by
 unfold bA at *
 split
 ·rename_i ho;simp only[ho]at h;exact hk _ _ hC h
 rename_i o ho;simp only[ho]at h;split
 ·rename_i hw;simp only[hw,if_true]at h;split
  ·rename_i hc;simp only[hc,if_true]at h;exact ji (λv w' tU hh=>hk _ _ tU hh) h
  rename_i hc;simp only[hc]at h;obtain⟨v,h1,h2⟩:=h;exact⟨v,h1,hk _ _ hC h2⟩
 rename_i hw;simp only[hw]at h;exact hk _ _ hC h
theorem pC {i:Nat}{K:Act->World->Prop}{a:Act}{w:World}(hC:C w)(h:bA P ops C i K a w):∃a' w',C w'/\K a' w':=by
 unfold bA at h;split at h
 ·exact⟨_,_,hC,h⟩
 split at h
 ·split at h
  ·obtain⟨v,w',hh⟩:=Ds h;exact⟨_,_,hh⟩
  obtain⟨v,_,hh⟩:=h;exact⟨_,_,hC,hh⟩
 exact⟨_,_,hC,h⟩
theorem cX {i:Nat}{o:Oper}{K:Act->World->Prop}{a:Act}{w:World}(hi:ops[i]?=some o)(hw:Region.wanted o (yielded ops a.tmps)=false):bA P ops C i K a w=K (a.put o.dst undef) w:=by
 unfold bA;simp[hi,hw]
theorem eC {i:Nat}{o:Oper}{K:Act->World->Prop}{a:Act}{w:World}(hi:ops[i]?=some o)(hw:Region.wanted o (yielded ops a.tmps)=true)(hc:chain P o=true):bA P ops C i K a w=rk P a o.dst C K ((execOp a.eval o).run P w):=by
 unfold bA;simp[hi,hw,hc]
theorem bK {i:Nat}{o:Oper}{K:Act->World->Prop}{a:Act}{w:World}(hi:ops[i]?=some o)(hw:Region.wanted o (yielded ops a.tmps)=true)(hc:chain P o=false):bA P ops C i K a w=∃v,(∀w',C w'->(execOp a.eval o).run P w'=.ok (.value v) w')/\K (a.put o.dst v) w:=by
 unfold bA;simp[hi,hw,hc]
theorem mP {i j:Nat}{oi oj:Oper}{K:Act->World->Prop}{a:Act}{w:World}(hi:ops[i]?=some oi)(hj:ops[j]?=some oj)(sZ:oi.apart ops oj=true)(TJ:(chain P oi && chain P oj)=false)
  (hsi:∀cs b,oi.op≠.select cs b) (hsj:∀cs b,oj.op≠.select cs b) (h:bA P ops C i (bA P ops C j K) a w):bA P ops C j (bA P ops C i K) a w:=by
 obtain⟨h1,h2,h3⟩:=Oper.apart_spec sZ;have ej:∀(b:Act) (v:Value),execOp (b.put oi.dst v).eval oj=execOp b.eval oj:=λb v=>execOp_put oj hsj b oi.dst v h1;have ei:∀(b:Act) (v:Value),execOp (b.put oj.dst v).eval oi=execOp b.eval oi:=λb v=>execOp_put oi hsi b oj.dst v h3;have wj:∀(b:Act) (v:Value),Region.wanted oj (yielded ops (b.put oi.dst v).tmps)=Region.wanted oj (yielded ops b.tmps):=λb v=>wanted_put oj b oi.dst v h1;have wi:∀(b:Act) (v:Value),Region.wanted oi (yielded ops (b.put oj.dst v).tmps)=Region.wanted oi (yielded ops b.tmps):=λb v=>wanted_put oi b oj.dst v h3;have cm:∀(b:Act) (v u:Value),(b.put oi.dst v).put oj.dst u=(b.put oj.dst u).put oi.dst v:=λb v u=>Act.put_comm b v u h2;cases gS:Region.wanted oi (yielded ops a.tmps) with
 | false =>
  rw[cX hi gS]at h;cases fc:Region.wanted oj (yielded ops a.tmps) with
  | false =>
   rw[cX hj (by rw[wj];exact fc)]at h;rw[cX hj fc,cX hi (by rw[wi];exact gS),<-cm];exact h
  | true =>
   cases qL:chain P oj with
   | true =>
    rw[eC hj (by rw[wj];exact fc) qL,ej]at h;rw[eC hj fc qL];refine ji (λv w' _ hh=>?_) h;rw[cX hi (by rw[wi];exact gS),<-cm];exact hh
   | false =>
    rw[bK hj (by rw[wj];exact fc) qL,ej]at h;rw[bK hj fc qL];obtain⟨v,hv,hk⟩:=h;refine⟨v,hv,?_⟩;rw[cX hi (by rw[wi];exact gS),<-cm];exact hk
 | true =>
  cases CZ:chain P oi with
  | true =>
   have qL:chain P oj=false:=by simpa[CZ] using TJ
   rw[eC hi gS CZ]at h;cases fc:Region.wanted oj (yielded ops a.tmps) with
   | false =>
    rw[cX hj fc,eC hi (by rw[wi];exact gS) CZ,ei];refine ji (λv w' _ hh=>?_) h;rw[cX hj (by rw[wj];exact fc)]at hh;rw[<-cm];exact hh
   | true =>
    obtain⟨v,w',tU,hh⟩:=Ds h;rw[bK hj (by rw[wj];exact fc) qL,ej]at hh;obtain⟨u,hu,hk⟩:=hh;rw[bK hj fc qL];refine⟨u,hu,?_⟩;rw[eC hi (by rw[wi];exact gS) CZ,ei];refine ji (λv' bE aJJ hh=>?_) h;rw[bK hj (by rw[wj];exact fc) qL,ej]at hh;obtain⟨u',Nu,CB⟩:=hh;have e:=(hu bE aJJ).symm.trans (Nu bE aJJ);injection e with e1 _;injection e1 with e2;subst e2;rw[<-cm];exact CB
  | false =>
   rw[bK hi gS CZ]at h;obtain⟨v,hv,hk⟩:=h;cases fc:Region.wanted oj (yielded ops a.tmps) with
   | false =>
    rw[cX hj (by rw[wj];exact fc)]at hk;rw[cX hj fc,bK hi (by rw[wi];exact gS) CZ,ei];exact⟨v,hv,by rw[<-cm];exact hk⟩
   | true =>
    cases qL:chain P oj with
    | true =>
     rw[eC hj (by rw[wj];exact fc) qL,ej]at hk;rw[eC hj fc qL];refine ji (λu w' _ hh=>?_) hk;rw[bK hi (by rw[wi];exact gS) CZ,ei];exact⟨v,hv,by rw[<-cm];exact hh⟩
    | false =>
     rw[bK hj (by rw[wj];exact fc) qL,ej]at hk;rw[bK hj fc qL];obtain⟨u,hu,hk⟩:=hk;refine⟨u,hu,?_⟩;rw[bK hi (by rw[wi];exact gS) CZ,ei];exact⟨v,hv,by rw[<-cm];exact hk⟩
def xd (P:Program)(md:Region.Mode)(ops:Array Oper)(C:World->Prop)(R:Act->World->Prop):Nat->Array Bool->Act->World->Prop
 | 0,listed,a,w=>Region.ready md ops listed=[]/\R a w
 | fuel+1,listed,a,w=>(Region.ready md ops listed=[]->R a w)/\∀i∈Region.ready md ops listed,bA P ops C i (xd P md ops C R fuel (listed.setIfInBounds i true)) a w
theorem fP {R:Act->World->Prop}{Q:Exit->Act->World->Prop}(hq:∀a w,R a w->Q .normal a w):∀(fuel:Nat) (listed:Array Bool) (a:Act) (w:World),C w ->
  xd P md ops C R fuel listed a w->wpAny P md ops Q fuel listed a w
 | 0,_,_,_,_,h=>⟨h.1,hq _ _ h.2⟩
 | fuel+1,listed,a,w,hC,h=>⟨λh0=>hq _ _ (h.1 h0),λi hi=>by
   have h1:=h.2 i hi;unfold bA at h1;unfold wpOp;split
   ·rename_i ho;simp only[ho]at h1;exact fP hq fuel _ _ _ hC h1
   rename_i o ho;simp only[ho]at h1;split
   ·rename_i hw;simp only[hw,if_true]at h1;refine .inl ?_;split at h1
    ·exact Oper.wp_mono (λa' w' hh=>fP hq fuel _ _ _ hh.1 hh.2) (lZ h1)
    obtain⟨v,hv,hk⟩:=h1;unfold Oper.wp;rw[hv w hC];exact fP hq fuel _ _ _ hC hk
   rename_i hw;simp only[hw]at h1;exact fP hq fuel _ _ _ hC h1⟩
theorem wR (ops:List Oper)(acc:Array Nat):∃l:List Nat,(ops.foldl (init:=acc) λacc o=>acc.push (o.after.foldl (λs e=>if Region.binds .any e then s ||| 2 ^ e.on ||| acc.getD e.on 0 else s) 0))=acc++l.toArray/\l.length=ops.length:=by
 induction ops generalizing acc with
 | nil=>exact⟨[],by simp⟩
 | cons o r ih =>
  simp only[List.foldl_cons];obtain⟨l,h1,h2⟩:=ih (acc.push (o.after.foldl (λs e=>if Region.binds .any e then s ||| 2 ^ e.on ||| acc.getD e.on 0 else s) 0))
  exact⟨_::l,by rw[h1];apply Array.ext';simp;rfl,by simp[h2]⟩
theorem DP (b:Nat->Nat)(i:Nat):∀(es:List Edge) (s:Nat),(es.foldl (λs e=>if Region.binds .any e then s ||| 2 ^ e.on ||| b e.on else s) s).testBit i=true ->
  s.testBit i=true\/∃e∈es,Region.binds .any e=true/\(e.on=i\/(b e.on).testBit i=true)
 | [],s,h=>.inl h
 | e::es,s,h=>by
  simp only[List.foldl_cons]at h;rcases DP b i es _ h with h|⟨e',Nd,hh⟩
  ·split at h
   ·rename_i hb;simp only[Nat.testBit_or,Bool.or_eq_true]at h;rcases h with (h|h)|h
    ·exact .inl h
    ·refine .inr ⟨e,by simp,hb,.inl ?_⟩;rw[Nat.testBit_two_pow]at h;simpa using h
    exact .inr ⟨e,by simp,hb,.inr h⟩
   exact .inl h
  exact .inr ⟨e',by simp[Nd],hh⟩
theorem HY {j i:Nat}{o:Oper}(hj:ops[j]?=some o)(h:((Region.before ops).getD j 0).testBit i=true) :
  ∃e∈o.after,Region.binds .any e=true/\(e.on=i\/(e.on<j/\((Region.before ops).getD e.on 0).testBit i=true)):=by
 have aj:j<ops.size:=(Array.getElem?_eq_some_iff.1 hj).1;have split:ops.toList=ops.toList.take j++o::ops.toList.drop (j+1):=by
  have hj':ops.toList[j]?=some o:=by rw[Array.getElem?_toList];exact hj
  have qO:j<ops.toList.length:=by simpa using aj
  have:ops.toList[j]=o:=by rw[List.getElem?_eq_getElem qO]at hj';simpa using hj'
  rw[<-this,<-List.drop_eq_getElem_cons qO,List.take_append_drop]
 obtain⟨l1,e1,n1⟩:=wR (ops.toList.take j) #[];have hn1:l1.length=j:=by rw[n1,List.length_take];simp;omega
 have e1':=e1.trans (show (#[]:Array Nat)++l1.toArray=l1.toArray by simp)
 obtain⟨l2,e2,_⟩:=wR (ops.toList.drop (j+1)) (l1.toArray.push (o.after.foldl (λs e=>if Region.binds .any e then s ||| 2 ^ e.on ||| l1.toArray.getD e.on 0 else s) 0))
 have hb:Region.before ops=l1.toArray.push (o.after.foldl (λs e=>if Region.binds .any e then s ||| 2 ^ e.on ||| l1.toArray.getD e.on 0 else s) 0)++l2.toArray:=by
  unfold Region.before;rw[<-Array.foldl_toList,split,List.foldl_append,List.foldl_cons,e1',e2]
 have yE:∀m,m<j->(Region.before ops).getD m 0=l1.toArray.getD m 0:=by
  intro m hm;rw[hb];simp only[Array.getD_eq_getD_getElem?];congr 1;rw[Array.getElem?_append_left (by simp;omega),Array.getElem?_push_lt (by simp;omega)];simp[hn1,hm]
 have aJC:(Region.before ops).getD j 0=o.after.foldl (λs e=>if Region.binds .any e then s ||| 2 ^ e.on ||| l1.toArray.getD e.on 0 else s) 0:=by
  rw[hb];simp only[Array.getD_eq_getD_getElem?];rw[Array.getElem?_append_left (by simp;omega)];have:j=l1.toArray.size:=by simp[hn1]
  rw[this];simp
 rw[aJC,<-Array.foldl_toList]at h;rcases DP (λm=>l1.toArray.getD m 0) i o.after.toList 0 h with h|⟨e,he,pd,hh⟩
 ·simp at h
 refine⟨e,by simpa using he,pd,?_⟩;rcases hh with hh|hh
 ·exact .inl hh
 by_cases hm:e.on<j
 ·exact .inr ⟨hm,by rw[yE _ hm];exact hh⟩
 have:l1.toArray.getD e.on 0=0:=by simp[Array.getD_eq_getD_getElem?,List.getElem?_eq_none (show l1.length<=e.on by omega)]
 rw[this]at hh;simp at hh
def pZ (ops:Array Oper)(listed:Array Bool):Prop:=∀(j:Nat) (o:Oper),ops[j]?=some o->listed.getD j false=true->∀e∈o.after,Region.binds .any e=true->listed.getD e.on false=true
theorem pZ.set {listed:Array Bool}{i:Nat}(h:pZ ops listed)(hi:i∈Region.ready .any ops listed):pZ ops (listed.setIfInBounds i true):=by
 intro j o hj hl e he hb;obtain⟨_,o',ho',dA⟩:=mem_ready.1 hi;by_cases hij:i=j
 ·subst hij;rw[hj]at ho';cases ho';exact getD_set_true (dA e he hb)
 rw[getD_set_ne false hij]at hl;exact getD_set_true (h j o hj hl e he hb)
theorem pZ.before {listed:Array Bool}(h:pZ ops listed):∀(j i:Nat) (o:Oper),ops[j]?=some o->(∀e∈o.after,Region.binds .any e=true->listed.getD e.on false=true) ->
  ((Region.before ops).getD j 0).testBit i=true->listed.getD i false=true:=by
 intro j;induction j using Nat.strongRecOn with
 | _ j ih =>
  intro i o hj dA hb;obtain⟨e,he,pd,hh⟩:=HY hj hb;have hl:=dA e he pd;rcases hh with hh|⟨aj,hh⟩
  ·rw[hh]at hl;exact hl
  have D4:e.on<ops.size:=by
   have:=(Array.getElem?_eq_some_iff.1 hj).1;omega
  exact ih e.on aj i ops[e.on] (by simp[D4]) (λe' Nd Bx=>h e.on ops[e.on] (by simp[D4]) hl e' Nd Bx) hh
theorem xg {R:Act->World->Prop}{i:Nat}{oi:Oper}(hi:ops[i]?=some oi)(og:∀(j:Nat) (o:Oper) cs b,ops[j]?=some o->o.op≠.select cs b) :
  ∀(fuel:Nat) (listed:Array Bool) (a:Act) (w:World),C w->pZ ops listed ->
   (∀j oj,ops[j]?=some oj->j≠i->listed.getD j true=false->((Region.before ops).getD j 0).testBit i=false->oi.apart ops oj=true/\(chain P oi && chain P oj)=false) ->
   i∈Region.ready .any ops listed->bA P ops C i (xd P .any ops C R fuel (listed.setIfInBounds i true)) a w->xd P .any ops C R (fuel+1) listed a w:=by
 intro fuel;induction fuel with
 | zero =>
  intro listed a w hC _ _ hr H;refine⟨λh=>(by rw[h]at hr;cases hr),λj hj=>?_⟩;by_cases nD:j=i
  ·subst nD;exact H
  have:=ready_mono hj nD;obtain⟨_,_,_,hh⟩:=pC hC H;rw[hh.1]at this;cases this
 | succ fuel ih =>
  intro listed a w hC hS lA hr H;refine⟨λh=>(by rw[h]at hr;cases hr),λj hj=>?_⟩;by_cases nD:j=i
  ·subst nD;exact H
  have h1:bA P ops C i (bA P ops C j (xd P .any ops C R fuel ((listed.setIfInBounds i true).setIfInBounds j true))) a w :=
   bl hC (λa' w' _ hh=>hh.2 j (ready_mono hj nD)) H
  obtain⟨uL,oj,qQ,dA⟩:=mem_ready.1 hj;have GC:listed.getD i false=false:=by
   have h0:=(mem_ready.1 hr).1;rcases Nat.lt_or_ge i listed.size with h'|h'
   ·simp[h']at h0 ⊢;exact h0
   simp[Array.getElem?_eq_none h']
  have AH:((Region.before ops).getD j 0).testBit i=false:=by
   cases hb:((Region.before ops).getD j 0).testBit i with
   | false=>rfl
   | true=>have:=hS.before j i oj qQ dA hb;rw[GC]at this;cases this
  obtain⟨sZ,TJ⟩:=lA j oj qQ nD uL AH;have h2:=mP hi qQ sZ TJ (λcs b=>og i oi cs b hi) (λcs b=>og j oj cs b qQ) h1;refine bl hC (λa' w' sX h3=>ih (listed.setIfInBounds j true) a' w' sX (hS.set hj) ?_ (ready_mono hr (Ne.symm nD)) ?_) h2
  ·intro k ok hk Ib AM gG;refine lA k ok hk Ib ?_ gG;by_cases Ll:j=k
   ·subst Ll;exact uL
   rw[getD_set_ne true Ll]at AM;exact AM
  rw[Array.setIfInBounds_comm _ _ nD];exact h3
def lT (P:Program)(ops:Array Oper)(bf:Array Nat)(listed:Array Bool)(i:Nat):Bool :=
 match ops[i]? with
 | none=>false
 | some oi=>(List.range ops.size).all λj=>j == i || listed.getD j true || match ops[j]? with
   | some oj=>(bf.getD j 0).testBit i || (oi.apart ops oj && !(chain P oi && chain P oj))
   | none=>true
theorem fL {i:Nat}{oi:Oper}{listed:Array Bool}(hi:ops[i]?=some oi)(h:lT P ops (Region.before ops) listed i=true)(j:Nat)(oj:Oper)
  (hj:ops[j]?=some oj) (cW:j≠i) (AM:listed.getD j true=false) (gG:((Region.before ops).getD j 0).testBit i=false) :
  oi.apart ops oj=true/\(chain P oi && chain P oj)=false:=by
 simp only[lT,hi,List.all_eq_true,List.mem_range]at h;have h1:=h j (Array.getElem?_eq_some_iff.1 hj).1;simp only[hj,Bool.or_eq_true,beq_iff_eq,cW,false_or,AM,Bool.false_eq_true,gG]at h1;simp only[Bool.and_eq_true,Bool.not_eq_true']at h1;exact h1
def uf (P:Program)(ops:Array Oper)(bf:Array Nat):Nat->Nat->Array Bool->Bool
 | 0,_,listed=>(Region.ready .any ops listed).isEmpty
 | fuel+1,k,listed=>(Region.ready .any ops listed).contains k && lT P ops bf listed k && uf P ops bf fuel (k+1) (listed.setIfInBounds k true)
def aBh (P:Program)(ops:Array Oper):Bool:=Region.noSelect ops && uf P ops (Region.before ops) ops.size 0 (Array.replicate ops.size false)
def Bi (P:Program)(ops:Array Oper)(C:World->Prop)(R:Act->World->Prop):List Nat->Act->World->Prop
 | [],a,w=>R a w
 | i::r,a,w=>bA P ops C i (Bi P ops C R r) a w
theorem wN {R:Act->World->Prop}(hs:Region.noSelect ops=true):∀(n k:Nat) (listed:Array Bool) (a:Act) (w:World),k+n=ops.size->C w->pZ ops listed ->
  uf P ops (Region.before ops) n k listed=true->Bi P ops C R (List.range' k n) a w->xd P .any ops C R n listed a w
 | 0,_,_,_,_,_,_,_,hB,h=>⟨by simpa[uf] using hB,h⟩
 | n+1,k,listed,a,w,hk,hC,hS,hB,h=>by
  simp only[uf,Bool.and_eq_true]at hB;obtain⟨⟨hr,hf⟩,oS⟩:=hB;have aj:k<ops.size:=by omega
  have jK:k∈Region.ready .any ops listed:=by simpa using hr
  refine xg (i:=k) (oi:=ops[k]) (by simp[aj]) (Region.noSelect_spec hs) n listed a w hC hS (fL (by simp[aj]) hf) jK ?_;simp only[List.range'_succ,Bi]at h;exact bl hC (λa' w' sX hh=>wN hs n (k+1) _ a' w' (by omega) sX (hS.set jK) oS hh) h
end
section
variable {P:Program}
def JU:EP:=λ_ _ _=>False
def JT (x:Value)(K:VP)(other:Prop)(_:Ph (K,other)):Prop:=match x with|.pointer (some _)=>K x|_=>other
def dm (P:Program)(o:Oper)(t:Fr)(w:World)(C:World->Prop)(K:VK)(_:Ph (o,C,K)):Prop :=
 match o.op with
 | .load ty a=>mO (jw P ty) (ev t a) w (λv w'=>(∀bE,C bE->mO (jw P ty) (ev t a) bE (λu _=>u=v) .mk)/\K v w') .mk
 | .nilCheck x=>JT (ev t x) (K · w) False .mk
 | _=>if chain P o then br P o t w (λv w'=>C w'/\K v w') JU .mk else a7 P o t (K · w) False .mk
def mW (P:Program)(ops:List Oper)(C:World->Prop)(R:Fr->World->Prop):(l:List Oper)->Fr->World->Ph (ops,C,R,l)->Prop
 | [],t,w,_=>R t w
 | o::r,t,w,_=>match o.guard with
  | none=>dm P o t w C (λv w'=>mW P ops C R r (put t o.dst v) w' .mk) .mk
  | some (j,want)=>iE (iy ops j) want t (λt'=>dm P o t' w C (λv w'=>mW P ops C R r (put t' o.dst v) w' .mk) .mk) (λt'=>mW P ops C R r (put t' o.dst undef) w .mk) .mk
theorem Gh {t:Fr}{dst:Option Tmp}{C:World->Prop}{K:VK}{N:Act->World->Prop}(hn:∀v w',K v w'->N ⟨(put t dst v).toArray,[]⟩ w'){r:Result Next}(h:rl P t (λv w'=>C w'/\K v w') JU r):rk P ⟨t.toArray,[]⟩ dst C N r:=by
 cases r with
 | halt x w'=>cases x<;>simp only[rl,JU]at h
 | ok n w' =>
  cases n<;>simp only[rl]at h<;>simp only[rk]
  case value v=>exact⟨h.1,by rw[put_eq];exact hn _ _ h.2⟩
  case skip=>exact⟨h.1,by rw[put_eq];exact hn _ _ h.2⟩
  case enter f args =>
   refine h.mono λe bE he=>?_;cases e with
   | returned v=>exact⟨v,rfl,he.1,by rw[put_eq];exact hn _ _ he.2⟩
   | panicked c=>exact he.elim
   | outgrown=>exact he.elim
theorem oB {o:Oper}{ty:TypeId}{x:Operand}{t:Fr}{w:World}{K:VK}(ho:o.op=.load ty x)(h:mO (jw P ty) (ev t x) w K .mk):∃v,(execOp (ev t) o).run P w=.ok (.value v) w/\K v w:=by
 unfold mO at h;split at h
 ·rename_i a ht hx;obtain⟨v,hc,hk⟩:=jD h;refine⟨v,?_,hk⟩;unfold execOp;simp[ho,hx,Instr.loadAt,Instr.sureAddr,loadVar,(nN ht w).1,load,Sem.run,hc]
 ·rename_i n a ht hx;obtain⟨v,hc,hk⟩:=jD h;refine⟨_,?_,hk⟩;unfold execOp;simp[ho,hx,Instr.loadAt,Instr.sureAddr,loadVar,(iY ht w).1,(iY ht w).2,loadCells,run_loadCellsFrom (P:=P) w a n 0 #[] v hc]
 exact h.elim
theorem fV {ops:List Oper}{i:Nat}{o:Oper}{C:World->Prop}{t:Fr}{w:World}{K:VK}{N:Act->World->Prop}(hi:ops[i]?=some o)(hw:Region.wanted o (yielded ops.toArray t.toArray)=true)
  (hn:∀v w',K v w'->N ⟨(put t o.dst v).toArray,[]⟩ w') (h:dm P o t w C K .mk):bA P ops.toArray C i N ⟨t.toArray,[]⟩ w:=by
 unfold bA;simp only[List.getElem?_toArray,hi,hw,if_true,nB];unfold dm at h;split at h
 ·rename_i ty x ho;have hc:chain P o=false:=by simp[chain,ho]
  simp only[hc,Bool.false_eq_true,if_false];obtain⟨v,hr,dA,hk⟩:=oB ho h;refine⟨v,λw' tU=>?_,by rw[put_eq];exact hn _ _ hk⟩;obtain⟨u,hu,hv⟩:=oB ho (dA w' tU);rw[hu,hv]
 ·rename_i x ho;have hc:chain P o=false:=by simp[chain,ho]
  simp only[hc,Bool.false_eq_true,if_false];unfold JT at h;split at h
  ·rename_i a hx;refine⟨_,λw' _=>?_,by rw[put_eq];exact hn _ _ h⟩;unfold execOp;simp only[ho,hx];rfl
  exact h.elim
 split at h
 ·rename_i hc;simp only[hc,if_true];exact Gh hn (G7 h)
 rename_i hc;simp only[hc];rcases qn h with h|⟨v,hg,hk⟩
 ·exact h.elim
 exact⟨v,λw' _=>hg w',by rw[put_eq];exact hn _ _ hk⟩
theorem sw {ops:List Oper}{i:Nat}{o:Oper}{C:World->Prop}{t:Fr}{w:World}{N:Act->World->Prop}(hi:ops[i]?=some o)(hw:Region.wanted o (yielded ops.toArray t.toArray)=false)
  (h:N ⟨(put t o.dst undef).toArray,[]⟩ w):bA P ops.toArray C i N ⟨t.toArray,[]⟩ w:=by
 unfold bA;simp only[List.getElem?_toArray,hi,hw,Bool.false_eq_true,if_false];rw[put_eq];exact h
theorem kB {ops:List Oper}{o:Oper}{j:Nat}{want:Bool}(hg:o.guard=some (j,want)){t:Fr}{yes no:Fr->Prop}(h:iE (iy ops j) want t yes no .mk) :
  (Region.wanted o (yielded ops.toArray t.toArray)=true/\yes t)\/(Region.wanted o (yielded ops.toArray t.toArray)=false/\no t):=by
 have nE:Region.wanted o (yielded ops.toArray t.toArray)=(yielded ops.toArray t.toArray j == some want):=by simp only[Region.wanted,hg]
 unfold iE at h;split at h
 ·rename_i hs;exact .inr ⟨by rw[nE,gF,hs];rfl,h⟩
 rename_i s hs;split at h
 ·rename_i b hb;have aj:s<t.length:=by
   rcases Nat.lt_or_ge s t.length with h'|h'
   ·exact h'
   simp[List.getD_eq_getElem?_getD,List.getElem?_eq_none h',undef]at hb
  have hv:t[s]?=some (.bool b):=by
   rw[List.getD_eq_getElem?_getD]at hb;rw[List.getElem?_eq_getElem aj]at hb ⊢
   simpa using hb
  have hy:yielded ops.toArray t.toArray j=some b:=by rw[gF,hs];simp[hv]
  have same:=jv t s aj;rw[hb]at same;by_cases Yr:b=want
  ·subst Yr;have h1:=h.1 rfl;rw[same]at h1;exact .inl ⟨by rw[nE,hy];simp,h1⟩
  have hbn:b=!want:=by cases b<;>cases want<;>simp_all
  have h2:=h.2 hbn;rw[<-hbn,same]at h2;exact .inr ⟨by rw[nE,hy];simpa using Yr,h2⟩
 rename_i hb;refine .inr ⟨?_,h⟩;rw[nE,gF,hs];simp only[Option.bind_some];cases hv:t[s]? with
 | none=>rfl
 | some v =>
  have:t.getD s undef=v:=by rw[List.getD_eq_getElem?_getD,hv];rfl
  rw[this]at hb;cases v<;>simp at hb ⊢
theorem rB {ops:List Oper}{C:World->Prop}{R:Fr->World->Prop}{N:Act->World->Prop}(hn:∀t w,R t w->N ⟨t.toArray,[]⟩ w):∀(l:List Oper) (k:Nat) (t:Fr) (w:World),(∀j,l[j]?=ops[k+j]?) ->
  mW P ops C R l t w .mk->Bi P ops.toArray C N (List.range' k l.length) ⟨t.toArray,[]⟩ w
 | [],_,_,_,_,h=>hn _ _ h
 | o::r,k,t,w,hl,h=>by
  have h0:ops[k]?=some o:=by simpa using(hl 0).symm
  have ih:=λt w=>rB (C:=C) hn r (k+1) t w (λj=>by have:=hl (j+1);simpa[Nat.add_assoc,Nat.add_comm 1 j] using this);simp only[List.length_cons,List.range'_succ,Bi];simp only[mW]at h;split at h
  ·rename_i hg;exact fV h0 (by simp[Region.wanted,hg]) (λv w' hk=>ih _ _ hk) h
  rename_i j want hg;rcases kB hg h with ⟨hw,hh⟩|⟨hw,hh⟩
  ·exact fV h0 hw (λv w' hk=>ih _ _ hk) hh
  exact sw h0 hw (ih _ _ hh)
theorem ba {id:Nat}{l:List Oper}{t:Fr}{w:World}{Q:EP}{p}(C:World->Prop)(hm:P.follows .mixedOrders=true)(hB:aBh P l.toArray=true)(hC:C w.drew)
  (h:mW P l C (Q .normal) l t w.drew .mk):cg P (.region id l.toArray true) Q t w p:=by
 unfold cg;simp only[aBh,Bool.and_eq_true]at hB;refine wp_region_any hm (fP (C:=C) (R:=λa w=>lift Q .normal a w) (λ_ _ h=>h) _ _ _ _ hC ?_);refine wN hB.1 _ 0 _ _ _ (by simp) hC (λj o _ hl=>by simp[Array.getElem?_replicate]at hl;split at hl<;>simp at hl) hB.2 ?_
 have:=rB (P:=P) (ops:=l) (C:=C) (R:=Q .normal) (N:=λa w=>lift Q .normal a w) (λt w hk=>⟨rfl,by simpa using hk⟩) l 0 t w.drew (λj=>by simp) h;simpa using this
variable {t:Fr} {w:World} {C:World->Prop} {K:VK} {R:Fr->World->Prop}
theorem Sw (ops)(p):mW P ops C R [] t w p=R t w:=(rfl)
theorem KR (ops)(d op ty pos af r)(p):mW P ops C R (⟨d,op,ty,pos,af,none⟩::r) t w p=dm P ⟨d,op,ty,pos,af,none⟩ t w C (λv w'=>mW P ops C R r (put t d v) w' .mk) .mk:=(rfl)
theorem KQ (ops)(d op ty pos af j want r)(p):mW P ops C R (⟨d,op,ty,pos,af,some (j,want)⟩::r) t w p =
  iE (iy ops j) want t (λt'=>dm P ⟨d,op,ty,pos,af,some (j,want)⟩ t' w C (λv w'=>mW P ops C R r (put t' d v) w' .mk) .mk) (λt'=>mW P ops C R r (put t' d undef) w .mk) .mk:=rfl
theorem RZ (d x ty pos af g)(p):dm P ⟨d,.move x,ty,pos,af,g⟩ t w C K p=K (ev t x) w:=(rfl)
theorem JL (d x ty pos af g)(p):dm P ⟨d,.assign x,ty,pos,af,g⟩ t w C K p=K (ev t x) w:=(rfl)
theorem Ra (d c a b ty pos af g)(p):dm P ⟨d,.pick c a b,ty,pos,af,g⟩ t w C K p=Dk (ev t c) (ev t a) (ev t b) (K · w) .mk:=(rfl)
theorem XI (d op xt x y yt ty pos af g)(p):dm P ⟨d,.binOp op xt x y yt,ty,pos,af,g⟩ t w C K p =
  da op (ev t x) (ev t y) (K · w) (cF (cR P xt) (isConst x || isConst y) op (ev t x) (ev t y) (K · w) False .mk) .mk:=rfl
theorem aBi (d op xt x ty pos af g)(p):dm P ⟨d,.unOp op xt x,ty,pos,af,g⟩ t w C K p=unK op (ev t x) (K · w) False .mk:=(rfl)
theorem G1 (d x i ty pos af g)(p):dm P ⟨d,.extract x i,ty,pos,af,g⟩ t w C K p=nr (ev t x) i (K · w) .mk:=(rfl)
def oC (P:Program)(d:Option TypeDesc)(o:Oper)(t:Fr)(w:World)(C:World->Prop)(K:VK)(_:Ph (o,C,K)):Prop :=
 match d with
 | some (.int _)=>a7 P o t (K · w) False .mk
 | _=>br P o t w (λv w'=>C w'/\K v w') JU .mk
theorem G0 (d s e x ty pos af g)(p):dm P ⟨d,.convert s e x,ty,pos,af,g⟩ t w C K p=oC P (P.underlying e) ⟨d,.convert s e x,ty,pos,af,g⟩ t w C K .mk:=by
 cases h:P.underlying e with
 | none=>simp[dm,chain,h,oC]
 | some d=>cases d<;>simp[dm,chain,h,oC]
theorem GY (k d s e x ty pos af g)(p):oC P (some (.int k)) ⟨d,.convert s e x,ty,pos,af,g⟩ t w C K p=tp (if (P.underlying s).isSome then P.underlying e else none) (ev t x) (K · w) False .mk:=(rfl)
theorem GZ (o)(p):oC P (some .string) o t w C K p=br P o t w (λv w'=>C w'/\K v w') JU .mk:=(rfl)
theorem A9 (e o)(p):oC P (some (.slice e)) o t w C K p=br P o t w (λv w'=>C w'/\K v w') JU .mk:=(rfl)
theorem MO (d xt x i ty pos af g)(p):dm P ⟨d,.index xt x i,ty,pos,af,g⟩ t w C K p=vx (P.underlying xt) (ev t x) (ev t i) (K · w) False .mk:=(rfl)
theorem XK (d x mi ty pos af g)(p):dm P ⟨d,.call { callee:=.builtin .len,args:=#[x],argTypes:=#[mi] },ty,pos,af,g⟩ t w C K p=MF (P.underlying mi) (ev t x) (K · w) False .mk:=(rfl)
theorem RY (d xt x ty pos af g)(p):dm P ⟨d,.load xt x,ty,pos,af,g⟩ t w C K p=mO (jw P xt) (ev t x) w (λv w'=>(∀bE,C bE->mO (jw P xt) (ev t x) bE (λu _=>u=v) .mk)/\K v w') .mk:=(rfl)
theorem Aa (d xt x f ty pos af g)(p):dm P ⟨d,.fieldAddr xt x f,ty,pos,af,g⟩ t w C K p=mF (au P xt f) (ev t x) (K · w) .mk:=(rfl)
theorem MM (d xt x f ty pos af g)(p):dm P ⟨d,.field xt x f,ty,pos,af,g⟩ t w C K p=Dj (au P xt f) (ev t x) (K · w) .mk:=(rfl)
theorem Ab (d xt x i ty pos af g)(p):dm P ⟨d,.indexAddr xt x i,ty,pos,af,g⟩ t w C K p=iq (fw P xt) (r5 P xt) (ev t x) (ev t i) (K · w) .mk:=(rfl)
theorem MP (d xt x lo hi mx ty pos af g)(p):dm P ⟨d,.slice xt x lo hi mx,ty,pos,af,g⟩ t w C K p =
  fY (P.underlying xt) (fw P xt) (ev t x) (lo.map (ev t)) (hi.map (ev t)) (mx.map (ev t)) (K · w) False .mk:=rfl
theorem RX (d f)(args:List Operand)(mi ty pos af g)(p):dm P ⟨d,.call { callee:=.value f,args:=args.toArray,argTypes:=mi },ty,pos,af,g⟩ t w C K p =
  br P ⟨d,.call { callee:=.value f,args:=args.toArray,argTypes:=mi },ty,pos,af,g⟩ t w (λv w'=>C w'/\K v w') JU .mk:=rfl
theorem MQ (d xt x v ty pos af g)(p):dm P ⟨d,.store xt x v,ty,pos,af,g⟩ t w C K p=br P ⟨d,.store xt x v,ty,pos,af,g⟩ t w (λv w'=>C w'/\K v w') JU .mk:=(rfl)
theorem XJ (d e x ty pos af g)(p):dm P ⟨d,.box e x,ty,pos,af,g⟩ t w C K p=br P ⟨d,.box e x,ty,pos,af,g⟩ t w (λv w'=>C w'/\K v w') JU .mk:=(rfl)
theorem yN (d bt n ps ty pos af g)(p):dm P ⟨d,.buildSlice bt n ps,ty,pos,af,g⟩ t w C K p=br P ⟨d,.buildSlice bt n ps,ty,pos,af,g⟩ t w (λv w'=>C w'/\K v w') JU .mk:=(rfl)
theorem MK (d bt)(ps:List (Nat×Operand))(ty pos af g)(p):dm P ⟨d,.build bt ps.toArray,ty,pos,af,g⟩ t w C K p=zI (kK P bt) (evs t ps) (K · w) .mk:=(rfl)
theorem JK (d)(args:Array Operand)(mi ty pos af g)(p):dm P ⟨d,.call { callee:=.builtin .append,args:=args,argTypes:=mi },ty,pos,af,g⟩ t w C K p =
  br P ⟨d,.call { callee:=.builtin .append,args:=args,argTypes:=mi },ty,pos,af,g⟩ t w (λv w'=>C w'/\K v w') JU .mk:=rfl
end
attribute [push_cast] Sw KR KQ RZ JL Ra XI aBi G1 G0 GY GZ A9 MO XK RY Aa MM Ab MP RX MQ XJ yN MK JK
end Go.Vc
end
section
namespace Go.Vc
open Go.RowKit
def Sl {α:Type}(X:Nat->Prop)(k:Nat)(R:List Value->α->Prop)(w:World)(v:Value)(l:List α):Prop :=
 ∃a c,v=.slice a l.length c/\l.length<=c/\∀i x,l[i]?=some x->∃b o cs,a=some ⟨b,o,none⟩/\¬X b/\cs.length=k/\(∀j u,cs[j]?=some u->w.cell? ⟨b,o+i*k+j,none⟩=some u)/\R cs x
theorem Sl.mono {α:Type}{X X':Nat->Prop}{k:Nat}{R R':List Value->α->Prop}{w w':World}{v:Value}{l:List α}(h:Sl X k R w v l)(hs:∀b,¬X b->b<w.heap.size->w'.heap[b]?=w.heap[b]?)
  (hR:∀cs x,x∈l->R cs x->R' cs x) (hX:∀b,X' b->X b):Sl X' k R' w' v l:=by
 obtain⟨a,c,rfl,hc,h⟩:=h;refine⟨a,c,rfl,hc,λi x hx=>?_⟩;obtain⟨b,o,cs,ha,hb,hk,aU,hr⟩:=h i x hx;refine⟨b,o,cs,ha,λhh=>hb (hX b hh),hk,λj u hu=>?_,hR _ _ (List.mem_of_getElem? hx) hr⟩;have hc:=aU j u hu;exact(World.cell?_of_block (w:=w) (hs b hb (World.block_lt_of_cell? w _ hc))).trans hc
abbrev En {α:Type}(enc:α->List Value):List Value->α->Prop:=λcs x=>cs=enc x
theorem Sl.below {α:Type}{X:Nat->Prop}{k:Nat}{R:List Value->α->Prop}{w w':World}{v:Value}{l:List α}(h:Sl X k R w v l)(hb:Below w.heap.size w w'):Sl X k R w' v l :=
 h.mono (λb _ aj=>hb.block b aj) (λ_ _ _ h=>h) (λ_ h=>h)
theorem Sl.weaken {α:Type}{X X':Nat->Prop}{k:Nat}{R:List Value->α->Prop}{w:World}{v:Value}{l:List α}(h:Sl X k R w v l)(hX:∀b,X' b->X b):Sl X' k R w v l :=
 h.mono (λ_ _ _=>rfl) (λ_ _ _ h=>h) hX
theorem Sl.nil {α:Type}(X:Nat->Prop)(k:Nat)(R:List Value->α->Prop)(w:World)(c:Nat)(a:Option Addr):Sl X k R w (.slice a 0 c) ([]:List α):=⟨a,c,rfl,Nat.zero_le _,λi x hx=>by simp at hx⟩
theorem ak {w:World}{b o:Nat}:∀(cs:List Value) (i:Nat),(∀j u,cs[j]?=some u->w.cell? ⟨b,o+(i+j),none⟩=some u)->aB w ⟨b,o,none⟩ i cs.length=some cs
 | [],_,_=>rfl
 | c::cs,i,h=>by
  have h0:=h 0 c rfl;have h1:=ak cs (i+1) (λj u hu=>by have:=h (j+1) u (by simpa using hu);rwa [show i+(j+1)=i+1+j by omega]at this)
  simp only[List.length_cons,aB,add_lit,h1];rw[show o+i=o+(i+0) by omega,h0]
def Own {α:Type}(base:Nat)(e:TypeId)(k:Nat)(enc:α->List Value)(w:World)(v:Value)(l:List α):Prop:=w.ownsRow base e k v l.length (l.flatMap enc)/\∀x,(enc x).length=k
theorem nC {α:Type}{enc:α->List Value}{k:Nat}(hk:∀x,(enc x).length=k):∀(l:List α) (i j:Nat) (x:α) (u:Value),l[i]?=some x->(enc x)[j]?=some u->(l.flatMap enc)[i*k+j]?=some u
 | [],i,j,x,u,h,_=>by simp at h
 | y::l,0,j,x,u,h,hu=>by
  simp at h;subst h;simp only[List.flatMap_cons,Nat.zero_mul,Nat.zero_add];rw[List.getElem?_append_left (List.getElem?_eq_some_iff.1 hu).1];exact hu
 | y::l,i+1,j,x,u,h,hu=>by
  simp only[List.flatMap_cons];rw[List.getElem?_append_right (by rw[hk];simp[Nat.add_mul];omega),hk,show (i+1)*k+j-k=i*k+j by rw[Nat.add_mul];omega]
  exact nC hk l i j x u (by simpa using h) hu
theorem Own.sl {α:Type}{base:Nat}{e:TypeId}{k:Nat}{enc:α->List Value}{w:World}{v:Value}{l:List α}(h:Own base e k enc w v l):Sl (·<base) k (En enc) w v l:=by
 obtain⟨h,hk⟩:=h;rcases h.2 with ⟨rfl,h0⟩|⟨g,cap,cur,rfl,hb,hg,hn,_,hs,ht⟩
 ·have:l=[]:=List.eq_nil_of_length_eq_zero h0;subst this;exact Sl.nil _ _ _ _ _ _
 refine⟨_,cap,rfl,hn,λi x hx=>⟨g,0,enc x,rfl,by omega,hk x,λj u hu=>?_,rfl⟩⟩;have Ll:j<k:=by have:=(List.getElem?_eq_some_iff.1 hu).1;rw[hk]at this;exact this
 have I6:i<l.length:=(List.getElem?_eq_some_iff.1 hx).1;have aj:i*k+j<l.length*k:=by
  have:(i+1)*k<=l.length*k:=Nat.mul_le_mul_right k I6;rw[Nat.add_mul]at this;omega
 have h1:=nC hk l i j x u hx hu;rw[<-ht,List.getElem?_take,if_pos aj]at h1;rw[cell_of_row w g _ cur e (0,0) hg];rw[Nat.zero_add];simpa using h1
theorem Sl.shape {α:Type}{X:Nat->Prop}{k:Nat}{R:List Value->α->Prop}{w:World}{v:Value}{l:List α}(h:Sl X k R w v l):∃a c,v=.slice a l.length c/\l.length<=c:=by
 obtain⟨a,c,h,hc,_⟩:=h;exact⟨a,c,h,hc⟩
theorem Sl.get {α:Type}{X:Nat->Prop}{k:Nat}{enc:α->List Value}{w:World}{a:Option Addr}{n c:Nat}{l:List α}(h:Sl X k (En enc) w (.slice a n c) l){i:Nat}{x:α}(hx:l[i]?=some x) :
  ∃b o,a=some ⟨b,o,none⟩/\¬X b/\∀j u,(enc x)[j]?=some u->w.cell? ⟨b,o+i*k+j,none⟩=some u:=by
 obtain⟨a',c',he,_,h⟩:=h;obtain⟨b,o,cs,ha,hX,_,hc,hr⟩:=h i x hx;cases he;subst hr;exact⟨b,o,ha,hX,hc⟩
theorem ah {α:Type}{l:List α}{i:Nat}(h:i<l.length):∃x,l[i]?=some x/\x∈l/\l.drop i=x::l.drop (i+1)/\l.take (i+1)=l.take i++[x]:=by
 refine⟨l[i],List.getElem?_eq_getElem h,List.getElem_mem h,List.drop_eq_getElem_cons h,?_⟩;rw[List.take_add_one,List.getElem?_eq_getElem h];rfl
theorem Own.nil {α:Type}(base:Nat)(e:TypeId){k:Nat}{enc:α->List Value}(hk:∀x,(enc x).length=k)(w:World):Own base e k enc w (.slice none 0 0) ([]:List α) :=
 ⟨World.ownsRow_nil w base e k,hk⟩
theorem Own.mono {α:Type}{base NR:Nat}{e:TypeId}{k:Nat}{enc:α->List Value}{w:World}{v:Value}{l:List α}(h:Own base e k enc w v l)(hb:NR<=base):Own NR e k enc w v l :=
 ⟨⟨h.1.1,h.1.2.imp id λ⟨g,cap,cur,h1,h2,h3⟩=>⟨g,cap,cur,h1,Nat.le_trans hb h2,h3⟩⟩,h.2⟩
theorem Own.slice {α:Type}{base:Nat}{e:TypeId}{k:Nat}{enc:α->List Value}{w:World}{v:Value}{l:List α}(h:Own base e k enc w v l):∃a c,v=.slice a l.length c:=by
 rcases h.1.2 with ⟨rfl,h0⟩|⟨g,cap,cur,rfl,_⟩
 ·exact⟨none,0,by rw[h0]⟩
 exact⟨_,cap,rfl⟩
theorem Own.below {α:Type}{base:Nat}{e:TypeId}{k:Nat}{enc:α->List Value}{w w':World}{v:Value}{l:List α}(h:Own base e k enc w v l)(hb:Below w.heap.size w w'):Own base e k enc w' v l:=by
 refine⟨h.1.kept (w':=w') (row:=none) ⟨hb.os,hb.tape,hb.output,hb.size,λk hk _=>hb.block k hk⟩ ?_,h.2⟩;cases v.ownBlock<;>simp
def Bq (P:Program)(t:TypeId):Option (TypeId×Nat×Nat):=match P.underlying t with
 | some (.slice e)=>match P.info? e with
  | some i=>match i.zero with
   | some z=>if z.cells.size=i.size/\0<i.size/\0<i.bytes then some (e,i.size,i.bytes) else none
   | none=>none
  | none=>none
 | _=>none
theorem nn {P:Program}{t e:TypeId}{k bytes:Nat}(h:Bq P t=some (e,k,bytes)) :
  P.underlying t=some (.slice e)/\∃i z,P.info? e=some i/\i.zero=some z/\i.size=k/\i.bytes=bytes/\z.cells.size=k/\0<k/\0<bytes:=by
 unfold Bq at h;split at h
 ·rename_i e' hu;split at h
  ·rename_i i hi;split at h
   ·rename_i z hz;split at h
    ·rename_i hh;cases h;exact⟨hu,i,z,hi,hz,rfl,rfl,hh.1,hh.2⟩
    cases h
   cases h
  cases h
 cases h
structure mg (w w':World)(e:TypeId)(cs:List Value):Prop where
 is:w'=w.alloc (.cells cs.toArray e)
theorem mg.below {w w':World}{e:TypeId}{cs:List Value}(h:mg w w' e cs):Below w.heap.size w w':=by rw[h.is];exact(Below.refl _ _).alloc (Nat.le_refl _) _
theorem mg.size {w w':World}{e:TypeId}{cs:List Value}(h:mg w w' e cs):w'.heap.size=w.heap.size+1:=by rw[h.is];simp
theorem mg.block {w w':World}{e:TypeId}{cs:List Value}(h:mg w w' e cs):w'.heap[w.heap.size]?=some (.cells cs.toArray e (0,0)):=by rw[h.is];exact heap_alloc_new w _
theorem mg.cell {w w':World}{e:TypeId}{cs:List Value}(h:mg w w' e cs){j:Nat}{u:Value}(hu:cs[j]?=some u):w'.cell? ⟨w.heap.size,j,none⟩=some u:=by
 rw[h.is,World.cell?_alloc_new];simpa using hu
theorem mg.cell0 {w w':World}{e:TypeId}{u:Value}{cs:List Value}(h:mg w w' e (u::cs)):w'.cell? ⟨w.heap.size,0,none⟩=some u:=h.cell rfl
section
variable {P:Program} {t:Fr} {w:World} {K:VK} {Q:EP}
theorem aR {e:TypeId}{v:Value}{p}(k:∀w',mg w w' e (cz v)->K (.pointer (some ⟨w.heap.size,0,none⟩)) w'):aDH e v w K p :=
 k _ ⟨by rw[<-jd]⟩
def fD:List (Nat×Value)->List Value
 | []=>[]
 | (_,v)::r=>cz v++fD r
theorem Cz:fD []=[]:=(rfl)
theorem An (i v r):fD ((i,v)::r)=cz v++fD r:=(rfl)
def yc (k:Nat):Nat->List (Nat×Value)->Bool
 | _,[]=>true
 | i,(j,v)::r=>i == j && ix (cz v) k && yc k (i+1) r
theorem IH (k:Nat):∀(parts:List (Nat×Value)) (i:Nat) (l1 l2:List Value),yc k i parts=true->l1.length=i*k->l2.length=parts.length*k ->
  Instr.fill (λi=>some (i*k,k)) (l1++l2).toArray parts=some (l1++fD parts).toArray
 | [],i,l1,l2,_,_,h2=>by
  have:l2=[]:=List.eq_nil_of_length_eq_zero (by simpa using h2);simp[Instr.fill,fD,this]
 | (j,v)::r,i,l1,l2,h,h1,h2=>by
  simp only[yc,Bool.and_eq_true,beq_iff_eq]at h;obtain⟨⟨rfl,hs⟩,hr⟩:=h;have h3:=nK _ _ hs;have h4:v.cells.size=k:=by rw[<-h3,<-jd,Array.length_toList]
  simp only[List.length_cons,Nat.add_mul,Nat.one_mul]at h2;simp only[Instr.fill];rw[if_neg (by simp[h4,h1];omega)];have e1:(v.cells.zipIdx.foldl (λcs (x:Value×Nat)=>match x with|(c,j)=>cs.setIfInBounds (i*k+j) c) (l1++l2).toArray)=((l1++cz v)++l2.drop k).toArray:=by
   apply Array.ext';rw[<-Array.foldl_toList];have:∀(ps:List (Value×Nat)) (a:Array Value),(ps.foldl (λcs (x:Value×Nat)=>match x with|(c,j)=>cs.setIfInBounds (i*k+j) c) a).toList=ps.foldl (λa p=>a.set (i*k+p.2) p.1) a.toList:=by
    intro ps;induction ps with
    | nil=>intro a;rfl
    | cons p ps ih=>intro a;simp only[List.foldl_cons,ih,Array.toList_setIfInBounds]
   rw[this,Array.toList_zipIdx,jd];have h5:=qx (cz v) (i*k) 0 (l1++l2);rw[Nat.add_zero]at h5;rw[h5,<-h1];have sp1:∀(cs l:List Value),cs.length<=l.length->eM l 0 cs=cs++l.drop cs.length:=by
    intro cs;induction cs with
    | nil=>intro l _;cases l<;>simp[eM]
    | cons c cs ih=>intro l hl;cases l with
     | nil=>simp at hl
     | cons x l=>simp only[eM,List.cons_append,List.length_cons,List.drop_succ_cons];rw[ih l (by simpa using hl)]
   have sp2:∀(a b cs:List Value),eM (a++b) a.length cs=a++eM b 0 cs:=by
    intro a;induction a with
    | nil=>intro b cs;rfl
    | cons x a ih=>intro b cs;simp only[List.cons_append,List.length_cons,eM,ih]
   rw[sp2,sp1 _ _ (by omega),h3];simp
  rw[e1,IH k r (i+1) (l1++cz v) (l2.drop k) hr (by simp[h1,h3,Nat.add_mul]) (by simp;omega)];simp[fD]
theorem cG {bt e:TypeId}{k bytes n:Nat}{parts:List (Nat×Value)}{p}(hE:Bq P bt=some (e,k,bytes))(hp:yc k 0 parts=true)(hl:parts.length=n)(hn:n*k<=16777216)
  (kk:∀w',mg w w' e (fD parts)->K (.slice (some ⟨w.heap.size,0,none⟩) n n) w'):ag P (Instr.buildSlice bt n parts.toArray) t w K Q p:=by
 obtain⟨hu,i,z,hi,hz,rfl,rfl,TW,hk,_⟩:=nn hE;refine ff (w':=w.alloc (.cells (fD parts).toArray e)) ?_ (kk _ ⟨rfl⟩);have hf:=λ(l2:List Value) (h2:l2.length=parts.length*i.size)=>IH i.size parts 0 [] l2 hp (by simp) h2;simp only[List.nil_append]at hf;have Yt:=hf ((Array.range (n*i.size)).map (z.cells[· % z.cells.size]!)).toList (by simp[hl]);simp only[Array.toArray_toList]at Yt;by_cases h0:n*i.size=0
 ·have vp:n=0:=by rcases Nat.mul_eq_zero.1 h0 with h|h<;>omega
  subst vp;have:parts=[]:=List.eq_nil_of_length_eq_zero hl;subst this;simp[Instr.buildSlice,run_underlying hu,sizeOf,typeInfo,hi,Instr.fill,newRow,fD,Array.range_zero']
 simp[Instr.buildSlice,run_underlying hu,sizeOf,typeInfo,hi,zeroValue,hz,h0,show ¬16777216<n*i.size by omega,Yt,newRow]
theorem NQ {α:Type}{bt ty e:TypeId}{k bytes base:Nat}{enc:α->List Value}{v:Value}{l ys:List α}{b o c:Nat}{p}(hE:Bq P bt=some (e,k,bytes))(kG:Own base e k enc w v l)
  (hy:∀j u,(ys.flatMap enc)[j]?=some u->w.cell? ⟨b,o+j,none⟩=some u) (h1:∀x,∀u∈enc x,u.oneCell'=true)
  (hm:(l.length+ys.length)*bytes<=140737488355328) (zt:base<=w.heap.size)
  (kk:∀v' w',Own base e k enc w' v' (l++ys)->w.grownBy w' v.ownBlock->Below base w w'->K v' w'):ag P (Builtin.append_ #[bt,bt] ty [v,.slice (some ⟨b,o,none⟩) ys.length c].toArray) t w K Q p:=by
 obtain⟨hu,i,z,hi,hz,rfl,rfl,TW,hk,yB⟩:=nn hE;have hlen:∀(ys:List α),(ys.flatMap enc).length=ys.length*i.size:=by
  intro ys;induction ys with
  | nil=>simp
  | cons y ys ih=>simp[List.flatMap_cons,kG.2,ih,Nat.add_mul];omega
 have hle:l.length+ys.length<=140737488355328:=Nat.le_trans (Nat.le_mul_of_pos_right _ yB) hm;obtain⟨v',w',hr,ho,hg,_⟩:=run_append_own (P:=P) w base bt ty e i z i.size i.bytes hu hi hz rfl rfl TW hk v l.length (l.flatMap enc) kG.1 ⟨b,o,none⟩ ys.length c (ys.flatMap enc) (hlen ys)
  (λj u hj=>by rw[add_lit];exact hy j u hj) (λu Nu=>by obtain⟨x,_,hx⟩:=List.mem_flatMap.1 Nu;exact h1 x u hx) (by simp only[maxLen];omega) hm zt
 refine ff hr (kk v' w' ⟨by simpa[List.flatMap_append] using ho,kG.2⟩ hg ?_);exact(Below.refl _ _).grown hg zt λk hk=>(kG.1.lt k hk).1
theorem Y0 {s d e:TypeId}{n c:Nat}{p}(hs:P.underlying s=some (.slice e))(he:P.underlying e=some (.int .u8))(hd:P.underlying d=some .string)(k:K (str []) w):ag P (convert s d (.slice none n c)) t w K Q p :=
 ff (run_convert_bytes_nil w s e hs he n c d hd) k
def jH (b:UInt8):List Value:=[.int .u8 b.toNat]
theorem aGa {s d e:TypeId}{v:Value}{l:List UInt8}{X:Nat->Prop}{p}(hs:P.underlying s=some (.slice e))(he:P.underlying e=some (.int .u8))(hd:P.underlying d=some .string)(hl:Sl X 1 (En jH) w v l)(k:K (str l) w) :
  ag P (convert s d v) t w K Q p:=by
 obtain⟨a,c,rfl,hc,h⟩:=hl;by_cases h0:l=[]
 ·subst h0;cases a with
  | none=>exact Y0 hs he hd k
  | some a =>
   refine ff ?_ k;rw[run_convert_bytes_string w s d e _ _ c hs he hd,run_bytesToString w a _ c [] (by rfl)];rfl
 obtain⟨x,l',rfl⟩:=List.exists_cons_of_ne_nil h0;obtain⟨b,o,cs,rfl,_,_,_,_⟩:=h 0 x rfl;have aU:∀i,i<(x::l').length->w.cell? ⟨b,o+i,none⟩=some (.int .u8 (((x::l').map λb=>(b.toNat:Int)).getD i 0)):=by
  intro i hi;obtain⟨b',o',cs,Bx,_,_,hcc,rfl⟩:=h i (x::l')[i] (by simp);cases Bx
  have:=hcc 0 _ rfl;rw[Nat.mul_one,Nat.add_zero]at this;rw[this,List.getD_eq_getElem?_getD,List.getElem?_map,List.getElem?_eq_getElem hi];rfl
 have hr:=run_convert_bytes_arg (P:=P) w s e hs he b o (x::l').length c ((x::l').map λb=>(b.toNat:Int)) (by simp) aU d hd;refine ff hr ?_;have e2:Value.string (strOfNums ((x::l').map λb=>(b.toNat:Int)))=str (x::l'):=by
  simp only[str,strOfNums];congr 3;rw[List.map_map]
  conv=>rhs;rw[<-List.map_id (x::l')]
  apply List.map_congr_left;intro b _;simp
 rw[e2];exact k
end
attribute [push_cast] Cz An Nat.add_zero Nat.mul_one
end Go.Vc
end
section
namespace Cae
end Cae
namespace Go.Vc
open Go.RowKit
theorem aGb (l:List UInt8):Value.string ⟨l.toArray⟩=str l:=(rfl)
section
variable {P:Program} {t:Fr} {w:World} {K:VK} {Q:EP} {other:Prop}
theorem Sc (e e':TypeId)(k b o n c:Nat)(kk:IntKind)(i:Int)(L:VP)(other:Prop)(p):fY (some (.slice e)) (some (e',k)) (.slice (some ⟨b,o,none⟩) n c) none (some (.int kk i)) none L other p=((0<=i/\i<=c)/\L (.slice (some ⟨b,o,none⟩) i.toNat c)):=by
 simp only[fY,gm,Option.map_some,Int.toNat_natCast,Nat.zero_mul,add_lit,Nat.add_zero,Nat.sub_zero,ite_self,Int.natCast_zero,Int.toNat_zero,Int.le_refl,true_and]
theorem Rn (a:Addr)(L:VP)(p):JT (.pointer (some a)) L other p=L (.pointer (some a)):=(rfl)
theorem G6 (d x ty pos af g)(p):br P ⟨d,.nilCheck x,ty,pos,af,g⟩ t w K Q p=JT (ev t x) (K · w) (runK P ⟨d,.nilCheck x,ty,pos,af,g⟩ t w K Q .mk) .mk:=by
 unfold JT;split
 ·rename_i a h;simp only[br,a7,runK];unfold execOp;simp only[h];rfl
 rfl
section
variable {C:World->Prop}
theorem Cq (d x ty pos af g)(p):dm P ⟨d,.nilCheck x,ty,pos,af,g⟩ t w C K p=JT (ev t x) (K · w) False .mk:=(rfl)
theorem JM (d r m)(args:Array Operand)(mi ty pos af g)(p):dm P ⟨d,.call { callee:=.invoke r m,args:=args,argTypes:=mi },ty,pos,af,g⟩ t w C K p =
  br P ⟨d,.call { callee:=.invoke r m,args:=args,argTypes:=mi },ty,pos,af,g⟩ t w (λv w'=>C w'/\K v w') JU .mk:=(rfl)
theorem MJ (d e ty pos af g)(p):dm P ⟨d,.alloc e,ty,pos,af,g⟩ t w C K p=br P ⟨d,.alloc e,ty,pos,af,g⟩ t w (λv w'=>C w'/\K v w') JU .mk:=(rfl)
theorem MN (d xt x ty pos af g)(p):dm P ⟨d,.makeInterface xt x,ty,pos,af,g⟩ t w C K p =
  sr (if (P.underlying xt).isSome then cR P xt else 1) xt (ev t x) (K · w) False .mk:=(rfl)
theorem Ac (d bt l c ty pos af g)(p):dm P ⟨d,.makeSlice bt l c,ty,pos,af,g⟩ t w C K p=br P ⟨d,.makeSlice bt l c,ty,pos,af,g⟩ t w (λv w'=>C w'/\K v w') JU .mk:=(rfl)
theorem yO (d x xt at_ ok ty pos af g)(p):dm P ⟨d,.typeAssert x xt at_ ok,ty,pos,af,g⟩ t w C K p=br P ⟨d,.typeAssert x xt at_ ok,ty,pos,af,g⟩ t w (λv w'=>C w'/\K v w') JU .mk:=(rfl)
theorem Cp (d fn)(a c:List Operand)(ty pos af g)(p):dm P ⟨d,.makeFunc fn a.toArray c.toArray,ty,pos,af,g⟩ t w C K p=K (.func fn (a.map (ev t)).toArray (c.map (ev t)).toArray) w:=by
 simp[dm,a7,chain]
end
structure Kept (X:Nat->Prop)(w w':World):Prop where
 os:w'.os=w.os
 tape:w'.tape=w.tape
 output:w'.output=w.output
 size:w.heap.size<=w'.heap.size
 block:∀k,k<w.heap.size->¬X k->w'.heap[k]?=w.heap[k]?
theorem Kept.refl (X:Nat->Prop)(w:World):Kept X w w:=⟨rfl,rfl,rfl,Nat.le_refl _,λ_ _ _=>rfl⟩
theorem Kept.trans {X Y:Nat->Prop}{a b c:World}(h:Kept X a b)(k:Kept Y b c)(hY:∀i,i<a.heap.size->Y i->X i):Kept X a c :=
 ⟨k.os.trans h.os,k.tape.trans h.tape,k.output.trans h.output,Nat.le_trans h.size k.size,λi hi hx=>(k.block i (Nat.lt_of_lt_of_le hi h.size) (λhh=>hx (hY i hi hh))).trans (h.block i hi hx)⟩
theorem Kept.weaken {X Y:Nat->Prop}{a b:World}(h:Kept X a b)(hY:∀i,i<a.heap.size->X i->Y i):Kept Y a b:=⟨h.os,h.tape,h.output,h.size,λi hi hx=>h.block i hi λhh=>hx (hY i hi hh)⟩
theorem Kept.below {X:Nat->Prop}{a b:World}(h:Kept X a b){B:Nat}(hB:B<=a.heap.size)(hX:∀i,X i->B<=i):Below B a b:=⟨h.os,h.tape,h.output,h.size,λi hi=>h.block i (by omega) λhh=>by have:=hX i hh;omega⟩
theorem Kept.aN {B:Nat}{a b:World}(h:Below B a b){X:Nat->Prop}(hX:∀i,B<=i->i<a.heap.size->X i):Kept X a b:=⟨h.os,h.tape,h.output,h.size,λi hi hx=>h.block i (Classical.byContradiction λhh=>hx (hX i (by omega) hi))⟩
theorem Kept.new {X:Nat->Prop}{a b:World}{e:TypeId}{cs:List Value}(h:mg a b e cs):Kept X a b:=Kept.aN h.below λi hi hh=>by omega
theorem Kept.drew {X:Nat->Prop}{a w:World}(h:Kept X a w):Kept X a w.drew:=⟨h.os,h.tape,h.output,h.size,h.block⟩
theorem Kept.grown {a b:World}{row:Option Nat}(h:a.grownBy b row){X:Nat->Prop}(hX:∀k,row=some k->X k):Kept X a b:=⟨h.os,h.tape,h.output,h.size,λi hi hx=>h.block i hi λhh=>hx (hX i hh.symm)⟩
theorem Kept.cell {X:Nat->Prop}{a b:World}(h:Kept X a b){p:Addr}{v:Value}(hv:a.cell? p=some v)(hX:¬X p.block):b.cell? p=some v :=
 (World.cell?_of_block (h.block p.block (World.block_lt_of_cell? a p hv) hX)).trans hv
theorem Sl.kept {α:Type}{X Y:Nat->Prop}{k:Nat}{R:List Value->α->Prop}{w w':World}{v:Value}{l:List α}(h:Sl X k R w v l)(hb:Kept Y w w')(hY:∀i,Y i->X i):Sl X k R w' v l :=
 h.mono (λb Bx aj=>hb.block b aj λhh=>Bx (hY b hh)) (λ_ _ _ h=>h) (λ_ h=>h)
def aL (w:World)(b:Nat)(e:TypeId)(cs:List Value):Prop:=w.heap[b]?=some (.cells cs.toArray e (0,0))
theorem aL.lt {w:World}{b:Nat}{e:TypeId}{cs:List Value}(h:aL w b e cs):b<w.heap.size:=(Array.getElem?_eq_some_iff.1 h).1
theorem aL.cell {w:World}{b:Nat}{e:TypeId}{cs:List Value}(h:aL w b e cs){o:Nat}{u:Value}(hu:cs[o]?=some u):w.cell? ⟨b,o,none⟩=some u:=by
 rw[cell_of_row w b o _ e (0,0) h];simpa using hu
theorem aL.kept {X:Nat->Prop}{w w':World}{b:Nat}{e:TypeId}{cs:List Value}(h:aL w b e cs)(hk:Kept X w w')(hX:¬X b):aL w' b e cs:=(hk.block b h.lt hX).trans h
theorem aL.below {B:Nat}{w w':World}{b:Nat}{e:TypeId}{cs:List Value}(h:aL w b e cs)(hk:Below B w w')(hX:b<B):aL w' b e cs:=(hk.block b hX).trans h
theorem aL.drew {w:World}{b:Nat}{e:TypeId}{cs:List Value}(h:aL w b e cs):aL w.drew b e cs:=h
theorem mg.aM {w w':World}{e:TypeId}{cs:List Value}(h:mg w w' e cs):aL w' w.heap.size e cs:=h.block
structure yV (w w':World)(b:Nat)(e:TypeId)(cs:List Value):Prop where
 aM:aL w' b e cs
 kept:Kept (·=b) w w'
 size:w'.heap.size=w.heap.size
theorem yV.Dh {w:World}{b:Nat}{e:TypeId}{Z5 cs:List Value}(h:aL w b e Z5):yV w (w.setRow b cs.toArray) b e cs :=
 ⟨setRow_heap w b _ _ e _ h,⟨rfl,rfl,rfl,by simp,λk _ hk=>setRow_other w b k _ hk⟩,by simp⟩
theorem aC {b o:Nat}{e:TypeId}{cs:List Value}{v:Value}{p}(hB:aL w b e cs)(ho:o<cs.length)(h1:jt v=true)(kk:∀w',yV w w' b e (cs.set o v)->K undef w') :
  tN (some none) (.pointer (some ⟨b,o,none⟩)) v w K other p:=by
 refine⟨h1,by rw[hB.cell (List.getElem?_eq_getElem ho)];rfl,?_,kk _ ?_⟩
 ·simp only[World.frozen?];rw[show w.heap[b]?=_ from hB]
  simp
 rw[setCell_eq_setRow w b o _ e (0,0) v hB,List.setIfInBounds_toArray];exact yV.Dh hB
theorem KA (n:Nat)(a v:Value)(p):tN (some (some n)) a v w K other p=other:=(rfl)
theorem aH {xt:TypeId}{b o n:Nat}{e:TypeId}{Z5 cs:List Value}(hty:jw P xt=some (some n))(hB:aL w b e Z5)(hn:cs.length=n)(ho:o+n<=Z5.length)(h1:∀v∈cs,v.oneCell'=true)
  (kk:∀w',yV w w' b e (Z5.take o++cs++Z5.drop (o+n))->K undef w'):aX P (Instr.storeAt xt (.pointer (some ⟨b,o,none⟩)) (.agg cs.toArray)) t w K Q .mk:=by
 have:=run_storeCells_at P b o e cs 0 Z5.toArray w hB (by simp;omega) h1;simp only[Nat.add_zero,List.size_toArray]at this;refine B7 (w':=w.setRow b (Z5.take o++cs++Z5.drop (o+n)).toArray) ?_ (kk _ (yV.Dh hB));subst hn;simp only[Instr.storeAt,Instr.sureAddr,Sem.run_bind,Sem.run_pure,Result.andThen_ok,storeVar,(iY hty w).2,Value.cells,List.size_toArray,ne_eq,not_true_eq_false,if_false,this]
theorem ao {e:TypeId}{z:List Value}{p}(hz:(P.info? e).bind (λi=>i.zero.map cz)=some z)(kk:∀w',mg w w' e z->K (.pointer (some ⟨w.heap.size,0,none⟩)) w'):ag P (Instr.alloc e true (.tuple #[])) t w K Q p:=by
 obtain⟨i,hi,hz⟩:=Option.bind_eq_some_iff.1 hz;obtain⟨v,hv,rfl⟩:=Option.map_eq_some_iff.1 hz;refine ff (w':=w.alloc (.cells (cz v).toArray e)) ?_ (kk _ ⟨rfl⟩);rw[<-jd];simp[Instr.alloc,zeroValue,typeInfo,hi,hv,newVar,newRow]
def pJ (P:Program)(t:Fr)(w:World):List ResultVar->(List Value->Prop)->Prop
 | [],k=>k []
 | .tmp i::r,k=>pJ P t w r λvs=>k (t.getD i undef::vs)
 | .cell a ty::r,k=>mO (jw P ty) (t.getD a undef) w (λv _=>pJ P t w r λvs=>k (v::vs)) .mk
def SJ (P:Program)(rs:List ResultVar)(R:VK)(_:Ph R):EP
 | .normal,t,w=>pJ P t w rs λvs=>R (yT vs) w
 | .ret,t,w=>pJ P t w rs λvs=>R (yT vs) w
 | _,_,_=>False
theorem Xu (rs)(R:VK)(p):SJ P rs R p .ret t w=pJ P t w rs λvs=>R (yT vs) w:=(rfl)
theorem Jb (rs)(R:VK)(p):SJ P rs R p .normal t w=pJ P t w rs λvs=>R (yT vs) w:=(rfl)
theorem Xx (k:List Value->Prop):pJ P t w [] k=k []:=(rfl)
theorem Xy (i)(r)(k:List Value->Prop):pJ P t w (.tmp i::r) k=pJ P t w r λvs=>k (t.getD i undef::vs):=(rfl)
theorem SK (a ty)(r)(k:List Value->Prop):pJ P t w (.cell a ty::r) k=mO (jw P ty) (t.getD a undef) w (λv _=>pJ P t w r λvs=>k (v::vs)) .mk:=(rfl)
theorem JE {ty:TypeId}{a:Value}{w:World}{k:VK}(h:mO (jw P ty) a w k .mk):∃ad v,a=.pointer (some ad)/\(loadVar ty ad).run P w=.ok v w/\k v w:=by
 unfold mO at h;split at h
 ·rename_i ad ht;obtain⟨v,hc,hk⟩:=jD h;exact⟨ad,v,rfl,by simp[loadVar,(nN ht w).1,load,Sem.run,hc],hk⟩
 ·rename_i n ad ht;obtain⟨v,hc,hk⟩:=jD h;exact⟨ad,_,rfl,by simp[loadVar,(iY ht w).1,(iY ht w).2,loadCells,run_loadCellsFrom (P:=P) w ad n 0 #[] v hc],hk⟩
 exact h.elim
theorem Ay (g:ResultVar->Sem Value)(h1:∀i,(g (.tmp i)).run P w=.ok (t.getD i undef) w)(h2:∀a ty ad v,t.getD a undef=.pointer (some ad)->(loadVar ty ad).run P w=.ok v w->(g (.cell a ty)).run P w=.ok v w):∀(rs:List ResultVar) (k:List Value->Prop),pJ P t w rs k->∃vs,(List.mapM g rs).run P w=.ok vs w/\k vs
 | [],k,h=>⟨[],rfl,h⟩
 | .tmp i::r,k,h=>by
  obtain⟨vs,h3,h4⟩:=Ay g h1 h2 r _ h;refine⟨_,?_,h4⟩;simp only[List.mapM_cons,Sem.run_bind,Sem.run_pure,Result.andThen_ok,h1,h3]
 | .cell a ty::r,k,h=>by
  obtain⟨ad,v,ha,hl,h⟩:=JE h;obtain⟨vs,h3,h4⟩:=Ay g h1 h2 r _ h;refine⟨_,?_,h4⟩;simp only[List.mapM_cons,Sem.run_bind,Sem.run_pure,Result.andThen_ok,h2 _ _ _ _ ha hl,h3]
theorem RS (g:ResultVar->Sem Value)(h1:∀i,(g (.tmp i)).run P w=.ok (t.getD i undef) w)(h2:∀a ty ad v,t.getD a undef=.pointer (some ad)->(loadVar ty ad).run P w=.ok v w->(g (.cell a ty)).run P w=.ok v w)(rs:List ResultVar)(k:List Value->Prop)(h:pJ P t w rs k):∃vs,(Array.mapM g rs.toArray).run P w=.ok vs.toArray w/\k vs:=by
 obtain⟨vs,h3,h4⟩:=Ay g h1 h2 rs k h;refine⟨vs,?_,h4⟩;rw[List.mapM_toArray,map_eq_pure_bind];simp only[Sem.run_bind,h3,Result.andThen_ok,Sem.run_pure]
theorem Sj (g:ResultVar->Sem Value)(F:Array Value->World->Result Value)(h1:∀i,(g (.tmp i)).run P w=.ok (t.getD i undef) w)(h2:∀a ty ad v,t.getD a undef=.pointer (some ad)->(loadVar ty ad).run P w=.ok v w->(g (.cell a ty)).run P w=.ok v w)(hF:∀vs:List Value,F vs.toArray w=.ok (yT vs) w)(rs:List ResultVar)(k:List Value->Prop)(h:pJ P t w rs k):∃vs,((Array.mapM g rs.toArray).run P w).andThen F=.ok (yT vs) w/\k vs:=by
 obtain⟨vs,h3,h4⟩:=RS g h1 h2 rs k h;exact⟨vs,by rw[h3,Result.andThen_ok,hF],h4⟩
theorem cT (fn:Func)(rs:List ResultVar)(h:fn.results=rs.toArray)(t:Fr)(k:List Value->Prop)(hl:pJ P t w rs k):∃vs,(results fn t.toArray).run P w=.ok (yT vs) w/\k vs:=by
 unfold results;rw[h,Sem.run_bind];refine Sj (t:=t) _ _ ?_ ?_ ?_ rs k hl
 ·intro i;simp[List.getD_eq_getElem?_getD,Array.getD_eq_getD_getElem?]
 ·intro a ty ad v ha hl;have Vs:t.toArray.getD a undef=.pointer (some ad):=by rw[<-ha];simp[List.getD_eq_getElem?_getD,Array.getD_eq_getD_getElem?]
  have hA:asAddr (t.toArray.getD a undef)=pure ad:=by rw[Vs];rfl
  simp only[hA,Sem.run_bind,Sem.run_pure,Result.andThen_ok,hl]
 intro vs;rw[Sem.run_pure];congr 1;match vs with
 | []=>rfl
 | [a]=>rfl
 | a::b::l=>simp[yT]
theorem gh {f:FuncId}{fn:Func}{c:Code}{args:List Value}{R:VK}(hf:P.funcs[f]?=some fn)(hb:fn.body=some c)(hn:(fn.name == "runtime.NumGoroutine")=false)
  (rs:List ResultVar) (jU:fn.results=rs.toArray) (h:vc P c (SJ P rs R .mk) (wY args fn.ntmps) w .mk):ar P f args w R:=by
 refine⟨bg hf (by simp[hb]) hn,calls_of_wp hf hb ?_⟩;have h1:=sL c _ _ w h;unfold cg at h1;have e:(args.toArray++Array.replicate (fn.ntmps-args.toArray.size) undef)=(wY args fn.ntmps).toArray:=by simp[wY]
 rw[e];refine Code.wp_mono ?_ h1;rintro e a w' ⟨hd,hh⟩;have ha:a.tmps.toList.toArray=a.tmps:=by simp
 cases e<;>simp only[SJ]at hh<;>first|exact hh.elim|skip
 ·obtain⟨vs,hv,hk⟩:=cT fn rs jU _ _ hh;exact⟨hd,_,by rw[<-ha];exact hv,_,rfl,hk⟩
 obtain⟨vs,hv,hk⟩:=cT fn rs jU _ _ hh;exact⟨hd,_,by rw[<-ha];exact hv,_,rfl,hk⟩
theorem aW {α:Type}{bt ty e:TypeId}{k bytes base n:Nat}{enc:α->List Value}{v:Value}{l:List α}(ys:List α){b o c:Nat}{p}(hE:Bq P bt=some (e,k,bytes))(kG:Own base e k enc w v l)(hn:ys.length=n)
  (hy:∀j u,(ys.flatMap enc)[j]?=some u->w.cell? ⟨b,o+j,none⟩=some u) (h1:∀x,∀u∈enc x,u.oneCell'=true)
  (hm:(l.length+ys.length)*bytes<=140737488355328) (zt:base<=w.heap.size)
  (kk:∀v' w',Own base e k enc w' v' (l++ys)->w.grownBy w' v.ownBlock->(∀g,v'.ownBlock=some g->v.ownBlock=some g\/w.heap.size<=g)->K v' w'):ag P (Builtin.append_ #[bt,bt] ty [v,.slice (some ⟨b,o,none⟩) n c].toArray) t w K Q p:=by
 subst hn;obtain⟨hu,i,z,hi,hz,rfl,rfl,TW,hk,yB⟩:=nn hE;have hlen:∀(ys:List α),(ys.flatMap enc).length=ys.length*i.size:=by
  intro ys;induction ys with
  | nil=>simp
  | cons y ys ih=>simp[List.flatMap_cons,kG.2,ih,Nat.add_mul];omega
 have hle:l.length+ys.length<=140737488355328:=Nat.le_trans (Nat.le_mul_of_pos_right _ yB) hm;have hy':∀j u,(ys.flatMap enc)[j]?=some u->w.cell? ((⟨b,o,none⟩:Addr).add j)=some u:=λj u hj=>by rw[add_lit];exact hy j u hj
 have QQ:∀u∈ys.flatMap enc,u.oneCell'=true:=λu Nu=>by obtain⟨x,_,hx⟩:=List.mem_flatMap.1 Nu;exact h1 x u hx
 obtain⟨v',w',hr,ho,hg,_⟩:=run_append_own (P:=P) w base bt ty e i z i.size i.bytes hu hi hz rfl rfl TW hk v l.length (l.flatMap enc) kG.1 ⟨b,o,none⟩ ys.length c (ys.flatMap enc) (hlen ys)
  hy' QQ (by simp only[maxLen];omega) hm zt
 refine ff hr (kk v' w' ⟨by simpa[List.flatMap_append] using ho,kG.2⟩ hg ?_);intro g' Bz;rcases kG.1.2 with ⟨rfl,h0⟩|⟨g,cap,cur,rfl,hbg,K7,vr,tR,il,aQH⟩
 ·have hl:l=[]:=List.eq_nil_of_length_eq_zero h0;subst hl;have aJp:w.ownsRow w.heap.size e i.size (.slice none 0 0) 0 []:=World.ownsRow_nil _ _ _ _;obtain⟨v2,w2,uO,lC,_,_⟩:=run_append_own (P:=P) w w.heap.size bt ty e i z i.size i.bytes hu hi hz rfl rfl TW hk _ 0 [] aJp ⟨b,o,none⟩ ys.length c (ys.flatMap enc) (hlen ys)
   hy' QQ (by simp only[maxLen];omega) (by simpa using hm) (Nat.le_refl _)
  have:=hr.symm.trans uO;cases this;exact .inr (lC.lt g' Bz).1
 by_cases aJB:l.length+ys.length<=cap
 ·obtain⟨w2,uO,_⟩:=run_append_fits (P:=P) (w:=w) base bt ty e i i.size hu hi rfl g l.length cap (l.flatMap enc) kG.1 ⟨b,o,none⟩ ys.length c (ys.flatMap enc) (hlen ys) hy' QQ aJB
  have:=hr.symm.trans uO;cases this;exact .inl Bz
 have uO:=run_append_grow (P:=P) w bt ty e i z hu hi hz ⟨g,0,none⟩ l.length cap (l.flatMap enc) kG.1.1 (kG.1.cells (g:=g) rfl) ⟨b,o,none⟩ ys.length c (ys.flatMap enc) (hlen ys) hy' (by omega) (by omega) (growslice_fits (by omega) hm)
 have:=hr.symm.trans uO;cases this;simp only[Value.ownBlock,Option.some.injEq]at Bz;exact .inr (by omega)
theorem Own.aJ {α:Type}{base:Nat}{e:TypeId}{k:Nat}{enc:α->List Value}{X:Nat->Prop}{w w':World}{v:Value}{l:List α}(h:Own base e k enc w v l)(hb:Kept X w w')(hX:∀g,v.ownBlock=some g->¬X g):Own base e k enc w' v l:=by
 refine⟨⟨h.1.1,?_⟩,h.2⟩;rcases h.1.2 with hn|⟨g,cap,cur,rfl,hbg,K7,rest⟩
 ·exact .inl hn
 refine .inr ⟨g,cap,cur,rfl,hbg,?_,rest⟩;rw[hb.block g (Array.getElem?_eq_some_iff.1 K7).1 (hX g rfl)];exact K7
theorem Own.new {α:Type}{base:Nat}{e:TypeId}{k:Nat}{enc:α->List Value}{w w':World}{v:Value}{l:List α}{e':TypeId}{cs:List Value}(h:Own base e k enc w v l)(hn:mg w w' e' cs):Own base e k enc w' v l:=h.below hn.below
theorem Own.block {α:Type}{base:Nat}{e:TypeId}{k:Nat}{enc:α->List Value}{w:World}{v:Value}{l:List α}(h:Own base e k enc w v l):∀g,v.ownBlock=some g->base<=g/\g<w.heap.size:=h.1.lt
end
attribute [push_cast] Bool.false_or Bool.or_true Rn G6 Cq JM MJ MN Ac yO Cp aGb Sc KA Xu Jb Xx Xy SK
end Go.Vc
end
section
namespace Go.Vc
open Go.RowKit
def p3 (n:Int):List Value:=[.int .i64 n]
theorem mg.own {α:Type}{base k n:Nat}{e:TypeId}{enc:α->List Value}{w w':World}{cs:List Value}{l:List α}(h:mg w w' e cs)(il:cs=l.flatMap enc)(hn:l.length=n)(hk:∀x,(enc x).length=k)(hb:base<=w.heap.size)(hm:n<=140737488355328) :
  Own base e k enc w' (.slice (some ⟨w.heap.size,0,none⟩) n n) l:=by
 subst il hn;have hlen:(l.flatMap enc).length=l.length*k:=by
  clear h hb hm;induction l with
  | nil=>simp
  | cons y ys ih=>simp[List.flatMap_cons,hk,ih,Nat.add_mul];omega
 refine⟨⟨hlen,.inr ⟨w.heap.size,l.length,(l.flatMap enc).toArray,rfl,hb,h.block,Nat.le_refl _,by simp only[maxLen];omega,by simp[hlen],?_⟩⟩,hk⟩;rw[<-hlen];exact List.take_length
theorem Sl.xw {α:Type}{X:Nat->Prop}{k:Nat}{R:List Value->α->Prop}{w:World}{a:Option Addr}{n c:Nat}{l:List α}(h:Sl X k R w (.slice a n c) l){i:Nat}{x:α}(hx:l[i]?=some x) :
  ∃b o cs,a=some ⟨b,o,none⟩/\¬X b/\cs.length=k/\(∀j u,cs[j]?=some u->w.cell? ⟨b,o+i*k+j,none⟩=some u)/\R cs x:=by
 obtain⟨a',c',he,_,h⟩:=h;cases he;exact h i x hx
theorem Own.cut {α:Type}{base k n c:Nat}{e:TypeId}{enc:α->List Value}{w:World}{a:Option Addr}{l:List α}(h:Own base e k enc w (.slice a n c) l) :
  (a=none/\n=0/\c=0/\l=[])\/∃g,a=some ⟨g,0,none⟩/\n=l.length/\n<=c/\∀m,m<=n->Own base e k enc w (.slice (some ⟨g,0,none⟩) m c) (l.take m):=by
 obtain⟨⟨h1,h2⟩,hk⟩:=h;rcases h2 with ⟨he,h0⟩|⟨g,cap,cur,he,hbg,K7,vr,tR,il,Ns⟩
 ·cases he;exact .inl ⟨rfl,rfl,rfl,List.eq_nil_of_length_eq_zero h0⟩
 cases he;refine .inr ⟨g,rfl,rfl,vr,λm hm=>⟨⟨?_,.inr ⟨g,c,cur,?_,hbg,K7,?_,tR,il,?_⟩⟩,hk⟩⟩
 ·clear Ns h1;have:∀(l:List α),(l.flatMap enc).length=l.length*k:=by
   intro l;induction l with
   | nil=>simp
   | cons y ys ih=>simp[List.flatMap_cons,hk,ih,Nat.add_mul];omega
  rw[this]
 ·rw[List.length_take,Nat.min_eq_left hm]
 ·rw[List.length_take];omega
 have hl:∀(l:List α),(l.flatMap enc).length=l.length*k:=by
  intro l;induction l with
  | nil=>simp
  | cons y ys ih=>simp[List.flatMap_cons,hk,ih,Nat.add_mul];omega
 have h3:l.flatMap enc=(l.take m).flatMap enc++(l.drop m).flatMap enc:=by rw[<-List.flatMap_append,List.take_append_drop]
 rw[h3]at Ns;have h4:=congrArg (List.take ((l.take m).length*k)) Ns;rw[List.take_take,<-hl (l.take m),List.take_left,hl,Nat.min_eq_left (Nat.mul_le_mul_right k (by rw[List.length_take];omega))]at h4;exact h4
theorem DG (e:TypeId)(e':TypeId)(k:Nat)(kk:IntKind)(L:VP)(other:Prop)(p):fY (some (.slice e)) (some (e',k)) (.slice none 0 0) none (some (.int kk 0)) none L other p=L (.slice none 0 0):=by
 simp[fY,gm]
attribute [push_cast] DG
theorem aL.aB {w:World}{b:Nat}{e:TypeId}{cs:List Value}(h:aL w b e cs):aB w ⟨b,0,none⟩ 0 cs.length=some cs :=
 ak cs 0 λj u hu=>by rw[Nat.zero_add,Nat.zero_add];exact h.cell hu
end Go.Vc
end
section
namespace Go.Vc
open Go.RowKit
inductive Ord where
 | done
 | one (k:Nat) (r:Ord)
 | two (k:Nat) (r:Ord) (k':Nat) (r':Ord)
def Am (P:Program)(ops:Array Oper)(bf:Array Nat):Nat->Ord->Array Bool->Bool
 | _,.done,listed=>(Region.ready .any ops listed).isEmpty
 | n+1,.one k r,listed=>(Region.ready .any ops listed).contains k && lT P ops bf listed k && Am P ops bf n r (listed.setIfInBounds k true)
 | n+1,.two k r k' r',listed=>(Region.ready .any ops listed).contains k && (Region.ready .any ops listed).all (λi=>i == k || i == k') && Am P ops bf n r (listed.setIfInBounds k true) && Am P ops bf n r' (listed.setIfInBounds k' true)
 | _,_,_=>false
def aJ3 (P:Program)(ops:Array Oper)(o:Ord):Bool:=Region.noSelect ops && Am P ops (Region.before ops) ops.size o (Array.replicate ops.size false)
section
variable {P:Program} {ops:Array Oper} {C:World->Prop}
def Bn (P:Program)(ops:Array Oper)(C:World->Prop)(R:Act->World->Prop):Ord->Act->World->Prop
 | .done,a,w=>R a w
 | .one k r,a,w=>bA P ops C k (Bn P ops C R r) a w
 | .two k r k' r',a,w=>bA P ops C k (Bn P ops C R r) a w/\bA P ops C k' (Bn P ops C R r') a w
theorem pS {R:Act->World->Prop}(hs:Region.noSelect ops=true):∀(o:Ord) (n:Nat) (listed:Array Bool) (a:Act) (w:World),C w->pZ ops listed ->
  Am P ops (Region.before ops) n o listed=true->Bn P ops C R o a w->xd P .any ops C R n listed a w
 | .done,0,listed,a,w,_,_,hB,h=>⟨by simpa[Am] using hB,h⟩
 | .done,n+1,listed,a,w,_,_,hB,h=>⟨λ_=>h,λi hi=>by
   have:Region.ready .any ops listed=[]:=by simpa[Am] using hB
   rw[this]at hi;cases hi⟩
 | .one k r,0,_,_,_,_,_,hB,_=>by simp[Am]at hB
 | .two ..,0,_,_,_,_,_,hB,_=>by simp[Am]at hB
 | .one k r,n+1,listed,a,w,hC,hS,hB,h=>by
  simp only[Am,Bool.and_eq_true]at hB;obtain⟨⟨hr,hf⟩,oS⟩:=hB;have jK:k∈Region.ready .any ops listed:=by simpa using hr
  obtain⟨_,ok,bU,_⟩:=mem_ready.1 jK;refine xg (i:=k) (oi:=ok) bU (Region.noSelect_spec hs) n listed a w hC hS (fL bU hf) jK ?_;exact bl hC (λa' w' sX hh=>pS hs r n _ a' w' sX (hS.set jK) oS hh) h
 | .two k r k' r',n+1,listed,a,w,hC,hS,hB,h=>by
  simp only[Am,Bool.and_eq_true,List.all_eq_true,Bool.or_eq_true,beq_iff_eq]at hB;obtain⟨⟨⟨hr,dA⟩,oT⟩,fx⟩:=hB;have jK:k∈Region.ready .any ops listed:=by simpa using hr
  refine⟨λh0=>(by rw[h0]at jK;cases jK),λi hi=>?_⟩;rcases dA i hi with rfl|rfl
  ·exact bl hC (λa' w' sX hh=>pS hs r n _ a' w' sX (hS.set hi) oT hh) h.1
  exact bl hC (λa' w' sX hh=>pS hs r' n _ a' w' sX (hS.set hi) fx hh) h.2
end
section
variable {P:Program}
def dZ (P:Program)(ops:List Oper)(C:World->Prop)(o:Option Oper)(K:Fr->World->Prop)(t:Fr)(w:World)(_:Ph (ops,C,K)):Prop:=match o with
 | none=>False
 | some o=>match o.guard with
  | none=>dm P o t w C (λv w'=>K (put t o.dst v) w') .mk
  | some (j,want)=>iE (iy ops j) want t (λt'=>dm P o t' w C (λv w'=>K (put t' o.dst v) w') .mk) (λt'=>K (put t' o.dst undef) w) .mk
def kZ (P:Program)(ops:List Oper)(C:World->Prop)(R:Fr->World->Prop):(o:Ord)->Fr->World->Ph (ops,C,R)->Prop
 | .done,t,w,_=>R t w
 | .one k r,t,w,_=>dZ P ops C ops[k]? (λt w=>kZ P ops C R r t w .mk) t w .mk
 | .two k r k' r',t,w,_=>dZ P ops C ops[k]? (λt w=>kZ P ops C R r t w .mk) t w .mk/\dZ P ops C ops[k']? (λt w=>kZ P ops C R r' t w .mk) t w .mk
theorem dN {ops:List Oper}{C:World->Prop}{K:Fr->World->Prop}{N:Act->World->Prop}(hn:∀t w,K t w->N ⟨t.toArray,[]⟩ w){k:Nat}{t:Fr}{w:World}(h:dZ P ops C ops[k]? K t w .mk):bA P ops.toArray C k N ⟨t.toArray,[]⟩ w:=by
 unfold dZ at h;split at h
 ·exact h.elim
 rename_i o h0;split at h
 ·rename_i hg;exact fV h0 (by simp[Region.wanted,hg]) (λv w' hk=>hn _ _ hk) h
 rename_i j want hg;rcases kB hg h with ⟨hw,hh⟩|⟨hw,hh⟩
 ·exact fV h0 hw (λv w' hk=>hn _ _ hk) hh
 exact sw h0 hw (hn _ _ hh)
theorem iB {ops:List Oper}{C:World->Prop}{R:Fr->World->Prop}{N:Act->World->Prop}(hn:∀t w,R t w->N ⟨t.toArray,[]⟩ w):∀(o:Ord) (t:Fr) (w:World),
  kZ P ops C R o t w .mk->Bn P ops.toArray C N o ⟨t.toArray,[]⟩ w
 | .done,t,w,h=>hn t w h
 | .one k r,t,w,h=>dN (λt w=>iB hn r t w) h
 | .two k r k' r',t,w,h=>⟨dN (λt w=>iB hn r t w) h.1,dN (λt w=>iB hn r' t w) h.2⟩
theorem vH {id:Nat}{l:List Oper}{t:Fr}{w:World}{Q:EP}{p}(o:Ord)(C:World->Prop)(hm:P.follows .mixedOrders=true)(hB:aJ3 P l.toArray o=true)(hC:C w.drew)
  (h:kZ P l C (Q .normal) o t w.drew .mk):cg P (.region id l.toArray true) Q t w p:=by
 unfold cg;simp only[aJ3,Bool.and_eq_true]at hB;refine wp_region_any hm (fP (C:=C) (R:=λa w=>lift Q .normal a w) (λ_ _ h=>h) _ _ _ _ hC ?_);refine pS hB.1 o _ _ _ _ hC (λj o _ hl=>by simp[Array.getElem?_replicate]at hl;split at hl<;>simp at hl) hB.2 ?_;exact iB (R:=Q .normal) (λt w hk=>⟨rfl,by simpa using hk⟩) o t w.drew h
theorem nW {a:Option Addr}{ad:Addr}(h:a=some ad):∀(e size arr n c k i) (L:VP) (p),iq (some (e,size)) arr (.slice a n c) (.int k i) L p=((0<=i/\i<n)/\L (.pointer (some (ad.add (i.toNat*size))))):=by
 subst h;intro e size arr n c k i L p;cases arr<;>rfl
theorem aCq {c:Code}{t:Fr}{w:World}{Q:EP}{p}(M:List Nat)(J:(Nat->Value)->World->Prop)(h1:cg P c (λe t' w'=>e=.normal/\t'=ov t M (at_ t')/\J (at_ t') w') t w .mk)
  (h2:∀z w',J z w'->Q .normal (ov t M z) w'):cg P c Q t w p:=by
 refine K0 ?_ h1;rintro e t' w' ⟨rfl,ht,hJ⟩;rw[ht];exact h2 _ _ hJ
variable {t:Fr} {w:World} {C:World->Prop} {R K:Fr->World->Prop}
theorem KX (ops)(p):kZ P ops C R .done t w p=R t w:=(rfl)
theorem NH (ops k r)(p):kZ P ops C R (.one k r) t w p=dZ P ops C ops[k]? (λt w=>kZ P ops C R r t w .mk) t w .mk:=(rfl)
theorem NI (ops k r k' r')(p):kZ P ops C R (.two k r k' r') t w p=(dZ P ops C ops[k]? (λt w=>kZ P ops C R r t w .mk) t w .mk/\dZ P ops C ops[k']? (λt w=>kZ P ops C R r' t w .mk) t w .mk):=(rfl)
theorem Jz (ops)(d op ty pos af)(p):dZ P ops C (some ⟨d,op,ty,pos,af,none⟩) K t w p=dm P ⟨d,op,ty,pos,af,none⟩ t w C (λv w'=>K (put t d v) w') .mk:=(rfl)
theorem Jy (ops)(d op ty pos af j want)(p):dZ P ops C (some ⟨d,op,ty,pos,af,some (j,want)⟩) K t w p =
  iE (iy ops j) want t (λt'=>dm P ⟨d,op,ty,pos,af,some (j,want)⟩ t' w C (λv w'=>K (put t' d v) w') .mk) (λt'=>K (put t' d undef) w) .mk:=(rfl)
theorem X3 (x:Oper)(l:List Oper):(x::l)[0]?=some x:=(rfl)
theorem X2 (x:Oper)(l:List Oper)(n:Nat):(x::l)[n+1]?=l[n]?:=(rfl)
end
attribute [push_cast] KX NH NI Jz Jy X3 X2
attribute [irreducible] kZ dZ
end Go.Vc
end
section
namespace Go.Vc
open Go.RowKit
section
variable {P:Program} {ops:Array Oper} {C:World->Prop}
def tO (P:Program)(ops:Array Oper)(C:World->Prop)(m:Nat)(R:Act->World->Prop):Nat->Array Bool->Act->World->Prop
 | 0,listed,a,w=>(∀j∈Region.ready .any ops listed,j=m)/\xd P .any ops (λ_=>True) R 1 listed a w
 | n+1,listed,a,w=>(Region.ready .any ops listed=[]->R a w)/\∀i∈Region.ready .any ops listed,bA P ops C i (tO P ops C m R n (listed.setIfInBounds i true)) a w
theorem ie {m:Nat}{R:Act->World->Prop}{Q:Exit->Act->World->Prop}(hq:∀a w,R a w->Q .normal a w):∀(n:Nat) (listed:Array Bool) (a:Act) (w:World),C w ->
  tO P ops C m R n listed a w->wpAny P .any ops Q (n+1) listed a w
 | 0,listed,a,w,_,h=>fP (C:=λ_=>True) hq 1 listed a w trivial h.2
 | fuel+1,listed,a,w,hC,h=>⟨λh0=>hq _ _ (h.1 h0),λi hi=>by
   have h1:=h.2 i hi;unfold bA at h1;unfold wpOp;split
   ·rename_i ho;simp only[ho]at h1;exact ie hq fuel _ _ _ hC h1
   rename_i o ho;simp only[ho]at h1;split
   ·rename_i hw;simp only[hw,if_true]at h1;refine .inl ?_;split at h1
    ·exact Oper.wp_mono (λa' w' hh=>ie hq fuel _ _ _ hh.1 hh.2) (lZ h1)
    obtain⟨v,hv,hk⟩:=h1;unfold Oper.wp;rw[hv w hC];exact ie hq fuel _ _ _ hC hk
   rename_i hw;simp only[hw]at h1;exact ie hq fuel _ _ _ hC h1⟩
theorem HE {m:Nat}{R:Act->World->Prop}{i:Nat}{oi:Oper}(hi:ops[i]?=some oi)(him:i≠m)(hm:((Region.before ops).getD m 0).testBit i=true)(og:∀(j:Nat) (o:Oper) cs b,ops[j]?=some o->o.op≠.select cs b) :
  ∀(fuel:Nat) (listed:Array Bool) (a:Act) (w:World),C w->pZ ops listed ->
   (∀j oj,ops[j]?=some oj->j≠i->listed.getD j true=false->((Region.before ops).getD j 0).testBit i=false->oi.apart ops oj=true/\(chain P oi && chain P oj)=false) ->
   i∈Region.ready .any ops listed->bA P ops C i (tO P ops C m R fuel (listed.setIfInBounds i true)) a w->tO P ops C m R (fuel+1) listed a w:=by
 have AM:∀listed:Array Bool,i∈Region.ready .any ops listed->listed.getD i false=false:=λlisted hr=>by
  have h0:=(mem_ready.1 hr).1;rcases Nat.lt_or_ge i listed.size with h'|h'
  ·simp[h']at h0 ⊢;exact h0
  simp[Array.getElem?_eq_none h']
 intro fuel;induction fuel with
 | zero =>
  intro listed a w hC hS _ hr H;refine⟨λh=>(by rw[h]at hr;cases hr),λj hj=>?_⟩;by_cases nD:j=i
  ·subst nD;exact H
  have:=ready_mono hj nD;obtain⟨_,_,_,hh⟩:=pC hC H;have Lm:=hh.1 j this;subst Lm;obtain⟨_,oj,qQ,dA⟩:=mem_ready.1 hj
  have:=hS.before j i oj qQ dA hm;rw[AM listed hr]at this;cases this
 | succ fuel ih =>
  intro listed a w hC hS lA hr H;refine⟨λh=>(by rw[h]at hr;cases hr),λj hj=>?_⟩;by_cases nD:j=i
  ·subst nD;exact H
  have h1:bA P ops C i (bA P ops C j (tO P ops C m R fuel ((listed.setIfInBounds i true).setIfInBounds j true))) a w :=
   bl hC (λa' w' _ hh=>hh.2 j (ready_mono hj nD)) H
  obtain⟨uL,oj,qQ,dA⟩:=mem_ready.1 hj;have GC:=AM listed hr;have AH:((Region.before ops).getD j 0).testBit i=false:=by
   cases hb:((Region.before ops).getD j 0).testBit i with
   | false=>rfl
   | true=>have:=hS.before j i oj qQ dA hb;rw[GC]at this;cases this
  obtain⟨sZ,TJ⟩:=lA j oj qQ nD uL AH;have h2:=mP hi qQ sZ TJ (λcs b=>og i oi cs b hi) (λcs b=>og j oj cs b qQ) h1;refine bl hC (λa' w' sX h3=>ih (listed.setIfInBounds j true) a' w' sX (hS.set hj) ?_ (ready_mono hr (Ne.symm nD)) ?_) h2
  ·intro k ok hk Ib AM gG;refine lA k ok hk Ib ?_ gG;by_cases Ll:j=k
   ·subst Ll;exact uL
   rw[getD_set_ne true Ll]at AM;exact AM
  rw[Array.setIfInBounds_comm _ _ nD];exact h3
def qY (P:Program)(ops:Array Oper)(bf:Array Nat)(m:Nat):Nat->Nat->Array Bool->Bool
 | 0,_,listed=>(Region.ready .any ops listed).contains m && (Region.ready .any ops listed).all (· == m) && (Region.ready .any ops (listed.setIfInBounds m true)).isEmpty
 | fuel+1,k,listed=>(Region.ready .any ops listed).contains k && lT P ops bf listed k && (bf.getD m 0).testBit k && qY P ops bf m fuel (k+1) (listed.setIfInBounds k true)
def aDo (P:Program)(ops:Array Oper):Bool:=Region.noSelect ops && qY P ops (Region.before ops) (ops.size-1) (ops.size-1) 0 (Array.replicate ops.size false)
def wM (P:Program)(ops:Array Oper)(C:World->Prop)(m:Nat)(R:Act->World->Prop):List Nat->Act->World->Prop
 | [],a,w=>bA P ops (λ_=>True) m R a w
 | i::r,a,w=>bA P ops C i (wM P ops C m R r) a w
theorem Bj {m:Nat}{R:Act->World->Prop}(hs:Region.noSelect ops=true):∀(n k:Nat) (listed:Array Bool) (a:Act) (w:World),k+n=m->m<ops.size->C w->pZ ops listed ->
  qY P ops (Region.before ops) m n k listed=true->wM P ops C m R (List.range' k n) a w->tO P ops C m R n listed a w
 | 0,_,listed,a,w,_,_,_,_,hB,h=>by
  simp only[qY,Bool.and_eq_true,List.all_eq_true,beq_iff_eq,List.isEmpty_iff]at hB;obtain⟨⟨h1,h2⟩,h3⟩:=hB;refine⟨h2,⟨λh0=>?_,λi hi=>?_⟩⟩
  ·rw[h0]at h1;simp at h1
  rw[h2 i hi];exact bl trivial (λa' w' _ hh=>⟨h3,hh⟩) h
 | n+1,k,listed,a,w,hk,aj,hC,hS,hB,h=>by
  simp only[qY,Bool.and_eq_true]at hB;obtain⟨⟨⟨hr,hf⟩,hm⟩,oS⟩:=hB;have qO:k<ops.size:=by omega
  have jK:k∈Region.ready .any ops listed:=by simpa using hr
  refine HE (i:=k) (oi:=ops[k]) (by simp[qO]) (by omega) hm (Region.noSelect_spec hs) n listed a w hC hS (fL (by simp[qO]) hf) jK ?_;simp only[List.range'_succ,wM]at h;exact bl hC (λa' w' sX hh=>Bj hs n (k+1) _ a' w' (by omega) aj sX (hS.set jK) oS hh) h
end
section
variable {P:Program}
def j5 (P:Program)(ops:List Oper)(C:World->Prop)(R:Fr->World->Prop):(l:List Oper)->Fr->World->Ph (ops,C,R,l)->Prop
 | [],_,_,_=>False
 | [o],t,w,_=>match o.guard with
  | none=>dm P o t w (λ_=>True) (λv w'=>R (put t o.dst v) w') .mk
  | some _=>False
 | o::o'::r,t,w,_=>match o.guard with
  | none=>dm P o t w C (λv w'=>j5 P ops C R (o'::r) (put t o.dst v) w' .mk) .mk
  | some (j,want)=>iE (iy ops j) want t (λt'=>dm P o t' w C (λv w'=>j5 P ops C R (o'::r) (put t' o.dst v) w' .mk) .mk) (λt'=>j5 P ops C R (o'::r) (put t' o.dst undef) w .mk) .mk
theorem oQ {ops:List Oper}{C:World->Prop}{R:Fr->World->Prop}{N:Act->World->Prop}(hn:∀t w,R t w->N ⟨t.toArray,[]⟩ w):∀(l:List Oper) (k m:Nat) (t:Fr) (w:World),(∀j,l[j]?=ops[k+j]?)->k+l.length=m+1 ->
  j5 P ops C R l t w .mk->wM P ops.toArray C m N (List.range' k (l.length-1)) ⟨t.toArray,[]⟩ w
 | [],_,_,_,_,_,_,h=>h.elim
 | [o],k,m,t,w,hl,hm,h=>by
  have vK:k=m:=by simpa using hm
  subst vK;have h0:ops[k]?=some o:=by simpa using(hl 0).symm
  simp only[j5]at h;simp only[List.length_cons,List.length_nil,Nat.zero_add,Nat.sub_self,List.range'_zero,wM];split at h
  ·rename_i hg;exact fV h0 (by simp[Region.wanted,hg]) (λv w' hk=>hn _ _ hk) h
  exact h.elim
 | o::o'::r,k,m,t,w,hl,hm,h=>by
  have h0:ops[k]?=some o:=by simpa using(hl 0).symm
  have ih:=λt w=>oQ (C:=C) hn (o'::r) (k+1) m t w (λj=>by have:=hl (j+1);simpa[Nat.add_assoc,Nat.add_comm 1 j] using this) (by simp only[List.length_cons]at hm ⊢;omega);have hlen:(o::o'::r).length-1=((o'::r).length-1)+1:=by simp
  rw[hlen,List.range'_succ];simp only[wM];simp only[j5]at h;split at h
  ·rename_i hg;exact fV h0 (by simp[Region.wanted,hg]) (λv w' hk=>ih _ _ hk) h
  rename_i j want hg;rcases kB hg h with ⟨hw,hh⟩|⟨hw,hh⟩
  ·exact fV h0 hw (λv w' hk=>ih _ _ hk) hh
  exact sw h0 hw (ih _ _ hh)
theorem dU {id:Nat}{l:List Oper}{t:Fr}{w:World}{Q:EP}{p}(C:World->Prop)(hm:P.follows .mixedOrders=true)(hB:aDo P l.toArray=true)(hl:l≠[])(hC:C w.drew)
  (h:j5 P l C (Q .normal) l t w.drew .mk):cg P (.region id l.toArray true) Q t w p:=by
 unfold cg;simp only[aDo,Bool.and_eq_true]at hB;have yJ:0<l.length:=List.length_pos_iff.2 hl;have D4:l.toArray.size=(l.length-1)+1:=by simp;omega
 refine wp_region_any hm ?_;have hG:tO P l.toArray C (l.length-1) (λa w=>lift Q .normal a w) (l.length-1) (Array.replicate l.toArray.size false) ⟨t.toArray,[]⟩ w.drew:=by
  refine Bj hB.1 _ 0 _ _ _ (by simp) (by simp;omega) hC (λj o _ hl=>by simp[Array.getElem?_replicate]at hl;split at hl<;>simp at hl) (by simpa using hB.2) ?_;exact oQ (P:=P) (ops:=l) (C:=C) (R:=Q .normal) (N:=λa w=>lift Q .normal a w) (λt w hk=>⟨rfl,by simpa using hk⟩) l 0 (l.length-1) t w.drew (λj=>by simp) (by omega) h
 have:=ie (C:=C) (R:=λa w=>lift Q .normal a w) (Q:=λe a w=>lift Q e a w) (λ_ _ h=>h) _ _ _ _ hC hG;rw[<-D4]at this;exact this
variable {t:Fr} {w:World} {C:World->Prop} {K:VK} {R:Fr->World->Prop}
theorem NC (ops)(d op ty pos af)(p):j5 P ops C R [⟨d,op,ty,pos,af,none⟩] t w p=dm P ⟨d,op,ty,pos,af,none⟩ t w (λ_=>True) (λv w'=>R (put t d v) w') .mk:=(rfl)
theorem Gz (ops)(d op ty pos af o' r)(p):j5 P ops C R (⟨d,op,ty,pos,af,none⟩::o'::r) t w p=dm P ⟨d,op,ty,pos,af,none⟩ t w C (λv w'=>j5 P ops C R (o'::r) (put t d v) w' .mk) .mk:=(rfl)
theorem Gy (ops)(d op ty pos af j want o' r)(p):j5 P ops C R (⟨d,op,ty,pos,af,some (j,want)⟩::o'::r) t w p =
  iE (iy ops j) want t (λt'=>dm P ⟨d,op,ty,pos,af,some (j,want)⟩ t' w C (λv w'=>j5 P ops C R (o'::r) (put t' d v) w' .mk) .mk) (λt'=>j5 P ops C R (o'::r) (put t' d undef) w .mk) .mk:=(rfl)
end
attribute [push_cast] NC Gz Gy
attribute [irreducible] j5
end Go.Vc
end
section
namespace Go.Vc
open Go.RowKit
section
variable {P:Program}
end
end Go.Vc
end
section
namespace Go.Vc
open Go.RowKit
section
variable {P:Program} {ops:Array Oper} {C:World->Prop}
end
section
variable {P:Program} {ops:Array Oper} {C:World->Prop}
def HF (P:Program)(ops:Array Oper)(R:Act->World->Prop):List Nat->Act->World->Prop
 | [],a,w=>R a w
 | k::r,a,w=>bA P ops (λ_=>True) k (HF P ops R r) a w
def Yi (P:Program)(ops:Array Oper)(C:World->Prop)(R:Act->World->Prop)(post:List Nat):List Nat->Act->World->Prop
 | [],a,w=>HF P ops R post a w
 | k::r,a,w=>bA P ops C k (Yi P ops C R post r) a w
end
section
variable {P:Program}
def rA (P:Program)(ops:List Oper)(R:Fr->World->Prop):(l:List Nat)->Fr->World->Ph (ops,R,l)->Prop
 | [],t,w,_=>R t w
 | k::r,t,w,_=>dZ P ops (λ_=>True) ops[k]? (λt w=>rA P ops R r t w .mk) t w .mk
def Bf (P:Program)(ops:List Oper)(C:World->Prop)(R:Fr->World->Prop)(post:List Nat):(l:List Nat)->Fr->World->Ph (ops,C,R,post,l)->Prop
 | [],t,w,_=>rA P ops R post t w .mk
 | k::r,t,w,_=>dZ P ops C ops[k]? (λt w=>Bf P ops C R post r t w .mk) t w .mk
theorem oR {ops:List Oper}{R:Fr->World->Prop}{N:Act->World->Prop}(hn:∀t w,R t w->N ⟨t.toArray,[]⟩ w):∀(l:List Nat) (t:Fr) (w:World),rA P ops R l t w .mk->HF P ops.toArray N l ⟨t.toArray,[]⟩ w
 | [],t,w,h=>hn t w h
 | k::r,t,w,h=>dN (λt w=>oR hn r t w) h
theorem rC {ops:List Oper}{C:World->Prop}{R:Fr->World->Prop}{N:Act->World->Prop}{post:List Nat}(hn:∀t w,R t w->N ⟨t.toArray,[]⟩ w):∀(l:List Nat) (t:Fr) (w:World),Bf P ops C R post l t w .mk->Yi P ops.toArray C N post l ⟨t.toArray,[]⟩ w
 | [],t,w,h=>oR hn post t w h
 | k::r,t,w,h=>dN (λt w=>rC hn r t w) h
variable {t:Fr} {w:World} {C:World->Prop} {R:Fr->World->Prop}
theorem ND (ops)(p):rA P ops R [] t w p=R t w:=(rfl)
theorem KV (ops k r)(p):rA P ops R (k::r) t w p=dZ P ops (λ_=>True) ops[k]? (λt w=>rA P ops R r t w .mk) t w .mk:=(rfl)
theorem Sy (ops post)(p):Bf P ops C R post [] t w p=rA P ops R post t w .mk:=(rfl)
theorem NG (ops post k r)(p):Bf P ops C R post (k::r) t w p=dZ P ops C ops[k]? (λt w=>Bf P ops C R post r t w .mk) t w .mk:=(rfl)
end
attribute [push_cast] ND KV Sy NG
attribute [irreducible] rA Bf
end Go.Vc
end
section
namespace Go.Vc
open Go.RowKit
section
variable {P:Program} {w:World} {K:VK} {L:VP} {other:Prop}
theorem YW {α:Type}{X:Nat->Prop}{R:List Value->α->Prop}{e e':TypeId}{k n c i:Nat}{a:Option Addr}{l:List α}{p}(hs:Sl X k R w (.slice a n c) l)(hi:i<=n)
  (kk:∀a' c',Sl X k R w (.slice a' (n-i) c') (l.drop i)->L (.slice a' (n-i) c')):fY (some (.slice e)) (some (e',k)) (.slice a n c) (some (.int .i64 (i:Int))) none none L other p:=by
 unfold Sl at hs;obtain⟨a0,c0,he,hc,yZ⟩:=hs;cases he;simp only[fY,gm];refine⟨by omega,?_⟩;simp only[Int.toNat_natCast];refine kk _ _ ?_;refine⟨_,_,by rw[List.length_drop],by rw[List.length_drop];omega,λj x hx=>?_⟩;rw[List.getElem?_drop]at hx;have aj:=(List.getElem?_eq_some_iff.1 hx).1;obtain⟨b,o,cs,rfl,hb,il,aU,hr⟩:=yZ (i+j) x hx;rw[if_neg (by omega)];refine⟨b,o+i*k,cs,by simp only[Option.map_some,add_lit],hb,il,λq u hu=>?_,hr⟩
 have:=aU q u hu;rwa [Nat.add_mul,<-Nat.add_assoc]at this
theorem YV {α:Type}{X:Nat->Prop}{R:List Value->α->Prop}{e e':TypeId}{k n c i:Nat}{a:Option Addr}{l:List α}{p}(hs:Sl X k R w (.slice a n c) l)(hi:i<=n)
  (kk:Sl X k R w (.slice a i c) (l.take i)->L (.slice a i c)):fY (some (.slice e)) (some (e',k)) (.slice a n c) none (some (.int .i64 (i:Int))) none L other p:=by
 have hs0:=hs;unfold Sl at hs;obtain⟨a0,c0,he,hc,yZ⟩:=hs;cases he;simp only[fY,gm];refine⟨by omega,?_⟩;have e1:(a.map (·.add (Int.toNat ((0:Nat):Int)*k)))=a:=by
  cases a with
  | none=>rfl
  | some a=>simp[Addr.add]
 rw[e1,ite_self];simp only[Int.toNat_natCast,Nat.sub_zero];refine kk ⟨_,_,by rw[List.length_take,Nat.min_eq_left hi],by rw[List.length_take];omega,λj x hx=>yZ j x ?_⟩;rw[List.getElem?_take]at hx;split at hx
 ·exact hx
 cases hx
theorem vF {α:Type}{base:Nat}{e:TypeId}{enc:α->List Value}{v:Value}{l:List α}{g i:Nat}{y:α}{u:Value}{p}(ho:Own base e 1 enc w v l)(hg:v.ownBlock=some g)(hi:i<l.length)(hu:enc y=[u])(h1:jt u=true)
  (kk:∀w',Own base e 1 enc w' v (l.set i y)->Kept (·=g) w w'->w'.heap.size=w.heap.size->K undef w'):tN (some none) (.pointer (some ⟨g,i,none⟩)) u w K other p:=by
 obtain⟨⟨hlen,hr⟩,hk⟩:=ho;have DX:∀l:List α,(l.flatMap enc).length=l.length:=λl=>by
  induction l with
  | nil=>rfl
  | cons x l ih=>simp[List.flatMap_cons,hk,ih];omega
 rcases hr with ⟨he,_⟩|⟨g',cap,cur,he,hbg,K7,vr,tR,il,Ns⟩
 ·subst he;cases hg
 subst he;have:g'=g:=by simpa[Value.ownBlock] using hg
 subst this;have hB:aL w g' e cur.toList:=K7;have TQ:l.length<=cur.size:=by have:=congrArg List.length Ns;rw[List.length_take,DX,Array.length_toList]at this;omega
 refine aC hB (by rw[Array.length_toList];omega) h1 ?_;intro w' tU;refine kk w' ⟨⟨?_,.inr ⟨g',cap,(cur.toList.set i u).toArray,by simp,hbg,tU.aM,by simpa using vr,tR,by simpa using il,?_⟩⟩,hk⟩ tU.kept tU.size
 ·rw[DX,List.length_set];omega
 have sk:(l.set i y).flatMap enc=(l.flatMap enc).set i u:=by
  clear hg hi kk Ns TQ hlen vr tU;induction l generalizing i with
  | nil=>simp
  | cons x l ih =>
   have hx:=hk x;match hex:enc x,hx with
   | [z],_ =>
    cases i with
    | zero=>simp[List.flatMap_cons,hu,hex]
    | succ i=>simp[List.flatMap_cons,hex];exact ih
 rw[sk,<-Ns,List.length_set];simp only[List.length_take,List.length_set,Array.length_toList];rw[List.take_set]
end
end Go.Vc
end
section
namespace Go.Vc
open Go.RowKit
def still (o:Oper):Bool:=match o.op with
 | .move _=>true
 | _=>false
def cls (C:World->Prop)(m:Nat)(listed:Array Bool):World->Prop:=λw=>listed.getD m false=true\/C w
section
variable {P:Program} {ops:Array Oper} {C:World->Prop}
theorem oZ {m:Nat}{listed:Array Bool}(h:listed.getD m false=true):cls C m listed=λ_=>True:=funext λw=>propext ⟨λ_=>trivial,λ_=>.inl h⟩
theorem sT {m:Nat}{listed:Array Bool}(h:listed.getD m false=false):cls C m listed=C:=funext λw=>propext ⟨λhh=>hh.resolve_left (by rw[h];simp),.inr⟩
theorem zT {m i:Nat}{listed:Array Bool}{w:World}(h:cls C m listed w):cls C m (listed.setIfInBounds i true) w:=by
 rcases h with h|h
 ·exact .inl (getD_set_true h)
 exact .inr h
theorem JP {D:World->Prop}{i:Nat}{o:Oper}{K:Act->World->Prop}{a:Act}{w:World}(hi:ops[i]?=some o)(hs:still o=true)(hC:C w)(h:bA P ops C i K a w):bA P ops D i K a w:=by
 unfold still at hs;split at hs
 ·rename_i x hx;have TJ:chain P o=false:=by unfold chain;rw[hx]
  unfold bA at h ⊢
  simp only[hi,TJ,Bool.false_eq_true,if_false]at h ⊢
  split at h
  ·rename_i hw;rw[if_pos hw];obtain⟨v,hv,hk⟩:=h;have e:∀w':World,(execOp a.eval o).run P w'=.ok (.value (a.eval x)) w':=λw'=>by unfold execOp;rw[hx];rfl
   have:=hv w hC;rw[e w]at this;cases this;exact⟨_,λw' _=>e w',hk⟩
  rename_i hw;rw[if_neg hw];exact h
 cases hs
def pP (P:Program)(ops:Array Oper)(C:World->Prop)(m:Nat)(R:Act->World->Prop):Nat->Array Bool->Act->World->Prop
 | 0,listed,a,w=>Region.ready .any ops listed=[]/\R a w
 | n+1,listed,a,w=>(Region.ready .any ops listed=[]->R a w)/\∀i∈Region.ready .any ops listed,bA P ops (cls C m (listed.setIfInBounds i true)) i (pP P ops C m R n (listed.setIfInBounds i true)) a w
theorem ig {m:Nat}{R:Act->World->Prop}{Q:Exit->Act->World->Prop}(hq:∀a w,R a w->Q .normal a w):∀(n:Nat) (listed:Array Bool) (a:Act) (w:World),cls C m listed w ->
  pP P ops C m R n listed a w->wpAny P .any ops Q n listed a w
 | 0,listed,a,w,_,h=>⟨h.1,hq _ _ h.2⟩
 | fuel+1,listed,a,w,hC,h=>⟨λh0=>hq _ _ (h.1 h0),λi hi=>by
   have h1:=h.2 i hi;have sX:=zT (i:=i) hC;unfold bA at h1;unfold wpOp;split
   ·rename_i ho;simp only[ho]at h1;exact ig hq fuel _ _ _ sX h1
   rename_i o ho;simp only[ho]at h1;split
   ·rename_i hw;simp only[hw,if_true]at h1;refine .inl ?_;split at h1
    ·exact Oper.wp_mono (λa' w' hh=>ig hq fuel _ _ _ hh.1 hh.2) (lZ h1)
    obtain⟨v,hv,hk⟩:=h1;unfold Oper.wp;rw[hv w sX];exact ig hq fuel _ _ _ sX hk
   rename_i hw;simp only[hw]at h1;exact ig hq fuel _ _ _ sX h1⟩
theorem vI {m:Nat}{R:Act->World->Prop}{i:Nat}{oi:Oper}(hi:ops[i]?=some oi)(og:∀(j:Nat) (o:Oper) cs b,ops[j]?=some o->o.op≠.select cs b) :
  ∀(fuel:Nat) (listed:Array Bool) (a:Act) (w:World),cls C m listed w->pZ ops listed ->
   (listed.getD m false=true\/(i≠m/\(((Region.before ops).getD m 0).testBit i=true\/still oi=true))) ->
   (∀j oj,ops[j]?=some oj->j≠i->listed.getD j true=false->((Region.before ops).getD j 0).testBit i=false->oi.apart ops oj=true/\(chain P oi && chain P oj)=false) ->
   i∈Region.ready .any ops listed->bA P ops (cls C m (listed.setIfInBounds i true)) i (pP P ops C m R fuel (listed.setIfInBounds i true)) a w->pP P ops C m R (fuel+1) listed a w:=by
 have AM:∀listed:Array Bool,∀i∈Region.ready .any ops listed,i<listed.size/\listed.getD i false=false:=λlisted i hr=>by
  have h0:=(mem_ready.1 hr).1;rcases Nat.lt_or_ge i listed.size with h'|h'
  ·simp[h']at h0 ⊢;exact h0
  simp[h']at h0
 intro fuel;induction fuel with
 | zero =>
  intro listed a w hC hS _ _ hr H;refine⟨λh=>(by rw[h]at hr;cases hr),λj hj=>?_⟩;by_cases nD:j=i
  ·subst nD;exact H
  have:=ready_mono hj nD;obtain⟨_,_,_,hh⟩:=pC (zT hC) H;rw[hh.1]at this;cases this
 | succ fuel ih =>
  intro listed a w hC hS xA lA hr H;refine⟨λh=>(by rw[h]at hr;cases hr),λj hj=>?_⟩;by_cases nD:j=i
  ·subst nD;exact H
  have h1:bA P ops (cls C m (listed.setIfInBounds i true)) i (bA P ops (cls C m ((listed.setIfInBounds i true).setIfInBounds j true)) j (pP P ops C m R fuel ((listed.setIfInBounds i true).setIfInBounds j true))) a w :=
   bl (zT hC) (λa' w' _ hh=>hh.2 j (ready_mono hj nD)) H
  obtain⟨uL,oj,qQ,dA⟩:=mem_ready.1 hj;obtain⟨aNi,GC⟩:=AM listed i hr;have aEU:=(AM listed j hj).1;have AH:((Region.before ops).getD j 0).testBit i=false:=by
   cases hb:((Region.before ops).getD j 0).testBit i with
   | false=>rfl
   | true=>have:=hS.before j i oj qQ dA hb;rw[GC]at this;cases this
  obtain⟨sZ,TJ⟩:=lA j oj qQ nD uL AH;have key:∃D:World->Prop,D w/\cls C m (listed.setIfInBounds j true)=D/\cls C m ((listed.setIfInBounds j true).setIfInBounds i true)=D/\bA P ops D i (bA P ops D j (pP P ops C m R fuel ((listed.setIfInBounds i true).setIfInBounds j true))) a w /\
    ((listed.setIfInBounds j true).getD m false=true\/(i≠m/\(((Region.before ops).getD m 0).testBit i=true\/still oi=true))):=by
   cases hm:listed.getD m false with
   | true =>
    have e1:∀k,(listed.setIfInBounds k true).getD m false=true:=λk=>getD_set_true hm;have e2:∀k k',((listed.setIfInBounds k true).setIfInBounds k' true).getD m false=true:=λk k'=>getD_set_true (e1 k);rw[oZ (e1 i),oZ (e2 i j)]at h1;exact⟨λ_=>True,trivial,oZ (e1 j),oZ (e2 j i),h1,.inl (e1 j)⟩
   | false =>
    have nV:=xA.resolve_left (by rw[hm];simp);have hCw:C w:=by rw[sT hm]at hC;exact hC
    have ei:(listed.setIfInBounds i true).getD m false=false:=by rw[getD_set_ne false nV.1];exact hm
    by_cases Lm:j=m
    ·subst Lm;have cI:still oi=true:=by
      rcases nV.2 with h|h
      ·rw[AH]at h;cases h
      exact h
     have ej:(listed.setIfInBounds j true).getD j false=true:=by simp[aEU]
     have eji:((listed.setIfInBounds j true).setIfInBounds i true).getD j false=true:=getD_set_true ej;have eij:((listed.setIfInBounds i true).setIfInBounds j true).getD j false=true:=by simp[aEU]
     rw[sT ei,oZ eij]at h1;exact⟨λ_=>True,trivial,oZ ej,oZ eji,JP hi cI hCw h1,.inl ej⟩
    have ej:(listed.setIfInBounds j true).getD m false=false:=by rw[getD_set_ne false Lm];exact hm
    have eji:((listed.setIfInBounds j true).setIfInBounds i true).getD m false=false:=by rw[getD_set_ne false nV.1];exact ej
    have eij:((listed.setIfInBounds i true).setIfInBounds j true).getD m false=false:=by rw[getD_set_ne false Lm];exact ei
    rw[sT ei,sT eij]at h1;exact⟨C,hCw,sT ej,sT eji,h1,.inr nV⟩
  obtain⟨D,hD,eD1,eD2,h1,uI⟩:=key;have h2:=mP hi qQ sZ TJ (λcs b=>og i oi cs b hi) (λcs b=>og j oj cs b qQ) h1;rw[eD1];refine bl hD (λa' w' sX h3=>ih (listed.setIfInBounds j true) a' w' (by rw[eD1];exact sX) (hS.set hj) uI ?_ (ready_mono hr (Ne.symm nD)) ?_) h2
  ·intro k ok hk Ib W9 gG;refine lA k ok hk Ib ?_ gG;by_cases Ll:j=k
   ·subst Ll;exact uL
   rw[getD_set_ne true Ll]at W9;exact W9
  rw[eD2,Array.setIfInBounds_comm _ _ nD];exact h3
def xa (P:Program)(ops:Array Oper)(bf:Array Nat)(m:Nat):List Nat->Array Bool->Bool
 | [],listed=>(Region.ready .any ops listed).isEmpty
 | k::r,listed=>(Region.ready .any ops listed).contains k && (if listed.getD m false then lT P ops bf listed k else if k == m then (Region.ready .any ops listed).all (· == m) else lT P ops bf listed k && ((bf.getD m 0).testBit k || (match ops[k]? with|some o=>still o|none=>false))) && xa P ops bf m r (listed.setIfInBounds k true)
def X4 (P:Program)(ops:Array Oper)(pre:List Nat)(m:Nat)(post:List Nat):Bool:=Region.noSelect ops && (pre.length+(post.length+1) == ops.size) && pre.all (· != m) && decide (m<ops.size) && xa P ops (Region.before ops) m (pre++m::post) (Array.replicate ops.size false)
theorem xe {m:Nat}{R:Act->World->Prop}(hs:Region.noSelect ops=true):∀(post:List Nat) (listed:Array Bool) (a:Act) (w:World),listed.getD m false=true->pZ ops listed ->
  xa P ops (Region.before ops) m post listed=true->HF P ops R post a w->pP P ops C m R post.length listed a w
 | [],listed,a,w,_,_,hB,h=>⟨by simpa[xa] using hB,h⟩
 | k::r,listed,a,w,hm,hS,hB,h=>by
  simp only[xa,Bool.and_eq_true,hm,if_true]at hB;obtain⟨⟨hr,hf⟩,oS⟩:=hB;have jK:k∈Region.ready .any ops listed:=by simpa using hr
  obtain⟨_,ok,bU,_⟩:=mem_ready.1 jK;refine vI (i:=k) (oi:=ok) bU (Region.noSelect_spec hs) r.length listed a w (.inl hm) hS (.inl hm) (fL bU hf) jK ?_;rw[oZ (getD_set_true hm)];exact bl trivial (λa' w' _ hh=>xe hs r _ a' w' (getD_set_true hm) (hS.set jK) oS hh) h
theorem Bk {m:Nat}{post:List Nat}{R:Act->World->Prop}(hs:Region.noSelect ops=true):∀(pre:List Nat) (listed:Array Bool) (a:Act) (w:World),C w->listed.getD m false=false->(∀k∈pre,k≠m)->pZ ops listed ->
  xa P ops (Region.before ops) m (pre++m::post) listed=true->Yi P ops C R (m::post) pre a w->pP P ops C m R (pre++m::post).length listed a w
 | [],listed,a,w,hC,hm,_,hS,hB,h=>by
  simp only[List.nil_append,xa,Bool.and_eq_true,hm,Bool.false_eq_true,if_false,beq_self_eq_true,if_true,List.all_eq_true,beq_iff_eq]at hB;obtain⟨⟨hr,dA⟩,oS⟩:=hB;have jK:m∈Region.ready .any ops listed:=by simpa using hr
  have D4:m<listed.size:=by
   have h0:=(mem_ready.1 jK).1;rcases Nat.lt_or_ge m listed.size with h'|h'
   ·exact h'
   simp[h']at h0
  have em:(listed.setIfInBounds m true).getD m false=true:=by simp[D4]
  refine⟨λh0=>(by rw[h0]at jK;cases jK),λi hi=>?_⟩;rw[dA i hi];rw[oZ em];exact bl trivial (λa' w' _ hh=>xe hs post _ a' w' em (hS.set jK) oS hh) h
 | k::r,listed,a,w,hC,hm,cW,hS,hB,h=>by
  have vK:k≠m:=cW k (by simp);simp only[List.cons_append,xa,Bool.and_eq_true,hm,Bool.false_eq_true,if_false,beq_iff_eq,vK,Bool.or_eq_true]at hB;obtain⟨⟨hr,hf,cI⟩,oS⟩:=hB;have jK:k∈Region.ready .any ops listed:=by simpa using hr
  obtain⟨_,ok,bU,_⟩:=mem_ready.1 jK;rw[bU]at cI;have em:(listed.setIfInBounds k true).getD m false=false:=by rw[getD_set_ne false vK];exact hm
  refine vI (i:=k) (oi:=ok) bU (Region.noSelect_spec hs) _ listed a w (.inr hC) hS (.inr ⟨vK,cI⟩) (fL bU hf) jK ?_;rw[sT em];exact bl hC (λa' w' sX hh=>Bk hs r _ a' w' sX em (λk hk=>cW k (by simp[hk])) (hS.set jK) oS hh) h
end
section
variable {P:Program}
theorem Bh {id:Nat}{l:List Oper}{t:Fr}{w:World}{Q:EP}{p}(pre:List Nat)(m:Nat)(post:List Nat)(C:World->Prop)(hm:P.follows .mixedOrders=true)(hB:X4 P l.toArray pre m post=true)(hC:C w.drew)
  (h:Bf P l C (Q .normal) (m::post) pre t w.drew .mk):cg P (.region id l.toArray true) Q t w p:=by
 unfold cg;simp only[X4,Bool.and_eq_true,beq_iff_eq,List.all_eq_true,bne_iff_ne,decide_eq_true_eq]at hB;refine wp_region_any hm ?_;have hG:pP P l.toArray C m (λa w=>lift Q .normal a w) (pre++m::post).length (Array.replicate l.toArray.size false) ⟨t.toArray,[]⟩ w.drew:=by
  refine Bk hB.1.1.1.1 pre _ _ _ hC (by rw[Array.getD_eq_getD_getElem?,Array.getElem?_replicate];split<;>rfl) hB.1.1.2 (λj o _ hl=>by simp[Array.getElem?_replicate]at hl;split at hl<;>simp at hl) hB.2 ?_;exact rC (P:=P) (R:=Q .normal) (N:=λa w=>lift Q .normal a w) (λt w hk=>⟨rfl,by simpa using hk⟩) pre t w.drew h
 have:=ig (C:=C) (R:=λa w=>lift Q .normal a w) (Q:=λe a w=>lift Q e a w) (λ_ _ h=>h) _ _ _ _ (.inr hC) hG;rw[List.length_append,List.length_cons,hB.1.1.1.2]at this;exact this
end
end Go.Vc
end
section
namespace Go.Vc
open Go.RowKit
section
variable {P:Program} {w:World} {t:Fr} {K:VK} {Q:EP} {L:VP} {other:Prop}
theorem qI {α:Type}{k:Nat}{enc:α->List Value}(hk:∀x,(enc x).length=k):∀(l:List α),(l.flatMap enc).length=l.length*k
 | []=>by simp
 | y::ys=>by simp[List.flatMap_cons,hk,qI hk ys,Nat.add_mul];omega
theorem uB {α:Type}{k:Nat}{enc:α->List Value}(hk:∀x,(enc x).length=k){f:Nat}(hf:f<k){u:Value}{x y:α}(hy:enc y=(enc x).set f u):∀(l:List α) (i:Nat),l[i]?=some x->(l.set i y).flatMap enc=(l.flatMap enc).set (i*k+f) u
 | [],i,h=>by simp at h
 | z::l,0,h=>by
  simp at h;subst h;simp only[List.set_cons_zero,List.flatMap_cons,Nat.zero_mul,Nat.zero_add];rw[hy,List.set_append_left _ _ (by rw[hk];exact hf)]
 | z::l,i+1,h=>by
  simp only[List.set_cons_succ,List.flatMap_cons];rw[uB hk hf hy l i (by simpa using h),List.set_append_right _ _ (by rw[hk,Nat.add_mul];omega),hk];congr 2;rw[Nat.add_mul];omega
theorem uA {α:Type}{k:Nat}{enc:α->List Value}(hk:∀x,(enc x).length=k){y:α}:∀(l:List α) (i:Nat),i<l.length->(l.set i y).flatMap enc=(l.flatMap enc).take (i*k)++enc y++(l.flatMap enc).drop (i*k+k)
 | [],i,h=>by simp at h
 | z::l,0,h=>by
  simp only[List.set_cons_zero,List.flatMap_cons,Nat.zero_mul,Nat.zero_add,List.take_zero,List.nil_append];rw[List.drop_append_of_le_length (by rw[hk];exact Nat.le_refl _),List.drop_eq_nil_of_le (by rw[hk];exact Nat.le_refl _),List.nil_append]
 | z::l,i+1,h=>by
  simp only[List.set_cons_succ,List.flatMap_cons];have e1:(enc z++l.flatMap enc).take ((i+1)*k)=enc z++(l.flatMap enc).take (i*k):=by
   rw[show (i+1)*k=(enc z).length+i*k by rw[hk,Nat.add_mul];omega,List.take_length_add_append]
  have e2:(enc z++l.flatMap enc).drop ((i+1)*k+k)=(l.flatMap enc).drop (i*k+k):=by
   rw[show (i+1)*k+k=(enc z).length+(i*k+k) by rw[hk,Nat.add_mul];omega,List.drop_length_add_append]
  rw[uA hk l i (by simpa using h),e1,e2,List.append_assoc,List.append_assoc,List.append_assoc]
theorem Own.opened {α:Type}{base k g:Nat}{e:TypeId}{enc:α->List Value}{v:Value}{l:List α}(ho:Own base e k enc w v l)(hg:v.ownBlock=some g) :
  ∃cur,aL w g e cur/\l.length*k<=cur.length/\cur.take (l.length*k)=l.flatMap enc/\∀(w':World) (PU:List Value) (l':List α),aL w' g e PU->PU.length=cur.length->l'.length=l.length->PU.take (l.length*k)=l'.flatMap enc->Own base e k enc w' v l':=by
 obtain⟨⟨hlen,hr⟩,hk⟩:=ho;have DX:=qI hk;rcases hr with ⟨he,_⟩|⟨g',cap,cur,he,hbg,K7,vr,tR,il,Ns⟩
 ·subst he;cases hg
 subst he;have:g'=g:=by simpa[Value.ownBlock] using hg
 subst this;refine⟨cur.toList,K7,?_,by rw[<-DX];simpa[DX] using Ns,λw' PU l' hB hl hl' ht=>?_⟩
 ·have:=congrArg List.length Ns;rw[List.length_take,DX]at this;omega
 exact⟨⟨by rw[DX],.inr ⟨g',cap,PU.toArray,by rw[hl'],hbg,hB,by rw[hl'];exact vr,tR,by rw[<-il];simpa using hl,by rw[hl'];simpa using ht⟩⟩,hk⟩
theorem fr {α:Type}{base k:Nat}{e:TypeId}{enc:α->List Value}{v:Value}{l:List α}{g i f:Nat}{x y:α}{u:Value}{p}(ho:Own base e k enc w v l)(hg:v.ownBlock=some g)(hx:l[i]?=some x)(hf:f<k)(hu:enc y=(enc x).set f u)(h1:jt u=true)
  (kk:∀w',Own base e k enc w' v (l.set i y)->Kept (·=g) w w'->w'.heap.size=w.heap.size->K undef w'):tN (some none) (.pointer (some ⟨g,i*k+f,none⟩)) u w K other p:=by
 obtain⟨cur,hB,hl,Ns,Vx⟩:=ho.opened hg;have hk:=ho.2;have hi:=(List.getElem?_eq_some_iff.1 hx).1;have WO:i*k+f<l.length*k:=by
  have:(i+1)*k<=l.length*k:=Nat.mul_le_mul_right _ hi;rw[Nat.add_mul]at this;omega
 refine aC hB (by omega) h1 ?_;intro w' tU;refine kk w' (Vx w' _ _ tU.aM (by simp) (by simp) ?_) tU.kept tU.size;rw[List.take_set,Ns,uB hk hf hu l i hx]
theorem Sg {α:Type}{base k:Nat}{e xt:TypeId}{enc:α->List Value}{v:Value}{l:List α}{g i:Nat}{y:α}{cs:List Value}(hty:jw P xt=some (some k))(ho:Own base e k enc w v l)(hg:v.ownBlock=some g)(hi:i<l.length)(hu:enc y=cs)(h1:∀v∈cs,v.oneCell'=true)
  (kk:∀w',Own base e k enc w' v (l.set i y)->Kept (·=g) w w'->w'.heap.size=w.heap.size->K undef w'):aX P (Instr.storeAt xt (.pointer (some ⟨g,i*k,none⟩)) (.agg cs.toArray)) t w K Q .mk:=by
 obtain⟨cur,hB,hl,Ns,Vx⟩:=ho.opened hg;have hk:=ho.2;have il:cs.length=k:=by rw[<-hu,hk]
 have WO:i*k+k<=l.length*k:=by
  have:(i+1)*k<=l.length*k:=Nat.mul_le_mul_right _ hi;rw[Nat.add_mul]at this;omega
 refine aH (n:=k) hty hB il (by omega) h1 ?_;intro w' tU;refine kk w' (Vx w' _ _ tU.aM (by simp only[List.length_append,List.length_take,List.length_drop];omega) (by simp) ?_) tU.kept tU.size;rw[uA hk l i hi,hu,<-Ns,List.take_take,Nat.min_eq_left (by omega),List.drop_take];have e1:cur.take (i*k)++cs++cur.drop (i*k+k)=(cur.take (i*k)++cs)++cur.drop (i*k+k):=rfl;rw[e1,show l.length*k=(cur.take (i*k)++cs).length+(l.length*k-(i*k+k)) by rw[List.length_append,List.length_take,il];omega,List.take_length_add_append]
 rw[List.length_append,List.length_take,il];congr 2;omega
theorem Own.kT {α:Type}{base k:Nat}{e:TypeId}{enc:α->List Value}{v:Value}{l:List α}(h:Own base e k enc w v l):∀n c,v=.slice none n c->n=0/\c=0:=λn c hh=>by
 rcases h.1.2 with ⟨he,_⟩|⟨g,cap,cur,he,_⟩
 ·rw[he]at hh;cases hh;exact⟨rfl,rfl⟩
 rw[he]at hh;cases hh
theorem fX {b o:Nat}{e:TypeId}{cs:List Value}{u:Value}(h:aL w b e cs)(hu:cs[o]?=some u):mR (w.cell? ⟨b,o,none⟩) (λx=>x=u) .mk:=by rw[h.cell hu];exact rfl
theorem G8 {b n:Nat}{e:TypeId}{cs:List Value}{V:Value}(h:aL w b e cs)(hn:cs.length=n)(hV:Value.agg cs.toArray=V):mR (aB w ⟨b,0,none⟩ 0 n) (λl=>Value.agg l.toArray=V) .mk:=by
 subst hn;rw[h.aB];exact hV
end
end Go.Vc
end
section
namespace Go.Vc
open Go.RowKit
section
variable {P:Program} {t:Fr} {w:World} {K:VK} {Q:EP}
theorem lh {α:Type}{bt ty e:TypeId}{k bytes base:Nat}{enc:α->List Value}{X:Nat->Prop}{v x:Value}{l ys:List α}{p}(hE:Bq P bt=some (e,k,bytes))(kG:Own base e k enc w v l)(hx:Sl X k (En enc) w x ys)
  (AG:∀n c,x=.slice none n c->n=0/\c=0) (h1:∀x,∀u∈enc x,u.oneCell'=true)
  (hm:(l.length+ys.length)*bytes<=140737488355328) (zt:base<=w.heap.size)
  (kk:∀v' w',Own base e k enc w' v' (l++ys)->w.grownBy w' v.ownBlock->Below base w w'->K v' w'):ag P (Builtin.append_ #[bt,bt] ty [v,x].toArray) t w K Q p:=by
 obtain⟨hu,i,z,hi,hz,rfl,rfl,TW,hk,yB⟩:=nn hE;have hlen:∀(ys:List α),(ys.flatMap enc).length=ys.length*i.size:=by
  intro ys;induction ys with
  | nil=>simp
  | cons y ys ih=>simp[List.flatMap_cons,kG.2,ih,Nat.add_mul];omega
 have hle:l.length+ys.length<=140737488355328:=Nat.le_trans (Nat.le_mul_of_pos_right _ yB) hm;unfold Sl at hx;obtain⟨a,c,rfl,hc,yZ⟩:=hx;cases a with
 | none =>
  obtain⟨h0,rfl⟩:=AG _ _ rfl;have:ys=[]:=List.eq_nil_of_length_eq_zero h0;subst this;have hr:=run_append_owned_none (P:=P) w base bt ty e i i.size hu hi v l.length (l.flatMap enc) kG.1;refine ff (w':=w) (v:=v) hr (kk v w (by rw[List.append_nil];exact kG) ⟨rfl,rfl,rfl,Nat.le_refl _,λ_ _ _=>rfl⟩ (Below.refl _ _))
 | some ad =>
  have hy:∀j u,(ys.flatMap enc)[j]?=some u->w.cell? (ad.add j)=some u:=by
   intro j u hj;have hjl:=(List.getElem?_eq_some_iff.1 hj).1;rw[hlen]at hjl;have hq:j / i.size<ys.length:=Nat.div_lt_of_lt_mul (by rw[Nat.mul_comm];exact hjl);have hy0:ys[j / i.size]?=some ys[j / i.size]:=List.getElem?_eq_getElem hq;obtain⟨b,o,cs,hb,_,il,aU,rfl⟩:=yZ _ _ hy0;cases hb;have hr:j % i.size<(enc ys[j / i.size]).length:=by rw[il];exact Nat.mod_lt _ hk
   have hg:=nC kG.2 ys (j / i.size) (j % i.size) _ _ hy0 (List.getElem?_eq_getElem hr);have ej:j / i.size*i.size+j % i.size=j:=by rw[Nat.mul_comm];exact Nat.div_add_mod j i.size
   rw[ej,hj]at hg
   have:=aU _ _ (List.getElem?_eq_getElem hr);rw[add_lit];rw[Nat.add_assoc,ej]at this;rw[this,hg]
  obtain⟨v',w',hr,ho,hg,_⟩:=run_append_own (P:=P) w base bt ty e i z i.size i.bytes hu hi hz rfl rfl TW hk v l.length (l.flatMap enc) kG.1 ad ys.length c (ys.flatMap enc) (hlen ys)
   hy (λu Nu=>by obtain⟨x,_,hx⟩:=List.mem_flatMap.1 Nu;exact h1 x u hx) (by simp only[maxLen];omega) hm zt
  refine ff hr (kk v' w' ⟨by simpa[List.flatMap_append] using ho,kG.2⟩ hg ?_);exact(Below.refl _ _).grown hg zt λk hk=>(kG.1.lt k hk).1
end
attribute [push_cast] decide_true ne_eq eq_self not_true_eq_false not_false_eq_true true_imp_iff false_imp_iff Bool.not_true Bool.not_false
end Go.Vc
end
end
