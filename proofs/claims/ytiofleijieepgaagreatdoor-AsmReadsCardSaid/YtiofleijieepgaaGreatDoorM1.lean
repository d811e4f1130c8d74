/- Texts of this claim, merged: V. -/
import Derived.WalkKit
import Derived.Laws.BytesArg
import Derived.Laws.Externs
import Derived.Laws.MakeOwn
import Derived.Stop.Asserts
import Derived.Laws.OwnMore
section
section
namespace Go.Vc
open Go.RowKit

inductive Ph {α : Type} (a : α) : Type
  | mk

abbrev Fr := List Value
abbrev EP := Exit → Fr → World → Prop
abbrev VK := Value → World → Prop
abbrev VP := Value → Prop

def ev (t : Fr) : Operand → Value
  | .tmp i => t.getD i undef
  | .const v => v
  | .global g => .pointer (some ⟨g, 0, none⟩)
  | .func f => .func (.func f) #[] #[]

def put (t : Fr) (d : Option Tmp) (v : Value) : Fr := match d with | some d => t.set d v | none => t

/-- What comes of a run of one operation. -/
def resK (P : Program) (t : Fr) (K : VK) (Q : EP) : Result Next → Prop
  | .ok (.value v) w' => K v w'
  | .ok .skip w' => K undef w'
  | .ok (.enter f args) w' => Calls P f args w' fun e w'' => match e with
      | .returned v => K v w''
      | .panicked c => Q (.panic c) t w''
      | .outgrown => False
  | .halt (.panic v) w' => Q (.panic [{ v, recovered := false }]) t w'
  | _ => False

def runK (P : Program) (o : Oper) (t : Fr) (w : World) (K : VK) (Q : EP) (_ : Ph (o, K, Q)) : Prop := resK P t K Q ((execOp (ev t) o).run P w)

def callK (P : Program) (f : FuncId) (args : List Value) (t : Fr) (w : World) (K : VK) (Q : EP) (_ : Ph (K, Q)) : Prop := resK P t K Q ((callFunc f args.toArray).run P w)

def pickK (c a b : Value) (K : VP) (_ : Ph K) : Prop := match c with | .bool x => K (if x then a else b) | _ => False

def condK (c : Value) (x y : Prop) (_ : Ph (x, y)) : Prop := match c with | .bool b => (b = true → x) ∧ (b = false → y) | _ => False

def guardK (s : Option Nat) (want : Bool) (t : Fr) (yes no : Fr → Prop) (_ : Ph (yes, no)) : Prop :=
  match s with
  | none => no t
  | some s => match t.getD s undef with
    | .bool b => (b = want → yes (t.set s (.bool want))) ∧ (b = !want → no (t.set s (.bool !want)))
    | _ => no t

/-- Integers: sums must fit where the kind is int's; other kinds wrap. -/
def arithK (k : IntKind) (n : Int) (K : VP) (_ : Ph K) : Prop :=
  match k with
  | .i64 => (-9223372036854775808 ≤ n ∧ n ≤ 9223372036854775807) ∧ K (.int .i64 n)
  | k => K (.int k (k.wrap n))

def bitop (op : BinOp) (k : IntKind) (x y : Int) : Int :=
  let a := BitVec.ofInt k.bits x
  let b := BitVec.ofInt k.bits y
  match op with
  | .and => k.wrap (a &&& b).toNat
  | .or => k.wrap (a ||| b).toNat
  | .xor => k.wrap (a ^^^ b).toNat
  | _ => k.wrap (a &&& ~~~b).toNat

def intK (op : BinOp) (k : IntKind) (a b : Int) (K : VP) (_ : Ph K) : Prop :=
  match op with
  | .add => arithK k (a + b) K .mk
  | .sub => arithK k (a - b) K .mk
  | .mul => arithK k (a * b) K .mk
  | .quo => b ≠ 0 ∧ K (.int k (k.wrap (a.tdiv b)))
  | .rem => b ≠ 0 ∧ K (.int k (a.tmod b))
  | .and => K (.int k (bitop .and k a b))
  | .or => K (.int k (bitop .or k a b))
  | .xor => K (.int k (bitop .xor k a b))
  | .andNot => K (.int k (bitop .andNot k a b))
  | .eql => K (.bool (a == b))
  | .neq => K (.bool (a != b))
  | .lss => K (.bool (decide (a < b)))
  | .leq => K (.bool (decide (a ≤ b)))
  | .gtr => K (.bool (decide (b < a)))
  | .geq => K (.bool (decide (b ≤ a)))
  | _ => False

def shiftK (op : BinOp) (k : IntKind) (x y : Int) (K : VP) (_ : Ph K) : Prop :=
  match op with
  | .shl => 0 ≤ y ∧ K (.int k (k.wrap (x * 2 ^ min y.toNat k.bits)))
  | .shr => 0 ≤ y ∧ K (.int k (x.fdiv (2 ^ min y.toNat k.bits)))
  | _ => False

/-- Strings, told by their bytes. -/
def str (l : List UInt8) : Value := .string ⟨l.toArray⟩

def binK (op : BinOp) (x y : Value) (K : VP) (other : Prop) (_ : Ph (K, other)) : Prop :=
  match op, x, y with
  | .shl, .int k a, .int _ b => shiftK .shl k a b K .mk
  | .shr, .int k a, .int _ b => shiftK .shr k a b K .mk
  | op, .int k a, .int k' b => k = k' ∧ intK op k a b K .mk
  | .add, .string a, .string b => ((a.size : Int) + b.size ≤ 9223372036854775807) ∧ K (.string (a ++ b))
  | .eql, .string a, .string b => K (.bool (a.data.toList == b.data.toList))
  | .neq, .string a, .string b => K (.bool (!(a.data.toList == b.data.toList)))
  | _, _, _ => other

def unK (op : UnOp) (x : Value) (K : VP) (other : Prop) (_ : Ph (K, other)) : Prop :=
  match op, x with
  | .neg, .int k n => K (.int k (k.wrap (0 - n)))
  | .not, .bool b => K (.bool (!b))
  | _, _ => other

def extractK (x : Value) (i : Nat) (K : VP) (_ : Ph K) : Prop := match x with | .tuple vs => (match vs.toList[i]? with | some v => K v | none => False) | _ => False

def lenK (d : Option TypeDesc) (x : Value) (K : VP) (other : Prop) (_ : Ph (K, other)) : Prop :=
  match d, x with
  | some .string, .string s => K (.int .i64 s.size)
  | some (.slice _), .slice _ n _ => K (.int .i64 n)
  | _, _ => other

/-- An integer to an integer. -/
def convK (d : Option TypeDesc) (x : Value) (K : VP) (other : Prop) (_ : Ph (K, other)) : Prop :=
  match d, x with
  | some (.int k), .int _ n => K (.int k (k.wrap n))
  | some .string, .string s => K (.string s)
  | _, _ => other

/-- A byte of a string. -/
def indexK (d : Option TypeDesc) (x i : Value) (K : VP) (other : Prop) (_ : Ph (K, other)) : Prop :=
  match d, x, i with
  | some .string, .string s, .int _ n => (0 ≤ n ∧ n < (s.data.toList.length : Int)) ∧ K (.int .u8 (s.data.toList.getD n.toNat 0).toNat)
  | _, _, _ => other

def mmK (max : Bool) (xs : List Value) (K : VP) (other : Prop) (_ : Ph (K, other)) : Prop :=
  match xs with
  | [.int k a, .int _ b] => K (.int k (if max then (if b > a then b else a) else (if b < a then b else a)))
  | _ => other

def funK (P : Program) (f : Value) (args : List Value) (t : Fr) (w : World) (K : VK) (Q : EP) (other : Prop) (_ : Ph (K, Q, other)) : Prop :=
  match f with
  | .func (.func g) first cap => callK P g (first.toList ++ args ++ cap.toList) t w K Q .mk
  | _ => other

/-- An operation of the model's that hands back a value: its own run. -/
def valK (P : Program) (s : Sem Value) (t : Fr) (w : World) (K : VK) (Q : EP) (_ : Ph (K, Q)) : Prop := resK P t K Q ((do pure (Next.value (← s)) : Sem Next).run P w)

def unitK (P : Program) (s : Sem Unit) (t : Fr) (w : World) (K : VK) (Q : EP) (_ : Ph (K, Q)) : Prop := resK P t K Q ((do s; pure Next.skip : Sem Next).run P w)

/-- A type's cells: 'some none': one cell; 'some (some n)': a struct or an array of n. -/
def tyK (P : Program) (ty : TypeId) : Option (Option Nat) := match P.underlying ty, P.info? ty with
  | some (.struct _), some i => some (some i.size)
  | some (.array ..), some i => some (some i.size)
  | some _, some i => if i.size = 1 then some none else none
  | _, _ => none

/-- The fields are integers, one behind the other. -/
def flatF (P : Program) : Nat → List Field → Bool
  | _, [] => true
  | i, f :: fs => f.offset == i && f.name != "_" && (match P.underlying f.type with | some (.int _) => true | _ => false) && tyK P f.type == some none && flatF P (i + 1) fs

/-- A struct of integers alone. -/
def flatI (P : Program) (ty : TypeId) : Bool := match P.underlying ty with
  | some (.struct fs) => flatF P 0 fs.toList && !P.eqGuardType P.depth ty && !P.stoodInHeld ty
  | _ => false

/-- What kind of type: 1 interface, 2 pointer, 3 slice, 4 map, 5 func, 6 bool, 7 a struct of integers. -/
def eqKind (P : Program) (ty : TypeId) : Nat := match P.underlying ty with
  | some (.struct fs) => if flatI P ty then fs.size + 7 else 0
  | some (.interface _) => 1 | some (.pointer _) => 2 | some (.slice _) => 3 | some (.map _ _) => 4 | some (.func ..) => 5 | some .bool => 6 | _ => 0

def isConst : Operand → Bool
  | .const _ => true
  | _ => false

def sizeOk : List Value → Nat → Bool
  | [], 0 => true
  | _ :: l, n + 1 => sizeOk l n
  | _, _ => false

def eqInts : List Value → List Value → Option Bool
  | [], [] => some true
  | .int k a :: xs, .int k' b :: ys => if k = k' then (eqInts xs ys).map (decide (a = b) && ·) else none
  | _, _ => none

/-- Against nil, bools, and structs of integers. -/
def eqVal (kind : Nat) (cst : Bool) (x y : Value) : Option Bool :=
  match kind, x, y with
  | 1, .nilIface, .nilIface => if cst then some true else none
  | 1, .iface _ _, .nilIface => some false
  | 1, .nilIface, .iface _ _ => some false
  | 2, .pointer none, .pointer none => some true
  | 2, .pointer (some _), .pointer none => some false
  | 2, .pointer none, .pointer (some _) => some false
  | 3, .slice none _ _, .slice none _ _ => some true
  | 3, .slice (some _) _ _, .slice none _ _ => some false
  | 5, .nilFunc, .nilFunc => some true
  | 5, .func .., .nilFunc => some false
  | 6, .bool a, .bool b => some (a == b)
  | n + 7, .agg xs, .agg ys => (match sizeOk xs.toList n with | true => eqInts xs.toList ys.toList | false => none)
  | _, _, _ => none

def eqNilK (kind : Nat) (cst : Bool) (op : BinOp) (x y : Value) (K : VP) (other : Prop) (_ : Ph (K, other)) : Prop :=
  match op, eqVal kind cst x y with
  | .eql, some b => K (.bool b)
  | .neq, some b => K (.bool !b)
  | _, _ => other

/-- A field's place, and its cells. -/
def fieldK (P : Program) (ty : TypeId) (f : Nat) : Option (Nat × Option Nat) := match P.underlying ty with
  | some (.struct fs) => match fs[f]? with
    | some fl => match tyK P fl.type with
      | some none => some (fl.offset, none)
      | some (some n) => if n = 0 then none else some (fl.offset, some n)
      | none => none
    | none => none
  | _ => none

/-- A slice's element's cells. -/
def elemK (P : Program) (ty : TypeId) : Option (TypeId × Nat) := match P.underlying ty with
  | some (.slice e) => (P.info? e).map fun i => (e, i.size)
  | _ => none

def arrK (P : Program) (ty : TypeId) : Option (Nat × TypeId × Nat) := match P.underlying ty with
  | some (.array n e) => (P.info? e).map fun i => (n, e, i.size)
  | _ => none

def cellsAt (w : World) (a : Addr) (i : Nat) : Nat → Option (List Value)
  | 0 => some []
  | n + 1 => match w.cell? (a.add i), cellsAt w a (i + 1) n with
    | some v, some vs => some (v :: vs)
    | _, _ => none

def optK {α : Type} (x : Option α) (K : α → Prop) (_ : Ph K) : Prop := match x with | some v => K v | none => False

def loadK (ty : Option (Option Nat)) (a : Value) (w : World) (K : VK) (_ : Ph K) : Prop := match ty, a with
  | some none, .pointer (some a) => optK (w.cell? a) (K · w) .mk
  | some (some n), .pointer (some a) => optK (cellsAt w a 0 n) (fun cs => K (.agg cs.toArray) w) .mk
  | _, _ => False

def fieldAddrK (f : Option (Nat × Option Nat)) (a : Value) (K : VP) (_ : Ph K) : Prop := match f, a with
  | some (off, _), .pointer (some a) => K (.pointer (some (a.add off)))
  | _, _ => False

def partK (f : Option (Nat × Option Nat)) (x : Value) (K : VP) (_ : Ph K) : Prop := match f, x with
  | some (off, none), .agg cs => optK (cs.toList[off]?) K .mk
  | some (off, some n), .agg cs => K (.agg ((cs.toList.drop off).take n).toArray)
  | _, _ => False

def indexAddrK (e : Option (TypeId × Nat)) (arr : Option (Nat × TypeId × Nat)) (x i : Value) (K : VP) (_ : Ph K) : Prop := match e, arr, x, i with
  | some (_, size), _, .slice (some a) n _, .int _ i => (0 ≤ i ∧ i < n) ∧ K (.pointer (some (a.add (i.toNat * size))))
  | _, some (n, _, size), .pointer (some a), .int _ i => (0 ≤ i ∧ i < n) ∧ K (.pointer (some (a.add (i.toNat * size))))
  | _, _, _, _ => False

def natAt (v : Option Value) (dflt : Nat) : Option Int := match v with
  | none => some dflt
  | some (.int _ i) => some i
  | _ => none

def sliceK (d : Option TypeDesc) (e : Option (TypeId × Nat)) (x : Value) (lo hi mx : Option Value) (K : VP) (other : Prop) (_ : Ph (K, other)) : Prop :=
  match d, x, mx with
  | some .string, .string s, none => match natAt lo 0, natAt hi s.data.toList.length with
    | some l, some h => (0 ≤ l ∧ l ≤ h ∧ h ≤ s.data.toList.length) ∧ K (str ((s.data.toList.take h.toNat).drop l.toNat))
    | _, _ => False
  | some (.slice _), .slice a len cap, none => match e, natAt lo 0, natAt hi len with
    | some (_, size), some l, some h => (0 ≤ l ∧ l ≤ h ∧ h ≤ (cap : Int)) ∧ K (.slice (if (cap : Int) = l then a else a.map (·.add (l.toNat * size))) (h.toNat - l.toNat) (cap - l.toNat))
    | _, _, _ => False
  | _, _, _ => other

def ifaceK (kind : Nat) (ty : TypeId) (x : Value) (K : VP) (other : Prop) (_ : Ph (K, other)) : Prop := match kind with
  | 1 => other
  | _ => K (.iface ty x)

def boxK (e : TypeId) (v : Value) (w : World) (K : VK) (_ : Ph K) : Prop := K (.pointer (some ⟨w.heap.size, 0, none⟩)) (w.alloc (.cells v.cells e))

def oneCell : Value → Bool
  | .agg _ | .tuple _ => false
  | _ => true

/-- A store of one cell. -/
def storeK (ty : Option (Option Nat)) (a v : Value) (w : World) (K : VK) (other : Prop) (_ : Ph (K, other)) : Prop := match ty, a with
  | some none, .pointer (some a) => oneCell v = true ∧ (w.cell? a).isSome = true ∧ w.frozen? a = false ∧ K undef (w.setCell a v)
  | _, _ => other

/-- cs laid over l from place n on. -/
def splice : List Value → Nat → List Value → List Value
  | l, 0, [] => l
  | x :: l, n + 1, cs => x :: splice l n cs
  | _ :: l, 0, c :: cs => c :: splice l 0 cs
  | [], _, _ => []

def cellsL : Value → List Value
  | .agg cs => cs.toList
  | v => [v]

def buildL (places : List (Nat × Nat)) (cells : List Value) : List (Nat × Value) → Option (List Value)
  | [] => some cells
  | (i, v) :: rest => match places[i]? with
    | some (off, size) => (match sizeOk (cellsL v) size && decide (off + size ≤ cells.length) with
      | true => buildL places (splice cells off (cellsL v)) rest
      | false => none)
    | none => none

/-- A type's zero value, and the places of its parts. -/
def bldI (P : Program) (ty : TypeId) : Option (List Value × List (Nat × Nat)) := match P.info? ty, P.underlying ty with
  | some i, some (.struct fs) => match i.zero with
    | some z => if fs.toList.all (fun f => (P.info? f.type).isSome) then some (cellsL z, fs.toList.map fun f => (f.offset, ((P.info? f.type).map (·.size)).getD 0)) else none
    | none => none
  | _, _ => none

def buildK (d : Option (List Value × List (Nat × Nat))) (parts : List (Nat × Value)) (K : VP) (_ : Ph K) : Prop := match d with
  | some (z, places) => optK (buildL places z parts) (fun cs => K (.agg cs.toArray)) .mk
  | none => False

/-- What only reckons: in whatever world, the same value. -/
def pureK (P : Program) (o : Oper) (t : Fr) (L : VP) (other : Prop) (_ : Ph (o, L, other)) : Prop :=
  match o.op with
  | .move x => L (ev t x)
  | .assign x => L (ev t x)
  | .pick c a b => pickK (ev t c) (ev t a) (ev t b) L .mk
  | .binOp op ty x y _ => binK op (ev t x) (ev t y) L (eqNilK (eqKind P ty) (isConst x || isConst y) op (ev t x) (ev t y) L other .mk) .mk
  | .unOp op _ x => unK op (ev t x) L other .mk
  | .extract x i => extractK (ev t x) i L .mk
  | .convert s d x => convK (if (P.underlying s).isSome then P.underlying d else none) (ev t x) L other .mk
  | .index xt x i => indexK (P.underlying xt) (ev t x) (ev t i) L other .mk
  | .makeFunc fn first cap => L (.func fn (first.map (ev t)) (cap.map (ev t)))
  | .build ty parts => buildK (bldI P ty) (parts.toList.map fun (i, x) => (i, ev t x)) L .mk
  | .call { callee := .builtin .len, args, argTypes } => (match args.toList, argTypes.toList with
    | [x], [ty] => lenK (P.underlying ty) (ev t x) L other .mk
    | _, _ => other)
  | .call { callee := .builtin .max, args, argTypes := _ } => mmK true (args.toList.map (ev t)) L other .mk
  | .call { callee := .builtin .min, args, argTypes := _ } => mmK false (args.toList.map (ev t)) L other .mk
  | .fieldAddr ty x f => fieldAddrK (fieldK P ty f) (ev t x) L .mk
  | .field ty x f => partK (fieldK P ty f) (ev t x) L .mk
  | .indexAddr ty x i => indexAddrK (elemK P ty) (arrK P ty) (ev t x) (ev t i) L .mk
  | .slice ty x lo hi mx => sliceK (P.underlying ty) (elemK P ty) (ev t x) (lo.map (ev t)) (hi.map (ev t)) (mx.map (ev t)) L other .mk
  | .makeInterface ty x => ifaceK (if (P.underlying ty).isSome then eqKind P ty else 1) ty (ev t x) L other .mk
  | _ => other

def opK (P : Program) (o : Oper) (t : Fr) (w : World) (K : VK) (Q : EP) (_ : Ph (o, K, Q)) : Prop :=
  match o.op with
  | .call { callee := .value f, args, argTypes := _ } => funK P (ev t f) (args.toList.map (ev t)) t w K Q (runK P o t w K Q .mk) .mk
  | .load ty a => loadK (tyK P ty) (ev t a) w K .mk
  | .store ty a v => storeK (tyK P ty) (ev t a) (ev t v) w K (unitK P (Instr.storeAt ty (ev t a) (ev t v)) t w K Q .mk) .mk
  | .box e x => boxK e (ev t x) w K .mk
  | .alloc e => valK P (Instr.alloc e true (.tuple #[])) t w K Q .mk
  | .convert s d x => convK (if (P.underlying s).isSome then P.underlying d else none) (ev t x) (K · w) (valK P (convert s d (ev t x)) t w K Q .mk) .mk
  | .buildSlice ty n parts => valK P (Instr.buildSlice ty n (parts.map fun (i, x) => (i, ev t x))) t w K Q .mk
  | .makeSlice ty l c => valK P (Instr.makeSlice ty (ev t l) (ev t c)) t w K Q .mk
  | .makeMap ty r => valK P (Instr.makeMap ty (r.map (ev t))) t w K Q .mk
  | .lookup ty x i ok => valK P (Instr.lookup ty (ev t x) (ev t i) ok) t w K Q .mk
  | .mapUpdate ty m k x => unitK P (Instr.mapUpdate ty (ev t m) (ev t k) (ev t x)) t w K Q .mk
  | .insert ty m k x => unitK P (Instr.mapUpdate ty (ev t m) (ev t k) (ev t x)) t w K Q .mk
  | .typeAssert x xt at_ ok => valK P (Instr.typeAssert (ev t x) xt at_ ok) t w K Q .mk
  | .panic x => valK P (Instr.panic (ev t x)) t w K Q .mk
  | .range ty x => valK P (Instr.range ty (ev t x)) t w K Q .mk
  | .call { callee := .builtin .append, args, argTypes } => valK P (Builtin.append_ argTypes o.type (args.map (ev t))) t w K Q .mk
  | .call { callee := .builtin .copy, args, argTypes } => valK P (Builtin.copy_ argTypes o.type (args.map (ev t))) t w K Q .mk
  | _ => pureK P o t (K · w) (runK P o t w K Q .mk) .mk

def slotOf (ops : List Oper) (j : Nat) : Option Nat := (ops[j]?).bind (·.dst)

def vcOps (P : Program) (ops : List Oper) (K : Fr → World → Prop) (Q : EP) : (l : List Oper) → Fr → World → Ph (ops, K, Q, l) → Prop
  | [], t, w, _ => K t w
  | o :: r, t, w, _ => match o.guard with
    | none => opK P o t w (fun v w' => vcOps P ops K Q r (put t o.dst v) w' .mk) Q .mk
    | some (j, want) => guardK (slotOf ops j) want t (fun t' => opK P o t' w (fun v w' => vcOps P ops K Q r (put t' o.dst v) w' .mk) Q .mk) (fun t' => vcOps P ops K Q r (put t' o.dst undef) w .mk) .mk

def lift (Q : EP) : Exit → Act → World → Prop := fun e a w => a.defers = [] ∧ Q e a.tmps.toList w

/-- The model's own. -/
def wpL (P : Program) (c : Code) (Q : EP) (t : Fr) (w : World) (_ : Ph (c, Q)) : Prop := c.wp P (lift Q) ⟨t.toArray, []⟩ w

def seqQ (N : Fr → World → Prop) (Q : EP) (_ : Ph (N, Q)) : EP
  | .normal, t, w => N t w
  | e, t, w => Q e t w

def blockQ (id : Nat) (Q : EP) (_ : Ph Q) : EP
  | .exit i, t, w => if i = id then Q .normal t w else Q (.exit i) t w
  | e, t, w => Q e t w

def vc (P : Program) : (c : Code) → (Q : EP) → Fr → World → Ph (c, Q) → Prop
  | .skip, Q, t, w, _ => Q .normal t w
  | .region _ ops false, Q, t, w, _ => vcOps P ops.toList (Q .normal) Q ops.toList t w .mk
  | .region id ops true, Q, t, w, _ => wpL P (.region id ops true) Q t w .mk
  | .seq a b, Q, t, w, _ => vc P a (seqQ (fun t w => vc P b Q t w .mk) Q .mk) t w .mk
  | .cond c a b, Q, t, w, _ => condK (ev t c) (vc P a Q t w .mk) (vc P b Q t w .mk) .mk
  | .block i c, Q, t, w, _ => vc P c (blockQ i Q .mk) t w .mk
  | .exit i, Q, t, w, _ => Q (.exit i) t w
  | .ret, Q, t, w, _ => Q .ret t w
  | .label _, Q, t, w, _ => Q .normal t w
  | .goto l, Q, t, w, _ => Q (.goto l) t w
  | c, Q, t, w, _ => wpL P c Q t w .mk

/-! ### Soundness -/
section
variable {P : Program}

theorem ev_eq (t : Fr) (ds : List Deferred) : (Act.mk t.toArray ds).eval = ev t := by
  funext x
  cases x <;> simp [Act.eval, ev, Array.getD_eq_getD_getElem?, List.getD_eq_getElem?_getD]

theorem put_eq (t : Fr) (d : Option Tmp) (v : Value) : (Act.mk t.toArray []).put d v = ⟨(put t d v).toArray, []⟩ := by
  cases d <;> simp [Act.put, put]

theorem resK_upon {o : Oper} {t : Fr} {K : Value → World → Prop} {Q : EP} {r : Result Next} {next : Act → World → Prop}
    (hn : ∀ v w', K v w' → next ⟨(put t o.dst v).toArray, []⟩ w') (h : resK P t K Q r) : o.upon P ⟨t.toArray, []⟩ next (lift Q) r := by
  cases r with
  | ok n w' =>
    cases n <;> simp only [resK] at h <;> simp only [Oper.upon]
    case value v => rw [put_eq]; exact hn _ _ h
    case skip => rw [put_eq]; exact hn _ _ h
    case enter f args =>
      refine h.mono fun e w'' he => ?_
      cases e with
      | returned v => dsimp only at he ⊢; rw [put_eq]; exact hn _ _ he
      | panicked c => exact ⟨rfl, by simpa using he⟩
      | outgrown => exact he.elim
  | halt x w' =>
    cases x <;> simp only [resK] at h <;> simp only [Oper.upon]
    exact ⟨rfl, by simpa using h⟩

theorem runK_value {o : Oper} {t : Fr} {w w' : World} {K : Value → World → Prop} {Q : EP} {v : Value} (h : (execOp (ev t) o).run P w = .ok (.value v) w') (k : K v w') : runK P o t w K Q .mk := by
  unfold runK; rw [h]; exact k

theorem eqGuard_plain {op : BinOp} {ty : TypeId} {x y : Operand} {a b : Value} (ha : a ≠ .nilIface ∨ b ≠ .nilIface) (hb : ∀ c, a ≠ .agg c) (w : World) : (eqGuard op ty x y a b).run P w = .ok () w := by
  cases op <;> simp only [eqGuard] <;> first | rfl | (cases a <;> cases b <;> first | rfl | simp_all)

theorem execOp_bin {t : Fr} {o : Oper} {op : BinOp} {ty yt : TypeId} {x y : Operand} (ho : o.op = .binOp op ty x y yt) {w : World} {v : Value}
    (hg : (eqGuard op ty x y (ev t x) (ev t y)).run P w = .ok () w) (h : (binOp op ty (ev t x) (ev t y)).run P w = .ok v w) : (execOp (ev t) o).run P w = .ok (.value v) w := by
  unfold execOp
  simp only [ho, Sem.run_bind, hg, Result.andThen_ok, h, Sem.run_pure]

theorem wrap_i64_fit {n : Int} (h : -9223372036854775808 ≤ n ∧ n ≤ 9223372036854775807) : IntKind.i64.wrap n = n := by
  rw [IntKind.wrap_i64]; omega

theorem arithK_ok {k : IntKind} {n : Int} {K : Value → Prop} (h : arithK k n K .mk) : K (.int k (k.wrap n)) := by
  cases k <;> simp only [arithK] at h <;> first | exact h | (rw [wrap_i64_fit h.1]; exact h.2)

theorem intK_ok {op : BinOp} {k : IntKind} {a b : Int} {K : Value → Prop} {ty : TypeId} (hs : op ≠ .shl ∧ op ≠ .shr) (h : intK op k a b K .mk) :
    ∃ v, (∀ w, (binOp op ty (.int k a) (.int k b)).run P w = .ok v w) ∧ K v := by
  cases op <;> simp only [intK] at h <;> try exact h.elim
  case add => exact ⟨_, fun w => by simp [binOp, Op.intArith], arithK_ok h⟩
  case sub => exact ⟨_, fun w => by simp [binOp, Op.intArith], arithK_ok h⟩
  case mul => exact ⟨_, fun w => by simp [binOp, Op.intArith], arithK_ok h⟩
  case quo => exact ⟨_, fun w => by simp [binOp, Op.intDiv, h.1], h.2⟩
  case rem => exact ⟨_, fun w => by simp [binOp, Op.intDiv, h.1], h.2⟩
  case and => exact ⟨_, fun w => by cases k <;> rfl, h⟩
  case or => exact ⟨_, fun w => by cases k <;> rfl, h⟩
  case xor => exact ⟨_, fun w => by cases k <;> rfl, h⟩
  case andNot => exact ⟨_, fun w => by cases k <;> rfl, h⟩
  all_goals exact ⟨_, fun w => by simp [binOp, Op.intCmp], h⟩

theorem shiftK_ok {op : BinOp} {k k' : IntKind} {a b : Int} {K : Value → Prop} {ty : TypeId} (hs : op = .shl ∨ op = .shr) (h : shiftK op k a b K .mk) :
    ∃ v, (∀ w, (binOp op ty (.int k a) (.int k' b)).run P w = .ok v w) ∧ K v := by
  rcases hs with rfl | rfl
  · exact ⟨_, fun w => by simp [binOp, Op.shift, show ¬ b < 0 by have := h.1; omega], h.2⟩
  · exact ⟨_, fun w => by simp [binOp, Op.shift, show ¬ b < 0 by have := h.1; omega], h.2⟩

theorem toList_beq (a b : ByteArray) : (a.toList == b.toList) = (a.data.toList == b.data.toList) := by
  rw [ByteArray.toList_eq, ByteArray.toList_eq]

/-- In every world the operation hands back this value. -/
def Gives (P : Program) (o : Oper) (t : Fr) (v : Value) : Prop := ∀ w, (execOp (ev t) o).run P w = .ok (.value v) w

theorem binK_ok {o : Oper} {t : Fr} {L : VP} {op : BinOp} {ty yt : TypeId} {x y : Operand} {other : Prop} (ho : o.op = .binOp op ty x y yt)
    (h : binK op (ev t x) (ev t y) L other .mk) : other ∨ ∃ v, Gives P o t v ∧ L v := by
  have go : ∀ v, (∀ c, ev t x ≠ .agg c) → ev t x ≠ .nilIface → (∀ w, (binOp op ty (ev t x) (ev t y)).run P w = .ok v w) → L v → other ∨ ∃ v, Gives P o t v ∧ L v := fun v h1 h2 hr hk =>
    .inr ⟨v, fun w => execOp_bin ho (eqGuard_plain (.inl h2) h1 w) (hr w), hk⟩
  unfold binK at h
  split at h
  · rename_i a b hx hy
    obtain ⟨v, hr, hk⟩ := shiftK_ok (P := P) (ty := ty) (.inl rfl) h
    rw [hx, hy] at go
    exact go v (by simp) (by simp) hr hk
  · rename_i a b hx hy
    obtain ⟨v, hr, hk⟩ := shiftK_ok (P := P) (ty := ty) (.inr rfl) h
    rw [hx, hy] at go
    exact go v (by simp) (by simp) hr hk
  · rename_i k a k' b n1 n2 hx hy
    obtain ⟨rfl, h⟩ := h
    obtain ⟨v, hr, hk⟩ := intK_ok (P := P) (ty := ty) ⟨fun e => n1 e, fun e => n2 e⟩ h
    rw [hx, hy] at go
    exact go v (by simp) (by simp) hr hk
  · rename_i a b hx hy
    rw [hx, hy] at go
    refine go _ (by simp) (by simp) (fun w => ?_) h.2
    have := h.1
    simp [binOp, Op.stringOp, IntKind.max, IntKind.bits, IntKind.signed]
    omega
  · rename_i a b hx hy
    rw [hx, hy] at go
    exact go _ (by simp) (by simp) (fun w => by simp only [binOp, Op.stringOp, toList_beq]; simp) h
  · rename_i a b hx hy
    rw [hx, hy] at go
    exact go _ (by simp) (by simp) (fun w => by simp only [binOp, Op.stringOp, toList_beq]; simp) h
  · exact .inl h

theorem unK_ok {o : Oper} {t : Fr} {L : VP} {other : Prop} {op : UnOp} {ty : TypeId} {x : Operand} (ho : o.op = .unOp op ty x)
    (h : unK op (ev t x) L other .mk) : other ∨ ∃ v, Gives P o t v ∧ L v := by
  unfold unK at h
  split at h
  · rename_i k n hx
    exact .inr ⟨_, fun w => by unfold execOp; simp [ho, hx, Op.unary, Op.intArith], h⟩
  · rename_i b hx
    exact .inr ⟨_, fun w => by unfold execOp; simp [ho, hx, Op.unary], h⟩
  · exact .inl h

theorem eqGuard_nil {op : BinOp} {ty : TypeId} {x y : Operand} (h : (isConst x || isConst y) = true) (w : World) : (eqGuard op ty x y .nilIface .nilIface).run P w = .ok () w := by
  cases op <;> first | rfl | (cases x <;> cases y <;> first | rfl | (simp [isConst] at h))

theorem sizeOk_spec : ∀ (l : List Value) (n : Nat), sizeOk l n = true → l.length = n
  | [], 0, _ => rfl
  | [], n + 1, h => by simp [sizeOk] at h
  | _ :: l, 0, h => by simp [sizeOk] at h
  | _ :: l, n + 1, h => by simp [sizeOk] at h; simp [sizeOk_spec l n h]

theorem eqVal_kind {kind : Nat} {cst : Bool} {x y : Value} {b : Bool} (h : eqVal kind cst x y = some b) :
    (kind = 1 ∧ (x = .nilIface ∧ y = .nilIface ∧ cst = true ∧ b = true ∨ (∃ t v, x = .iface t v) ∧ y = .nilIface ∧ b = false ∨ x = .nilIface ∧ (∃ t v, y = .iface t v) ∧ b = false)) ∨
    (kind = 2 ∧ (x = .pointer none ∧ y = .pointer none ∧ b = true ∨ (∃ a, x = .pointer (some a)) ∧ y = .pointer none ∧ b = false ∨ x = .pointer none ∧ (∃ a, y = .pointer (some a)) ∧ b = false)) ∨
    (kind = 3 ∧ (∃ n c n' c' , y = .slice none n' c' ∧ (x = .slice none n c ∧ b = true ∨ (∃ a, x = .slice (some a) n c) ∧ b = false))) ∨
    (kind = 5 ∧ (x = .nilFunc ∧ y = .nilFunc ∧ b = true ∨ (∃ f g c, x = .func f g c) ∧ y = .nilFunc ∧ b = false)) ∨
    (kind = 6 ∧ ∃ p q, x = .bool p ∧ y = .bool q ∧ b = (p == q)) ∨
    (∃ n xs ys, kind = n + 7 ∧ x = .agg xs ∧ y = .agg ys ∧ xs.toList.length = n ∧ eqInts xs.toList ys.toList = some b) := by
  unfold eqVal at h
  split at h
  case h_12 =>
    split at h
    · rename_i n xs ys hs
      exact .inr (.inr (.inr (.inr (.inr ⟨_, _, _, rfl, rfl, rfl, sizeOk_spec _ _ hs, h⟩))))
    · cases h
  all_goals simp_all

theorem eqGuard_of_val {op : BinOp} {ty : TypeId} {x y : Operand} {t : Fr} {b : Bool} (h : eqVal (eqKind P ty) (isConst x || isConst y) (ev t x) (ev t y) = some b) (w : World) :
    (eqGuard op ty x y (ev t x) (ev t y)).run P w = .ok () w := by
  rcases eqVal_kind h with ⟨_, ⟨h1, h2, h3, _⟩ | ⟨⟨_, _, h1⟩, h2, _⟩ | ⟨h1, ⟨_, _, h2⟩, _⟩⟩ | ⟨_, ⟨h1, h2, _⟩ | ⟨⟨_, h1⟩, h2, _⟩ | ⟨h1, ⟨_, h2⟩, _⟩⟩ | ⟨_, _, _, _, _, h2, ⟨h1, _⟩ | ⟨⟨_, h1⟩, _⟩⟩ | ⟨_, ⟨h1, h2, _⟩ | ⟨⟨_, _, _, h1⟩, h2, _⟩⟩ | ⟨_, _, _, h1, h2, _⟩ | ⟨n, xs, ys, hk, h1, h2, _⟩
  case inl.inl => rw [h1, h2]; exact eqGuard_nil h3 w
  case inr.inr.inr.inr.inr =>
    rw [h1, h2]
    have hf : flatI P ty = true := by
      unfold eqKind at hk
      split at hk <;> first | (exfalso; omega) | skip
      split at hk
      · assumption
      · omega
    unfold flatI at hf
    split at hf
    · simp only [Bool.and_eq_true, Bool.not_eq_true'] at hf
      cases op <;> first | rfl | simp [eqGuard, hf.1.2]
    · cases hf
  all_goals (rw [h1, h2]; exact eqGuard_plain (by simp) (by simp) w)

theorem binOp_eql_val {ty : TypeId} {x y : Value} {kind : Nat} {cst b : Bool} (h : eqVal kind cst x y = some b) : binOp .eql ty x y = (do pure (.bool (← Op.equal ty x y))) := by
  rcases eqVal_kind h with ⟨_, ⟨rfl, rfl, h3, _⟩ | ⟨⟨_, _, rfl⟩, rfl, _⟩ | ⟨rfl, ⟨_, _, rfl⟩, _⟩⟩ | ⟨_, ⟨rfl, rfl, _⟩ | ⟨⟨_, rfl⟩, rfl, _⟩ | ⟨rfl, ⟨_, rfl⟩, _⟩⟩ | ⟨_, _, _, _, _, rfl, ⟨rfl, _⟩ | ⟨⟨_, rfl⟩, _⟩⟩ | ⟨_, ⟨rfl, rfl, _⟩ | ⟨⟨_, _, _, rfl⟩, rfl, _⟩⟩ | ⟨_, _, _, rfl, rfl, _⟩ | ⟨_, _, _, _, rfl, rfl, _⟩ <;> rfl

theorem binOp_neq_val {ty : TypeId} {x y : Value} {kind : Nat} {cst b : Bool} (h : eqVal kind cst x y = some b) : binOp .neq ty x y = (do pure (.bool (!(← Op.equal ty x y)))) := by
  rcases eqVal_kind h with ⟨_, ⟨rfl, rfl, h3, _⟩ | ⟨⟨_, _, rfl⟩, rfl, _⟩ | ⟨rfl, ⟨_, _, rfl⟩, _⟩⟩ | ⟨_, ⟨rfl, rfl, _⟩ | ⟨⟨_, rfl⟩, rfl, _⟩ | ⟨rfl, ⟨_, rfl⟩, _⟩⟩ | ⟨_, _, _, _, _, rfl, ⟨rfl, _⟩ | ⟨⟨_, rfl⟩, _⟩⟩ | ⟨_, ⟨rfl, rfl, _⟩ | ⟨⟨_, _, _, rfl⟩, rfl, _⟩⟩ | ⟨_, _, _, rfl, rfl, _⟩ | ⟨_, _, _, _, rfl, rfl, _⟩ <;> rfl

theorem tyK_one {ty : TypeId} (h : tyK P ty = some none) (w : World) : (isAgg ty).run P w = .ok false w ∧ (sizeOf ty).run P w = .ok 1 w := by
  unfold tyK at h
  split at h <;> try (cases h)
  rename_i d i h1 h2 hd hi
  split at h
  · rename_i hs
    refine ⟨?_, by simp [sizeOf, typeInfo, hi, hs]⟩
    simp only [isAgg, Sem.run_bind, run_underlying hd, Result.andThen_ok]
    cases d <;> first | rfl | simp_all
  · cases h

theorem tyK_many {ty : TypeId} {n : Nat} (h : tyK P ty = some (some n)) (w : World) : (isAgg ty).run P w = .ok true w ∧ (sizeOf ty).run P w = .ok n w := by
  unfold tyK at h
  split at h <;> try (cases h)
  · rename_i hd hi
    exact ⟨by simp [isAgg, run_underlying hd], by simp [sizeOf, typeInfo, hi]⟩
  · rename_i hd hi
    exact ⟨by simp [isAgg, run_underlying hd], by simp [sizeOf, typeInfo, hi]⟩
  · split at h <;> cases h

theorem part_one {ty : TypeId} (h : tyK P ty = some none) {cs : Array Value} {off : Nat} {v : Value} (hv : cs.toList[off]? = some v) (w : World) : (part ty cs off).run P w = .ok v w := by
  have hv' : cs[off]? = some v := by simpa using hv
  simp [part, (tyK_one h w).1, hv']

theorem part_many {ty : TypeId} {n : Nat} (h : tyK P ty = some (some n)) {cs : Array Value} {off : Nat} (w : World) : (part ty cs off).run P w = .ok (.agg ((cs.toList.drop off).take n).toArray) w := by
  simp only [part, Sem.run_bind, (tyK_many h w).1, (tyK_many h w).2, Result.andThen_ok, if_true, Sem.run_pure]
  congr 2
  apply Array.ext'
  simp [List.take_drop, Nat.add_comm]

theorem eqKind_spec {ty : TypeId} : (eqKind P ty = 1 → ∃ ms, P.underlying ty = some (.interface ms)) ∧ (eqKind P ty = 2 → ∃ e, P.underlying ty = some (.pointer e)) ∧ (eqKind P ty = 3 → ∃ e, P.underlying ty = some (.slice e)) ∧
    (eqKind P ty = 5 → ∃ a b c, P.underlying ty = some (.func a b c)) ∧ (eqKind P ty = 6 → P.underlying ty = some .bool) ∧ (∀ n, eqKind P ty = n + 7 → flatI P ty = true ∧ ∃ fs, P.underlying ty = some (.struct fs) ∧ fs.size = n) := by
  unfold eqKind
  split <;> simp_all
  split <;> simp_all

theorem eqInts_cons_elim {xs ys : List Value} {b : Bool} (h : eqInts xs ys = some b) : (xs = [] ∧ ys = [] ∧ b = true) ∨ ∃ k a c xs' ys' b', xs = .int k a :: xs' ∧ ys = .int k c :: ys' ∧ eqInts xs' ys' = some b' ∧ b = (decide (a = c) && b') := by
  unfold eqInts at h
  split at h
  · cases h; exact .inl ⟨rfl, rfl, rfl⟩
  · split at h
    · rename_i e
      subst e
      obtain ⟨b', h1, h2⟩ := Option.map_eq_some_iff.1 h
      exact .inr ⟨_, _, _, _, _, b', rfl, rfl, h1, h2.symm⟩
    · cases h
  · cases h

theorem eqFields_flat (d : Nat) (w : World) : ∀ (fs : List Field) (xs ys px py : List Value) (b : Bool), flatF P px.length fs = true → px.length = py.length → fs.length = xs.length → eqInts xs ys = some b →
    (Op.eqFields (d + 1) (px ++ xs).toArray (py ++ ys).toArray fs).run P w = .ok b w
  | [], xs, ys, px, py, b, _, _, hl, h => by
    have : xs = [] := List.eq_nil_of_length_eq_zero hl.symm
    subst this
    rcases eqInts_cons_elim h with ⟨_, _, rfl⟩ | ⟨_, _, _, _, _, _, h1, _⟩
    · simp [Op.eqFields]
    · cases h1
  | f :: fs, xs, ys, px, py, b, hf, hp, hl, h => by
    rcases eqInts_cons_elim h with ⟨rfl, _, _⟩ | ⟨k, a, c, xs, ys, b', rfl, rfl, h1, rfl⟩
    · simp at hl
    · simp only [flatF, Bool.and_eq_true, beq_iff_eq, bne_iff_ne] at hf
      obtain ⟨⟨⟨⟨ho, hn⟩, hu⟩, ht⟩, hr⟩ := hf
      have hu' : ∃ k, P.underlying f.type = some (.int k) := by
        split at hu
        · exact ⟨_, by assumption⟩
        · cases hu
      obtain ⟨k', hu'⟩ := hu'
      have e1 : (part f.type (px ++ .int k a :: xs).toArray f.offset).run P w = .ok (.int k a) w := part_one ht (by rw [ho]; simp) w
      have e2 : (part f.type (py ++ .int k c :: ys).toArray f.offset).run P w = .ok (.int k c) w := part_one ht (by rw [ho, hp]; simp) w
      have e3 : (Op.equalIn (d + 1) f.type (.int k a) (.int k c)).run P w = .ok (a == c) w := by
        simp [Op.equalIn, run_underlying hu']
      have ih := eqFields_flat d w fs xs ys (px ++ [.int k a]) (py ++ [.int k c]) b' (by simpa using hr) (by simp [hp]) (by simpa using hl) h1
      simp only [List.append_assoc, List.cons_append, List.nil_append] at ih
      simp only [Op.eqFields, hn, ne_eq, not_false_eq_true, if_true, Sem.run_bind, e1, e2, e3, Result.andThen_ok]
      by_cases hac : a = c
      · subst hac; simp [ih]
      · simp [hac]

theorem equal_of_val_at (d : Nat) {ty : TypeId} {x y : Value} {cst b : Bool} {w : World} (h : eqVal (eqKind P ty) cst x y = some b) : (Op.equalIn (d + 2) ty x y).run P w = .ok b w := by
  obtain ⟨k1, k2, k3, k5, k6, k7⟩ := eqKind_spec (P := P) (ty := ty)
  rcases eqVal_kind h with ⟨hk, hh⟩ | ⟨hk, hh⟩ | ⟨hk, hh⟩ | ⟨hk, hh⟩ | ⟨hk, hh⟩ | ⟨n, xs, ys, hk, rfl, rfl, hn, hh⟩
  · obtain ⟨ms, hu⟩ := k1 hk
    simp only [Op.equalIn, Sem.run_bind, run_underlying hu, Result.andThen_ok]
    rcases hh with ⟨rfl, rfl, _, rfl⟩ | ⟨⟨_, _, rfl⟩, rfl, rfl⟩ | ⟨rfl, ⟨_, _, rfl⟩, rfl⟩ <;> rfl
  · obtain ⟨ms, hu⟩ := k2 hk
    simp only [Op.equalIn, Sem.run_bind, run_underlying hu, Result.andThen_ok]
    rcases hh with ⟨rfl, rfl, rfl⟩ | ⟨⟨_, rfl⟩, rfl, rfl⟩ | ⟨rfl, ⟨_, rfl⟩, rfl⟩ <;> rfl
  · obtain ⟨ms, hu⟩ := k3 hk
    simp only [Op.equalIn, Sem.run_bind, run_underlying hu, Result.andThen_ok]
    rcases hh with ⟨_, _, _, _, rfl, ⟨rfl, rfl⟩ | ⟨⟨_, rfl⟩, rfl⟩⟩ <;> rfl
  · obtain ⟨_, _, _, hu⟩ := k5 hk
    simp only [Op.equalIn, Sem.run_bind, run_underlying hu, Result.andThen_ok]
    rcases hh with ⟨rfl, rfl, rfl⟩ | ⟨⟨_, _, _, rfl⟩, rfl, rfl⟩ <;> rfl
  · have hu := k6 hk
    simp only [Op.equalIn, Sem.run_bind, run_underlying hu, Result.andThen_ok]
    obtain ⟨_, _, rfl, rfl, rfl⟩ := hh
    rfl
  · obtain ⟨hf, fs, hu, hs⟩ := k7 n hk
    unfold flatI at hf
    rw [hu] at hf
    simp only [Bool.and_eq_true, Bool.not_eq_true'] at hf
    have hfs : P.fieldsOf ty = fs := by simp [Program.fieldsOf, hu]
    rw [run_equalIn_struct w (d + 1) ty xs ys (by rw [hfs]; exact hu) hf.2, hfs]
    have := eqFields_flat (P := P) d w fs.toList xs.toList ys.toList [] [] b hf.1.1 rfl (by rw [hn]; simpa using hs) hh
    simpa using this

theorem equal_of_val {ty : TypeId} {x y : Value} {cst b : Bool} {w : World} (h : eqVal (eqKind P ty) cst x y = some b) : (Op.equal ty x y).run P w = .ok b w := equal_of_val_at 9998 h

theorem run_loadCellsFrom (w : World) (a : Addr) : ∀ (n i : Nat) (acc : Array Value) (cs : List Value), cellsAt w a i n = some cs → (loadCellsFrom a i n acc).run P w = .ok (acc ++ cs.toArray) w
  | 0, i, acc, cs, h => by
    simp only [cellsAt, Option.some.injEq] at h
    subst h
    simp [loadCellsFrom]
  | n + 1, i, acc, cs, h => by
    unfold cellsAt at h
    split at h
    · rename_i v vs h1 h2
      cases h
      simp only [loadCellsFrom, load, Sem.run_bind, Sem.run, h1, Result.andThen_ok, run_loadCellsFrom w a n (i + 1) _ vs h2]
      simp
    · cases h

theorem fieldK_spec {ty : TypeId} {f off : Nat} {n : Option Nat} (h : fieldK P ty f = some (off, n)) : ∃ fs fl, P.underlying ty = some (.struct fs) ∧ fs[f]? = some fl ∧ fl.offset = off ∧ tyK P fl.type = some n ∧ n ≠ some 0 := by
  unfold fieldK at h
  split at h
  · rename_i fs hfs
    split at h
    · rename_i fl hfl
      refine ⟨fs, fl, hfs, hfl, ?_⟩
      split at h
      · rename_i ht; cases h; exact ⟨rfl, ht, by simp⟩
      · rename_i m ht
        split at h
        · cases h
        · cases h; exact ⟨rfl, ht, by simp_all⟩
      · cases h
    · cases h
  · cases h

theorem elemK_spec {ty e : TypeId} {n : Nat} (h : elemK P ty = some (e, n)) : P.underlying ty = some (.slice e) ∧ ∃ i, P.info? e = some i ∧ i.size = n := by
  unfold elemK at h
  split at h
  · rename_i e' hu
    cases hi : P.info? e' with
    | none => simp [hi] at h
    | some i => simp [hi] at h; obtain ⟨rfl, rfl⟩ := h; exact ⟨hu, i, hi, rfl⟩
  · cases h

theorem arrK_spec {ty e : TypeId} {m n : Nat} (h : arrK P ty = some (m, e, n)) : P.underlying ty = some (.array m e) ∧ ∃ i, P.info? e = some i ∧ i.size = n := by
  unfold arrK at h
  split at h
  · rename_i m' e' hu
    cases hi : P.info? e' with
    | none => simp [hi] at h
    | some i => simp [hi] at h; obtain ⟨rfl, rfl, rfl⟩ := h; exact ⟨hu, i, hi, rfl⟩
  · cases h

theorem runK_val {o : Oper} {t : Fr} {w : World} {K : VK} {Q : EP} {s : Sem Value} (ho : execOp (ev t) o = (do pure (.value (← s)))) (h : valK P s t w K Q .mk) : runK P o t w K Q .mk := by
  unfold runK; rw [ho]; exact h

theorem runK_unit {o : Oper} {t : Fr} {w : World} {K : VK} {Q : EP} {s : Sem Unit} (ho : execOp (ev t) o = (do s; pure .skip)) (h : unitK P s t w K Q .mk) : runK P o t w K Q .mk := by
  unfold runK; rw [ho]; exact h

theorem valK_of {s : Sem Value} {t : Fr} {w w' : World} {K : VK} {Q : EP} {v : Value} (h : s.run P w = .ok v w') (k : K v w') : valK P s t w K Q .mk := by
  unfold valK
  simp only [Sem.run_bind, h, Result.andThen_ok, Sem.run_pure]
  exact k

theorem unitK_of {s : Sem Unit} {t : Fr} {w w' : World} {K : VK} {Q : EP} (h : s.run P w = .ok () w') (k : K undef w') : unitK P s t w K Q .mk := by
  unfold unitK
  simp only [Sem.run_bind, h, Result.andThen_ok, Sem.run_pure]
  exact k

theorem optK_elim {α : Type} {x : Option α} {K : α → Prop} (h : optK x K .mk) : ∃ v, x = some v ∧ K v := by
  unfold optK at h
  split at h
  · exact ⟨_, rfl, h⟩
  · exact h.elim

theorem data_length (s : ByteArray) : s.data.toList.length = s.size := by rw [Array.length_toList]; rfl

theorem run_sliceBound {i : Int} {k : IntKind} {y : Nat} {code : BoundsCode} (h : 0 ≤ i ∧ i ≤ y) (w : World) : (Instr.sliceBound (.int k i) y code).run P w = .ok i.toNat w := by
  simp [Instr.sliceBound, asIntOf, h]

theorem run_sliceBounds {isS : Bool} {len cap : Nat} {lo hi : Option Value} {l h : Int} (hl : natAt lo 0 = some l) (hh : natAt hi len = some h) (b : 0 ≤ l ∧ l ≤ h ∧ h ≤ cap) (w : World) :
    (Instr.sliceBounds isS len cap lo hi none).run P w = .ok (l.toNat, h.toNat, cap) w := by
  have low : ∀ (v : Option Value), natAt v 0 = some l → (match v with | some v => Instr.sliceBound v h.toNat .sliceB | none => pure 0).run P w = .ok l.toNat w := by
    intro v hv
    cases v with
    | none => simp [natAt] at hv; subst hv; rfl
    | some v =>
      cases v <;> simp [natAt] at hv
      subst hv
      exact run_sliceBound (by omega) w
  cases hi with
  | none =>
    simp [natAt] at hh
    subst hh
    cases lo with
    | none => simp [natAt] at hl; subst hl; simp [Instr.sliceBounds]
    | some v =>
      cases v <;> simp [natAt] at hl
      subst hl
      simp [Instr.sliceBounds, run_sliceBound (P := P) (show 0 ≤ _ ∧ _ ≤ _ from ⟨b.1, b.2.1⟩) w]
  | some v =>
    cases v <;> simp [natAt] at hh
    subst hh
    rename_i k i
    have e1 : ∀ c, (Instr.sliceBound (.int k i) cap c).run P w = .ok i.toNat w := fun c => run_sliceBound (by omega) w
    have e2 : ((i.toNat : Nat) : Int) = i := by omega
    cases lo with
    | none => simp [natAt] at hl; subst hl; simp [Instr.sliceBounds, e1]
    | some v =>
      cases v <;> simp [natAt] at hl
      subst hl
      simp [Instr.sliceBounds, e1, run_sliceBound (P := P) (show 0 ≤ _ ∧ _ ≤ ((i.toNat : Nat) : Int) from ⟨b.1, by omega⟩) w]

theorem splice_cons : ∀ (l : List Value) (n : Nat) (c : Value) (cs : List Value), splice (l.set n c) (n + 1) cs = splice l n (c :: cs)
  | [], n, c, cs => by cases n <;> simp [splice]
  | x :: l, 0, c, cs => by simp [splice]
  | x :: l, n + 1, c, cs => by simp [splice, splice_cons l n c cs]

theorem splice_fold : ∀ (cs : List Value) (off k : Nat) (l : List Value), (cs.zipIdx k).foldl (fun a (p : Value × Nat) => a.set (off + p.2) p.1) l = splice l (off + k) cs
  | [], off, k, l => by
    have : ∀ (l : List Value) (n : Nat), splice l n [] = l := by
      intro l
      induction l with
      | nil => intro n; cases n <;> simp [splice]
      | cons x l ih => intro n; cases n <;> simp [splice, ih]
    simp [this]
  | c :: cs, off, k, l => by
    simp only [List.zipIdx_cons, List.foldl_cons]
    rw [splice_fold cs off (k + 1), ← Nat.add_assoc, splice_cons]

theorem cellsL_eq (v : Value) : v.cells.toList = cellsL v := by cases v <;> rfl

theorem fill_eq (places : List (Nat × Nat)) : ∀ (parts : List (Nat × Value)) (cells : List Value) (cs : List Value), buildL places cells parts = some cs →
    Instr.fill (fun i => places[i]?) cells.toArray parts = some cs.toArray
  | [], cells, cs, h => by simp [buildL] at h; simp [Instr.fill, h]
  | (i, v) :: rest, cells, cs, h => by
    simp only [buildL] at h
    simp only [Instr.fill]
    split at h
    · rename_i off size hp
      simp only [hp]
      split at h
      · rename_i hc
        simp only [Bool.and_eq_true, decide_eq_true_eq] at hc
        have h1 := sizeOk_spec _ _ hc.1
        have h2 : v.cells.size = size := by rw [← h1, ← cellsL_eq, Array.length_toList]
        rw [if_neg (by simp [h2]; omega)]
        rw [← fill_eq places rest _ cs h]
        congr 1
        apply Array.ext'
        have h3 := splice_fold (cellsL v) off 0 cells
        rw [Nat.add_zero] at h3
        rw [← h3, ← cellsL_eq]
        rw [← Array.foldl_toList]
        have : ∀ (ps : List (Value × Nat)) (a : Array Value), (ps.foldl (fun cs p => cs.setIfInBounds (off + p.2) p.1) a).toList = ps.foldl (fun a p => a.set (off + p.2) p.1) a.toList := by
          intro ps
          induction ps with
          | nil => intro a; rfl
          | cons p ps ih => intro a; simp only [List.foldl_cons, ih, Array.toList_setIfInBounds]
        rw [this]
        simp [Array.toList_zipIdx]
      · cases h
    · cases h

theorem run_build {ty : TypeId} {z : List Value} {places : List (Nat × Nat)} {parts : List (Nat × Value)} {cs : List Value} (hb : bldI P ty = some (z, places)) (h : buildL places z parts = some cs) (w : World) :
    (Instr.build ty parts.toArray).run P w = .ok (.agg cs.toArray) w := by
  unfold bldI at hb
  split at hb
  · rename_i i fs hi hu
    split at hb
    · rename_i zv hz
      split at hb
      · rename_i hall
        simp only [Option.some.injEq, Prod.mk.injEq] at hb
        obtain ⟨rfl, rfl⟩ := hb
        have hm : ∀ (l : List Field), l.all (fun f => (P.info? f.type).isSome) = true → (l.mapM (m := Sem) fun f => do pure (f.offset, ← sizeOf f.type)).run P w = .ok (l.map fun f => (f.offset, ((P.info? f.type).map (·.size)).getD 0)) w := by
          intro l
          induction l with
          | nil => intro _; rfl
          | cons f l ih =>
            intro hl
            simp only [List.all_cons, Bool.and_eq_true] at hl
            obtain ⟨j, hj⟩ := Option.isSome_iff_exists.1 hl.1
            have hs : (sizeOf f.type).run P w = .ok j.size w := by simp [sizeOf, typeInfo, hj]
            simp only [List.mapM_cons, Sem.run_bind, hs, Result.andThen_ok, Sem.run_pure, ih hl.2, List.map_cons, hj, Option.map_some, Option.getD_some]
        have hm' : (fs.mapM (m := Sem) fun f => do pure (f.offset, ← sizeOf f.type)).run P w = .ok (fs.toList.map fun f => (f.offset, ((P.info? f.type).map (·.size)).getD 0)).toArray w := by
          have e : fs = fs.toList.toArray := by simp
          rw [e, List.mapM_toArray, map_eq_pure_bind]
          simp only [Sem.run_bind, hm fs.toList hall, Result.andThen_ok, Sem.run_pure]
        have hf := fill_eq _ parts _ cs h
        unfold Instr.build
        have hz' : (zeroValue ty).run P w = .ok zv w := by simp [zeroValue, typeInfo, hi, hz]
        simp only [Sem.run_bind, hz', Result.andThen_ok, run_underlying hu]
        simp only [hm', Result.andThen_ok]
        have e1 : zv.cells = (cellsL zv).toArray := by rw [← cellsL_eq]
        rw [e1]
        have e2 : (fun i : Nat => (fs.toList.map fun f => (f.offset, ((P.info? f.type).map (·.size)).getD 0)).toArray[i]?) = (fun i : Nat => (fs.toList.map fun f => (f.offset, ((P.info? f.type).map (·.size)).getD 0))[i]?) := by funext i; simp
        rw [e2, hf]
        rfl
      · cases hb
    · cases hb
  · cases hb

theorem pureK_ok {o : Oper} {t : Fr} {L : VP} {other : Prop} (h : pureK P o t L other .mk) : other ∨ ∃ v, Gives P o t v ∧ L v := by
  unfold pureK at h
  split at h
  · rename_i x ho; exact .inr ⟨_, fun w => by unfold execOp; simp only [ho]; rfl, h⟩
  · rename_i x ho; exact .inr ⟨_, fun w => by unfold execOp; simp only [ho]; rfl, h⟩
  · rename_i c a b ho
    unfold pickK at h
    split at h
    · rename_i x hx
      exact .inr ⟨_, fun w => by unfold execOp; simp only [ho, hx]; simp [asBool], h⟩
    · exact h.elim
  · rename_i op ty x y yt ho
    have h' := binK_ok (P := P) ho h
    clear h
    rcases h' with h | h
    · unfold eqNilK at h
      split at h
      · rename_i b hb
        exact .inr ⟨_, fun w => execOp_bin ho (eqGuard_of_val hb w) (by rw [binOp_eql_val hb]; simp [equal_of_val hb]), h⟩
      · rename_i b hb
        exact .inr ⟨_, fun w => execOp_bin ho (eqGuard_of_val hb w) (by rw [binOp_neq_val hb]; simp [equal_of_val hb]), h⟩
      · exact .inl h
    · exact .inr h
  · rename_i op ty x ho; exact unK_ok ho h
  · rename_i x i ho
    unfold extractK at h
    split at h
    · rename_i vs hx
      split at h
      · rename_i v hv
        refine .inr ⟨_, fun w => ?_, h⟩
        have hv' : vs[i]? = some v := by simpa using hv
        unfold execOp
        simp [ho, hx, Instr.extract, hv']
      · exact h.elim
    · exact h.elim
  · rename_i s d x ho
    unfold convK at h
    split at h
    · rename_i k k' n hd hx
      refine .inr ⟨_, fun w => ?_, h⟩
      split at hd
      · rename_i hs
        obtain ⟨s', hs'⟩ := Option.isSome_iff_exists.1 hs
        unfold execOp
        simp [ho, hx, convert, run_underlying hd, run_underlying hs', Conv.intToInt]
      · cases hd
    · rename_i k hd hx
      refine .inr ⟨_, fun w => ?_, h⟩
      split at hd
      · rename_i hs
        obtain ⟨s', hs'⟩ := Option.isSome_iff_exists.1 hs
        unfold execOp
        simp [ho, hx, convert, run_underlying hd, run_underlying hs']
      · cases hd
    · exact .inl h
  · rename_i ty x i ho
    unfold indexK at h
    split at h
    · rename_i s k n hd hx hi
      obtain ⟨⟨h0, h1⟩, h⟩ := h
      refine .inr ⟨_, fun w => ?_, h⟩
      have hlt : n.toNat < s.size := by
        have e : s.data.toList.length = s.size := by rw [Array.length_toList]; rfl
        rw [e] at h1
        omega
      have e1 : s[n.toNat]? = some (s.data.toList.getD n.toNat 0) := by
        rw [getElem?_pos s n.toNat hlt]
        simp [List.getD_eq_getElem?_getD, ByteArray.getElem_eq_getElem_data, hlt]
      unfold execOp
      simp only [ho, hx, hi, Instr.index, asIntOf, Sem.run_bind, Sem.run_pure, Result.andThen_ok, run_underlying hd, h0, if_true, e1]
    · exact .inl h
  · rename_i fn first cap ho; exact .inr ⟨_, fun w => by unfold execOp; simp only [ho, Instr.makeFunc]; rfl, h⟩
  · rename_i ty parts ho
    unfold buildK at h
    split at h
    · rename_i z places hb
      obtain ⟨cs, hc, hk⟩ := optK_elim h
      refine .inr ⟨_, fun w => ?_, hk⟩
      have hr := run_build (P := P) hb hc w
      have e : (parts.toList.map fun (p : Nat × Operand) => (p.1, ev t p.2)).toArray = parts.map fun (p : Nat × Operand) => (p.1, ev t p.2) := by apply Array.ext'; simp
      unfold execOp
      simp only [ho]
      rw [show (Array.map (fun (x : Nat × Operand) => match x with | (i, x) => (i, ev t x)) parts) = (parts.toList.map fun (p : Nat × Operand) => (p.1, ev t p.2)).toArray from e.symm]
      simp only [Sem.run_bind]
      rw [show (List.map (fun (x : Nat × Operand) => match x with | (i, x) => (i, ev t x)) parts.toList) = (parts.toList.map fun (p : Nat × Operand) => (p.1, ev t p.2)) from rfl] at hr
      rw [hr]
      rfl
    · exact h.elim
  · rename_i args aty ho
    split at h
    · rename_i x ty ha ht
      have ha' : args = #[x] := by rw [← Array.toArray_toList (xs := args), ha]
      have ht' : aty = #[ty] := by rw [← Array.toArray_toList (xs := aty), ht]
      unfold lenK at h
      split at h
      · rename_i s hd hx
        exact .inr ⟨_, fun w => by unfold execOp; simp [ho, ha', ht', resolve, invoke, builtin, Builtin.len_, hx, run_underlying hd, goInt], h⟩
      · rename_i e a n c hd hx
        exact .inr ⟨_, fun w => by unfold execOp; simp [ho, ha', ht', resolve, invoke, builtin, Builtin.len_, hx, run_underlying hd, goInt], h⟩
      · exact .inl h
    · exact .inl h
  · rename_i args aty ho
    unfold mmK at h
    split at h
    · rename_i k a k' b ha
      have ha' : (args.map (ev t)) = #[.int k a, .int k' b] := by rw [← Array.toArray_toList (xs := args.map (ev t)), Array.toList_map, ha]
      exact .inr ⟨_, fun w => by unfold execOp; simp only [ho, resolve, ha']; simp [invoke, builtin, Builtin.max_, Builtin.max2], h⟩
    · exact .inl h
  · rename_i args aty ho
    unfold mmK at h
    split at h
    · rename_i k a k' b ha
      have ha' : (args.map (ev t)) = #[.int k a, .int k' b] := by rw [← Array.toArray_toList (xs := args.map (ev t)), Array.toList_map, ha]
      exact .inr ⟨_, fun w => by unfold execOp; simp only [ho, resolve, ha']; simp [invoke, builtin, Builtin.min_, Builtin.min2], h⟩
    · exact .inl h
  · rename_i ty x f ho
    unfold fieldAddrK at h
    split at h
    · rename_i off n a hf hx
      obtain ⟨fs, fl, hu, hfl, rfl, ht, hn⟩ := fieldK_spec hf
      refine .inr ⟨_, fun w => ?_, h⟩
      have hs : ∀ w : World, ∃ m, (sizeOf fl.type).run P w = .ok m w ∧ m ≠ 0 := fun w => by
        cases n with
        | none => exact ⟨1, (tyK_one ht w).2, by simp⟩
        | some m => exact ⟨m, (tyK_many ht w).2, fun e => hn (by rw [e])⟩
      obtain ⟨m, hm, hm0⟩ := hs w
      unfold execOp
      simp [ho, hx, Instr.fieldAt, run_underlying hu, hfl, Instr.sureAddr, fieldPlace, hm, hm0]
    · exact h.elim
  · rename_i ty x f ho
    unfold partK at h
    split at h
    · rename_i off cs hf hx
      obtain ⟨fs, fl, hu, hfl, rfl, ht, hn⟩ := fieldK_spec hf
      obtain ⟨v, hc, hk⟩ := optK_elim h
      refine .inr ⟨_, fun w => ?_, hk⟩
      unfold execOp
      simp [ho, hx, Instr.field, run_underlying hu, hfl, asAgg, part_one ht hc w]
    · rename_i off n cs hf hx
      obtain ⟨fs, fl, hu, hfl, rfl, ht, hn⟩ := fieldK_spec hf
      refine .inr ⟨_, fun w => ?_, h⟩
      unfold execOp
      simp [ho, hx, Instr.field, run_underlying hu, hfl, asAgg, part_many ht w]
    · exact h.elim
  · rename_i ty x i ho
    unfold indexAddrK at h
    split at h
    · rename_i e size _ a n c k i' he hx hi
      obtain ⟨hu, ii, hinfo, rfl⟩ := elemK_spec he
      obtain ⟨hb, h⟩ := h
      refine .inr ⟨_, fun w => ?_, h⟩
      unfold execOp
      simp [ho, hx, hi, Instr.indexAt, asIntOf, run_underlying hu, hb, sizeOf, typeInfo, hinfo]
    · rename_i n e size a k i' _ he hx hi
      obtain ⟨hu, ii, hinfo, rfl⟩ := arrK_spec he
      obtain ⟨hb, h⟩ := h
      refine .inr ⟨_, fun w => ?_, h⟩
      unfold execOp
      simp [ho, hx, hi, Instr.indexAt, Instr.sureAddr, asIntOf, run_underlying hu, hb, sizeOf, typeInfo, hinfo]
    · exact h.elim
  · rename_i ty x lo hi mx ho
    unfold sliceK at h
    split at h
    · rename_i s hu hx hm
      split at h
      · rename_i l hh h1 h2
        obtain ⟨hb, hk⟩ := h
        refine .inr ⟨_, fun w => ?_, hk⟩
        have e := fun is => run_sliceBounds (P := P) (isS := is) (cap := s.data.toList.length) h1 h2 hb w
        rw [data_length] at e
        unfold execOp
        have hm' : Option.map (ev t) mx = none := hm
        simp only [ho, hx, Instr.sliceAt, run_underlying hu, Instr.slice, hm', Sem.run_bind, Result.andThen_ok, Option.isSome_none, Bool.false_eq_true, if_false, e, Sem.run_pure]
        simp only [str]
        congr 3
        apply ByteArray.ext
        apply Array.ext'
        simp [ByteArray.data_extract, List.drop_take]
      · exact h.elim
    · rename_i e' a len cap hu hx hm
      split at h
      · rename_i e size l hh he h1 h2
        obtain ⟨hu', ii, hinfo, rfl⟩ := elemK_spec he
        obtain ⟨hb, hk⟩ := h
        refine .inr ⟨_, fun w => ?_, hk⟩
        have e := fun is => run_sliceBounds (P := P) (isS := is) (cap := cap) h1 h2 hb w
        have hm' : Option.map (ev t) mx = none := hm
        rw [hu] at hu'
        cases hu'
        unfold execOp
        simp only [ho, hx, Instr.sliceAt, run_underlying hu, Instr.slice, hm', Sem.run_bind, Result.andThen_ok, e, Sem.run_pure]
        have : ((cap : Int) = l) ↔ (cap = l.toNat) := by omega
        simp [sizeOf, typeInfo, hinfo, this]
      · exact h.elim
    · exact .inl h
  · rename_i ty x ho
    unfold ifaceK at h
    split at h
    · exact .inl h
    · rename_i hk
      refine .inr ⟨_, fun w => ?_, h⟩
      split at hk
      · rename_i hs
        obtain ⟨d, hd⟩ := Option.isSome_iff_exists.1 hs
        unfold execOp
        simp only [ho, Instr.makeInterface, Sem.run_bind, run_underlying hd, Result.andThen_ok]
        cases d <;> first | (simp; done) | (exfalso; exact hk (by simp [eqKind, hd]))
      · exact absurd rfl hk
  · exact .inl h

theorem opK_ok {o : Oper} {t : Fr} {w : World} {K : Value → World → Prop} {Q : EP} (h : opK P o t w K Q .mk) : runK P o t w K Q .mk := by
  unfold opK at h
  split at h
  · rename_i f args aty ho
    unfold funK at h
    split at h
    · rename_i g first cap hf
      unfold callK at h
      unfold runK execOp
      have e : (first.toList ++ args.toList.map (ev t) ++ cap.toList).toArray = first ++ args.map (ev t) ++ cap := by apply Array.ext'; simp
      rw [e] at h
      simp only [ho, resolve, hf, Deferred.ofValue, Sem.run_bind, Sem.run_pure, Result.andThen_ok, invoke]
      exact h
    · exact h
  · rename_i ty x ho
    unfold loadK at h
    split at h
    · rename_i a ht hx
      obtain ⟨v, hc, hk⟩ := optK_elim h
      refine runK_value ?_ hk
      unfold execOp
      simp [ho, hx, Instr.loadAt, Instr.sureAddr, loadVar, (tyK_one ht w).1, load, Sem.run, hc]
    · rename_i n a ht hx
      obtain ⟨v, hc, hk⟩ := optK_elim h
      refine runK_value ?_ hk
      unfold execOp
      simp [ho, hx, Instr.loadAt, Instr.sureAddr, loadVar, (tyK_many ht w).1, (tyK_many ht w).2, loadCells, run_loadCellsFrom (P := P) w a n 0 #[] v hc]
    · exact h.elim
  · rename_i ty x v ho
    have hu : ∀ h : unitK P (Instr.storeAt ty (ev t x) (ev t v)) t w K Q .mk, runK P o t w K Q .mk := fun h => runK_unit (by unfold execOp; simp only [ho]) h
    unfold storeK at h
    split at h
    · rename_i a ht hx
      obtain ⟨h1, h2, h3, hk⟩ := h
      obtain ⟨u, hc⟩ := Option.isSome_iff_exists.1 h2
      refine hu (unitK_of ?_ hk)
      have e1 : (ev t v).cells = #[ev t v] := by
        generalize ev t v = u at h1
        cases u <;> simp_all [Value.cells, oneCell]
      have e2 : ∀ k : Sem Unit, (Sem.store .plain a (ev t v) k).run P w = k.run P (w.setCell a (ev t v)) := fun k => by
        generalize ev t v = u at h1
        cases u <;> simp_all [Sem.run, oneCell]
      have e3 : a.add 0 = a := by simp [Addr.add]
      rw [hx]
      simp only [Instr.storeAt, Instr.sureAddr, Sem.run_bind, Sem.run_pure, Result.andThen_ok, storeVar, (tyK_one ht w).2, e1, List.size_toArray, List.length_cons, List.length_nil, ne_eq, not_true_eq_false, if_false, storeCells, store, e3, Nat.zero_add]
      simp only [e2, Sem.run]
      rfl
    · exact hu h
  · rename_i e x ho
    exact runK_value (by unfold execOp; simp [ho, Instr.box, newVar, newRow]) h
  · rename_i e ho; exact runK_val (by unfold execOp; simp only [ho]) h
  · rename_i s d x ho
    rcases pureK_ok (P := P) (o := o) (t := t) (L := (K · w)) (other := valK P (convert s d (ev t x)) t w K Q .mk) (by unfold pureK; simp only [ho]; exact h) with h | ⟨v, hg, hk⟩
    · exact runK_val (by unfold execOp; simp only [ho]) h
    · exact runK_value (hg w) hk
  · rename_i ty n ps ho; exact runK_val (by unfold execOp; simp only [ho]) h
  · rename_i ty l c ho; exact runK_val (by unfold execOp; simp only [ho]) h
  · rename_i ty r ho; exact runK_val (by unfold execOp; simp only [ho]) h
  · rename_i ty x i ok ho; exact runK_val (by unfold execOp; simp only [ho]) h
  · rename_i ty m k x ho; exact runK_unit (by unfold execOp; simp only [ho]) h
  · rename_i ty m k x ho; exact runK_unit (by unfold execOp; simp only [ho]) h
  · rename_i x xt at_ ok ho; exact runK_val (by unfold execOp; simp only [ho]) h
  · rename_i x ho; exact runK_val (by unfold execOp; simp only [ho]) h
  · rename_i ty x ho; exact runK_val (by unfold execOp; simp only [ho]) h
  · rename_i args aty ho; exact runK_val (by unfold execOp; simp only [ho]; rfl) h
  · rename_i args aty ho; exact runK_val (by unfold execOp; simp only [ho]; rfl) h
  · rcases pureK_ok (P := P) h with h | ⟨v, hg, hk⟩
    · exact h
    · exact runK_value (hg w) hk

theorem wp_of_opK {o : Oper} {t : Fr} {w : World} {K : Value → World → Prop} {Q : EP} {next : Act → World → Prop}
    (hn : ∀ v w', K v w' → next ⟨(put t o.dst v).toArray, []⟩ w') (h : opK P o t w K Q .mk) : o.wp P ⟨t.toArray, []⟩ w next (lift Q) := by
  have h' := opK_ok h
  unfold runK at h'
  unfold Oper.wp
  rw [ev_eq]
  exact resK_upon hn h'

theorem set_getD_same (t : Fr) (s : Nat) (h : s < t.length) : t.set s (t.getD s undef) = t := by
  apply List.ext_getElem?
  intro i
  rw [List.getElem?_set]
  split
  · rename_i e; subst e
    simp [h, List.getD_eq_getElem?_getD]
  · rfl

theorem yielded_eq (ops : List Oper) (t : Fr) (j : Nat) : yielded ops.toArray t.toArray j = ((slotOf ops j).bind (t[·]?)).bind (fun | .bool b => some b | _ => none) := by
  unfold yielded slotOf
  simp only [List.getElem?_toArray]
  cases (ops[j]?).bind (·.dst) with
  | none => rfl
  | some s =>
    simp only [Option.bind_some]
    cases t[s]? with
    | none => rfl
    | some v => cases v <;> rfl

theorem vcOps_ok {ops : List Oper} {K : Fr → World → Prop} {Q : EP} {next : Exit → Act → World → Prop} (hn : ∀ t w, K t w → next .normal ⟨t.toArray, []⟩ w) (hq : ∀ e a w, lift Q e a w → next e a w) :
    ∀ (l : List Oper) (t : Fr) (w : World), vcOps P ops K Q l t w .mk → wpList P ops.toArray next l ⟨t.toArray, []⟩ w
  | [], t, w, h => hn t w h
  | o :: r, t, w, h => by
    have step : ∀ (t' : Fr), Region.wanted o (yielded ops.toArray t'.toArray) = true → opK P o t' w (fun v w' => vcOps P ops K Q r (put t' o.dst v) w' .mk) Q .mk → wpList P ops.toArray next (o :: r) ⟨t'.toArray, []⟩ w := fun t' hw h' => by
      unfold wpList
      rw [if_pos hw]
      refine .inl ?_
      have := wp_of_opK (next := wpList P ops.toArray next r) (fun v w' hk => vcOps_ok hn hq r _ w' hk) h'
      unfold Oper.wp at this ⊢
      generalize (execOp _ o).run P w = res at this
      cases res with
      | ok n w' =>
        cases n <;> simp only [Oper.upon] at this ⊢ <;> first | exact this | skip
        exact this.mono fun e w'' he => by
          cases e with
          | returned v => exact he
          | panicked c => exact hq _ _ _ he
          | outgrown => obtain ⟨a₀, w₀, hh⟩ := he; exact ⟨a₀, w₀, hq _ _ _ hh⟩
      | halt x w' => cases x <;> simp only [Oper.upon] at this ⊢ <;> first | exact this | exact hq _ _ _ this
    have skip : ∀ (t' : Fr), Region.wanted o (yielded ops.toArray t'.toArray) = false → vcOps P ops K Q r (put t' o.dst undef) w .mk → wpList P ops.toArray next (o :: r) ⟨t'.toArray, []⟩ w := fun t' hw h' => by
      unfold wpList
      rw [if_neg (by rw [hw]; simp)]
      rw [put_eq]
      exact vcOps_ok hn hq r _ w h'
    simp only [vcOps] at h
    split at h
    · rename_i hg
      exact step t (by simp [Region.wanted, hg]) h
    · rename_i j want hg
      have hwant : ∀ t' : Fr, Region.wanted o (yielded ops.toArray t'.toArray) = (yielded ops.toArray t'.toArray j == some want) := fun t' => by simp only [Region.wanted, hg]
      unfold guardK at h
      split at h
      · rename_i hs
        exact skip t (by rw [hwant, yielded_eq, hs]; rfl) h
      · rename_i s hs
        split at h
        · rename_i b hb
          have hlt : s < t.length := by
            rcases Nat.lt_or_ge s t.length with h' | h'
            · exact h'
            · simp [List.getD_eq_getElem?_getD, List.getElem?_eq_none h', undef] at hb
          have hv : t[s]? = some (.bool b) := by
            rw [List.getD_eq_getElem?_getD] at hb
            rw [List.getElem?_eq_getElem hlt] at hb ⊢
            simpa using hb
          have hy : yielded ops.toArray t.toArray j = some b := by rw [yielded_eq, hs]; simp [hv]
          have same := set_getD_same t s hlt
          rw [hb] at same
          by_cases hbw : b = want
          · subst hbw
            have h1 := h.1 rfl
            rw [same] at h1
            exact step t (by rw [hwant, hy]; simp) h1
          · have hbn : b = !want := by cases b <;> cases want <;> simp_all
            have h2 := h.2 hbn
            rw [← hbn, same] at h2
            exact skip t (by rw [hwant, hy]; simpa using hbw) h2
        · rename_i hb
          refine skip t ?_ h
          rw [hwant, yielded_eq, hs]
          simp only [Option.bind_some]
          cases hv : t[s]? with
          | none => rfl
          | some v =>
            have : t.getD s undef = v := by rw [List.getD_eq_getElem?_getD, hv]; rfl
            rw [this] at hb
            cases v <;> simp at hb ⊢

theorem wpL_mono {c : Code} {Q Q' : EP} {t : Fr} {w : World} (hq : ∀ e t w, Q e t w → Q' e t w) (h : wpL P c Q t w .mk) : wpL P c Q' t w .mk :=
  Code.wp_mono (fun _ _ _ hh => ⟨hh.1, hq _ _ _ hh.2⟩) h

theorem act_eq {a : Act} (h : a.defers = []) : a = ⟨a.tmps.toList.toArray, []⟩ := by cases a; simp_all

theorem vc_ok : ∀ (c : Code) (Q : EP) (t : Fr) (w : World), vc P c Q t w .mk → wpL P c Q t w .mk
  | .skip, _, _, _, h => wp_skip ⟨rfl, by simpa [vc] using h⟩
  | .region _ ops false, Q, t, w, h => by
    refine wp_region_list ?_
    have := vcOps_ok (P := P) (ops := ops.toList) (next := lift Q) (fun t w hk => ⟨rfl, by simpa using hk⟩) (fun _ _ _ h => h) ops.toList t w h
    simpa using this
  | .region _ _ true, _, _, _, h => h
  | .seq a b, Q, t, w, h => by
    refine wp_seq (Code.wp_mono ?_ (vc_ok a _ t w h))
    rintro e a' w' ⟨hd, hh⟩
    cases e <;> simp only [seqQ] at hh <;> simp only [Exit.then] <;> first | exact ⟨hd, hh⟩ | skip
    have := vc_ok b Q _ w' hh
    rw [act_eq hd]
    exact this
  | .cond c a b, Q, t, w, h => by
    simp only [vc] at h
    unfold condK at h
    split at h
    · rename_i x hx
      refine wp_cond_split (t := x) (by rw [ev_eq]; exact hx) (fun hx' => vc_ok a Q t w (h.1 hx')) (fun hx' => vc_ok b Q t w (h.2 hx'))
    · exact h.elim
  | .block i c, Q, t, w, h => by
    refine wp_block (Code.wp_mono ?_ (vc_ok c _ t w h))
    rintro e a' w' ⟨hd, hh⟩
    cases e <;> simp only [blockQ] at hh <;> simp only [Exit.inBlock] <;> first | exact ⟨hd, hh⟩ | skip
    split at hh
    · rename_i e; simp only [e, if_true]; exact ⟨hd, hh⟩
    · rename_i e; simp only [e, if_false]; exact ⟨hd, hh⟩
  | .exit i, _, _, _, h => wp_exit ⟨rfl, by simpa [vc] using h⟩
  | .ret, _, _, _, h => wp_ret ⟨rfl, by simpa [vc] using h⟩
  | .label _, _, _, _, h => wp_label ⟨rfl, by simpa [vc] using h⟩
  | .goto l, _, _, _, h => wp_goto ⟨rfl, by simpa [vc] using h⟩
  | .loop _, _, _, _, h => h
  | .scope _, _, _, _, h => h
  | .rangeFunc .., _, _, _, h => h
  | .refuse _, _, _, _, h => h
end
end Go.Vc
end

section
namespace Go.Vc
open Go.RowKit

section
variable {P : Program} {t : Fr} {w : World} {K : VK} {Q : EP} {N : Fr → World → Prop} {L : VP} {other : Prop}

/-- Numbered operands, evaluated. -/
def evs (t : Fr) : List (Nat × Operand) → List (Nat × Value)
  | ps => ps.map fun (i, x) => (i, ev t x)
theorem evs_nil (t : Fr) : evs t [] = [] := (rfl)
theorem evs_cons (t : Fr) (i x ps) : evs t ((i, x) :: ps) = (i, ev t x) :: evs t ps := (rfl)
theorem ev_tmp (i : Nat) : ev t (.tmp i) = t.getD i undef := (rfl)
theorem ev_const (v : Value) : ev t (.const v) = v := (rfl)
theorem ev_global (g : Nat) : ev t (.global g) = .pointer (some ⟨g, 0, none⟩) := (rfl)
theorem ev_func (f : FuncId) : ev t (.func f) = .func (.func f) #[] #[] := (rfl)
theorem put_some (d : Nat) (v : Value) : put t (some d) v = t.set d v := (rfl)
theorem put_none (v : Value) : put t none v = t := (rfl)
theorem get_zero (x : Value) (l : List Value) (d : Value) : (x :: l).getD 0 d = x := (rfl)
theorem get_succ (x : Value) (l : List Value) (n : Nat) (d : Value) : (x :: l).getD (n + 1) d = l.getD n d := (rfl)
theorem set_zero (x : Value) (l : List Value) (v : Value) : (x :: l).set 0 v = v :: l := (rfl)
theorem set_succ (x : Value) (l : List Value) (n : Nat) (v : Value) : (x :: l).set (n + 1) v = x :: l.set n v := (rfl)

theorem vc_skip (p) : vc P .skip Q t w p = Q .normal t w := (rfl)
theorem vc_region (id : Nat) (l : List Oper) (p) : vc P (.region id l.toArray false) Q t w p = vcOps P l (Q .normal) Q l t w .mk := (rfl)
theorem vc_draw (id : Nat) (l : Array Oper) (p) : vc P (.region id l true) Q t w p = wpL P (.region id l true) Q t w .mk := (rfl)
theorem vc_seq (a b : Code) (p) : vc P (.seq a b) Q t w p = vc P a (seqQ (fun t w => vc P b Q t w .mk) Q .mk) t w .mk := (rfl)
theorem vc_cond (c : Operand) (a b : Code) (p) : vc P (.cond c a b) Q t w p = condK (ev t c) (vc P a Q t w .mk) (vc P b Q t w .mk) .mk := (rfl)
theorem vc_block (i : Nat) (c : Code) (p) : vc P (.block i c) Q t w p = vc P c (blockQ i Q .mk) t w .mk := (rfl)
theorem vc_exit (i : Nat) (p) : vc P (.exit i) Q t w p = Q (.exit i) t w := (rfl)
theorem vc_ret (p) : vc P .ret Q t w p = Q .ret t w := (rfl)
theorem vc_label (l : Nat) (p) : vc P (.label l) Q t w p = Q .normal t w := (rfl)
theorem vc_goto (l : Nat) (p) : vc P (.goto l) Q t w p = Q (.goto l) t w := (rfl)
theorem vc_loop (c : Code) (p) : vc P (.loop c) Q t w p = wpL P (.loop c) Q t w .mk := (rfl)
theorem vc_scope (c : Code) (p) : vc P (.scope c) Q t w p = wpL P (.scope c) Q t w .mk := (rfl)
theorem vc_rangeFunc (f ps a b p) : vc P (.rangeFunc f ps a b) Q t w p = wpL P (.rangeFunc f ps a b) Q t w .mk := (rfl)

theorem seqQ_normal (Q : EP) (p) : seqQ N Q p .normal t w = N t w := (rfl)
theorem seqQ_ret (Q : EP) (p) : seqQ N Q p .ret t w = Q .ret t w := (rfl)
theorem seqQ_exit (Q : EP) (i : Nat) (p) : seqQ N Q p (.exit i) t w = Q (.exit i) t w := (rfl)
theorem seqQ_goto (Q : EP) (i : Nat) (p) : seqQ N Q p (.goto i) t w = Q (.goto i) t w := (rfl)
theorem seqQ_panic (Q : EP) (c) (p) : seqQ N Q p (.panic c) t w = Q (.panic c) t w := (rfl)
theorem blockQ_normal (Q : EP) (i : Nat) (p) : blockQ i Q p .normal t w = Q .normal t w := (rfl)
theorem blockQ_ret (Q : EP) (i : Nat) (p) : blockQ i Q p .ret t w = Q .ret t w := (rfl)
theorem blockQ_goto (Q : EP) (i j : Nat) (p) : blockQ i Q p (.goto j) t w = Q (.goto j) t w := (rfl)
theorem blockQ_panic (Q : EP) (i : Nat) (c) (p) : blockQ i Q p (.panic c) t w = Q (.panic c) t w := (rfl)
theorem blockQ_same (Q : EP) (i : Nat) (p) : blockQ i Q p (.exit i) t w = Q .normal t w := by simp [blockQ]
theorem blockQ_other (Q : EP) (i j : Nat) (p) (h : (j == i) = false) : blockQ i Q p (.exit j) t w = Q (.exit j) t w := by simp [blockQ, show ¬ j = i by simpa using h]

theorem vcOps_nil (ops) (p) : vcOps P ops N Q [] t w p = N t w := (rfl)
theorem vcOps_plain (ops) (d op ty pos af r) (p) : vcOps P ops N Q (⟨d, op, ty, pos, af, none⟩ :: r) t w p = opK P ⟨d, op, ty, pos, af, none⟩ t w (fun v w' => vcOps P ops N Q r (put t d v) w' .mk) Q .mk := (rfl)
theorem vcOps_guard (ops) (d op ty pos af j want r) (p) : vcOps P ops N Q (⟨d, op, ty, pos, af, some (j, want)⟩ :: r) t w p =
    guardK (slotOf ops j) want t (fun t' => opK P ⟨d, op, ty, pos, af, some (j, want)⟩ t' w (fun v w' => vcOps P ops N Q r (put t' d v) w' .mk) Q .mk) (fun t' => vcOps P ops N Q r (put t' d undef) w .mk) .mk := rfl
theorem slotOf_zero (o : Oper) (l : List Oper) : slotOf (o :: l) 0 = o.dst := (rfl)
theorem slotOf_succ (o : Oper) (l : List Oper) (n : Nat) : slotOf (o :: l) (n + 1) = slotOf l n := (rfl)
theorem oper_dst (d op ty pos af g) : (Oper.mk d op ty pos af g).dst = d := (rfl)

/-- A guard: read off its slot. -/
def gK (v : Value) (s : Nat) (want : Bool) (t : Fr) (yes no : Fr → Prop) (_ : Ph (yes, no)) : Prop := match v with
  | .bool b => (b = want → yes (t.set s (.bool want))) ∧ (b = !want → no (t.set s (.bool !want)))
  | _ => no t
theorem guardK_eq (s : Nat) (want : Bool) (yes no : Fr → Prop) (p) : guardK (some s) want t yes no p = gK (t.getD s undef) s want t yes no .mk := by
  simp only [guardK, gK]
  all_goals (generalize t.getD s undef = v; cases v <;> rfl)
theorem guardK_none (want : Bool) (yes no : Fr → Prop) (p) : guardK none want t yes no p = no t := (rfl)
theorem gK_tt (s : Nat) (yes no : Fr → Prop) (p) : gK (.bool true) s true t yes no p = yes (t.set s (.bool true)) := by simp [gK]
theorem gK_ff (s : Nat) (yes no : Fr → Prop) (p) : gK (.bool false) s false t yes no p = yes (t.set s (.bool false)) := by simp [gK]
theorem gK_tf (s : Nat) (yes no : Fr → Prop) (p) : gK (.bool true) s false t yes no p = no (t.set s (.bool true)) := by simp [gK]
theorem gK_ft (s : Nat) (yes no : Fr → Prop) (p) : gK (.bool false) s true t yes no p = no (t.set s (.bool false)) := by simp [gK]
theorem gK_undef (s : Nat) (want : Bool) (yes no : Fr → Prop) (p) : gK undef s want t yes no p = no t := (rfl)
theorem condK_tt (x y : Prop) (p) : condK (.bool true) x y p = x := by simp [condK]
theorem condK_ff (x y : Prop) (p) : condK (.bool false) x y p = y := by simp [condK]
theorem condK_b (b : Bool) (x y : Prop) (p) : condK (.bool b) x y p = ((b = true → x) ∧ (b = false → y)) := (rfl)
theorem condK_dec (q : Prop) [Decidable q] (x y : Prop) (p) : condK (.bool (decide q)) x y p = ((q → x) ∧ (¬ q → y)) := by simp [condK]
theorem condK_not (b : Bool) (x y : Prop) (p) : condK (.bool (!b)) x y p = condK (.bool b) y x .mk := by cases b <;> simp [condK]
theorem gK_t_dec (q : Prop) [Decidable q] (s : Nat) (yes no : Fr → Prop) (p) : gK (.bool (decide q)) s true t yes no p = ((q → yes (t.set s (.bool true))) ∧ (¬ q → no (t.set s (.bool false)))) := by simp [gK]
theorem gK_f_dec (q : Prop) [Decidable q] (s : Nat) (yes no : Fr → Prop) (p) : gK (.bool (decide q)) s false t yes no p = ((¬ q → yes (t.set s (.bool false))) ∧ (q → no (t.set s (.bool true)))) := by simp [gK]
theorem pickK_tt (a b : Value) (p) : pickK (.bool true) a b L p = L a := (rfl)
theorem pickK_ff (a b : Value) (p) : pickK (.bool false) a b L p = L b := (rfl)
/-! operations -/
theorem opK_move (d x ty pos af g) (p) : opK P ⟨d, .move x, ty, pos, af, g⟩ t w K Q p = K (ev t x) w := (rfl)
theorem opK_assign (d x ty pos af g) (p) : opK P ⟨d, .assign x, ty, pos, af, g⟩ t w K Q p = K (ev t x) w := (rfl)
theorem opK_pick (d c a b ty pos af g) (p) : opK P ⟨d, .pick c a b, ty, pos, af, g⟩ t w K Q p = pickK (ev t c) (ev t a) (ev t b) (K · w) .mk := (rfl)
theorem opK_bin (d op xt x y yt ty pos af g) (p) : opK P ⟨d, .binOp op xt x y yt, ty, pos, af, g⟩ t w K Q p =
    binK op (ev t x) (ev t y) (K · w) (eqNilK (eqKind P xt) (isConst x || isConst y) op (ev t x) (ev t y) (K · w) (runK P ⟨d, .binOp op xt x y yt, ty, pos, af, g⟩ t w K Q .mk) .mk) .mk := rfl
theorem opK_un (d op xt x ty pos af g) (p) : opK P ⟨d, .unOp op xt x, ty, pos, af, g⟩ t w K Q p = unK op (ev t x) (K · w) (runK P ⟨d, .unOp op xt x, ty, pos, af, g⟩ t w K Q .mk) .mk := (rfl)
theorem opK_extract (d x i ty pos af g) (p) : opK P ⟨d, .extract x i, ty, pos, af, g⟩ t w K Q p = extractK (ev t x) i (K · w) .mk := (rfl)
theorem opK_convert (d s e x ty pos af g) (p) : opK P ⟨d, .convert s e x, ty, pos, af, g⟩ t w K Q p = convK (if (P.underlying s).isSome then P.underlying e else none) (ev t x) (K · w) (valK P (convert s e (ev t x)) t w K Q .mk) .mk := (rfl)
theorem opK_index (d xt x i ty pos af g) (p) : opK P ⟨d, .index xt x i, ty, pos, af, g⟩ t w K Q p = indexK (P.underlying xt) (ev t x) (ev t i) (K · w) (runK P ⟨d, .index xt x i, ty, pos, af, g⟩ t w K Q .mk) .mk := (rfl)
theorem opK_makeFunc (d fn) (a c : List Operand) (ty pos af g) (p) : opK P ⟨d, .makeFunc fn a.toArray c.toArray, ty, pos, af, g⟩ t w K Q p = K (.func fn (a.map (ev t)).toArray (c.map (ev t)).toArray) w := by
  simp [opK, pureK]
theorem opK_call (d f) (args : List Operand) (aty ty pos af g) (p) : opK P ⟨d, .call { callee := .value f, args := args.toArray, argTypes := aty }, ty, pos, af, g⟩ t w K Q p =
    funK P (ev t f) (args.map (ev t)) t w K Q (runK P ⟨d, .call { callee := .value f, args := args.toArray, argTypes := aty }, ty, pos, af, g⟩ t w K Q .mk) .mk := rfl
theorem opK_len (d x aty ty pos af g) (p) : opK P ⟨d, .call { callee := .builtin .len, args := #[x], argTypes := #[aty] }, ty, pos, af, g⟩ t w K Q p =
    lenK (P.underlying aty) (ev t x) (K · w) (runK P ⟨d, .call { callee := .builtin .len, args := #[x], argTypes := #[aty] }, ty, pos, af, g⟩ t w K Q .mk) .mk := rfl
theorem opK_max (d) (args : List Operand) (aty ty pos af g) (p) : opK P ⟨d, .call { callee := .builtin .max, args := args.toArray, argTypes := aty }, ty, pos, af, g⟩ t w K Q p =
    mmK true (args.map (ev t)) (K · w) (runK P ⟨d, .call { callee := .builtin .max, args := args.toArray, argTypes := aty }, ty, pos, af, g⟩ t w K Q .mk) .mk := rfl
theorem opK_min (d) (args : List Operand) (aty ty pos af g) (p) : opK P ⟨d, .call { callee := .builtin .min, args := args.toArray, argTypes := aty }, ty, pos, af, g⟩ t w K Q p =
    mmK false (args.map (ev t)) (K · w) (runK P ⟨d, .call { callee := .builtin .min, args := args.toArray, argTypes := aty }, ty, pos, af, g⟩ t w K Q .mk) .mk := rfl
theorem opK_load (d xt x ty pos af g) (p) : opK P ⟨d, .load xt x, ty, pos, af, g⟩ t w K Q p = loadK (tyK P xt) (ev t x) w K .mk := (rfl)
theorem opK_store (d xt x v ty pos af g) (p) : opK P ⟨d, .store xt x v, ty, pos, af, g⟩ t w K Q p = storeK (tyK P xt) (ev t x) (ev t v) w K (unitK P (Instr.storeAt xt (ev t x) (ev t v)) t w K Q .mk) .mk := (rfl)
theorem opK_fieldAddr (d xt x f ty pos af g) (p) : opK P ⟨d, .fieldAddr xt x f, ty, pos, af, g⟩ t w K Q p = fieldAddrK (fieldK P xt f) (ev t x) (K · w) .mk := (rfl)
theorem opK_field (d xt x f ty pos af g) (p) : opK P ⟨d, .field xt x f, ty, pos, af, g⟩ t w K Q p = partK (fieldK P xt f) (ev t x) (K · w) .mk := (rfl)
theorem opK_indexAddr (d xt x i ty pos af g) (p) : opK P ⟨d, .indexAddr xt x i, ty, pos, af, g⟩ t w K Q p = indexAddrK (elemK P xt) (arrK P xt) (ev t x) (ev t i) (K · w) .mk := (rfl)
theorem opK_slice (d xt x lo hi mx ty pos af g) (p) : opK P ⟨d, .slice xt x lo hi mx, ty, pos, af, g⟩ t w K Q p =
    sliceK (P.underlying xt) (elemK P xt) (ev t x) (lo.map (ev t)) (hi.map (ev t)) (mx.map (ev t)) (K · w) (runK P ⟨d, .slice xt x lo hi mx, ty, pos, af, g⟩ t w K Q .mk) .mk := rfl
theorem opK_iface (d xt x ty pos af g) (p) : opK P ⟨d, .makeInterface xt x, ty, pos, af, g⟩ t w K Q p =
    ifaceK (if (P.underlying xt).isSome then eqKind P xt else 1) xt (ev t x) (K · w) (runK P ⟨d, .makeInterface xt x, ty, pos, af, g⟩ t w K Q .mk) .mk := rfl
theorem opK_box (d e x ty pos af g) (p) : opK P ⟨d, .box e x, ty, pos, af, g⟩ t w K Q p = boxK e (ev t x) w K .mk := (rfl)
theorem opK_alloc (d e ty pos af g) (p) : opK P ⟨d, .alloc e, ty, pos, af, g⟩ t w K Q p = valK P (Instr.alloc e true (.tuple #[])) t w K Q .mk := (rfl)
theorem opK_build (d bt) (ps : List (Nat × Operand)) (ty pos af g) (p) : opK P ⟨d, .build bt ps.toArray, ty, pos, af, g⟩ t w K Q p = buildK (bldI P bt) (evs t ps) (K · w) .mk := (rfl)
theorem opK_buildSlice (d bt n) (ps : List (Nat × Operand)) (ty pos af g) (p) : opK P ⟨d, .buildSlice bt n ps.toArray, ty, pos, af, g⟩ t w K Q p = valK P (Instr.buildSlice bt n (evs t ps).toArray) t w K Q .mk := by
  simp [opK, evs]
theorem opK_makeSlice (d bt l c ty pos af g) (p) : opK P ⟨d, .makeSlice bt l c, ty, pos, af, g⟩ t w K Q p = valK P (Instr.makeSlice bt (ev t l) (ev t c)) t w K Q .mk := (rfl)
theorem opK_makeMap (d bt r ty pos af g) (p) : opK P ⟨d, .makeMap bt r, ty, pos, af, g⟩ t w K Q p = valK P (Instr.makeMap bt (r.map (ev t))) t w K Q .mk := (rfl)
theorem opK_lookup (d bt x i ok ty pos af g) (p) : opK P ⟨d, .lookup bt x i ok, ty, pos, af, g⟩ t w K Q p = valK P (Instr.lookup bt (ev t x) (ev t i) ok) t w K Q .mk := (rfl)
theorem opK_mapUpdate (d bt m k x ty pos af g) (p) : opK P ⟨d, .mapUpdate bt m k x, ty, pos, af, g⟩ t w K Q p = unitK P (Instr.mapUpdate bt (ev t m) (ev t k) (ev t x)) t w K Q .mk := (rfl)
theorem opK_insert (d bt m k x ty pos af g) (p) : opK P ⟨d, .insert bt m k x, ty, pos, af, g⟩ t w K Q p = unitK P (Instr.mapUpdate bt (ev t m) (ev t k) (ev t x)) t w K Q .mk := (rfl)
theorem opK_typeAssert (d x xt at_ ok ty pos af g) (p) : opK P ⟨d, .typeAssert x xt at_ ok, ty, pos, af, g⟩ t w K Q p = valK P (Instr.typeAssert (ev t x) xt at_ ok) t w K Q .mk := (rfl)
theorem opK_panic (d x ty pos af g) (p) : opK P ⟨d, .panic x, ty, pos, af, g⟩ t w K Q p = valK P (Instr.panic (ev t x)) t w K Q .mk := (rfl)
theorem opK_range (d xt x ty pos af g) (p) : opK P ⟨d, .range xt x, ty, pos, af, g⟩ t w K Q p = valK P (Instr.range xt (ev t x)) t w K Q .mk := (rfl)
theorem opK_append (d) (args : List Operand) (aty ty pos af g) (p) : opK P ⟨d, .call { callee := .builtin .append, args := args.toArray, argTypes := aty }, ty, pos, af, g⟩ t w K Q p =
    valK P (Builtin.append_ aty ty (args.map (ev t)).toArray) t w K Q .mk := by simp [opK]
theorem opK_copy (d) (args : List Operand) (aty ty pos af g) (p) : opK P ⟨d, .call { callee := .builtin .copy, args := args.toArray, argTypes := aty }, ty, pos, af, g⟩ t w K Q p =
    valK P (Builtin.copy_ aty ty (args.map (ev t)).toArray) t w K Q .mk := by simp [opK]

theorem funK_func (g : FuncId) (a c : List Value) (args : List Value) (p) : funK P (.func (.func g) a.toArray c.toArray) args t w K Q other p = callK P g (a ++ args ++ c) t w K Q .mk := (rfl)

/-! values -/
theorem arithK_i64 (n : Int) (p) : arithK .i64 n L p = ((-9223372036854775808 ≤ n ∧ n ≤ 9223372036854775807) ∧ L (.int .i64 n)) := (rfl)
theorem arithK_u8 (n : Int) (p) : arithK .u8 n L p = L (.int .u8 (IntKind.u8.wrap n)) := (rfl)
theorem arithK_u32 (n : Int) (p) : arithK .u32 n L p = L (.int .u32 (IntKind.u32.wrap n)) := (rfl)
theorem arithK_u64 (n : Int) (p) : arithK .u64 n L p = L (.int .u64 (IntKind.u64.wrap n)) := (rfl)
theorem arithK_i32 (n : Int) (p) : arithK .i32 n L p = L (.int .i32 (IntKind.i32.wrap n)) := (rfl)
section
variable (k k' : IntKind) (a b : Int)
theorem binK_add (p) : binK .add (.int k a) (.int k b) L other p = arithK k (a + b) L .mk := by simp [binK, intK]
theorem binK_sub (p) : binK .sub (.int k a) (.int k b) L other p = arithK k (a - b) L .mk := by simp [binK, intK]
theorem binK_mul (p) : binK .mul (.int k a) (.int k b) L other p = arithK k (a * b) L .mk := by simp [binK, intK]
theorem binK_quo (p) : binK .quo (.int k a) (.int k b) L other p = (b ≠ 0 ∧ L (.int k (k.wrap (a.tdiv b)))) := by simp [binK, intK]
theorem binK_rem (p) : binK .rem (.int k a) (.int k b) L other p = (b ≠ 0 ∧ L (.int k (a.tmod b))) := by simp [binK, intK]
theorem binK_and (p) : binK .and (.int k a) (.int k b) L other p = L (.int k (bitop .and k a b)) := by simp [binK, intK]
theorem binK_or (p) : binK .or (.int k a) (.int k b) L other p = L (.int k (bitop .or k a b)) := by simp [binK, intK]
theorem binK_xor (p) : binK .xor (.int k a) (.int k b) L other p = L (.int k (bitop .xor k a b)) := by simp [binK, intK]
theorem binK_andNot (p) : binK .andNot (.int k a) (.int k b) L other p = L (.int k (bitop .andNot k a b)) := by simp [binK, intK]
theorem binK_eql (p) : binK .eql (.int k a) (.int k b) L other p = L (.bool (decide (a = b))) := by simp [binK, intK]; rfl
theorem binK_neq (p) : binK .neq (.int k a) (.int k b) L other p = L (.bool (decide (a ≠ b))) := by
  have : (a != b) = decide (a ≠ b) := by by_cases h : a = b <;> simp [h]
  simp only [binK, intK, this]; simp
theorem binK_lss (p) : binK .lss (.int k a) (.int k b) L other p = L (.bool (decide (a < b))) := by simp [binK, intK]
theorem binK_leq (p) : binK .leq (.int k a) (.int k b) L other p = L (.bool (decide (a ≤ b))) := by simp [binK, intK]
theorem binK_gtr (p) : binK .gtr (.int k a) (.int k b) L other p = L (.bool (decide (b < a))) := by simp [binK, intK]
theorem binK_geq (p) : binK .geq (.int k a) (.int k b) L other p = L (.bool (decide (b ≤ a))) := by simp [binK, intK]
theorem binK_shl (p) : binK .shl (.int k a) (.int k' b) L other p = (0 ≤ b ∧ L (.int k (k.wrap (a * 2 ^ min b.toNat k.bits)))) := (rfl)
theorem binK_shr (p) : binK .shr (.int k a) (.int k' b) L other p = (0 ≤ b ∧ L (.int k (a.fdiv (2 ^ min b.toNat k.bits)))) := (rfl)
end
theorem binK_str_add (a b : List UInt8) (p) : binK .add (str a) (str b) L other p = (((a.length : Int) + b.length ≤ 9223372036854775807) ∧ L (str (a ++ b))) := by
  simp [binK, str, ByteArray.size]
  intro _
  rw [show ({ data := a.toArray } : ByteArray) ++ { data := b.toArray } = { data := (a ++ b).toArray } from by apply ByteArray.ext; simp]
theorem binK_str_eql (a b : List UInt8) (p) : binK .eql (str a) (str b) L other p = L (.bool (decide (a = b))) := by
  have : (a == b) = decide (a = b) := by by_cases h : a = b <;> simp [h]
  simp [binK, str, this]
theorem binK_str_neq (a b : List UInt8) (p) : binK .neq (str a) (str b) L other p = L (.bool (decide (a ≠ b))) := by
  have : (!(a == b)) = decide (a ≠ b) := by by_cases h : a = b <;> simp [h]
  simp only [binK, str, this]
theorem binK_nil_eql_l (y : Value) (p) : binK .eql .nilIface y L other p = other := by cases y <;> rfl
theorem binK_nil_neq_l (y : Value) (p) : binK .neq .nilIface y L other p = other := by cases y <;> rfl
theorem binK_iface_eql (ty v y) (p) : binK .eql (.iface ty v) y L other p = other := by cases y <;> rfl
theorem binK_iface_neq (ty v y) (p) : binK .neq (.iface ty v) y L other p = other := by cases y <;> rfl
theorem binK_ptr_eql (a y) (p) : binK .eql (.pointer a) y L other p = other := by cases y <;> rfl
theorem binK_ptr_neq (a y) (p) : binK .neq (.pointer a) y L other p = other := by cases y <;> rfl
theorem binK_slice_eql (a n c y) (p) : binK .eql (.slice a n c) y L other p = other := by cases y <;> rfl
theorem binK_slice_neq (a n c y) (p) : binK .neq (.slice a n c) y L other p = other := by cases y <;> rfl
theorem binK_bool_eql (b y) (p) : binK .eql (.bool b) y L other p = other := by cases y <;> rfl
theorem binK_bool_neq (b y) (p) : binK .neq (.bool b) y L other p = other := by cases y <;> rfl
theorem binK_agg_eql (b y) (p) : binK .eql (.agg b) y L other p = other := by cases y <;> rfl
theorem binK_agg_neq (b y) (p) : binK .neq (.agg b) y L other p = other := by cases y <;> rfl
theorem binK_nilFunc_eql (y) (p) : binK .eql .nilFunc y L other p = other := by cases y <;> rfl
theorem binK_func_eql (a b c y) (p) : binK .eql (.func a b c) y L other p = other := by cases y <;> rfl
theorem eq_1nn (p) : eqNilK 1 true .eql .nilIface .nilIface L other p = L (.bool true) := (rfl)
theorem eq_1in (ty v c) (p) : eqNilK 1 c .eql (.iface ty v) .nilIface L other p = L (.bool false) := (rfl)
theorem neq_1nn (p) : eqNilK 1 true .neq .nilIface .nilIface L other p = L (.bool false) := (rfl)
theorem neq_1in (ty v c) (p) : eqNilK 1 c .neq (.iface ty v) .nilIface L other p = L (.bool true) := (rfl)
theorem eq_2nn (c) (p) : eqNilK 2 c .eql (.pointer none) (.pointer none) L other p = L (.bool true) := (rfl)
theorem eq_2sn (a c) (p) : eqNilK 2 c .eql (.pointer (some a)) (.pointer none) L other p = L (.bool false) := (rfl)
theorem neq_2nn (c) (p) : eqNilK 2 c .neq (.pointer none) (.pointer none) L other p = L (.bool false) := (rfl)
theorem neq_2sn (a c) (p) : eqNilK 2 c .neq (.pointer (some a)) (.pointer none) L other p = L (.bool true) := (rfl)
theorem eq_6 (a b c) (p) : eqNilK 6 c .eql (.bool a) (.bool b) L other p = L (.bool (a == b)) := (rfl)
theorem neq_6 (a b c) (p) : eqNilK 6 c .neq (.bool a) (.bool b) L other p = L (.bool (!(a == b))) := (rfl)
theorem eqInts_nil : eqInts [] [] = some true := (rfl)
theorem eqInts_cons (k a b xs ys) : eqInts (.int k a :: xs) (.int k b :: ys) = (eqInts xs ys).map (decide (a = b) && ·) := by simp [eqInts]
theorem bmap_some (f : Bool → Bool) (b : Bool) : Option.map f (some b) = some (f b) := (rfl)
/-- what comes of an equality that is told -/
def optE (b : Option Bool) (L : VP) (neg : Bool) (other : Prop) (_ : Ph (L, other)) : Prop := match b with
  | some b => L (.bool (xor neg b))
  | none => other
theorem eq_7 (n c) (xs ys : List Value) (p) (h : sizeOk xs n = true) : eqNilK (n + 7) c .eql (.agg xs.toArray) (.agg ys.toArray) L other p = optE (eqInts xs ys) L false other .mk := by
  simp only [eqNilK, eqVal, h, optE]
  cases eqInts xs ys <;> simp
theorem neq_7 (n c) (xs ys : List Value) (p) (h : sizeOk xs n = true) : eqNilK (n + 7) c .neq (.agg xs.toArray) (.agg ys.toArray) L other p = optE (eqInts xs ys) L true other .mk := by
  simp only [eqNilK, eqVal, h, optE]
  cases eqInts xs ys <;> simp
theorem eq_s1 (c) (x0 y0 : Value) (p) : eqNilK 8 c .eql (.agg #[x0]) (.agg #[y0]) L other p = optE (eqInts [x0] [y0]) L false other .mk := eq_7 1 c [x0] [y0] p rfl
theorem eq_s2 (c) (x0 x1 y0 y1 : Value) (p) : eqNilK 9 c .eql (.agg #[x0, x1]) (.agg #[y0, y1]) L other p = optE (eqInts [x0, x1] [y0, y1]) L false other .mk := eq_7 2 c [x0, x1] [y0, y1] p rfl
theorem eq_s3 (c) (x0 x1 x2 y0 y1 y2 : Value) (p) : eqNilK 10 c .eql (.agg #[x0, x1, x2]) (.agg #[y0, y1, y2]) L other p = optE (eqInts [x0, x1, x2] [y0, y1, y2]) L false other .mk := eq_7 3 c [x0, x1, x2] [y0, y1, y2] p rfl
theorem eq_s4 (c) (x0 x1 x2 x3 y0 y1 y2 y3 : Value) (p) : eqNilK 11 c .eql (.agg #[x0, x1, x2, x3]) (.agg #[y0, y1, y2, y3]) L other p = optE (eqInts [x0, x1, x2, x3] [y0, y1, y2, y3]) L false other .mk := eq_7 4 c [x0, x1, x2, x3] [y0, y1, y2, y3] p rfl
theorem eq_s5 (c) (x0 x1 x2 x3 x4 y0 y1 y2 y3 y4 : Value) (p) : eqNilK 12 c .eql (.agg #[x0, x1, x2, x3, x4]) (.agg #[y0, y1, y2, y3, y4]) L other p = optE (eqInts [x0, x1, x2, x3, x4] [y0, y1, y2, y3, y4]) L false other .mk := eq_7 5 c [x0, x1, x2, x3, x4] [y0, y1, y2, y3, y4] p rfl
theorem eq_s6 (c) (x0 x1 x2 x3 x4 x5 y0 y1 y2 y3 y4 y5 : Value) (p) : eqNilK 13 c .eql (.agg #[x0, x1, x2, x3, x4, x5]) (.agg #[y0, y1, y2, y3, y4, y5]) L other p = optE (eqInts [x0, x1, x2, x3, x4, x5] [y0, y1, y2, y3, y4, y5]) L false other .mk := eq_7 6 c [x0, x1, x2, x3, x4, x5] [y0, y1, y2, y3, y4, y5] p rfl
theorem neq_s1 (c) (x0 y0 : Value) (p) : eqNilK 8 c .neq (.agg #[x0]) (.agg #[y0]) L other p = optE (eqInts [x0] [y0]) L true other .mk := neq_7 1 c [x0] [y0] p rfl
theorem neq_s2 (c) (x0 x1 y0 y1 : Value) (p) : eqNilK 9 c .neq (.agg #[x0, x1]) (.agg #[y0, y1]) L other p = optE (eqInts [x0, x1] [y0, y1]) L true other .mk := neq_7 2 c [x0, x1] [y0, y1] p rfl
theorem neq_s3 (c) (x0 x1 x2 y0 y1 y2 : Value) (p) : eqNilK 10 c .neq (.agg #[x0, x1, x2]) (.agg #[y0, y1, y2]) L other p = optE (eqInts [x0, x1, x2] [y0, y1, y2]) L true other .mk := neq_7 3 c [x0, x1, x2] [y0, y1, y2] p rfl
theorem neq_s4 (c) (x0 x1 x2 x3 y0 y1 y2 y3 : Value) (p) : eqNilK 11 c .neq (.agg #[x0, x1, x2, x3]) (.agg #[y0, y1, y2, y3]) L other p = optE (eqInts [x0, x1, x2, x3] [y0, y1, y2, y3]) L true other .mk := neq_7 4 c [x0, x1, x2, x3] [y0, y1, y2, y3] p rfl
theorem neq_s5 (c) (x0 x1 x2 x3 x4 y0 y1 y2 y3 y4 : Value) (p) : eqNilK 12 c .neq (.agg #[x0, x1, x2, x3, x4]) (.agg #[y0, y1, y2, y3, y4]) L other p = optE (eqInts [x0, x1, x2, x3, x4] [y0, y1, y2, y3, y4]) L true other .mk := neq_7 5 c [x0, x1, x2, x3, x4] [y0, y1, y2, y3, y4] p rfl
theorem neq_s6 (c) (x0 x1 x2 x3 x4 x5 y0 y1 y2 y3 y4 y5 : Value) (p) : eqNilK 13 c .neq (.agg #[x0, x1, x2, x3, x4, x5]) (.agg #[y0, y1, y2, y3, y4, y5]) L other p = optE (eqInts [x0, x1, x2, x3, x4, x5] [y0, y1, y2, y3, y4, y5]) L true other .mk := neq_7 6 c [x0, x1, x2, x3, x4, x5] [y0, y1, y2, y3, y4, y5] p rfl
theorem optE_f (b : Bool) (p) : optE (some b) L false other p = L (.bool b) := by simp [optE]
theorem optE_t (b : Bool) (p) : optE (some b) L true other p = L (.bool (!b)) := by simp [optE]
theorem dec_and (a b : Prop) [Decidable a] [Decidable b] : (decide a && decide b) = decide (a ∧ b) := by by_cases a <;> by_cases b <;> simp_all
theorem dec_not (a : Prop) [Decidable a] : (!decide a) = decide (¬ a) := by by_cases a <;> simp_all
theorem isConst_const (v) : isConst (.const v) = true := (rfl)
theorem isConst_tmp (i) : isConst (.tmp i) = false := (rfl)

theorem unK_not (b : Bool) (p) : unK .not (.bool b) L other p = L (.bool (!b)) := (rfl)
theorem unK_neg (k n) (p) : unK .neg (.int k n) L other p = L (.int k (k.wrap (0 - n))) := (rfl)
theorem extractK_tuple (vs : List Value) (i) (p) : extractK (.tuple vs.toArray) i L p = (optK vs[i]? L .mk) := by
  simp only [extractK, optK]; cases vs[i]? <;> rfl
theorem tuple_zero (x : Value) (l : List Value) : (x :: l)[0]? = some x := (rfl)
theorem tuple_succ (x : Value) (l : List Value) (n : Nat) : (x :: l)[n + 1]? = l[n]? := (rfl)
theorem optK_some {α : Type} (x : α) (L : α → Prop) (p) : optK (some x) L p = L x := (rfl)
theorem lenK_str (l : List UInt8) (p) : lenK (some .string) (str l) L other p = L (.int .i64 l.length) := by simp [lenK, str, ByteArray.size]
theorem lenK_slice (e a n c) (p) : lenK (some (.slice e)) (.slice a n c) L other p = L (.int .i64 n) := (rfl)
theorem convK_int (k k' n) (p) : convK (some (.int k)) (.int k' n) L other p = L (.int k (k.wrap n)) := (rfl)
theorem convK_str (l : List UInt8) (p) : convK (some .string) (str l) L other p = L (str l) := (rfl)
theorem indexK_str (l : List UInt8) (k n) (p) : indexK (some .string) (str l) (.int k n) L other p = ((0 ≤ n ∧ n < (l.length : Int)) ∧ L (.int .u8 (l.getD n.toNat 0).toNat)) := by simp [indexK, str]
theorem mmK_max (k a k' b) (p) : mmK true [.int k a, .int k' b] L other p = L (.int k (if b > a then b else a)) := (rfl)
theorem mmK_min (k a k' b) (p) : mmK false [.int k a, .int k' b] L other p = L (.int k (if b < a then b else a)) := (rfl)
theorem map_nil (f : Operand → Value) : List.map f [] = [] := (rfl)
theorem map_cons (f : Operand → Value) (x) (l : List Operand) : List.map f (x :: l) = f x :: List.map f l := (rfl)
theorem app_nil (l : List Value) : l ++ [] = l := List.append_nil l
theorem nil_app (l : List Value) : [] ++ l = l := (rfl)
theorem cons_app (x : Value) (l m : List Value) : (x :: l) ++ m = x :: (l ++ m) := (rfl)
theorem omap_some (f : Operand → Value) (x) : Option.map f (some x) = some (f x) := (rfl)
theorem omap_none (f : Operand → Value) : Option.map f none = none := (rfl)
theorem isSome_some {α : Type} (x : α) : (some x).isSome = true := (rfl)
theorem convK_slice (a n c) (p) : convK (some .string) (.slice a n c) L other p = other := (rfl)
theorem convK_to_slice (e x) (p) : convK (some (.slice e)) x L other p = other := by cases x <;> rfl
theorem cellsL_int (k n) : cellsL (.int k n) = [.int k n] := (rfl)
theorem cellsL_bool (b) : cellsL (.bool b) = [.bool b] := (rfl)
theorem cellsL_string (s) : cellsL (.string s) = [.string s] := (rfl)
theorem cellsL_str (s) : cellsL (str s) = [str s] := (rfl)
theorem cellsL_pointer (a) : cellsL (.pointer a) = [.pointer a] := (rfl)
theorem cellsL_slice (a n c) : cellsL (.slice a n c) = [.slice a n c] := (rfl)
theorem cellsL_map (r) : cellsL (.map r) = [.map r] := (rfl)
theorem cellsL_func (f a c) : cellsL (.func f a c) = [.func f a c] := (rfl)
theorem cellsL_nilFunc : cellsL .nilFunc = [.nilFunc] := (rfl)
theorem cellsL_iface (a v) : cellsL (.iface a v) = [.iface a v] := (rfl)
theorem cellsL_nilIface : cellsL .nilIface = [.nilIface] := (rfl)
theorem cellsL_agg (l : List Value) : cellsL (.agg l.toArray) = l := (rfl)
theorem splice_zero (l : List Value) : splice l 0 [] = l := by cases l <;> rfl
theorem splice_here (x : Value) (l : List Value) (c : Value) (cs) : splice (x :: l) 0 (c :: cs) = c :: splice l 0 cs := (rfl)
theorem splice_succ (x : Value) (l : List Value) (n : Nat) (cs) : splice (x :: l) (n + 1) cs = x :: splice l n cs := (rfl)
theorem buildK_some (z places parts) (p) : buildK (some (z, places)) parts L p = optK (buildL places z parts) (fun cs => L (.agg cs.toArray)) .mk := (rfl)
theorem buildL_nil (places cells) : buildL places cells [] = some cells := (rfl)
/-- the next part, its place known -/
def bldStep (place : Option (Nat × Nat)) (places : List (Nat × Nat)) (cells vs : List Value) (rest : List (Nat × Value)) : Option (List Value) := match place with
  | some (off, size) => (match sizeOk vs size && decide (off + size ≤ cells.length) with
      | true => buildL places (splice cells off vs) rest
      | false => none)
  | none => none
theorem buildL_cons (places cells) (i v rest) : buildL places cells ((i, v) :: rest) = bldStep places[i]? places cells (cellsL v) rest := (rfl)
theorem bldStep_some (off size places cells vs rest) (h : (sizeOk vs size && decide (off + size ≤ cells.length)) = true) : bldStep (some (off, size)) places cells vs rest = buildL places (splice cells off vs) rest := by
  simp only [bldStep, h]
theorem pl_zero (x : Nat × Nat) (l : List (Nat × Nat)) : (x :: l)[0]? = some x := (rfl)
theorem pl_succ (x : Nat × Nat) (l : List (Nat × Nat)) (n : Nat) : (x :: l)[n + 1]? = l[n]? := (rfl)
theorem sizeOk_nil : sizeOk [] 0 = true := (rfl)
theorem sizeOk_cons (x l n) : sizeOk (x :: l) (n + 1) = sizeOk l n := (rfl)
theorem loadK_one (a : Addr) (p) : loadK (some none) (.pointer (some a)) w K p = optK (w.cell? a) (K · w) .mk := (rfl)
theorem loadK_many (n) (a : Addr) (p) : loadK (some (some n)) (.pointer (some a)) w K p = optK (cellsAt w a 0 n) (fun cs => K (.agg cs.toArray) w) .mk := (rfl)
theorem fieldAddrK_some (off n a) (p) : fieldAddrK (some (off, n)) (.pointer (some a)) L p = L (.pointer (some (a.add off))) := (rfl)
theorem partK_one (off) (cs : List Value) (p) : partK (some (off, none)) (.agg cs.toArray) L p = optK cs[off]? L .mk := (rfl)
theorem partK_many (off n) (cs : List Value) (p) : partK (some (off, some n)) (.agg cs.toArray) L p = L (.agg ((cs.drop off).take n).toArray) := (rfl)
theorem indexAddrK_slice (e size arr a n c k i) (p) : indexAddrK (some (e, size)) arr (.slice (some a) n c) (.int k i) L p = ((0 ≤ i ∧ i < n) ∧ L (.pointer (some (a.add (i.toNat * size))))) := by cases arr <;> rfl
theorem indexAddrK_arr (n e size a k i) (p) : indexAddrK none (some (n, e, size)) (.pointer (some a)) (.int k i) L p = ((0 ≤ i ∧ i < n) ∧ L (.pointer (some (a.add (i.toNat * size))))) := (rfl)
theorem sliceK_str_lo (e) (l : List UInt8) (k i) (p) : sliceK (some .string) e (str l) (some (.int k i)) none none L other p = ((0 ≤ i ∧ i ≤ l.length) ∧ L (str (l.drop i.toNat))) := by
  simp [sliceK, str, natAt, List.take_of_length_le]
theorem sliceK_str_hi (e) (l : List UInt8) (k i) (p) : sliceK (some .string) e (str l) none (some (.int k i)) none L other p = ((0 ≤ i ∧ i ≤ l.length) ∧ L (str (l.take i.toNat))) := by
  simp [sliceK, str, natAt]
theorem sliceK_str (e) (l : List UInt8) (k i k' j) (p) : sliceK (some .string) e (str l) (some (.int k i)) (some (.int k' j)) none L other p = ((0 ≤ i ∧ i ≤ j ∧ j ≤ l.length) ∧ L (str ((l.take j.toNat).drop i.toNat))) := by
  simp [sliceK, str, natAt]
theorem add_lit (b o n : Nat) : (⟨b, o, none⟩ : Addr).add n = ⟨b, o + n, none⟩ := by unfold Addr.add; split <;> simp_all
theorem ifaceK_0 (ty x) (p) : ifaceK 0 ty x L other p = L (.iface ty x) := (rfl)
theorem ifaceK_2 (ty x) (p) : ifaceK 2 ty x L other p = L (.iface ty x) := (rfl)

/-! what a function hands back -/
def tup : List Value → Value
  | [v] => v
  | vs => .tuple vs.toArray
theorem tup_one (v : Value) : tup [v] = v := (rfl)
theorem tup_nil : tup [] = .tuple #[] := (rfl)
theorem tup_more (v u : Value) (l : List Value) : tup (v :: u :: l) = .tuple (v :: u :: l).toArray := (rfl)

def retN (rs : List Tmp) (R : VK) (_ : Ph R) : EP
  | .normal, t, w => R (tup (rs.map (t.getD · undef))) w
  | .ret, t, w => R (tup (rs.map (t.getD · undef))) w
  | _, _, _ => False
theorem retN_ret (R : VK) (p) : retN [] R p .ret t w = R (tup []) w := (rfl)
theorem retN_normal (R : VK) (p) : retN [] R p .normal t w = R (tup []) w := (rfl)
theorem retN_ret1 (a : Tmp) (R : VK) (p) : retN [a] R p .ret t w = R (t.getD a undef) w := (rfl)
theorem retN_normal1 (a : Tmp) (R : VK) (p) : retN [a] R p .normal t w = R (t.getD a undef) w := (rfl)
theorem retN_ret2 (a b : Tmp) (R : VK) (p) : retN [a, b] R p .ret t w = R (tup [t.getD a undef, t.getD b undef]) w := (rfl)
theorem retN_normal2 (a b : Tmp) (R : VK) (p) : retN [a, b] R p .normal t w = R (tup [t.getD a undef, t.getD b undef]) w := (rfl)
theorem retN_ret3 (a b c : Tmp) (R : VK) (p) : retN [a, b, c] R p .ret t w = R (tup [t.getD a undef, t.getD b undef, t.getD c undef]) w := (rfl)
theorem retN_normal3 (a b c : Tmp) (R : VK) (p) : retN [a, b, c] R p .normal t w = R (tup [t.getD a undef, t.getD b undef, t.getD c undef]) w := (rfl)

/-- A list that is read one by one: each of its results is there. -/
theorem mapM_tmp (g : ResultVar → Sem Value) (t : Fr) (hg : ∀ i, (g (.tmp i)).run P w = .ok (t.getD i undef) w) (rs : List Tmp) : (Array.mapM g (rs.map ResultVar.tmp).toArray).run P w = .ok (rs.map (t.getD · undef)).toArray w := by
  have h1 : ∀ (rs : List Tmp), (List.mapM g (rs.map ResultVar.tmp)).run P w = .ok (rs.map (t.getD · undef)) w := by
    intro rs
    induction rs with
    | nil => rfl
    | cons r rs ih => simp only [List.map_cons, List.mapM_cons, Sem.run_bind, Sem.run_pure, Result.andThen_ok, hg, ih]
  rw [List.mapM_toArray, map_eq_pure_bind]
  simp only [Sem.run_bind, h1, Result.andThen_ok, Sem.run_pure]

theorem results_run (fn : Func) (rs : List Tmp) (h : fn.results = (rs.map ResultVar.tmp).toArray) (t : Fr) : (results fn t.toArray).run P w = .ok (tup (rs.map (t.getD · undef))) w := by
  unfold results
  rw [h, Sem.run_bind, mapM_tmp (t := t) (hg := fun i => by simp [List.getD_eq_getElem?_getD, Array.getD_eq_getD_getElem?]), Result.andThen_ok, Sem.run_pure]
  congr 1
  match rs with
  | [] => rfl
  | [a] => rfl
  | a :: b :: l => simp [tup]

/-- 'f' is called: it returns, and 'R' holds of what it hands back. -/
def Fun (P : Program) (f : FuncId) (args : List Value) (w : World) (R : VK) : Prop :=
  (callFunc f args.toArray).run P w = .ok (.enter f args.toArray) w ∧ Calls P f args.toArray w fun e w' => ∃ v, e = .returned v ∧ R v w'

theorem Fun.mono {f : FuncId} {args : List Value} {R R' : VK} (h : Fun P f args w R) (k : ∀ v w', R v w' → R' v w') : Fun P f args w R' :=
  ⟨h.1, h.2.mono fun _ _ ⟨v, he, hr⟩ => ⟨v, he, k _ _ hr⟩⟩

theorem callK_of {f : FuncId} {args : List Value} {R : VK} {p} (h : Fun P f args w R) (k : ∀ v w', R v w' → K v w') : callK P f args t w K Q p := by
  unfold callK
  rw [h.1]
  exact h.2.mono fun e w' ⟨v, he, hr⟩ => by subst he; exact k _ _ hr

theorem callFunc_enter {f : FuncId} {fn : Func} {args : Array Value} (hf : P.funcs[f]? = some fn) (hb : fn.body.isNone = false) (hn : (fn.name == "runtime.NumGoroutine") = false) : (callFunc f args).run P w = .ok (.enter f args) w := by
  unfold callFunc
  simp only [Sem.run_bind, program, Sem.run, Result.andThen_ok, hf, hn, hb, Bool.false_eq_true, if_false, Sem.run_pure]

/-- The frame that a call begins with. -/
def fr0 (args : List Value) (n : Nat) : Fr := args ++ List.replicate (n - args.length) undef
theorem fr0_zero : fr0 [] 0 = [] := (rfl)
theorem fr0_nil (n : Nat) : fr0 [] (n + 1) = undef :: fr0 [] n := by simp [fr0, List.replicate_succ]
theorem fr0_cons (a : Value) (l : List Value) (n : Nat) : fr0 (a :: l) (n + 1) = a :: fr0 l n := by simp [fr0]
attribute [push_cast] fr0_zero fr0_nil fr0_cons

theorem fun_of_vc {f : FuncId} {fn : Func} {c : Code} {args : List Value} {R : VK} (hf : P.funcs[f]? = some fn) (hb : fn.body = some c) (hn : (fn.name == "runtime.NumGoroutine") = false)
    (rs : List Tmp) (hrs : fn.results = (rs.map ResultVar.tmp).toArray) (h : vc P c (retN rs R .mk) (fr0 args fn.ntmps) w .mk) : Fun P f args w R := by
  refine ⟨callFunc_enter hf (by simp [hb]) hn, calls_of_wp hf hb ?_⟩
  have h1 := vc_ok c _ _ w h
  unfold wpL at h1
  have e : (args.toArray ++ Array.replicate (fn.ntmps - args.toArray.size) undef) = (fr0 args fn.ntmps).toArray := by simp [fr0]
  rw [e]
  refine Code.wp_mono ?_ h1
  rintro e a w' ⟨hd, hh⟩
  have ha : a.tmps.toList.toArray = a.tmps := by simp
  cases e <;> simp only [retN] at hh <;> first | exact hh.elim | skip
  · exact ⟨hd, _, by rw [← ha]; exact results_run fn rs hrs _, _, rfl, hh⟩
  · exact ⟨hd, _, by rw [← ha]; exact results_run fn rs hrs _, _, rfl, hh⟩

/-! a loop -/
def at_ (t : Fr) : Nat → Value := fun m => t.getD m undef
def ov (t : Fr) (M : List Nat) (z : Nat → Value) : Fr := M.foldl (fun t m => t.set m (z m)) t

theorem at_eq (t : Fr) (m : Nat) : at_ t m = t.getD m undef := (rfl)
theorem ov_nil (t : Fr) (z) : ov t [] z = t := (rfl)
theorem ov_cons (t : Fr) (m M z) : ov t (m :: M) z = ov (t.set m (z m)) M z := (rfl)
theorem ov_at (M : List Nat) : ∀ t : Fr, ov t M (at_ t) = t := by
  have : ∀ (M : List Nat) (t u : Fr), t = u → M.foldl (fun t m => t.set m (at_ u m)) t = u := by
    intro M
    induction M with
    | nil => intro t u h; exact h
    | cons m M ih =>
      intro t u h
      subst h
      simp only [List.foldl_cons]
      refine ih _ _ ?_
      unfold at_
      by_cases hm : m < t.length
      · exact set_getD_same t m hm
      · rw [List.set_eq_of_length_le (by omega)]
  exact fun t => this M t t rfl

theorem wpL_loop {c : Code} {p} (M : List Nat) (I : (Nat → Value) → World → Prop) (μ : (Nat → Value) → World → Nat) (h0 : I (at_ t) w)
    (hr : ∀ z w', I z w' → vc P c (seqQ (fun t'' w'' => t'' = ov t M (at_ t'') ∧ I (at_ t'') w'' ∧ μ (at_ t'') w'' < μ z w') Q .mk) (ov t M z) w' .mk) : wpL P (.loop c) Q t w p := by
  unfold wpL
  refine wp_loop (fun a w' => a.defers = [] ∧ a.tmps.toList = ov t M (at_ a.tmps.toList) ∧ I (at_ a.tmps.toList) w') (fun a w' => μ (at_ a.tmps.toList) w') ⟨rfl, by simp [ov_at], by simpa using h0⟩ ?_
  rintro a w' ⟨hd, ht, hI⟩
  have h1 := vc_ok c _ _ w' (hr _ w' hI)
  unfold wpL at h1
  rw [← ht] at h1
  rw [act_eq hd]
  refine Code.wp_mono ?_ h1
  rintro e a' w'' ⟨hd', hh⟩
  cases e <;> simp only [seqQ] at hh <;> simp only [Exit.then] <;> first | exact ⟨hd', hh⟩ | skip
  exact ⟨⟨hd', hh.1, hh.2.1⟩, by simpa using hh.2.2⟩

end

attribute [push_cast] evs_nil evs_cons ev_tmp ev_const ev_global ev_func put_some put_none get_zero get_succ set_zero set_succ vc_skip vc_region vc_draw vc_seq vc_cond vc_block vc_exit vc_ret vc_label vc_goto vc_loop vc_scope vc_rangeFunc seqQ_normal seqQ_ret seqQ_exit seqQ_goto seqQ_panic blockQ_normal blockQ_ret blockQ_goto blockQ_panic blockQ_same blockQ_other vcOps_nil vcOps_plain vcOps_guard slotOf_zero slotOf_succ oper_dst guardK_eq guardK_none gK_tt gK_ff gK_tf gK_ft gK_undef condK_tt condK_ff condK_dec condK_not gK_t_dec gK_f_dec pickK_tt pickK_ff opK_move opK_assign opK_pick opK_bin opK_un opK_extract opK_convert opK_index opK_makeFunc opK_call opK_len opK_max opK_min opK_load opK_store opK_fieldAddr opK_field opK_indexAddr opK_slice opK_iface opK_box opK_alloc opK_build opK_buildSlice opK_makeSlice opK_makeMap opK_lookup opK_mapUpdate opK_insert opK_typeAssert opK_panic opK_range opK_append opK_copy funK_func arithK_i64 arithK_u8 arithK_u32 arithK_u64 arithK_i32 binK_add binK_sub binK_mul binK_quo binK_rem binK_and binK_or binK_xor binK_andNot binK_eql binK_neq binK_lss binK_leq binK_gtr binK_geq binK_shl binK_shr binK_str_add binK_str_eql binK_str_neq binK_nil_eql_l binK_nil_neq_l binK_iface_eql binK_iface_neq binK_ptr_eql binK_ptr_neq binK_slice_eql binK_slice_neq binK_bool_eql binK_bool_neq binK_agg_eql binK_agg_neq binK_nilFunc_eql binK_func_eql eq_1nn eq_1in neq_1nn neq_1in eq_2nn eq_2sn neq_2nn neq_2sn eq_6 neq_6 eqInts_nil eqInts_cons bmap_some eq_s1 eq_s2 eq_s3 eq_s4 eq_s5 eq_s6 neq_s1 neq_s2 neq_s3 neq_s4 neq_s5 neq_s6 optE_f optE_t dec_and dec_not isConst_const isConst_tmp unK_not unK_neg extractK_tuple tuple_zero tuple_succ optK_some lenK_str lenK_slice convK_int convK_str indexK_str mmK_max mmK_min map_nil map_cons app_nil nil_app cons_app omap_some omap_none isSome_some convK_slice convK_to_slice cellsL_int cellsL_bool cellsL_string cellsL_str cellsL_pointer cellsL_slice cellsL_map cellsL_func cellsL_nilFunc cellsL_iface cellsL_nilIface cellsL_agg splice_zero splice_here splice_succ buildK_some buildL_nil buildL_cons bldStep_some pl_zero pl_succ sizeOk_nil sizeOk_cons loadK_one loadK_many fieldAddrK_some partK_one partK_many indexAddrK_slice indexAddrK_arr sliceK_str_lo sliceK_str_hi sliceK_str add_lit ifaceK_0 ifaceK_2 tup_one tup_nil tup_more retN_ret retN_normal retN_ret1 retN_normal1 retN_ret2 retN_normal2 retN_ret3 retN_normal3
attribute [push_cast] at_eq ov_nil ov_cons List.length_cons List.length_nil Bool.true_and Bool.and_true Int.toNat_natCast if_true ite_true Int.le_refl true_and and_true and_self implies_true Int.toNat_zero Nat.zero_add
end Go.Vc
end

section
namespace Go.Vc
open Go.RowKit

/-! Regions that draw their order: reckonings and loads float; what makes or writes memory, and calls, keep their order. -/

/-- An operation that may turn the world. -/
def chain (P : Program) (o : Oper) : Bool := match o.op with
  | .convert _ d _ => !((P.underlying d) matches some (.int _))
  | .move _ | .assign _ | .pick .. | .binOp .. | .unOp .. | .extract .. | .index .. | .build .. | .makeFunc .. | .fieldAddr .. | .field .. | .indexAddr .. | .slice .. | .makeInterface .. | .load .. => false
  | .call { callee := .builtin .len, .. } | .call { callee := .builtin .max, .. } | .call { callee := .builtin .min, .. } => false
  | .nilCheck _ => false
  | _ => true

section
variable {P : Program} {ops : Array Oper} {md : Region.Mode} {C : World → Prop}

/-- What comes of a run, where nothing panics: a world of the class. -/
def resA (P : Program) (a : Act) (dst : Option Tmp) (C : World → Prop) (K : Act → World → Prop) : Result Next → Prop
  | .ok (.value v) w' => C w' ∧ K (a.put dst v) w'
  | .ok .skip w' => C w' ∧ K (a.put dst undef) w'
  | .ok (.enter f args) w' => Calls P f args w' fun e w'' => ∃ v, e = .returned v ∧ C w'' ∧ K (a.put dst v) w''
  | _ => False

theorem resA_some {a : Act} {dst : Option Tmp} {K : Act → World → Prop} {r : Result Next} (h : resA P a dst C K r) : ∃ v w', C w' ∧ K (a.put dst v) w' := by
  cases r with
  | halt x w' => simp only [resA] at h
  | ok n w' =>
    cases n <;> simp only [resA] at h
    case value v => exact ⟨_, _, h⟩
    case skip => exact ⟨_, _, h⟩
    case enter f args =>
      obtain ⟨e, w'', _, ⟨v, _, hc, hk⟩, _⟩ := h []
      exact ⟨v, w'', hc, hk⟩

theorem resA_mono {a b : Act} {dst : Option Tmp} {K K' : Act → World → Prop} {r : Result Next} (hk : ∀ v w', C w' → K (a.put dst v) w' → K' (b.put dst v) w') (h : resA P a dst C K r) : resA P b dst C K' r := by
  cases r with
  | halt x w' => simp only [resA] at h
  | ok n w' =>
    cases n <;> simp only [resA] at h ⊢
    case value v => exact ⟨h.1, hk _ _ h.1 h.2⟩
    case skip => exact ⟨h.1, hk _ _ h.1 h.2⟩
    case enter f args => exact h.mono fun e w'' ⟨v, he, hc, hh⟩ => ⟨v, he, hc, hk _ _ hc hh⟩

theorem upon_of_resA {o : Oper} {a : Act} {K : Act → World → Prop} {Q : Exit → Act → World → Prop} {r : Result Next} (h : resA P a o.dst C K r) : o.upon P a (fun a' w' => C w' ∧ K a' w') Q r := by
  cases r with
  | halt x w' => simp only [resA] at h
  | ok n w' =>
    cases n <;> simp only [resA] at h <;> simp only [Oper.upon]
    case value v => exact h
    case skip => exact h
    case enter f args => exact h.mono fun e w'' ⟨v, he, hh⟩ => by subst he; exact hh

def mixOp (P : Program) (ops : Array Oper) (C : World → Prop) (i : Nat) (K : Act → World → Prop) (a : Act) (w : World) : Prop :=
  match ops[i]? with
  | none => K a w
  | some o =>
    if Region.wanted o (yielded ops a.tmps) then
      if chain P o then resA P a o.dst C K ((execOp a.eval o).run P w)
      else ∃ v, (∀ w', C w' → (execOp a.eval o).run P w' = .ok (.value v) w') ∧ K (a.put o.dst v) w
    else K (a.put o.dst undef) w

theorem mixOp_mono {i : Nat} {K K' : Act → World → Prop} {a : Act} {w : World} (hC : C w) (hk : ∀ a w, C w → K a w → K' a w) (h : mixOp P ops C i K a w) : mixOp P ops C i K' a w := by
  unfold mixOp at *
  split
  · rename_i ho; simp only [ho] at h; exact hk _ _ hC h
  · rename_i o ho
    simp only [ho] at h
    split
    · rename_i hw
      simp only [hw, if_true] at h
      split
      · rename_i hc
        simp only [hc, if_true] at h
        exact resA_mono (fun v w' hw' hh => hk _ _ hw' hh) h
      · rename_i hc
        simp only [hc] at h
        obtain ⟨v, h1, h2⟩ := h
        exact ⟨v, h1, hk _ _ hC h2⟩
    · rename_i hw
      simp only [hw] at h
      exact hk _ _ hC h

theorem mixOp_some {i : Nat} {K : Act → World → Prop} {a : Act} {w : World} (hC : C w) (h : mixOp P ops C i K a w) : ∃ a' w', C w' ∧ K a' w' := by
  unfold mixOp at h
  split at h
  · exact ⟨_, _, hC, h⟩
  · split at h
    · split at h
      · obtain ⟨v, w', hh⟩ := resA_some h; exact ⟨_, _, hh⟩
      · obtain ⟨v, _, hh⟩ := h; exact ⟨_, _, hC, hh⟩
    · exact ⟨_, _, hC, h⟩

theorem mixOp_no {i : Nat} {o : Oper} {K : Act → World → Prop} {a : Act} {w : World} (hi : ops[i]? = some o) (hw : Region.wanted o (yielded ops a.tmps) = false) : mixOp P ops C i K a w = K (a.put o.dst undef) w := by
  unfold mixOp; simp [hi, hw]
theorem mixOp_chain {i : Nat} {o : Oper} {K : Act → World → Prop} {a : Act} {w : World} (hi : ops[i]? = some o) (hw : Region.wanted o (yielded ops a.tmps) = true) (hc : chain P o = true) : mixOp P ops C i K a w = resA P a o.dst C K ((execOp a.eval o).run P w) := by
  unfold mixOp; simp [hi, hw, hc]
theorem mixOp_quiet {i : Nat} {o : Oper} {K : Act → World → Prop} {a : Act} {w : World} (hi : ops[i]? = some o) (hw : Region.wanted o (yielded ops a.tmps) = true) (hc : chain P o = false) : mixOp P ops C i K a w = ∃ v, (∀ w', C w' → (execOp a.eval o).run P w' = .ok (.value v) w') ∧ K (a.put o.dst v) w := by
  unfold mixOp; simp [hi, hw, hc]

/-- Two operations that are apart, not both of the chain, may change places. -/
theorem mixOp_swap {i j : Nat} {oi oj : Oper} {K : Act → World → Prop} {a : Act} {w : World} (hi : ops[i]? = some oi) (hj : ops[j]? = some oj) (hap : oi.apart ops oj = true) (hch : (chain P oi && chain P oj) = false)
    (hsi : ∀ cs b, oi.op ≠ .select cs b) (hsj : ∀ cs b, oj.op ≠ .select cs b) (h : mixOp P ops C i (mixOp P ops C j K) a w) : mixOp P ops C j (mixOp P ops C i K) a w := by
  obtain ⟨h1, h2, h3⟩ := Oper.apart_spec hap
  have ej : ∀ (b : Act) (v : Value), execOp (b.put oi.dst v).eval oj = execOp b.eval oj := fun b v => execOp_put oj hsj b oi.dst v h1
  have ei : ∀ (b : Act) (v : Value), execOp (b.put oj.dst v).eval oi = execOp b.eval oi := fun b v => execOp_put oi hsi b oj.dst v h3
  have wj : ∀ (b : Act) (v : Value), Region.wanted oj (yielded ops (b.put oi.dst v).tmps) = Region.wanted oj (yielded ops b.tmps) := fun b v => wanted_put oj b oi.dst v h1
  have wi : ∀ (b : Act) (v : Value), Region.wanted oi (yielded ops (b.put oj.dst v).tmps) = Region.wanted oi (yielded ops b.tmps) := fun b v => wanted_put oi b oj.dst v h3
  have cm : ∀ (b : Act) (v u : Value), (b.put oi.dst v).put oj.dst u = (b.put oj.dst u).put oi.dst v := fun b v u => Act.put_comm b v u h2
  cases hwi : Region.wanted oi (yielded ops a.tmps) with
  | false =>
    rw [mixOp_no hi hwi] at h
    cases hwj : Region.wanted oj (yielded ops a.tmps) with
    | false =>
      rw [mixOp_no hj (by rw [wj]; exact hwj)] at h
      rw [mixOp_no hj hwj, mixOp_no hi (by rw [wi]; exact hwi), ← cm]
      exact h
    | true =>
      cases hcj : chain P oj with
      | true =>
        rw [mixOp_chain hj (by rw [wj]; exact hwj) hcj, ej] at h
        rw [mixOp_chain hj hwj hcj]
        refine resA_mono (fun v w' _ hh => ?_) h
        rw [mixOp_no hi (by rw [wi]; exact hwi), ← cm]
        exact hh
      | false =>
        rw [mixOp_quiet hj (by rw [wj]; exact hwj) hcj, ej] at h
        rw [mixOp_quiet hj hwj hcj]
        obtain ⟨v, hv, hk⟩ := h
        refine ⟨v, hv, ?_⟩
        rw [mixOp_no hi (by rw [wi]; exact hwi), ← cm]
        exact hk
  | true =>
    cases hci : chain P oi with
    | true =>
      have hcj : chain P oj = false := by simpa [hci] using hch
      rw [mixOp_chain hi hwi hci] at h
      cases hwj : Region.wanted oj (yielded ops a.tmps) with
      | false =>
        rw [mixOp_no hj hwj, mixOp_chain hi (by rw [wi]; exact hwi) hci, ei]
        refine resA_mono (fun v w' _ hh => ?_) h
        rw [mixOp_no hj (by rw [wj]; exact hwj)] at hh
        rw [← cm]
        exact hh
      | true =>
        obtain ⟨v, w', hw', hh⟩ := resA_some h
        rw [mixOp_quiet hj (by rw [wj]; exact hwj) hcj, ej] at hh
        obtain ⟨u, hu, hk⟩ := hh
        rw [mixOp_quiet hj hwj hcj]
        refine ⟨u, hu, ?_⟩
        rw [mixOp_chain hi (by rw [wi]; exact hwi) hci, ei]
        refine resA_mono (fun v' w'' hw'' hh => ?_) h
        rw [mixOp_quiet hj (by rw [wj]; exact hwj) hcj, ej] at hh
        obtain ⟨u', hu', hk'⟩ := hh
        have e := (hu w'' hw'').symm.trans (hu' w'' hw'')
        injection e with e1 _
        injection e1 with e2
        subst e2
        rw [← cm]
        exact hk'
    | false =>
      rw [mixOp_quiet hi hwi hci] at h
      obtain ⟨v, hv, hk⟩ := h
      cases hwj : Region.wanted oj (yielded ops a.tmps) with
      | false =>
        rw [mixOp_no hj (by rw [wj]; exact hwj)] at hk
        rw [mixOp_no hj hwj, mixOp_quiet hi (by rw [wi]; exact hwi) hci, ei]
        exact ⟨v, hv, by rw [← cm]; exact hk⟩
      | true =>
        cases hcj : chain P oj with
        | true =>
          rw [mixOp_chain hj (by rw [wj]; exact hwj) hcj, ej] at hk
          rw [mixOp_chain hj hwj hcj]
          refine resA_mono (fun u w' _ hh => ?_) hk
          rw [mixOp_quiet hi (by rw [wi]; exact hwi) hci, ei]
          exact ⟨v, hv, by rw [← cm]; exact hh⟩
        | false =>
          rw [mixOp_quiet hj (by rw [wj]; exact hwj) hcj, ej] at hk
          rw [mixOp_quiet hj hwj hcj]
          obtain ⟨u, hu, hk⟩ := hk
          refine ⟨u, hu, ?_⟩
          rw [mixOp_quiet hi (by rw [wi]; exact hwi) hci, ei]
          exact ⟨v, hv, by rw [← cm]; exact hk⟩

/-- Whatever order is picked from here on. -/
def wpMix (P : Program) (md : Region.Mode) (ops : Array Oper) (C : World → Prop) (R : Act → World → Prop) : Nat → Array Bool → Act → World → Prop
  | 0, listed, a, w => Region.ready md ops listed = [] ∧ R a w
  | fuel + 1, listed, a, w => (Region.ready md ops listed = [] → R a w) ∧ ∀ i ∈ Region.ready md ops listed, mixOp P ops C i (wpMix P md ops C R fuel (listed.setIfInBounds i true)) a w

theorem wpAny_of_mix {R : Act → World → Prop} {Q : Exit → Act → World → Prop} (hq : ∀ a w, R a w → Q .normal a w) : ∀ (fuel : Nat) (listed : Array Bool) (a : Act) (w : World), C w →
    wpMix P md ops C R fuel listed a w → wpAny P md ops Q fuel listed a w
  | 0, _, _, _, _, h => ⟨h.1, hq _ _ h.2⟩
  | fuel + 1, listed, a, w, hC, h => ⟨fun h0 => hq _ _ (h.1 h0), fun i hi => by
      have h1 := h.2 i hi
      unfold mixOp at h1
      unfold wpOp
      split
      · rename_i ho; simp only [ho] at h1; exact wpAny_of_mix hq fuel _ _ _ hC h1
      · rename_i o ho
        simp only [ho] at h1
        split
        · rename_i hw
          simp only [hw, if_true] at h1
          refine .inl ?_
          split at h1
          · exact Oper.wp_mono (fun a' w' hh => wpAny_of_mix hq fuel _ _ _ hh.1 hh.2) (upon_of_resA h1)
          · obtain ⟨v, hv, hk⟩ := h1
            unfold Oper.wp
            rw [hv w hC]
            exact wpAny_of_mix hq fuel _ _ _ hC hk
        · rename_i hw
          simp only [hw] at h1
          exact wpAny_of_mix hq fuel _ _ _ hC h1⟩

/-! what waits for what -/
theorem before_fold (ops : List Oper) (acc : Array Nat) : ∃ l : List Nat, (ops.foldl (init := acc) fun acc o => acc.push (o.after.foldl (fun s e => if Region.binds .any e then s ||| 2 ^ e.on ||| acc.getD e.on 0 else s) 0)) = acc ++ l.toArray ∧ l.length = ops.length := by
  induction ops generalizing acc with
  | nil => exact ⟨[], by simp⟩
  | cons o r ih =>
    simp only [List.foldl_cons]
    obtain ⟨l, h1, h2⟩ := ih (acc.push (o.after.foldl (fun s e => if Region.binds .any e then s ||| 2 ^ e.on ||| acc.getD e.on 0 else s) 0))
    exact ⟨_ :: l, by rw [h1]; apply Array.ext'; simp; rfl, by simp [h2]⟩

theorem edges_bit (b : Nat → Nat) (i : Nat) : ∀ (es : List Edge) (s : Nat), (es.foldl (fun s e => if Region.binds .any e then s ||| 2 ^ e.on ||| b e.on else s) s).testBit i = true →
    s.testBit i = true ∨ ∃ e ∈ es, Region.binds .any e = true ∧ (e.on = i ∨ (b e.on).testBit i = true)
  | [], s, h => .inl h
  | e :: es, s, h => by
    simp only [List.foldl_cons] at h
    rcases edges_bit b i es _ h with h | ⟨e', he', hh⟩
    · split at h
      · rename_i hb
        simp only [Nat.testBit_or, Bool.or_eq_true] at h
        rcases h with (h | h) | h
        · exact .inl h
        · refine .inr ⟨e, by simp, hb, .inl ?_⟩
          rw [Nat.testBit_two_pow] at h
          simpa using h
        · exact .inr ⟨e, by simp, hb, .inr h⟩
      · exact .inl h
    · exact .inr ⟨e', by simp [he'], hh⟩

theorem before_spec {j i : Nat} {o : Oper} (hj : ops[j]? = some o) (h : ((Region.before ops).getD j 0).testBit i = true) :
    ∃ e ∈ o.after, Region.binds .any e = true ∧ (e.on = i ∨ (e.on < j ∧ ((Region.before ops).getD e.on 0).testBit i = true)) := by
  have hlt : j < ops.size := (Array.getElem?_eq_some_iff.1 hj).1
  have split : ops.toList = ops.toList.take j ++ o :: ops.toList.drop (j + 1) := by
    have hj' : ops.toList[j]? = some o := by rw [Array.getElem?_toList]; exact hj
    have hlt' : j < ops.toList.length := by simpa using hlt
    have : ops.toList[j] = o := by rw [List.getElem?_eq_getElem hlt'] at hj'; simpa using hj'
    rw [← this, ← List.drop_eq_getElem_cons hlt', List.take_append_drop]
  obtain ⟨l1, e1, n1⟩ := before_fold (ops.toList.take j) #[]
  have hn1 : l1.length = j := by rw [n1, List.length_take]; simp; omega
  have e1' := e1.trans (show (#[] : Array Nat) ++ l1.toArray = l1.toArray by simp)
  obtain ⟨l2, e2, _⟩ := before_fold (ops.toList.drop (j + 1)) (l1.toArray.push (o.after.foldl (fun s e => if Region.binds .any e then s ||| 2 ^ e.on ||| l1.toArray.getD e.on 0 else s) 0))
  have hb : Region.before ops = l1.toArray.push (o.after.foldl (fun s e => if Region.binds .any e then s ||| 2 ^ e.on ||| l1.toArray.getD e.on 0 else s) 0) ++ l2.toArray := by
    unfold Region.before
    rw [← Array.foldl_toList, split, List.foldl_append, List.foldl_cons, e1', e2]
  have hget : ∀ m, m < j → (Region.before ops).getD m 0 = l1.toArray.getD m 0 := by
    intro m hm
    rw [hb]
    simp only [Array.getD_eq_getD_getElem?]
    congr 1
    rw [Array.getElem?_append_left (by simp; omega), Array.getElem?_push_lt (by simp; omega)]
    simp [hn1, hm]
  have hself : (Region.before ops).getD j 0 = o.after.foldl (fun s e => if Region.binds .any e then s ||| 2 ^ e.on ||| l1.toArray.getD e.on 0 else s) 0 := by
    rw [hb]
    simp only [Array.getD_eq_getD_getElem?]
    rw [Array.getElem?_append_left (by simp; omega)]
    have : j = l1.toArray.size := by simp [hn1]
    rw [this]
    simp
  rw [hself, ← Array.foldl_toList] at h
  rcases edges_bit (fun m => l1.toArray.getD m 0) i o.after.toList 0 h with h | ⟨e, he, hbd, hh⟩
  · simp at h
  · refine ⟨e, by simpa using he, hbd, ?_⟩
    rcases hh with hh | hh
    · exact .inl hh
    · by_cases hm : e.on < j
      · exact .inr ⟨hm, by rw [hget _ hm]; exact hh⟩
      · have : l1.toArray.getD e.on 0 = 0 := by simp [Array.getD_eq_getD_getElem?, List.getElem?_eq_none (show l1.length ≤ e.on by omega)]
        rw [this] at hh
        simp at hh

/-- What is listed waits for nothing that is not. -/
def Shut (ops : Array Oper) (listed : Array Bool) : Prop := ∀ (j : Nat) (o : Oper), ops[j]? = some o → listed.getD j false = true → ∀ e ∈ o.after, Region.binds .any e = true → listed.getD e.on false = true

theorem Shut.set {listed : Array Bool} {i : Nat} (h : Shut ops listed) (hi : i ∈ Region.ready .any ops listed) : Shut ops (listed.setIfInBounds i true) := by
  intro j o hj hl e he hb
  obtain ⟨_, o', ho', hall⟩ := mem_ready.1 hi
  by_cases hij : i = j
  · subst hij
    rw [hj] at ho'
    cases ho'
    exact getD_set_true (hall e he hb)
  · rw [getD_set_ne false hij] at hl
    exact getD_set_true (h j o hj hl e he hb)

theorem Shut.before {listed : Array Bool} (h : Shut ops listed) : ∀ (j i : Nat) (o : Oper), ops[j]? = some o → (∀ e ∈ o.after, Region.binds .any e = true → listed.getD e.on false = true) →
    ((Region.before ops).getD j 0).testBit i = true → listed.getD i false = true := by
  intro j
  induction j using Nat.strongRecOn with
  | _ j ih =>
    intro i o hj hall hb
    obtain ⟨e, he, hbd, hh⟩ := before_spec hj hb
    have hl := hall e he hbd
    rcases hh with hh | ⟨hlt, hh⟩
    · rw [hh] at hl; exact hl
    · have hsz : e.on < ops.size := by
        have := (Array.getElem?_eq_some_iff.1 hj).1
        omega
      exact ih e.on hlt i ops[e.on] (by simp [hsz]) (fun e' he' hb' => h e.on ops[e.on] (by simp [hsz]) hl e' he' hb') hh

/-- The one that stands first in the text may be taken first. -/
theorem wpMix_first {R : Act → World → Prop} {i : Nat} {oi : Oper} (hi : ops[i]? = some oi) (hsel : ∀ (j : Nat) (o : Oper) cs b, ops[j]? = some o → o.op ≠ .select cs b) :
    ∀ (fuel : Nat) (listed : Array Bool) (a : Act) (w : World), C w → Shut ops listed →
      (∀ j oj, ops[j]? = some oj → j ≠ i → listed.getD j true = false → ((Region.before ops).getD j 0).testBit i = false → oi.apart ops oj = true ∧ (chain P oi && chain P oj) = false) →
      i ∈ Region.ready .any ops listed → mixOp P ops C i (wpMix P .any ops C R fuel (listed.setIfInBounds i true)) a w → wpMix P .any ops C R (fuel + 1) listed a w := by
  intro fuel
  induction fuel with
  | zero =>
    intro listed a w hC _ _ hr H
    refine ⟨fun h => (by rw [h] at hr; cases hr), fun j hj => ?_⟩
    by_cases hji : j = i
    · subst hji; exact H
    · have := ready_mono hj hji
      obtain ⟨_, _, _, hh⟩ := mixOp_some hC H
      rw [hh.1] at this
      cases this
  | succ fuel ih =>
    intro listed a w hC hS hfree hr H
    refine ⟨fun h => (by rw [h] at hr; cases hr), fun j hj => ?_⟩
    by_cases hji : j = i
    · subst hji; exact H
    · have h1 : mixOp P ops C i (mixOp P ops C j (wpMix P .any ops C R fuel ((listed.setIfInBounds i true).setIfInBounds j true))) a w :=
        mixOp_mono hC (fun a' w' _ hh => hh.2 j (ready_mono hj hji)) H
      obtain ⟨hjun, oj, hoj, hall⟩ := mem_ready.1 hj
      have hiun : listed.getD i false = false := by
        have h0 := (mem_ready.1 hr).1
        rcases Nat.lt_or_ge i listed.size with h' | h'
        · simp [h'] at h0 ⊢; exact h0
        · simp [Array.getElem?_eq_none h']
      have hnot : ((Region.before ops).getD j 0).testBit i = false := by
        cases hb : ((Region.before ops).getD j 0).testBit i with
        | false => rfl
        | true => have := hS.before j i oj hoj hall hb; rw [hiun] at this; cases this
      obtain ⟨hap, hch⟩ := hfree j oj hoj hji hjun hnot
      have h2 := mixOp_swap hi hoj hap hch (fun cs b => hsel i oi cs b hi) (fun cs b => hsel j oj cs b hoj) h1
      refine mixOp_mono hC (fun a' w' hC' h3 => ih (listed.setIfInBounds j true) a' w' hC' (hS.set hj) ?_ (ready_mono hr (Ne.symm hji)) ?_) h2
      · intro k ok hk hki hun hno
        refine hfree k ok hk hki ?_ hno
        by_cases hjk : j = k
        · subst hjk; exact hjun
        · rw [getD_set_ne true hjk] at hun; exact hun
      · rw [Array.setIfInBounds_comm _ _ hji]
        exact h3

def mixFree (P : Program) (ops : Array Oper) (bf : Array Nat) (listed : Array Bool) (i : Nat) : Bool :=
  match ops[i]? with
  | none => false
  | some oi => (List.range ops.size).all fun j => j == i || listed.getD j true || match ops[j]? with
      | some oj => (bf.getD j 0).testBit i || (oi.apart ops oj && !(chain P oi && chain P oj))
      | none => true

theorem mixFree_spec {i : Nat} {oi : Oper} {listed : Array Bool} (hi : ops[i]? = some oi) (h : mixFree P ops (Region.before ops) listed i = true) (j : Nat) (oj : Oper)
    (hj : ops[j]? = some oj) (hne : j ≠ i) (hun : listed.getD j true = false) (hno : ((Region.before ops).getD j 0).testBit i = false) :
    oi.apart ops oj = true ∧ (chain P oi && chain P oj) = false := by
  simp only [mixFree, hi, List.all_eq_true, List.mem_range] at h
  have h1 := h j (Array.getElem?_eq_some_iff.1 hj).1
  simp only [hj, Bool.or_eq_true, beq_iff_eq, hne, false_or, hun, Bool.false_eq_true, hno] at h1
  simp only [Bool.and_eq_true, Bool.not_eq_true'] at h1
  exact h1

def mixFrom (P : Program) (ops : Array Oper) (bf : Array Nat) : Nat → Nat → Array Bool → Bool
  | 0, _, listed => (Region.ready .any ops listed).isEmpty
  | fuel + 1, k, listed => (Region.ready .any ops listed).contains k && mixFree P ops bf listed k && mixFrom P ops bf fuel (k + 1) (listed.setIfInBounds k true)

def mixB (P : Program) (ops : Array Oper) : Bool := Region.noSelect ops && mixFrom P ops (Region.before ops) ops.size 0 (Array.replicate ops.size false)

/-- The text's own order. -/
def wpLex (P : Program) (ops : Array Oper) (C : World → Prop) (R : Act → World → Prop) : List Nat → Act → World → Prop
  | [], a, w => R a w
  | i :: r, a, w => mixOp P ops C i (wpLex P ops C R r) a w

theorem wpMix_lex {R : Act → World → Prop} (hs : Region.noSelect ops = true) : ∀ (n k : Nat) (listed : Array Bool) (a : Act) (w : World), k + n = ops.size → C w → Shut ops listed →
    mixFrom P ops (Region.before ops) n k listed = true → wpLex P ops C R (List.range' k n) a w → wpMix P .any ops C R n listed a w
  | 0, _, _, _, _, _, _, _, hB, h => ⟨by simpa [mixFrom] using hB, h⟩
  | n + 1, k, listed, a, w, hk, hC, hS, hB, h => by
    simp only [mixFrom, Bool.and_eq_true] at hB
    obtain ⟨⟨hr, hf⟩, hB'⟩ := hB
    have hlt : k < ops.size := by omega
    have hr' : k ∈ Region.ready .any ops listed := by simpa using hr
    refine wpMix_first (i := k) (oi := ops[k]) (by simp [hlt]) (Region.noSelect_spec hs) n listed a w hC hS (mixFree_spec (by simp [hlt]) hf) hr' ?_
    simp only [List.range'_succ, wpLex] at h
    exact mixOp_mono hC (fun a' w' hC' hh => wpMix_lex hs n (k + 1) _ a' w' (by omega) hC' (hS.set hr') hB' hh) h

end

section
variable {P : Program}

def noQ : EP := fun _ _ _ => False

def nilK (x : Value) (K : VP) (other : Prop) (_ : Ph (K, other)) : Prop := match x with | .pointer (some _) => K x | _ => other
/-- One operation of such a region, told by the evaluator. -/
def mixK (P : Program) (o : Oper) (t : Fr) (w : World) (C : World → Prop) (K : VK) (_ : Ph (o, C, K)) : Prop :=
  match o.op with
  | .load ty a => loadK (tyK P ty) (ev t a) w (fun v w' => (∀ w'', C w'' → loadK (tyK P ty) (ev t a) w'' (fun u _ => u = v) .mk) ∧ K v w') .mk
  | .nilCheck x => nilK (ev t x) (K · w) False .mk
  | _ => if chain P o then opK P o t w (fun v w' => C w' ∧ K v w') noQ .mk else pureK P o t (K · w) False .mk

def vcMix (P : Program) (ops : List Oper) (C : World → Prop) (R : Fr → World → Prop) : (l : List Oper) → Fr → World → Ph (ops, C, R, l) → Prop
  | [], t, w, _ => R t w
  | o :: r, t, w, _ => match o.guard with
    | none => mixK P o t w C (fun v w' => vcMix P ops C R r (put t o.dst v) w' .mk) .mk
    | some (j, want) => guardK (slotOf ops j) want t (fun t' => mixK P o t' w C (fun v w' => vcMix P ops C R r (put t' o.dst v) w' .mk) .mk) (fun t' => vcMix P ops C R r (put t' o.dst undef) w .mk) .mk

theorem resA_of_resK {t : Fr} {dst : Option Tmp} {C : World → Prop} {K : VK} {N : Act → World → Prop} (hn : ∀ v w', K v w' → N ⟨(put t dst v).toArray, []⟩ w') {r : Result Next} (h : resK P t (fun v w' => C w' ∧ K v w') noQ r) : resA P ⟨t.toArray, []⟩ dst C N r := by
  cases r with
  | halt x w' => cases x <;> simp only [resK, noQ] at h
  | ok n w' =>
    cases n <;> simp only [resK] at h <;> simp only [resA]
    case value v => exact ⟨h.1, by rw [put_eq]; exact hn _ _ h.2⟩
    case skip => exact ⟨h.1, by rw [put_eq]; exact hn _ _ h.2⟩
    case enter f args =>
      refine h.mono fun e w'' he => ?_
      cases e with
      | returned v => exact ⟨v, rfl, he.1, by rw [put_eq]; exact hn _ _ he.2⟩
      | panicked c => exact he.elim
      | outgrown => exact he.elim

theorem loadK_run {o : Oper} {ty : TypeId} {x : Operand} {t : Fr} {w : World} {K : VK} (ho : o.op = .load ty x) (h : loadK (tyK P ty) (ev t x) w K .mk) : ∃ v, (execOp (ev t) o).run P w = .ok (.value v) w ∧ K v w := by
  unfold loadK at h
  split at h
  · rename_i a ht hx
    obtain ⟨v, hc, hk⟩ := optK_elim h
    refine ⟨v, ?_, hk⟩
    unfold execOp
    simp [ho, hx, Instr.loadAt, Instr.sureAddr, loadVar, (tyK_one ht w).1, load, Sem.run, hc]
  · rename_i n a ht hx
    obtain ⟨v, hc, hk⟩ := optK_elim h
    refine ⟨_, ?_, hk⟩
    unfold execOp
    simp [ho, hx, Instr.loadAt, Instr.sureAddr, loadVar, (tyK_many ht w).1, (tyK_many ht w).2, loadCells, run_loadCellsFrom (P := P) w a n 0 #[] v hc]
  · exact h.elim

theorem mixOp_of_mixK {ops : List Oper} {i : Nat} {o : Oper} {C : World → Prop} {t : Fr} {w : World} {K : VK} {N : Act → World → Prop} (hi : ops[i]? = some o) (hw : Region.wanted o (yielded ops.toArray t.toArray) = true)
    (hn : ∀ v w', K v w' → N ⟨(put t o.dst v).toArray, []⟩ w') (h : mixK P o t w C K .mk) : mixOp P ops.toArray C i N ⟨t.toArray, []⟩ w := by
  unfold mixOp
  simp only [List.getElem?_toArray, hi, hw, if_true, ev_eq]
  unfold mixK at h
  split at h
  · rename_i ty x ho
    have hc : chain P o = false := by simp [chain, ho]
    simp only [hc, Bool.false_eq_true, if_false]
    obtain ⟨v, hr, hall, hk⟩ := loadK_run ho h
    refine ⟨v, fun w' hw' => ?_, by rw [put_eq]; exact hn _ _ hk⟩
    obtain ⟨u, hu, hv⟩ := loadK_run ho (hall w' hw')
    rw [hu, hv]
  · rename_i x ho
    have hc : chain P o = false := by simp [chain, ho]
    simp only [hc, Bool.false_eq_true, if_false]
    unfold nilK at h
    split at h
    · rename_i a hx
      refine ⟨_, fun w' _ => ?_, by rw [put_eq]; exact hn _ _ h⟩
      unfold execOp
      simp only [ho, hx]
      rfl
    · exact h.elim
  · split at h
    · rename_i hc
      simp only [hc, if_true]
      exact resA_of_resK hn (opK_ok h)
    · rename_i hc
      simp only [hc]
      rcases pureK_ok h with h | ⟨v, hg, hk⟩
      · exact h.elim
      · exact ⟨v, fun w' _ => hg w', by rw [put_eq]; exact hn _ _ hk⟩

theorem mixOp_skip {ops : List Oper} {i : Nat} {o : Oper} {C : World → Prop} {t : Fr} {w : World} {N : Act → World → Prop} (hi : ops[i]? = some o) (hw : Region.wanted o (yielded ops.toArray t.toArray) = false)
    (h : N ⟨(put t o.dst undef).toArray, []⟩ w) : mixOp P ops.toArray C i N ⟨t.toArray, []⟩ w := by
  unfold mixOp
  simp only [List.getElem?_toArray, hi, hw, Bool.false_eq_true, if_false]
  rw [put_eq]; exact h

/-- A guard, read by the evaluator, is the region's own. -/
theorem guard_cases {ops : List Oper} {o : Oper} {j : Nat} {want : Bool} (hg : o.guard = some (j, want)) {t : Fr} {yes no : Fr → Prop} (h : guardK (slotOf ops j) want t yes no .mk) :
    (Region.wanted o (yielded ops.toArray t.toArray) = true ∧ yes t) ∨ (Region.wanted o (yielded ops.toArray t.toArray) = false ∧ no t) := by
  have hwant : Region.wanted o (yielded ops.toArray t.toArray) = (yielded ops.toArray t.toArray j == some want) := by simp only [Region.wanted, hg]
  unfold guardK at h
  split at h
  · rename_i hs
    exact .inr ⟨by rw [hwant, yielded_eq, hs]; rfl, h⟩
  · rename_i s hs
    split at h
    · rename_i b hb
      have hlt : s < t.length := by
        rcases Nat.lt_or_ge s t.length with h' | h'
        · exact h'
        · simp [List.getD_eq_getElem?_getD, List.getElem?_eq_none h', undef] at hb
      have hv : t[s]? = some (.bool b) := by
        rw [List.getD_eq_getElem?_getD] at hb
        rw [List.getElem?_eq_getElem hlt] at hb ⊢
        simpa using hb
      have hy : yielded ops.toArray t.toArray j = some b := by rw [yielded_eq, hs]; simp [hv]
      have same := set_getD_same t s hlt
      rw [hb] at same
      by_cases hbw : b = want
      · subst hbw
        have h1 := h.1 rfl
        rw [same] at h1
        exact .inl ⟨by rw [hwant, hy]; simp, h1⟩
      · have hbn : b = !want := by cases b <;> cases want <;> simp_all
        have h2 := h.2 hbn
        rw [← hbn, same] at h2
        exact .inr ⟨by rw [hwant, hy]; simpa using hbw, h2⟩
    · rename_i hb
      refine .inr ⟨?_, h⟩
      rw [hwant, yielded_eq, hs]
      simp only [Option.bind_some]
      cases hv : t[s]? with
      | none => rfl
      | some v =>
        have : t.getD s undef = v := by rw [List.getD_eq_getElem?_getD, hv]; rfl
        rw [this] at hb
        cases v <;> simp at hb ⊢

theorem wpLex_of_vcMix {ops : List Oper} {C : World → Prop} {R : Fr → World → Prop} {N : Act → World → Prop} (hn : ∀ t w, R t w → N ⟨t.toArray, []⟩ w) : ∀ (l : List Oper) (k : Nat) (t : Fr) (w : World), (∀ j, l[j]? = ops[k + j]?) →
    vcMix P ops C R l t w .mk → wpLex P ops.toArray C N (List.range' k l.length) ⟨t.toArray, []⟩ w
  | [], _, _, _, _, h => hn _ _ h
  | o :: r, k, t, w, hl, h => by
    have h0 : ops[k]? = some o := by simpa using (hl 0).symm
    have ih := fun t w => wpLex_of_vcMix (C := C) hn r (k + 1) t w (fun j => by have := hl (j + 1); simpa [Nat.add_assoc, Nat.add_comm 1 j] using this)
    simp only [List.length_cons, List.range'_succ, wpLex]
    simp only [vcMix] at h
    split at h
    · rename_i hg
      exact mixOp_of_mixK h0 (by simp [Region.wanted, hg]) (fun v w' hk => ih _ _ hk) h
    · rename_i j want hg
      rcases guard_cases hg h with ⟨hw, hh⟩ | ⟨hw, hh⟩
      · exact mixOp_of_mixK h0 hw (fun v w' hk => ih _ _ hk) hh
      · exact mixOp_skip h0 hw (ih _ _ hh)

/-- A region that draws its order, walked once, in the text's order. -/
theorem wpL_draw {id : Nat} {l : List Oper} {t : Fr} {w : World} {Q : EP} {p} (C : World → Prop) (hm : P.follows .mixedOrders = true) (hB : mixB P l.toArray = true) (hC : C w.drew)
    (h : vcMix P l C (Q .normal) l t w.drew .mk) : wpL P (.region id l.toArray true) Q t w p := by
  unfold wpL
  simp only [mixB, Bool.and_eq_true] at hB
  refine wp_region_any hm (wpAny_of_mix (C := C) (R := fun a w => lift Q .normal a w) (fun _ _ h => h) _ _ _ _ hC ?_)
  refine wpMix_lex hB.1 _ 0 _ _ _ (by simp) hC (fun j o _ hl => by simp [Array.getElem?_replicate] at hl; split at hl <;> simp at hl) hB.2 ?_
  have := wpLex_of_vcMix (P := P) (ops := l) (C := C) (R := Q .normal) (N := fun a w => lift Q .normal a w) (fun t w hk => ⟨rfl, by simpa using hk⟩) l 0 t w.drew (fun j => by simp) h
  simpa using this

variable {t : Fr} {w : World} {C : World → Prop} {K : VK} {R : Fr → World → Prop}
theorem vcMix_nil (ops) (p) : vcMix P ops C R [] t w p = R t w := (rfl)
theorem vcMix_plain (ops) (d op ty pos af r) (p) : vcMix P ops C R (⟨d, op, ty, pos, af, none⟩ :: r) t w p = mixK P ⟨d, op, ty, pos, af, none⟩ t w C (fun v w' => vcMix P ops C R r (put t d v) w' .mk) .mk := (rfl)
theorem vcMix_guard (ops) (d op ty pos af j want r) (p) : vcMix P ops C R (⟨d, op, ty, pos, af, some (j, want)⟩ :: r) t w p =
    guardK (slotOf ops j) want t (fun t' => mixK P ⟨d, op, ty, pos, af, some (j, want)⟩ t' w C (fun v w' => vcMix P ops C R r (put t' d v) w' .mk) .mk) (fun t' => vcMix P ops C R r (put t' d undef) w .mk) .mk := rfl
theorem mixK_move (d x ty pos af g) (p) : mixK P ⟨d, .move x, ty, pos, af, g⟩ t w C K p = K (ev t x) w := (rfl)
theorem mixK_assign (d x ty pos af g) (p) : mixK P ⟨d, .assign x, ty, pos, af, g⟩ t w C K p = K (ev t x) w := (rfl)
theorem mixK_pick (d c a b ty pos af g) (p) : mixK P ⟨d, .pick c a b, ty, pos, af, g⟩ t w C K p = pickK (ev t c) (ev t a) (ev t b) (K · w) .mk := (rfl)
theorem mixK_bin (d op xt x y yt ty pos af g) (p) : mixK P ⟨d, .binOp op xt x y yt, ty, pos, af, g⟩ t w C K p =
    binK op (ev t x) (ev t y) (K · w) (eqNilK (eqKind P xt) (isConst x || isConst y) op (ev t x) (ev t y) (K · w) False .mk) .mk := rfl
theorem mixK_un (d op xt x ty pos af g) (p) : mixK P ⟨d, .unOp op xt x, ty, pos, af, g⟩ t w C K p = unK op (ev t x) (K · w) False .mk := (rfl)
theorem mixK_extract (d x i ty pos af g) (p) : mixK P ⟨d, .extract x i, ty, pos, af, g⟩ t w C K p = extractK (ev t x) i (K · w) .mk := (rfl)
/-- A conversion: by what the type is. -/
def mixConvK (P : Program) (d : Option TypeDesc) (o : Oper) (t : Fr) (w : World) (C : World → Prop) (K : VK) (_ : Ph (o, C, K)) : Prop :=
  match d with
  | some (.int _) => pureK P o t (K · w) False .mk
  | _ => opK P o t w (fun v w' => C w' ∧ K v w') noQ .mk
theorem mixK_convert (d s e x ty pos af g) (p) : mixK P ⟨d, .convert s e x, ty, pos, af, g⟩ t w C K p = mixConvK P (P.underlying e) ⟨d, .convert s e x, ty, pos, af, g⟩ t w C K .mk := by
  cases h : P.underlying e with
  | none => simp [mixK, chain, h, mixConvK]
  | some d => cases d <;> simp [mixK, chain, h, mixConvK]
theorem mixConvK_int (k d s e x ty pos af g) (p) : mixConvK P (some (.int k)) ⟨d, .convert s e x, ty, pos, af, g⟩ t w C K p = convK (if (P.underlying s).isSome then P.underlying e else none) (ev t x) (K · w) False .mk := (rfl)
theorem mixConvK_str (o) (p) : mixConvK P (some .string) o t w C K p = opK P o t w (fun v w' => C w' ∧ K v w') noQ .mk := (rfl)
theorem mixConvK_slice (e o) (p) : mixConvK P (some (.slice e)) o t w C K p = opK P o t w (fun v w' => C w' ∧ K v w') noQ .mk := (rfl)
theorem mixK_index (d xt x i ty pos af g) (p) : mixK P ⟨d, .index xt x i, ty, pos, af, g⟩ t w C K p = indexK (P.underlying xt) (ev t x) (ev t i) (K · w) False .mk := (rfl)
theorem mixK_len (d x aty ty pos af g) (p) : mixK P ⟨d, .call { callee := .builtin .len, args := #[x], argTypes := #[aty] }, ty, pos, af, g⟩ t w C K p = lenK (P.underlying aty) (ev t x) (K · w) False .mk := (rfl)
theorem mixK_load (d xt x ty pos af g) (p) : mixK P ⟨d, .load xt x, ty, pos, af, g⟩ t w C K p = loadK (tyK P xt) (ev t x) w (fun v w' => (∀ w'', C w'' → loadK (tyK P xt) (ev t x) w'' (fun u _ => u = v) .mk) ∧ K v w') .mk := (rfl)
theorem mixK_fieldAddr (d xt x f ty pos af g) (p) : mixK P ⟨d, .fieldAddr xt x f, ty, pos, af, g⟩ t w C K p = fieldAddrK (fieldK P xt f) (ev t x) (K · w) .mk := (rfl)
theorem mixK_field (d xt x f ty pos af g) (p) : mixK P ⟨d, .field xt x f, ty, pos, af, g⟩ t w C K p = partK (fieldK P xt f) (ev t x) (K · w) .mk := (rfl)
theorem mixK_indexAddr (d xt x i ty pos af g) (p) : mixK P ⟨d, .indexAddr xt x i, ty, pos, af, g⟩ t w C K p = indexAddrK (elemK P xt) (arrK P xt) (ev t x) (ev t i) (K · w) .mk := (rfl)
theorem mixK_slice (d xt x lo hi mx ty pos af g) (p) : mixK P ⟨d, .slice xt x lo hi mx, ty, pos, af, g⟩ t w C K p =
    sliceK (P.underlying xt) (elemK P xt) (ev t x) (lo.map (ev t)) (hi.map (ev t)) (mx.map (ev t)) (K · w) False .mk := rfl
theorem mixK_call (d f) (args : List Operand) (aty ty pos af g) (p) : mixK P ⟨d, .call { callee := .value f, args := args.toArray, argTypes := aty }, ty, pos, af, g⟩ t w C K p =
    opK P ⟨d, .call { callee := .value f, args := args.toArray, argTypes := aty }, ty, pos, af, g⟩ t w (fun v w' => C w' ∧ K v w') noQ .mk := rfl
theorem mixK_store (d xt x v ty pos af g) (p) : mixK P ⟨d, .store xt x v, ty, pos, af, g⟩ t w C K p = opK P ⟨d, .store xt x v, ty, pos, af, g⟩ t w (fun v w' => C w' ∧ K v w') noQ .mk := (rfl)
theorem mixK_box (d e x ty pos af g) (p) : mixK P ⟨d, .box e x, ty, pos, af, g⟩ t w C K p = opK P ⟨d, .box e x, ty, pos, af, g⟩ t w (fun v w' => C w' ∧ K v w') noQ .mk := (rfl)
theorem mixK_buildSlice (d bt n ps ty pos af g) (p) : mixK P ⟨d, .buildSlice bt n ps, ty, pos, af, g⟩ t w C K p = opK P ⟨d, .buildSlice bt n ps, ty, pos, af, g⟩ t w (fun v w' => C w' ∧ K v w') noQ .mk := (rfl)
theorem mixK_build (d bt) (ps : List (Nat × Operand)) (ty pos af g) (p) : mixK P ⟨d, .build bt ps.toArray, ty, pos, af, g⟩ t w C K p = buildK (bldI P bt) (evs t ps) (K · w) .mk := (rfl)
theorem mixK_append (d) (args : Array Operand) (aty ty pos af g) (p) : mixK P ⟨d, .call { callee := .builtin .append, args := args, argTypes := aty }, ty, pos, af, g⟩ t w C K p =
    opK P ⟨d, .call { callee := .builtin .append, args := args, argTypes := aty }, ty, pos, af, g⟩ t w (fun v w' => C w' ∧ K v w') noQ .mk := rfl
end
attribute [push_cast] vcMix_nil vcMix_plain vcMix_guard mixK_move mixK_assign mixK_pick mixK_bin mixK_un mixK_extract mixK_convert mixConvK_int mixConvK_str mixConvK_slice mixK_index mixK_len mixK_load mixK_fieldAddr mixK_field mixK_indexAddr mixK_slice mixK_call mixK_store mixK_box mixK_buildSlice mixK_build mixK_append
end Go.Vc
end

section
namespace Go.Vc
open Go.RowKit

/-! ### Memory -/

/-- The slice value v reads as l: k cells an element, told by R; no block of X is read. -/
def Sl {α : Type} (X : Nat → Prop) (k : Nat) (R : List Value → α → Prop) (w : World) (v : Value) (l : List α) : Prop :=
  ∃ a c, v = .slice a l.length c ∧ l.length ≤ c ∧ ∀ i x, l[i]? = some x → ∃ b o cs, a = some ⟨b, o, none⟩ ∧ ¬ X b ∧ cs.length = k ∧ (∀ j u, cs[j]? = some u → w.cell? ⟨b, o + i * k + j, none⟩ = some u) ∧ R cs x

theorem Sl.mono {α : Type} {X X' : Nat → Prop} {k : Nat} {R R' : List Value → α → Prop} {w w' : World} {v : Value} {l : List α} (h : Sl X k R w v l) (hs : ∀ b, ¬ X b → b < w.heap.size → w'.heap[b]? = w.heap[b]?)
    (hR : ∀ cs x, x ∈ l → R cs x → R' cs x) (hX : ∀ b, X' b → X b) : Sl X' k R' w' v l := by
  obtain ⟨a, c, rfl, hc, h⟩ := h
  refine ⟨a, c, rfl, hc, fun i x hx => ?_⟩
  obtain ⟨b, o, cs, ha, hb, hk, hcell, hr⟩ := h i x hx
  refine ⟨b, o, cs, ha, fun hh => hb (hX b hh), hk, fun j u hu => ?_, hR _ _ (List.mem_of_getElem? hx) hr⟩
  have hc := hcell j u hu
  exact (World.cell?_of_block (w := w) (hs b hb (World.block_lt_of_cell? w _ hc))).trans hc

/-- Elements that are just their cells. -/
abbrev En {α : Type} (enc : α → List Value) : List Value → α → Prop := fun cs x => cs = enc x

theorem Sl.below {α : Type} {X : Nat → Prop} {k : Nat} {R : List Value → α → Prop} {w w' : World} {v : Value} {l : List α} (h : Sl X k R w v l) (hb : Below w.heap.size w w') : Sl X k R w' v l :=
  h.mono (fun b _ hlt => hb.block b hlt) (fun _ _ _ h => h) (fun _ h => h)

theorem Sl.weaken {α : Type} {X X' : Nat → Prop} {k : Nat} {R : List Value → α → Prop} {w : World} {v : Value} {l : List α} (h : Sl X k R w v l) (hX : ∀ b, X' b → X b) : Sl X' k R w v l :=
  h.mono (fun _ _ _ => rfl) (fun _ _ _ h => h) hX

theorem Sl.nil {α : Type} (X : Nat → Prop) (k : Nat) (R : List Value → α → Prop) (w : World) (c : Nat) (a : Option Addr) : Sl X k R w (.slice a 0 c) ([] : List α) := ⟨a, c, rfl, Nat.zero_le _, fun i x hx => by simp at hx⟩

theorem cellsAt_of {w : World} {b o : Nat} : ∀ (cs : List Value) (i : Nat), (∀ j u, cs[j]? = some u → w.cell? ⟨b, o + (i + j), none⟩ = some u) → cellsAt w ⟨b, o, none⟩ i cs.length = some cs
  | [], _, _ => rfl
  | c :: cs, i, h => by
    have h0 := h 0 c rfl
    have h1 := cellsAt_of cs (i + 1) (fun j u hu => by have := h (j + 1) u (by simpa using hu); rwa [show i + (j + 1) = i + 1 + j by omega] at this)
    simp only [List.length_cons, cellsAt, add_lit, h1]
    rw [show o + i = o + (i + 0) by omega, h0]

/-- A slice that the call itself has made and goes on making. -/
def Own {α : Type} (base : Nat) (e : TypeId) (k : Nat) (enc : α → List Value) (w : World) (v : Value) (l : List α) : Prop := w.ownsRow base e k v l.length (l.flatMap enc) ∧ ∀ x, (enc x).length = k

theorem flatMap_get {α : Type} {enc : α → List Value} {k : Nat} (hk : ∀ x, (enc x).length = k) : ∀ (l : List α) (i j : Nat) (x : α) (u : Value), l[i]? = some x → (enc x)[j]? = some u → (l.flatMap enc)[i * k + j]? = some u
  | [], i, j, x, u, h, _ => by simp at h
  | y :: l, 0, j, x, u, h, hu => by
    simp at h; subst h
    simp only [List.flatMap_cons, Nat.zero_mul, Nat.zero_add]
    rw [List.getElem?_append_left (List.getElem?_eq_some_iff.1 hu).1]
    exact hu
  | y :: l, i + 1, j, x, u, h, hu => by
    simp only [List.flatMap_cons]
    rw [List.getElem?_append_right (by rw [hk]; simp [Nat.add_mul]; omega), hk, show (i + 1) * k + j - k = i * k + j by rw [Nat.add_mul]; omega]
    exact flatMap_get hk l i j x u (by simpa using h) hu

theorem Own.sl {α : Type} {base : Nat} {e : TypeId} {k : Nat} {enc : α → List Value} {w : World} {v : Value} {l : List α} (h : Own base e k enc w v l) : Sl (· < base) k (En enc) w v l := by
  obtain ⟨h, hk⟩ := h
  rcases h.2 with ⟨rfl, h0⟩ | ⟨g, cap, cur, rfl, hb, hg, hn, _, hs, ht⟩
  · have : l = [] := List.eq_nil_of_length_eq_zero h0
    subst this
    exact Sl.nil _ _ _ _ _ _
  · refine ⟨_, cap, rfl, hn, fun i x hx => ⟨g, 0, enc x, rfl, by omega, hk x, fun j u hu => ?_, rfl⟩⟩
    have hjk : j < k := by have := (List.getElem?_eq_some_iff.1 hu).1; rw [hk] at this; exact this
    have hil : i < l.length := (List.getElem?_eq_some_iff.1 hx).1
    have hlt : i * k + j < l.length * k := by
      have : (i + 1) * k ≤ l.length * k := Nat.mul_le_mul_right k hil
      rw [Nat.add_mul] at this
      omega
    have h1 := flatMap_get hk l i j x u hx hu
    rw [← ht, List.getElem?_take, if_pos hlt] at h1
    rw [cell_of_row w g _ cur e (0, 0) hg]
    rw [Nat.zero_add]
    simpa using h1

theorem Sl.shape {α : Type} {X : Nat → Prop} {k : Nat} {R : List Value → α → Prop} {w : World} {v : Value} {l : List α} (h : Sl X k R w v l) : ∃ a c, v = .slice a l.length c ∧ l.length ≤ c := by
  obtain ⟨a, c, h, hc, _⟩ := h
  exact ⟨a, c, h, hc⟩
theorem Sl.get {α : Type} {X : Nat → Prop} {k : Nat} {enc : α → List Value} {w : World} {a : Option Addr} {n c : Nat} {l : List α} (h : Sl X k (En enc) w (.slice a n c) l) {i : Nat} {x : α} (hx : l[i]? = some x) :
    ∃ b o, a = some ⟨b, o, none⟩ ∧ ¬ X b ∧ ∀ j u, (enc x)[j]? = some u → w.cell? ⟨b, o + i * k + j, none⟩ = some u := by
  obtain ⟨a', c', he, _, h⟩ := h
  obtain ⟨b, o, cs, ha, hX, _, hc, hr⟩ := h i x hx
  cases he
  subst hr
  exact ⟨b, o, ha, hX, hc⟩
theorem lt_get {α : Type} {l : List α} {i : Nat} (h : i < l.length) : ∃ x, l[i]? = some x ∧ x ∈ l ∧ l.drop i = x :: l.drop (i + 1) ∧ l.take (i + 1) = l.take i ++ [x] := by
  refine ⟨l[i], List.getElem?_eq_getElem h, List.getElem_mem h, List.drop_eq_getElem_cons h, ?_⟩
  rw [List.take_add_one, List.getElem?_eq_getElem h]; rfl

theorem Own.nil {α : Type} (base : Nat) (e : TypeId) {k : Nat} {enc : α → List Value} (hk : ∀ x, (enc x).length = k) (w : World) : Own base e k enc w (.slice none 0 0) ([] : List α) :=
  ⟨World.ownsRow_nil w base e k, hk⟩

theorem Own.mono {α : Type} {base base' : Nat} {e : TypeId} {k : Nat} {enc : α → List Value} {w : World} {v : Value} {l : List α} (h : Own base e k enc w v l) (hb : base' ≤ base) : Own base' e k enc w v l :=
  ⟨⟨h.1.1, h.1.2.imp id fun ⟨g, cap, cur, h1, h2, h3⟩ => ⟨g, cap, cur, h1, Nat.le_trans hb h2, h3⟩⟩, h.2⟩
theorem Own.slice {α : Type} {base : Nat} {e : TypeId} {k : Nat} {enc : α → List Value} {w : World} {v : Value} {l : List α} (h : Own base e k enc w v l) : ∃ a c, v = .slice a l.length c := by
  rcases h.1.2 with ⟨rfl, h0⟩ | ⟨g, cap, cur, rfl, _⟩
  · exact ⟨none, 0, by rw [h0]⟩
  · exact ⟨_, cap, rfl⟩

theorem Own.below {α : Type} {base : Nat} {e : TypeId} {k : Nat} {enc : α → List Value} {w w' : World} {v : Value} {l : List α} (h : Own base e k enc w v l) (hb : Below w.heap.size w w') : Own base e k enc w' v l := by
  refine ⟨h.1.kept (w' := w') (row := none) ⟨hb.os, hb.tape, hb.output, hb.size, fun k hk _ => hb.block k hk⟩ ?_, h.2⟩
  cases v.ownBlock <;> simp

/-- A slice type's element: its number, its cells, its bytes. -/
def elI (P : Program) (t : TypeId) : Option (TypeId × Nat × Nat) := match P.underlying t with
  | some (.slice e) => match P.info? e with
    | some i => match i.zero with
      | some z => if z.cells.size = i.size ∧ 0 < i.size ∧ 0 < i.bytes then some (e, i.size, i.bytes) else none
      | none => none
    | none => none
  | _ => none

theorem elI_spec {P : Program} {t e : TypeId} {k bytes : Nat} (h : elI P t = some (e, k, bytes)) :
    P.underlying t = some (.slice e) ∧ ∃ i z, P.info? e = some i ∧ i.zero = some z ∧ i.size = k ∧ i.bytes = bytes ∧ z.cells.size = k ∧ 0 < k ∧ 0 < bytes := by
  unfold elI at h
  split at h
  · rename_i e' hu
    split at h
    · rename_i i hi
      split at h
      · rename_i z hz
        split at h
        · rename_i hh
          cases h
          exact ⟨hu, i, z, hi, hz, rfl, rfl, hh.1, hh.2⟩
        · cases h
      · cases h
    · cases h
  · cases h

/-- A new block. -/
structure New (w w' : World) (e : TypeId) (cs : List Value) : Prop where
  is : w' = w.alloc (.cells cs.toArray e)

theorem New.below {w w' : World} {e : TypeId} {cs : List Value} (h : New w w' e cs) : Below w.heap.size w w' := by rw [h.is]; exact (Below.refl _ _).alloc (Nat.le_refl _) _
theorem New.size {w w' : World} {e : TypeId} {cs : List Value} (h : New w w' e cs) : w'.heap.size = w.heap.size + 1 := by rw [h.is]; simp
theorem New.block {w w' : World} {e : TypeId} {cs : List Value} (h : New w w' e cs) : w'.heap[w.heap.size]? = some (.cells cs.toArray e (0, 0)) := by rw [h.is]; exact heap_alloc_new w _
theorem New.cell {w w' : World} {e : TypeId} {cs : List Value} (h : New w w' e cs) {j : Nat} {u : Value} (hu : cs[j]? = some u) : w'.cell? ⟨w.heap.size, j, none⟩ = some u := by
  rw [h.is, World.cell?_alloc_new]; simpa using hu
theorem New.cell0 {w w' : World} {e : TypeId} {u : Value} {cs : List Value} (h : New w w' e (u :: cs)) : w'.cell? ⟨w.heap.size, 0, none⟩ = some u := h.cell rfl

section
variable {P : Program} {t : Fr} {w : World} {K : VK} {Q : EP}

theorem boxK_of {e : TypeId} {v : Value} {p} (k : ∀ w', New w w' e (cellsL v) → K (.pointer (some ⟨w.heap.size, 0, none⟩)) w') : boxK e v w K p :=
  k _ ⟨by rw [← cellsL_eq]⟩

/-- The cells of a literal's parts. -/
def partCells : List (Nat × Value) → List Value
  | [] => []
  | (_, v) :: r => cellsL v ++ partCells r
theorem partCells_nil : partCells [] = [] := (rfl)
theorem partCells_cons (i v r) : partCells ((i, v) :: r) = cellsL v ++ partCells r := (rfl)

/-- The parts stand in order, each of k cells. -/
def partsOk (k : Nat) : Nat → List (Nat × Value) → Bool
  | _, [] => true
  | i, (j, v) :: r => i == j && sizeOk (cellsL v) k && partsOk k (i + 1) r

theorem fill_row (k : Nat) : ∀ (parts : List (Nat × Value)) (i : Nat) (l1 l2 : List Value), partsOk k i parts = true → l1.length = i * k → l2.length = parts.length * k →
    Instr.fill (fun i => some (i * k, k)) (l1 ++ l2).toArray parts = some (l1 ++ partCells parts).toArray
  | [], i, l1, l2, _, _, h2 => by
    have : l2 = [] := List.eq_nil_of_length_eq_zero (by simpa using h2)
    simp [Instr.fill, partCells, this]
  | (j, v) :: r, i, l1, l2, h, h1, h2 => by
    simp only [partsOk, Bool.and_eq_true, beq_iff_eq] at h
    obtain ⟨⟨rfl, hs⟩, hr⟩ := h
    have h3 := sizeOk_spec _ _ hs
    have h4 : v.cells.size = k := by rw [← h3, ← cellsL_eq, Array.length_toList]
    simp only [List.length_cons, Nat.add_mul, Nat.one_mul] at h2
    simp only [Instr.fill]
    rw [if_neg (by simp [h4, h1]; omega)]
    have e1 : (v.cells.zipIdx.foldl (fun cs (x : Value × Nat) => match x with | (c, j) => cs.setIfInBounds (i * k + j) c) (l1 ++ l2).toArray) = ((l1 ++ cellsL v) ++ l2.drop k).toArray := by
      apply Array.ext'
      rw [← Array.foldl_toList]
      have : ∀ (ps : List (Value × Nat)) (a : Array Value), (ps.foldl (fun cs (x : Value × Nat) => match x with | (c, j) => cs.setIfInBounds (i * k + j) c) a).toList = ps.foldl (fun a p => a.set (i * k + p.2) p.1) a.toList := by
        intro ps
        induction ps with
        | nil => intro a; rfl
        | cons p ps ih => intro a; simp only [List.foldl_cons, ih, Array.toList_setIfInBounds]
      rw [this, Array.toList_zipIdx, cellsL_eq]
      have h5 := splice_fold (cellsL v) (i * k) 0 (l1 ++ l2)
      rw [Nat.add_zero] at h5
      rw [h5, ← h1]
      have sp1 : ∀ (cs l : List Value), cs.length ≤ l.length → splice l 0 cs = cs ++ l.drop cs.length := by
        intro cs
        induction cs with
        | nil => intro l _; cases l <;> simp [splice]
        | cons c cs ih => intro l hl; cases l with
          | nil => simp at hl
          | cons x l => simp only [splice, List.cons_append, List.length_cons, List.drop_succ_cons]; rw [ih l (by simpa using hl)]
      have sp2 : ∀ (a b cs : List Value), splice (a ++ b) a.length cs = a ++ splice b 0 cs := by
        intro a
        induction a with
        | nil => intro b cs; rfl
        | cons x a ih => intro b cs; simp only [List.cons_append, List.length_cons, splice, ih]
      rw [sp2, sp1 _ _ (by omega), h3]
      simp
    rw [e1, fill_row k r (i + 1) (l1 ++ cellsL v) (l2.drop k) hr (by simp [h1, h3, Nat.add_mul]) (by simp; omega)]
    simp [partCells]

theorem rowK {bt e : TypeId} {k bytes n : Nat} {parts : List (Nat × Value)} {p} (hE : elI P bt = some (e, k, bytes)) (hp : partsOk k 0 parts = true) (hl : parts.length = n) (hn : n * k ≤ 16777216)
    (kk : ∀ w', New w w' e (partCells parts) → K (.slice (some ⟨w.heap.size, 0, none⟩) n n) w') : valK P (Instr.buildSlice bt n parts.toArray) t w K Q p := by
  obtain ⟨hu, i, z, hi, hz, rfl, rfl, hzs, hk, _⟩ := elI_spec hE
  refine valK_of (w' := w.alloc (.cells (partCells parts).toArray e)) ?_ (kk _ ⟨rfl⟩)
  have hf := fun (l2 : List Value) (h2 : l2.length = parts.length * i.size) => fill_row i.size parts 0 [] l2 hp (by simp) h2
  simp only [List.nil_append] at hf
  have hf' := hf ((Array.range (n * i.size)).map (z.cells[· % z.cells.size]!)).toList (by simp [hl])
  simp only [Array.toArray_toList] at hf'
  by_cases h0 : n * i.size = 0
  · have hn0 : n = 0 := by rcases Nat.mul_eq_zero.1 h0 with h | h <;> omega
    subst hn0
    have : parts = [] := List.eq_nil_of_length_eq_zero hl
    subst this
    simp [Instr.buildSlice, run_underlying hu, sizeOf, typeInfo, hi, Instr.fill, newRow, partCells, Array.range_zero']
  · simp [Instr.buildSlice, run_underlying hu, sizeOf, typeInfo, hi, zeroValue, hz, h0, show ¬ 16777216 < n * i.size by omega, hf', newRow]

theorem strK_nil {s d e : TypeId} {n c : Nat} {p} (hs : P.underlying s = some (.slice e)) (he : P.underlying e = some (.int .u8)) (hd : P.underlying d = some .string) (k : K (str []) w) : valK P (convert s d (.slice none n c)) t w K Q p :=
  valK_of (run_convert_bytes_nil w s e hs he n c d hd) k

/-- Bytes as a string. -/
def encB (b : UInt8) : List Value := [.int .u8 b.toNat]

theorem strK {s d e : TypeId} {v : Value} {l : List UInt8} {X : Nat → Prop} {p} (hs : P.underlying s = some (.slice e)) (he : P.underlying e = some (.int .u8)) (hd : P.underlying d = some .string) (hl : Sl X 1 (En encB) w v l) (k : K (str l) w) :
    valK P (convert s d v) t w K Q p := by
  obtain ⟨a, c, rfl, hc, h⟩ := hl
  by_cases h0 : l = []
  · subst h0
    cases a with
    | none => exact strK_nil hs he hd k
    | some a =>
      refine valK_of ?_ k
      rw [run_convert_bytes_string w s d e _ _ c hs he hd, run_bytesToString w a _ c [] (by rfl)]
      rfl
  · obtain ⟨x, l', rfl⟩ := List.exists_cons_of_ne_nil h0
    obtain ⟨b, o, cs, rfl, _, _, _, _⟩ := h 0 x rfl
    have hcell : ∀ i, i < (x :: l').length → w.cell? ⟨b, o + i, none⟩ = some (.int .u8 (((x :: l').map fun b => (b.toNat : Int)).getD i 0)) := by
      intro i hi
      obtain ⟨b', o', cs, hb', _, _, hcc, rfl⟩ := h i (x :: l')[i] (by simp)
      cases hb'
      have := hcc 0 _ rfl
      rw [Nat.mul_one, Nat.add_zero] at this
      rw [this, List.getD_eq_getElem?_getD, List.getElem?_map, List.getElem?_eq_getElem hi]
      rfl
    have hr := run_convert_bytes_arg (P := P) w s e hs he b o (x :: l').length c ((x :: l').map fun b => (b.toNat : Int)) (by simp) hcell d hd
    refine valK_of hr ?_
    have e2 : Value.string (strOfNums ((x :: l').map fun b => (b.toNat : Int))) = str (x :: l') := by
      simp only [str, strOfNums]
      congr 3
      rw [List.map_map]
      conv => rhs; rw [← List.map_id (x :: l')]
      apply List.map_congr_left
      intro b _
      simp
    rw [e2]; exact k
end
attribute [push_cast] partCells_nil partCells_cons Nat.add_zero Nat.mul_one
end Go.Vc
end

section
set_option linter.unusedSimpArgs false
set_option linter.unusedVariables false
namespace Cae
end Cae
namespace Go.Vc
open Go.RowKit

theorem strlit (l : List UInt8) : Value.string ⟨l.toArray⟩ = str l := (rfl)

section
variable {P : Program} {t : Fr} {w : World} {K : VK} {Q : EP} {other : Prop}

theorem sliceK_hi (e e' : TypeId) (k b o n c : Nat) (kk : IntKind) (i : Int) (L : VP) (other : Prop) (p) : sliceK (some (.slice e)) (some (e', k)) (.slice (some ⟨b, o, none⟩) n c) none (some (.int kk i)) none L other p = ((0 ≤ i ∧ i ≤ c) ∧ L (.slice (some ⟨b, o, none⟩) i.toNat c)) := by
  simp only [sliceK, natAt, Option.map_some, Int.toNat_natCast, Nat.zero_mul, add_lit, Nat.add_zero, Nat.sub_zero, ite_self, Int.natCast_zero, Int.toNat_zero, Int.le_refl, true_and]

/-! ### A method that is called through an interface value -/
def invK (P : Program) (recv : Value) (m : String) (args : List Value) (t : Fr) (w : World) (K : VK) (Q : EP) (_ : Ph (K, Q)) : Prop := resK P t K Q ((callMethod recv m args.toArray).run P w)

theorem opK_invoke (d r m) (args : List Operand) (aty ty pos af g) (p) : opK P ⟨d, .call { callee := .invoke r m, args := args.toArray, argTypes := aty }, ty, pos, af, g⟩ t w K Q p =
    invK P (ev t r) m (args.map (ev t)) t w K Q .mk := by
  simp only [opK, pureK, runK, invK]
  unfold execOp
  simp only [resolve, Sem.run_bind, Sem.run_pure, Result.andThen_ok, invoke]
  have e1 : (#[ev t r] ++ args.toArray.map (ev t))[0]? = some (ev t r) := by simp
  have e2 : (#[ev t r] ++ args.toArray.map (ev t)).extract 1 (#[ev t r] ++ args.toArray.map (ev t)).size = (args.map (ev t)).toArray := by
    apply Array.ext'
    simp [List.take_of_length_le]
  rw [e1, e2]

theorem invK_of {ty : TypeId} {v : Value} {m : String} {args : List Value} {f : FuncId} {r : Value} {p} (hm : (method (P.types.size + Made.depth) ty v m).run P w = .ok (f, r) w) (h : callK P f (r :: args) t w K Q .mk) : invK P (.iface ty v) m args t w K Q p := by
  unfold invK callMethod
  simp only [Sem.run_bind, program, Sem.run, Result.andThen_ok, hm]
  unfold callK at h
  have e : (#[r] ++ args.toArray) = (r :: args).toArray := by apply Array.ext'; simp
  rw [e]
  exact h

/-- A function of Go's library that the model answers itself. -/
theorem callK_ext {f : FuncId} {fn : Func} {e : Array Value → Sem Value} {args : List Value} {v : Value} {w' : World} {p} (hf : P.funcs[f]? = some fn) (hname : (fn.name == "runtime.NumGoroutine") = false)
    (hb : fn.body.isNone = true) (hn : Extern.findNext fn = none) (he : Extern.find fn = some e) (hr : (e args.toArray).run P w = .ok v w') (k : K v w') : callK P f args t w K Q p := by
  unfold callK
  rw [run_callFunc_extern hf hname hb hn he, hr]
  exact k

theorem nilK_some (a : Addr) (L : VP) (p) : nilK (.pointer (some a)) L other p = L (.pointer (some a)) := (rfl)
theorem opK_nilCheck (d x ty pos af g) (p) : opK P ⟨d, .nilCheck x, ty, pos, af, g⟩ t w K Q p = nilK (ev t x) (K · w) (runK P ⟨d, .nilCheck x, ty, pos, af, g⟩ t w K Q .mk) .mk := by
  unfold nilK
  split
  · rename_i a h
    simp only [opK, pureK, runK]
    unfold execOp
    simp only [h]
    rfl
  · rfl
section
variable {C : World → Prop}
theorem mixK_nilCheck (d x ty pos af g) (p) : mixK P ⟨d, .nilCheck x, ty, pos, af, g⟩ t w C K p = nilK (ev t x) (K · w) False .mk := (rfl)
theorem mixK_invoke (d r m) (args : Array Operand) (aty ty pos af g) (p) : mixK P ⟨d, .call { callee := .invoke r m, args := args, argTypes := aty }, ty, pos, af, g⟩ t w C K p =
    opK P ⟨d, .call { callee := .invoke r m, args := args, argTypes := aty }, ty, pos, af, g⟩ t w (fun v w' => C w' ∧ K v w') noQ .mk := (rfl)
theorem mixK_alloc (d e ty pos af g) (p) : mixK P ⟨d, .alloc e, ty, pos, af, g⟩ t w C K p = opK P ⟨d, .alloc e, ty, pos, af, g⟩ t w (fun v w' => C w' ∧ K v w') noQ .mk := (rfl)
theorem mixK_iface (d xt x ty pos af g) (p) : mixK P ⟨d, .makeInterface xt x, ty, pos, af, g⟩ t w C K p =
    ifaceK (if (P.underlying xt).isSome then eqKind P xt else 1) xt (ev t x) (K · w) False .mk := (rfl)
theorem mixK_makeSlice (d bt l c ty pos af g) (p) : mixK P ⟨d, .makeSlice bt l c, ty, pos, af, g⟩ t w C K p = opK P ⟨d, .makeSlice bt l c, ty, pos, af, g⟩ t w (fun v w' => C w' ∧ K v w') noQ .mk := (rfl)
theorem mixK_typeAssert (d x xt at_ ok ty pos af g) (p) : mixK P ⟨d, .typeAssert x xt at_ ok, ty, pos, af, g⟩ t w C K p = opK P ⟨d, .typeAssert x xt at_ ok, ty, pos, af, g⟩ t w (fun v w' => C w' ∧ K v w') noQ .mk := (rfl)
theorem mixK_makeFunc (d fn) (a c : List Operand) (ty pos af g) (p) : mixK P ⟨d, .makeFunc fn a.toArray c.toArray, ty, pos, af, g⟩ t w C K p = K (.func fn (a.map (ev t)).toArray (c.map (ev t)).toArray) w := by
  simp [mixK, pureK, chain]
end

/-! ### Frames -/
/-- The blocks that stood, but for those of X, are as they were. -/
structure Kept (X : Nat → Prop) (w w' : World) : Prop where
  os : w'.os = w.os
  tape : w'.tape = w.tape
  output : w'.output = w.output
  size : w.heap.size ≤ w'.heap.size
  block : ∀ k, k < w.heap.size → ¬ X k → w'.heap[k]? = w.heap[k]?

theorem Kept.refl (X : Nat → Prop) (w : World) : Kept X w w := ⟨rfl, rfl, rfl, Nat.le_refl _, fun _ _ _ => rfl⟩
theorem Kept.trans {X Y : Nat → Prop} {a b c : World} (h : Kept X a b) (k : Kept Y b c) (hY : ∀ i, i < a.heap.size → Y i → X i) : Kept X a c :=
  ⟨k.os.trans h.os, k.tape.trans h.tape, k.output.trans h.output, Nat.le_trans h.size k.size, fun i hi hx => (k.block i (Nat.lt_of_lt_of_le hi h.size) (fun hh => hx (hY i hi hh))).trans (h.block i hi hx)⟩
theorem Kept.weaken {X Y : Nat → Prop} {a b : World} (h : Kept X a b) (hY : ∀ i, i < a.heap.size → X i → Y i) : Kept Y a b := ⟨h.os, h.tape, h.output, h.size, fun i hi hx => h.block i hi fun hh => hx (hY i hi hh)⟩
theorem Kept.below {X : Nat → Prop} {a b : World} (h : Kept X a b) {B : Nat} (hB : B ≤ a.heap.size) (hX : ∀ i, X i → B ≤ i) : Below B a b := ⟨h.os, h.tape, h.output, h.size, fun i hi => h.block i (by omega) fun hh => by have := hX i hh; omega⟩
theorem Kept.of_below {B : Nat} {a b : World} (h : Below B a b) {X : Nat → Prop} (hX : ∀ i, B ≤ i → i < a.heap.size → X i) : Kept X a b := ⟨h.os, h.tape, h.output, h.size, fun i hi hx => h.block i (Classical.byContradiction fun hh => hx (hX i (by omega) hi))⟩
theorem Kept.new {X : Nat → Prop} {a b : World} {e : TypeId} {cs : List Value} (h : New a b e cs) : Kept X a b := Kept.of_below h.below fun i hi hh => by omega
theorem Kept.drew {X : Nat → Prop} {a w : World} (h : Kept X a w) : Kept X a w.drew := ⟨h.os, h.tape, h.output, h.size, h.block⟩
theorem Kept.grown {a b : World} {row : Option Nat} (h : a.grownBy b row) {X : Nat → Prop} (hX : ∀ k, row = some k → X k) : Kept X a b := ⟨h.os, h.tape, h.output, h.size, fun i hi hx => h.block i hi fun hh => hx (hX i hh.symm)⟩
theorem Kept.cell {X : Nat → Prop} {a b : World} (h : Kept X a b) {p : Addr} {v : Value} (hv : a.cell? p = some v) (hX : ¬ X p.block) : b.cell? p = some v :=
  (World.cell?_of_block (h.block p.block (World.block_lt_of_cell? a p hv) hX)).trans hv

theorem Sl.kept {α : Type} {X Y : Nat → Prop} {k : Nat} {R : List Value → α → Prop} {w w' : World} {v : Value} {l : List α} (h : Sl X k R w v l) (hb : Kept Y w w') (hY : ∀ i, Y i → X i) : Sl X k R w' v l :=
  h.mono (fun b hb' hlt => hb.block b hlt fun hh => hb' (hY b hh)) (fun _ _ _ h => h) (fun _ h => h)

/-! ### Blocks that the call knows whole -/
def Blk (w : World) (b : Nat) (e : TypeId) (cs : List Value) : Prop := w.heap[b]? = some (.cells cs.toArray e (0, 0))

theorem Blk.lt {w : World} {b : Nat} {e : TypeId} {cs : List Value} (h : Blk w b e cs) : b < w.heap.size := (Array.getElem?_eq_some_iff.1 h).1
theorem Blk.cell {w : World} {b : Nat} {e : TypeId} {cs : List Value} (h : Blk w b e cs) {o : Nat} {u : Value} (hu : cs[o]? = some u) : w.cell? ⟨b, o, none⟩ = some u := by
  rw [cell_of_row w b o _ e (0, 0) h]; simpa using hu
theorem Blk.kept {X : Nat → Prop} {w w' : World} {b : Nat} {e : TypeId} {cs : List Value} (h : Blk w b e cs) (hk : Kept X w w') (hX : ¬ X b) : Blk w' b e cs := (hk.block b h.lt hX).trans h
theorem Blk.below {B : Nat} {w w' : World} {b : Nat} {e : TypeId} {cs : List Value} (h : Blk w b e cs) (hk : Below B w w') (hX : b < B) : Blk w' b e cs := (hk.block b hX).trans h
theorem Blk.drew {w : World} {b : Nat} {e : TypeId} {cs : List Value} (h : Blk w b e cs) : Blk w.drew b e cs := h
theorem New.blk {w w' : World} {e : TypeId} {cs : List Value} (h : New w w' e cs) : Blk w' w.heap.size e cs := h.block

/-- A store has been made. -/
structure Put (w w' : World) (b : Nat) (e : TypeId) (cs : List Value) : Prop where
  blk : Blk w' b e cs
  kept : Kept (· = b) w w'
  size : w'.heap.size = w.heap.size

theorem Put.of_setRow {w : World} {b : Nat} {e : TypeId} {cs0 cs : List Value} (h : Blk w b e cs0) : Put w (w.setRow b cs.toArray) b e cs :=
  ⟨setRow_heap w b _ _ e _ h, ⟨rfl, rfl, rfl, by simp, fun k _ hk => setRow_other w b k _ hk⟩, by simp⟩

theorem storeK_of {b o : Nat} {e : TypeId} {cs : List Value} {v : Value} {p} (hB : Blk w b e cs) (ho : o < cs.length) (h1 : oneCell v = true) (kk : ∀ w', Put w w' b e (cs.set o v) → K undef w') :
    storeK (some none) (.pointer (some ⟨b, o, none⟩)) v w K other p := by
  refine ⟨h1, by rw [hB.cell (List.getElem?_eq_getElem ho)]; rfl, ?_, kk _ ?_⟩
  · simp only [World.frozen?]
    rw [show w.heap[b]? = _ from hB]
    simp
  · rw [setCell_eq_setRow w b o _ e (0, 0) v hB, List.setIfInBounds_toArray]
    exact Put.of_setRow hB

theorem storeK_many (n : Nat) (a v : Value) (p) : storeK (some (some n)) a v w K other p = other := (rfl)

theorem storeAgg {xt : TypeId} {b o n : Nat} {e : TypeId} {cs0 cs : List Value} (hty : tyK P xt = some (some n)) (hB : Blk w b e cs0) (hn : cs.length = n) (ho : o + n ≤ cs0.length) (h1 : ∀ v ∈ cs, v.oneCell' = true)
    (kk : ∀ w', Put w w' b e (cs0.take o ++ cs ++ cs0.drop (o + n)) → K undef w') : unitK P (Instr.storeAt xt (.pointer (some ⟨b, o, none⟩)) (.agg cs.toArray)) t w K Q .mk := by
  have := run_storeCells_at P b o e cs 0 cs0.toArray w hB (by simp; omega) h1
  simp only [Nat.add_zero, List.size_toArray] at this
  refine unitK_of (w' := w.setRow b (cs0.take o ++ cs ++ cs0.drop (o + n)).toArray) ?_ (kk _ (Put.of_setRow hB))
  subst hn
  simp only [Instr.storeAt, Instr.sureAddr, Sem.run_bind, Sem.run_pure, Result.andThen_ok, storeVar, (tyK_many hty w).2, Value.cells, List.size_toArray, ne_eq, not_true_eq_false, if_false, this]

theorem allocK {e : TypeId} {z : List Value} {p} (hz : (P.info? e).bind (fun i => i.zero.map cellsL) = some z) (kk : ∀ w', New w w' e z → K (.pointer (some ⟨w.heap.size, 0, none⟩)) w') : valK P (Instr.alloc e true (.tuple #[])) t w K Q p := by
  obtain ⟨i, hi, hz⟩ := Option.bind_eq_some_iff.1 hz
  obtain ⟨v, hv, rfl⟩ := Option.map_eq_some_iff.1 hz
  refine valK_of (w' := w.alloc (.cells (cellsL v).toArray e)) ?_ (kk _ ⟨rfl⟩)
  rw [← cellsL_eq]
  simp [Instr.alloc, zeroValue, typeInfo, hi, hv, newVar, newRow]

/-! ### What hands back variables -/
def retL (P : Program) (t : Fr) (w : World) : List ResultVar → (List Value → Prop) → Prop
  | [], k => k []
  | .tmp i :: r, k => retL P t w r fun vs => k (t.getD i undef :: vs)
  | .cell a ty :: r, k => loadK (tyK P ty) (t.getD a undef) w (fun v _ => retL P t w r fun vs => k (v :: vs)) .mk

def retC (P : Program) (rs : List ResultVar) (R : VK) (_ : Ph R) : EP
  | .normal, t, w => retL P t w rs fun vs => R (tup vs) w
  | .ret, t, w => retL P t w rs fun vs => R (tup vs) w
  | _, _, _ => False
theorem retC_ret (rs) (R : VK) (p) : retC P rs R p .ret t w = retL P t w rs fun vs => R (tup vs) w := (rfl)
theorem retC_normal (rs) (R : VK) (p) : retC P rs R p .normal t w = retL P t w rs fun vs => R (tup vs) w := (rfl)
theorem retL_nil (k : List Value → Prop) : retL P t w [] k = k [] := (rfl)
theorem retL_tmp (i) (r) (k : List Value → Prop) : retL P t w (.tmp i :: r) k = retL P t w r fun vs => k (t.getD i undef :: vs) := (rfl)
theorem retL_cell (a ty) (r) (k : List Value → Prop) : retL P t w (.cell a ty :: r) k = loadK (tyK P ty) (t.getD a undef) w (fun v _ => retL P t w r fun vs => k (v :: vs)) .mk := (rfl)

theorem loadVar_run {ty : TypeId} {a : Value} {w : World} {k : VK} (h : loadK (tyK P ty) a w k .mk) : ∃ ad v, a = .pointer (some ad) ∧ (loadVar ty ad).run P w = .ok v w ∧ k v w := by
  unfold loadK at h
  split at h
  · rename_i ad ht
    obtain ⟨v, hc, hk⟩ := optK_elim h
    exact ⟨ad, v, rfl, by simp [loadVar, (tyK_one ht w).1, load, Sem.run, hc], hk⟩
  · rename_i n ad ht
    obtain ⟨v, hc, hk⟩ := optK_elim h
    exact ⟨ad, _, rfl, by simp [loadVar, (tyK_many ht w).1, (tyK_many ht w).2, loadCells, run_loadCellsFrom (P := P) w ad n 0 #[] v hc], hk⟩
  · exact h.elim

/-- Results of which some stand in cells are read one by one by any 'g' that reads them. -/
theorem retL_run (g : ResultVar → Sem Value) (h1 : ∀ i, (g (.tmp i)).run P w = .ok (t.getD i undef) w) (h2 : ∀ a ty ad v, t.getD a undef = .pointer (some ad) → (loadVar ty ad).run P w = .ok v w → (g (.cell a ty)).run P w = .ok v w) : ∀ (rs : List ResultVar) (k : List Value → Prop), retL P t w rs k → ∃ vs, (List.mapM g rs).run P w = .ok vs w ∧ k vs
  | [], k, h => ⟨[], rfl, h⟩
  | .tmp i :: r, k, h => by
    obtain ⟨vs, h3, h4⟩ := retL_run g h1 h2 r _ h
    refine ⟨_, ?_, h4⟩
    simp only [List.mapM_cons, Sem.run_bind, Sem.run_pure, Result.andThen_ok, h1, h3]
  | .cell a ty :: r, k, h => by
    obtain ⟨ad, v, ha, hl, h⟩ := loadVar_run h
    obtain ⟨vs, h3, h4⟩ := retL_run g h1 h2 r _ h
    refine ⟨_, ?_, h4⟩
    simp only [List.mapM_cons, Sem.run_bind, Sem.run_pure, Result.andThen_ok, h2 _ _ _ _ ha hl, h3]
theorem mapM_retL (g : ResultVar → Sem Value) (h1 : ∀ i, (g (.tmp i)).run P w = .ok (t.getD i undef) w) (h2 : ∀ a ty ad v, t.getD a undef = .pointer (some ad) → (loadVar ty ad).run P w = .ok v w → (g (.cell a ty)).run P w = .ok v w) (rs : List ResultVar) (k : List Value → Prop) (h : retL P t w rs k) : ∃ vs, (Array.mapM g rs.toArray).run P w = .ok vs.toArray w ∧ k vs := by
  obtain ⟨vs, h3, h4⟩ := retL_run g h1 h2 rs k h
  refine ⟨vs, ?_, h4⟩
  rw [List.mapM_toArray, map_eq_pure_bind]
  simp only [Sem.run_bind, h3, Result.andThen_ok, Sem.run_pure]

theorem then_retL (g : ResultVar → Sem Value) (F : Array Value → World → Result Value) (h1 : ∀ i, (g (.tmp i)).run P w = .ok (t.getD i undef) w) (h2 : ∀ a ty ad v, t.getD a undef = .pointer (some ad) → (loadVar ty ad).run P w = .ok v w → (g (.cell a ty)).run P w = .ok v w) (hF : ∀ vs : List Value, F vs.toArray w = .ok (tup vs) w) (rs : List ResultVar) (k : List Value → Prop) (h : retL P t w rs k) : ∃ vs, ((Array.mapM g rs.toArray).run P w).andThen F = .ok (tup vs) w ∧ k vs := by
  obtain ⟨vs, h3, h4⟩ := mapM_retL g h1 h2 rs k h
  exact ⟨vs, by rw [h3, Result.andThen_ok, hF], h4⟩

theorem resultsC_run (fn : Func) (rs : List ResultVar) (h : fn.results = rs.toArray) (t : Fr) (k : List Value → Prop) (hl : retL P t w rs k) : ∃ vs, (results fn t.toArray).run P w = .ok (tup vs) w ∧ k vs := by
  unfold results
  rw [h, Sem.run_bind]
  refine then_retL (t := t) _ _ ?_ ?_ ?_ rs k hl
  · intro i
    simp [List.getD_eq_getElem?_getD, Array.getD_eq_getD_getElem?]
  · intro a ty ad v ha hl
    have ha' : t.toArray.getD a undef = .pointer (some ad) := by rw [← ha]; simp [List.getD_eq_getElem?_getD, Array.getD_eq_getD_getElem?]
    have hA : asAddr (t.toArray.getD a undef) = pure ad := by rw [ha']; rfl
    simp only [hA, Sem.run_bind, Sem.run_pure, Result.andThen_ok, hl]
  · intro vs
    rw [Sem.run_pure]
    congr 1
    match vs with
    | [] => rfl
    | [a] => rfl
    | a :: b :: l => simp [tup]

theorem fun_of_vcC {f : FuncId} {fn : Func} {c : Code} {args : List Value} {R : VK} (hf : P.funcs[f]? = some fn) (hb : fn.body = some c) (hn : (fn.name == "runtime.NumGoroutine") = false)
    (rs : List ResultVar) (hrs : fn.results = rs.toArray) (h : vc P c (retC P rs R .mk) (fr0 args fn.ntmps) w .mk) : Fun P f args w R := by
  refine ⟨callFunc_enter hf (by simp [hb]) hn, calls_of_wp hf hb ?_⟩
  have h1 := vc_ok c _ _ w h
  unfold wpL at h1
  have e : (args.toArray ++ Array.replicate (fn.ntmps - args.toArray.size) undef) = (fr0 args fn.ntmps).toArray := by simp [fr0]
  rw [e]
  refine Code.wp_mono ?_ h1
  rintro e a w' ⟨hd, hh⟩
  have ha : a.tmps.toList.toArray = a.tmps := by simp
  cases e <;> simp only [retC] at hh <;> first | exact hh.elim | skip
  · obtain ⟨vs, hv, hk⟩ := resultsC_run fn rs hrs _ _ hh
    exact ⟨hd, _, by rw [← ha]; exact hv, _, rfl, hk⟩
  · obtain ⟨vs, hv, hk⟩ := resultsC_run fn rs hrs _ _ hh
    exact ⟨hd, _, by rw [← ha]; exact hv, _, rfl, hk⟩

/-! ### Appending to what the call owns -/
theorem appendK2 {α : Type} {bt ty e : TypeId} {k bytes base n : Nat} {enc : α → List Value} {v : Value} {l : List α} (ys : List α) {b o c : Nat} {p} (hE : elI P bt = some (e, k, bytes)) (hown : Own base e k enc w v l) (hn : ys.length = n)
    (hy : ∀ j u, (ys.flatMap enc)[j]? = some u → w.cell? ⟨b, o + j, none⟩ = some u) (h1 : ∀ x, ∀ u ∈ enc x, u.oneCell' = true)
    (hm : (l.length + ys.length) * bytes ≤ 140737488355328) (hbase : base ≤ w.heap.size)
    (kk : ∀ v' w', Own base e k enc w' v' (l ++ ys) → w.grownBy w' v.ownBlock → (∀ g, v'.ownBlock = some g → v.ownBlock = some g ∨ w.heap.size ≤ g) → K v' w') : valK P (Builtin.append_ #[bt, bt] ty [v, .slice (some ⟨b, o, none⟩) n c].toArray) t w K Q p := by
  subst hn
  obtain ⟨hu, i, z, hi, hz, rfl, rfl, hzs, hk, hby⟩ := elI_spec hE
  have hlen : ∀ (ys : List α), (ys.flatMap enc).length = ys.length * i.size := by
    intro ys
    induction ys with
    | nil => simp
    | cons y ys ih => simp [List.flatMap_cons, hown.2, ih, Nat.add_mul]; omega
  have hle : l.length + ys.length ≤ 140737488355328 := Nat.le_trans (Nat.le_mul_of_pos_right _ hby) hm
  have hy' : ∀ j u, (ys.flatMap enc)[j]? = some u → w.cell? ((⟨b, o, none⟩ : Addr).add j) = some u := fun j u hj => by rw [add_lit]; exact hy j u hj
  have h1' : ∀ u ∈ ys.flatMap enc, u.oneCell' = true := fun u hu' => by obtain ⟨x, _, hx⟩ := List.mem_flatMap.1 hu'; exact h1 x u hx
  obtain ⟨v', w', hr, ho, hg, _⟩ := run_append_own (P := P) w base bt ty e i z i.size i.bytes hu hi hz rfl rfl hzs hk v l.length (l.flatMap enc) hown.1 ⟨b, o, none⟩ ys.length c (ys.flatMap enc) (hlen ys)
    hy' h1' (by simp only [maxLen]; omega) hm hbase
  refine valK_of hr (kk v' w' ⟨by simpa [List.flatMap_append] using ho, hown.2⟩ hg ?_)
  intro g' hg'
  rcases hown.1.2 with ⟨rfl, h0⟩ | ⟨g, cap, cur, rfl, hbg, hgg, hnc, hcm, hcs, htake⟩
  · have hl : l = [] := List.eq_nil_of_length_eq_zero h0
    subst hl
    have hown' : w.ownsRow w.heap.size e i.size (.slice none 0 0) 0 [] := World.ownsRow_nil _ _ _ _
    obtain ⟨v2, w2, hr2, ho2, _, _⟩ := run_append_own (P := P) w w.heap.size bt ty e i z i.size i.bytes hu hi hz rfl rfl hzs hk _ 0 [] hown' ⟨b, o, none⟩ ys.length c (ys.flatMap enc) (hlen ys)
      hy' h1' (by simp only [maxLen]; omega) (by simpa using hm) (Nat.le_refl _)
    have := hr.symm.trans hr2
    cases this
    exact .inr (ho2.lt g' hg').1
  · by_cases hroom : l.length + ys.length ≤ cap
    · obtain ⟨w2, hr2, _⟩ := run_append_fits (P := P) (w := w) base bt ty e i i.size hu hi rfl g l.length cap (l.flatMap enc) hown.1 ⟨b, o, none⟩ ys.length c (ys.flatMap enc) (hlen ys) hy' h1' hroom
      have := hr.symm.trans hr2
      cases this
      exact .inl hg'
    · have hr2 := run_append_grow (P := P) w bt ty e i z hu hi hz ⟨g, 0, none⟩ l.length cap (l.flatMap enc) hown.1.1 (hown.1.cells (g := g) rfl) ⟨b, o, none⟩ ys.length c (ys.flatMap enc) (hlen ys) hy' (by omega) (by omega) (growslice_fits (by omega) hm)
      have := hr.symm.trans hr2
      cases this
      simp only [Value.ownBlock, Option.some.injEq] at hg'
      exact .inr (by omega)

theorem Own.keptX {α : Type} {base : Nat} {e : TypeId} {k : Nat} {enc : α → List Value} {X : Nat → Prop} {w w' : World} {v : Value} {l : List α} (h : Own base e k enc w v l) (hb : Kept X w w') (hX : ∀ g, v.ownBlock = some g → ¬ X g) : Own base e k enc w' v l := by
  refine ⟨⟨h.1.1, ?_⟩, h.2⟩
  rcases h.1.2 with hn | ⟨g, cap, cur, rfl, hbg, hgg, rest⟩
  · exact .inl hn
  · refine .inr ⟨g, cap, cur, rfl, hbg, ?_, rest⟩
    rw [hb.block g (Array.getElem?_eq_some_iff.1 hgg).1 (hX g rfl)]
    exact hgg
theorem Own.new {α : Type} {base : Nat} {e : TypeId} {k : Nat} {enc : α → List Value} {w w' : World} {v : Value} {l : List α} {e' : TypeId} {cs : List Value} (h : Own base e k enc w v l) (hn : New w w' e' cs) : Own base e k enc w' v l := h.below hn.below
theorem Own.block {α : Type} {base : Nat} {e : TypeId} {k : Nat} {enc : α → List Value} {w : World} {v : Value} {l : List α} (h : Own base e k enc w v l) : ∀ g, v.ownBlock = some g → base ≤ g ∧ g < w.heap.size := h.1.lt

theorem assert_lacks {ty xT I : TypeId} {v z : Value} {want} {p} (hu : P.underlying I = some (.interface want)) (h : (P.info? ty).map (fun i => (lacking want i.methods).isEmpty) = some false) (hz : (P.info? I).map (·.zero) = some (some z)) (k : K (.tuple #[z, .bool false]) w) :
    valK P (Instr.typeAssert (.iface ty v) xT I true) t w K Q p := valK_of (run_typeAssert_lacksB hu h hz v xT w) k
theorem assert_has {ty xT I : TypeId} {v : Value} {want} {p} (hu : P.underlying I = some (.interface want)) (h : (P.info? ty).map (fun i => (lacking want i.methods).isEmpty) = some true) (k : K (.tuple #[.iface ty v, .bool true]) w) :
    valK P (Instr.typeAssert (.iface ty v) xT I true) t w K Q p := valK_of (run_typeAssert_hasB hu h v xT w) k
end
attribute [push_cast] Bool.false_or Bool.or_true nilK_some opK_nilCheck mixK_nilCheck mixK_invoke mixK_alloc mixK_iface mixK_makeSlice mixK_typeAssert mixK_makeFunc strlit sliceK_hi opK_invoke storeK_many retC_ret retC_normal retL_nil retL_tmp retL_cell
end Go.Vc
end

section
set_option linter.unusedSimpArgs false
set_option linter.unusedVariables false
namespace Go.Vc
open Go.RowKit

/-- A literal's block is the call's own. -/
theorem New.own {α : Type} {base k n : Nat} {e : TypeId} {enc : α → List Value} {w w' : World} {cs : List Value} {l : List α} (h : New w w' e cs) (hcs : cs = l.flatMap enc) (hn : l.length = n) (hk : ∀ x, (enc x).length = k) (hb : base ≤ w.heap.size) (hm : n ≤ 140737488355328) :
    Own base e k enc w' (.slice (some ⟨w.heap.size, 0, none⟩) n n) l := by
  subst hcs hn
  have hlen : (l.flatMap enc).length = l.length * k := by
    clear h hb hm
    induction l with
    | nil => simp
    | cons y ys ih => simp [List.flatMap_cons, hk, ih, Nat.add_mul]; omega
  refine ⟨⟨hlen, .inr ⟨w.heap.size, l.length, (l.flatMap enc).toArray, rfl, hb, h.block, Nat.le_refl _, by simp only [maxLen]; omega, by simp [hlen], ?_⟩⟩, hk⟩
  rw [← hlen]
  exact List.take_length
theorem Sl.getR {α : Type} {X : Nat → Prop} {k : Nat} {R : List Value → α → Prop} {w : World} {a : Option Addr} {n c : Nat} {l : List α} (h : Sl X k R w (.slice a n c) l) {i : Nat} {x : α} (hx : l[i]? = some x) :
    ∃ b o cs, a = some ⟨b, o, none⟩ ∧ ¬ X b ∧ cs.length = k ∧ (∀ j u, cs[j]? = some u → w.cell? ⟨b, o + i * k + j, none⟩ = some u) ∧ R cs x := by
  obtain ⟨a', c', he, _, h⟩ := h
  cases he
  exact h i x hx
theorem sliceK_nil_hi (e : TypeId) (e' : TypeId) (k : Nat) (kk : IntKind) (L : VP) (other : Prop) (p) : sliceK (some (.slice e)) (some (e', k)) (.slice none 0 0) none (some (.int kk 0)) none L other p = L (.slice none 0 0) := by
  simp [sliceK, natAt]
attribute [push_cast] sliceK_nil_hi
theorem Blk.cellsAt {w : World} {b : Nat} {e : TypeId} {cs : List Value} (h : Blk w b e cs) : cellsAt w ⟨b, 0, none⟩ 0 cs.length = some cs :=
  cellsAt_of cs 0 fun j u hu => by rw [Nat.zero_add, Nat.zero_add]; exact h.cell hu
end Go.Vc
end

section
set_option linter.unusedSimpArgs false
set_option linter.unusedVariables false
namespace Go.Vc
open Go.RowKit

/-! Regions that draw, where what makes memory may change places: every order is walked. -/
inductive Ord where
  | done
  | one (k : Nat) (r : Ord)
  | two (k : Nat) (r : Ord) (k' : Nat) (r' : Ord)

def ordB (P : Program) (ops : Array Oper) (bf : Array Nat) : Nat → Ord → Array Bool → Bool
  | _, .done, listed => (Region.ready .any ops listed).isEmpty
  | n + 1, .one k r, listed => (Region.ready .any ops listed).contains k && mixFree P ops bf listed k && ordB P ops bf n r (listed.setIfInBounds k true)
  | n + 1, .two k r k' r', listed => (Region.ready .any ops listed).contains k && (Region.ready .any ops listed).all (fun i => i == k || i == k') && ordB P ops bf n r (listed.setIfInBounds k true) && ordB P ops bf n r' (listed.setIfInBounds k' true)
  | _, _, _ => false

def mixT (P : Program) (ops : Array Oper) (o : Ord) : Bool := Region.noSelect ops && ordB P ops (Region.before ops) ops.size o (Array.replicate ops.size false)

section
variable {P : Program} {ops : Array Oper} {C : World → Prop}
def wpTree (P : Program) (ops : Array Oper) (C : World → Prop) (R : Act → World → Prop) : Ord → Act → World → Prop
  | .done, a, w => R a w
  | .one k r, a, w => mixOp P ops C k (wpTree P ops C R r) a w
  | .two k r k' r', a, w => mixOp P ops C k (wpTree P ops C R r) a w ∧ mixOp P ops C k' (wpTree P ops C R r') a w

theorem wpMix_tree {R : Act → World → Prop} (hs : Region.noSelect ops = true) : ∀ (o : Ord) (n : Nat) (listed : Array Bool) (a : Act) (w : World), C w → Shut ops listed →
    ordB P ops (Region.before ops) n o listed = true → wpTree P ops C R o a w → wpMix P .any ops C R n listed a w
  | .done, 0, listed, a, w, _, _, hB, h => ⟨by simpa [ordB] using hB, h⟩
  | .done, n + 1, listed, a, w, _, _, hB, h => ⟨fun _ => h, fun i hi => by
      have : Region.ready .any ops listed = [] := by simpa [ordB] using hB
      rw [this] at hi; cases hi⟩
  | .one k r, 0, _, _, _, _, _, hB, _ => by simp [ordB] at hB
  | .two .., 0, _, _, _, _, _, hB, _ => by simp [ordB] at hB
  | .one k r, n + 1, listed, a, w, hC, hS, hB, h => by
    simp only [ordB, Bool.and_eq_true] at hB
    obtain ⟨⟨hr, hf⟩, hB'⟩ := hB
    have hr' : k ∈ Region.ready .any ops listed := by simpa using hr
    obtain ⟨_, ok, hok, _⟩ := mem_ready.1 hr'
    refine wpMix_first (i := k) (oi := ok) hok (Region.noSelect_spec hs) n listed a w hC hS (mixFree_spec hok hf) hr' ?_
    exact mixOp_mono hC (fun a' w' hC' hh => wpMix_tree hs r n _ a' w' hC' (hS.set hr') hB' hh) h
  | .two k r k' r', n + 1, listed, a, w, hC, hS, hB, h => by
    simp only [ordB, Bool.and_eq_true, List.all_eq_true, Bool.or_eq_true, beq_iff_eq] at hB
    obtain ⟨⟨⟨hr, hall⟩, hB1⟩, hB2⟩ := hB
    have hr' : k ∈ Region.ready .any ops listed := by simpa using hr
    refine ⟨fun h0 => (by rw [h0] at hr'; cases hr'), fun i hi => ?_⟩
    rcases hall i hi with rfl | rfl
    · exact mixOp_mono hC (fun a' w' hC' hh => wpMix_tree hs r n _ a' w' hC' (hS.set hi) hB1 hh) h.1
    · exact mixOp_mono hC (fun a' w' hC' hh => wpMix_tree hs r' n _ a' w' hC' (hS.set hi) hB2 hh) h.2
end

section
variable {P : Program}
/-- One step of such an order. -/
def stepK (P : Program) (ops : List Oper) (C : World → Prop) (o : Option Oper) (K : Fr → World → Prop) (t : Fr) (w : World) (_ : Ph (ops, C, K)) : Prop := match o with
  | none => False
  | some o => match o.guard with
    | none => mixK P o t w C (fun v w' => K (put t o.dst v) w') .mk
    | some (j, want) => guardK (slotOf ops j) want t (fun t' => mixK P o t' w C (fun v w' => K (put t' o.dst v) w') .mk) (fun t' => K (put t' o.dst undef) w) .mk

def vcTree (P : Program) (ops : List Oper) (C : World → Prop) (R : Fr → World → Prop) : (o : Ord) → Fr → World → Ph (ops, C, R) → Prop
  | .done, t, w, _ => R t w
  | .one k r, t, w, _ => stepK P ops C ops[k]? (fun t w => vcTree P ops C R r t w .mk) t w .mk
  | .two k r k' r', t, w, _ => stepK P ops C ops[k]? (fun t w => vcTree P ops C R r t w .mk) t w .mk ∧ stepK P ops C ops[k']? (fun t w => vcTree P ops C R r' t w .mk) t w .mk

theorem mixOp_of_stepK {ops : List Oper} {C : World → Prop} {K : Fr → World → Prop} {N : Act → World → Prop} (hn : ∀ t w, K t w → N ⟨t.toArray, []⟩ w) {k : Nat} {t : Fr} {w : World} (h : stepK P ops C ops[k]? K t w .mk) : mixOp P ops.toArray C k N ⟨t.toArray, []⟩ w := by
  unfold stepK at h
  split at h
  · exact h.elim
  · rename_i o h0
    split at h
    · rename_i hg
      exact mixOp_of_mixK h0 (by simp [Region.wanted, hg]) (fun v w' hk => hn _ _ hk) h
    · rename_i j want hg
      rcases guard_cases hg h with ⟨hw, hh⟩ | ⟨hw, hh⟩
      · exact mixOp_of_mixK h0 hw (fun v w' hk => hn _ _ hk) hh
      · exact mixOp_skip h0 hw (hn _ _ hh)

theorem wpTree_of_vcTree {ops : List Oper} {C : World → Prop} {R : Fr → World → Prop} {N : Act → World → Prop} (hn : ∀ t w, R t w → N ⟨t.toArray, []⟩ w) : ∀ (o : Ord) (t : Fr) (w : World),
    vcTree P ops C R o t w .mk → wpTree P ops.toArray C N o ⟨t.toArray, []⟩ w
  | .done, t, w, h => hn t w h
  | .one k r, t, w, h => mixOp_of_stepK (fun t w => wpTree_of_vcTree hn r t w) h
  | .two k r k' r', t, w, h => ⟨mixOp_of_stepK (fun t w => wpTree_of_vcTree hn r t w) h.1, mixOp_of_stepK (fun t w => wpTree_of_vcTree hn r' t w) h.2⟩

/-- A region that draws its order, walked in the orders that matter. -/
theorem wpL_tree {id : Nat} {l : List Oper} {t : Fr} {w : World} {Q : EP} {p} (o : Ord) (C : World → Prop) (hm : P.follows .mixedOrders = true) (hB : mixT P l.toArray o = true) (hC : C w.drew)
    (h : vcTree P l C (Q .normal) o t w.drew .mk) : wpL P (.region id l.toArray true) Q t w p := by
  unfold wpL
  simp only [mixT, Bool.and_eq_true] at hB
  refine wp_region_any hm (wpAny_of_mix (C := C) (R := fun a w => lift Q .normal a w) (fun _ _ h => h) _ _ _ _ hC ?_)
  refine wpMix_tree hB.1 o _ _ _ _ hC (fun j o _ hl => by simp [Array.getElem?_replicate] at hl; split at hl <;> simp at hl) hB.2 ?_
  exact wpTree_of_vcTree (R := Q .normal) (fun t w hk => ⟨rfl, by simpa using hk⟩) o t w.drew h

variable {t : Fr} {w : World} {C : World → Prop} {R K : Fr → World → Prop}
theorem vcTree_done (ops) (p) : vcTree P ops C R .done t w p = R t w := (rfl)
theorem vcTree_one (ops k r) (p) : vcTree P ops C R (.one k r) t w p = stepK P ops C ops[k]? (fun t w => vcTree P ops C R r t w .mk) t w .mk := (rfl)
theorem vcTree_two (ops k r k' r') (p) : vcTree P ops C R (.two k r k' r') t w p = (stepK P ops C ops[k]? (fun t w => vcTree P ops C R r t w .mk) t w .mk ∧ stepK P ops C ops[k']? (fun t w => vcTree P ops C R r' t w .mk) t w .mk) := (rfl)
theorem stepK_plain (ops) (d op ty pos af) (p) : stepK P ops C (some ⟨d, op, ty, pos, af, none⟩) K t w p = mixK P ⟨d, op, ty, pos, af, none⟩ t w C (fun v w' => K (put t d v) w') .mk := (rfl)
theorem stepK_guard (ops) (d op ty pos af j want) (p) : stepK P ops C (some ⟨d, op, ty, pos, af, some (j, want)⟩) K t w p =
    guardK (slotOf ops j) want t (fun t' => mixK P ⟨d, op, ty, pos, af, some (j, want)⟩ t' w C (fun v w' => K (put t' d v) w') .mk) (fun t' => K (put t' d undef) w) .mk := (rfl)
theorem opr_zero (x : Oper) (l : List Oper) : (x :: l)[0]? = some x := (rfl)
theorem opr_succ (x : Oper) (l : List Oper) (n : Nat) : (x :: l)[n + 1]? = l[n]? := (rfl)
end
attribute [push_cast] vcTree_done vcTree_one vcTree_two stepK_plain stepK_guard opr_zero opr_succ
attribute [irreducible] vcTree stepK
end Go.Vc
end

section
set_option linter.unusedSimpArgs false
set_option linter.unusedVariables false
namespace Go.Vc
open Go.RowKit

/-! Regions that draw, whose last operation waits for all others: the class of worlds need not hold behind it. -/
section
variable {P : Program} {ops : Array Oper} {C : World → Prop}

def wpMixG (P : Program) (ops : Array Oper) (C : World → Prop) (m : Nat) (R : Act → World → Prop) : Nat → Array Bool → Act → World → Prop
  | 0, listed, a, w => (∀ j ∈ Region.ready .any ops listed, j = m) ∧ wpMix P .any ops (fun _ => True) R 1 listed a w
  | n + 1, listed, a, w => (Region.ready .any ops listed = [] → R a w) ∧ ∀ i ∈ Region.ready .any ops listed, mixOp P ops C i (wpMixG P ops C m R n (listed.setIfInBounds i true)) a w

theorem wpAny_of_mixG {m : Nat} {R : Act → World → Prop} {Q : Exit → Act → World → Prop} (hq : ∀ a w, R a w → Q .normal a w) : ∀ (n : Nat) (listed : Array Bool) (a : Act) (w : World), C w →
    wpMixG P ops C m R n listed a w → wpAny P .any ops Q (n + 1) listed a w
  | 0, listed, a, w, _, h => wpAny_of_mix (C := fun _ => True) hq 1 listed a w trivial h.2
  | fuel + 1, listed, a, w, hC, h => ⟨fun h0 => hq _ _ (h.1 h0), fun i hi => by
      have h1 := h.2 i hi
      unfold mixOp at h1
      unfold wpOp
      split
      · rename_i ho; simp only [ho] at h1; exact wpAny_of_mixG hq fuel _ _ _ hC h1
      · rename_i o ho
        simp only [ho] at h1
        split
        · rename_i hw
          simp only [hw, if_true] at h1
          refine .inl ?_
          split at h1
          · exact Oper.wp_mono (fun a' w' hh => wpAny_of_mixG hq fuel _ _ _ hh.1 hh.2) (upon_of_resA h1)
          · obtain ⟨v, hv, hk⟩ := h1
            unfold Oper.wp
            rw [hv w hC]
            exact wpAny_of_mixG hq fuel _ _ _ hC hk
        · rename_i hw
          simp only [hw] at h1
          exact wpAny_of_mixG hq fuel _ _ _ hC h1⟩

theorem wpMixG_first {m : Nat} {R : Act → World → Prop} {i : Nat} {oi : Oper} (hi : ops[i]? = some oi) (him : i ≠ m) (hm : ((Region.before ops).getD m 0).testBit i = true) (hsel : ∀ (j : Nat) (o : Oper) cs b, ops[j]? = some o → o.op ≠ .select cs b) :
    ∀ (fuel : Nat) (listed : Array Bool) (a : Act) (w : World), C w → Shut ops listed →
      (∀ j oj, ops[j]? = some oj → j ≠ i → listed.getD j true = false → ((Region.before ops).getD j 0).testBit i = false → oi.apart ops oj = true ∧ (chain P oi && chain P oj) = false) →
      i ∈ Region.ready .any ops listed → mixOp P ops C i (wpMixG P ops C m R fuel (listed.setIfInBounds i true)) a w → wpMixG P ops C m R (fuel + 1) listed a w := by
  have hun : ∀ listed : Array Bool, i ∈ Region.ready .any ops listed → listed.getD i false = false := fun listed hr => by
    have h0 := (mem_ready.1 hr).1
    rcases Nat.lt_or_ge i listed.size with h' | h'
    · simp [h'] at h0 ⊢; exact h0
    · simp [Array.getElem?_eq_none h']
  intro fuel
  induction fuel with
  | zero =>
    intro listed a w hC hS _ hr H
    refine ⟨fun h => (by rw [h] at hr; cases hr), fun j hj => ?_⟩
    by_cases hji : j = i
    · subst hji; exact H
    · have := ready_mono hj hji
      obtain ⟨_, _, _, hh⟩ := mixOp_some hC H
      have hjm := hh.1 j this
      subst hjm
      obtain ⟨_, oj, hoj, hall⟩ := mem_ready.1 hj
      have := hS.before j i oj hoj hall hm
      rw [hun listed hr] at this
      cases this
  | succ fuel ih =>
    intro listed a w hC hS hfree hr H
    refine ⟨fun h => (by rw [h] at hr; cases hr), fun j hj => ?_⟩
    by_cases hji : j = i
    · subst hji; exact H
    · have h1 : mixOp P ops C i (mixOp P ops C j (wpMixG P ops C m R fuel ((listed.setIfInBounds i true).setIfInBounds j true))) a w :=
        mixOp_mono hC (fun a' w' _ hh => hh.2 j (ready_mono hj hji)) H
      obtain ⟨hjun, oj, hoj, hall⟩ := mem_ready.1 hj
      have hiun := hun listed hr
      have hnot : ((Region.before ops).getD j 0).testBit i = false := by
        cases hb : ((Region.before ops).getD j 0).testBit i with
        | false => rfl
        | true => have := hS.before j i oj hoj hall hb; rw [hiun] at this; cases this
      obtain ⟨hap, hch⟩ := hfree j oj hoj hji hjun hnot
      have h2 := mixOp_swap hi hoj hap hch (fun cs b => hsel i oi cs b hi) (fun cs b => hsel j oj cs b hoj) h1
      refine mixOp_mono hC (fun a' w' hC' h3 => ih (listed.setIfInBounds j true) a' w' hC' (hS.set hj) ?_ (ready_mono hr (Ne.symm hji)) ?_) h2
      · intro k ok hk hki hun hno
        refine hfree k ok hk hki ?_ hno
        by_cases hjk : j = k
        · subst hjk; exact hjun
        · rw [getD_set_ne true hjk] at hun; exact hun
      · rw [Array.setIfInBounds_comm _ _ hji]
        exact h3

def lastFrom (P : Program) (ops : Array Oper) (bf : Array Nat) (m : Nat) : Nat → Nat → Array Bool → Bool
  | 0, _, listed => (Region.ready .any ops listed).contains m && (Region.ready .any ops listed).all (· == m) && (Region.ready .any ops (listed.setIfInBounds m true)).isEmpty
  | fuel + 1, k, listed => (Region.ready .any ops listed).contains k && mixFree P ops bf listed k && (bf.getD m 0).testBit k && lastFrom P ops bf m fuel (k + 1) (listed.setIfInBounds k true)

def lastB (P : Program) (ops : Array Oper) : Bool := Region.noSelect ops && lastFrom P ops (Region.before ops) (ops.size - 1) (ops.size - 1) 0 (Array.replicate ops.size false)

def wpLexL (P : Program) (ops : Array Oper) (C : World → Prop) (m : Nat) (R : Act → World → Prop) : List Nat → Act → World → Prop
  | [], a, w => mixOp P ops (fun _ => True) m R a w
  | i :: r, a, w => mixOp P ops C i (wpLexL P ops C m R r) a w

theorem wpMixG_lex {m : Nat} {R : Act → World → Prop} (hs : Region.noSelect ops = true) : ∀ (n k : Nat) (listed : Array Bool) (a : Act) (w : World), k + n = m → m < ops.size → C w → Shut ops listed →
    lastFrom P ops (Region.before ops) m n k listed = true → wpLexL P ops C m R (List.range' k n) a w → wpMixG P ops C m R n listed a w
  | 0, _, listed, a, w, _, _, _, _, hB, h => by
    simp only [lastFrom, Bool.and_eq_true, List.all_eq_true, beq_iff_eq, List.isEmpty_iff] at hB
    obtain ⟨⟨h1, h2⟩, h3⟩ := hB
    refine ⟨h2, ⟨fun h0 => ?_, fun i hi => ?_⟩⟩
    · rw [h0] at h1; simp at h1
    · rw [h2 i hi]
      exact mixOp_mono trivial (fun a' w' _ hh => ⟨h3, hh⟩) h
  | n + 1, k, listed, a, w, hk, hlt, hC, hS, hB, h => by
    simp only [lastFrom, Bool.and_eq_true] at hB
    obtain ⟨⟨⟨hr, hf⟩, hm⟩, hB'⟩ := hB
    have hlt' : k < ops.size := by omega
    have hr' : k ∈ Region.ready .any ops listed := by simpa using hr
    refine wpMixG_first (i := k) (oi := ops[k]) (by simp [hlt']) (by omega) hm (Region.noSelect_spec hs) n listed a w hC hS (mixFree_spec (by simp [hlt']) hf) hr' ?_
    simp only [List.range'_succ, wpLexL] at h
    exact mixOp_mono hC (fun a' w' hC' hh => wpMixG_lex hs n (k + 1) _ a' w' (by omega) hlt hC' (hS.set hr') hB' hh) h
end

section
variable {P : Program}
def vcMixL (P : Program) (ops : List Oper) (C : World → Prop) (R : Fr → World → Prop) : (l : List Oper) → Fr → World → Ph (ops, C, R, l) → Prop
  | [], _, _, _ => False
  | [o], t, w, _ => match o.guard with
    | none => mixK P o t w (fun _ => True) (fun v w' => R (put t o.dst v) w') .mk
    | some _ => False
  | o :: o' :: r, t, w, _ => match o.guard with
    | none => mixK P o t w C (fun v w' => vcMixL P ops C R (o' :: r) (put t o.dst v) w' .mk) .mk
    | some (j, want) => guardK (slotOf ops j) want t (fun t' => mixK P o t' w C (fun v w' => vcMixL P ops C R (o' :: r) (put t' o.dst v) w' .mk) .mk) (fun t' => vcMixL P ops C R (o' :: r) (put t' o.dst undef) w .mk) .mk

theorem wpLexL_of_vcMixL {ops : List Oper} {C : World → Prop} {R : Fr → World → Prop} {N : Act → World → Prop} (hn : ∀ t w, R t w → N ⟨t.toArray, []⟩ w) : ∀ (l : List Oper) (k m : Nat) (t : Fr) (w : World), (∀ j, l[j]? = ops[k + j]?) → k + l.length = m + 1 →
    vcMixL P ops C R l t w .mk → wpLexL P ops.toArray C m N (List.range' k (l.length - 1)) ⟨t.toArray, []⟩ w
  | [], _, _, _, _, _, _, h => h.elim
  | [o], k, m, t, w, hl, hm, h => by
    have hkm : k = m := by simpa using hm
    subst hkm
    have h0 : ops[k]? = some o := by simpa using (hl 0).symm
    simp only [vcMixL] at h
    simp only [List.length_cons, List.length_nil, Nat.zero_add, Nat.sub_self, List.range'_zero, wpLexL]
    split at h
    · rename_i hg
      exact mixOp_of_mixK h0 (by simp [Region.wanted, hg]) (fun v w' hk => hn _ _ hk) h
    · exact h.elim
  | o :: o' :: r, k, m, t, w, hl, hm, h => by
    have h0 : ops[k]? = some o := by simpa using (hl 0).symm
    have ih := fun t w => wpLexL_of_vcMixL (C := C) hn (o' :: r) (k + 1) m t w (fun j => by have := hl (j + 1); simpa [Nat.add_assoc, Nat.add_comm 1 j] using this) (by simp only [List.length_cons] at hm ⊢; omega)
    have hlen : (o :: o' :: r).length - 1 = ((o' :: r).length - 1) + 1 := by simp
    rw [hlen, List.range'_succ]
    simp only [wpLexL]
    simp only [vcMixL] at h
    split at h
    · rename_i hg
      exact mixOp_of_mixK h0 (by simp [Region.wanted, hg]) (fun v w' hk => ih _ _ hk) h
    · rename_i j want hg
      rcases guard_cases hg h with ⟨hw, hh⟩ | ⟨hw, hh⟩
      · exact mixOp_of_mixK h0 hw (fun v w' hk => ih _ _ hk) hh
      · exact mixOp_skip h0 hw (ih _ _ hh)

/-- A region that draws its order, whose last operation waits for all others. -/
theorem wpL_last {id : Nat} {l : List Oper} {t : Fr} {w : World} {Q : EP} {p} (C : World → Prop) (hm : P.follows .mixedOrders = true) (hB : lastB P l.toArray = true) (hl : l ≠ []) (hC : C w.drew)
    (h : vcMixL P l C (Q .normal) l t w.drew .mk) : wpL P (.region id l.toArray true) Q t w p := by
  unfold wpL
  simp only [lastB, Bool.and_eq_true] at hB
  have hpos : 0 < l.length := List.length_pos_iff.2 hl
  have hsz : l.toArray.size = (l.length - 1) + 1 := by simp; omega
  refine wp_region_any hm ?_
  have hG : wpMixG P l.toArray C (l.length - 1) (fun a w => lift Q .normal a w) (l.length - 1) (Array.replicate l.toArray.size false) ⟨t.toArray, []⟩ w.drew := by
    refine wpMixG_lex hB.1 _ 0 _ _ _ (by simp) (by simp; omega) hC (fun j o _ hl => by simp [Array.getElem?_replicate] at hl; split at hl <;> simp at hl) (by simpa using hB.2) ?_
    exact wpLexL_of_vcMixL (P := P) (ops := l) (C := C) (R := Q .normal) (N := fun a w => lift Q .normal a w) (fun t w hk => ⟨rfl, by simpa using hk⟩) l 0 (l.length - 1) t w.drew (fun j => by simp) (by omega) h
  have := wpAny_of_mixG (C := C) (R := fun a w => lift Q .normal a w) (Q := fun e a w => lift Q e a w) (fun _ _ h => h) _ _ _ _ hC hG
  rw [← hsz] at this
  exact this

variable {t : Fr} {w : World} {C : World → Prop} {K : VK} {R : Fr → World → Prop}
theorem vcMixL_one (ops) (d op ty pos af) (p) : vcMixL P ops C R [⟨d, op, ty, pos, af, none⟩] t w p = mixK P ⟨d, op, ty, pos, af, none⟩ t w (fun _ => True) (fun v w' => R (put t d v) w') .mk := (rfl)
theorem vcMixL_plain (ops) (d op ty pos af o' r) (p) : vcMixL P ops C R (⟨d, op, ty, pos, af, none⟩ :: o' :: r) t w p = mixK P ⟨d, op, ty, pos, af, none⟩ t w C (fun v w' => vcMixL P ops C R (o' :: r) (put t d v) w' .mk) .mk := (rfl)
theorem vcMixL_guard (ops) (d op ty pos af j want o' r) (p) : vcMixL P ops C R (⟨d, op, ty, pos, af, some (j, want)⟩ :: o' :: r) t w p =
    guardK (slotOf ops j) want t (fun t' => mixK P ⟨d, op, ty, pos, af, some (j, want)⟩ t' w C (fun v w' => vcMixL P ops C R (o' :: r) (put t' d v) w' .mk) .mk) (fun t' => vcMixL P ops C R (o' :: r) (put t' d undef) w .mk) .mk := (rfl)
end
attribute [push_cast] vcMixL_one vcMixL_plain vcMixL_guard
attribute [irreducible] vcMixL
end Go.Vc
end

section
set_option linter.unusedSimpArgs false
set_option linter.unusedVariables false
namespace Go.Vc
open Go.RowKit

/-! Maps from ints to true. -/
section
variable {P : Program}

end
end Go.Vc
end

section
set_option linter.unusedSimpArgs false
set_option linter.unusedVariables false
namespace Go.Vc
open Go.RowKit

/-! Regions that draw, in a told order: the class of worlds need not hold behind those that are told last. -/
section
variable {P : Program} {ops : Array Oper} {C : World → Prop}

end
section
variable {P : Program} {ops : Array Oper} {C : World → Prop}
end

section
variable {P : Program}
def vcPost (P : Program) (ops : List Oper) (R : Fr → World → Prop) : (l : List Nat) → Fr → World → Ph (ops, R, l) → Prop
  | [], t, w, _ => R t w
  | k :: r, t, w, _ => stepK P ops (fun _ => True) ops[k]? (fun t w => vcPost P ops R r t w .mk) t w .mk
def vcPre (P : Program) (ops : List Oper) (C : World → Prop) (R : Fr → World → Prop) (post : List Nat) : (l : List Nat) → Fr → World → Ph (ops, C, R, post, l) → Prop
  | [], t, w, _ => vcPost P ops R post t w .mk
  | k :: r, t, w, _ => stepK P ops C ops[k]? (fun t w => vcPre P ops C R post r t w .mk) t w .mk

variable {t : Fr} {w : World} {C : World → Prop} {R : Fr → World → Prop}
theorem vcPost_nil (ops) (p) : vcPost P ops R [] t w p = R t w := (rfl)
theorem vcPost_cons (ops k r) (p) : vcPost P ops R (k :: r) t w p = stepK P ops (fun _ => True) ops[k]? (fun t w => vcPost P ops R r t w .mk) t w .mk := (rfl)
theorem vcPre_nil (ops post) (p) : vcPre P ops C R post [] t w p = vcPost P ops R post t w .mk := (rfl)
theorem vcPre_cons (ops post k r) (p) : vcPre P ops C R post (k :: r) t w p = stepK P ops C ops[k]? (fun t w => vcPre P ops C R post r t w .mk) t w .mk := (rfl)
end
attribute [push_cast] vcPost_nil vcPost_cons vcPre_nil vcPre_cons
attribute [irreducible] vcPost vcPre
end Go.Vc
end

section
set_option linter.unusedSimpArgs false
set_option linter.unusedVariables false
namespace Go.Vc
open Go.RowKit
section
variable {P : Program} {w : World} {K : VK} {L : VP} {other : Prop}

end
end Go.Vc
end

section
set_option linter.unusedSimpArgs false
set_option linter.unusedVariables false
namespace Go.Vc
open Go.RowKit

section
variable {P : Program} {ops : Array Oper} {C : World → Prop}
end
section
variable {P : Program}
end
end Go.Vc
end

section
set_option linter.unusedSimpArgs false
set_option linter.unusedVariables false
namespace Go.Vc
open Go.RowKit
section
variable {P : Program} {w : World} {t : Fr} {K : VK} {Q : EP} {L : VP} {other : Prop}

end
end Go.Vc
end

section
set_option linter.unusedSimpArgs false
set_option linter.unusedVariables false
namespace Go.Vc
open Go.RowKit
section
variable {P : Program} {t : Fr} {w : World} {K : VK} {Q : EP}

end
attribute [push_cast] decide_true ne_eq eq_self not_true_eq_false not_false_eq_true true_imp_iff false_imp_iff Bool.not_true Bool.not_false
end Go.Vc
end
end
