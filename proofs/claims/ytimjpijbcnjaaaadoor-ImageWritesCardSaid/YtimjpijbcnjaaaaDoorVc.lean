import Derived.WalkKit
namespace Go.Vc
open Go.RowKit

inductive Ph {α : Type} (a : α) : Type
  | mk

abbrev Fr := List Value
abbrev EP := Exit → Fr → World → Prop
abbrev VK := Value → World → Prop
abbrev VP := Value → Prop

def ev (t : Fr) : Operand → Value
  | .tmp i => t.getD i undef
  | .const v => v
  | .global g => .pointer (some ⟨g, 0, none⟩)
  | .func f => .func (.func f) #[] #[]

def put (t : Fr) (d : Option Tmp) (v : Value) : Fr := match d with | some d => t.set d v | none => t

/-- What comes of a run of one operation. -/
def resK (P : Program) (t : Fr) (K : VK) (Q : EP) : Result Next → Prop
  | .ok (.value v) w' => K v w'
  | .ok .skip w' => K undef w'
  | .ok (.enter f args) w' => Calls P f args w' fun e w'' => match e with
      | .returned v => K v w''
      | .panicked c => Q (.panic c) t w''
      | .outgrown => False
  | .halt (.panic v) w' => Q (.panic [{ v, recovered := false }]) t w'
  | _ => False

def runK (P : Program) (o : Oper) (t : Fr) (w : World) (K : VK) (Q : EP) (_ : Ph (o, K, Q)) : Prop := resK P t K Q ((execOp (ev t) o).run P w)

def callK (P : Program) (f : FuncId) (args : List Value) (t : Fr) (w : World) (K : VK) (Q : EP) (_ : Ph (K, Q)) : Prop := resK P t K Q ((callFunc f args.toArray).run P w)

def pickK (c a b : Value) (K : VP) (_ : Ph K) : Prop := match c with | .bool x => K (if x then a else b) | _ => False

def condK (c : Value) (x y : Prop) (_ : Ph (x, y)) : Prop := match c with | .bool b => (b = true → x) ∧ (b = false → y) | _ => False

def guardK (s : Option Nat) (want : Bool) (t : Fr) (yes no : Fr → Prop) (_ : Ph (yes, no)) : Prop :=
  match s with
  | none => no t
  | some s => match t.getD s undef with
    | .bool b => (b = want → yes (t.set s (.bool want))) ∧ (b = !want → no (t.set s (.bool !want)))
    | _ => no t

/-- Integers: sums must fit where the kind is int's; other kinds wrap. -/
def arithK (k : IntKind) (n : Int) (K : VP) (_ : Ph K) : Prop :=
  match k with
  | .i64 => (-9223372036854775808 ≤ n ∧ n ≤ 9223372036854775807) ∧ K (.int .i64 n)
  | k => K (.int k (k.wrap n))

def bitop (op : BinOp) (k : IntKind) (x y : Int) : Int :=
  let a := BitVec.ofInt k.bits x
  let b := BitVec.ofInt k.bits y
  match op with
  | .and => k.wrap (a &&& b).toNat
  | .or => k.wrap (a ||| b).toNat
  | .xor => k.wrap (a ^^^ b).toNat
  | _ => k.wrap (a &&& ~~~b).toNat

def intK (op : BinOp) (k : IntKind) (a b : Int) (K : VP) (_ : Ph K) : Prop :=
  match op with
  | .add => arithK k (a + b) K .mk
  | .sub => arithK k (a - b) K .mk
  | .mul => arithK k (a * b) K .mk
  | .quo => b ≠ 0 ∧ K (.int k (k.wrap (a.tdiv b)))
  | .rem => b ≠ 0 ∧ K (.int k (a.tmod b))
  | .and => K (.int k (bitop .and k a b))
  | .or => K (.int k (bitop .or k a b))
  | .xor => K (.int k (bitop .xor k a b))
  | .andNot => K (.int k (bitop .andNot k a b))
  | .eql => K (.bool (a == b))
  | .neq => K (.bool (a != b))
  | .lss => K (.bool (decide (a < b)))
  | .leq => K (.bool (decide (a ≤ b)))
  | .gtr => K (.bool (decide (b < a)))
  | .geq => K (.bool (decide (b ≤ a)))
  | _ => False

def shiftK (op : BinOp) (k : IntKind) (x y : Int) (K : VP) (_ : Ph K) : Prop :=
  match op with
  | .shl => 0 ≤ y ∧ K (.int k (k.wrap (x * 2 ^ min y.toNat k.bits)))
  | .shr => 0 ≤ y ∧ K (.int k (x.fdiv (2 ^ min y.toNat k.bits)))
  | _ => False

/-- Strings, told by their bytes. -/
def str (l : List UInt8) : Value := .string ⟨l.toArray⟩

def binK (op : BinOp) (x y : Value) (K : VP) (other : Prop) (_ : Ph (K, other)) : Prop :=
  match op, x, y with
  | .shl, .int k a, .int _ b => shiftK .shl k a b K .mk
  | .shr, .int k a, .int _ b => shiftK .shr k a b K .mk
  | op, .int k a, .int k' b => k = k' ∧ intK op k a b K .mk
  | .add, .string a, .string b => ((a.size : Int) + b.size ≤ 9223372036854775807) ∧ K (.string (a ++ b))
  | .eql, .string a, .string b => K (.bool (a.data.toList == b.data.toList))
  | .neq, .string a, .string b => K (.bool (!(a.data.toList == b.data.toList)))
  | _, _, _ => other

def unK (op : UnOp) (x : Value) (K : VP) (other : Prop) (_ : Ph (K, other)) : Prop :=
  match op, x with
  | .neg, .int k n => K (.int k (k.wrap (0 - n)))
  | .not, .bool b => K (.bool (!b))
  | _, _ => other

def extractK (x : Value) (i : Nat) (K : VP) (_ : Ph K) : Prop := match x with | .tuple vs => (match vs.toList[i]? with | some v => K v | none => False) | _ => False

def lenK (d : Option TypeDesc) (x : Value) (K : VP) (other : Prop) (_ : Ph (K, other)) : Prop :=
  match d, x with
  | some .string, .string s => K (.int .i64 s.size)
  | some (.slice _), .slice _ n _ => K (.int .i64 n)
  | _, _ => other

/-- An integer to an integer. -/
def convK (d : Option TypeDesc) (x : Value) (K : VP) (other : Prop) (_ : Ph (K, other)) : Prop :=
  match d, x with
  | some (.int k), .int _ n => K (.int k (k.wrap n))
  | some .string, .string s => K (.string s)
  | _, _ => other

/-- A byte of a string. -/
def indexK (d : Option TypeDesc) (x i : Value) (K : VP) (other : Prop) (_ : Ph (K, other)) : Prop :=
  match d, x, i with
  | some .string, .string s, .int _ n => (0 ≤ n ∧ n < (s.data.toList.length : Int)) ∧ K (.int .u8 (s.data.toList.getD n.toNat 0).toNat)
  | _, _, _ => other

def mmK (max : Bool) (xs : List Value) (K : VP) (other : Prop) (_ : Ph (K, other)) : Prop :=
  match xs with
  | [.int k a, .int _ b] => K (.int k (if max then (if b > a then b else a) else (if b < a then b else a)))
  | _ => other

def funK (P : Program) (f : Value) (args : List Value) (t : Fr) (w : World) (K : VK) (Q : EP) (other : Prop) (_ : Ph (K, Q, other)) : Prop :=
  match f with
  | .func (.func g) first cap => callK P g (first.toList ++ args ++ cap.toList) t w K Q .mk
  | _ => other

/-- An operation of the model's that hands back a value: its own run. -/
def valK (P : Program) (s : Sem Value) (t : Fr) (w : World) (K : VK) (Q : EP) (_ : Ph (K, Q)) : Prop := resK P t K Q ((do pure (Next.value (← s)) : Sem Next).run P w)

def unitK (P : Program) (s : Sem Unit) (t : Fr) (w : World) (K : VK) (Q : EP) (_ : Ph (K, Q)) : Prop := resK P t K Q ((do s; pure Next.skip : Sem Next).run P w)

/-- A type's cells: 'some none': one cell; 'some (some n)': a struct or an array of n. -/
def tyK (P : Program) (ty : TypeId) : Option (Option Nat) := match P.underlying ty, P.info? ty with
  | some (.struct _), some i => some (some i.size)
  | some (.array ..), some i => some (some i.size)
  | some _, some i => if i.size = 1 then some none else none
  | _, _ => none

/-- The fields are integers, one behind the other. -/
def flatF (P : Program) : Nat → List Field → Bool
  | _, [] => true
  | i, f :: fs => f.offset == i && f.name != "_" && (match P.underlying f.type with | some (.int _) => true | _ => false) && tyK P f.type == some none && flatF P (i + 1) fs

/-- A struct of integers alone. -/
def flatI (P : Program) (ty : TypeId) : Bool := match P.underlying ty with
  | some (.struct fs) => flatF P 0 fs.toList && !P.eqGuardType P.depth ty && !P.stoodInHeld ty
  | _ => false

/-- What kind of type: 1 interface, 2 pointer, 3 slice, 4 map, 5 func, 6 bool, 7 a struct of integers. -/
def eqKind (P : Program) (ty : TypeId) : Nat := match P.underlying ty with
  | some (.struct fs) => if flatI P ty then fs.size + 7 else 0
  | some (.interface _) => 1 | some (.pointer _) => 2 | some (.slice _) => 3 | some (.map _ _) => 4 | some (.func ..) => 5 | some .bool => 6 | _ => 0

def isConst : Operand → Bool
  | .const _ => true
  | _ => false

def sizeOk : List Value → Nat → Bool
  | [], 0 => true
  | _ :: l, n + 1 => sizeOk l n
  | _, _ => false

def eqInts : List Value → List Value → Option Bool
  | [], [] => some true
  | .int k a :: xs, .int k' b :: ys => if k = k' then (eqInts xs ys).map (decide (a = b) && ·) else none
  | _, _ => none

/-- Against nil, bools, and structs of integers. -/
def eqVal (kind : Nat) (cst : Bool) (x y : Value) : Option Bool :=
  match kind, x, y with
  | 1, .nilIface, .nilIface => if cst then some true else none
  | 1, .iface _ _, .nilIface => some false
  | 1, .nilIface, .iface _ _ => some false
  | 2, .pointer none, .pointer none => some true
  | 2, .pointer (some _), .pointer none => some false
  | 2, .pointer none, .pointer (some _) => some false
  | 3, .slice none _ _, .slice none _ _ => some true
  | 3, .slice (some _) _ _, .slice none _ _ => some false
  | 5, .nilFunc, .nilFunc => some true
  | 5, .func .., .nilFunc => some false
  | 6, .bool a, .bool b => some (a == b)
  | n + 7, .agg xs, .agg ys => (match sizeOk xs.toList n with | true => eqInts xs.toList ys.toList | false => none)
  | _, _, _ => none

def eqNilK (kind : Nat) (cst : Bool) (op : BinOp) (x y : Value) (K : VP) (other : Prop) (_ : Ph (K, other)) : Prop :=
  match op, eqVal kind cst x y with
  | .eql, some b => K (.bool b)
  | .neq, some b => K (.bool !b)
  | _, _ => other

/-- A field's place, and its cells. -/
def fieldK (P : Program) (ty : TypeId) (f : Nat) : Option (Nat × Option Nat) := match P.underlying ty with
  | some (.struct fs) => match fs[f]? with
    | some fl => match tyK P fl.type with
      | some none => some (fl.offset, none)
      | some (some n) => if n = 0 then none else some (fl.offset, some n)
      | none => none
    | none => none
  | _ => none

/-- A slice's element's cells. -/
def elemK (P : Program) (ty : TypeId) : Option (TypeId × Nat) := match P.underlying ty with
  | some (.slice e) => (P.info? e).map fun i => (e, i.size)
  | _ => none

def arrK (P : Program) (ty : TypeId) : Option (Nat × TypeId × Nat) := match P.underlying ty with
  | some (.array n e) => (P.info? e).map fun i => (n, e, i.size)
  | _ => none

def cellsAt (w : World) (a : Addr) (i : Nat) : Nat → Option (List Value)
  | 0 => some []
  | n + 1 => match w.cell? (a.add i), cellsAt w a (i + 1) n with
    | some v, some vs => some (v :: vs)
    | _, _ => none

def optK {α : Type} (x : Option α) (K : α → Prop) (_ : Ph K) : Prop := match x with | some v => K v | none => False

def loadK (ty : Option (Option Nat)) (a : Value) (w : World) (K : VK) (_ : Ph K) : Prop := match ty, a with
  | some none, .pointer (some a) => optK (w.cell? a) (K · w) .mk
  | some (some n), .pointer (some a) => optK (cellsAt w a 0 n) (fun cs => K (.agg cs.toArray) w) .mk
  | _, _ => False

def fieldAddrK (f : Option (Nat × Option Nat)) (a : Value) (K : VP) (_ : Ph K) : Prop := match f, a with
  | some (off, _), .pointer (some a) => K (.pointer (some (a.add off)))
  | _, _ => False

def partK (f : Option (Nat × Option Nat)) (x : Value) (K : VP) (_ : Ph K) : Prop := match f, x with
  | some (off, none), .agg cs => optK (cs.toList[off]?) K .mk
  | some (off, some n), .agg cs => K (.agg ((cs.toList.drop off).take n).toArray)
  | _, _ => False

def indexAddrK (e : Option (TypeId × Nat)) (arr : Option (Nat × TypeId × Nat)) (x i : Value) (K : VP) (_ : Ph K) : Prop := match e, arr, x, i with
  | some (_, size), _, .slice (some a) n _, .int _ i => (0 ≤ i ∧ i < n) ∧ K (.pointer (some (a.add (i.toNat * size))))
  | _, some (n, _, size), .pointer (some a), .int _ i => (0 ≤ i ∧ i < n) ∧ K (.pointer (some (a.add (i.toNat * size))))
  | _, _, _, _ => False

def natAt (v : Option Value) (dflt : Nat) : Option Int := match v with
  | none => some dflt
  | some (.int _ i) => some i
  | _ => none

def sliceK (d : Option TypeDesc) (e : Option (TypeId × Nat)) (x : Value) (lo hi mx : Option Value) (K : VP) (other : Prop) (_ : Ph (K, other)) : Prop :=
  match d, x, mx with
  | some .string, .string s, none => match natAt lo 0, natAt hi s.data.toList.length with
    | some l, some h => (0 ≤ l ∧ l ≤ h ∧ h ≤ s.data.toList.length) ∧ K (str ((s.data.toList.take h.toNat).drop l.toNat))
    | _, _ => False
  | some (.slice _), .slice a len cap, none => match e, natAt lo 0, natAt hi len with
    | some (_, size), some l, some h => (0 ≤ l ∧ l ≤ h ∧ h ≤ (cap : Int)) ∧ K (.slice (if (cap : Int) = l then a else a.map (·.add (l.toNat * size))) (h.toNat - l.toNat) (cap - l.toNat))
    | _, _, _ => False
  | _, _, _ => other

def ifaceK (kind : Nat) (ty : TypeId) (x : Value) (K : VP) (other : Prop) (_ : Ph (K, other)) : Prop := match kind with
  | 1 => other
  | _ => K (.iface ty x)

def boxK (e : TypeId) (v : Value) (w : World) (K : VK) (_ : Ph K) : Prop := K (.pointer (some ⟨w.heap.size, 0, none⟩)) (w.alloc (.cells v.cells e))

def oneCell : Value → Bool
  | .agg _ | .tuple _ => false
  | _ => true

/-- A store of one cell. -/
def storeK (ty : Option (Option Nat)) (a v : Value) (w : World) (K : VK) (other : Prop) (_ : Ph (K, other)) : Prop := match ty, a with
  | some none, .pointer (some a) => oneCell v = true ∧ (w.cell? a).isSome = true ∧ w.frozen? a = false ∧ K undef (w.setCell a v)
  | _, _ => other

/-- cs laid over l from place n on. -/
def splice : List Value → Nat → List Value → List Value
  | l, 0, [] => l
  | x :: l, n + 1, cs => x :: splice l n cs
  | _ :: l, 0, c :: cs => c :: splice l 0 cs
  | [], _, _ => []

def cellsL : Value → List Value
  | .agg cs => cs.toList
  | v => [v]

def buildL (places : List (Nat × Nat)) (cells : List Value) : List (Nat × Value) → Option (List Value)
  | [] => some cells
  | (i, v) :: rest => match places[i]? with
    | some (off, size) => (match sizeOk (cellsL v) size && decide (off + size ≤ cells.length) with
      | true => buildL places (splice cells off (cellsL v)) rest
      | false => none)
    | none => none

/-- A type's zero value, and the places of its parts. -/
def bldI (P : Program) (ty : TypeId) : Option (List Value × List (Nat × Nat)) := match P.info? ty, P.underlying ty with
  | some i, some (.struct fs) => match i.zero with
    | some z => if fs.toList.all (fun f => (P.info? f.type).isSome) then some (cellsL z, fs.toList.map fun f => (f.offset, ((P.info? f.type).map (·.size)).getD 0)) else none
    | none => none
  | _, _ => none

def buildK (d : Option (List Value × List (Nat × Nat))) (parts : List (Nat × Value)) (K : VP) (_ : Ph K) : Prop := match d with
  | some (z, places) => optK (buildL places z parts) (fun cs => K (.agg cs.toArray)) .mk
  | none => False

/-- What only reckons: in whatever world, the same value. -/
def pureK (P : Program) (o : Oper) (t : Fr) (L : VP) (other : Prop) (_ : Ph (o, L, other)) : Prop :=
  match o.op with
  | .move x => L (ev t x)
  | .assign x => L (ev t x)
  | .pick c a b => pickK (ev t c) (ev t a) (ev t b) L .mk
  | .binOp op ty x y _ => binK op (ev t x) (ev t y) L (eqNilK (eqKind P ty) (isConst x || isConst y) op (ev t x) (ev t y) L other .mk) .mk
  | .unOp op _ x => unK op (ev t x) L other .mk
  | .extract x i => extractK (ev t x) i L .mk
  | .convert s d x => convK (if (P.underlying s).isSome then P.underlying d else none) (ev t x) L other .mk
  | .index xt x i => indexK (P.underlying xt) (ev t x) (ev t i) L other .mk
  | .makeFunc fn first cap => L (.func fn (first.map (ev t)) (cap.map (ev t)))
  | .build ty parts => buildK (bldI P ty) (parts.toList.map fun (i, x) => (i, ev t x)) L .mk
  | .call { callee := .builtin .len, args, argTypes } => (match args.toList, argTypes.toList with
    | [x], [ty] => lenK (P.underlying ty) (ev t x) L other .mk
    | _, _ => other)
  | .call { callee := .builtin .max, args, argTypes := _ } => mmK true (args.toList.map (ev t)) L other .mk
  | .call { callee := .builtin .min, args, argTypes := _ } => mmK false (args.toList.map (ev t)) L other .mk
  | .fieldAddr ty x f => fieldAddrK (fieldK P ty f) (ev t x) L .mk
  | .field ty x f => partK (fieldK P ty f) (ev t x) L .mk
  | .indexAddr ty x i => indexAddrK (elemK P ty) (arrK P ty) (ev t x) (ev t i) L .mk
  | .slice ty x lo hi mx => sliceK (P.underlying ty) (elemK P ty) (ev t x) (lo.map (ev t)) (hi.map (ev t)) (mx.map (ev t)) L other .mk
  | .makeInterface ty x => ifaceK (if (P.underlying ty).isSome then eqKind P ty else 1) ty (ev t x) L other .mk
  | _ => other

def opK (P : Program) (o : Oper) (t : Fr) (w : World) (K : VK) (Q : EP) (_ : Ph (o, K, Q)) : Prop :=
  match o.op with
  | .call { callee := .value f, args, argTypes := _ } => funK P (ev t f) (args.toList.map (ev t)) t w K Q (runK P o t w K Q .mk) .mk
  | .load ty a => loadK (tyK P ty) (ev t a) w K .mk
  | .store ty a v => storeK (tyK P ty) (ev t a) (ev t v) w K (unitK P (Instr.storeAt ty (ev t a) (ev t v)) t w K Q .mk) .mk
  | .box e x => boxK e (ev t x) w K .mk
  | .alloc e => valK P (Instr.alloc e true (.tuple #[])) t w K Q .mk
  | .convert s d x => convK (if (P.underlying s).isSome then P.underlying d else none) (ev t x) (K · w) (valK P (convert s d (ev t x)) t w K Q .mk) .mk
  | .buildSlice ty n parts => valK P (Instr.buildSlice ty n (parts.map fun (i, x) => (i, ev t x))) t w K Q .mk
  | .makeSlice ty l c => valK P (Instr.makeSlice ty (ev t l) (ev t c)) t w K Q .mk
  | .makeMap ty r => valK P (Instr.makeMap ty (r.map (ev t))) t w K Q .mk
  | .lookup ty x i ok => valK P (Instr.lookup ty (ev t x) (ev t i) ok) t w K Q .mk
  | .mapUpdate ty m k x => unitK P (Instr.mapUpdate ty (ev t m) (ev t k) (ev t x)) t w K Q .mk
  | .insert ty m k x => unitK P (Instr.mapUpdate ty (ev t m) (ev t k) (ev t x)) t w K Q .mk
  | .typeAssert x xt at_ ok => valK P (Instr.typeAssert (ev t x) xt at_ ok) t w K Q .mk
  | .panic x => valK P (Instr.panic (ev t x)) t w K Q .mk
  | .range ty x => valK P (Instr.range ty (ev t x)) t w K Q .mk
  | .call { callee := .builtin .append, args, argTypes } => valK P (Builtin.append_ argTypes o.type (args.map (ev t))) t w K Q .mk
  | .call { callee := .builtin .copy, args, argTypes } => valK P (Builtin.copy_ argTypes o.type (args.map (ev t))) t w K Q .mk
  | _ => pureK P o t (K · w) (runK P o t w K Q .mk) .mk

def slotOf (ops : List Oper) (j : Nat) : Option Nat := (ops[j]?).bind (·.dst)

def vcOps (P : Program) (ops : List Oper) (K : Fr → World → Prop) (Q : EP) : (l : List Oper) → Fr → World → Ph (ops, K, Q, l) → Prop
  | [], t, w, _ => K t w
  | o :: r, t, w, _ => match o.guard with
    | none => opK P o t w (fun v w' => vcOps P ops K Q r (put t o.dst v) w' .mk) Q .mk
    | some (j, want) => guardK (slotOf ops j) want t (fun t' => opK P o t' w (fun v w' => vcOps P ops K Q r (put t' o.dst v) w' .mk) Q .mk) (fun t' => vcOps P ops K Q r (put t' o.dst undef) w .mk) .mk

def lift (Q : EP) : Exit → Act → World → Prop := fun e a w => a.defers = [] ∧ Q e a.tmps.toList w

/-- The model's own. -/
def wpL (P : Program) (c : Code) (Q : EP) (t : Fr) (w : World) (_ : Ph (c, Q)) : Prop := c.wp P (lift Q) ⟨t.toArray, []⟩ w

def seqQ (N : Fr → World → Prop) (Q : EP) (_ : Ph (N, Q)) : EP
  | .normal, t, w => N t w
  | e, t, w => Q e t w

def blockQ (id : Nat) (Q : EP) (_ : Ph Q) : EP
  | .exit i, t, w => if i = id then Q .normal t w else Q (.exit i) t w
  | e, t, w => Q e t w

def vc (P : Program) : (c : Code) → (Q : EP) → Fr → World → Ph (c, Q) → Prop
  | .skip, Q, t, w, _ => Q .normal t w
  | .region _ ops false, Q, t, w, _ => vcOps P ops.toList (Q .normal) Q ops.toList t w .mk
  | .region id ops true, Q, t, w, _ => wpL P (.region id ops true) Q t w .mk
  | .seq a b, Q, t, w, _ => vc P a (seqQ (fun t w => vc P b Q t w .mk) Q .mk) t w .mk
  | .cond c a b, Q, t, w, _ => condK (ev t c) (vc P a Q t w .mk) (vc P b Q t w .mk) .mk
  | .block i c, Q, t, w, _ => vc P c (blockQ i Q .mk) t w .mk
  | .exit i, Q, t, w, _ => Q (.exit i) t w
  | .ret, Q, t, w, _ => Q .ret t w
  | .label _, Q, t, w, _ => Q .normal t w
  | .goto l, Q, t, w, _ => Q (.goto l) t w
  | c, Q, t, w, _ => wpL P c Q t w .mk

/-! ### Soundness -/
section
variable {P : Program}

theorem ev_eq (t : Fr) (ds : List Deferred) : (Act.mk t.toArray ds).eval = ev t := by
  funext x
  cases x <;> simp [Act.eval, ev, Array.getD_eq_getD_getElem?, List.getD_eq_getElem?_getD]

theorem put_eq (t : Fr) (d : Option Tmp) (v : Value) : (Act.mk t.toArray []).put d v = ⟨(put t d v).toArray, []⟩ := by
  cases d <;> simp [Act.put, put]

theorem resK_upon {o : Oper} {t : Fr} {K : Value → World → Prop} {Q : EP} {r : Result Next} {next : Act → World → Prop}
    (hn : ∀ v w', K v w' → next ⟨(put t o.dst v).toArray, []⟩ w') (h : resK P t K Q r) : o.upon P ⟨t.toArray, []⟩ next (lift Q) r := by
  cases r with
  | ok n w' =>
    cases n <;> simp only [resK] at h <;> simp only [Oper.upon]
    case value v => rw [put_eq]; exact hn _ _ h
    case skip => rw [put_eq]; exact hn _ _ h
    case enter f args =>
      refine h.mono fun e w'' he => ?_
      cases e with
      | returned v => dsimp only at he ⊢; rw [put_eq]; exact hn _ _ he
      | panicked c => exact ⟨rfl, by simpa using he⟩
      | outgrown => exact he.elim
  | halt x w' =>
    cases x <;> simp only [resK] at h <;> simp only [Oper.upon]
    exact ⟨rfl, by simpa using h⟩

theorem resK_mono {t : Fr} {K K' : Value → World → Prop} {Q : EP} {r : Result Next} (hk : ∀ v w', K v w' → K' v w') (h : resK P t K Q r) : resK P t K' Q r := by
  cases r with
  | ok n w' =>
    cases n <;> simp only [resK] at h ⊢
    case value v => exact hk _ _ h
    case skip => exact hk _ _ h
    case enter f args =>
      refine h.mono fun e w'' he => ?_
      cases e with
      | returned v => exact hk _ _ he
      | panicked c => exact he
      | outgrown => exact he
  | halt x w' => cases x <;> simp only [resK] at h ⊢; exact h


theorem runK_value {o : Oper} {t : Fr} {w w' : World} {K : Value → World → Prop} {Q : EP} {v : Value} (h : (execOp (ev t) o).run P w = .ok (.value v) w') (k : K v w') : runK P o t w K Q .mk := by
  unfold runK; rw [h]; exact k

theorem runK_mono {o : Oper} {t : Fr} {w : World} {K K' : Value → World → Prop} {Q : EP} (hk : ∀ v w', K v w' → K' v w') (h : runK P o t w K Q .mk) : runK P o t w K' Q .mk := resK_mono hk h

theorem eqGuard_plain {op : BinOp} {ty : TypeId} {x y : Operand} {a b : Value} (ha : a ≠ .nilIface ∨ b ≠ .nilIface) (hb : ∀ c, a ≠ .agg c) (w : World) : (eqGuard op ty x y a b).run P w = .ok () w := by
  cases op <;> simp only [eqGuard] <;> first | rfl | (cases a <;> cases b <;> first | rfl | simp_all)

theorem execOp_bin {t : Fr} {o : Oper} {op : BinOp} {ty yt : TypeId} {x y : Operand} (ho : o.op = .binOp op ty x y yt) {w : World} {v : Value}
    (hg : (eqGuard op ty x y (ev t x) (ev t y)).run P w = .ok () w) (h : (binOp op ty (ev t x) (ev t y)).run P w = .ok v w) : (execOp (ev t) o).run P w = .ok (.value v) w := by
  unfold execOp
  simp only [ho, Sem.run_bind, hg, Result.andThen_ok, h, Sem.run_pure]

theorem wrap_i64_fit {n : Int} (h : -9223372036854775808 ≤ n ∧ n ≤ 9223372036854775807) : IntKind.i64.wrap n = n := by
  rw [IntKind.wrap_i64]; omega

theorem arithK_ok {k : IntKind} {n : Int} {K : Value → Prop} (h : arithK k n K .mk) : K (.int k (k.wrap n)) := by
  cases k <;> simp only [arithK] at h <;> first | exact h | (rw [wrap_i64_fit h.1]; exact h.2)

theorem intK_ok {op : BinOp} {k : IntKind} {a b : Int} {K : Value → Prop} {ty : TypeId} (hs : op ≠ .shl ∧ op ≠ .shr) (h : intK op k a b K .mk) :
    ∃ v, (∀ w, (binOp op ty (.int k a) (.int k b)).run P w = .ok v w) ∧ K v := by
  cases op <;> simp only [intK] at h <;> try exact h.elim
  case add => exact ⟨_, fun w => by simp [binOp, Op.intArith], arithK_ok h⟩
  case sub => exact ⟨_, fun w => by simp [binOp, Op.intArith], arithK_ok h⟩
  case mul => exact ⟨_, fun w => by simp [binOp, Op.intArith], arithK_ok h⟩
  case quo => exact ⟨_, fun w => by simp [binOp, Op.intDiv, h.1], h.2⟩
  case rem => exact ⟨_, fun w => by simp [binOp, Op.intDiv, h.1], h.2⟩
  case and => exact ⟨_, fun w => by cases k <;> rfl, h⟩
  case or => exact ⟨_, fun w => by cases k <;> rfl, h⟩
  case xor => exact ⟨_, fun w => by cases k <;> rfl, h⟩
  case andNot => exact ⟨_, fun w => by cases k <;> rfl, h⟩
  all_goals exact ⟨_, fun w => by simp [binOp, Op.intCmp], h⟩

theorem shiftK_ok {op : BinOp} {k k' : IntKind} {a b : Int} {K : Value → Prop} {ty : TypeId} (hs : op = .shl ∨ op = .shr) (h : shiftK op k a b K .mk) :
    ∃ v, (∀ w, (binOp op ty (.int k a) (.int k' b)).run P w = .ok v w) ∧ K v := by
  rcases hs with rfl | rfl
  · exact ⟨_, fun w => by simp [binOp, Op.shift, show ¬ b < 0 by have := h.1; omega], h.2⟩
  · exact ⟨_, fun w => by simp [binOp, Op.shift, show ¬ b < 0 by have := h.1; omega], h.2⟩

theorem toList_beq (a b : ByteArray) : (a.toList == b.toList) = (a.data.toList == b.data.toList) := by
  rw [ByteArray.toList_eq, ByteArray.toList_eq]

/-- In every world the operation hands back this value. -/
def Gives (P : Program) (o : Oper) (t : Fr) (v : Value) : Prop := ∀ w, (execOp (ev t) o).run P w = .ok (.value v) w

theorem binK_ok {o : Oper} {t : Fr} {L : VP} {op : BinOp} {ty yt : TypeId} {x y : Operand} {other : Prop} (ho : o.op = .binOp op ty x y yt)
    (h : binK op (ev t x) (ev t y) L other .mk) : other ∨ ∃ v, Gives P o t v ∧ L v := by
  have go : ∀ v, (∀ c, ev t x ≠ .agg c) → ev t x ≠ .nilIface → (∀ w, (binOp op ty (ev t x) (ev t y)).run P w = .ok v w) → L v → other ∨ ∃ v, Gives P o t v ∧ L v := fun v h1 h2 hr hk =>
    .inr ⟨v, fun w => execOp_bin ho (eqGuard_plain (.inl h2) h1 w) (hr w), hk⟩
  unfold binK at h
  split at h
  · rename_i a b hx hy
    obtain ⟨v, hr, hk⟩ := shiftK_ok (P := P) (ty := ty) (.inl rfl) h
    rw [hx, hy] at go
    exact go v (by simp) (by simp) hr hk
  · rename_i a b hx hy
    obtain ⟨v, hr, hk⟩ := shiftK_ok (P := P) (ty := ty) (.inr rfl) h
    rw [hx, hy] at go
    exact go v (by simp) (by simp) hr hk
  · rename_i k a k' b n1 n2 hx hy
    obtain ⟨rfl, h⟩ := h
    obtain ⟨v, hr, hk⟩ := intK_ok (P := P) (ty := ty) ⟨fun e => n1 e, fun e => n2 e⟩ h
    rw [hx, hy] at go
    exact go v (by simp) (by simp) hr hk
  · rename_i a b hx hy
    rw [hx, hy] at go
    refine go _ (by simp) (by simp) (fun w => ?_) h.2
    have := h.1
    simp [binOp, Op.stringOp, IntKind.max, IntKind.bits, IntKind.signed]
    omega
  · rename_i a b hx hy
    rw [hx, hy] at go
    exact go _ (by simp) (by simp) (fun w => by simp only [binOp, Op.stringOp, toList_beq]; simp) h
  · rename_i a b hx hy
    rw [hx, hy] at go
    exact go _ (by simp) (by simp) (fun w => by simp only [binOp, Op.stringOp, toList_beq]; simp) h
  · exact .inl h

theorem unK_ok {o : Oper} {t : Fr} {L : VP} {other : Prop} {op : UnOp} {ty : TypeId} {x : Operand} (ho : o.op = .unOp op ty x)
    (h : unK op (ev t x) L other .mk) : other ∨ ∃ v, Gives P o t v ∧ L v := by
  unfold unK at h
  split at h
  · rename_i k n hx
    exact .inr ⟨_, fun w => by unfold execOp; simp [ho, hx, Op.unary, Op.intArith], h⟩
  · rename_i b hx
    exact .inr ⟨_, fun w => by unfold execOp; simp [ho, hx, Op.unary], h⟩
  · exact .inl h

theorem eqGuard_nil {op : BinOp} {ty : TypeId} {x y : Operand} (h : (isConst x || isConst y) = true) (w : World) : (eqGuard op ty x y .nilIface .nilIface).run P w = .ok () w := by
  cases op <;> first | rfl | (cases x <;> cases y <;> first | rfl | (simp [isConst] at h))

theorem sizeOk_spec : ∀ (l : List Value) (n : Nat), sizeOk l n = true → l.length = n
  | [], 0, _ => rfl
  | [], n + 1, h => by simp [sizeOk] at h
  | _ :: l, 0, h => by simp [sizeOk] at h
  | _ :: l, n + 1, h => by simp [sizeOk] at h; simp [sizeOk_spec l n h]

theorem eqVal_kind {kind : Nat} {cst : Bool} {x y : Value} {b : Bool} (h : eqVal kind cst x y = some b) :
    (kind = 1 ∧ (x = .nilIface ∧ y = .nilIface ∧ cst = true ∧ b = true ∨ (∃ t v, x = .iface t v) ∧ y = .nilIface ∧ b = false ∨ x = .nilIface ∧ (∃ t v, y = .iface t v) ∧ b = false)) ∨
    (kind = 2 ∧ (x = .pointer none ∧ y = .pointer none ∧ b = true ∨ (∃ a, x = .pointer (some a)) ∧ y = .pointer none ∧ b = false ∨ x = .pointer none ∧ (∃ a, y = .pointer (some a)) ∧ b = false)) ∨
    (kind = 3 ∧ (∃ n c n' c' , y = .slice none n' c' ∧ (x = .slice none n c ∧ b = true ∨ (∃ a, x = .slice (some a) n c) ∧ b = false))) ∨
    (kind = 5 ∧ (x = .nilFunc ∧ y = .nilFunc ∧ b = true ∨ (∃ f g c, x = .func f g c) ∧ y = .nilFunc ∧ b = false)) ∨
    (kind = 6 ∧ ∃ p q, x = .bool p ∧ y = .bool q ∧ b = (p == q)) ∨
    (∃ n xs ys, kind = n + 7 ∧ x = .agg xs ∧ y = .agg ys ∧ xs.toList.length = n ∧ eqInts xs.toList ys.toList = some b) := by
  unfold eqVal at h
  split at h
  case h_12 =>
    split at h
    · rename_i n xs ys hs
      exact .inr (.inr (.inr (.inr (.inr ⟨_, _, _, rfl, rfl, rfl, sizeOk_spec _ _ hs, h⟩))))
    · cases h
  all_goals simp_all

theorem eqGuard_of_val {op : BinOp} {ty : TypeId} {x y : Operand} {t : Fr} {b : Bool} (h : eqVal (eqKind P ty) (isConst x || isConst y) (ev t x) (ev t y) = some b) (w : World) :
    (eqGuard op ty x y (ev t x) (ev t y)).run P w = .ok () w := by
  rcases eqVal_kind h with ⟨_, ⟨h1, h2, h3, _⟩ | ⟨⟨_, _, h1⟩, h2, _⟩ | ⟨h1, ⟨_, _, h2⟩, _⟩⟩ | ⟨_, ⟨h1, h2, _⟩ | ⟨⟨_, h1⟩, h2, _⟩ | ⟨h1, ⟨_, h2⟩, _⟩⟩ | ⟨_, _, _, _, _, h2, ⟨h1, _⟩ | ⟨⟨_, h1⟩, _⟩⟩ | ⟨_, ⟨h1, h2, _⟩ | ⟨⟨_, _, _, h1⟩, h2, _⟩⟩ | ⟨_, _, _, h1, h2, _⟩ | ⟨n, xs, ys, hk, h1, h2, _⟩
  case inl.inl => rw [h1, h2]; exact eqGuard_nil h3 w
  case inr.inr.inr.inr.inr =>
    rw [h1, h2]
    have hf : flatI P ty = true := by
      unfold eqKind at hk
      split at hk <;> first | (exfalso; omega) | skip
      split at hk
      · assumption
      · omega
    unfold flatI at hf
    split at hf
    · simp only [Bool.and_eq_true, Bool.not_eq_true'] at hf
      cases op <;> first | rfl | simp [eqGuard, hf.1.2]
    · cases hf
  all_goals (rw [h1, h2]; exact eqGuard_plain (by simp) (by simp) w)

theorem binOp_eql_val {ty : TypeId} {x y : Value} {kind : Nat} {cst b : Bool} (h : eqVal kind cst x y = some b) : binOp .eql ty x y = (do pure (.bool (← Op.equal ty x y))) := by
  rcases eqVal_kind h with ⟨_, ⟨rfl, rfl, h3, _⟩ | ⟨⟨_, _, rfl⟩, rfl, _⟩ | ⟨rfl, ⟨_, _, rfl⟩, _⟩⟩ | ⟨_, ⟨rfl, rfl, _⟩ | ⟨⟨_, rfl⟩, rfl, _⟩ | ⟨rfl, ⟨_, rfl⟩, _⟩⟩ | ⟨_, _, _, _, _, rfl, ⟨rfl, _⟩ | ⟨⟨_, rfl⟩, _⟩⟩ | ⟨_, ⟨rfl, rfl, _⟩ | ⟨⟨_, _, _, rfl⟩, rfl, _⟩⟩ | ⟨_, _, _, rfl, rfl, _⟩ | ⟨_, _, _, _, rfl, rfl, _⟩ <;> rfl

theorem binOp_neq_val {ty : TypeId} {x y : Value} {kind : Nat} {cst b : Bool} (h : eqVal kind cst x y = some b) : binOp .neq ty x y = (do pure (.bool (!(← Op.equal ty x y)))) := by
  rcases eqVal_kind h with ⟨_, ⟨rfl, rfl, h3, _⟩ | ⟨⟨_, _, rfl⟩, rfl, _⟩ | ⟨rfl, ⟨_, _, rfl⟩, _⟩⟩ | ⟨_, ⟨rfl, rfl, _⟩ | ⟨⟨_, rfl⟩, rfl, _⟩ | ⟨rfl, ⟨_, rfl⟩, _⟩⟩ | ⟨_, _, _, _, _, rfl, ⟨rfl, _⟩ | ⟨⟨_, rfl⟩, _⟩⟩ | ⟨_, ⟨rfl, rfl, _⟩ | ⟨⟨_, _, _, rfl⟩, rfl, _⟩⟩ | ⟨_, _, _, rfl, rfl, _⟩ | ⟨_, _, _, _, rfl, rfl, _⟩ <;> rfl

theorem tyK_one {ty : TypeId} (h : tyK P ty = some none) (w : World) : (isAgg ty).run P w = .ok false w ∧ (sizeOf ty).run P w = .ok 1 w := by
  unfold tyK at h
  split at h <;> try (cases h)
  rename_i d i h1 h2 hd hi
  split at h
  · rename_i hs
    refine ⟨?_, by simp [sizeOf, typeInfo, hi, hs]⟩
    simp only [isAgg, Sem.run_bind, run_underlying hd, Result.andThen_ok]
    cases d <;> first | rfl | simp_all
  · cases h

theorem tyK_many {ty : TypeId} {n : Nat} (h : tyK P ty = some (some n)) (w : World) : (isAgg ty).run P w = .ok true w ∧ (sizeOf ty).run P w = .ok n w := by
  unfold tyK at h
  split at h <;> try (cases h)
  · rename_i hd hi
    exact ⟨by simp [isAgg, run_underlying hd], by simp [sizeOf, typeInfo, hi]⟩
  · rename_i hd hi
    exact ⟨by simp [isAgg, run_underlying hd], by simp [sizeOf, typeInfo, hi]⟩
  · split at h <;> cases h

theorem part_one {ty : TypeId} (h : tyK P ty = some none) {cs : Array Value} {off : Nat} {v : Value} (hv : cs.toList[off]? = some v) (w : World) : (part ty cs off).run P w = .ok v w := by
  have hv' : cs[off]? = some v := by simpa using hv
  simp [part, (tyK_one h w).1, hv']

theorem part_many {ty : TypeId} {n : Nat} (h : tyK P ty = some (some n)) {cs : Array Value} {off : Nat} (w : World) : (part ty cs off).run P w = .ok (.agg ((cs.toList.drop off).take n).toArray) w := by
  simp only [part, Sem.run_bind, (tyK_many h w).1, (tyK_many h w).2, Result.andThen_ok, if_true, Sem.run_pure]
  congr 2
  apply Array.ext'
  simp [List.take_drop, Nat.add_comm]

theorem eqKind_spec {ty : TypeId} : (eqKind P ty = 1 → ∃ ms, P.underlying ty = some (.interface ms)) ∧ (eqKind P ty = 2 → ∃ e, P.underlying ty = some (.pointer e)) ∧ (eqKind P ty = 3 → ∃ e, P.underlying ty = some (.slice e)) ∧
    (eqKind P ty = 5 → ∃ a b c, P.underlying ty = some (.func a b c)) ∧ (eqKind P ty = 6 → P.underlying ty = some .bool) ∧ (∀ n, eqKind P ty = n + 7 → flatI P ty = true ∧ ∃ fs, P.underlying ty = some (.struct fs) ∧ fs.size = n) := by
  unfold eqKind
  split <;> simp_all
  split <;> simp_all

theorem eqInts_cons_elim {xs ys : List Value} {b : Bool} (h : eqInts xs ys = some b) : (xs = [] ∧ ys = [] ∧ b = true) ∨ ∃ k a c xs' ys' b', xs = .int k a :: xs' ∧ ys = .int k c :: ys' ∧ eqInts xs' ys' = some b' ∧ b = (decide (a = c) && b') := by
  unfold eqInts at h
  split at h
  · cases h; exact .inl ⟨rfl, rfl, rfl⟩
  · split at h
    · rename_i e
      subst e
      obtain ⟨b', h1, h2⟩ := Option.map_eq_some_iff.1 h
      exact .inr ⟨_, _, _, _, _, b', rfl, rfl, h1, h2.symm⟩
    · cases h
  · cases h

theorem eqFields_flat (d : Nat) (w : World) : ∀ (fs : List Field) (xs ys px py : List Value) (b : Bool), flatF P px.length fs = true → px.length = py.length → fs.length = xs.length → eqInts xs ys = some b →
    (Op.eqFields (d + 1) (px ++ xs).toArray (py ++ ys).toArray fs).run P w = .ok b w
  | [], xs, ys, px, py, b, _, _, hl, h => by
    have : xs = [] := List.eq_nil_of_length_eq_zero hl.symm
    subst this
    rcases eqInts_cons_elim h with ⟨_, _, rfl⟩ | ⟨_, _, _, _, _, _, h1, _⟩
    · simp [Op.eqFields]
    · cases h1
  | f :: fs, xs, ys, px, py, b, hf, hp, hl, h => by
    rcases eqInts_cons_elim h with ⟨rfl, _, _⟩ | ⟨k, a, c, xs, ys, b', rfl, rfl, h1, rfl⟩
    · simp at hl
    · simp only [flatF, Bool.and_eq_true, beq_iff_eq, bne_iff_ne] at hf
      obtain ⟨⟨⟨⟨ho, hn⟩, hu⟩, ht⟩, hr⟩ := hf
      have hu' : ∃ k, P.underlying f.type = some (.int k) := by
        split at hu
        · exact ⟨_, by assumption⟩
        · cases hu
      obtain ⟨k', hu'⟩ := hu'
      have e1 : (part f.type (px ++ .int k a :: xs).toArray f.offset).run P w = .ok (.int k a) w := part_one ht (by rw [ho]; simp) w
      have e2 : (part f.type (py ++ .int k c :: ys).toArray f.offset).run P w = .ok (.int k c) w := part_one ht (by rw [ho, hp]; simp) w
      have e3 : (Op.equalIn (d + 1) f.type (.int k a) (.int k c)).run P w = .ok (a == c) w := by
        simp [Op.equalIn, run_underlying hu']
      have ih := eqFields_flat d w fs xs ys (px ++ [.int k a]) (py ++ [.int k c]) b' (by simpa using hr) (by simp [hp]) (by simpa using hl) h1
      simp only [List.append_assoc, List.cons_append, List.nil_append] at ih
      simp only [Op.eqFields, hn, ne_eq, not_false_eq_true, if_true, Sem.run_bind, e1, e2, e3, Result.andThen_ok]
      by_cases hac : a = c
      · subst hac; simp [ih]
      · simp [hac]

theorem equal_of_val_at (d : Nat) {ty : TypeId} {x y : Value} {cst b : Bool} {w : World} (h : eqVal (eqKind P ty) cst x y = some b) : (Op.equalIn (d + 2) ty x y).run P w = .ok b w := by
  obtain ⟨k1, k2, k3, k5, k6, k7⟩ := eqKind_spec (P := P) (ty := ty)
  rcases eqVal_kind h with ⟨hk, hh⟩ | ⟨hk, hh⟩ | ⟨hk, hh⟩ | ⟨hk, hh⟩ | ⟨hk, hh⟩ | ⟨n, xs, ys, hk, rfl, rfl, hn, hh⟩
  · obtain ⟨ms, hu⟩ := k1 hk
    simp only [Op.equalIn, Sem.run_bind, run_underlying hu, Result.andThen_ok]
    rcases hh with ⟨rfl, rfl, _, rfl⟩ | ⟨⟨_, _, rfl⟩, rfl, rfl⟩ | ⟨rfl, ⟨_, _, rfl⟩, rfl⟩ <;> rfl
  · obtain ⟨ms, hu⟩ := k2 hk
    simp only [Op.equalIn, Sem.run_bind, run_underlying hu, Result.andThen_ok]
    rcases hh with ⟨rfl, rfl, rfl⟩ | ⟨⟨_, rfl⟩, rfl, rfl⟩ | ⟨rfl, ⟨_, rfl⟩, rfl⟩ <;> rfl
  · obtain ⟨ms, hu⟩ := k3 hk
    simp only [Op.equalIn, Sem.run_bind, run_underlying hu, Result.andThen_ok]
    rcases hh with ⟨_, _, _, _, rfl, ⟨rfl, rfl⟩ | ⟨⟨_, rfl⟩, rfl⟩⟩ <;> rfl
  · obtain ⟨_, _, _, hu⟩ := k5 hk
    simp only [Op.equalIn, Sem.run_bind, run_underlying hu, Result.andThen_ok]
    rcases hh with ⟨rfl, rfl, rfl⟩ | ⟨⟨_, _, _, rfl⟩, rfl, rfl⟩ <;> rfl
  · have hu := k6 hk
    simp only [Op.equalIn, Sem.run_bind, run_underlying hu, Result.andThen_ok]
    obtain ⟨_, _, rfl, rfl, rfl⟩ := hh
    rfl
  · obtain ⟨hf, fs, hu, hs⟩ := k7 n hk
    unfold flatI at hf
    rw [hu] at hf
    simp only [Bool.and_eq_true, Bool.not_eq_true'] at hf
    have hfs : P.fieldsOf ty = fs := by simp [Program.fieldsOf, hu]
    rw [run_equalIn_struct w (d + 1) ty xs ys (by rw [hfs]; exact hu) hf.2, hfs]
    have := eqFields_flat (P := P) d w fs.toList xs.toList ys.toList [] [] b hf.1.1 rfl (by rw [hn]; simpa using hs) hh
    simpa using this

theorem equal_of_val {ty : TypeId} {x y : Value} {cst b : Bool} {w : World} (h : eqVal (eqKind P ty) cst x y = some b) : (Op.equal ty x y).run P w = .ok b w := equal_of_val_at 9998 h

theorem run_loadCellsFrom (w : World) (a : Addr) : ∀ (n i : Nat) (acc : Array Value) (cs : List Value), cellsAt w a i n = some cs → (loadCellsFrom a i n acc).run P w = .ok (acc ++ cs.toArray) w
  | 0, i, acc, cs, h => by
    simp only [cellsAt, Option.some.injEq] at h
    subst h
    simp [loadCellsFrom]
  | n + 1, i, acc, cs, h => by
    unfold cellsAt at h
    split at h
    · rename_i v vs h1 h2
      cases h
      simp only [loadCellsFrom, load, Sem.run_bind, Sem.run, h1, Result.andThen_ok, run_loadCellsFrom w a n (i + 1) _ vs h2]
      simp
    · cases h

theorem fieldK_spec {ty : TypeId} {f off : Nat} {n : Option Nat} (h : fieldK P ty f = some (off, n)) : ∃ fs fl, P.underlying ty = some (.struct fs) ∧ fs[f]? = some fl ∧ fl.offset = off ∧ tyK P fl.type = some n ∧ n ≠ some 0 := by
  unfold fieldK at h
  split at h
  · rename_i fs hfs
    split at h
    · rename_i fl hfl
      refine ⟨fs, fl, hfs, hfl, ?_⟩
      split at h
      · rename_i ht; cases h; exact ⟨rfl, ht, by simp⟩
      · rename_i m ht
        split at h
        · cases h
        · cases h; exact ⟨rfl, ht, by simp_all⟩
      · cases h
    · cases h
  · cases h

theorem elemK_spec {ty e : TypeId} {n : Nat} (h : elemK P ty = some (e, n)) : P.underlying ty = some (.slice e) ∧ ∃ i, P.info? e = some i ∧ i.size = n := by
  unfold elemK at h
  split at h
  · rename_i e' hu
    cases hi : P.info? e' with
    | none => simp [hi] at h
    | some i => simp [hi] at h; obtain ⟨rfl, rfl⟩ := h; exact ⟨hu, i, hi, rfl⟩
  · cases h

theorem arrK_spec {ty e : TypeId} {m n : Nat} (h : arrK P ty = some (m, e, n)) : P.underlying ty = some (.array m e) ∧ ∃ i, P.info? e = some i ∧ i.size = n := by
  unfold arrK at h
  split at h
  · rename_i m' e' hu
    cases hi : P.info? e' with
    | none => simp [hi] at h
    | some i => simp [hi] at h; obtain ⟨rfl, rfl, rfl⟩ := h; exact ⟨hu, i, hi, rfl⟩
  · cases h

theorem runK_val {o : Oper} {t : Fr} {w : World} {K : VK} {Q : EP} {s : Sem Value} (ho : execOp (ev t) o = (do pure (.value (← s)))) (h : valK P s t w K Q .mk) : runK P o t w K Q .mk := by
  unfold runK; rw [ho]; exact h

theorem runK_unit {o : Oper} {t : Fr} {w : World} {K : VK} {Q : EP} {s : Sem Unit} (ho : execOp (ev t) o = (do s; pure .skip)) (h : unitK P s t w K Q .mk) : runK P o t w K Q .mk := by
  unfold runK; rw [ho]; exact h

theorem valK_of {s : Sem Value} {t : Fr} {w w' : World} {K : VK} {Q : EP} {v : Value} (h : s.run P w = .ok v w') (k : K v w') : valK P s t w K Q .mk := by
  unfold valK
  simp only [Sem.run_bind, h, Result.andThen_ok, Sem.run_pure]
  exact k

theorem unitK_of {s : Sem Unit} {t : Fr} {w w' : World} {K : VK} {Q : EP} (h : s.run P w = .ok () w') (k : K undef w') : unitK P s t w K Q .mk := by
  unfold unitK
  simp only [Sem.run_bind, h, Result.andThen_ok, Sem.run_pure]
  exact k

theorem optK_elim {α : Type} {x : Option α} {K : α → Prop} (h : optK x K .mk) : ∃ v, x = some v ∧ K v := by
  unfold optK at h
  split at h
  · exact ⟨_, rfl, h⟩
  · exact h.elim

theorem str_toList (s : ByteArray) : str s.data.toList = .string s := by simp [str]

theorem data_length (s : ByteArray) : s.data.toList.length = s.size := by rw [Array.length_toList]; rfl

theorem run_sliceBound {i : Int} {k : IntKind} {y : Nat} {code : BoundsCode} (h : 0 ≤ i ∧ i ≤ y) (w : World) : (Instr.sliceBound (.int k i) y code).run P w = .ok i.toNat w := by
  simp [Instr.sliceBound, asIntOf, h]

theorem run_sliceBounds {isS : Bool} {len cap : Nat} {lo hi : Option Value} {l h : Int} (hl : natAt lo 0 = some l) (hh : natAt hi len = some h) (b : 0 ≤ l ∧ l ≤ h ∧ h ≤ cap) (w : World) :
    (Instr.sliceBounds isS len cap lo hi none).run P w = .ok (l.toNat, h.toNat, cap) w := by
  have low : ∀ (v : Option Value), natAt v 0 = some l → (match v with | some v => Instr.sliceBound v h.toNat .sliceB | none => pure 0).run P w = .ok l.toNat w := by
    intro v hv
    cases v with
    | none => simp [natAt] at hv; subst hv; rfl
    | some v =>
      cases v <;> simp [natAt] at hv
      subst hv
      exact run_sliceBound (by omega) w
  cases hi with
  | none =>
    simp [natAt] at hh
    subst hh
    cases lo with
    | none => simp [natAt] at hl; subst hl; simp [Instr.sliceBounds]
    | some v =>
      cases v <;> simp [natAt] at hl
      subst hl
      simp [Instr.sliceBounds, run_sliceBound (P := P) (show 0 ≤ _ ∧ _ ≤ _ from ⟨b.1, b.2.1⟩) w]
  | some v =>
    cases v <;> simp [natAt] at hh
    subst hh
    rename_i k i
    have e1 : ∀ c, (Instr.sliceBound (.int k i) cap c).run P w = .ok i.toNat w := fun c => run_sliceBound (by omega) w
    have e2 : ((i.toNat : Nat) : Int) = i := by omega
    cases lo with
    | none => simp [natAt] at hl; subst hl; simp [Instr.sliceBounds, e1]
    | some v =>
      cases v <;> simp [natAt] at hl
      subst hl
      simp [Instr.sliceBounds, e1, run_sliceBound (P := P) (show 0 ≤ _ ∧ _ ≤ ((i.toNat : Nat) : Int) from ⟨b.1, by omega⟩) w]

theorem splice_cons : ∀ (l : List Value) (n : Nat) (c : Value) (cs : List Value), splice (l.set n c) (n + 1) cs = splice l n (c :: cs)
  | [], n, c, cs => by cases n <;> simp [splice]
  | x :: l, 0, c, cs => by simp [splice]
  | x :: l, n + 1, c, cs => by simp [splice, splice_cons l n c cs]

theorem splice_fold : ∀ (cs : List Value) (off k : Nat) (l : List Value), (cs.zipIdx k).foldl (fun a (p : Value × Nat) => a.set (off + p.2) p.1) l = splice l (off + k) cs
  | [], off, k, l => by
    have : ∀ (l : List Value) (n : Nat), splice l n [] = l := by
      intro l
      induction l with
      | nil => intro n; cases n <;> simp [splice]
      | cons x l ih => intro n; cases n <;> simp [splice, ih]
    simp [this]
  | c :: cs, off, k, l => by
    simp only [List.zipIdx_cons, List.foldl_cons]
    rw [splice_fold cs off (k + 1), ← Nat.add_assoc, splice_cons]

theorem splice_length : ∀ (l : List Value) (n : Nat) (cs : List Value), (splice l n cs).length = l.length
  | [], n, cs => by cases n <;> cases cs <;> simp [splice]
  | x :: l, 0, [] => by simp [splice]
  | x :: l, 0, c :: cs => by simp [splice, splice_length l 0 cs]
  | x :: l, n + 1, cs => by simp [splice, splice_length l n cs]

theorem cellsL_eq (v : Value) : v.cells.toList = cellsL v := by cases v <;> rfl

theorem fill_eq (places : List (Nat × Nat)) : ∀ (parts : List (Nat × Value)) (cells : List Value) (cs : List Value), buildL places cells parts = some cs →
    Instr.fill (fun i => places[i]?) cells.toArray parts = some cs.toArray
  | [], cells, cs, h => by simp [buildL] at h; simp [Instr.fill, h]
  | (i, v) :: rest, cells, cs, h => by
    simp only [buildL] at h
    simp only [Instr.fill]
    split at h
    · rename_i off size hp
      simp only [hp]
      split at h
      · rename_i hc
        simp only [Bool.and_eq_true, decide_eq_true_eq] at hc
        have h1 := sizeOk_spec _ _ hc.1
        have h2 : v.cells.size = size := by rw [← h1, ← cellsL_eq, Array.length_toList]
        rw [if_neg (by simp [h2]; omega)]
        rw [← fill_eq places rest _ cs h]
        congr 1
        apply Array.ext'
        have h3 := splice_fold (cellsL v) off 0 cells
        rw [Nat.add_zero] at h3
        rw [← h3, ← cellsL_eq]
        rw [← Array.foldl_toList]
        have : ∀ (ps : List (Value × Nat)) (a : Array Value), (ps.foldl (fun cs p => cs.setIfInBounds (off + p.2) p.1) a).toList = ps.foldl (fun a p => a.set (off + p.2) p.1) a.toList := by
          intro ps
          induction ps with
          | nil => intro a; rfl
          | cons p ps ih => intro a; simp only [List.foldl_cons, ih, Array.toList_setIfInBounds]
        rw [this]
        simp [Array.toList_zipIdx]
      · cases h
    · cases h

theorem run_build {ty : TypeId} {z : List Value} {places : List (Nat × Nat)} {parts : List (Nat × Value)} {cs : List Value} (hb : bldI P ty = some (z, places)) (h : buildL places z parts = some cs) (w : World) :
    (Instr.build ty parts.toArray).run P w = .ok (.agg cs.toArray) w := by
  unfold bldI at hb
  split at hb
  · rename_i i fs hi hu
    split at hb
    · rename_i zv hz
      split at hb
      · rename_i hall
        simp only [Option.some.injEq, Prod.mk.injEq] at hb
        obtain ⟨rfl, rfl⟩ := hb
        have hm : ∀ (l : List Field), l.all (fun f => (P.info? f.type).isSome) = true → (l.mapM (m := Sem) fun f => do pure (f.offset, ← sizeOf f.type)).run P w = .ok (l.map fun f => (f.offset, ((P.info? f.type).map (·.size)).getD 0)) w := by
          intro l
          induction l with
          | nil => intro _; rfl
          | cons f l ih =>
            intro hl
            simp only [List.all_cons, Bool.and_eq_true] at hl
            obtain ⟨j, hj⟩ := Option.isSome_iff_exists.1 hl.1
            have hs : (sizeOf f.type).run P w = .ok j.size w := by simp [sizeOf, typeInfo, hj]
            simp only [List.mapM_cons, Sem.run_bind, hs, Result.andThen_ok, Sem.run_pure, ih hl.2, List.map_cons, hj, Option.map_some, Option.getD_some]
        have hm' : (fs.mapM (m := Sem) fun f => do pure (f.offset, ← sizeOf f.type)).run P w = .ok (fs.toList.map fun f => (f.offset, ((P.info? f.type).map (·.size)).getD 0)).toArray w := by
          have e : fs = fs.toList.toArray := by simp
          rw [e, List.mapM_toArray, map_eq_pure_bind]
          simp only [Sem.run_bind, hm fs.toList hall, Result.andThen_ok, Sem.run_pure]
        have hf := fill_eq _ parts _ cs h
        unfold Instr.build
        have hz' : (zeroValue ty).run P w = .ok zv w := by simp [zeroValue, typeInfo, hi, hz]
        simp only [Sem.run_bind, hz', Result.andThen_ok, run_underlying hu]
        simp only [hm', Result.andThen_ok]
        have e1 : zv.cells = (cellsL zv).toArray := by rw [← cellsL_eq]
        rw [e1]
        have e2 : (fun i : Nat => (fs.toList.map fun f => (f.offset, ((P.info? f.type).map (·.size)).getD 0)).toArray[i]?) = (fun i : Nat => (fs.toList.map fun f => (f.offset, ((P.info? f.type).map (·.size)).getD 0))[i]?) := by funext i; simp
        rw [e2, hf]
        rfl
      · cases hb
    · cases hb
  · cases hb

theorem pureK_ok {o : Oper} {t : Fr} {L : VP} {other : Prop} (h : pureK P o t L other .mk) : other ∨ ∃ v, Gives P o t v ∧ L v := by
  unfold pureK at h
  split at h
  · rename_i x ho; exact .inr ⟨_, fun w => by unfold execOp; simp only [ho]; rfl, h⟩
  · rename_i x ho; exact .inr ⟨_, fun w => by unfold execOp; simp only [ho]; rfl, h⟩
  · rename_i c a b ho
    unfold pickK at h
    split at h
    · rename_i x hx
      exact .inr ⟨_, fun w => by unfold execOp; simp only [ho, hx]; simp [asBool], h⟩
    · exact h.elim
  · rename_i op ty x y yt ho
    have h' := binK_ok (P := P) ho h
    clear h
    rcases h' with h | h
    · unfold eqNilK at h
      split at h
      · rename_i b hb
        exact .inr ⟨_, fun w => execOp_bin ho (eqGuard_of_val hb w) (by rw [binOp_eql_val hb]; simp [equal_of_val hb]), h⟩
      · rename_i b hb
        exact .inr ⟨_, fun w => execOp_bin ho (eqGuard_of_val hb w) (by rw [binOp_neq_val hb]; simp [equal_of_val hb]), h⟩
      · exact .inl h
    · exact .inr h
  · rename_i op ty x ho; exact unK_ok ho h
  · rename_i x i ho
    unfold extractK at h
    split at h
    · rename_i vs hx
      split at h
      · rename_i v hv
        refine .inr ⟨_, fun w => ?_, h⟩
        have hv' : vs[i]? = some v := by simpa using hv
        unfold execOp
        simp [ho, hx, Instr.extract, hv']
      · exact h.elim
    · exact h.elim
  · rename_i s d x ho
    unfold convK at h
    split at h
    · rename_i k k' n hd hx
      refine .inr ⟨_, fun w => ?_, h⟩
      split at hd
      · rename_i hs
        obtain ⟨s', hs'⟩ := Option.isSome_iff_exists.1 hs
        unfold execOp
        simp [ho, hx, convert, run_underlying hd, run_underlying hs', Conv.intToInt]
      · cases hd
    · rename_i k hd hx
      refine .inr ⟨_, fun w => ?_, h⟩
      split at hd
      · rename_i hs
        obtain ⟨s', hs'⟩ := Option.isSome_iff_exists.1 hs
        unfold execOp
        simp [ho, hx, convert, run_underlying hd, run_underlying hs']
      · cases hd
    · exact .inl h
  · rename_i ty x i ho
    unfold indexK at h
    split at h
    · rename_i s k n hd hx hi
      obtain ⟨⟨h0, h1⟩, h⟩ := h
      refine .inr ⟨_, fun w => ?_, h⟩
      have hlt : n.toNat < s.size := by
        have e : s.data.toList.length = s.size := by rw [Array.length_toList]; rfl
        rw [e] at h1
        omega
      have e1 : s[n.toNat]? = some (s.data.toList.getD n.toNat 0) := by
        rw [getElem?_pos s n.toNat hlt]
        simp [List.getD_eq_getElem?_getD, ByteArray.getElem_eq_getElem_data, hlt]
      unfold execOp
      simp only [ho, hx, hi, Instr.index, asIntOf, Sem.run_bind, Sem.run_pure, Result.andThen_ok, run_underlying hd, h0, if_true, e1]
    · exact .inl h
  · rename_i fn first cap ho; exact .inr ⟨_, fun w => by unfold execOp; simp only [ho, Instr.makeFunc]; rfl, h⟩
  · rename_i ty parts ho
    unfold buildK at h
    split at h
    · rename_i z places hb
      obtain ⟨cs, hc, hk⟩ := optK_elim h
      refine .inr ⟨_, fun w => ?_, hk⟩
      have hr := run_build (P := P) hb hc w
      have e : (parts.toList.map fun (p : Nat × Operand) => (p.1, ev t p.2)).toArray = parts.map fun (p : Nat × Operand) => (p.1, ev t p.2) := by apply Array.ext'; simp
      unfold execOp
      simp only [ho]
      rw [show (Array.map (fun (x : Nat × Operand) => match x with | (i, x) => (i, ev t x)) parts) = (parts.toList.map fun (p : Nat × Operand) => (p.1, ev t p.2)).toArray from e.symm]
      simp only [Sem.run_bind]
      rw [show (List.map (fun (x : Nat × Operand) => match x with | (i, x) => (i, ev t x)) parts.toList) = (parts.toList.map fun (p : Nat × Operand) => (p.1, ev t p.2)) from rfl] at hr
      rw [hr]
      rfl
    · exact h.elim
  · rename_i args aty ho
    split at h
    · rename_i x ty ha ht
      have ha' : args = #[x] := by rw [← Array.toArray_toList (xs := args), ha]
      have ht' : aty = #[ty] := by rw [← Array.toArray_toList (xs := aty), ht]
      unfold lenK at h
      split at h
      · rename_i s hd hx
        exact .inr ⟨_, fun w => by unfold execOp; simp [ho, ha', ht', resolve, invoke, builtin, Builtin.len_, hx, run_underlying hd, goInt], h⟩
      · rename_i e a n c hd hx
        exact .inr ⟨_, fun w => by unfold execOp; simp [ho, ha', ht', resolve, invoke, builtin, Builtin.len_, hx, run_underlying hd, goInt], h⟩
      · exact .inl h
    · exact .inl h
  · rename_i args aty ho
    unfold mmK at h
    split at h
    · rename_i k a k' b ha
      have ha' : (args.map (ev t)) = #[.int k a, .int k' b] := by rw [← Array.toArray_toList (xs := args.map (ev t)), Array.toList_map, ha]
      exact .inr ⟨_, fun w => by unfold execOp; simp only [ho, resolve, ha']; simp [invoke, builtin, Builtin.max_, Builtin.max2], h⟩
    · exact .inl h
  · rename_i args aty ho
    unfold mmK at h
    split at h
    · rename_i k a k' b ha
      have ha' : (args.map (ev t)) = #[.int k a, .int k' b] := by rw [← Array.toArray_toList (xs := args.map (ev t)), Array.toList_map, ha]
      exact .inr ⟨_, fun w => by unfold execOp; simp only [ho, resolve, ha']; simp [invoke, builtin, Builtin.min_, Builtin.min2], h⟩
    · exact .inl h
  · rename_i ty x f ho
    unfold fieldAddrK at h
    split at h
    · rename_i off n a hf hx
      obtain ⟨fs, fl, hu, hfl, rfl, ht, hn⟩ := fieldK_spec hf
      refine .inr ⟨_, fun w => ?_, h⟩
      have hs : ∀ w : World, ∃ m, (sizeOf fl.type).run P w = .ok m w ∧ m ≠ 0 := fun w => by
        cases n with
        | none => exact ⟨1, (tyK_one ht w).2, by simp⟩
        | some m => exact ⟨m, (tyK_many ht w).2, fun e => hn (by rw [e])⟩
      obtain ⟨m, hm, hm0⟩ := hs w
      unfold execOp
      simp [ho, hx, Instr.fieldAt, run_underlying hu, hfl, Instr.sureAddr, fieldPlace, hm, hm0]
    · exact h.elim
  · rename_i ty x f ho
    unfold partK at h
    split at h
    · rename_i off cs hf hx
      obtain ⟨fs, fl, hu, hfl, rfl, ht, hn⟩ := fieldK_spec hf
      obtain ⟨v, hc, hk⟩ := optK_elim h
      refine .inr ⟨_, fun w => ?_, hk⟩
      unfold execOp
      simp [ho, hx, Instr.field, run_underlying hu, hfl, asAgg, part_one ht hc w]
    · rename_i off n cs hf hx
      obtain ⟨fs, fl, hu, hfl, rfl, ht, hn⟩ := fieldK_spec hf
      refine .inr ⟨_, fun w => ?_, h⟩
      unfold execOp
      simp [ho, hx, Instr.field, run_underlying hu, hfl, asAgg, part_many ht w]
    · exact h.elim
  · rename_i ty x i ho
    unfold indexAddrK at h
    split at h
    · rename_i e size _ a n c k i' he hx hi
      obtain ⟨hu, ii, hinfo, rfl⟩ := elemK_spec he
      obtain ⟨hb, h⟩ := h
      refine .inr ⟨_, fun w => ?_, h⟩
      unfold execOp
      simp [ho, hx, hi, Instr.indexAt, asIntOf, run_underlying hu, hb, sizeOf, typeInfo, hinfo]
    · rename_i n e size a k i' _ he hx hi
      obtain ⟨hu, ii, hinfo, rfl⟩ := arrK_spec he
      obtain ⟨hb, h⟩ := h
      refine .inr ⟨_, fun w => ?_, h⟩
      unfold execOp
      simp [ho, hx, hi, Instr.indexAt, Instr.sureAddr, asIntOf, run_underlying hu, hb, sizeOf, typeInfo, hinfo]
    · exact h.elim
  · rename_i ty x lo hi mx ho
    unfold sliceK at h
    split at h
    · rename_i s hu hx hm
      split at h
      · rename_i l hh h1 h2
        obtain ⟨hb, hk⟩ := h
        refine .inr ⟨_, fun w => ?_, hk⟩
        have e := fun is => run_sliceBounds (P := P) (isS := is) (cap := s.data.toList.length) h1 h2 hb w
        rw [data_length] at e
        unfold execOp
        have hm' : Option.map (ev t) mx = none := hm
        simp only [ho, hx, Instr.sliceAt, run_underlying hu, Instr.slice, hm', Sem.run_bind, Result.andThen_ok, Option.isSome_none, Bool.false_eq_true, if_false, e, Sem.run_pure]
        simp only [str]
        congr 3
        apply ByteArray.ext
        apply Array.ext'
        simp [ByteArray.data_extract, List.drop_take]
      · exact h.elim
    · rename_i e' a len cap hu hx hm
      split at h
      · rename_i e size l hh he h1 h2
        obtain ⟨hu', ii, hinfo, rfl⟩ := elemK_spec he
        obtain ⟨hb, hk⟩ := h
        refine .inr ⟨_, fun w => ?_, hk⟩
        have e := fun is => run_sliceBounds (P := P) (isS := is) (cap := cap) h1 h2 hb w
        have hm' : Option.map (ev t) mx = none := hm
        rw [hu] at hu'
        cases hu'
        unfold execOp
        simp only [ho, hx, Instr.sliceAt, run_underlying hu, Instr.slice, hm', Sem.run_bind, Result.andThen_ok, e, Sem.run_pure]
        have : ((cap : Int) = l) ↔ (cap = l.toNat) := by omega
        simp [sizeOf, typeInfo, hinfo, this]
      · exact h.elim
    · exact .inl h
  · rename_i ty x ho
    unfold ifaceK at h
    split at h
    · exact .inl h
    · rename_i hk
      refine .inr ⟨_, fun w => ?_, h⟩
      split at hk
      · rename_i hs
        obtain ⟨d, hd⟩ := Option.isSome_iff_exists.1 hs
        unfold execOp
        simp only [ho, Instr.makeInterface, Sem.run_bind, run_underlying hd, Result.andThen_ok]
        cases d <;> first | (simp; done) | (exfalso; exact hk (by simp [eqKind, hd]))
      · exact absurd rfl hk
  · exact .inl h

theorem opK_ok {o : Oper} {t : Fr} {w : World} {K : Value → World → Prop} {Q : EP} (h : opK P o t w K Q .mk) : runK P o t w K Q .mk := by
  unfold opK at h
  split at h
  · rename_i f args aty ho
    unfold funK at h
    split at h
    · rename_i g first cap hf
      unfold callK at h
      unfold runK execOp
      have e : (first.toList ++ args.toList.map (ev t) ++ cap.toList).toArray = first ++ args.map (ev t) ++ cap := by apply Array.ext'; simp
      rw [e] at h
      simp only [ho, resolve, hf, Deferred.ofValue, Sem.run_bind, Sem.run_pure, Result.andThen_ok, invoke]
      exact h
    · exact h
  · rename_i ty x ho
    unfold loadK at h
    split at h
    · rename_i a ht hx
      obtain ⟨v, hc, hk⟩ := optK_elim h
      refine runK_value ?_ hk
      unfold execOp
      simp [ho, hx, Instr.loadAt, Instr.sureAddr, loadVar, (tyK_one ht w).1, load, Sem.run, hc]
    · rename_i n a ht hx
      obtain ⟨v, hc, hk⟩ := optK_elim h
      refine runK_value ?_ hk
      unfold execOp
      simp [ho, hx, Instr.loadAt, Instr.sureAddr, loadVar, (tyK_many ht w).1, (tyK_many ht w).2, loadCells, run_loadCellsFrom (P := P) w a n 0 #[] v hc]
    · exact h.elim
  · rename_i ty x v ho
    have hu : ∀ h : unitK P (Instr.storeAt ty (ev t x) (ev t v)) t w K Q .mk, runK P o t w K Q .mk := fun h => runK_unit (by unfold execOp; simp only [ho]) h
    unfold storeK at h
    split at h
    · rename_i a ht hx
      obtain ⟨h1, h2, h3, hk⟩ := h
      obtain ⟨u, hc⟩ := Option.isSome_iff_exists.1 h2
      refine hu (unitK_of ?_ hk)
      have e1 : (ev t v).cells = #[ev t v] := by
        generalize ev t v = u at h1
        cases u <;> simp_all [Value.cells, oneCell]
      have e2 : ∀ k : Sem Unit, (Sem.store .plain a (ev t v) k).run P w = k.run P (w.setCell a (ev t v)) := fun k => by
        generalize ev t v = u at h1
        cases u <;> simp_all [Sem.run, oneCell]
      have e3 : a.add 0 = a := by simp [Addr.add]
      rw [hx]
      simp only [Instr.storeAt, Instr.sureAddr, Sem.run_bind, Sem.run_pure, Result.andThen_ok, storeVar, (tyK_one ht w).2, e1, List.size_toArray, List.length_cons, List.length_nil, ne_eq, not_true_eq_false, if_false, storeCells, store, e3, Nat.zero_add]
      simp only [e2, Sem.run]
      rfl
    · exact hu h
  · rename_i e x ho
    exact runK_value (by unfold execOp; simp [ho, Instr.box, newVar, newRow]) h
  · rename_i e ho; exact runK_val (by unfold execOp; simp only [ho]) h
  · rename_i s d x ho
    rcases pureK_ok (P := P) (o := o) (t := t) (L := (K · w)) (other := valK P (convert s d (ev t x)) t w K Q .mk) (by unfold pureK; simp only [ho]; exact h) with h | ⟨v, hg, hk⟩
    · exact runK_val (by unfold execOp; simp only [ho]) h
    · exact runK_value (hg w) hk
  · rename_i ty n ps ho; exact runK_val (by unfold execOp; simp only [ho]) h
  · rename_i ty l c ho; exact runK_val (by unfold execOp; simp only [ho]) h
  · rename_i ty r ho; exact runK_val (by unfold execOp; simp only [ho]) h
  · rename_i ty x i ok ho; exact runK_val (by unfold execOp; simp only [ho]) h
  · rename_i ty m k x ho; exact runK_unit (by unfold execOp; simp only [ho]) h
  · rename_i ty m k x ho; exact runK_unit (by unfold execOp; simp only [ho]) h
  · rename_i x xt at_ ok ho; exact runK_val (by unfold execOp; simp only [ho]) h
  · rename_i x ho; exact runK_val (by unfold execOp; simp only [ho]) h
  · rename_i ty x ho; exact runK_val (by unfold execOp; simp only [ho]) h
  · rename_i args aty ho; exact runK_val (by unfold execOp; simp only [ho]; rfl) h
  · rename_i args aty ho; exact runK_val (by unfold execOp; simp only [ho]; rfl) h
  · rcases pureK_ok (P := P) h with h | ⟨v, hg, hk⟩
    · exact h
    · exact runK_value (hg w) hk

theorem opK_mono {o : Oper} {t : Fr} {w : World} {K K' : Value → World → Prop} {Q : EP} (hk : ∀ v w', K v w' → K' v w') (h : opK P o t w K Q .mk) : runK P o t w K' Q .mk := runK_mono hk (opK_ok h)

theorem wp_of_opK {o : Oper} {t : Fr} {w : World} {K : Value → World → Prop} {Q : EP} {next : Act → World → Prop}
    (hn : ∀ v w', K v w' → next ⟨(put t o.dst v).toArray, []⟩ w') (h : opK P o t w K Q .mk) : o.wp P ⟨t.toArray, []⟩ w next (lift Q) := by
  have h' := opK_ok h
  unfold runK at h'
  unfold Oper.wp
  rw [ev_eq]
  exact resK_upon hn h'

theorem set_getD_same (t : Fr) (s : Nat) (h : s < t.length) : t.set s (t.getD s undef) = t := by
  apply List.ext_getElem?
  intro i
  rw [List.getElem?_set]
  split
  · rename_i e; subst e
    simp [h, List.getD_eq_getElem?_getD]
  · rfl

theorem yielded_eq (ops : List Oper) (t : Fr) (j : Nat) : yielded ops.toArray t.toArray j = ((slotOf ops j).bind (t[·]?)).bind (fun | .bool b => some b | _ => none) := by
  unfold yielded slotOf
  simp only [List.getElem?_toArray]
  cases (ops[j]?).bind (·.dst) with
  | none => rfl
  | some s =>
    simp only [Option.bind_some]
    cases t[s]? with
    | none => rfl
    | some v => cases v <;> rfl

theorem vcOps_ok {ops : List Oper} {K : Fr → World → Prop} {Q : EP} {next : Exit → Act → World → Prop} (hn : ∀ t w, K t w → next .normal ⟨t.toArray, []⟩ w) (hq : ∀ e a w, lift Q e a w → next e a w) :
    ∀ (l : List Oper) (t : Fr) (w : World), vcOps P ops K Q l t w .mk → wpList P ops.toArray next l ⟨t.toArray, []⟩ w
  | [], t, w, h => hn t w h
  | o :: r, t, w, h => by
    have step : ∀ (t' : Fr), Region.wanted o (yielded ops.toArray t'.toArray) = true → opK P o t' w (fun v w' => vcOps P ops K Q r (put t' o.dst v) w' .mk) Q .mk → wpList P ops.toArray next (o :: r) ⟨t'.toArray, []⟩ w := fun t' hw h' => by
      unfold wpList
      rw [if_pos hw]
      refine .inl ?_
      have := wp_of_opK (next := wpList P ops.toArray next r) (fun v w' hk => vcOps_ok hn hq r _ w' hk) h'
      unfold Oper.wp at this ⊢
      generalize (execOp _ o).run P w = res at this
      cases res with
      | ok n w' =>
        cases n <;> simp only [Oper.upon] at this ⊢ <;> first | exact this | skip
        exact this.mono fun e w'' he => by
          cases e with
          | returned v => exact he
          | panicked c => exact hq _ _ _ he
          | outgrown => obtain ⟨a₀, w₀, hh⟩ := he; exact ⟨a₀, w₀, hq _ _ _ hh⟩
      | halt x w' => cases x <;> simp only [Oper.upon] at this ⊢ <;> first | exact this | exact hq _ _ _ this
    have skip : ∀ (t' : Fr), Region.wanted o (yielded ops.toArray t'.toArray) = false → vcOps P ops K Q r (put t' o.dst undef) w .mk → wpList P ops.toArray next (o :: r) ⟨t'.toArray, []⟩ w := fun t' hw h' => by
      unfold wpList
      rw [if_neg (by rw [hw]; simp)]
      rw [put_eq]
      exact vcOps_ok hn hq r _ w h'
    simp only [vcOps] at h
    split at h
    · rename_i hg
      exact step t (by simp [Region.wanted, hg]) h
    · rename_i j want hg
      have hwant : ∀ t' : Fr, Region.wanted o (yielded ops.toArray t'.toArray) = (yielded ops.toArray t'.toArray j == some want) := fun t' => by simp only [Region.wanted, hg]
      unfold guardK at h
      split at h
      · rename_i hs
        exact skip t (by rw [hwant, yielded_eq, hs]; rfl) h
      · rename_i s hs
        split at h
        · rename_i b hb
          have hlt : s < t.length := by
            rcases Nat.lt_or_ge s t.length with h' | h'
            · exact h'
            · simp [List.getD_eq_getElem?_getD, List.getElem?_eq_none h', undef] at hb
          have hv : t[s]? = some (.bool b) := by
            rw [List.getD_eq_getElem?_getD] at hb
            rw [List.getElem?_eq_getElem hlt] at hb ⊢
            simpa using hb
          have hy : yielded ops.toArray t.toArray j = some b := by rw [yielded_eq, hs]; simp [hv]
          have same := set_getD_same t s hlt
          rw [hb] at same
          by_cases hbw : b = want
          · subst hbw
            have h1 := h.1 rfl
            rw [same] at h1
            exact step t (by rw [hwant, hy]; simp) h1
          · have hbn : b = !want := by cases b <;> cases want <;> simp_all
            have h2 := h.2 hbn
            rw [← hbn, same] at h2
            exact skip t (by rw [hwant, hy]; simpa using hbw) h2
        · rename_i hb
          refine skip t ?_ h
          rw [hwant, yielded_eq, hs]
          simp only [Option.bind_some]
          cases hv : t[s]? with
          | none => rfl
          | some v =>
            have : t.getD s undef = v := by rw [List.getD_eq_getElem?_getD, hv]; rfl
            rw [this] at hb
            cases v <;> simp at hb ⊢

theorem wpL_mono {c : Code} {Q Q' : EP} {t : Fr} {w : World} (hq : ∀ e t w, Q e t w → Q' e t w) (h : wpL P c Q t w .mk) : wpL P c Q' t w .mk :=
  Code.wp_mono (fun _ _ _ hh => ⟨hh.1, hq _ _ _ hh.2⟩) h

theorem act_eq {a : Act} (h : a.defers = []) : a = ⟨a.tmps.toList.toArray, []⟩ := by cases a; simp_all

theorem vc_ok : ∀ (c : Code) (Q : EP) (t : Fr) (w : World), vc P c Q t w .mk → wpL P c Q t w .mk
  | .skip, _, _, _, h => wp_skip ⟨rfl, by simpa [vc] using h⟩
  | .region _ ops false, Q, t, w, h => by
    refine wp_region_list ?_
    have := vcOps_ok (P := P) (ops := ops.toList) (next := lift Q) (fun t w hk => ⟨rfl, by simpa using hk⟩) (fun _ _ _ h => h) ops.toList t w h
    simpa using this
  | .region _ _ true, _, _, _, h => h
  | .seq a b, Q, t, w, h => by
    refine wp_seq (Code.wp_mono ?_ (vc_ok a _ t w h))
    rintro e a' w' ⟨hd, hh⟩
    cases e <;> simp only [seqQ] at hh <;> simp only [Exit.then] <;> first | exact ⟨hd, hh⟩ | skip
    have := vc_ok b Q _ w' hh
    rw [act_eq hd]
    exact this
  | .cond c a b, Q, t, w, h => by
    simp only [vc] at h
    unfold condK at h
    split at h
    · rename_i x hx
      refine wp_cond_split (t := x) (by rw [ev_eq]; exact hx) (fun hx' => vc_ok a Q t w (h.1 hx')) (fun hx' => vc_ok b Q t w (h.2 hx'))
    · exact h.elim
  | .block i c, Q, t, w, h => by
    refine wp_block (Code.wp_mono ?_ (vc_ok c _ t w h))
    rintro e a' w' ⟨hd, hh⟩
    cases e <;> simp only [blockQ] at hh <;> simp only [Exit.inBlock] <;> first | exact ⟨hd, hh⟩ | skip
    split at hh
    · rename_i e; simp only [e, if_true]; exact ⟨hd, hh⟩
    · rename_i e; simp only [e, if_false]; exact ⟨hd, hh⟩
  | .exit i, _, _, _, h => wp_exit ⟨rfl, by simpa [vc] using h⟩
  | .ret, _, _, _, h => wp_ret ⟨rfl, by simpa [vc] using h⟩
  | .label _, _, _, _, h => wp_label ⟨rfl, by simpa [vc] using h⟩
  | .goto l, _, _, _, h => wp_goto ⟨rfl, by simpa [vc] using h⟩
  | .loop _, _, _, _, h => h
  | .scope _, _, _, _, h => h
  | .rangeFunc .., _, _, _, h => h
  | .refuse _, _, _, _, h => h
end
end Go.Vc
