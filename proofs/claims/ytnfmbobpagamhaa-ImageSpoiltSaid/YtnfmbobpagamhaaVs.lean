import Derived.Test.YtnfmbobpagamhaaVc
namespace Go.Vc
open Go.RowKit

section
variable {P : Program} {t : Fr} {w : World} {K : VK} {Q : EP} {N : Fr → World → Prop} {L : VP} {other : Prop}

/-- Numbered operands, evaluated. -/
def evs (t : Fr) : List (Nat × Operand) → List (Nat × Value)
  | ps => ps.map fun (i, x) => (i, ev t x)
theorem evs_nil (t : Fr) : evs t [] = [] := (rfl)
theorem evs_cons (t : Fr) (i x ps) : evs t ((i, x) :: ps) = (i, ev t x) :: evs t ps := (rfl)
theorem ev_tmp (i : Nat) : ev t (.tmp i) = t.getD i undef := (rfl)
theorem ev_const (v : Value) : ev t (.const v) = v := (rfl)
theorem ev_global (g : Nat) : ev t (.global g) = .pointer (some ⟨g, 0, none⟩) := (rfl)
theorem ev_func (f : FuncId) : ev t (.func f) = .func (.func f) #[] #[] := (rfl)
theorem put_some (d : Nat) (v : Value) : put t (some d) v = t.set d v := (rfl)
theorem put_none (v : Value) : put t none v = t := (rfl)
theorem get_zero (x : Value) (l : List Value) (d : Value) : (x :: l).getD 0 d = x := (rfl)
theorem get_succ (x : Value) (l : List Value) (n : Nat) (d : Value) : (x :: l).getD (n + 1) d = l.getD n d := (rfl)
theorem set_zero (x : Value) (l : List Value) (v : Value) : (x :: l).set 0 v = v :: l := (rfl)
theorem set_succ (x : Value) (l : List Value) (n : Nat) (v : Value) : (x :: l).set (n + 1) v = x :: l.set n v := (rfl)

theorem vc_skip (p) : vc P .skip Q t w p = Q .normal t w := (rfl)
theorem vc_region (id : Nat) (l : List Oper) (p) : vc P (.region id l.toArray false) Q t w p = vcOps P l (Q .normal) Q l t w .mk := (rfl)
theorem vc_draw (id : Nat) (l : Array Oper) (p) : vc P (.region id l true) Q t w p = wpL P (.region id l true) Q t w .mk := (rfl)
theorem vc_seq (a b : Code) (p) : vc P (.seq a b) Q t w p = vc P a (seqQ (fun t w => vc P b Q t w .mk) Q .mk) t w .mk := (rfl)
theorem vc_cond (c : Operand) (a b : Code) (p) : vc P (.cond c a b) Q t w p = condK (ev t c) (vc P a Q t w .mk) (vc P b Q t w .mk) .mk := (rfl)
theorem vc_block (i : Nat) (c : Code) (p) : vc P (.block i c) Q t w p = vc P c (blockQ i Q .mk) t w .mk := (rfl)
theorem vc_exit (i : Nat) (p) : vc P (.exit i) Q t w p = Q (.exit i) t w := (rfl)
theorem vc_ret (p) : vc P .ret Q t w p = Q .ret t w := (rfl)
theorem vc_label (l : Nat) (p) : vc P (.label l) Q t w p = Q .normal t w := (rfl)
theorem vc_goto (l : Nat) (p) : vc P (.goto l) Q t w p = Q (.goto l) t w := (rfl)
theorem vc_loop (c : Code) (p) : vc P (.loop c) Q t w p = wpL P (.loop c) Q t w .mk := (rfl)
theorem vc_scope (c : Code) (p) : vc P (.scope c) Q t w p = wpL P (.scope c) Q t w .mk := (rfl)
theorem vc_rangeFunc (f ps a b p) : vc P (.rangeFunc f ps a b) Q t w p = wpL P (.rangeFunc f ps a b) Q t w .mk := (rfl)

theorem seqQ_normal (Q : EP) (p) : seqQ N Q p .normal t w = N t w := (rfl)
theorem seqQ_ret (Q : EP) (p) : seqQ N Q p .ret t w = Q .ret t w := (rfl)
theorem seqQ_exit (Q : EP) (i : Nat) (p) : seqQ N Q p (.exit i) t w = Q (.exit i) t w := (rfl)
theorem seqQ_goto (Q : EP) (i : Nat) (p) : seqQ N Q p (.goto i) t w = Q (.goto i) t w := (rfl)
theorem seqQ_panic (Q : EP) (c) (p) : seqQ N Q p (.panic c) t w = Q (.panic c) t w := (rfl)
theorem blockQ_normal (Q : EP) (i : Nat) (p) : blockQ i Q p .normal t w = Q .normal t w := (rfl)
theorem blockQ_ret (Q : EP) (i : Nat) (p) : blockQ i Q p .ret t w = Q .ret t w := (rfl)
theorem blockQ_goto (Q : EP) (i j : Nat) (p) : blockQ i Q p (.goto j) t w = Q (.goto j) t w := (rfl)
theorem blockQ_panic (Q : EP) (i : Nat) (c) (p) : blockQ i Q p (.panic c) t w = Q (.panic c) t w := (rfl)
theorem blockQ_same (Q : EP) (i : Nat) (p) : blockQ i Q p (.exit i) t w = Q .normal t w := by simp [blockQ]
theorem blockQ_other (Q : EP) (i j : Nat) (p) (h : (j == i) = false) : blockQ i Q p (.exit j) t w = Q (.exit j) t w := by simp [blockQ, show ¬ j = i by simpa using h]

theorem vcOps_nil (ops) (p) : vcOps P ops N Q [] t w p = N t w := (rfl)
theorem vcOps_move (ops) (d x ty pos af r) (p) : vcOps P ops N Q (⟨some d, .move x, ty, pos, af, none⟩ :: r) t w p = vcOps P ops N Q r (t.set d (ev t x)) w .mk := (rfl)
theorem vcOps_assign (ops) (d x ty pos af r) (p) : vcOps P ops N Q (⟨some d, .assign x, ty, pos, af, none⟩ :: r) t w p = vcOps P ops N Q r (t.set d (ev t x)) w .mk := (rfl)
theorem vcOps_plain (ops) (d op ty pos af r) (p) : vcOps P ops N Q (⟨d, op, ty, pos, af, none⟩ :: r) t w p = opK P ⟨d, op, ty, pos, af, none⟩ t w (fun v w' => vcOps P ops N Q r (put t d v) w' .mk) Q .mk := (rfl)
theorem vcOps_guard (ops) (d op ty pos af j want r) (p) : vcOps P ops N Q (⟨d, op, ty, pos, af, some (j, want)⟩ :: r) t w p =
    guardK (slotOf ops j) want t (fun t' => opK P ⟨d, op, ty, pos, af, some (j, want)⟩ t' w (fun v w' => vcOps P ops N Q r (put t' d v) w' .mk) Q .mk) (fun t' => vcOps P ops N Q r (put t' d undef) w .mk) .mk := rfl
theorem slotOf_zero (o : Oper) (l : List Oper) : slotOf (o :: l) 0 = o.dst := (rfl)
theorem slotOf_succ (o : Oper) (l : List Oper) (n : Nat) : slotOf (o :: l) (n + 1) = slotOf l n := (rfl)
theorem oper_dst (d op ty pos af g) : (Oper.mk d op ty pos af g).dst = d := (rfl)

/-- A guard: read off its slot. -/
def gK (v : Value) (s : Nat) (want : Bool) (t : Fr) (yes no : Fr → Prop) (_ : Ph (yes, no)) : Prop := match v with
  | .bool b => (b = want → yes (t.set s (.bool want))) ∧ (b = !want → no (t.set s (.bool !want)))
  | _ => no t
theorem guardK_eq (s : Nat) (want : Bool) (yes no : Fr → Prop) (p) : guardK (some s) want t yes no p = gK (t.getD s undef) s want t yes no .mk := by
  simp only [guardK, gK]
  generalize t.getD s undef = v
  cases v <;> rfl
theorem guardK_none (want : Bool) (yes no : Fr → Prop) (p) : guardK none want t yes no p = no t := (rfl)
theorem gK_tt (s : Nat) (yes no : Fr → Prop) (p) : gK (.bool true) s true t yes no p = yes (t.set s (.bool true)) := by simp [gK]
theorem gK_ff (s : Nat) (yes no : Fr → Prop) (p) : gK (.bool false) s false t yes no p = yes (t.set s (.bool false)) := by simp [gK]
theorem gK_tf (s : Nat) (yes no : Fr → Prop) (p) : gK (.bool true) s false t yes no p = no (t.set s (.bool true)) := by simp [gK]
theorem gK_ft (s : Nat) (yes no : Fr → Prop) (p) : gK (.bool false) s true t yes no p = no (t.set s (.bool false)) := by simp [gK]
theorem gK_undef (s : Nat) (want : Bool) (yes no : Fr → Prop) (p) : gK undef s want t yes no p = no t := (rfl)
theorem gK_t (b : Bool) (s : Nat) (yes no : Fr → Prop) (p) : gK (.bool b) s true t yes no p = ((b = true → yes (t.set s (.bool true))) ∧ (b = false → no (t.set s (.bool false)))) := by simp [gK]
theorem gK_f (b : Bool) (s : Nat) (yes no : Fr → Prop) (p) : gK (.bool b) s false t yes no p = ((b = false → yes (t.set s (.bool false))) ∧ (b = true → no (t.set s (.bool true)))) := by simp [gK]

theorem condK_tt (x y : Prop) (p) : condK (.bool true) x y p = x := by simp [condK]
theorem condK_ff (x y : Prop) (p) : condK (.bool false) x y p = y := by simp [condK]
theorem condK_b (b : Bool) (x y : Prop) (p) : condK (.bool b) x y p = ((b = true → x) ∧ (b = false → y)) := (rfl)
theorem condK_dec (q : Prop) [Decidable q] (x y : Prop) (p) : condK (.bool (decide q)) x y p = ((q → x) ∧ (¬ q → y)) := by simp [condK]
theorem condK_not (b : Bool) (x y : Prop) (p) : condK (.bool (!b)) x y p = condK (.bool b) y x .mk := by cases b <;> simp [condK]
theorem gK_t_dec (q : Prop) [Decidable q] (s : Nat) (yes no : Fr → Prop) (p) : gK (.bool (decide q)) s true t yes no p = ((q → yes (t.set s (.bool true))) ∧ (¬ q → no (t.set s (.bool false)))) := by simp [gK]
theorem gK_f_dec (q : Prop) [Decidable q] (s : Nat) (yes no : Fr → Prop) (p) : gK (.bool (decide q)) s false t yes no p = ((¬ q → yes (t.set s (.bool false))) ∧ (q → no (t.set s (.bool true)))) := by simp [gK]
theorem pickK_tt (a b : Value) (p) : pickK (.bool true) a b L p = L a := (rfl)
theorem pickK_ff (a b : Value) (p) : pickK (.bool false) a b L p = L b := (rfl)
theorem pickK_b (c x y : Bool) (p) : pickK (.bool c) (.bool x) (.bool y) L p = L (.bool (if c then x else y)) := by cases c <;> rfl

/-! operations -/
theorem opK_move (d x ty pos af g) (p) : opK P ⟨d, .move x, ty, pos, af, g⟩ t w K Q p = K (ev t x) w := (rfl)
theorem opK_assign (d x ty pos af g) (p) : opK P ⟨d, .assign x, ty, pos, af, g⟩ t w K Q p = K (ev t x) w := (rfl)
theorem opK_pick (d c a b ty pos af g) (p) : opK P ⟨d, .pick c a b, ty, pos, af, g⟩ t w K Q p = pickK (ev t c) (ev t a) (ev t b) (K · w) .mk := (rfl)
theorem opK_bin (d op xt x y yt ty pos af g) (p) : opK P ⟨d, .binOp op xt x y yt, ty, pos, af, g⟩ t w K Q p =
    binK op (ev t x) (ev t y) (K · w) (eqNilK (eqKind P xt) (isConst x || isConst y) op (ev t x) (ev t y) (K · w) (runK P ⟨d, .binOp op xt x y yt, ty, pos, af, g⟩ t w K Q .mk) .mk) .mk := rfl
theorem opK_un (d op xt x ty pos af g) (p) : opK P ⟨d, .unOp op xt x, ty, pos, af, g⟩ t w K Q p = unK op (ev t x) (K · w) (runK P ⟨d, .unOp op xt x, ty, pos, af, g⟩ t w K Q .mk) .mk := (rfl)
theorem opK_extract (d x i ty pos af g) (p) : opK P ⟨d, .extract x i, ty, pos, af, g⟩ t w K Q p = extractK (ev t x) i (K · w) .mk := (rfl)
theorem opK_convert (d s e x ty pos af g) (p) : opK P ⟨d, .convert s e x, ty, pos, af, g⟩ t w K Q p = convK (if (P.underlying s).isSome then P.underlying e else none) (ev t x) (K · w) (valK P (convert s e (ev t x)) t w K Q .mk) .mk := (rfl)
theorem opK_index (d xt x i ty pos af g) (p) : opK P ⟨d, .index xt x i, ty, pos, af, g⟩ t w K Q p = indexK (P.underlying xt) (ev t x) (ev t i) (K · w) (runK P ⟨d, .index xt x i, ty, pos, af, g⟩ t w K Q .mk) .mk := (rfl)
theorem opK_makeFunc (d fn) (a c : List Operand) (ty pos af g) (p) : opK P ⟨d, .makeFunc fn a.toArray c.toArray, ty, pos, af, g⟩ t w K Q p = K (.func fn (a.map (ev t)).toArray (c.map (ev t)).toArray) w := by
  simp [opK, pureK]
theorem opK_call (d f) (args : List Operand) (aty ty pos af g) (p) : opK P ⟨d, .call { callee := .value f, args := args.toArray, argTypes := aty }, ty, pos, af, g⟩ t w K Q p =
    funK P (ev t f) (args.map (ev t)) t w K Q (runK P ⟨d, .call { callee := .value f, args := args.toArray, argTypes := aty }, ty, pos, af, g⟩ t w K Q .mk) .mk := rfl
theorem opK_len (d x aty ty pos af g) (p) : opK P ⟨d, .call { callee := .builtin .len, args := #[x], argTypes := #[aty] }, ty, pos, af, g⟩ t w K Q p =
    lenK (P.underlying aty) (ev t x) (K · w) (runK P ⟨d, .call { callee := .builtin .len, args := #[x], argTypes := #[aty] }, ty, pos, af, g⟩ t w K Q .mk) .mk := rfl
theorem opK_max (d) (args : List Operand) (aty ty pos af g) (p) : opK P ⟨d, .call { callee := .builtin .max, args := args.toArray, argTypes := aty }, ty, pos, af, g⟩ t w K Q p =
    mmK true (args.map (ev t)) (K · w) (runK P ⟨d, .call { callee := .builtin .max, args := args.toArray, argTypes := aty }, ty, pos, af, g⟩ t w K Q .mk) .mk := rfl
theorem opK_min (d) (args : List Operand) (aty ty pos af g) (p) : opK P ⟨d, .call { callee := .builtin .min, args := args.toArray, argTypes := aty }, ty, pos, af, g⟩ t w K Q p =
    mmK false (args.map (ev t)) (K · w) (runK P ⟨d, .call { callee := .builtin .min, args := args.toArray, argTypes := aty }, ty, pos, af, g⟩ t w K Q .mk) .mk := rfl
theorem opK_load (d xt x ty pos af g) (p) : opK P ⟨d, .load xt x, ty, pos, af, g⟩ t w K Q p = loadK (tyK P xt) (ev t x) w K .mk := (rfl)
theorem opK_store (d xt x v ty pos af g) (p) : opK P ⟨d, .store xt x v, ty, pos, af, g⟩ t w K Q p = storeK (tyK P xt) (ev t x) (ev t v) w K (unitK P (Instr.storeAt xt (ev t x) (ev t v)) t w K Q .mk) .mk := (rfl)
theorem opK_fieldAddr (d xt x f ty pos af g) (p) : opK P ⟨d, .fieldAddr xt x f, ty, pos, af, g⟩ t w K Q p = fieldAddrK (fieldK P xt f) (ev t x) (K · w) .mk := (rfl)
theorem opK_field (d xt x f ty pos af g) (p) : opK P ⟨d, .field xt x f, ty, pos, af, g⟩ t w K Q p = partK (fieldK P xt f) (ev t x) (K · w) .mk := (rfl)
theorem opK_indexAddr (d xt x i ty pos af g) (p) : opK P ⟨d, .indexAddr xt x i, ty, pos, af, g⟩ t w K Q p = indexAddrK (elemK P xt) (arrK P xt) (ev t x) (ev t i) (K · w) .mk := (rfl)
theorem opK_slice (d xt x lo hi mx ty pos af g) (p) : opK P ⟨d, .slice xt x lo hi mx, ty, pos, af, g⟩ t w K Q p =
    sliceK (P.underlying xt) (elemK P xt) (ev t x) (lo.map (ev t)) (hi.map (ev t)) (mx.map (ev t)) (K · w) (runK P ⟨d, .slice xt x lo hi mx, ty, pos, af, g⟩ t w K Q .mk) .mk := rfl
theorem opK_iface (d xt x ty pos af g) (p) : opK P ⟨d, .makeInterface xt x, ty, pos, af, g⟩ t w K Q p =
    ifaceK (if (P.underlying xt).isSome then eqKind P xt else 1) xt (ev t x) (K · w) (runK P ⟨d, .makeInterface xt x, ty, pos, af, g⟩ t w K Q .mk) .mk := rfl
theorem opK_box (d e x ty pos af g) (p) : opK P ⟨d, .box e x, ty, pos, af, g⟩ t w K Q p = boxK e (ev t x) w K .mk := (rfl)
theorem opK_alloc (d e ty pos af g) (p) : opK P ⟨d, .alloc e, ty, pos, af, g⟩ t w K Q p = valK P (Instr.alloc e true (.tuple #[])) t w K Q .mk := (rfl)
theorem opK_build (d bt) (ps : List (Nat × Operand)) (ty pos af g) (p) : opK P ⟨d, .build bt ps.toArray, ty, pos, af, g⟩ t w K Q p = buildK (bldI P bt) (evs t ps) (K · w) .mk := (rfl)
theorem opK_buildSlice (d bt n) (ps : List (Nat × Operand)) (ty pos af g) (p) : opK P ⟨d, .buildSlice bt n ps.toArray, ty, pos, af, g⟩ t w K Q p = valK P (Instr.buildSlice bt n (evs t ps).toArray) t w K Q .mk := by
  simp [opK, evs]
theorem opK_makeSlice (d bt l c ty pos af g) (p) : opK P ⟨d, .makeSlice bt l c, ty, pos, af, g⟩ t w K Q p = valK P (Instr.makeSlice bt (ev t l) (ev t c)) t w K Q .mk := (rfl)
theorem opK_makeMap (d bt r ty pos af g) (p) : opK P ⟨d, .makeMap bt r, ty, pos, af, g⟩ t w K Q p = valK P (Instr.makeMap bt (r.map (ev t))) t w K Q .mk := (rfl)
theorem opK_lookup (d bt x i ok ty pos af g) (p) : opK P ⟨d, .lookup bt x i ok, ty, pos, af, g⟩ t w K Q p = valK P (Instr.lookup bt (ev t x) (ev t i) ok) t w K Q .mk := (rfl)
theorem opK_mapUpdate (d bt m k x ty pos af g) (p) : opK P ⟨d, .mapUpdate bt m k x, ty, pos, af, g⟩ t w K Q p = unitK P (Instr.mapUpdate bt (ev t m) (ev t k) (ev t x)) t w K Q .mk := (rfl)
theorem opK_insert (d bt m k x ty pos af g) (p) : opK P ⟨d, .insert bt m k x, ty, pos, af, g⟩ t w K Q p = unitK P (Instr.mapUpdate bt (ev t m) (ev t k) (ev t x)) t w K Q .mk := (rfl)
theorem opK_typeAssert (d x xt at_ ok ty pos af g) (p) : opK P ⟨d, .typeAssert x xt at_ ok, ty, pos, af, g⟩ t w K Q p = valK P (Instr.typeAssert (ev t x) xt at_ ok) t w K Q .mk := (rfl)
theorem opK_panic (d x ty pos af g) (p) : opK P ⟨d, .panic x, ty, pos, af, g⟩ t w K Q p = valK P (Instr.panic (ev t x)) t w K Q .mk := (rfl)
theorem opK_range (d xt x ty pos af g) (p) : opK P ⟨d, .range xt x, ty, pos, af, g⟩ t w K Q p = valK P (Instr.range xt (ev t x)) t w K Q .mk := (rfl)
theorem opK_append (d) (args : List Operand) (aty ty pos af g) (p) : opK P ⟨d, .call { callee := .builtin .append, args := args.toArray, argTypes := aty }, ty, pos, af, g⟩ t w K Q p =
    valK P (Builtin.append_ aty ty (args.map (ev t)).toArray) t w K Q .mk := by simp [opK]
theorem opK_copy (d) (args : List Operand) (aty ty pos af g) (p) : opK P ⟨d, .call { callee := .builtin .copy, args := args.toArray, argTypes := aty }, ty, pos, af, g⟩ t w K Q p =
    valK P (Builtin.copy_ aty ty (args.map (ev t)).toArray) t w K Q .mk := by simp [opK]

theorem funK_func (g : FuncId) (a c : List Value) (args : List Value) (p) : funK P (.func (.func g) a.toArray c.toArray) args t w K Q other p = callK P g (a ++ args ++ c) t w K Q .mk := (rfl)

/-! values -/
theorem arithK_i64 (n : Int) (p) : arithK .i64 n L p = ((-9223372036854775808 ≤ n ∧ n ≤ 9223372036854775807) ∧ L (.int .i64 n)) := (rfl)
theorem arithK_u8 (n : Int) (p) : arithK .u8 n L p = L (.int .u8 (IntKind.u8.wrap n)) := (rfl)
theorem arithK_u32 (n : Int) (p) : arithK .u32 n L p = L (.int .u32 (IntKind.u32.wrap n)) := (rfl)
theorem arithK_u64 (n : Int) (p) : arithK .u64 n L p = L (.int .u64 (IntKind.u64.wrap n)) := (rfl)
theorem arithK_i32 (n : Int) (p) : arithK .i32 n L p = L (.int .i32 (IntKind.i32.wrap n)) := (rfl)
section
variable (k k' : IntKind) (a b : Int)
theorem binK_add (p) : binK .add (.int k a) (.int k b) L other p = arithK k (a + b) L .mk := by simp [binK, intK]
theorem binK_sub (p) : binK .sub (.int k a) (.int k b) L other p = arithK k (a - b) L .mk := by simp [binK, intK]
theorem binK_mul (p) : binK .mul (.int k a) (.int k b) L other p = arithK k (a * b) L .mk := by simp [binK, intK]
theorem binK_quo (p) : binK .quo (.int k a) (.int k b) L other p = (b ≠ 0 ∧ L (.int k (k.wrap (a.tdiv b)))) := by simp [binK, intK]
theorem binK_rem (p) : binK .rem (.int k a) (.int k b) L other p = (b ≠ 0 ∧ L (.int k (a.tmod b))) := by simp [binK, intK]
theorem binK_and (p) : binK .and (.int k a) (.int k b) L other p = L (.int k (bitop .and k a b)) := by simp [binK, intK]
theorem binK_or (p) : binK .or (.int k a) (.int k b) L other p = L (.int k (bitop .or k a b)) := by simp [binK, intK]
theorem binK_xor (p) : binK .xor (.int k a) (.int k b) L other p = L (.int k (bitop .xor k a b)) := by simp [binK, intK]
theorem binK_andNot (p) : binK .andNot (.int k a) (.int k b) L other p = L (.int k (bitop .andNot k a b)) := by simp [binK, intK]
theorem binK_eql (p) : binK .eql (.int k a) (.int k b) L other p = L (.bool (decide (a = b))) := by simp [binK, intK]; rfl
theorem binK_neq (p) : binK .neq (.int k a) (.int k b) L other p = L (.bool (decide (a ≠ b))) := by
  have : (a != b) = decide (a ≠ b) := by by_cases h : a = b <;> simp [h]
  simp only [binK, intK, this]; simp
theorem binK_lss (p) : binK .lss (.int k a) (.int k b) L other p = L (.bool (decide (a < b))) := by simp [binK, intK]
theorem binK_leq (p) : binK .leq (.int k a) (.int k b) L other p = L (.bool (decide (a ≤ b))) := by simp [binK, intK]
theorem binK_gtr (p) : binK .gtr (.int k a) (.int k b) L other p = L (.bool (decide (b < a))) := by simp [binK, intK]
theorem binK_geq (p) : binK .geq (.int k a) (.int k b) L other p = L (.bool (decide (b ≤ a))) := by simp [binK, intK]
theorem binK_shl (p) : binK .shl (.int k a) (.int k' b) L other p = (0 ≤ b ∧ L (.int k (k.wrap (a * 2 ^ min b.toNat k.bits)))) := (rfl)
theorem binK_shr (p) : binK .shr (.int k a) (.int k' b) L other p = (0 ≤ b ∧ L (.int k (a.fdiv (2 ^ min b.toNat k.bits)))) := (rfl)
end
theorem binK_str_add (a b : List UInt8) (p) : binK .add (str a) (str b) L other p = (((a.length : Int) + b.length ≤ 9223372036854775807) ∧ L (str (a ++ b))) := by
  simp [binK, str, ByteArray.size]
  intro _
  rw [show ({ data := a.toArray } : ByteArray) ++ { data := b.toArray } = { data := (a ++ b).toArray } from by apply ByteArray.ext; simp]
theorem binK_str_eql (a b : List UInt8) (p) : binK .eql (str a) (str b) L other p = L (.bool (decide (a = b))) := by
  have : (a == b) = decide (a = b) := by by_cases h : a = b <;> simp [h]
  simp [binK, str, this]
theorem binK_str_neq (a b : List UInt8) (p) : binK .neq (str a) (str b) L other p = L (.bool (decide (a ≠ b))) := by
  have : (!(a == b)) = decide (a ≠ b) := by by_cases h : a = b <;> simp [h]
  simp only [binK, str, this]
theorem binK_nil_eql_l (y : Value) (p) : binK .eql .nilIface y L other p = other := by cases y <;> rfl
theorem binK_nil_neq_l (y : Value) (p) : binK .neq .nilIface y L other p = other := by cases y <;> rfl
theorem binK_iface_eql (ty v y) (p) : binK .eql (.iface ty v) y L other p = other := by cases y <;> rfl
theorem binK_iface_neq (ty v y) (p) : binK .neq (.iface ty v) y L other p = other := by cases y <;> rfl
theorem binK_ptr_eql (a y) (p) : binK .eql (.pointer a) y L other p = other := by cases y <;> rfl
theorem binK_ptr_neq (a y) (p) : binK .neq (.pointer a) y L other p = other := by cases y <;> rfl
theorem binK_slice_eql (a n c y) (p) : binK .eql (.slice a n c) y L other p = other := by cases y <;> rfl
theorem binK_slice_neq (a n c y) (p) : binK .neq (.slice a n c) y L other p = other := by cases y <;> rfl
theorem binK_bool_eql (b y) (p) : binK .eql (.bool b) y L other p = other := by cases y <;> rfl
theorem binK_bool_neq (b y) (p) : binK .neq (.bool b) y L other p = other := by cases y <;> rfl
theorem binK_agg_eql (b y) (p) : binK .eql (.agg b) y L other p = other := by cases y <;> rfl
theorem binK_agg_neq (b y) (p) : binK .neq (.agg b) y L other p = other := by cases y <;> rfl
theorem binK_nilFunc_eql (y) (p) : binK .eql .nilFunc y L other p = other := by cases y <;> rfl
theorem binK_func_eql (a b c y) (p) : binK .eql (.func a b c) y L other p = other := by cases y <;> rfl
theorem eqNilK_eql (kind cst x y) (p) : eqNilK kind cst .eql x y L other p = (match eqVal kind cst x y with | some b => L (.bool b) | none => other) := by
  unfold eqNilK; cases eqVal kind cst x y <;> rfl
theorem eqNilK_neq (kind cst x y) (p) : eqNilK kind cst .neq x y L other p = (match eqVal kind cst x y with | some b => L (.bool !b) | none => other) := by
  unfold eqNilK; cases eqVal kind cst x y <;> rfl
theorem eq_1nn (p) : eqNilK 1 true .eql .nilIface .nilIface L other p = L (.bool true) := (rfl)
theorem eq_1in (ty v c) (p) : eqNilK 1 c .eql (.iface ty v) .nilIface L other p = L (.bool false) := (rfl)
theorem neq_1nn (p) : eqNilK 1 true .neq .nilIface .nilIface L other p = L (.bool false) := (rfl)
theorem neq_1in (ty v c) (p) : eqNilK 1 c .neq (.iface ty v) .nilIface L other p = L (.bool true) := (rfl)
theorem eq_2nn (c) (p) : eqNilK 2 c .eql (.pointer none) (.pointer none) L other p = L (.bool true) := (rfl)
theorem eq_2sn (a c) (p) : eqNilK 2 c .eql (.pointer (some a)) (.pointer none) L other p = L (.bool false) := (rfl)
theorem neq_2nn (c) (p) : eqNilK 2 c .neq (.pointer none) (.pointer none) L other p = L (.bool false) := (rfl)
theorem neq_2sn (a c) (p) : eqNilK 2 c .neq (.pointer (some a)) (.pointer none) L other p = L (.bool true) := (rfl)
theorem eq_6 (a b c) (p) : eqNilK 6 c .eql (.bool a) (.bool b) L other p = L (.bool (a == b)) := (rfl)
theorem neq_6 (a b c) (p) : eqNilK 6 c .neq (.bool a) (.bool b) L other p = L (.bool (!(a == b))) := (rfl)
theorem eqInts_nil : eqInts [] [] = some true := (rfl)
theorem eqInts_cons (k a b xs ys) : eqInts (.int k a :: xs) (.int k b :: ys) = (eqInts xs ys).map (decide (a = b) && ·) := by simp [eqInts]
theorem bmap_some (f : Bool → Bool) (b : Bool) : Option.map f (some b) = some (f b) := (rfl)
/-- what comes of an equality that is told -/
def optE (b : Option Bool) (L : VP) (neg : Bool) (other : Prop) (_ : Ph (L, other)) : Prop := match b with
  | some b => L (.bool (xor neg b))
  | none => other
theorem eq_7 (n c) (xs ys : List Value) (p) (h : sizeOk xs n = true) : eqNilK (n + 7) c .eql (.agg xs.toArray) (.agg ys.toArray) L other p = optE (eqInts xs ys) L false other .mk := by
  simp only [eqNilK, eqVal, h, optE]
  cases eqInts xs ys <;> simp
theorem neq_7 (n c) (xs ys : List Value) (p) (h : sizeOk xs n = true) : eqNilK (n + 7) c .neq (.agg xs.toArray) (.agg ys.toArray) L other p = optE (eqInts xs ys) L true other .mk := by
  simp only [eqNilK, eqVal, h, optE]
  cases eqInts xs ys <;> simp
theorem eq_s1 (c) (x0 y0 : Value) (p) : eqNilK 8 c .eql (.agg #[x0]) (.agg #[y0]) L other p = optE (eqInts [x0] [y0]) L false other .mk := eq_7 1 c [x0] [y0] p rfl
theorem eq_s2 (c) (x0 x1 y0 y1 : Value) (p) : eqNilK 9 c .eql (.agg #[x0, x1]) (.agg #[y0, y1]) L other p = optE (eqInts [x0, x1] [y0, y1]) L false other .mk := eq_7 2 c [x0, x1] [y0, y1] p rfl
theorem eq_s3 (c) (x0 x1 x2 y0 y1 y2 : Value) (p) : eqNilK 10 c .eql (.agg #[x0, x1, x2]) (.agg #[y0, y1, y2]) L other p = optE (eqInts [x0, x1, x2] [y0, y1, y2]) L false other .mk := eq_7 3 c [x0, x1, x2] [y0, y1, y2] p rfl
theorem eq_s4 (c) (x0 x1 x2 x3 y0 y1 y2 y3 : Value) (p) : eqNilK 11 c .eql (.agg #[x0, x1, x2, x3]) (.agg #[y0, y1, y2, y3]) L other p = optE (eqInts [x0, x1, x2, x3] [y0, y1, y2, y3]) L false other .mk := eq_7 4 c [x0, x1, x2, x3] [y0, y1, y2, y3] p rfl
theorem eq_s5 (c) (x0 x1 x2 x3 x4 y0 y1 y2 y3 y4 : Value) (p) : eqNilK 12 c .eql (.agg #[x0, x1, x2, x3, x4]) (.agg #[y0, y1, y2, y3, y4]) L other p = optE (eqInts [x0, x1, x2, x3, x4] [y0, y1, y2, y3, y4]) L false other .mk := eq_7 5 c [x0, x1, x2, x3, x4] [y0, y1, y2, y3, y4] p rfl
theorem eq_s6 (c) (x0 x1 x2 x3 x4 x5 y0 y1 y2 y3 y4 y5 : Value) (p) : eqNilK 13 c .eql (.agg #[x0, x1, x2, x3, x4, x5]) (.agg #[y0, y1, y2, y3, y4, y5]) L other p = optE (eqInts [x0, x1, x2, x3, x4, x5] [y0, y1, y2, y3, y4, y5]) L false other .mk := eq_7 6 c [x0, x1, x2, x3, x4, x5] [y0, y1, y2, y3, y4, y5] p rfl
theorem neq_s1 (c) (x0 y0 : Value) (p) : eqNilK 8 c .neq (.agg #[x0]) (.agg #[y0]) L other p = optE (eqInts [x0] [y0]) L true other .mk := neq_7 1 c [x0] [y0] p rfl
theorem neq_s2 (c) (x0 x1 y0 y1 : Value) (p) : eqNilK 9 c .neq (.agg #[x0, x1]) (.agg #[y0, y1]) L other p = optE (eqInts [x0, x1] [y0, y1]) L true other .mk := neq_7 2 c [x0, x1] [y0, y1] p rfl
theorem neq_s3 (c) (x0 x1 x2 y0 y1 y2 : Value) (p) : eqNilK 10 c .neq (.agg #[x0, x1, x2]) (.agg #[y0, y1, y2]) L other p = optE (eqInts [x0, x1, x2] [y0, y1, y2]) L true other .mk := neq_7 3 c [x0, x1, x2] [y0, y1, y2] p rfl
theorem neq_s4 (c) (x0 x1 x2 x3 y0 y1 y2 y3 : Value) (p) : eqNilK 11 c .neq (.agg #[x0, x1, x2, x3]) (.agg #[y0, y1, y2, y3]) L other p = optE (eqInts [x0, x1, x2, x3] [y0, y1, y2, y3]) L true other .mk := neq_7 4 c [x0, x1, x2, x3] [y0, y1, y2, y3] p rfl
theorem neq_s5 (c) (x0 x1 x2 x3 x4 y0 y1 y2 y3 y4 : Value) (p) : eqNilK 12 c .neq (.agg #[x0, x1, x2, x3, x4]) (.agg #[y0, y1, y2, y3, y4]) L other p = optE (eqInts [x0, x1, x2, x3, x4] [y0, y1, y2, y3, y4]) L true other .mk := neq_7 5 c [x0, x1, x2, x3, x4] [y0, y1, y2, y3, y4] p rfl
theorem neq_s6 (c) (x0 x1 x2 x3 x4 x5 y0 y1 y2 y3 y4 y5 : Value) (p) : eqNilK 13 c .neq (.agg #[x0, x1, x2, x3, x4, x5]) (.agg #[y0, y1, y2, y3, y4, y5]) L other p = optE (eqInts [x0, x1, x2, x3, x4, x5] [y0, y1, y2, y3, y4, y5]) L true other .mk := neq_7 6 c [x0, x1, x2, x3, x4, x5] [y0, y1, y2, y3, y4, y5] p rfl
theorem optE_f (b : Bool) (p) : optE (some b) L false other p = L (.bool b) := by simp [optE]
theorem optE_t (b : Bool) (p) : optE (some b) L true other p = L (.bool (!b)) := by simp [optE]
theorem dec_and (a b : Prop) [Decidable a] [Decidable b] : (decide a && decide b) = decide (a ∧ b) := by by_cases a <;> by_cases b <;> simp_all
theorem dec_not (a : Prop) [Decidable a] : (!decide a) = decide (¬ a) := by by_cases a <;> simp_all
theorem isConst_const (v) : isConst (.const v) = true := (rfl)
theorem isConst_tmp (i) : isConst (.tmp i) = false := (rfl)

theorem unK_not (b : Bool) (p) : unK .not (.bool b) L other p = L (.bool (!b)) := (rfl)
theorem unK_neg (k n) (p) : unK .neg (.int k n) L other p = L (.int k (k.wrap (0 - n))) := (rfl)
theorem extractK_tuple (vs : List Value) (i) (p) : extractK (.tuple vs.toArray) i L p = (optK vs[i]? L .mk) := by
  simp only [extractK, optK]; cases vs[i]? <;> rfl
theorem tuple_zero (x : Value) (l : List Value) : (x :: l)[0]? = some x := (rfl)
theorem tuple_succ (x : Value) (l : List Value) (n : Nat) : (x :: l)[n + 1]? = l[n]? := (rfl)
theorem optK_some {α : Type} (x : α) (L : α → Prop) (p) : optK (some x) L p = L x := (rfl)
theorem lenK_str (l : List UInt8) (p) : lenK (some .string) (str l) L other p = L (.int .i64 l.length) := by simp [lenK, str, ByteArray.size]
theorem lenK_slice (e a n c) (p) : lenK (some (.slice e)) (.slice a n c) L other p = L (.int .i64 n) := (rfl)
theorem convK_int (k k' n) (p) : convK (some (.int k)) (.int k' n) L other p = L (.int k (k.wrap n)) := (rfl)
theorem convK_str (l : List UInt8) (p) : convK (some .string) (str l) L other p = L (str l) := (rfl)
theorem indexK_str (l : List UInt8) (k n) (p) : indexK (some .string) (str l) (.int k n) L other p = ((0 ≤ n ∧ n < (l.length : Int)) ∧ L (.int .u8 (l.getD n.toNat 0).toNat)) := by simp [indexK, str]
theorem mmK_max (k a k' b) (p) : mmK true [.int k a, .int k' b] L other p = L (.int k (if b > a then b else a)) := (rfl)
theorem mmK_min (k a k' b) (p) : mmK false [.int k a, .int k' b] L other p = L (.int k (if b < a then b else a)) := (rfl)
theorem map_nil (f : Operand → Value) : List.map f [] = [] := (rfl)
theorem map_cons (f : Operand → Value) (x) (l : List Operand) : List.map f (x :: l) = f x :: List.map f l := (rfl)
theorem app_nil (l : List Value) : l ++ [] = l := List.append_nil l
theorem nil_app (l : List Value) : [] ++ l = l := (rfl)
theorem cons_app (x : Value) (l m : List Value) : (x :: l) ++ m = x :: (l ++ m) := (rfl)
theorem omap_some (f : Operand → Value) (x) : Option.map f (some x) = some (f x) := (rfl)
theorem omap_none (f : Operand → Value) : Option.map f none = none := (rfl)
theorem isSome_some {α : Type} (x : α) : (some x).isSome = true := (rfl)
theorem convK_slice (a n c) (p) : convK (some .string) (.slice a n c) L other p = other := (rfl)
theorem convK_to_slice (e x) (p) : convK (some (.slice e)) x L other p = other := by cases x <;> rfl
theorem cellsL_int (k n) : cellsL (.int k n) = [.int k n] := (rfl)
theorem cellsL_bool (b) : cellsL (.bool b) = [.bool b] := (rfl)
theorem cellsL_string (s) : cellsL (.string s) = [.string s] := (rfl)
theorem cellsL_str (s) : cellsL (str s) = [str s] := (rfl)
theorem cellsL_pointer (a) : cellsL (.pointer a) = [.pointer a] := (rfl)
theorem cellsL_slice (a n c) : cellsL (.slice a n c) = [.slice a n c] := (rfl)
theorem cellsL_map (r) : cellsL (.map r) = [.map r] := (rfl)
theorem cellsL_func (f a c) : cellsL (.func f a c) = [.func f a c] := (rfl)
theorem cellsL_nilFunc : cellsL .nilFunc = [.nilFunc] := (rfl)
theorem cellsL_iface (a v) : cellsL (.iface a v) = [.iface a v] := (rfl)
theorem cellsL_nilIface : cellsL .nilIface = [.nilIface] := (rfl)
theorem cellsL_agg (l : List Value) : cellsL (.agg l.toArray) = l := (rfl)
theorem splice_zero (l : List Value) : splice l 0 [] = l := by cases l <;> rfl
theorem splice_here (x : Value) (l : List Value) (c : Value) (cs) : splice (x :: l) 0 (c :: cs) = c :: splice l 0 cs := (rfl)
theorem splice_succ (x : Value) (l : List Value) (n : Nat) (cs) : splice (x :: l) (n + 1) cs = x :: splice l n cs := (rfl)
theorem buildK_some (z places parts) (p) : buildK (some (z, places)) parts L p = optK (buildL places z parts) (fun cs => L (.agg cs.toArray)) .mk := (rfl)
theorem buildL_nil (places cells) : buildL places cells [] = some cells := (rfl)
/-- the next part, its place known -/
def bldStep (place : Option (Nat × Nat)) (places : List (Nat × Nat)) (cells vs : List Value) (rest : List (Nat × Value)) : Option (List Value) := match place with
  | some (off, size) => (match sizeOk vs size && decide (off + size ≤ cells.length) with
      | true => buildL places (splice cells off vs) rest
      | false => none)
  | none => none
theorem buildL_cons (places cells) (i v rest) : buildL places cells ((i, v) :: rest) = bldStep places[i]? places cells (cellsL v) rest := (rfl)
theorem bldStep_some (off size places cells vs rest) (h : (sizeOk vs size && decide (off + size ≤ cells.length)) = true) : bldStep (some (off, size)) places cells vs rest = buildL places (splice cells off vs) rest := by
  simp only [bldStep, h]
theorem pl_zero (x : Nat × Nat) (l : List (Nat × Nat)) : (x :: l)[0]? = some x := (rfl)
theorem pl_succ (x : Nat × Nat) (l : List (Nat × Nat)) (n : Nat) : (x :: l)[n + 1]? = l[n]? := (rfl)
theorem sizeOk_nil : sizeOk [] 0 = true := (rfl)
theorem sizeOk_cons (x l n) : sizeOk (x :: l) (n + 1) = sizeOk l n := (rfl)
theorem dec_le (m n : Nat) (h : Nat.ble m n = true) : decide (m ≤ n) = true := by simpa [Nat.ble_eq] using h
theorem loadK_one (a : Addr) (p) : loadK (some none) (.pointer (some a)) w K p = optK (w.cell? a) (K · w) .mk := (rfl)
theorem loadK_many (n) (a : Addr) (p) : loadK (some (some n)) (.pointer (some a)) w K p = optK (cellsAt w a 0 n) (fun cs => K (.agg cs.toArray) w) .mk := (rfl)
theorem fieldAddrK_some (off n a) (p) : fieldAddrK (some (off, n)) (.pointer (some a)) L p = L (.pointer (some (a.add off))) := (rfl)
theorem partK_one (off) (cs : List Value) (p) : partK (some (off, none)) (.agg cs.toArray) L p = optK cs[off]? L .mk := (rfl)
theorem partK_many (off n) (cs : List Value) (p) : partK (some (off, some n)) (.agg cs.toArray) L p = L (.agg ((cs.drop off).take n).toArray) := (rfl)
theorem indexAddrK_slice (e size arr a n c k i) (p) : indexAddrK (some (e, size)) arr (.slice (some a) n c) (.int k i) L p = ((0 ≤ i ∧ i < n) ∧ L (.pointer (some (a.add (i.toNat * size))))) := by cases arr <;> rfl
theorem indexAddrK_arr (n e size a k i) (p) : indexAddrK none (some (n, e, size)) (.pointer (some a)) (.int k i) L p = ((0 ≤ i ∧ i < n) ∧ L (.pointer (some (a.add (i.toNat * size))))) := (rfl)
theorem sliceK_str_lo (e) (l : List UInt8) (k i) (p) : sliceK (some .string) e (str l) (some (.int k i)) none none L other p = ((0 ≤ i ∧ i ≤ l.length) ∧ L (str (l.drop i.toNat))) := by
  simp [sliceK, str, natAt, List.take_of_length_le]
theorem sliceK_str_hi (e) (l : List UInt8) (k i) (p) : sliceK (some .string) e (str l) none (some (.int k i)) none L other p = ((0 ≤ i ∧ i ≤ l.length) ∧ L (str (l.take i.toNat))) := by
  simp [sliceK, str, natAt]
theorem sliceK_str (e) (l : List UInt8) (k i k' j) (p) : sliceK (some .string) e (str l) (some (.int k i)) (some (.int k' j)) none L other p = ((0 ≤ i ∧ i ≤ j ∧ j ≤ l.length) ∧ L (str ((l.take j.toNat).drop i.toNat))) := by
  simp [sliceK, str, natAt]
theorem add_lit (b o n : Nat) : (⟨b, o, none⟩ : Addr).add n = ⟨b, o + n, none⟩ := by unfold Addr.add; split <;> simp_all
theorem ifaceK_0 (ty x) (p) : ifaceK 0 ty x L other p = L (.iface ty x) := (rfl)
theorem ifaceK_2 (ty x) (p) : ifaceK 2 ty x L other p = L (.iface ty x) := (rfl)

/-! what a function hands back -/
def tup : List Value → Value
  | [v] => v
  | vs => .tuple vs.toArray
theorem tup_one (v : Value) : tup [v] = v := (rfl)
theorem tup_nil : tup [] = .tuple #[] := (rfl)
theorem tup_more (v u : Value) (l : List Value) : tup (v :: u :: l) = .tuple (v :: u :: l).toArray := (rfl)

def retN (rs : List Tmp) (R : VK) (_ : Ph R) : EP
  | .normal, t, w => R (tup (rs.map (t.getD · undef))) w
  | .ret, t, w => R (tup (rs.map (t.getD · undef))) w
  | _, _, _ => False
theorem retN_ret (R : VK) (p) : retN [] R p .ret t w = R (tup []) w := (rfl)
theorem retN_normal (R : VK) (p) : retN [] R p .normal t w = R (tup []) w := (rfl)
theorem retN_ret1 (a : Tmp) (R : VK) (p) : retN [a] R p .ret t w = R (t.getD a undef) w := (rfl)
theorem retN_normal1 (a : Tmp) (R : VK) (p) : retN [a] R p .normal t w = R (t.getD a undef) w := (rfl)
theorem retN_ret2 (a b : Tmp) (R : VK) (p) : retN [a, b] R p .ret t w = R (tup [t.getD a undef, t.getD b undef]) w := (rfl)
theorem retN_normal2 (a b : Tmp) (R : VK) (p) : retN [a, b] R p .normal t w = R (tup [t.getD a undef, t.getD b undef]) w := (rfl)
theorem retN_ret3 (a b c : Tmp) (R : VK) (p) : retN [a, b, c] R p .ret t w = R (tup [t.getD a undef, t.getD b undef, t.getD c undef]) w := (rfl)
theorem retN_normal3 (a b c : Tmp) (R : VK) (p) : retN [a, b, c] R p .normal t w = R (tup [t.getD a undef, t.getD b undef, t.getD c undef]) w := (rfl)

/-- A list that is read one by one: each of its results is there. -/
theorem mapM_tmp (g : ResultVar → Sem Value) (t : Fr) (hg : ∀ i, (g (.tmp i)).run P w = .ok (t.getD i undef) w) (rs : List Tmp) : (Array.mapM g (rs.map ResultVar.tmp).toArray).run P w = .ok (rs.map (t.getD · undef)).toArray w := by
  have h1 : ∀ (rs : List Tmp), (List.mapM g (rs.map ResultVar.tmp)).run P w = .ok (rs.map (t.getD · undef)) w := by
    intro rs
    induction rs with
    | nil => rfl
    | cons r rs ih => simp only [List.map_cons, List.mapM_cons, Sem.run_bind, Sem.run_pure, Result.andThen_ok, hg, ih]
  rw [List.mapM_toArray, map_eq_pure_bind]
  simp only [Sem.run_bind, h1, Result.andThen_ok, Sem.run_pure]

theorem results_run (fn : Func) (rs : List Tmp) (h : fn.results = (rs.map ResultVar.tmp).toArray) (t : Fr) : (results fn t.toArray).run P w = .ok (tup (rs.map (t.getD · undef))) w := by
  unfold results
  rw [h, Sem.run_bind, mapM_tmp (t := t) (hg := fun i => by simp [List.getD_eq_getElem?_getD, Array.getD_eq_getD_getElem?]), Result.andThen_ok, Sem.run_pure]
  congr 1
  match rs with
  | [] => rfl
  | [a] => rfl
  | a :: b :: l => simp [tup]

/-- 'f' is called: it returns, and 'R' holds of what it hands back. -/
def Fun (P : Program) (f : FuncId) (args : List Value) (w : World) (R : VK) : Prop :=
  (callFunc f args.toArray).run P w = .ok (.enter f args.toArray) w ∧ Calls P f args.toArray w fun e w' => ∃ v, e = .returned v ∧ R v w'

theorem Fun.mono {f : FuncId} {args : List Value} {R R' : VK} (h : Fun P f args w R) (k : ∀ v w', R v w' → R' v w') : Fun P f args w R' :=
  ⟨h.1, h.2.mono fun _ _ ⟨v, he, hr⟩ => ⟨v, he, k _ _ hr⟩⟩

theorem callK_of {f : FuncId} {args : List Value} {R : VK} {p} (h : Fun P f args w R) (k : ∀ v w', R v w' → K v w') : callK P f args t w K Q p := by
  unfold callK
  rw [h.1]
  exact h.2.mono fun e w' ⟨v, he, hr⟩ => by subst he; exact k _ _ hr

theorem callFunc_enter {f : FuncId} {fn : Func} {args : Array Value} (hf : P.funcs[f]? = some fn) (hb : fn.body.isNone = false) (hn : (fn.name == "runtime.NumGoroutine") = false) : (callFunc f args).run P w = .ok (.enter f args) w := by
  unfold callFunc
  simp only [Sem.run_bind, program, Sem.run, Result.andThen_ok, hf, hn, hb, Bool.false_eq_true, if_false, Sem.run_pure]

/-- The frame that a call begins with. -/
def fr0 (args : List Value) (n : Nat) : Fr := args ++ List.replicate (n - args.length) undef

theorem fun_of_vc {f : FuncId} {fn : Func} {c : Code} {args : List Value} {R : VK} (hf : P.funcs[f]? = some fn) (hb : fn.body = some c) (hn : (fn.name == "runtime.NumGoroutine") = false)
    (rs : List Tmp) (hrs : fn.results = (rs.map ResultVar.tmp).toArray) (h : vc P c (retN rs R .mk) (fr0 args fn.ntmps) w .mk) : Fun P f args w R := by
  refine ⟨callFunc_enter hf (by simp [hb]) hn, calls_of_wp hf hb ?_⟩
  have h1 := vc_ok c _ _ w h
  unfold wpL at h1
  have e : (args.toArray ++ Array.replicate (fn.ntmps - args.toArray.size) undef) = (fr0 args fn.ntmps).toArray := by simp [fr0]
  rw [e]
  refine Code.wp_mono ?_ h1
  rintro e a w' ⟨hd, hh⟩
  have ha : a.tmps.toList.toArray = a.tmps := by simp
  cases e <;> simp only [retN] at hh <;> first | exact hh.elim | skip
  · exact ⟨hd, _, by rw [← ha]; exact results_run fn rs hrs _, _, rfl, hh⟩
  · exact ⟨hd, _, by rw [← ha]; exact results_run fn rs hrs _, _, rfl, hh⟩

/-! a loop -/
def at_ (t : Fr) : Nat → Value := fun m => t.getD m undef
def ov (t : Fr) (M : List Nat) (z : Nat → Value) : Fr := M.foldl (fun t m => t.set m (z m)) t

theorem at_eq (t : Fr) (m : Nat) : at_ t m = t.getD m undef := (rfl)
theorem ov_nil (t : Fr) (z) : ov t [] z = t := (rfl)
theorem ov_cons (t : Fr) (m M z) : ov t (m :: M) z = ov (t.set m (z m)) M z := (rfl)
theorem ov_at (M : List Nat) : ∀ t : Fr, ov t M (at_ t) = t := by
  have : ∀ (M : List Nat) (t u : Fr), t = u → M.foldl (fun t m => t.set m (at_ u m)) t = u := by
    intro M
    induction M with
    | nil => intro t u h; exact h
    | cons m M ih =>
      intro t u h
      subst h
      simp only [List.foldl_cons]
      refine ih _ _ ?_
      unfold at_
      by_cases hm : m < t.length
      · exact set_getD_same t m hm
      · rw [List.set_eq_of_length_le (by omega)]
  exact fun t => this M t t rfl

theorem wpL_loop {c : Code} {p} (M : List Nat) (I : (Nat → Value) → World → Prop) (μ : (Nat → Value) → World → Nat) (h0 : I (at_ t) w)
    (hr : ∀ z w', I z w' → vc P c (seqQ (fun t'' w'' => t'' = ov t M (at_ t'') ∧ I (at_ t'') w'' ∧ μ (at_ t'') w'' < μ z w') Q .mk) (ov t M z) w' .mk) : wpL P (.loop c) Q t w p := by
  unfold wpL
  refine wp_loop (fun a w' => a.defers = [] ∧ a.tmps.toList = ov t M (at_ a.tmps.toList) ∧ I (at_ a.tmps.toList) w') (fun a w' => μ (at_ a.tmps.toList) w') ⟨rfl, by simp [ov_at], by simpa using h0⟩ ?_
  rintro a w' ⟨hd, ht, hI⟩
  have h1 := vc_ok c _ _ w' (hr _ w' hI)
  unfold wpL at h1
  rw [← ht] at h1
  rw [act_eq hd]
  refine Code.wp_mono ?_ h1
  rintro e a' w'' ⟨hd', hh⟩
  cases e <;> simp only [seqQ] at hh <;> simp only [Exit.then] <;> first | exact ⟨hd', hh⟩ | skip
  exact ⟨⟨hd', hh.1, hh.2.1⟩, by simpa using hh.2.2⟩

end

attribute [push_cast] evs_nil evs_cons ev_tmp ev_const ev_global ev_func put_some put_none get_zero get_succ set_zero set_succ vc_skip vc_region vc_draw vc_seq vc_cond vc_block vc_exit vc_ret vc_label vc_goto vc_loop vc_scope vc_rangeFunc seqQ_normal seqQ_ret seqQ_exit seqQ_goto seqQ_panic blockQ_normal blockQ_ret blockQ_goto blockQ_panic blockQ_same blockQ_other vcOps_nil vcOps_plain vcOps_guard slotOf_zero slotOf_succ oper_dst guardK_eq guardK_none gK_tt gK_ff gK_tf gK_ft gK_undef condK_tt condK_ff condK_dec condK_not gK_t_dec gK_f_dec pickK_tt pickK_ff opK_move opK_assign opK_pick opK_bin opK_un opK_extract opK_convert opK_index opK_makeFunc opK_call opK_len opK_max opK_min opK_load opK_store opK_fieldAddr opK_field opK_indexAddr opK_slice opK_iface opK_box opK_alloc opK_build opK_buildSlice opK_makeSlice opK_makeMap opK_lookup opK_mapUpdate opK_insert opK_typeAssert opK_panic opK_range opK_append opK_copy funK_func arithK_i64 arithK_u8 arithK_u32 arithK_u64 arithK_i32 binK_add binK_sub binK_mul binK_quo binK_rem binK_and binK_or binK_xor binK_andNot binK_eql binK_neq binK_lss binK_leq binK_gtr binK_geq binK_shl binK_shr binK_str_add binK_str_eql binK_str_neq binK_nil_eql_l binK_nil_neq_l binK_iface_eql binK_iface_neq binK_ptr_eql binK_ptr_neq binK_slice_eql binK_slice_neq binK_bool_eql binK_bool_neq binK_agg_eql binK_agg_neq binK_nilFunc_eql binK_func_eql eq_1nn eq_1in neq_1nn neq_1in eq_2nn eq_2sn neq_2nn neq_2sn eq_6 neq_6 eqInts_nil eqInts_cons bmap_some eq_s1 eq_s2 eq_s3 eq_s4 eq_s5 eq_s6 neq_s1 neq_s2 neq_s3 neq_s4 neq_s5 neq_s6 optE_f optE_t dec_and dec_not isConst_const isConst_tmp unK_not unK_neg extractK_tuple tuple_zero tuple_succ optK_some lenK_str lenK_slice convK_int convK_str indexK_str mmK_max mmK_min map_nil map_cons app_nil nil_app cons_app omap_some omap_none isSome_some convK_slice convK_to_slice cellsL_int cellsL_bool cellsL_string cellsL_str cellsL_pointer cellsL_slice cellsL_map cellsL_func cellsL_nilFunc cellsL_iface cellsL_nilIface cellsL_agg splice_zero splice_here splice_succ buildK_some buildL_nil buildL_cons bldStep_some pl_zero pl_succ sizeOk_nil sizeOk_cons loadK_one loadK_many fieldAddrK_some partK_one partK_many indexAddrK_slice indexAddrK_arr sliceK_str_lo sliceK_str_hi sliceK_str add_lit ifaceK_0 ifaceK_2 tup_one tup_nil tup_more retN_ret retN_normal retN_ret1 retN_normal1 retN_ret2 retN_normal2 retN_ret3 retN_normal3
attribute [push_cast] at_eq ov_nil ov_cons List.length_cons List.length_nil Bool.true_and Bool.and_true Int.toNat_natCast if_true ite_true Int.le_refl true_and and_true and_self implies_true Int.toNat_zero Nat.zero_add
end Go.Vc
