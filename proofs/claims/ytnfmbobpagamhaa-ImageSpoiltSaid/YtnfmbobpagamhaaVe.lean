import Derived.Test.YtnfmbobpagamhaaVm
import Derived.Laws.Externs
import Derived.Laws.MakeOwn
import Derived.Stop.Asserts
namespace Cae
theorem ownSpace : True := trivial
end Cae
namespace Go.Vc
open Go.RowKit

theorem strlit (l : List UInt8) : Value.string ⟨l.toArray⟩ = str l := (rfl)

section
variable {P : Program} {t : Fr} {w : World} {K : VK} {Q : EP} {other : Prop}

theorem sliceK_hi (e e' : TypeId) (k b o n c : Nat) (kk : IntKind) (i : Int) (L : VP) (other : Prop) (p) : sliceK (some (.slice e)) (some (e', k)) (.slice (some ⟨b, o, none⟩) n c) none (some (.int kk i)) none L other p = ((0 ≤ i ∧ i ≤ c) ∧ L (.slice (some ⟨b, o, none⟩) i.toNat c)) := by
  simp only [sliceK, natAt, Option.map_some, Int.toNat_natCast, Nat.zero_mul, add_lit, Nat.add_zero, Nat.sub_zero, ite_self, Int.natCast_zero, Int.toNat_zero, Int.le_refl, true_and]

theorem Sl_take {α : Type} {X : Nat → Prop} {k : Nat} {R : List Value → α → Prop} {w : World} {a : Option Addr} {n c : Nat} {l r : List α} (h : Sl X k R w (.slice a n c) (l ++ r)) : Sl X k R w (.slice a l.length c) l := by
  unfold Sl at h ⊢
  obtain ⟨a', c', he, hc, h⟩ := h
  cases he
  simp only [List.length_append] at hc
  refine ⟨a, c, rfl, by omega, fun i x hx => h i x ?_⟩
  rw [List.getElem?_append_left (List.getElem?_eq_some_iff.1 hx).1]; exact hx

/-! ### A method that is called through an interface value -/
def invK (P : Program) (recv : Value) (m : String) (args : List Value) (t : Fr) (w : World) (K : VK) (Q : EP) (_ : Ph (K, Q)) : Prop := resK P t K Q ((callMethod recv m args.toArray).run P w)

theorem opK_invoke (d r m) (args : List Operand) (aty ty pos af g) (p) : opK P ⟨d, .call { callee := .invoke r m, args := args.toArray, argTypes := aty }, ty, pos, af, g⟩ t w K Q p =
    invK P (ev t r) m (args.map (ev t)) t w K Q .mk := by
  simp only [opK, pureK, runK, invK]
  unfold execOp
  simp only [resolve, Sem.run_bind, Sem.run_pure, Result.andThen_ok, invoke]
  have e1 : (#[ev t r] ++ args.toArray.map (ev t))[0]? = some (ev t r) := by simp
  have e2 : (#[ev t r] ++ args.toArray.map (ev t)).extract 1 (#[ev t r] ++ args.toArray.map (ev t)).size = (args.map (ev t)).toArray := by
    apply Array.ext'
    simp [List.take_of_length_le]
  rw [e1, e2]

theorem invK_of {ty : TypeId} {v : Value} {m : String} {args : List Value} {f : FuncId} {r : Value} {p} (hm : (method (P.types.size + Made.depth) ty v m).run P w = .ok (f, r) w) (h : callK P f (r :: args) t w K Q .mk) : invK P (.iface ty v) m args t w K Q p := by
  unfold invK callMethod
  simp only [Sem.run_bind, program, Sem.run, Result.andThen_ok, hm]
  unfold callK at h
  have e : (#[r] ++ args.toArray) = (r :: args).toArray := by apply Array.ext'; simp
  rw [e]
  exact h

/-- A function of Go's library that the model answers itself. -/
theorem callK_ext {f : FuncId} {fn : Func} {e : Array Value → Sem Value} {args : List Value} {v : Value} {w' : World} {p} (hf : P.funcs[f]? = some fn) (hname : (fn.name == "runtime.NumGoroutine") = false)
    (hb : fn.body.isNone = true) (hn : Extern.findNext fn = none) (he : Extern.find fn = some e) (hr : (e args.toArray).run P w = .ok v w') (k : K v w') : callK P f args t w K Q p := by
  unfold callK
  rw [run_callFunc_extern hf hname hb hn he, hr]
  exact k

def nilK (x : Value) (K : VP) (other : Prop) (_ : Ph (K, other)) : Prop := match x with | .pointer (some _) => K x | _ => other
theorem nilK_some (a : Addr) (L : VP) (p) : nilK (.pointer (some a)) L other p = L (.pointer (some a)) := (rfl)
theorem opK_nilCheck (d x ty pos af g) (p) : opK P ⟨d, .nilCheck x, ty, pos, af, g⟩ t w K Q p = nilK (ev t x) (K · w) (runK P ⟨d, .nilCheck x, ty, pos, af, g⟩ t w K Q .mk) .mk := by
  unfold nilK
  split
  · rename_i a h
    simp only [opK, pureK, runK]
    unfold execOp
    simp only [h]
    rfl
  · rfl
section
variable {C : World → Prop}
theorem mixK_nilCheck (d x ty pos af g) (p) : mixK P ⟨d, .nilCheck x, ty, pos, af, g⟩ t w C K p = opK P ⟨d, .nilCheck x, ty, pos, af, g⟩ t w (fun v w' => C w' ∧ K v w') noQ .mk := (rfl)
theorem mixK_invoke (d r m) (args : Array Operand) (aty ty pos af g) (p) : mixK P ⟨d, .call { callee := .invoke r m, args := args, argTypes := aty }, ty, pos, af, g⟩ t w C K p =
    opK P ⟨d, .call { callee := .invoke r m, args := args, argTypes := aty }, ty, pos, af, g⟩ t w (fun v w' => C w' ∧ K v w') noQ .mk := (rfl)
theorem mixK_alloc (d e ty pos af g) (p) : mixK P ⟨d, .alloc e, ty, pos, af, g⟩ t w C K p = opK P ⟨d, .alloc e, ty, pos, af, g⟩ t w (fun v w' => C w' ∧ K v w') noQ .mk := (rfl)
theorem mixK_iface (d xt x ty pos af g) (p) : mixK P ⟨d, .makeInterface xt x, ty, pos, af, g⟩ t w C K p =
    ifaceK (if (P.underlying xt).isSome then eqKind P xt else 1) xt (ev t x) (K · w) False .mk := (rfl)
theorem mixK_makeSlice (d bt l c ty pos af g) (p) : mixK P ⟨d, .makeSlice bt l c, ty, pos, af, g⟩ t w C K p = opK P ⟨d, .makeSlice bt l c, ty, pos, af, g⟩ t w (fun v w' => C w' ∧ K v w') noQ .mk := (rfl)
theorem mixK_typeAssert (d x xt at_ ok ty pos af g) (p) : mixK P ⟨d, .typeAssert x xt at_ ok, ty, pos, af, g⟩ t w C K p = opK P ⟨d, .typeAssert x xt at_ ok, ty, pos, af, g⟩ t w (fun v w' => C w' ∧ K v w') noQ .mk := (rfl)
theorem mixK_makeFunc (d fn) (a c : List Operand) (ty pos af g) (p) : mixK P ⟨d, .makeFunc fn a.toArray c.toArray, ty, pos, af, g⟩ t w C K p = K (.func fn (a.map (ev t)).toArray (c.map (ev t)).toArray) w := by
  simp [mixK, pureK, chain]
end

/-! ### Frames -/
/-- The blocks that stood, but for those of X, are as they were. -/
structure Kept (X : Nat → Prop) (w w' : World) : Prop where
  os : w'.os = w.os
  tape : w'.tape = w.tape
  output : w'.output = w.output
  size : w.heap.size ≤ w'.heap.size
  block : ∀ k, k < w.heap.size → ¬ X k → w'.heap[k]? = w.heap[k]?

theorem Kept.refl (X : Nat → Prop) (w : World) : Kept X w w := ⟨rfl, rfl, rfl, Nat.le_refl _, fun _ _ _ => rfl⟩
theorem Kept.trans {X Y : Nat → Prop} {a b c : World} (h : Kept X a b) (k : Kept Y b c) (hY : ∀ i, i < a.heap.size → Y i → X i) : Kept X a c :=
  ⟨k.os.trans h.os, k.tape.trans h.tape, k.output.trans h.output, Nat.le_trans h.size k.size, fun i hi hx => (k.block i (Nat.lt_of_lt_of_le hi h.size) (fun hh => hx (hY i hi hh))).trans (h.block i hi hx)⟩
theorem Kept.weaken {X Y : Nat → Prop} {a b : World} (h : Kept X a b) (hY : ∀ i, i < a.heap.size → X i → Y i) : Kept Y a b := ⟨h.os, h.tape, h.output, h.size, fun i hi hx => h.block i hi fun hh => hx (hY i hi hh)⟩
theorem Kept.below {X : Nat → Prop} {a b : World} (h : Kept X a b) {B : Nat} (hB : B ≤ a.heap.size) (hX : ∀ i, X i → B ≤ i) : Below B a b := ⟨h.os, h.tape, h.output, h.size, fun i hi => h.block i (by omega) fun hh => by have := hX i hh; omega⟩
theorem Kept.of_below {B : Nat} {a b : World} (h : Below B a b) {X : Nat → Prop} (hX : ∀ i, B ≤ i → i < a.heap.size → X i) : Kept X a b := ⟨h.os, h.tape, h.output, h.size, fun i hi hx => h.block i (Classical.byContradiction fun hh => hx (hX i (by omega) hi))⟩
theorem Kept.new {X : Nat → Prop} {a b : World} {e : TypeId} {cs : List Value} (h : New a b e cs) : Kept X a b := Kept.of_below h.below fun i hi hh => by omega
theorem Kept.drew {X : Nat → Prop} {a w : World} (h : Kept X a w) : Kept X a w.drew := ⟨h.os, h.tape, h.output, h.size, h.block⟩
theorem Kept.grown {a b : World} {row : Option Nat} (h : a.grownBy b row) {X : Nat → Prop} (hX : ∀ k, row = some k → X k) : Kept X a b := ⟨h.os, h.tape, h.output, h.size, fun i hi hx => h.block i hi fun hh => hx (hX i hh.symm)⟩
theorem Kept.cell {X : Nat → Prop} {a b : World} (h : Kept X a b) {p : Addr} {v : Value} (hv : a.cell? p = some v) (hX : ¬ X p.block) : b.cell? p = some v :=
  (World.cell?_of_block (h.block p.block (World.block_lt_of_cell? a p hv) hX)).trans hv

theorem Sl.kept {α : Type} {X Y : Nat → Prop} {k : Nat} {R : List Value → α → Prop} {w w' : World} {v : Value} {l : List α} (h : Sl X k R w v l) (hb : Kept Y w w') (hY : ∀ i, Y i → X i) : Sl X k R w' v l :=
  h.mono (fun b hb' hlt => hb.block b hlt fun hh => hb' (hY b hh)) (fun _ _ _ h => h) (fun _ h => h)

/-! ### Blocks that the call knows whole -/
def Blk (w : World) (b : Nat) (e : TypeId) (cs : List Value) : Prop := w.heap[b]? = some (.cells cs.toArray e (0, 0))

theorem Blk.lt {w : World} {b : Nat} {e : TypeId} {cs : List Value} (h : Blk w b e cs) : b < w.heap.size := (Array.getElem?_eq_some_iff.1 h).1
theorem Blk.cell {w : World} {b : Nat} {e : TypeId} {cs : List Value} (h : Blk w b e cs) {o : Nat} {u : Value} (hu : cs[o]? = some u) : w.cell? ⟨b, o, none⟩ = some u := by
  rw [cell_of_row w b o _ e (0, 0) h]; simpa using hu
theorem Blk.kept {X : Nat → Prop} {w w' : World} {b : Nat} {e : TypeId} {cs : List Value} (h : Blk w b e cs) (hk : Kept X w w') (hX : ¬ X b) : Blk w' b e cs := (hk.block b h.lt hX).trans h
theorem Blk.below {B : Nat} {w w' : World} {b : Nat} {e : TypeId} {cs : List Value} (h : Blk w b e cs) (hk : Below B w w') (hX : b < B) : Blk w' b e cs := (hk.block b hX).trans h
theorem Blk.drew {w : World} {b : Nat} {e : TypeId} {cs : List Value} (h : Blk w b e cs) : Blk w.drew b e cs := h
theorem New.blk {w w' : World} {e : TypeId} {cs : List Value} (h : New w w' e cs) : Blk w' w.heap.size e cs := h.block

/-- A store has been made. -/
structure Put (w w' : World) (b : Nat) (e : TypeId) (cs : List Value) : Prop where
  blk : Blk w' b e cs
  kept : Kept (· = b) w w'
  size : w'.heap.size = w.heap.size

theorem Put.of_setRow {w : World} {b : Nat} {e : TypeId} {cs0 cs : List Value} (h : Blk w b e cs0) : Put w (w.setRow b cs.toArray) b e cs :=
  ⟨setRow_heap w b _ _ e _ h, ⟨rfl, rfl, rfl, by simp, fun k _ hk => setRow_other w b k _ hk⟩, by simp⟩

theorem storeK_of {b o : Nat} {e : TypeId} {cs : List Value} {v : Value} {p} (hB : Blk w b e cs) (ho : o < cs.length) (h1 : oneCell v = true) (kk : ∀ w', Put w w' b e (cs.set o v) → K undef w') :
    storeK (some none) (.pointer (some ⟨b, o, none⟩)) v w K other p := by
  refine ⟨h1, by rw [hB.cell (List.getElem?_eq_getElem ho)]; rfl, ?_, kk _ ?_⟩
  · simp only [World.frozen?]
    rw [show w.heap[b]? = _ from hB]
    simp
  · rw [setCell_eq_setRow w b o _ e (0, 0) v hB, List.setIfInBounds_toArray]
    exact Put.of_setRow hB

theorem storeK_many (n : Nat) (a v : Value) (p) : storeK (some (some n)) a v w K other p = other := (rfl)

theorem storeAgg {xt : TypeId} {b o n : Nat} {e : TypeId} {cs0 cs : List Value} (hty : tyK P xt = some (some n)) (hB : Blk w b e cs0) (hn : cs.length = n) (ho : o + n ≤ cs0.length) (h1 : ∀ v ∈ cs, v.oneCell' = true)
    (kk : ∀ w', Put w w' b e (cs0.take o ++ cs ++ cs0.drop (o + n)) → K undef w') : unitK P (Instr.storeAt xt (.pointer (some ⟨b, o, none⟩)) (.agg cs.toArray)) t w K Q .mk := by
  have := run_storeCells_at P b o e cs 0 cs0.toArray w hB (by simp; omega) h1
  simp only [Nat.add_zero, List.size_toArray] at this
  refine unitK_of (w' := w.setRow b (cs0.take o ++ cs ++ cs0.drop (o + n)).toArray) ?_ (kk _ (Put.of_setRow hB))
  subst hn
  simp only [Instr.storeAt, Instr.sureAddr, Sem.run_bind, Sem.run_pure, Result.andThen_ok, storeVar, (tyK_many hty w).2, Value.cells, List.size_toArray, ne_eq, not_true_eq_false, if_false, this]

theorem allocK {e : TypeId} {z : List Value} {p} (hz : (P.info? e).bind (fun i => i.zero.map cellsL) = some z) (kk : ∀ w', New w w' e z → K (.pointer (some ⟨w.heap.size, 0, none⟩)) w') : valK P (Instr.alloc e true (.tuple #[])) t w K Q p := by
  obtain ⟨i, hi, hz⟩ := Option.bind_eq_some_iff.1 hz
  obtain ⟨v, hv, rfl⟩ := Option.map_eq_some_iff.1 hz
  refine valK_of (w' := w.alloc (.cells (cellsL v).toArray e)) ?_ (kk _ ⟨rfl⟩)
  rw [← cellsL_eq]
  simp [Instr.alloc, zeroValue, typeInfo, hi, hv, newVar, newRow]

/-! ### What hands back variables -/
def retL (P : Program) (t : Fr) (w : World) : List ResultVar → (List Value → Prop) → Prop
  | [], k => k []
  | .tmp i :: r, k => retL P t w r fun vs => k (t.getD i undef :: vs)
  | .cell a ty :: r, k => loadK (tyK P ty) (t.getD a undef) w (fun v _ => retL P t w r fun vs => k (v :: vs)) .mk

def retC (P : Program) (rs : List ResultVar) (R : VK) (_ : Ph R) : EP
  | .normal, t, w => retL P t w rs fun vs => R (tup vs) w
  | .ret, t, w => retL P t w rs fun vs => R (tup vs) w
  | _, _, _ => False
theorem retC_ret (rs) (R : VK) (p) : retC P rs R p .ret t w = retL P t w rs fun vs => R (tup vs) w := (rfl)
theorem retC_normal (rs) (R : VK) (p) : retC P rs R p .normal t w = retL P t w rs fun vs => R (tup vs) w := (rfl)
theorem retL_nil (k : List Value → Prop) : retL P t w [] k = k [] := (rfl)
theorem retL_tmp (i) (r) (k : List Value → Prop) : retL P t w (.tmp i :: r) k = retL P t w r fun vs => k (t.getD i undef :: vs) := (rfl)
theorem retL_cell (a ty) (r) (k : List Value → Prop) : retL P t w (.cell a ty :: r) k = loadK (tyK P ty) (t.getD a undef) w (fun v _ => retL P t w r fun vs => k (v :: vs)) .mk := (rfl)

theorem loadVar_run {ty : TypeId} {a : Value} {w : World} {k : VK} (h : loadK (tyK P ty) a w k .mk) : ∃ ad v, a = .pointer (some ad) ∧ (loadVar ty ad).run P w = .ok v w ∧ k v w := by
  unfold loadK at h
  split at h
  · rename_i ad ht
    obtain ⟨v, hc, hk⟩ := optK_elim h
    exact ⟨ad, v, rfl, by simp [loadVar, (tyK_one ht w).1, load, Sem.run, hc], hk⟩
  · rename_i n ad ht
    obtain ⟨v, hc, hk⟩ := optK_elim h
    exact ⟨ad, _, rfl, by simp [loadVar, (tyK_many ht w).1, (tyK_many ht w).2, loadCells, run_loadCellsFrom (P := P) w ad n 0 #[] v hc], hk⟩
  · exact h.elim

/-- Results of which some stand in cells are read one by one by any 'g' that reads them. -/
theorem retL_run (g : ResultVar → Sem Value) (h1 : ∀ i, (g (.tmp i)).run P w = .ok (t.getD i undef) w) (h2 : ∀ a ty ad v, t.getD a undef = .pointer (some ad) → (loadVar ty ad).run P w = .ok v w → (g (.cell a ty)).run P w = .ok v w) : ∀ (rs : List ResultVar) (k : List Value → Prop), retL P t w rs k → ∃ vs, (List.mapM g rs).run P w = .ok vs w ∧ k vs
  | [], k, h => ⟨[], rfl, h⟩
  | .tmp i :: r, k, h => by
    obtain ⟨vs, h3, h4⟩ := retL_run g h1 h2 r _ h
    refine ⟨_, ?_, h4⟩
    simp only [List.mapM_cons, Sem.run_bind, Sem.run_pure, Result.andThen_ok, h1, h3]
  | .cell a ty :: r, k, h => by
    obtain ⟨ad, v, ha, hl, h⟩ := loadVar_run h
    obtain ⟨vs, h3, h4⟩ := retL_run g h1 h2 r _ h
    refine ⟨_, ?_, h4⟩
    simp only [List.mapM_cons, Sem.run_bind, Sem.run_pure, Result.andThen_ok, h2 _ _ _ _ ha hl, h3]
theorem mapM_retL (g : ResultVar → Sem Value) (h1 : ∀ i, (g (.tmp i)).run P w = .ok (t.getD i undef) w) (h2 : ∀ a ty ad v, t.getD a undef = .pointer (some ad) → (loadVar ty ad).run P w = .ok v w → (g (.cell a ty)).run P w = .ok v w) (rs : List ResultVar) (k : List Value → Prop) (h : retL P t w rs k) : ∃ vs, (Array.mapM g rs.toArray).run P w = .ok vs.toArray w ∧ k vs := by
  obtain ⟨vs, h3, h4⟩ := retL_run g h1 h2 rs k h
  refine ⟨vs, ?_, h4⟩
  rw [List.mapM_toArray, map_eq_pure_bind]
  simp only [Sem.run_bind, h3, Result.andThen_ok, Sem.run_pure]

theorem then_retL (g : ResultVar → Sem Value) (F : Array Value → World → Result Value) (h1 : ∀ i, (g (.tmp i)).run P w = .ok (t.getD i undef) w) (h2 : ∀ a ty ad v, t.getD a undef = .pointer (some ad) → (loadVar ty ad).run P w = .ok v w → (g (.cell a ty)).run P w = .ok v w) (hF : ∀ vs : List Value, F vs.toArray w = .ok (tup vs) w) (rs : List ResultVar) (k : List Value → Prop) (h : retL P t w rs k) : ∃ vs, ((Array.mapM g rs.toArray).run P w).andThen F = .ok (tup vs) w ∧ k vs := by
  obtain ⟨vs, h3, h4⟩ := mapM_retL g h1 h2 rs k h
  exact ⟨vs, by rw [h3, Result.andThen_ok, hF], h4⟩

theorem resultsC_run (fn : Func) (rs : List ResultVar) (h : fn.results = rs.toArray) (t : Fr) (k : List Value → Prop) (hl : retL P t w rs k) : ∃ vs, (results fn t.toArray).run P w = .ok (tup vs) w ∧ k vs := by
  unfold results
  rw [h, Sem.run_bind]
  refine then_retL (t := t) _ _ ?_ ?_ ?_ rs k hl
  · intro i
    simp [List.getD_eq_getElem?_getD, Array.getD_eq_getD_getElem?]
  · intro a ty ad v ha hl
    have ha' : t.toArray.getD a undef = .pointer (some ad) := by rw [← ha]; simp [List.getD_eq_getElem?_getD, Array.getD_eq_getD_getElem?]
    have hA : asAddr (t.toArray.getD a undef) = pure ad := by rw [ha']; rfl
    simp only [hA, Sem.run_bind, Sem.run_pure, Result.andThen_ok, hl]
  · intro vs
    rw [Sem.run_pure]
    congr 1
    match vs with
    | [] => rfl
    | [a] => rfl
    | a :: b :: l => simp [tup]

theorem fun_of_vcC {f : FuncId} {fn : Func} {c : Code} {args : List Value} {R : VK} (hf : P.funcs[f]? = some fn) (hb : fn.body = some c) (hn : (fn.name == "runtime.NumGoroutine") = false)
    (rs : List ResultVar) (hrs : fn.results = rs.toArray) (h : vc P c (retC P rs R .mk) (fr0 args fn.ntmps) w .mk) : Fun P f args w R := by
  refine ⟨callFunc_enter hf (by simp [hb]) hn, calls_of_wp hf hb ?_⟩
  have h1 := vc_ok c _ _ w h
  unfold wpL at h1
  have e : (args.toArray ++ Array.replicate (fn.ntmps - args.toArray.size) undef) = (fr0 args fn.ntmps).toArray := by simp [fr0]
  rw [e]
  refine Code.wp_mono ?_ h1
  rintro e a w' ⟨hd, hh⟩
  have ha : a.tmps.toList.toArray = a.tmps := by simp
  cases e <;> simp only [retC] at hh <;> first | exact hh.elim | skip
  · obtain ⟨vs, hv, hk⟩ := resultsC_run fn rs hrs _ _ hh
    exact ⟨hd, _, by rw [← ha]; exact hv, _, rfl, hk⟩
  · obtain ⟨vs, hv, hk⟩ := resultsC_run fn rs hrs _ _ hh
    exact ⟨hd, _, by rw [← ha]; exact hv, _, rfl, hk⟩

/-! ### Appending to what the call owns -/
theorem appendK2 {α : Type} {bt ty e : TypeId} {k bytes base n : Nat} {enc : α → List Value} {v : Value} {l : List α} (ys : List α) {b o c : Nat} {p} (hE : elI P bt = some (e, k, bytes)) (hown : Own base e k enc w v l) (hn : ys.length = n)
    (hy : ∀ j u, (ys.flatMap enc)[j]? = some u → w.cell? ⟨b, o + j, none⟩ = some u) (h1 : ∀ x, ∀ u ∈ enc x, u.oneCell' = true)
    (hm : (l.length + ys.length) * bytes ≤ 140737488355328) (hbase : base ≤ w.heap.size)
    (kk : ∀ v' w', Own base e k enc w' v' (l ++ ys) → w.grownBy w' v.ownBlock → (∀ g, v'.ownBlock = some g → v.ownBlock = some g ∨ w.heap.size ≤ g) → K v' w') : valK P (Builtin.append_ #[bt, bt] ty [v, .slice (some ⟨b, o, none⟩) n c].toArray) t w K Q p := by
  subst hn
  obtain ⟨hu, i, z, hi, hz, rfl, rfl, hzs, hk, hby⟩ := elI_spec hE
  have hlen : ∀ (ys : List α), (ys.flatMap enc).length = ys.length * i.size := by
    intro ys
    induction ys with
    | nil => simp
    | cons y ys ih => simp [List.flatMap_cons, hown.2, ih, Nat.add_mul]; omega
  have hle : l.length + ys.length ≤ 140737488355328 := Nat.le_trans (Nat.le_mul_of_pos_right _ hby) hm
  have hy' : ∀ j u, (ys.flatMap enc)[j]? = some u → w.cell? ((⟨b, o, none⟩ : Addr).add j) = some u := fun j u hj => by rw [add_lit]; exact hy j u hj
  have h1' : ∀ u ∈ ys.flatMap enc, u.oneCell' = true := fun u hu' => by obtain ⟨x, _, hx⟩ := List.mem_flatMap.1 hu'; exact h1 x u hx
  obtain ⟨v', w', hr, ho, hg, _⟩ := run_append_own (P := P) w base bt ty e i z i.size i.bytes hu hi hz rfl rfl hzs hk v l.length (l.flatMap enc) hown.1 ⟨b, o, none⟩ ys.length c (ys.flatMap enc) (hlen ys)
    hy' h1' (by simp only [maxLen]; omega) hm hbase
  refine valK_of hr (kk v' w' ⟨by simpa [List.flatMap_append] using ho, hown.2⟩ hg ?_)
  intro g' hg'
  rcases hown.1.2 with ⟨rfl, h0⟩ | ⟨g, cap, cur, rfl, hbg, hgg, hnc, hcm, hcs, htake⟩
  · have hl : l = [] := List.eq_nil_of_length_eq_zero h0
    subst hl
    have hown' : w.ownsRow w.heap.size e i.size (.slice none 0 0) 0 [] := World.ownsRow_nil _ _ _ _
    obtain ⟨v2, w2, hr2, ho2, _, _⟩ := run_append_own (P := P) w w.heap.size bt ty e i z i.size i.bytes hu hi hz rfl rfl hzs hk _ 0 [] hown' ⟨b, o, none⟩ ys.length c (ys.flatMap enc) (hlen ys)
      hy' h1' (by simp only [maxLen]; omega) (by simpa using hm) (Nat.le_refl _)
    have := hr.symm.trans hr2
    cases this
    exact .inr (ho2.lt g' hg').1
  · by_cases hroom : l.length + ys.length ≤ cap
    · obtain ⟨w2, hr2, _⟩ := run_append_fits (P := P) (w := w) base bt ty e i i.size hu hi rfl g l.length cap (l.flatMap enc) hown.1 ⟨b, o, none⟩ ys.length c (ys.flatMap enc) (hlen ys) hy' h1' hroom
      have := hr.symm.trans hr2
      cases this
      exact .inl hg'
    · have hr2 := run_append_grow (P := P) w bt ty e i z hu hi hz ⟨g, 0, none⟩ l.length cap (l.flatMap enc) hown.1.1 (hown.1.cells (g := g) rfl) ⟨b, o, none⟩ ys.length c (ys.flatMap enc) (hlen ys) hy' (by omega) (by omega) (growslice_fits (by omega) hm)
      have := hr.symm.trans hr2
      cases this
      simp only [Value.ownBlock, Option.some.injEq] at hg'
      exact .inr (by omega)

theorem Own.keptX {α : Type} {base : Nat} {e : TypeId} {k : Nat} {enc : α → List Value} {X : Nat → Prop} {w w' : World} {v : Value} {l : List α} (h : Own base e k enc w v l) (hb : Kept X w w') (hX : ∀ g, v.ownBlock = some g → ¬ X g) : Own base e k enc w' v l := by
  refine ⟨⟨h.1.1, ?_⟩, h.2⟩
  rcases h.1.2 with hn | ⟨g, cap, cur, rfl, hbg, hgg, rest⟩
  · exact .inl hn
  · refine .inr ⟨g, cap, cur, rfl, hbg, ?_, rest⟩
    rw [hb.block g (Array.getElem?_eq_some_iff.1 hgg).1 (hX g rfl)]
    exact hgg
theorem Own.new {α : Type} {base : Nat} {e : TypeId} {k : Nat} {enc : α → List Value} {w w' : World} {v : Value} {l : List α} {e' : TypeId} {cs : List Value} (h : Own base e k enc w v l) (hn : New w w' e' cs) : Own base e k enc w' v l := h.below hn.below
theorem Own.block {α : Type} {base : Nat} {e : TypeId} {k : Nat} {enc : α → List Value} {w : World} {v : Value} {l : List α} (h : Own base e k enc w v l) : ∀ g, v.ownBlock = some g → base ≤ g ∧ g < w.heap.size := h.1.lt

theorem assert_lacks {ty xT I : TypeId} {v z : Value} {want} {p} (hu : P.underlying I = some (.interface want)) (h : (P.info? ty).map (fun i => (lacking want i.methods).isEmpty) = some false) (hz : (P.info? I).map (·.zero) = some (some z)) (k : K (.tuple #[z, .bool false]) w) :
    valK P (Instr.typeAssert (.iface ty v) xT I true) t w K Q p := valK_of (run_typeAssert_lacksB hu h hz v xT w) k
theorem assert_has {ty xT I : TypeId} {v : Value} {want} {p} (hu : P.underlying I = some (.interface want)) (h : (P.info? ty).map (fun i => (lacking want i.methods).isEmpty) = some true) (k : K (.tuple #[.iface ty v, .bool true]) w) :
    valK P (Instr.typeAssert (.iface ty v) xT I true) t w K Q p := valK_of (run_typeAssert_hasB hu h v xT w) k
end
attribute [push_cast] Bool.false_or Bool.or_true nilK_some opK_nilCheck mixK_nilCheck mixK_invoke mixK_alloc mixK_iface mixK_makeSlice mixK_typeAssert mixK_makeFunc strlit sliceK_hi opK_invoke storeK_many retC_ret retC_normal retL_nil retL_tmp retL_cell
end Go.Vc
