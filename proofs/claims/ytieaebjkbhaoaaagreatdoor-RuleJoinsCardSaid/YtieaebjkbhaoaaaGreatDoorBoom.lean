import Derived.Test.YtieaebjkbhaoaaaGreatDoorVq
set_option linter.unusedSimpArgs false
set_option linter.unusedVariables false
namespace Go.Vc
open Go.RowKit
/-! A region that draws its order, of which one call panics: all that may stand ahead of it only reckons. -/
section
variable {P : Program} {ops : Array Oper} {m : Nat} {E : List PanicEntry → World → Prop} {w : World}
def quietOp (P : Program) (ops : Array Oper) (w : World) (i : Nat) (K : Act → Prop) (a : Act) : Prop :=
  match ops[i]? with
  | none => K a
  | some o => if Region.wanted o (yielded ops a.tmps) then ∃ v, (execOp a.eval o).run P w = .ok (.value v) w ∧ K (a.put o.dst v) else K (a.put o.dst undef)
def boomOp (P : Program) (ops : Array Oper) (w : World) (m : Nat) (E : List PanicEntry → World → Prop) (a : Act) : Prop :=
  a.defers = [] ∧ ∃ o, ops[m]? = some o ∧ Region.wanted o (yielded ops a.tmps) = true ∧ ∃ f args w', (execOp a.eval o).run P w = .ok (.enter f args) w' ∧ Calls P f args w' fun e w'' => ∃ c, e = .panicked c ∧ E c w''
def wpB (P : Program) (ops : Array Oper) (w : World) (m : Nat) (E : List PanicEntry → World → Prop) : Nat → Array Bool → Act → Prop
  | 0, _, _ => False
  | n + 1, listed, a => Region.ready .any ops listed ≠ [] ∧ ∀ i ∈ Region.ready .any ops listed, if i = m then boomOp P ops w m E a else quietOp P ops w i (wpB P ops w m E n (listed.setIfInBounds i true)) a

theorem quietOp_mono {i : Nat} {K K' : Act → Prop} {a : Act} (hk : ∀ a, K a → K' a) (h : quietOp P ops w i K a) : quietOp P ops w i K' a := by
  unfold quietOp at *
  split
  · rename_i ho; simp only [ho] at h; exact hk _ h
  · rename_i o ho
    simp only [ho] at h
    split
    · rename_i hw
      simp only [hw, if_true] at h
      obtain ⟨v, h1, h2⟩ := h
      exact ⟨v, h1, hk _ h2⟩
    · rename_i hw
      simp only [hw] at h
      exact hk _ h
theorem put_defers (a : Act) (d : Option Tmp) (v : Value) : (a.put d v).defers = a.defers := by cases d <;> rfl
/-- Whatever only reckons may be put off. -/
theorem quietOp_swap {i j : Nat} {oi oj : Oper} {K : Act → Prop} {a : Act} (hi : ops[i]? = some oi) (hj : ops[j]? = some oj) (hap : oi.apart ops oj = true)
    (hsi : ∀ cs b, oi.op ≠ .select cs b) (hsj : ∀ cs b, oj.op ≠ .select cs b) (h : quietOp P ops w i (quietOp P ops w j K) a) : quietOp P ops w j (quietOp P ops w i K) a := by
  obtain ⟨h1, h2, h3⟩ := Oper.apart_spec hap
  have ej : ∀ (b : Act) (v : Value), execOp (b.put oi.dst v).eval oj = execOp b.eval oj := fun b v => execOp_put oj hsj b oi.dst v h1
  have ei : ∀ (b : Act) (v : Value), execOp (b.put oj.dst v).eval oi = execOp b.eval oi := fun b v => execOp_put oi hsi b oj.dst v h3
  have wj : ∀ (b : Act) (v : Value), Region.wanted oj (yielded ops (b.put oi.dst v).tmps) = Region.wanted oj (yielded ops b.tmps) := fun b v => wanted_put oj b oi.dst v h1
  have wi : ∀ (b : Act) (v : Value), Region.wanted oi (yielded ops (b.put oj.dst v).tmps) = Region.wanted oi (yielded ops b.tmps) := fun b v => wanted_put oi b oj.dst v h3
  have cm : ∀ (b : Act) (v u : Value), (b.put oi.dst v).put oj.dst u = (b.put oj.dst u).put oi.dst v := fun b v u => Act.put_comm b v u h2
  unfold quietOp at h ⊢
  simp only [hi, hj, ej, ei, wj, wi] at h ⊢
  cases hwi : Region.wanted oi (yielded ops a.tmps) <;> cases hwj : Region.wanted oj (yielded ops a.tmps) <;> simp only [hwi, hwj, Bool.false_eq_true, if_true, if_false] at h ⊢
  · rw [← cm]; exact h
  · obtain ⟨v, hv, hk⟩ := h; exact ⟨v, hv, by rw [← cm]; exact hk⟩
  · obtain ⟨v, hv, hk⟩ := h; exact ⟨v, hv, by rw [← cm]; exact hk⟩
  · obtain ⟨v, hv, u, hu, hk⟩ := h; exact ⟨u, hu, v, hv, by rw [← cm]; exact hk⟩
theorem boomOp_swap {i : Nat} {oi om : Oper} {a : Act} (hi : ops[i]? = some oi) (hj : ops[m]? = some om) (hap : oi.apart ops om = true) (hsj : ∀ cs b, om.op ≠ .select cs b) (h : quietOp P ops w i (boomOp P ops w m E) a) : boomOp P ops w m E a := by
  obtain ⟨h1, h2, h3⟩ := Oper.apart_spec hap
  have key : ∀ v, boomOp P ops w m E (a.put oi.dst v) → boomOp P ops w m E a := fun v ⟨hd, o, ho, hw, f, args, w', hr, hc⟩ => by
    rw [hj] at ho; cases ho
    refine ⟨by rw [← put_defers a oi.dst v]; exact hd, om, hj, by rw [← wanted_put om a oi.dst v h1]; exact hw, f, args, w', by rw [← execOp_put om hsj a oi.dst v h1]; exact hr, hc⟩
  unfold quietOp at h
  simp only [hi] at h
  split at h
  · obtain ⟨v, _, hk⟩ := h; exact key v hk
  · exact key _ h

theorem wpB_first {i : Nat} {oi : Oper} (hi : ops[i]? = some oi) (him : i ≠ m) (hsel : ∀ (j : Nat) (o : Oper) cs b, ops[j]? = some o → o.op ≠ .select cs b) :
    ∀ (fuel : Nat) (listed : Array Bool) (a : Act), Shut ops listed →
      (∀ j oj, ops[j]? = some oj → j ≠ i → listed.getD j true = false → ((Region.before ops).getD j 0).testBit i = false → oi.apart ops oj = true) →
      i ∈ Region.ready .any ops listed → quietOp P ops w i (wpB P ops w m E fuel (listed.setIfInBounds i true)) a → wpB P ops w m E (fuel + 1) listed a := by
  intro fuel
  induction fuel with
  | zero =>
    intro listed a _ _ hr H
    exfalso
    unfold quietOp at H
    simp only [hi] at H
    split at H
    · obtain ⟨v, _, hk⟩ := H; exact hk
    · exact H
  | succ fuel ih =>
    intro listed a hS hfree hr H
    refine ⟨fun h => (by rw [h] at hr; cases hr), fun j hj => ?_⟩
    by_cases hji : j = i
    · subst hji; rw [if_neg him]; exact H
    · obtain ⟨hjun, oj, hoj, hall⟩ := mem_ready.1 hj
      have hiun : listed.getD i false = false := by
        have h0 := (mem_ready.1 hr).1
        rcases Nat.lt_or_ge i listed.size with h' | h'
        · simp [h'] at h0 ⊢; exact h0
        · simp [Array.getElem?_eq_none h']
      have hnot : ((Region.before ops).getD j 0).testBit i = false := by
        cases hb : ((Region.before ops).getD j 0).testBit i with
        | false => rfl
        | true => have := hS.before j i oj hoj hall hb; rw [hiun] at this; cases this
      have hap := hfree j oj hoj hji hjun hnot
      have h1 : quietOp P ops w i (fun a => if j = m then boomOp P ops w m E a else quietOp P ops w j (wpB P ops w m E fuel ((listed.setIfInBounds i true).setIfInBounds j true)) a) a :=
        quietOp_mono (fun a' hh => hh.2 j (ready_mono hj hji)) H
      by_cases hjm : j = m
      · subst hjm
        simp only [if_true] at h1 ⊢
        exact boomOp_swap hi hoj hap (fun cs b => hsel j oj cs b hoj) h1
      · simp only [if_neg hjm] at h1 ⊢
        have h2 := quietOp_swap hi hoj hap (fun cs b => hsel i oi cs b hi) (fun cs b => hsel j oj cs b hoj) h1
        refine quietOp_mono (fun a' h3 => ih (listed.setIfInBounds j true) a' (hS.set hj) ?_ (ready_mono hr (Ne.symm hji)) ?_) h2
        · intro k ok hk hki hun hno
          refine hfree k ok hk hki ?_ hno
          by_cases hjk : j = k
          · subst hjk; exact hjun
          · rw [getD_set_ne true hjk] at hun; exact hun
        · rw [Array.setIfInBounds_comm _ _ hji]
          exact h3

def quietFree (ops : Array Oper) (bf : Array Nat) (listed : Array Bool) (i : Nat) : Bool :=
  match ops[i]? with
  | none => false
  | some oi => (List.range ops.size).all fun j => j == i || listed.getD j true || match ops[j]? with
      | some oj => (bf.getD j 0).testBit i || oi.apart ops oj
      | none => true
theorem quietFree_spec {i : Nat} {oi : Oper} {listed : Array Bool} (hi : ops[i]? = some oi) (h : quietFree ops (Region.before ops) listed i = true) (j : Nat) (oj : Oper)
    (hj : ops[j]? = some oj) (hne : j ≠ i) (hun : listed.getD j true = false) (hno : ((Region.before ops).getD j 0).testBit i = false) : oi.apart ops oj = true := by
  simp only [quietFree, hi, List.all_eq_true, List.mem_range] at h
  have h1 := h j (Array.getElem?_eq_some_iff.1 hj).1
  simp only [hj, Bool.or_eq_true, beq_iff_eq, hne, false_or, hun, Bool.false_eq_true, hno] at h1
  exact h1
/-- n more ahead of the call, from k on. -/
def boomFrom (P : Program) (ops : Array Oper) (bf : Array Nat) : Nat → Nat → Array Bool → Bool
  | 0, k, listed => Region.ready .any ops listed == [k]
  | n + 1, k, listed => (Region.ready .any ops listed).contains k && quietFree ops bf listed k && boomFrom P ops bf n (k + 1) (listed.setIfInBounds k true)
def boomB (P : Program) (ops : Array Oper) (m : Nat) : Bool := Region.noSelect ops && decide (m < ops.size) && boomFrom P ops (Region.before ops) m 0 (Array.replicate ops.size false)
def boomLex (P : Program) (ops : Array Oper) (w : World) (m : Nat) (E : List PanicEntry → World → Prop) : List Nat → Act → Prop
  | [], a => boomOp P ops w m E a
  | i :: r, a => quietOp P ops w i (boomLex P ops w m E r) a
theorem wpB_lex (hs : Region.noSelect ops = true) : ∀ (n k f : Nat) (listed : Array Bool) (a : Act), k + n = m → m < ops.size → n < f → Shut ops listed →
    boomFrom P ops (Region.before ops) n k listed = true → boomLex P ops w m E (List.range' k n) a → wpB P ops w m E f listed a
  | 0, k, f, listed, a, hk, hm, hf, hS, hB, h => by
    obtain ⟨f', rfl⟩ : ∃ f', f = f' + 1 := ⟨f - 1, by omega⟩
    have hr : Region.ready .any ops listed = [k] := by simpa [boomFrom] using hB
    have hkm : k = m := by omega
    refine ⟨by rw [hr]; simp, fun i hi => ?_⟩
    rw [hr] at hi
    obtain rfl := List.mem_singleton.1 hi
    rw [if_pos hkm]
    exact h
  | n + 1, k, f, listed, a, hk, hm, hf, hS, hB, h => by
    obtain ⟨f', rfl⟩ : ∃ f', f = f' + 1 := ⟨f - 1, by omega⟩
    simp only [boomFrom, Bool.and_eq_true] at hB
    obtain ⟨⟨hr, hfree⟩, hB'⟩ := hB
    have hlt : k < ops.size := by omega
    have hr' : k ∈ Region.ready .any ops listed := by simpa using hr
    refine wpB_first (i := k) (oi := ops[k]) (by simp [hlt]) (by omega) (Region.noSelect_spec hs) f' listed a hS (quietFree_spec (by simp [hlt]) hfree) hr' ?_
    simp only [List.range'_succ, boomLex] at h
    exact quietOp_mono (fun a' hh => wpB_lex hs n (k + 1) f' _ a' (by omega) hm (by omega) (hS.set hr') hB' hh) h
theorem wpAny_of_boom {Q : Exit → Act → World → Prop} (hq : ∀ c a w', a.defers = [] → E c w' → Q (.panic c) a w') : ∀ (fuel : Nat) (listed : Array Bool) (a : Act), wpB P ops w m E fuel listed a → wpAny P .any ops Q fuel listed a w
  | 0, _, _, h => h.elim
  | fuel + 1, listed, a, h => ⟨fun h0 => absurd h0 h.1, fun i hi => by
      have h1 := h.2 i hi
      by_cases him : i = m
      · subst him
        rw [if_pos rfl] at h1
        obtain ⟨hd, o, ho, hw, f, args, w', hr, hc⟩ := h1
        unfold wpOp
        simp only [ho, hw, if_true]
        refine .inl ?_
        unfold Oper.wp
        rw [hr]
        unfold Oper.upon
        exact hc.mono fun e w'' ⟨c, he, hE⟩ => by subst he; exact hq c a w'' hd hE
      · rw [if_neg him] at h1
        unfold quietOp at h1
        unfold wpOp
        split
        · rename_i ho; simp only [ho] at h1; exact wpAny_of_boom hq fuel _ _ h1
        · rename_i o ho
          simp only [ho] at h1
          split
          · rename_i hw
            simp only [hw, if_true] at h1
            obtain ⟨v, hv, hk⟩ := h1
            refine .inl ?_
            unfold Oper.wp
            rw [hv]
            exact wpAny_of_boom hq fuel _ _ hk
          · rename_i hw
            simp only [hw] at h1
            exact wpAny_of_boom hq fuel _ _ h1⟩

/-- The call that panics, told by its contract. -/
def callB (P : Program) (g : FuncId) (args : List Value) (w : World) (E : List PanicEntry → World → Prop) (_ : Ph E) : Prop := (callFunc g args.toArray).run P w = .ok (.enter g args.toArray) w ∧ Calls P g args.toArray w fun e w'' => ∃ c, e = .panicked c ∧ E c w''
def boomK (P : Program) (o : Oper) (t : Fr) (w : World) (E : List PanicEntry → World → Prop) (_ : Ph (o, E)) : Prop := match o.guard, o.op with
  | none, .call { callee := .value f, args, argTypes := _ } => (match ev t f with
    | .func (.func g) first cap => callB P g (first.toList ++ args.toList.map (ev t) ++ cap.toList) w E .mk
    | _ => False)
  | _, _ => False
def vcBoom (P : Program) (ops : List Oper) (E : List PanicEntry → World → Prop) : List Unit → (l : List Oper) → Fr → World → Ph (ops, E, l) → Prop
  | [], o :: _, t, w, _ => boomK P o t w E .mk
  | _ :: n, o :: r, t, w, _ => chainN P o = false ∧ match o.guard with
    | none => mixKN P o t w (· = w) (fun v _ => vcBoom P ops E n r (put t o.dst v) w .mk) .mk
    | some (j, want) => guardK (slotOf ops j) want t (fun t' => mixKN P o t' w (· = w) (fun v _ => vcBoom P ops E n r (put t' o.dst v) w .mk) .mk) (fun t' => vcBoom P ops E n r (put t' o.dst undef) w .mk) .mk
  | _, [], _, _, _ => False
theorem callB_of {g : FuncId} {args : List Value} {R : VK} {E' : List PanicEntry → World → Prop} {p} (h : Fun2 P g args w R E') (hR : ∀ v w', ¬ R v w') (k : ∀ c w', E' c w' → E c w') : callB P g args w E p :=
  ⟨h.1, h.2.mono fun e w' he => by cases e <;> first | exact absurd he (hR _ _) | exact ⟨_, rfl, k _ _ he⟩ | exact he.elim⟩
theorem quietOp_of_mixKN {ops : List Oper} {i : Nat} {o : Oper} {t : Fr} {K : VK} {N : Act → Prop} (hi : ops[i]? = some o) (hw : Region.wanted o (yielded ops.toArray t.toArray) = true) (hc : chainN P o = false)
    (hn : ∀ v, K v w → N ⟨(put t o.dst v).toArray, []⟩) (h : mixKN P o t w (· = w) K .mk) : quietOp P ops.toArray w i N ⟨t.toArray, []⟩ := by
  unfold quietOp
  simp only [List.getElem?_toArray, hi, hw, if_true, ev_eq]
  unfold mixKN at h
  split at h
  · rename_i ty x ho
    obtain ⟨v, hr, _, hk⟩ := loadK_run ho h
    exact ⟨v, hr, by rw [put_eq]; exact hn _ hk⟩
  · rename_i x ho
    unfold nilK at h
    split at h
    · rename_i a hx
      refine ⟨_, ?_, by rw [put_eq]; exact hn _ h⟩
      unfold execOp
      simp only [ho, hx]
      rfl
    · exact h.elim
  · simp only [hc, Bool.false_eq_true, if_false] at h
    rcases pureK_ok h with h | ⟨v, hg, hk⟩
    · exact h.elim
    · exact ⟨v, hg w, by rw [put_eq]; exact hn _ hk⟩
theorem boomOp_of {ops : List Oper} {m : Nat} {o : Oper} {t : Fr} (hi : ops[m]? = some o) (h : boomK P o t w E .mk) : boomOp P ops.toArray w m E ⟨t.toArray, []⟩ := by
  unfold boomK at h
  split at h
  · rename_i f args aty hg ho
    split at h
    · rename_i g first cap hf
      refine ⟨rfl, o, by simpa using hi, by simp [Region.wanted, hg], g, _, w, ?_, h.2⟩
      rw [ev_eq]
      unfold execOp
      have e : (first.toList ++ args.toList.map (ev t) ++ cap.toList).toArray = first ++ args.map (ev t) ++ cap := by apply Array.ext'; simp
      have h1 := h.1
      rw [e] at h1 ⊢
      simp only [ho, resolve, hf, Deferred.ofValue, Sem.run_bind, Sem.run_pure, Result.andThen_ok, invoke]
      exact h1
    · exact h.elim
  · exact h.elim
theorem boomLex_of {ops : List Oper} {m : Nat} : ∀ (n : List Unit) (k : Nat) (l : List Oper) (t : Fr), k + n.length = m → (∀ j, l[j]? = ops[k + j]?) → vcBoom P ops E n l t w .mk → boomLex P ops.toArray w m E (List.range' k n.length) ⟨t.toArray, []⟩
  | [], k, [], t, hk, hl, h => h.elim
  | [], k, o :: r, t, hk, hl, h => boomOp_of (by have := hl 0; simpa [← hk] using this.symm) h
  | _ :: n, k, [], t, hk, hl, h => h.elim
  | _ :: n, k, o :: r, t, hk, hl, h => by
    have h0 : ops[k]? = some o := by simpa using (hl 0).symm
    have ih := fun t => boomLex_of (m := m) n (k + 1) r t (by rw [List.length_cons] at hk; omega) (fun j => by have := hl (j + 1); simpa [Nat.add_assoc, Nat.add_comm 1 j] using this)
    simp only [List.length_cons, List.range'_succ, boomLex]
    obtain ⟨hc, h⟩ := h
    split at h
    · rename_i hg
      exact quietOp_of_mixKN h0 (by simp [Region.wanted, hg]) hc (fun v hk => ih _ hk) h
    · rename_i j want hg
      rcases guard_cases hg h with ⟨hw, hh⟩ | ⟨hw, hh⟩
      · exact quietOp_of_mixKN h0 hw hc (fun v hk => ih _ hk) hh
      · unfold quietOp
        simp only [List.getElem?_toArray, h0, hw, Bool.false_eq_true, if_false]
        rw [put_eq]; exact ih _ hh
/-- A region that draws its order, whose m-th operation is a call that panics. -/
theorem wpL_boom {id : Nat} {l : List Oper} {t : Fr} {Q : EP} {p} (m : List Unit) (hm : P.follows .mixedOrders = true) (hB : boomB P l.toArray m.length = true) (hq : ∀ c t w', E c w' → Q (.panic c) t w')
    (h : vcBoom P l E m l t w.drew .mk) : wpL P (.region id l.toArray true) Q t w p := by
  unfold wpL
  simp only [boomB, Bool.and_eq_true, decide_eq_true_eq] at hB
  refine wp_region_any hm ?_
  refine wpAny_of_boom (E := E) (m := m.length) (fun c a w' hd hE => ⟨hd, hq c _ w' hE⟩) _ _ _ ?_
  exact wpB_lex hB.1.1 m.length 0 _ _ _ (by omega) hB.1.2 hB.1.2 (fun j o _ hl => by simp [Array.getElem?_replicate] at hl; split at hl <;> simp at hl) hB.2 (boomLex_of m 0 l t (by omega) (fun j => by simp) h)
theorem vcBoom_zero (ops) (o : Oper) (r) (p) (t : Fr) : vcBoom P ops E [] (o :: r) t w p = boomK P o t w E .mk := (rfl)
theorem vcBoom_plain (ops) (u : Unit) (n) (d op ty pos af r) (p) (t : Fr) : vcBoom P ops E (u :: n) (⟨d, op, ty, pos, af, none⟩ :: r) t w p = (chainN P ⟨d, op, ty, pos, af, none⟩ = false ∧ mixKN P ⟨d, op, ty, pos, af, none⟩ t w (· = w) (fun v _ => vcBoom P ops E n r (put t d v) w .mk) .mk) := (rfl)
def funB (P : Program) (f : Value) (args : List Value) (w : World) (E : List PanicEntry → World → Prop) (_ : Ph E) : Prop := match f with
  | .func (.func g) first cap => callB P g (first.toList ++ args ++ cap.toList) w E .mk
  | _ => False
theorem boomK_call (d f) (args : List Operand) (aty ty pos af) (p) (t : Fr) : boomK P ⟨d, .call { callee := .value f, args := args.toArray, argTypes := aty }, ty, pos, af, none⟩ t w E p = funB P (ev t f) (args.map (ev t)) w E .mk := (rfl)
theorem funB_func (g : FuncId) (args : List Value) (p) : funB P (.func (.func g) #[] #[]) args w E p = callB P g args w E .mk := by
  show callB P g (#[].toList ++ args ++ #[].toList) w E .mk = _
  simp
end
section
variable {P : Program}
theorem ch_move (d x ty pos af g) : chainN P ⟨d, .move x, ty, pos, af, g⟩ = false := (rfl)
theorem ch_assign (d x ty pos af g) : chainN P ⟨d, .assign x, ty, pos, af, g⟩ = false := (rfl)
theorem ch_nil (d x ty pos af g) : chainN P ⟨d, .nilCheck x, ty, pos, af, g⟩ = false := (rfl)
theorem ch_load (d t x ty pos af g) : chainN P ⟨d, .load t x, ty, pos, af, g⟩ = false := (rfl)
theorem ch_fieldAddr (d t x f ty pos af g) : chainN P ⟨d, .fieldAddr t x f, ty, pos, af, g⟩ = false := (rfl)
end
attribute [push_cast] boomK_call funB_func vcBoom_zero vcBoom_plain ch_move ch_assign ch_nil ch_load ch_fieldAddr
end Go.Vc
