import Derived.Test.YtimjpijbcnjaaaaDoorVs
namespace Go.Vc
open Go.RowKit

/-! Regions that draw their order: reckonings and loads float; what makes or writes memory, and calls, keep their order. -/

/-- An operation that may turn the world. -/
def chain (P : Program) (o : Oper) : Bool := match o.op with
  | .convert _ d _ => !((P.underlying d) matches some (.int _))
  | .move _ | .assign _ | .pick .. | .binOp .. | .unOp .. | .extract .. | .index .. | .build .. | .makeFunc .. | .fieldAddr .. | .field .. | .indexAddr .. | .slice .. | .makeInterface .. | .load .. => false
  | .call { callee := .builtin .len, .. } | .call { callee := .builtin .max, .. } | .call { callee := .builtin .min, .. } => false
  | _ => true

section
variable {P : Program} {ops : Array Oper} {md : Region.Mode} {C : World → Prop}

/-- What comes of a run, where nothing panics: a world of the class. -/
def resA (P : Program) (a : Act) (dst : Option Tmp) (C : World → Prop) (K : Act → World → Prop) : Result Next → Prop
  | .ok (.value v) w' => C w' ∧ K (a.put dst v) w'
  | .ok .skip w' => C w' ∧ K (a.put dst undef) w'
  | .ok (.enter f args) w' => Calls P f args w' fun e w'' => ∃ v, e = .returned v ∧ C w'' ∧ K (a.put dst v) w''
  | _ => False

theorem resA_some {a : Act} {dst : Option Tmp} {K : Act → World → Prop} {r : Result Next} (h : resA P a dst C K r) : ∃ v w', C w' ∧ K (a.put dst v) w' := by
  cases r with
  | halt x w' => simp only [resA] at h
  | ok n w' =>
    cases n <;> simp only [resA] at h
    case value v => exact ⟨_, _, h⟩
    case skip => exact ⟨_, _, h⟩
    case enter f args =>
      obtain ⟨e, w'', _, ⟨v, _, hc, hk⟩, _⟩ := h []
      exact ⟨v, w'', hc, hk⟩

theorem resA_mono {a b : Act} {dst : Option Tmp} {K K' : Act → World → Prop} {r : Result Next} (hk : ∀ v w', C w' → K (a.put dst v) w' → K' (b.put dst v) w') (h : resA P a dst C K r) : resA P b dst C K' r := by
  cases r with
  | halt x w' => simp only [resA] at h
  | ok n w' =>
    cases n <;> simp only [resA] at h ⊢
    case value v => exact ⟨h.1, hk _ _ h.1 h.2⟩
    case skip => exact ⟨h.1, hk _ _ h.1 h.2⟩
    case enter f args => exact h.mono fun e w'' ⟨v, he, hc, hh⟩ => ⟨v, he, hc, hk _ _ hc hh⟩

theorem upon_of_resA {o : Oper} {a : Act} {K : Act → World → Prop} {Q : Exit → Act → World → Prop} {r : Result Next} (h : resA P a o.dst C K r) : o.upon P a (fun a' w' => C w' ∧ K a' w') Q r := by
  cases r with
  | halt x w' => simp only [resA] at h
  | ok n w' =>
    cases n <;> simp only [resA] at h <;> simp only [Oper.upon]
    case value v => exact h
    case skip => exact h
    case enter f args => exact h.mono fun e w'' ⟨v, he, hh⟩ => by subst he; exact hh

def mixOp (P : Program) (ops : Array Oper) (C : World → Prop) (i : Nat) (K : Act → World → Prop) (a : Act) (w : World) : Prop :=
  match ops[i]? with
  | none => K a w
  | some o =>
    if Region.wanted o (yielded ops a.tmps) then
      if chain P o then resA P a o.dst C K ((execOp a.eval o).run P w)
      else ∃ v, (∀ w', C w' → (execOp a.eval o).run P w' = .ok (.value v) w') ∧ K (a.put o.dst v) w
    else K (a.put o.dst undef) w

theorem mixOp_mono {i : Nat} {K K' : Act → World → Prop} {a : Act} {w : World} (hC : C w) (hk : ∀ a w, C w → K a w → K' a w) (h : mixOp P ops C i K a w) : mixOp P ops C i K' a w := by
  unfold mixOp at *
  split
  · rename_i ho; simp only [ho] at h; exact hk _ _ hC h
  · rename_i o ho
    simp only [ho] at h
    split
    · rename_i hw
      simp only [hw, if_true] at h
      split
      · rename_i hc
        simp only [hc, if_true] at h
        exact resA_mono (fun v w' hw' hh => hk _ _ hw' hh) h
      · rename_i hc
        simp only [hc] at h
        obtain ⟨v, h1, h2⟩ := h
        exact ⟨v, h1, hk _ _ hC h2⟩
    · rename_i hw
      simp only [hw] at h
      exact hk _ _ hC h

theorem mixOp_some {i : Nat} {K : Act → World → Prop} {a : Act} {w : World} (hC : C w) (h : mixOp P ops C i K a w) : ∃ a' w', C w' ∧ K a' w' := by
  unfold mixOp at h
  split at h
  · exact ⟨_, _, hC, h⟩
  · split at h
    · split at h
      · obtain ⟨v, w', hh⟩ := resA_some h; exact ⟨_, _, hh⟩
      · obtain ⟨v, _, hh⟩ := h; exact ⟨_, _, hC, hh⟩
    · exact ⟨_, _, hC, h⟩

theorem mixOp_no {i : Nat} {o : Oper} {K : Act → World → Prop} {a : Act} {w : World} (hi : ops[i]? = some o) (hw : Region.wanted o (yielded ops a.tmps) = false) : mixOp P ops C i K a w = K (a.put o.dst undef) w := by
  unfold mixOp; simp [hi, hw]
theorem mixOp_chain {i : Nat} {o : Oper} {K : Act → World → Prop} {a : Act} {w : World} (hi : ops[i]? = some o) (hw : Region.wanted o (yielded ops a.tmps) = true) (hc : chain P o = true) : mixOp P ops C i K a w = resA P a o.dst C K ((execOp a.eval o).run P w) := by
  unfold mixOp; simp [hi, hw, hc]
theorem mixOp_quiet {i : Nat} {o : Oper} {K : Act → World → Prop} {a : Act} {w : World} (hi : ops[i]? = some o) (hw : Region.wanted o (yielded ops a.tmps) = true) (hc : chain P o = false) : mixOp P ops C i K a w = ∃ v, (∀ w', C w' → (execOp a.eval o).run P w' = .ok (.value v) w') ∧ K (a.put o.dst v) w := by
  unfold mixOp; simp [hi, hw, hc]

/-- Two operations that are apart, not both of the chain, may change places. -/
theorem mixOp_swap {i j : Nat} {oi oj : Oper} {K : Act → World → Prop} {a : Act} {w : World} (hi : ops[i]? = some oi) (hj : ops[j]? = some oj) (hap : oi.apart ops oj = true) (hch : (chain P oi && chain P oj) = false)
    (hsi : ∀ cs b, oi.op ≠ .select cs b) (hsj : ∀ cs b, oj.op ≠ .select cs b) (h : mixOp P ops C i (mixOp P ops C j K) a w) : mixOp P ops C j (mixOp P ops C i K) a w := by
  obtain ⟨h1, h2, h3⟩ := Oper.apart_spec hap
  have ej : ∀ (b : Act) (v : Value), execOp (b.put oi.dst v).eval oj = execOp b.eval oj := fun b v => execOp_put oj hsj b oi.dst v h1
  have ei : ∀ (b : Act) (v : Value), execOp (b.put oj.dst v).eval oi = execOp b.eval oi := fun b v => execOp_put oi hsi b oj.dst v h3
  have wj : ∀ (b : Act) (v : Value), Region.wanted oj (yielded ops (b.put oi.dst v).tmps) = Region.wanted oj (yielded ops b.tmps) := fun b v => wanted_put oj b oi.dst v h1
  have wi : ∀ (b : Act) (v : Value), Region.wanted oi (yielded ops (b.put oj.dst v).tmps) = Region.wanted oi (yielded ops b.tmps) := fun b v => wanted_put oi b oj.dst v h3
  have cm : ∀ (b : Act) (v u : Value), (b.put oi.dst v).put oj.dst u = (b.put oj.dst u).put oi.dst v := fun b v u => Act.put_comm b v u h2
  cases hwi : Region.wanted oi (yielded ops a.tmps) with
  | false =>
    rw [mixOp_no hi hwi] at h
    cases hwj : Region.wanted oj (yielded ops a.tmps) with
    | false =>
      rw [mixOp_no hj (by rw [wj]; exact hwj)] at h
      rw [mixOp_no hj hwj, mixOp_no hi (by rw [wi]; exact hwi), ← cm]
      exact h
    | true =>
      cases hcj : chain P oj with
      | true =>
        rw [mixOp_chain hj (by rw [wj]; exact hwj) hcj, ej] at h
        rw [mixOp_chain hj hwj hcj]
        refine resA_mono (fun v w' _ hh => ?_) h
        rw [mixOp_no hi (by rw [wi]; exact hwi), ← cm]
        exact hh
      | false =>
        rw [mixOp_quiet hj (by rw [wj]; exact hwj) hcj, ej] at h
        rw [mixOp_quiet hj hwj hcj]
        obtain ⟨v, hv, hk⟩ := h
        refine ⟨v, hv, ?_⟩
        rw [mixOp_no hi (by rw [wi]; exact hwi), ← cm]
        exact hk
  | true =>
    cases hci : chain P oi with
    | true =>
      have hcj : chain P oj = false := by simpa [hci] using hch
      rw [mixOp_chain hi hwi hci] at h
      cases hwj : Region.wanted oj (yielded ops a.tmps) with
      | false =>
        rw [mixOp_no hj hwj, mixOp_chain hi (by rw [wi]; exact hwi) hci, ei]
        refine resA_mono (fun v w' _ hh => ?_) h
        rw [mixOp_no hj (by rw [wj]; exact hwj)] at hh
        rw [← cm]
        exact hh
      | true =>
        obtain ⟨v, w', hw', hh⟩ := resA_some h
        rw [mixOp_quiet hj (by rw [wj]; exact hwj) hcj, ej] at hh
        obtain ⟨u, hu, hk⟩ := hh
        rw [mixOp_quiet hj hwj hcj]
        refine ⟨u, hu, ?_⟩
        rw [mixOp_chain hi (by rw [wi]; exact hwi) hci, ei]
        refine resA_mono (fun v' w'' hw'' hh => ?_) h
        rw [mixOp_quiet hj (by rw [wj]; exact hwj) hcj, ej] at hh
        obtain ⟨u', hu', hk'⟩ := hh
        have e := (hu w'' hw'').symm.trans (hu' w'' hw'')
        injection e with e1 _
        injection e1 with e2
        subst e2
        rw [← cm]
        exact hk'
    | false =>
      rw [mixOp_quiet hi hwi hci] at h
      obtain ⟨v, hv, hk⟩ := h
      cases hwj : Region.wanted oj (yielded ops a.tmps) with
      | false =>
        rw [mixOp_no hj (by rw [wj]; exact hwj)] at hk
        rw [mixOp_no hj hwj, mixOp_quiet hi (by rw [wi]; exact hwi) hci, ei]
        exact ⟨v, hv, by rw [← cm]; exact hk⟩
      | true =>
        cases hcj : chain P oj with
        | true =>
          rw [mixOp_chain hj (by rw [wj]; exact hwj) hcj, ej] at hk
          rw [mixOp_chain hj hwj hcj]
          refine resA_mono (fun u w' _ hh => ?_) hk
          rw [mixOp_quiet hi (by rw [wi]; exact hwi) hci, ei]
          exact ⟨v, hv, by rw [← cm]; exact hh⟩
        | false =>
          rw [mixOp_quiet hj (by rw [wj]; exact hwj) hcj, ej] at hk
          rw [mixOp_quiet hj hwj hcj]
          obtain ⟨u, hu, hk⟩ := hk
          refine ⟨u, hu, ?_⟩
          rw [mixOp_quiet hi (by rw [wi]; exact hwi) hci, ei]
          exact ⟨v, hv, by rw [← cm]; exact hk⟩

/-- Whatever order is picked from here on. -/
def wpMix (P : Program) (md : Region.Mode) (ops : Array Oper) (C : World → Prop) (R : Act → World → Prop) : Nat → Array Bool → Act → World → Prop
  | 0, listed, a, w => Region.ready md ops listed = [] ∧ R a w
  | fuel + 1, listed, a, w => (Region.ready md ops listed = [] → R a w) ∧ ∀ i ∈ Region.ready md ops listed, mixOp P ops C i (wpMix P md ops C R fuel (listed.setIfInBounds i true)) a w

theorem wpAny_of_mix {R : Act → World → Prop} {Q : Exit → Act → World → Prop} (hq : ∀ a w, R a w → Q .normal a w) : ∀ (fuel : Nat) (listed : Array Bool) (a : Act) (w : World), C w →
    wpMix P md ops C R fuel listed a w → wpAny P md ops Q fuel listed a w
  | 0, _, _, _, _, h => ⟨h.1, hq _ _ h.2⟩
  | fuel + 1, listed, a, w, hC, h => ⟨fun h0 => hq _ _ (h.1 h0), fun i hi => by
      have h1 := h.2 i hi
      unfold mixOp at h1
      unfold wpOp
      split
      · rename_i ho; simp only [ho] at h1; exact wpAny_of_mix hq fuel _ _ _ hC h1
      · rename_i o ho
        simp only [ho] at h1
        split
        · rename_i hw
          simp only [hw, if_true] at h1
          refine .inl ?_
          split at h1
          · exact Oper.wp_mono (fun a' w' hh => wpAny_of_mix hq fuel _ _ _ hh.1 hh.2) (upon_of_resA h1)
          · obtain ⟨v, hv, hk⟩ := h1
            unfold Oper.wp
            rw [hv w hC]
            exact wpAny_of_mix hq fuel _ _ _ hC hk
        · rename_i hw
          simp only [hw] at h1
          exact wpAny_of_mix hq fuel _ _ _ hC h1⟩

/-! what waits for what -/
theorem before_fold (ops : List Oper) (acc : Array Nat) : ∃ l : List Nat, (ops.foldl (init := acc) fun acc o => acc.push (o.after.foldl (fun s e => if Region.binds .any e then s ||| 2 ^ e.on ||| acc.getD e.on 0 else s) 0)) = acc ++ l.toArray ∧ l.length = ops.length := by
  induction ops generalizing acc with
  | nil => exact ⟨[], by simp⟩
  | cons o r ih =>
    simp only [List.foldl_cons]
    obtain ⟨l, h1, h2⟩ := ih (acc.push (o.after.foldl (fun s e => if Region.binds .any e then s ||| 2 ^ e.on ||| acc.getD e.on 0 else s) 0))
    exact ⟨_ :: l, by rw [h1]; apply Array.ext'; simp; rfl, by simp [h2]⟩

theorem edges_bit (b : Nat → Nat) (i : Nat) : ∀ (es : List Edge) (s : Nat), (es.foldl (fun s e => if Region.binds .any e then s ||| 2 ^ e.on ||| b e.on else s) s).testBit i = true →
    s.testBit i = true ∨ ∃ e ∈ es, Region.binds .any e = true ∧ (e.on = i ∨ (b e.on).testBit i = true)
  | [], s, h => .inl h
  | e :: es, s, h => by
    simp only [List.foldl_cons] at h
    rcases edges_bit b i es _ h with h | ⟨e', he', hh⟩
    · split at h
      · rename_i hb
        simp only [Nat.testBit_or, Bool.or_eq_true] at h
        rcases h with (h | h) | h
        · exact .inl h
        · refine .inr ⟨e, by simp, hb, .inl ?_⟩
          rw [Nat.testBit_two_pow] at h
          simpa using h
        · exact .inr ⟨e, by simp, hb, .inr h⟩
      · exact .inl h
    · exact .inr ⟨e', by simp [he'], hh⟩

theorem before_spec {j i : Nat} {o : Oper} (hj : ops[j]? = some o) (h : ((Region.before ops).getD j 0).testBit i = true) :
    ∃ e ∈ o.after, Region.binds .any e = true ∧ (e.on = i ∨ (e.on < j ∧ ((Region.before ops).getD e.on 0).testBit i = true)) := by
  have hlt : j < ops.size := (Array.getElem?_eq_some_iff.1 hj).1
  have split : ops.toList = ops.toList.take j ++ o :: ops.toList.drop (j + 1) := by
    have hj' : ops.toList[j]? = some o := by rw [Array.getElem?_toList]; exact hj
    have hlt' : j < ops.toList.length := by simpa using hlt
    have : ops.toList[j] = o := by rw [List.getElem?_eq_getElem hlt'] at hj'; simpa using hj'
    rw [← this, ← List.drop_eq_getElem_cons hlt', List.take_append_drop]
  obtain ⟨l1, e1, n1⟩ := before_fold (ops.toList.take j) #[]
  have hn1 : l1.length = j := by rw [n1, List.length_take]; simp; omega
  have e1' := e1.trans (show (#[] : Array Nat) ++ l1.toArray = l1.toArray by simp)
  obtain ⟨l2, e2, _⟩ := before_fold (ops.toList.drop (j + 1)) (l1.toArray.push (o.after.foldl (fun s e => if Region.binds .any e then s ||| 2 ^ e.on ||| l1.toArray.getD e.on 0 else s) 0))
  have hb : Region.before ops = l1.toArray.push (o.after.foldl (fun s e => if Region.binds .any e then s ||| 2 ^ e.on ||| l1.toArray.getD e.on 0 else s) 0) ++ l2.toArray := by
    unfold Region.before
    rw [← Array.foldl_toList, split, List.foldl_append, List.foldl_cons, e1', e2]
  have hget : ∀ m, m < j → (Region.before ops).getD m 0 = l1.toArray.getD m 0 := by
    intro m hm
    rw [hb]
    simp only [Array.getD_eq_getD_getElem?]
    congr 1
    rw [Array.getElem?_append_left (by simp; omega), Array.getElem?_push_lt (by simp; omega)]
    simp [hn1, hm]
  have hself : (Region.before ops).getD j 0 = o.after.foldl (fun s e => if Region.binds .any e then s ||| 2 ^ e.on ||| l1.toArray.getD e.on 0 else s) 0 := by
    rw [hb]
    simp only [Array.getD_eq_getD_getElem?]
    rw [Array.getElem?_append_left (by simp; omega)]
    have : j = l1.toArray.size := by simp [hn1]
    rw [this]
    simp
  rw [hself, ← Array.foldl_toList] at h
  rcases edges_bit (fun m => l1.toArray.getD m 0) i o.after.toList 0 h with h | ⟨e, he, hbd, hh⟩
  · simp at h
  · refine ⟨e, by simpa using he, hbd, ?_⟩
    rcases hh with hh | hh
    · exact .inl hh
    · by_cases hm : e.on < j
      · exact .inr ⟨hm, by rw [hget _ hm]; exact hh⟩
      · have : l1.toArray.getD e.on 0 = 0 := by simp [Array.getD_eq_getD_getElem?, List.getElem?_eq_none (show l1.length ≤ e.on by omega)]
        rw [this] at hh
        simp at hh

/-- What is listed waits for nothing that is not. -/
def Shut (ops : Array Oper) (listed : Array Bool) : Prop := ∀ (j : Nat) (o : Oper), ops[j]? = some o → listed.getD j false = true → ∀ e ∈ o.after, Region.binds .any e = true → listed.getD e.on false = true

theorem Shut.set {listed : Array Bool} {i : Nat} (h : Shut ops listed) (hi : i ∈ Region.ready .any ops listed) : Shut ops (listed.setIfInBounds i true) := by
  intro j o hj hl e he hb
  obtain ⟨_, o', ho', hall⟩ := mem_ready.1 hi
  by_cases hij : i = j
  · subst hij
    rw [hj] at ho'
    cases ho'
    exact getD_set_true (hall e he hb)
  · rw [getD_set_ne false hij] at hl
    exact getD_set_true (h j o hj hl e he hb)

theorem Shut.before {listed : Array Bool} (h : Shut ops listed) : ∀ (j i : Nat) (o : Oper), ops[j]? = some o → (∀ e ∈ o.after, Region.binds .any e = true → listed.getD e.on false = true) →
    ((Region.before ops).getD j 0).testBit i = true → listed.getD i false = true := by
  intro j
  induction j using Nat.strongRecOn with
  | _ j ih =>
    intro i o hj hall hb
    obtain ⟨e, he, hbd, hh⟩ := before_spec hj hb
    have hl := hall e he hbd
    rcases hh with hh | ⟨hlt, hh⟩
    · rw [hh] at hl; exact hl
    · have hsz : e.on < ops.size := by
        have := (Array.getElem?_eq_some_iff.1 hj).1
        omega
      exact ih e.on hlt i ops[e.on] (by simp [hsz]) (fun e' he' hb' => h e.on ops[e.on] (by simp [hsz]) hl e' he' hb') hh

/-- The one that stands first in the text may be taken first. -/
theorem wpMix_first {R : Act → World → Prop} {i : Nat} {oi : Oper} (hi : ops[i]? = some oi) (hsel : ∀ (j : Nat) (o : Oper) cs b, ops[j]? = some o → o.op ≠ .select cs b) :
    ∀ (fuel : Nat) (listed : Array Bool) (a : Act) (w : World), C w → Shut ops listed →
      (∀ j oj, ops[j]? = some oj → j ≠ i → listed.getD j true = false → ((Region.before ops).getD j 0).testBit i = false → oi.apart ops oj = true ∧ (chain P oi && chain P oj) = false) →
      i ∈ Region.ready .any ops listed → mixOp P ops C i (wpMix P .any ops C R fuel (listed.setIfInBounds i true)) a w → wpMix P .any ops C R (fuel + 1) listed a w := by
  intro fuel
  induction fuel with
  | zero =>
    intro listed a w hC _ _ hr H
    refine ⟨fun h => (by rw [h] at hr; cases hr), fun j hj => ?_⟩
    by_cases hji : j = i
    · subst hji; exact H
    · have := ready_mono hj hji
      obtain ⟨_, _, _, hh⟩ := mixOp_some hC H
      rw [hh.1] at this
      cases this
  | succ fuel ih =>
    intro listed a w hC hS hfree hr H
    refine ⟨fun h => (by rw [h] at hr; cases hr), fun j hj => ?_⟩
    by_cases hji : j = i
    · subst hji; exact H
    · have h1 : mixOp P ops C i (mixOp P ops C j (wpMix P .any ops C R fuel ((listed.setIfInBounds i true).setIfInBounds j true))) a w :=
        mixOp_mono hC (fun a' w' _ hh => hh.2 j (ready_mono hj hji)) H
      obtain ⟨hjun, oj, hoj, hall⟩ := mem_ready.1 hj
      have hiun : listed.getD i false = false := by
        have h0 := (mem_ready.1 hr).1
        rcases Nat.lt_or_ge i listed.size with h' | h'
        · simp [h'] at h0 ⊢; exact h0
        · simp [Array.getElem?_eq_none h']
      have hnot : ((Region.before ops).getD j 0).testBit i = false := by
        cases hb : ((Region.before ops).getD j 0).testBit i with
        | false => rfl
        | true => have := hS.before j i oj hoj hall hb; rw [hiun] at this; cases this
      obtain ⟨hap, hch⟩ := hfree j oj hoj hji hjun hnot
      have h2 := mixOp_swap hi hoj hap hch (fun cs b => hsel i oi cs b hi) (fun cs b => hsel j oj cs b hoj) h1
      refine mixOp_mono hC (fun a' w' hC' h3 => ih (listed.setIfInBounds j true) a' w' hC' (hS.set hj) ?_ (ready_mono hr (Ne.symm hji)) ?_) h2
      · intro k ok hk hki hun hno
        refine hfree k ok hk hki ?_ hno
        by_cases hjk : j = k
        · subst hjk; exact hjun
        · rw [getD_set_ne true hjk] at hun; exact hun
      · rw [Array.setIfInBounds_comm _ _ hji]
        exact h3

def mixFree (P : Program) (ops : Array Oper) (bf : Array Nat) (listed : Array Bool) (i : Nat) : Bool :=
  match ops[i]? with
  | none => false
  | some oi => (List.range ops.size).all fun j => j == i || listed.getD j true || match ops[j]? with
      | some oj => (bf.getD j 0).testBit i || (oi.apart ops oj && !(chain P oi && chain P oj))
      | none => true

theorem mixFree_spec {i : Nat} {oi : Oper} {listed : Array Bool} (hi : ops[i]? = some oi) (h : mixFree P ops (Region.before ops) listed i = true) (j : Nat) (oj : Oper)
    (hj : ops[j]? = some oj) (hne : j ≠ i) (hun : listed.getD j true = false) (hno : ((Region.before ops).getD j 0).testBit i = false) :
    oi.apart ops oj = true ∧ (chain P oi && chain P oj) = false := by
  simp only [mixFree, hi, List.all_eq_true, List.mem_range] at h
  have h1 := h j (Array.getElem?_eq_some_iff.1 hj).1
  simp only [hj, Bool.or_eq_true, beq_iff_eq, hne, false_or, hun, Bool.false_eq_true, hno] at h1
  simp only [Bool.and_eq_true, Bool.not_eq_true'] at h1
  exact h1

def mixFrom (P : Program) (ops : Array Oper) (bf : Array Nat) : Nat → Nat → Array Bool → Bool
  | 0, _, listed => (Region.ready .any ops listed).isEmpty
  | fuel + 1, k, listed => (Region.ready .any ops listed).contains k && mixFree P ops bf listed k && mixFrom P ops bf fuel (k + 1) (listed.setIfInBounds k true)

def mixB (P : Program) (ops : Array Oper) : Bool := Region.noSelect ops && mixFrom P ops (Region.before ops) ops.size 0 (Array.replicate ops.size false)

/-- The text's own order. -/
def wpLex (P : Program) (ops : Array Oper) (C : World → Prop) (R : Act → World → Prop) : List Nat → Act → World → Prop
  | [], a, w => R a w
  | i :: r, a, w => mixOp P ops C i (wpLex P ops C R r) a w

theorem wpMix_lex {R : Act → World → Prop} (hs : Region.noSelect ops = true) : ∀ (n k : Nat) (listed : Array Bool) (a : Act) (w : World), k + n = ops.size → C w → Shut ops listed →
    mixFrom P ops (Region.before ops) n k listed = true → wpLex P ops C R (List.range' k n) a w → wpMix P .any ops C R n listed a w
  | 0, _, _, _, _, _, _, _, hB, h => ⟨by simpa [mixFrom] using hB, h⟩
  | n + 1, k, listed, a, w, hk, hC, hS, hB, h => by
    simp only [mixFrom, Bool.and_eq_true] at hB
    obtain ⟨⟨hr, hf⟩, hB'⟩ := hB
    have hlt : k < ops.size := by omega
    have hr' : k ∈ Region.ready .any ops listed := by simpa using hr
    refine wpMix_first (i := k) (oi := ops[k]) (by simp [hlt]) (Region.noSelect_spec hs) n listed a w hC hS (mixFree_spec (by simp [hlt]) hf) hr' ?_
    simp only [List.range'_succ, wpLex] at h
    exact mixOp_mono hC (fun a' w' hC' hh => wpMix_lex hs n (k + 1) _ a' w' (by omega) hC' (hS.set hr') hB' hh) h

end

section
variable {P : Program}

def noQ : EP := fun _ _ _ => False

/-- One operation of such a region, told by the evaluator. -/
def mixK (P : Program) (o : Oper) (t : Fr) (w : World) (C : World → Prop) (K : VK) (_ : Ph (o, C, K)) : Prop :=
  match o.op with
  | .load ty a => loadK (tyK P ty) (ev t a) w (fun v w' => (∀ w'', C w'' → loadK (tyK P ty) (ev t a) w'' (fun u _ => u = v) .mk) ∧ K v w') .mk
  | _ => if chain P o then opK P o t w (fun v w' => C w' ∧ K v w') noQ .mk else pureK P o t (K · w) False .mk

def vcMix (P : Program) (ops : List Oper) (C : World → Prop) (R : Fr → World → Prop) : (l : List Oper) → Fr → World → Ph (ops, C, R, l) → Prop
  | [], t, w, _ => R t w
  | o :: r, t, w, _ => match o.guard with
    | none => mixK P o t w C (fun v w' => vcMix P ops C R r (put t o.dst v) w' .mk) .mk
    | some (j, want) => guardK (slotOf ops j) want t (fun t' => mixK P o t' w C (fun v w' => vcMix P ops C R r (put t' o.dst v) w' .mk) .mk) (fun t' => vcMix P ops C R r (put t' o.dst undef) w .mk) .mk

theorem resA_of_resK {t : Fr} {dst : Option Tmp} {C : World → Prop} {K : VK} {N : Act → World → Prop} (hn : ∀ v w', K v w' → N ⟨(put t dst v).toArray, []⟩ w') {r : Result Next} (h : resK P t (fun v w' => C w' ∧ K v w') noQ r) : resA P ⟨t.toArray, []⟩ dst C N r := by
  cases r with
  | halt x w' => cases x <;> simp only [resK, noQ] at h
  | ok n w' =>
    cases n <;> simp only [resK] at h <;> simp only [resA]
    case value v => exact ⟨h.1, by rw [put_eq]; exact hn _ _ h.2⟩
    case skip => exact ⟨h.1, by rw [put_eq]; exact hn _ _ h.2⟩
    case enter f args =>
      refine h.mono fun e w'' he => ?_
      cases e with
      | returned v => exact ⟨v, rfl, he.1, by rw [put_eq]; exact hn _ _ he.2⟩
      | panicked c => exact he.elim
      | outgrown => exact he.elim

theorem loadK_run {o : Oper} {ty : TypeId} {x : Operand} {t : Fr} {w : World} {K : VK} (ho : o.op = .load ty x) (h : loadK (tyK P ty) (ev t x) w K .mk) : ∃ v, (execOp (ev t) o).run P w = .ok (.value v) w ∧ K v w := by
  unfold loadK at h
  split at h
  · rename_i a ht hx
    obtain ⟨v, hc, hk⟩ := optK_elim h
    refine ⟨v, ?_, hk⟩
    unfold execOp
    simp [ho, hx, Instr.loadAt, Instr.sureAddr, loadVar, (tyK_one ht w).1, load, Sem.run, hc]
  · rename_i n a ht hx
    obtain ⟨v, hc, hk⟩ := optK_elim h
    refine ⟨_, ?_, hk⟩
    unfold execOp
    simp [ho, hx, Instr.loadAt, Instr.sureAddr, loadVar, (tyK_many ht w).1, (tyK_many ht w).2, loadCells, run_loadCellsFrom (P := P) w a n 0 #[] v hc]
  · exact h.elim

theorem mixOp_of_mixK {ops : List Oper} {i : Nat} {o : Oper} {C : World → Prop} {t : Fr} {w : World} {K : VK} {N : Act → World → Prop} (hi : ops[i]? = some o) (hw : Region.wanted o (yielded ops.toArray t.toArray) = true)
    (hn : ∀ v w', K v w' → N ⟨(put t o.dst v).toArray, []⟩ w') (h : mixK P o t w C K .mk) : mixOp P ops.toArray C i N ⟨t.toArray, []⟩ w := by
  unfold mixOp
  simp only [List.getElem?_toArray, hi, hw, if_true, ev_eq]
  unfold mixK at h
  split at h
  · rename_i ty x ho
    have hc : chain P o = false := by simp [chain, ho]
    simp only [hc, Bool.false_eq_true, if_false]
    obtain ⟨v, hr, hall, hk⟩ := loadK_run ho h
    refine ⟨v, fun w' hw' => ?_, by rw [put_eq]; exact hn _ _ hk⟩
    obtain ⟨u, hu, hv⟩ := loadK_run ho (hall w' hw')
    rw [hu, hv]
  · split at h
    · rename_i hc
      simp only [hc, if_true]
      exact resA_of_resK hn (opK_ok h)
    · rename_i hc
      simp only [hc]
      rcases pureK_ok h with h | ⟨v, hg, hk⟩
      · exact h.elim
      · exact ⟨v, fun w' _ => hg w', by rw [put_eq]; exact hn _ _ hk⟩

theorem mixOp_skip {ops : List Oper} {i : Nat} {o : Oper} {C : World → Prop} {t : Fr} {w : World} {N : Act → World → Prop} (hi : ops[i]? = some o) (hw : Region.wanted o (yielded ops.toArray t.toArray) = false)
    (h : N ⟨(put t o.dst undef).toArray, []⟩ w) : mixOp P ops.toArray C i N ⟨t.toArray, []⟩ w := by
  unfold mixOp
  simp only [List.getElem?_toArray, hi, hw, Bool.false_eq_true, if_false]
  rw [put_eq]; exact h

/-- A guard, read by the evaluator, is the region's own. -/
theorem guard_cases {ops : List Oper} {o : Oper} {j : Nat} {want : Bool} (hg : o.guard = some (j, want)) {t : Fr} {yes no : Fr → Prop} (h : guardK (slotOf ops j) want t yes no .mk) :
    (Region.wanted o (yielded ops.toArray t.toArray) = true ∧ yes t) ∨ (Region.wanted o (yielded ops.toArray t.toArray) = false ∧ no t) := by
  have hwant : Region.wanted o (yielded ops.toArray t.toArray) = (yielded ops.toArray t.toArray j == some want) := by simp only [Region.wanted, hg]
  unfold guardK at h
  split at h
  · rename_i hs
    exact .inr ⟨by rw [hwant, yielded_eq, hs]; rfl, h⟩
  · rename_i s hs
    split at h
    · rename_i b hb
      have hlt : s < t.length := by
        rcases Nat.lt_or_ge s t.length with h' | h'
        · exact h'
        · simp [List.getD_eq_getElem?_getD, List.getElem?_eq_none h', undef] at hb
      have hv : t[s]? = some (.bool b) := by
        rw [List.getD_eq_getElem?_getD] at hb
        rw [List.getElem?_eq_getElem hlt] at hb ⊢
        simpa using hb
      have hy : yielded ops.toArray t.toArray j = some b := by rw [yielded_eq, hs]; simp [hv]
      have same := set_getD_same t s hlt
      rw [hb] at same
      by_cases hbw : b = want
      · subst hbw
        have h1 := h.1 rfl
        rw [same] at h1
        exact .inl ⟨by rw [hwant, hy]; simp, h1⟩
      · have hbn : b = !want := by cases b <;> cases want <;> simp_all
        have h2 := h.2 hbn
        rw [← hbn, same] at h2
        exact .inr ⟨by rw [hwant, hy]; simpa using hbw, h2⟩
    · rename_i hb
      refine .inr ⟨?_, h⟩
      rw [hwant, yielded_eq, hs]
      simp only [Option.bind_some]
      cases hv : t[s]? with
      | none => rfl
      | some v =>
        have : t.getD s undef = v := by rw [List.getD_eq_getElem?_getD, hv]; rfl
        rw [this] at hb
        cases v <;> simp at hb ⊢

theorem wpLex_of_vcMix {ops : List Oper} {C : World → Prop} {R : Fr → World → Prop} {N : Act → World → Prop} (hn : ∀ t w, R t w → N ⟨t.toArray, []⟩ w) : ∀ (l : List Oper) (k : Nat) (t : Fr) (w : World), (∀ j, l[j]? = ops[k + j]?) →
    vcMix P ops C R l t w .mk → wpLex P ops.toArray C N (List.range' k l.length) ⟨t.toArray, []⟩ w
  | [], _, _, _, _, h => hn _ _ h
  | o :: r, k, t, w, hl, h => by
    have h0 : ops[k]? = some o := by simpa using (hl 0).symm
    have ih := fun t w => wpLex_of_vcMix (C := C) hn r (k + 1) t w (fun j => by have := hl (j + 1); simpa [Nat.add_assoc, Nat.add_comm 1 j] using this)
    simp only [List.length_cons, List.range'_succ, wpLex]
    simp only [vcMix] at h
    split at h
    · rename_i hg
      exact mixOp_of_mixK h0 (by simp [Region.wanted, hg]) (fun v w' hk => ih _ _ hk) h
    · rename_i j want hg
      rcases guard_cases hg h with ⟨hw, hh⟩ | ⟨hw, hh⟩
      · exact mixOp_of_mixK h0 hw (fun v w' hk => ih _ _ hk) hh
      · exact mixOp_skip h0 hw (ih _ _ hh)

/-- A region that draws its order, walked once, in the text's order. -/
theorem wpL_draw {id : Nat} {l : List Oper} {t : Fr} {w : World} {Q : EP} {p} (C : World → Prop) (hm : P.follows .mixedOrders = true) (hB : mixB P l.toArray = true) (hC : C w.drew)
    (h : vcMix P l C (Q .normal) l t w.drew .mk) : wpL P (.region id l.toArray true) Q t w p := by
  unfold wpL
  simp only [mixB, Bool.and_eq_true] at hB
  refine wp_region_any hm (wpAny_of_mix (C := C) (R := fun a w => lift Q .normal a w) (fun _ _ h => h) _ _ _ _ hC ?_)
  refine wpMix_lex hB.1 _ 0 _ _ _ (by simp) hC (fun j o _ hl => by simp [Array.getElem?_replicate] at hl; split at hl <;> simp at hl) hB.2 ?_
  have := wpLex_of_vcMix (P := P) (ops := l) (C := C) (R := Q .normal) (N := fun a w => lift Q .normal a w) (fun t w hk => ⟨rfl, by simpa using hk⟩) l 0 t w.drew (fun j => by simp) h
  simpa using this

variable {t : Fr} {w : World} {C : World → Prop} {K : VK} {R : Fr → World → Prop}
theorem vcMix_nil (ops) (p) : vcMix P ops C R [] t w p = R t w := (rfl)
theorem vcMix_plain (ops) (d op ty pos af r) (p) : vcMix P ops C R (⟨d, op, ty, pos, af, none⟩ :: r) t w p = mixK P ⟨d, op, ty, pos, af, none⟩ t w C (fun v w' => vcMix P ops C R r (put t d v) w' .mk) .mk := (rfl)
theorem vcMix_guard (ops) (d op ty pos af j want r) (p) : vcMix P ops C R (⟨d, op, ty, pos, af, some (j, want)⟩ :: r) t w p =
    guardK (slotOf ops j) want t (fun t' => mixK P ⟨d, op, ty, pos, af, some (j, want)⟩ t' w C (fun v w' => vcMix P ops C R r (put t' d v) w' .mk) .mk) (fun t' => vcMix P ops C R r (put t' d undef) w .mk) .mk := rfl
theorem mixK_move (d x ty pos af g) (p) : mixK P ⟨d, .move x, ty, pos, af, g⟩ t w C K p = K (ev t x) w := (rfl)
theorem mixK_assign (d x ty pos af g) (p) : mixK P ⟨d, .assign x, ty, pos, af, g⟩ t w C K p = K (ev t x) w := (rfl)
theorem mixK_pick (d c a b ty pos af g) (p) : mixK P ⟨d, .pick c a b, ty, pos, af, g⟩ t w C K p = pickK (ev t c) (ev t a) (ev t b) (K · w) .mk := (rfl)
theorem mixK_bin (d op xt x y yt ty pos af g) (p) : mixK P ⟨d, .binOp op xt x y yt, ty, pos, af, g⟩ t w C K p =
    binK op (ev t x) (ev t y) (K · w) (eqNilK (eqKind P xt) (isConst x || isConst y) op (ev t x) (ev t y) (K · w) False .mk) .mk := rfl
theorem mixK_un (d op xt x ty pos af g) (p) : mixK P ⟨d, .unOp op xt x, ty, pos, af, g⟩ t w C K p = unK op (ev t x) (K · w) False .mk := (rfl)
theorem mixK_extract (d x i ty pos af g) (p) : mixK P ⟨d, .extract x i, ty, pos, af, g⟩ t w C K p = extractK (ev t x) i (K · w) .mk := (rfl)
/-- A conversion: by what the type is. -/
def mixConvK (P : Program) (d : Option TypeDesc) (o : Oper) (t : Fr) (w : World) (C : World → Prop) (K : VK) (_ : Ph (o, C, K)) : Prop :=
  match d with
  | some (.int _) => pureK P o t (K · w) False .mk
  | _ => opK P o t w (fun v w' => C w' ∧ K v w') noQ .mk
theorem mixK_convert (d s e x ty pos af g) (p) : mixK P ⟨d, .convert s e x, ty, pos, af, g⟩ t w C K p = mixConvK P (P.underlying e) ⟨d, .convert s e x, ty, pos, af, g⟩ t w C K .mk := by
  cases h : P.underlying e with
  | none => simp [mixK, chain, h, mixConvK]
  | some d => cases d <;> simp [mixK, chain, h, mixConvK]
theorem mixConvK_int (k d s e x ty pos af g) (p) : mixConvK P (some (.int k)) ⟨d, .convert s e x, ty, pos, af, g⟩ t w C K p = convK (if (P.underlying s).isSome then P.underlying e else none) (ev t x) (K · w) False .mk := (rfl)
theorem mixConvK_str (o) (p) : mixConvK P (some .string) o t w C K p = opK P o t w (fun v w' => C w' ∧ K v w') noQ .mk := (rfl)
theorem mixConvK_slice (e o) (p) : mixConvK P (some (.slice e)) o t w C K p = opK P o t w (fun v w' => C w' ∧ K v w') noQ .mk := (rfl)
theorem mixK_index (d xt x i ty pos af g) (p) : mixK P ⟨d, .index xt x i, ty, pos, af, g⟩ t w C K p = indexK (P.underlying xt) (ev t x) (ev t i) (K · w) False .mk := (rfl)
theorem mixK_len (d x aty ty pos af g) (p) : mixK P ⟨d, .call { callee := .builtin .len, args := #[x], argTypes := #[aty] }, ty, pos, af, g⟩ t w C K p = lenK (P.underlying aty) (ev t x) (K · w) False .mk := (rfl)
theorem mixK_load (d xt x ty pos af g) (p) : mixK P ⟨d, .load xt x, ty, pos, af, g⟩ t w C K p = loadK (tyK P xt) (ev t x) w (fun v w' => (∀ w'', C w'' → loadK (tyK P xt) (ev t x) w'' (fun u _ => u = v) .mk) ∧ K v w') .mk := (rfl)
theorem mixK_fieldAddr (d xt x f ty pos af g) (p) : mixK P ⟨d, .fieldAddr xt x f, ty, pos, af, g⟩ t w C K p = fieldAddrK (fieldK P xt f) (ev t x) (K · w) .mk := (rfl)
theorem mixK_field (d xt x f ty pos af g) (p) : mixK P ⟨d, .field xt x f, ty, pos, af, g⟩ t w C K p = partK (fieldK P xt f) (ev t x) (K · w) .mk := (rfl)
theorem mixK_indexAddr (d xt x i ty pos af g) (p) : mixK P ⟨d, .indexAddr xt x i, ty, pos, af, g⟩ t w C K p = indexAddrK (elemK P xt) (arrK P xt) (ev t x) (ev t i) (K · w) .mk := (rfl)
theorem mixK_slice (d xt x lo hi mx ty pos af g) (p) : mixK P ⟨d, .slice xt x lo hi mx, ty, pos, af, g⟩ t w C K p =
    sliceK (P.underlying xt) (elemK P xt) (ev t x) (lo.map (ev t)) (hi.map (ev t)) (mx.map (ev t)) (K · w) False .mk := rfl
theorem mixK_call (d f) (args : List Operand) (aty ty pos af g) (p) : mixK P ⟨d, .call { callee := .value f, args := args.toArray, argTypes := aty }, ty, pos, af, g⟩ t w C K p =
    opK P ⟨d, .call { callee := .value f, args := args.toArray, argTypes := aty }, ty, pos, af, g⟩ t w (fun v w' => C w' ∧ K v w') noQ .mk := rfl
theorem mixK_store (d xt x v ty pos af g) (p) : mixK P ⟨d, .store xt x v, ty, pos, af, g⟩ t w C K p = opK P ⟨d, .store xt x v, ty, pos, af, g⟩ t w (fun v w' => C w' ∧ K v w') noQ .mk := (rfl)
theorem mixK_box (d e x ty pos af g) (p) : mixK P ⟨d, .box e x, ty, pos, af, g⟩ t w C K p = opK P ⟨d, .box e x, ty, pos, af, g⟩ t w (fun v w' => C w' ∧ K v w') noQ .mk := (rfl)
theorem mixK_buildSlice (d bt n ps ty pos af g) (p) : mixK P ⟨d, .buildSlice bt n ps, ty, pos, af, g⟩ t w C K p = opK P ⟨d, .buildSlice bt n ps, ty, pos, af, g⟩ t w (fun v w' => C w' ∧ K v w') noQ .mk := (rfl)
theorem mixK_build (d bt) (ps : List (Nat × Operand)) (ty pos af g) (p) : mixK P ⟨d, .build bt ps.toArray, ty, pos, af, g⟩ t w C K p = buildK (bldI P bt) (evs t ps) (K · w) .mk := (rfl)
theorem mixK_append (d) (args : Array Operand) (aty ty pos af g) (p) : mixK P ⟨d, .call { callee := .builtin .append, args := args, argTypes := aty }, ty, pos, af, g⟩ t w C K p =
    opK P ⟨d, .call { callee := .builtin .append, args := args, argTypes := aty }, ty, pos, af, g⟩ t w (fun v w' => C w' ∧ K v w') noQ .mk := rfl
end
attribute [push_cast] vcMix_nil vcMix_plain vcMix_guard mixK_move mixK_assign mixK_pick mixK_bin mixK_un mixK_extract mixK_convert mixConvK_int mixConvK_str mixConvK_slice mixK_index mixK_len mixK_load mixK_fieldAddr mixK_field mixK_indexAddr mixK_slice mixK_call mixK_store mixK_box mixK_buildSlice mixK_build mixK_append
end Go.Vc
