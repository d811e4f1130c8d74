import Derived.Test.YtieaebjkbhaoaaaGreatDoorV
import Derived.Test.YtieaebjkbhaoaaaGreatDoorFp
set_option linter.unusedSimpArgs false
set_option linter.unusedVariables false
namespace Go.Vc
open Go.RowKit

/-! Regions that draw their order, as in V, but that looking whether a pointer is nil floats, too. -/
/-- An operation that may turn the world. -/
def chainN (P : Program) (o : Oper) : Bool := match o.op with
  | .convert _ d _ => !((P.underlying d) matches some (.int _))
  | .move _ | .assign _ | .pick .. | .binOp .. | .unOp .. | .extract .. | .index .. | .build .. | .makeFunc .. | .fieldAddr .. | .field .. | .indexAddr .. | .slice .. | .makeInterface .. | .load .. => false
  | .call { callee := .builtin .len, .. } | .call { callee := .builtin .max, .. } | .call { callee := .builtin .min, .. } => false
  | .nilCheck _ => false
  | _ => true

section
variable {P : Program} {ops : Array Oper} {md : Region.Mode} {C : World → Prop}

def mixOpN (P : Program) (ops : Array Oper) (C : World → Prop) (i : Nat) (K : Act → World → Prop) (a : Act) (w : World) : Prop :=
  match ops[i]? with
  | none => K a w
  | some o =>
    if Region.wanted o (yielded ops a.tmps) then
      if chainN P o then resA P a o.dst C K ((execOp a.eval o).run P w)
      else ∃ v, (∀ w', C w' → (execOp a.eval o).run P w' = .ok (.value v) w') ∧ K (a.put o.dst v) w
    else K (a.put o.dst undef) w

theorem mixOp_monoN {i : Nat} {K K' : Act → World → Prop} {a : Act} {w : World} (hC : C w) (hk : ∀ a w, C w → K a w → K' a w) (h : mixOpN P ops C i K a w) : mixOpN P ops C i K' a w := by
  unfold mixOpN at *
  split
  · rename_i ho; simp only [ho] at h; exact hk _ _ hC h
  · rename_i o ho
    simp only [ho] at h
    split
    · rename_i hw
      simp only [hw, if_true] at h
      split
      · rename_i hc
        simp only [hc, if_true] at h
        exact resA_mono (fun v w' hw' hh => hk _ _ hw' hh) h
      · rename_i hc
        simp only [hc] at h
        obtain ⟨v, h1, h2⟩ := h
        exact ⟨v, h1, hk _ _ hC h2⟩
    · rename_i hw
      simp only [hw] at h
      exact hk _ _ hC h

theorem mixOp_someN {i : Nat} {K : Act → World → Prop} {a : Act} {w : World} (hC : C w) (h : mixOpN P ops C i K a w) : ∃ a' w', C w' ∧ K a' w' := by
  unfold mixOpN at h
  split at h
  · exact ⟨_, _, hC, h⟩
  · split at h
    · split at h
      · obtain ⟨v, w', hh⟩ := resA_some h; exact ⟨_, _, hh⟩
      · obtain ⟨v, _, hh⟩ := h; exact ⟨_, _, hC, hh⟩
    · exact ⟨_, _, hC, h⟩

theorem mixOp_noN {i : Nat} {o : Oper} {K : Act → World → Prop} {a : Act} {w : World} (hi : ops[i]? = some o) (hw : Region.wanted o (yielded ops a.tmps) = false) : mixOpN P ops C i K a w = K (a.put o.dst undef) w := by
  unfold mixOpN; simp [hi, hw]
theorem mixOp_chainN {i : Nat} {o : Oper} {K : Act → World → Prop} {a : Act} {w : World} (hi : ops[i]? = some o) (hw : Region.wanted o (yielded ops a.tmps) = true) (hc : chainN P o = true) : mixOpN P ops C i K a w = resA P a o.dst C K ((execOp a.eval o).run P w) := by
  unfold mixOpN; simp [hi, hw, hc]
theorem mixOp_quietN {i : Nat} {o : Oper} {K : Act → World → Prop} {a : Act} {w : World} (hi : ops[i]? = some o) (hw : Region.wanted o (yielded ops a.tmps) = true) (hc : chainN P o = false) : mixOpN P ops C i K a w = ∃ v, (∀ w', C w' → (execOp a.eval o).run P w' = .ok (.value v) w') ∧ K (a.put o.dst v) w := by
  unfold mixOpN; simp [hi, hw, hc]

/-- Two operations that are apart, not both of the chainN, may change places. -/
theorem mixOp_swapN {i j : Nat} {oi oj : Oper} {K : Act → World → Prop} {a : Act} {w : World} (hi : ops[i]? = some oi) (hj : ops[j]? = some oj) (hap : oi.apart ops oj = true) (hch : (chainN P oi && chainN P oj) = false)
    (hsi : ∀ cs b, oi.op ≠ .select cs b) (hsj : ∀ cs b, oj.op ≠ .select cs b) (h : mixOpN P ops C i (mixOpN P ops C j K) a w) : mixOpN P ops C j (mixOpN P ops C i K) a w := by
  obtain ⟨h1, h2, h3⟩ := Oper.apart_spec hap
  have ej : ∀ (b : Act) (v : Value), execOp (b.put oi.dst v).eval oj = execOp b.eval oj := fun b v => execOp_put oj hsj b oi.dst v h1
  have ei : ∀ (b : Act) (v : Value), execOp (b.put oj.dst v).eval oi = execOp b.eval oi := fun b v => execOp_put oi hsi b oj.dst v h3
  have wj : ∀ (b : Act) (v : Value), Region.wanted oj (yielded ops (b.put oi.dst v).tmps) = Region.wanted oj (yielded ops b.tmps) := fun b v => wanted_put oj b oi.dst v h1
  have wi : ∀ (b : Act) (v : Value), Region.wanted oi (yielded ops (b.put oj.dst v).tmps) = Region.wanted oi (yielded ops b.tmps) := fun b v => wanted_put oi b oj.dst v h3
  have cm : ∀ (b : Act) (v u : Value), (b.put oi.dst v).put oj.dst u = (b.put oj.dst u).put oi.dst v := fun b v u => Act.put_comm b v u h2
  cases hwi : Region.wanted oi (yielded ops a.tmps) with
  | false =>
    rw [mixOp_noN hi hwi] at h
    cases hwj : Region.wanted oj (yielded ops a.tmps) with
    | false =>
      rw [mixOp_noN hj (by rw [wj]; exact hwj)] at h
      rw [mixOp_noN hj hwj, mixOp_noN hi (by rw [wi]; exact hwi), ← cm]
      exact h
    | true =>
      cases hcj : chainN P oj with
      | true =>
        rw [mixOp_chainN hj (by rw [wj]; exact hwj) hcj, ej] at h
        rw [mixOp_chainN hj hwj hcj]
        refine resA_mono (fun v w' _ hh => ?_) h
        rw [mixOp_noN hi (by rw [wi]; exact hwi), ← cm]
        exact hh
      | false =>
        rw [mixOp_quietN hj (by rw [wj]; exact hwj) hcj, ej] at h
        rw [mixOp_quietN hj hwj hcj]
        obtain ⟨v, hv, hk⟩ := h
        refine ⟨v, hv, ?_⟩
        rw [mixOp_noN hi (by rw [wi]; exact hwi), ← cm]
        exact hk
  | true =>
    cases hci : chainN P oi with
    | true =>
      have hcj : chainN P oj = false := by simpa [hci] using hch
      rw [mixOp_chainN hi hwi hci] at h
      cases hwj : Region.wanted oj (yielded ops a.tmps) with
      | false =>
        rw [mixOp_noN hj hwj, mixOp_chainN hi (by rw [wi]; exact hwi) hci, ei]
        refine resA_mono (fun v w' _ hh => ?_) h
        rw [mixOp_noN hj (by rw [wj]; exact hwj)] at hh
        rw [← cm]
        exact hh
      | true =>
        obtain ⟨v, w', hw', hh⟩ := resA_some h
        rw [mixOp_quietN hj (by rw [wj]; exact hwj) hcj, ej] at hh
        obtain ⟨u, hu, hk⟩ := hh
        rw [mixOp_quietN hj hwj hcj]
        refine ⟨u, hu, ?_⟩
        rw [mixOp_chainN hi (by rw [wi]; exact hwi) hci, ei]
        refine resA_mono (fun v' w'' hw'' hh => ?_) h
        rw [mixOp_quietN hj (by rw [wj]; exact hwj) hcj, ej] at hh
        obtain ⟨u', hu', hk'⟩ := hh
        have e := (hu w'' hw'').symm.trans (hu' w'' hw'')
        injection e with e1 _
        injection e1 with e2
        subst e2
        rw [← cm]
        exact hk'
    | false =>
      rw [mixOp_quietN hi hwi hci] at h
      obtain ⟨v, hv, hk⟩ := h
      cases hwj : Region.wanted oj (yielded ops a.tmps) with
      | false =>
        rw [mixOp_noN hj (by rw [wj]; exact hwj)] at hk
        rw [mixOp_noN hj hwj, mixOp_quietN hi (by rw [wi]; exact hwi) hci, ei]
        exact ⟨v, hv, by rw [← cm]; exact hk⟩
      | true =>
        cases hcj : chainN P oj with
        | true =>
          rw [mixOp_chainN hj (by rw [wj]; exact hwj) hcj, ej] at hk
          rw [mixOp_chainN hj hwj hcj]
          refine resA_mono (fun u w' _ hh => ?_) hk
          rw [mixOp_quietN hi (by rw [wi]; exact hwi) hci, ei]
          exact ⟨v, hv, by rw [← cm]; exact hh⟩
        | false =>
          rw [mixOp_quietN hj (by rw [wj]; exact hwj) hcj, ej] at hk
          rw [mixOp_quietN hj hwj hcj]
          obtain ⟨u, hu, hk⟩ := hk
          refine ⟨u, hu, ?_⟩
          rw [mixOp_quietN hi (by rw [wi]; exact hwi) hci, ei]
          exact ⟨v, hv, by rw [← cm]; exact hk⟩

/-- Whatever order is picked from here on. -/
def wpMixN (P : Program) (md : Region.Mode) (ops : Array Oper) (C : World → Prop) (R : Act → World → Prop) : Nat → Array Bool → Act → World → Prop
  | 0, listed, a, w => Region.ready md ops listed = [] ∧ R a w
  | fuel + 1, listed, a, w => (Region.ready md ops listed = [] → R a w) ∧ ∀ i ∈ Region.ready md ops listed, mixOpN P ops C i (wpMixN P md ops C R fuel (listed.setIfInBounds i true)) a w

theorem wpAny_of_mixN {R : Act → World → Prop} {Q : Exit → Act → World → Prop} (hq : ∀ a w, R a w → Q .normal a w) : ∀ (fuel : Nat) (listed : Array Bool) (a : Act) (w : World), C w →
    wpMixN P md ops C R fuel listed a w → wpAny P md ops Q fuel listed a w
  | 0, _, _, _, _, h => ⟨h.1, hq _ _ h.2⟩
  | fuel + 1, listed, a, w, hC, h => ⟨fun h0 => hq _ _ (h.1 h0), fun i hi => by
      have h1 := h.2 i hi
      unfold mixOpN at h1
      unfold wpOp
      split
      · rename_i ho; simp only [ho] at h1; exact wpAny_of_mixN hq fuel _ _ _ hC h1
      · rename_i o ho
        simp only [ho] at h1
        split
        · rename_i hw
          simp only [hw, if_true] at h1
          refine .inl ?_
          split at h1
          · exact Oper.wp_mono (fun a' w' hh => wpAny_of_mixN hq fuel _ _ _ hh.1 hh.2) (upon_of_resA h1)
          · obtain ⟨v, hv, hk⟩ := h1
            unfold Oper.wp
            rw [hv w hC]
            exact wpAny_of_mixN hq fuel _ _ _ hC hk
        · rename_i hw
          simp only [hw] at h1
          exact wpAny_of_mixN hq fuel _ _ _ hC h1⟩

/-- The one that stands first in the text may be taken first. -/
theorem wpMix_firstN {R : Act → World → Prop} {i : Nat} {oi : Oper} (hi : ops[i]? = some oi) (hsel : ∀ (j : Nat) (o : Oper) cs b, ops[j]? = some o → o.op ≠ .select cs b) :
    ∀ (fuel : Nat) (listed : Array Bool) (a : Act) (w : World), C w → Shut ops listed →
      (∀ j oj, ops[j]? = some oj → j ≠ i → listed.getD j true = false → ((Region.before ops).getD j 0).testBit i = false → oi.apart ops oj = true ∧ (chainN P oi && chainN P oj) = false) →
      i ∈ Region.ready .any ops listed → mixOpN P ops C i (wpMixN P .any ops C R fuel (listed.setIfInBounds i true)) a w → wpMixN P .any ops C R (fuel + 1) listed a w := by
  intro fuel
  induction fuel with
  | zero =>
    intro listed a w hC _ _ hr H
    refine ⟨fun h => (by rw [h] at hr; cases hr), fun j hj => ?_⟩
    by_cases hji : j = i
    · subst hji; exact H
    · have := ready_mono hj hji
      obtain ⟨_, _, _, hh⟩ := mixOp_someN hC H
      rw [hh.1] at this
      cases this
  | succ fuel ih =>
    intro listed a w hC hS hfree hr H
    refine ⟨fun h => (by rw [h] at hr; cases hr), fun j hj => ?_⟩
    by_cases hji : j = i
    · subst hji; exact H
    · have h1 : mixOpN P ops C i (mixOpN P ops C j (wpMixN P .any ops C R fuel ((listed.setIfInBounds i true).setIfInBounds j true))) a w :=
        mixOp_monoN hC (fun a' w' _ hh => hh.2 j (ready_mono hj hji)) H
      obtain ⟨hjun, oj, hoj, hall⟩ := mem_ready.1 hj
      have hiun : listed.getD i false = false := by
        have h0 := (mem_ready.1 hr).1
        rcases Nat.lt_or_ge i listed.size with h' | h'
        · simp [h'] at h0 ⊢; exact h0
        · simp [Array.getElem?_eq_none h']
      have hnot : ((Region.before ops).getD j 0).testBit i = false := by
        cases hb : ((Region.before ops).getD j 0).testBit i with
        | false => rfl
        | true => have := hS.before j i oj hoj hall hb; rw [hiun] at this; cases this
      obtain ⟨hap, hch⟩ := hfree j oj hoj hji hjun hnot
      have h2 := mixOp_swapN hi hoj hap hch (fun cs b => hsel i oi cs b hi) (fun cs b => hsel j oj cs b hoj) h1
      refine mixOp_monoN hC (fun a' w' hC' h3 => ih (listed.setIfInBounds j true) a' w' hC' (hS.set hj) ?_ (ready_mono hr (Ne.symm hji)) ?_) h2
      · intro k ok hk hki hun hno
        refine hfree k ok hk hki ?_ hno
        by_cases hjk : j = k
        · subst hjk; exact hjun
        · rw [getD_set_ne true hjk] at hun; exact hun
      · rw [Array.setIfInBounds_comm _ _ hji]
        exact h3

def mixFreeN (P : Program) (ops : Array Oper) (bf : Array Nat) (listed : Array Bool) (i : Nat) : Bool :=
  match ops[i]? with
  | none => false
  | some oi => (List.range ops.size).all fun j => j == i || listed.getD j true || match ops[j]? with
      | some oj => (bf.getD j 0).testBit i || (oi.apart ops oj && !(chainN P oi && chainN P oj))
      | none => true

theorem mixFree_specN {i : Nat} {oi : Oper} {listed : Array Bool} (hi : ops[i]? = some oi) (h : mixFreeN P ops (Region.before ops) listed i = true) (j : Nat) (oj : Oper)
    (hj : ops[j]? = some oj) (hne : j ≠ i) (hun : listed.getD j true = false) (hno : ((Region.before ops).getD j 0).testBit i = false) :
    oi.apart ops oj = true ∧ (chainN P oi && chainN P oj) = false := by
  simp only [mixFreeN, hi, List.all_eq_true, List.mem_range] at h
  have h1 := h j (Array.getElem?_eq_some_iff.1 hj).1
  simp only [hj, Bool.or_eq_true, beq_iff_eq, hne, false_or, hun, Bool.false_eq_true, hno] at h1
  simp only [Bool.and_eq_true, Bool.not_eq_true'] at h1
  exact h1

def mixFromN (P : Program) (ops : Array Oper) (bf : Array Nat) : Nat → Nat → Array Bool → Bool
  | 0, _, listed => (Region.ready .any ops listed).isEmpty
  | fuel + 1, k, listed => (Region.ready .any ops listed).contains k && mixFreeN P ops bf listed k && mixFromN P ops bf fuel (k + 1) (listed.setIfInBounds k true)

def mixBN (P : Program) (ops : Array Oper) : Bool := Region.noSelect ops && mixFromN P ops (Region.before ops) ops.size 0 (Array.replicate ops.size false)

/-- The text's own order. -/
def wpLexN (P : Program) (ops : Array Oper) (C : World → Prop) (R : Act → World → Prop) : List Nat → Act → World → Prop
  | [], a, w => R a w
  | i :: r, a, w => mixOpN P ops C i (wpLexN P ops C R r) a w

theorem wpMix_lexN {R : Act → World → Prop} (hs : Region.noSelect ops = true) : ∀ (n k : Nat) (listed : Array Bool) (a : Act) (w : World), k + n = ops.size → C w → Shut ops listed →
    mixFromN P ops (Region.before ops) n k listed = true → wpLexN P ops C R (List.range' k n) a w → wpMixN P .any ops C R n listed a w
  | 0, _, _, _, _, _, _, _, hB, h => ⟨by simpa [mixFromN] using hB, h⟩
  | n + 1, k, listed, a, w, hk, hC, hS, hB, h => by
    simp only [mixFromN, Bool.and_eq_true] at hB
    obtain ⟨⟨hr, hf⟩, hB'⟩ := hB
    have hlt : k < ops.size := by omega
    have hr' : k ∈ Region.ready .any ops listed := by simpa using hr
    refine wpMix_firstN (i := k) (oi := ops[k]) (by simp [hlt]) (Region.noSelect_spec hs) n listed a w hC hS (mixFree_specN (by simp [hlt]) hf) hr' ?_
    simp only [List.range'_succ, wpLexN] at h
    exact mixOp_monoN hC (fun a' w' hC' hh => wpMix_lexN hs n (k + 1) _ a' w' (by omega) hC' (hS.set hr') hB' hh) h

end
section
variable {P : Program}

/-- One operation of such a region, told by the evaluator. -/
def mixKN (P : Program) (o : Oper) (t : Fr) (w : World) (C : World → Prop) (K : VK) (_ : Ph (o, C, K)) : Prop :=
  match o.op with
  | .load ty a => loadK (tyK P ty) (ev t a) w (fun v w' => (∀ w'', C w'' → loadK (tyK P ty) (ev t a) w'' (fun u _ => u = v) .mk) ∧ K v w') .mk
  | .nilCheck x => nilK (ev t x) (K · w) False .mk
  | _ => if chainN P o then opK P o t w (fun v w' => C w' ∧ K v w') noQ .mk else pureK P o t (K · w) False .mk

def vcMixN (P : Program) (ops : List Oper) (C : World → Prop) (R : Fr → World → Prop) : (l : List Oper) → Fr → World → Ph (ops, C, R, l) → Prop
  | [], t, w, _ => R t w
  | o :: r, t, w, _ => match o.guard with
    | none => mixKN P o t w C (fun v w' => vcMixN P ops C R r (put t o.dst v) w' .mk) .mk
    | some (j, want) => guardK (slotOf ops j) want t (fun t' => mixKN P o t' w C (fun v w' => vcMixN P ops C R r (put t' o.dst v) w' .mk) .mk) (fun t' => vcMixN P ops C R r (put t' o.dst undef) w .mk) .mk

theorem mixOp_of_mixKN {ops : List Oper} {i : Nat} {o : Oper} {C : World → Prop} {t : Fr} {w : World} {K : VK} {N : Act → World → Prop} (hi : ops[i]? = some o) (hw : Region.wanted o (yielded ops.toArray t.toArray) = true)
    (hn : ∀ v w', K v w' → N ⟨(put t o.dst v).toArray, []⟩ w') (h : mixKN P o t w C K .mk) : mixOpN P ops.toArray C i N ⟨t.toArray, []⟩ w := by
  unfold mixOpN
  simp only [List.getElem?_toArray, hi, hw, if_true, ev_eq]
  unfold mixKN at h
  split at h
  · rename_i ty x ho
    have hc : chainN P o = false := by simp [chainN, ho]
    simp only [hc, Bool.false_eq_true, if_false]
    obtain ⟨v, hr, hall, hk⟩ := loadK_run ho h
    refine ⟨v, fun w' hw' => ?_, by rw [put_eq]; exact hn _ _ hk⟩
    obtain ⟨u, hu, hv⟩ := loadK_run ho (hall w' hw')
    rw [hu, hv]
  · rename_i x ho
    have hc : chainN P o = false := by simp [chainN, ho]
    simp only [hc, Bool.false_eq_true, if_false]
    unfold nilK at h
    split at h
    · rename_i a hx
      refine ⟨_, fun w' _ => ?_, by rw [put_eq]; exact hn _ _ h⟩
      unfold execOp
      simp only [ho, hx]
      rfl
    · exact h.elim
  · split at h
    · rename_i hc
      simp only [hc, if_true]
      exact resA_of_resK hn (opK_ok h)
    · rename_i hc
      simp only [hc]
      rcases pureK_ok h with h | ⟨v, hg, hk⟩
      · exact h.elim
      · exact ⟨v, fun w' _ => hg w', by rw [put_eq]; exact hn _ _ hk⟩

theorem mixOp_skipN {ops : List Oper} {i : Nat} {o : Oper} {C : World → Prop} {t : Fr} {w : World} {N : Act → World → Prop} (hi : ops[i]? = some o) (hw : Region.wanted o (yielded ops.toArray t.toArray) = false)
    (h : N ⟨(put t o.dst undef).toArray, []⟩ w) : mixOpN P ops.toArray C i N ⟨t.toArray, []⟩ w := by
  unfold mixOpN
  simp only [List.getElem?_toArray, hi, hw, Bool.false_eq_true, if_false]
  rw [put_eq]; exact h

theorem wpLex_of_vcMixN {ops : List Oper} {C : World → Prop} {R : Fr → World → Prop} {N : Act → World → Prop} (hn : ∀ t w, R t w → N ⟨t.toArray, []⟩ w) : ∀ (l : List Oper) (k : Nat) (t : Fr) (w : World), (∀ j, l[j]? = ops[k + j]?) →
    vcMixN P ops C R l t w .mk → wpLexN P ops.toArray C N (List.range' k l.length) ⟨t.toArray, []⟩ w
  | [], _, _, _, _, h => hn _ _ h
  | o :: r, k, t, w, hl, h => by
    have h0 : ops[k]? = some o := by simpa using (hl 0).symm
    have ih := fun t w => wpLex_of_vcMixN (C := C) hn r (k + 1) t w (fun j => by have := hl (j + 1); simpa [Nat.add_assoc, Nat.add_comm 1 j] using this)
    simp only [List.length_cons, List.range'_succ, wpLexN]
    simp only [vcMixN] at h
    split at h
    · rename_i hg
      exact mixOp_of_mixKN h0 (by simp [Region.wanted, hg]) (fun v w' hk => ih _ _ hk) h
    · rename_i j want hg
      rcases guard_cases hg h with ⟨hw, hh⟩ | ⟨hw, hh⟩
      · exact mixOp_of_mixKN h0 hw (fun v w' hk => ih _ _ hk) hh
      · exact mixOp_skipN h0 hw (ih _ _ hh)

/-- A region that draws its order, walked once, in the text's order. -/
theorem wpL_drawN {id : Nat} {l : List Oper} {t : Fr} {w : World} {Q : EP} {p} (C : World → Prop) (hm : P.follows .mixedOrders = true) (hB : mixBN P l.toArray = true) (hC : C w.drew)
    (h : vcMixN P l C (Q .normal) l t w.drew .mk) : wpL P (.region id l.toArray true) Q t w p := by
  unfold wpL
  simp only [mixBN, Bool.and_eq_true] at hB
  refine wp_region_any hm (wpAny_of_mixN (C := C) (R := fun a w => lift Q .normal a w) (fun _ _ h => h) _ _ _ _ hC ?_)
  refine wpMix_lexN hB.1 _ 0 _ _ _ (by simp) hC (fun j o _ hl => by simp [Array.getElem?_replicate] at hl; split at hl <;> simp at hl) hB.2 ?_
  have := wpLex_of_vcMixN (P := P) (ops := l) (C := C) (R := Q .normal) (N := fun a w => lift Q .normal a w) (fun t w hk => ⟨rfl, by simpa using hk⟩) l 0 t w.drew (fun j => by simp) h
  simpa using this

variable {t : Fr} {w : World} {C : World → Prop} {K : VK} {R : Fr → World → Prop}
theorem vcMix_nilN (ops) (p) : vcMixN P ops C R [] t w p = R t w := (rfl)
theorem vcMix_plainN (ops) (d op ty pos af r) (p) : vcMixN P ops C R (⟨d, op, ty, pos, af, none⟩ :: r) t w p = mixKN P ⟨d, op, ty, pos, af, none⟩ t w C (fun v w' => vcMixN P ops C R r (put t d v) w' .mk) .mk := (rfl)
theorem vcMix_guardN (ops) (d op ty pos af j want r) (p) : vcMixN P ops C R (⟨d, op, ty, pos, af, some (j, want)⟩ :: r) t w p =
    guardK (slotOf ops j) want t (fun t' => mixKN P ⟨d, op, ty, pos, af, some (j, want)⟩ t' w C (fun v w' => vcMixN P ops C R r (put t' d v) w' .mk) .mk) (fun t' => vcMixN P ops C R r (put t' d undef) w .mk) .mk := rfl
theorem mixK_moveN (d x ty pos af g) (p) : mixKN P ⟨d, .move x, ty, pos, af, g⟩ t w C K p = K (ev t x) w := (rfl)
theorem mixK_assignN (d x ty pos af g) (p) : mixKN P ⟨d, .assign x, ty, pos, af, g⟩ t w C K p = K (ev t x) w := (rfl)
theorem mixK_pickN (d c a b ty pos af g) (p) : mixKN P ⟨d, .pick c a b, ty, pos, af, g⟩ t w C K p = pickK (ev t c) (ev t a) (ev t b) (K · w) .mk := (rfl)
theorem mixK_binN (d op xt x y yt ty pos af g) (p) : mixKN P ⟨d, .binOp op xt x y yt, ty, pos, af, g⟩ t w C K p =
    binK op (ev t x) (ev t y) (K · w) (eqNilK (eqKind P xt) (isConst x || isConst y) op (ev t x) (ev t y) (K · w) False .mk) .mk := rfl
theorem mixK_unN (d op xt x ty pos af g) (p) : mixKN P ⟨d, .unOp op xt x, ty, pos, af, g⟩ t w C K p = unK op (ev t x) (K · w) False .mk := (rfl)
theorem mixK_extractN (d x i ty pos af g) (p) : mixKN P ⟨d, .extract x i, ty, pos, af, g⟩ t w C K p = extractK (ev t x) i (K · w) .mk := (rfl)
/-- A conversion: by what the type is. -/
def mixConvKN (P : Program) (d : Option TypeDesc) (o : Oper) (t : Fr) (w : World) (C : World → Prop) (K : VK) (_ : Ph (o, C, K)) : Prop :=
  match d with
  | some (.int _) => pureK P o t (K · w) False .mk
  | _ => opK P o t w (fun v w' => C w' ∧ K v w') noQ .mk
theorem mixK_convertN (d s e x ty pos af g) (p) : mixKN P ⟨d, .convert s e x, ty, pos, af, g⟩ t w C K p = mixConvKN P (P.underlying e) ⟨d, .convert s e x, ty, pos, af, g⟩ t w C K .mk := by
  cases h : P.underlying e with
  | none => simp [mixKN, chainN, h, mixConvKN]
  | some d => cases d <;> simp [mixKN, chainN, h, mixConvKN]
theorem mixConvK_intN (k d s e x ty pos af g) (p) : mixConvKN P (some (.int k)) ⟨d, .convert s e x, ty, pos, af, g⟩ t w C K p = convK (if (P.underlying s).isSome then P.underlying e else none) (ev t x) (K · w) False .mk := (rfl)
theorem mixConvK_strN (o) (p) : mixConvKN P (some .string) o t w C K p = opK P o t w (fun v w' => C w' ∧ K v w') noQ .mk := (rfl)
theorem mixConvK_sliceN (e o) (p) : mixConvKN P (some (.slice e)) o t w C K p = opK P o t w (fun v w' => C w' ∧ K v w') noQ .mk := (rfl)
theorem mixK_indexN (d xt x i ty pos af g) (p) : mixKN P ⟨d, .index xt x i, ty, pos, af, g⟩ t w C K p = indexK (P.underlying xt) (ev t x) (ev t i) (K · w) False .mk := (rfl)
theorem mixK_lenN (d x aty ty pos af g) (p) : mixKN P ⟨d, .call { callee := .builtin .len, args := #[x], argTypes := #[aty] }, ty, pos, af, g⟩ t w C K p = lenK (P.underlying aty) (ev t x) (K · w) False .mk := (rfl)
theorem mixK_loadN (d xt x ty pos af g) (p) : mixKN P ⟨d, .load xt x, ty, pos, af, g⟩ t w C K p = loadK (tyK P xt) (ev t x) w (fun v w' => (∀ w'', C w'' → loadK (tyK P xt) (ev t x) w'' (fun u _ => u = v) .mk) ∧ K v w') .mk := (rfl)
theorem mixK_fieldAddrN (d xt x f ty pos af g) (p) : mixKN P ⟨d, .fieldAddr xt x f, ty, pos, af, g⟩ t w C K p = fieldAddrK (fieldK P xt f) (ev t x) (K · w) .mk := (rfl)
theorem mixK_fieldN (d xt x f ty pos af g) (p) : mixKN P ⟨d, .field xt x f, ty, pos, af, g⟩ t w C K p = partK (fieldK P xt f) (ev t x) (K · w) .mk := (rfl)
theorem mixK_indexAddrN (d xt x i ty pos af g) (p) : mixKN P ⟨d, .indexAddr xt x i, ty, pos, af, g⟩ t w C K p = indexAddrK (elemK P xt) (arrK P xt) (ev t x) (ev t i) (K · w) .mk := (rfl)
theorem mixK_sliceN (d xt x lo hi mx ty pos af g) (p) : mixKN P ⟨d, .slice xt x lo hi mx, ty, pos, af, g⟩ t w C K p =
    sliceK (P.underlying xt) (elemK P xt) (ev t x) (lo.map (ev t)) (hi.map (ev t)) (mx.map (ev t)) (K · w) False .mk := rfl
theorem mixK_callN (d f) (args : List Operand) (aty ty pos af g) (p) : mixKN P ⟨d, .call { callee := .value f, args := args.toArray, argTypes := aty }, ty, pos, af, g⟩ t w C K p =
    opK P ⟨d, .call { callee := .value f, args := args.toArray, argTypes := aty }, ty, pos, af, g⟩ t w (fun v w' => C w' ∧ K v w') noQ .mk := rfl
theorem mixK_storeN (d xt x v ty pos af g) (p) : mixKN P ⟨d, .store xt x v, ty, pos, af, g⟩ t w C K p = opK P ⟨d, .store xt x v, ty, pos, af, g⟩ t w (fun v w' => C w' ∧ K v w') noQ .mk := (rfl)
theorem mixK_boxN (d e x ty pos af g) (p) : mixKN P ⟨d, .box e x, ty, pos, af, g⟩ t w C K p = opK P ⟨d, .box e x, ty, pos, af, g⟩ t w (fun v w' => C w' ∧ K v w') noQ .mk := (rfl)
theorem mixK_buildSliceN (d bt n ps ty pos af g) (p) : mixKN P ⟨d, .buildSlice bt n ps, ty, pos, af, g⟩ t w C K p = opK P ⟨d, .buildSlice bt n ps, ty, pos, af, g⟩ t w (fun v w' => C w' ∧ K v w') noQ .mk := (rfl)
theorem mixK_buildN (d bt) (ps : List (Nat × Operand)) (ty pos af g) (p) : mixKN P ⟨d, .build bt ps.toArray, ty, pos, af, g⟩ t w C K p = buildK (bldI P bt) (evs t ps) (K · w) .mk := (rfl)
theorem mixK_appendN (d) (args : Array Operand) (aty ty pos af g) (p) : mixKN P ⟨d, .call { callee := .builtin .append, args := args, argTypes := aty }, ty, pos, af, g⟩ t w C K p =
    opK P ⟨d, .call { callee := .builtin .append, args := args, argTypes := aty }, ty, pos, af, g⟩ t w (fun v w' => C w' ∧ K v w') noQ .mk := rfl
theorem mixK_nilCheckN (d x ty pos af g) (p) : mixKN P ⟨d, .nilCheck x, ty, pos, af, g⟩ t w C K p = nilK (ev t x) (K · w) False .mk := (rfl)
theorem mixK_invokeN (d r m) (args : Array Operand) (aty ty pos af g) (p) : mixKN P ⟨d, .call { callee := .invoke r m, args := args, argTypes := aty }, ty, pos, af, g⟩ t w C K p =
    opK P ⟨d, .call { callee := .invoke r m, args := args, argTypes := aty }, ty, pos, af, g⟩ t w (fun v w' => C w' ∧ K v w') noQ .mk := (rfl)
theorem mixK_allocN (d e ty pos af g) (p) : mixKN P ⟨d, .alloc e, ty, pos, af, g⟩ t w C K p = opK P ⟨d, .alloc e, ty, pos, af, g⟩ t w (fun v w' => C w' ∧ K v w') noQ .mk := (rfl)
theorem mixK_ifaceN (d xt x ty pos af g) (p) : mixKN P ⟨d, .makeInterface xt x, ty, pos, af, g⟩ t w C K p =
    ifaceK (if (P.underlying xt).isSome then eqKind P xt else 1) xt (ev t x) (K · w) False .mk := (rfl)
theorem mixK_makeSliceN (d bt l c ty pos af g) (p) : mixKN P ⟨d, .makeSlice bt l c, ty, pos, af, g⟩ t w C K p = opK P ⟨d, .makeSlice bt l c, ty, pos, af, g⟩ t w (fun v w' => C w' ∧ K v w') noQ .mk := (rfl)
theorem mixK_typeAssertN (d x xt at_ ok ty pos af g) (p) : mixKN P ⟨d, .typeAssert x xt at_ ok, ty, pos, af, g⟩ t w C K p = opK P ⟨d, .typeAssert x xt at_ ok, ty, pos, af, g⟩ t w (fun v w' => C w' ∧ K v w') noQ .mk := (rfl)
theorem mixK_makeFuncN (d fn) (a c : List Operand) (ty pos af g) (p) : mixKN P ⟨d, .makeFunc fn a.toArray c.toArray, ty, pos, af, g⟩ t w C K p = K (.func fn (a.map (ev t)).toArray (c.map (ev t)).toArray) w := by
  simp [mixKN, pureK, chainN]
end
attribute [push_cast] vcMix_nilN vcMix_plainN vcMix_guardN mixK_moveN mixK_assignN mixK_pickN mixK_binN mixK_unN mixK_extractN mixK_convertN mixConvK_intN mixConvK_strN mixConvK_sliceN mixK_indexN mixK_lenN mixK_loadN mixK_fieldAddrN mixK_fieldN mixK_indexAddrN mixK_sliceN mixK_callN mixK_storeN mixK_boxN mixK_buildSliceN mixK_buildN mixK_appendN mixK_nilCheckN mixK_invokeN mixK_allocN mixK_ifaceN mixK_makeSliceN mixK_typeAssertN mixK_makeFuncN
attribute [irreducible] vcMixN
end Go.Vc
