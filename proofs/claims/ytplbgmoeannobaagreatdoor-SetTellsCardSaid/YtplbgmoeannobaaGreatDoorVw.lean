import Derived.Test.YtplbgmoeannobaaGreatDoorV
set_option linter.unusedSimpArgs false
set_option linter.unusedVariables false
namespace Go.Vc
open Go.RowKit

/-! Regions that draw, in a told order, with two classes of worlds: one up to an operation m, a wider one behind it; what floats over m holds in the wider one. -/
def clsD (C D : World → Prop) (m : Nat) (listed : Array Bool) : World → Prop := fun w => (listed.getD m false = true → D w) ∧ (listed.getD m false = false → C w)

section
variable {P : Program} {ops : Array Oper} {C D : World → Prop}
theorem clsD_tt {m : Nat} {listed : Array Bool} (h : listed.getD m false = true) : clsD C D m listed = D := funext fun w => propext ⟨fun hh => hh.1 h, fun hh => ⟨fun _ => hh, fun h' => by rw [h] at h'; cases h'⟩⟩
theorem clsD_ff {m : Nat} {listed : Array Bool} (h : listed.getD m false = false) : clsD C D m listed = C := funext fun w => propext ⟨fun hh => hh.2 h, fun hh => ⟨fun h' => (by rw [h] at h'; cases h'), fun _ => hh⟩⟩
theorem clsD_sub (hCD : ∀ w, C w → D w) {m : Nat} {listed : Array Bool} {w : World} (h : clsD C D m listed w) : D w := by
  cases hm : listed.getD m false with
  | true => exact h.1 hm
  | false => exact hCD w (h.2 hm)
theorem clsD_mono (hCD : ∀ w, C w → D w) {m i : Nat} {listed : Array Bool} {w : World} (h : clsD C D m listed w) : clsD C D m (listed.setIfInBounds i true) w := by
  cases hm : (listed.setIfInBounds i true).getD m false with
  | true => rw [clsD_tt hm]; exact clsD_sub hCD h
  | false =>
    rw [clsD_ff hm]
    refine h.2 ?_
    cases hl : listed.getD m false with
    | false => rfl
    | true => rw [getD_set_true hl] at hm; cases hm

theorem mixOp_sub {i : Nat} {o : Oper} {K : Act → World → Prop} {a : Act} {w : World} (hi : ops[i]? = some o) (hq : chain P o = false) (hCD : ∀ w, C w → D w) (h : mixOp P ops D i K a w) : mixOp P ops C i K a w := by
  cases hw : Region.wanted o (yielded ops a.tmps) with
  | false => rw [mixOp_no hi hw] at h ⊢; exact h
  | true =>
    rw [mixOp_quiet hi hw hq] at h ⊢
    obtain ⟨v, hv, hk⟩ := h
    exact ⟨v, fun w' hw' => hv w' (hCD w' hw'), hk⟩
theorem mixOp_monoQ {i : Nat} {o : Oper} {K K' : Act → World → Prop} {a : Act} {w : World} (hi : ops[i]? = some o) (hq : chain P o = false) (hk : ∀ a, K a w → K' a w) (h : mixOp P ops D i K a w) : mixOp P ops D i K' a w := by
  cases hw : Region.wanted o (yielded ops a.tmps) with
  | false => rw [mixOp_no hi hw] at h ⊢; exact hk _ h
  | true =>
    rw [mixOp_quiet hi hw hq] at h ⊢
    obtain ⟨v, hv, hh⟩ := h
    exact ⟨v, hv, hk _ hh⟩
/-- One that is quiet, and holds in the wider class, may stand behind any that is apart. -/
theorem mixOp_swapQ {i j : Nat} {oi oj : Oper} {K : Act → World → Prop} {a : Act} {w : World} (hCD : ∀ w, C w → D w) (hi : ops[i]? = some oi) (hj : ops[j]? = some oj) (hap : oi.apart ops oj = true) (hci : chain P oi = false)
    (hsi : ∀ cs b, oi.op ≠ .select cs b) (hsj : ∀ cs b, oj.op ≠ .select cs b) (h : mixOp P ops D i (mixOp P ops C j K) a w) : mixOp P ops C j (mixOp P ops D i K) a w := by
  obtain ⟨h1, h2, h3⟩ := Oper.apart_spec hap
  have ej : ∀ (b : Act) (v : Value), execOp (b.put oi.dst v).eval oj = execOp b.eval oj := fun b v => execOp_put oj hsj b oi.dst v h1
  have ei : ∀ (b : Act) (v : Value), execOp (b.put oj.dst v).eval oi = execOp b.eval oi := fun b v => execOp_put oi hsi b oj.dst v h3
  have wj : ∀ (b : Act) (v : Value), Region.wanted oj (yielded ops (b.put oi.dst v).tmps) = Region.wanted oj (yielded ops b.tmps) := fun b v => wanted_put oj b oi.dst v h1
  have wi : ∀ (b : Act) (v : Value), Region.wanted oi (yielded ops (b.put oj.dst v).tmps) = Region.wanted oi (yielded ops b.tmps) := fun b v => wanted_put oi b oj.dst v h3
  have cm : ∀ (b : Act) (v u : Value), (b.put oi.dst v).put oj.dst u = (b.put oj.dst u).put oi.dst v := fun b v u => Act.put_comm b v u h2
  cases hwi : Region.wanted oi (yielded ops a.tmps) with
  | false =>
    rw [mixOp_no hi hwi] at h
    cases hwj : Region.wanted oj (yielded ops a.tmps) with
    | false =>
      rw [mixOp_no hj (by rw [wj]; exact hwj)] at h
      rw [mixOp_no hj hwj, mixOp_no hi (by rw [wi]; exact hwi), ← cm]
      exact h
    | true =>
      cases hcj : chain P oj with
      | true =>
        rw [mixOp_chain hj (by rw [wj]; exact hwj) hcj, ej] at h
        rw [mixOp_chain hj hwj hcj]
        refine resA_mono (fun v w' _ hh => ?_) h
        rw [mixOp_no hi (by rw [wi]; exact hwi), ← cm]
        exact hh
      | false =>
        rw [mixOp_quiet hj (by rw [wj]; exact hwj) hcj, ej] at h
        rw [mixOp_quiet hj hwj hcj]
        obtain ⟨v, hv, hk⟩ := h
        refine ⟨v, hv, ?_⟩
        rw [mixOp_no hi (by rw [wi]; exact hwi), ← cm]
        exact hk
  | true =>
    rw [mixOp_quiet hi hwi hci] at h
    obtain ⟨v, hv, hk⟩ := h
    cases hwj : Region.wanted oj (yielded ops a.tmps) with
    | false =>
      rw [mixOp_no hj (by rw [wj]; exact hwj)] at hk
      rw [mixOp_no hj hwj, mixOp_quiet hi (by rw [wi]; exact hwi) hci, ei]
      exact ⟨v, hv, by rw [← cm]; exact hk⟩
    | true =>
      cases hcj : chain P oj with
      | true =>
        rw [mixOp_chain hj (by rw [wj]; exact hwj) hcj, ej] at hk
        rw [mixOp_chain hj hwj hcj]
        refine resA_mono (fun u w' _ hh => ?_) hk
        rw [mixOp_quiet hi (by rw [wi]; exact hwi) hci, ei]
        exact ⟨v, hv, by rw [← cm]; exact hh⟩
      | false =>
        rw [mixOp_quiet hj (by rw [wj]; exact hwj) hcj, ej] at hk
        rw [mixOp_quiet hj hwj hcj]
        obtain ⟨u, hu, hk⟩ := hk
        refine ⟨u, hu, ?_⟩
        rw [mixOp_quiet hi (by rw [wi]; exact hwi) hci, ei]
        exact ⟨v, hv, by rw [← cm]; exact hk⟩

def wpMixW (P : Program) (ops : Array Oper) (C D : World → Prop) (m : Nat) (R : Act → World → Prop) : Nat → Array Bool → Act → World → Prop
  | 0, listed, a, w => Region.ready .any ops listed = [] ∧ R a w
  | n + 1, listed, a, w => (Region.ready .any ops listed = [] → R a w) ∧ ∀ i ∈ Region.ready .any ops listed, mixOp P ops (clsD C D m (listed.setIfInBounds i true)) i (wpMixW P ops C D m R n (listed.setIfInBounds i true)) a w

theorem wpAny_of_mixW (hCD : ∀ w, C w → D w) {m : Nat} {R : Act → World → Prop} {Q : Exit → Act → World → Prop} (hq : ∀ a w, R a w → Q .normal a w) : ∀ (n : Nat) (listed : Array Bool) (a : Act) (w : World), clsD C D m listed w →
    wpMixW P ops C D m R n listed a w → wpAny P .any ops Q n listed a w
  | 0, listed, a, w, _, h => ⟨h.1, hq _ _ h.2⟩
  | fuel + 1, listed, a, w, hC, h => ⟨fun h0 => hq _ _ (h.1 h0), fun i hi => by
      have h1 := h.2 i hi
      have hC' := clsD_mono hCD (i := i) hC
      unfold mixOp at h1
      unfold wpOp
      split
      · rename_i ho; simp only [ho] at h1; exact wpAny_of_mixW hCD hq fuel _ _ _ hC' h1
      · rename_i o ho
        simp only [ho] at h1
        split
        · rename_i hw
          simp only [hw, if_true] at h1
          refine .inl ?_
          split at h1
          · exact Oper.wp_mono (fun a' w' hh => wpAny_of_mixW hCD hq fuel _ _ _ hh.1 hh.2) (upon_of_resA h1)
          · obtain ⟨v, hv, hk⟩ := h1
            unfold Oper.wp
            rw [hv w hC']
            exact wpAny_of_mixW hCD hq fuel _ _ _ hC' hk
        · rename_i hw
          simp only [hw] at h1
          exact wpAny_of_mixW hCD hq fuel _ _ _ hC' h1⟩

theorem wpMixW_first (hCD : ∀ w, C w → D w) {m : Nat} {R : Act → World → Prop} {i : Nat} {oi : Oper} (fl : Bool) (hi : ops[i]? = some oi) (hsel : ∀ (j : Nat) (o : Oper) cs b, ops[j]? = some o → o.op ≠ .select cs b) :
    ∀ (fuel : Nat) (listed : Array Bool) (a : Act) (w : World), clsD C D m listed w → Shut ops listed →
      ((fl = true ∧ chain P oi = false ∧ i ≠ m) ∨ (fl = false ∧ (listed.getD m false = true ∨ (i ≠ m ∧ ((Region.before ops).getD m 0).testBit i = true)))) →
      (∀ j oj, ops[j]? = some oj → j ≠ i → listed.getD j true = false → ((Region.before ops).getD j 0).testBit i = false → oi.apart ops oj = true ∧ (chain P oi && chain P oj) = false) →
      i ∈ Region.ready .any ops listed → mixOp P ops (if fl then D else clsD C D m (listed.setIfInBounds i true)) i (wpMixW P ops C D m R fuel (listed.setIfInBounds i true)) a w → wpMixW P ops C D m R (fuel + 1) listed a w := by
  have hun : ∀ listed : Array Bool, ∀ i ∈ Region.ready .any ops listed, i < listed.size ∧ listed.getD i false = false := fun listed i hr => by
    have h0 := (mem_ready.1 hr).1
    rcases Nat.lt_or_ge i listed.size with h' | h'
    · simp [h'] at h0 ⊢; exact h0
    · simp [h'] at h0
  have hE : ∀ (listed : Array Bool) (w : World), clsD C D m listed w → (if fl then D else clsD C D m (listed.setIfInBounds i true)) w := fun listed w h => by
    cases fl with
    | true => exact clsD_sub hCD h
    | false => exact clsD_mono hCD h
  have hgo : ∀ (listed : Array Bool) (K : Act → World → Prop) (a : Act) (w : World), ((fl = true ∧ chain P oi = false ∧ i ≠ m) ∨ (fl = false ∧ (listed.getD m false = true ∨ (i ≠ m ∧ ((Region.before ops).getD m 0).testBit i = true)))) →
      mixOp P ops (if fl then D else clsD C D m (listed.setIfInBounds i true)) i K a w → mixOp P ops (clsD C D m (listed.setIfInBounds i true)) i K a w := fun listed K a w hc h => by
    rcases hc with ⟨rfl, hq, _⟩ | ⟨rfl, _⟩
    · exact mixOp_sub hi hq (fun w hw => clsD_sub hCD hw) h
    · exact h
  intro fuel
  induction fuel with
  | zero =>
    intro listed a w hC hS hcond _ hr H
    refine ⟨fun h => (by rw [h] at hr; cases hr), fun j hj => ?_⟩
    by_cases hji : j = i
    · subst hji; exact hgo _ _ _ _ hcond H
    · have := ready_mono hj hji
      obtain ⟨_, _, _, hh⟩ := mixOp_some (hE _ _ hC) H
      rw [hh.1] at this
      cases this
  | succ fuel ih =>
    intro listed a w hC hS hcond hfree hr H
    refine ⟨fun h => (by rw [h] at hr; cases hr), fun j hj => ?_⟩
    by_cases hji : j = i
    · subst hji; exact hgo _ _ _ _ hcond H
    · obtain ⟨hjun, oj, hoj, hall⟩ := mem_ready.1 hj
      obtain ⟨hisz, hiun⟩ := hun listed i hr
      have hjsz := (hun listed j hj).1
      have hnot : ((Region.before ops).getD j 0).testBit i = false := by
        cases hb : ((Region.before ops).getD j 0).testBit i with
        | false => rfl
        | true => have := hS.before j i oj hoj hall hb; rw [hiun] at this; cases this
      obtain ⟨hap, hch⟩ := hfree j oj hoj hji hjun hnot
      have h1 : mixOp P ops (if fl then D else clsD C D m (listed.setIfInBounds i true)) i (mixOp P ops (clsD C D m ((listed.setIfInBounds i true).setIfInBounds j true)) j (wpMixW P ops C D m R fuel ((listed.setIfInBounds i true).setIfInBounds j true))) a w :=
        mixOp_mono (hE _ _ hC) (fun a' w' _ hh => hh.2 j (ready_mono hj hji)) H
      have key : mixOp P ops (clsD C D m (listed.setIfInBounds j true)) j (mixOp P ops (if fl then D else clsD C D m ((listed.setIfInBounds j true).setIfInBounds i true)) i (wpMixW P ops C D m R fuel ((listed.setIfInBounds i true).setIfInBounds j true))) a w ∧
          ((fl = true ∧ chain P oi = false ∧ i ≠ m) ∨ (fl = false ∧ ((listed.setIfInBounds j true).getD m false = true ∨ (i ≠ m ∧ ((Region.before ops).getD m 0).testBit i = true)))) := by
        rcases hcond with ⟨rfl, hq, him⟩ | ⟨rfl, hcond⟩
        · refine ⟨?_, .inl ⟨rfl, hq, him⟩⟩
          have e : clsD C D m ((listed.setIfInBounds i true).setIfInBounds j true) = clsD C D m (listed.setIfInBounds j true) := by
            rw [Array.setIfInBounds_comm _ _ (Ne.symm hji)]
            unfold clsD
            rw [getD_set_ne false him]
          rw [e] at h1
          exact mixOp_swapQ (fun w hw => clsD_sub hCD hw) hi hoj hap hq (fun cs b => hsel i oi cs b hi) (fun cs b => hsel j oj cs b hoj) h1
        · simp only [Bool.false_eq_true, if_false] at h1
          cases hm : listed.getD m false with
          | true =>
            have e1 : ∀ k, (listed.setIfInBounds k true).getD m false = true := fun k => getD_set_true hm
            have e2 : ∀ k k', ((listed.setIfInBounds k true).setIfInBounds k' true).getD m false = true := fun k k' => getD_set_true (e1 k)
            rw [clsD_tt (e1 i), clsD_tt (e2 i j)] at h1
            refine ⟨?_, .inr ⟨rfl, .inl (e1 j)⟩⟩
            simp only [Bool.false_eq_true, if_false]
            rw [clsD_tt (e1 j), clsD_tt (e2 j i)]
            exact mixOp_swap hi hoj hap hch (fun cs b => hsel i oi cs b hi) (fun cs b => hsel j oj cs b hoj) h1
          | false =>
            have hcond' := hcond.resolve_left (by rw [hm]; simp)
            have hjm : j ≠ m := fun e => by subst e; rw [hnot] at hcond'; simp at hcond'
            have ei : (listed.setIfInBounds i true).getD m false = false := by rw [getD_set_ne false hcond'.1]; exact hm
            have ej : (listed.setIfInBounds j true).getD m false = false := by rw [getD_set_ne false hjm]; exact hm
            have eji : ((listed.setIfInBounds j true).setIfInBounds i true).getD m false = false := by rw [getD_set_ne false hcond'.1]; exact ej
            have eij : ((listed.setIfInBounds i true).setIfInBounds j true).getD m false = false := by rw [getD_set_ne false hjm]; exact ei
            rw [clsD_ff ei, clsD_ff eij] at h1
            refine ⟨?_, .inr ⟨rfl, .inr hcond'⟩⟩
            simp only [Bool.false_eq_true, if_false]
            rw [clsD_ff ej, clsD_ff eji]
            exact mixOp_swap hi hoj hap hch (fun cs b => hsel i oi cs b hi) (fun cs b => hsel j oj cs b hoj) h1
      obtain ⟨h2, hc2⟩ := key
      refine mixOp_mono (clsD_mono hCD hC) (fun a' w' hC' h3 => ih (listed.setIfInBounds j true) a' w' hC' (hS.set hj) hc2 ?_ (ready_mono hr (Ne.symm hji)) ?_) h2
      · intro k ok hk hki hun' hno
        refine hfree k ok hk hki ?_ hno
        by_cases hjk : j = k
        · subst hjk; exact hjun
        · rw [getD_set_ne true hjk] at hun'; exact hun'
      · rw [show (listed.setIfInBounds i true).setIfInBounds j true = (listed.setIfInBounds j true).setIfInBounds i true from Array.setIfInBounds_comm _ _ (Ne.symm hji)] at h3
        exact h3

def postW (P : Program) (ops : Array Oper) (bf : Array Nat) : List Nat → Array Bool → Bool
  | [], listed => (Region.ready .any ops listed).isEmpty
  | k :: r, listed => (Region.ready .any ops listed).contains k && mixFree P ops bf listed k && postW P ops bf r (listed.setIfInBounds k true)
def quietB (P : Program) : Option Oper → Bool
  | some o => !chain P o
  | none => false
def preW (P : Program) (ops : Array Oper) (bf : Array Nat) (m : Nat) (post : List Nat) : List (Nat × Bool) → Array Bool → Bool
  | [], listed => (Region.ready .any ops listed).contains m && (Region.ready .any ops listed).all (· == m) && postW P ops bf post (listed.setIfInBounds m true)
  | (k, fl) :: r, listed => (Region.ready .any ops listed).contains k && (k != m) && mixFree P ops bf listed k && (if fl then quietB P ops[k]? else (bf.getD m 0).testBit k) && preW P ops bf m post r (listed.setIfInBounds k true)
def orderW (P : Program) (ops : Array Oper) (pre : List (Nat × Bool)) (m : Nat) (post : List Nat) : Bool := Region.noSelect ops && (pre.length + (post.length + 1) == ops.size) && preW P ops (Region.before ops) m post pre (Array.replicate ops.size false)

def wpPostW (P : Program) (ops : Array Oper) (D : World → Prop) (R : Act → World → Prop) : List Nat → Act → World → Prop
  | [], a, w => R a w
  | k :: r, a, w => mixOp P ops D k (wpPostW P ops D R r) a w
def wpPreW (P : Program) (ops : Array Oper) (C D : World → Prop) (R : Act → World → Prop) (m : Nat) (post : List Nat) : List (Nat × Bool) → Act → World → Prop
  | [], a, w => mixOp P ops D m (wpPostW P ops D R post) a w
  | (k, fl) :: r, a, w => mixOp P ops (if fl then D else C) k (wpPreW P ops C D R m post r) a w

theorem wpMixW_post (hCD : ∀ w, C w → D w) {m : Nat} {R : Act → World → Prop} (hs : Region.noSelect ops = true) : ∀ (post : List Nat) (listed : Array Bool) (a : Act) (w : World), D w → listed.getD m false = true → Shut ops listed →
    postW P ops (Region.before ops) post listed = true → wpPostW P ops D R post a w → wpMixW P ops C D m R post.length listed a w
  | [], listed, a, w, _, _, _, hB, h => ⟨by simpa [postW] using hB, h⟩
  | k :: r, listed, a, w, hD, hm, hS, hB, h => by
    simp only [postW, Bool.and_eq_true] at hB
    obtain ⟨⟨hr, hf⟩, hB'⟩ := hB
    have hr' : k ∈ Region.ready .any ops listed := by simpa using hr
    obtain ⟨_, ok, hok, _⟩ := mem_ready.1 hr'
    refine wpMixW_first hCD (i := k) (oi := ok) false hok (Region.noSelect_spec hs) r.length listed a w (by rw [clsD_tt hm]; exact hD) hS (.inr ⟨rfl, .inl hm⟩) (mixFree_spec hok hf) hr' ?_
    simp only [Bool.false_eq_true, if_false]
    rw [clsD_tt (getD_set_true hm)]
    exact mixOp_mono hD (fun a' w' hD' hh => wpMixW_post hCD hs r _ a' w' hD' (getD_set_true hm) (hS.set hr') hB' hh) h

theorem wpMixW_pre (hCD : ∀ w, C w → D w) {m : Nat} {post : List Nat} {R : Act → World → Prop} (hs : Region.noSelect ops = true) : ∀ (pre : List (Nat × Bool)) (listed : Array Bool) (a : Act) (w : World), C w → listed.getD m false = false → Shut ops listed →
    preW P ops (Region.before ops) m post pre listed = true → wpPreW P ops C D R m post pre a w → wpMixW P ops C D m R (pre.length + (post.length + 1)) listed a w
  | [], listed, a, w, hC, hm, hS, hB, h => by
    simp only [preW, Bool.and_eq_true, List.all_eq_true, beq_iff_eq] at hB
    obtain ⟨⟨hr, hall⟩, hB'⟩ := hB
    have hr' : m ∈ Region.ready .any ops listed := by simpa using hr
    have hsz : m < listed.size := by
      have h0 := (mem_ready.1 hr').1
      rcases Nat.lt_or_ge m listed.size with h' | h'
      · exact h'
      · simp [h'] at h0
    have em : (listed.setIfInBounds m true).getD m false = true := by simp [hsz]
    rw [List.length_nil, Nat.zero_add]
    refine ⟨fun h0 => (by rw [h0] at hr'; cases hr'), fun i hi => ?_⟩
    rw [hall i hi]
    rw [clsD_tt em]
    exact mixOp_mono (hCD w hC) (fun a' w' hD' hh => wpMixW_post hCD hs post _ a' w' hD' em (hS.set hr') hB' hh) h
  | (k, fl) :: r, listed, a, w, hC, hm, hS, hB, h => by
    simp only [preW, Bool.and_eq_true, bne_iff_ne, ne_eq] at hB
    obtain ⟨⟨⟨⟨hr, hkm⟩, hf⟩, hst⟩, hB'⟩ := hB
    have hr' : k ∈ Region.ready .any ops listed := by simpa using hr
    obtain ⟨_, ok, hok, _⟩ := mem_ready.1 hr'
    have em : (listed.setIfInBounds k true).getD m false = false := by rw [getD_set_ne false hkm]; exact hm
    rw [List.length_cons, Nat.add_right_comm]
    have hcl : clsD C D m listed w := by rw [clsD_ff hm]; exact hC
    cases fl with
    | true =>
      simp only [if_true] at hst
      rw [hok] at hst
      have hq : chain P ok = false := by simpa [quietB] using hst
      refine wpMixW_first hCD (i := k) (oi := ok) true hok (Region.noSelect_spec hs) _ listed a w hcl hS (.inl ⟨rfl, hq, hkm⟩) (mixFree_spec hok hf) hr' ?_
      simp only [if_true]
      have h : mixOp P ops D k (wpPreW P ops C D R m post r) a w := h
      exact mixOp_monoQ hok hq (fun a' hh => wpMixW_pre hCD hs r _ a' w hC em (hS.set hr') hB' hh) h
    | false =>
      simp only [Bool.false_eq_true, if_false] at hst
      refine wpMixW_first hCD (i := k) (oi := ok) false hok (Region.noSelect_spec hs) _ listed a w hcl hS (.inr ⟨rfl, .inr ⟨hkm, hst⟩⟩) (mixFree_spec hok hf) hr' ?_
      simp only [Bool.false_eq_true, if_false]
      rw [clsD_ff em]
      have h : mixOp P ops C k (wpPreW P ops C D R m post r) a w := h
      exact mixOp_mono hC (fun a' w' hC' hh => wpMixW_pre hCD hs r _ a' w' hC' em (hS.set hr') hB' hh) h
end

section
variable {P : Program}
def vcPostW (P : Program) (ops : List Oper) (D : World → Prop) (R : Fr → World → Prop) : (l : List Nat) → Fr → World → Ph (ops, D, R, l) → Prop
  | [], t, w, _ => R t w
  | k :: r, t, w, _ => stepK P ops D ops[k]? (fun t w => vcPostW P ops D R r t w .mk) t w .mk
def vcPreW (P : Program) (ops : List Oper) (C D : World → Prop) (R : Fr → World → Prop) (m : Nat) (post : List Nat) : (l : List (Nat × Bool)) → Fr → World → Ph (ops, C, D, R, m, post, l) → Prop
  | [], t, w, _ => stepK P ops D ops[m]? (fun t w => vcPostW P ops D R post t w .mk) t w .mk
  | (k, true) :: r, t, w, _ => stepK P ops D ops[k]? (fun t w => vcPreW P ops C D R m post r t w .mk) t w .mk
  | (k, false) :: r, t, w, _ => stepK P ops C ops[k]? (fun t w => vcPreW P ops C D R m post r t w .mk) t w .mk

theorem wpPostW_of {ops : List Oper} {D : World → Prop} {R : Fr → World → Prop} {N : Act → World → Prop} (hn : ∀ t w, R t w → N ⟨t.toArray, []⟩ w) : ∀ (l : List Nat) (t : Fr) (w : World), vcPostW P ops D R l t w .mk → wpPostW P ops.toArray D N l ⟨t.toArray, []⟩ w
  | [], t, w, h => hn t w h
  | k :: r, t, w, h => mixOp_of_stepK (fun t w => wpPostW_of hn r t w) h
theorem wpPreW_of {ops : List Oper} {C D : World → Prop} {R : Fr → World → Prop} {N : Act → World → Prop} {m : Nat} {post : List Nat} (hn : ∀ t w, R t w → N ⟨t.toArray, []⟩ w) : ∀ (l : List (Nat × Bool)) (t : Fr) (w : World), vcPreW P ops C D R m post l t w .mk → wpPreW P ops.toArray C D N m post l ⟨t.toArray, []⟩ w
  | [], t, w, h => mixOp_of_stepK (fun t w => wpPostW_of hn post t w) h
  | (k, true) :: r, t, w, h => mixOp_of_stepK (fun t w => wpPreW_of hn r t w) h
  | (k, false) :: r, t, w, h => mixOp_of_stepK (fun t w => wpPreW_of hn r t w) h

/-- A region that draws its order, walked in a told order, with two classes. -/
theorem wpL_wide {id : Nat} {l : List Oper} {t : Fr} {w : World} {Q : EP} {p} (pre : List (Nat × Bool)) (m : Nat) (post : List Nat) (C D : World → Prop) (hm : P.follows .mixedOrders = true) (hB : orderW P l.toArray pre m post = true) (hCD : ∀ w, C w → D w) (hC : C w.drew)
    (h : vcPreW P l C D (Q .normal) m post pre t w.drew .mk) : wpL P (.region id l.toArray true) Q t w p := by
  unfold wpL
  simp only [orderW, Bool.and_eq_true, beq_iff_eq] at hB
  refine wp_region_any hm ?_
  have hG : wpMixW P l.toArray C D m (fun a w => lift Q .normal a w) (pre.length + (post.length + 1)) (Array.replicate l.toArray.size false) ⟨t.toArray, []⟩ w.drew := by
    refine wpMixW_pre hCD hB.1.1 pre _ _ _ hC (by rw [Array.getD_eq_getD_getElem?, Array.getElem?_replicate]; split <;> rfl) (fun j o _ hl => by simp [Array.getElem?_replicate] at hl; split at hl <;> simp at hl) hB.2 ?_
    exact wpPreW_of (P := P) (R := Q .normal) (N := fun a w => lift Q .normal a w) (fun t w hk => ⟨rfl, by simpa using hk⟩) pre t w.drew h
  rw [hB.1.2] at hG
  exact wpAny_of_mixW hCD (R := fun a w => lift Q .normal a w) (Q := fun e a w => lift Q e a w) (fun _ _ h => h) _ _ _ _ (by rw [clsD_ff (by rw [Array.getD_eq_getD_getElem?, Array.getElem?_replicate]; split <;> rfl)]; exact hC) hG

variable {t : Fr} {w : World} {C D : World → Prop} {R : Fr → World → Prop}
theorem vcPostW_nil (ops) (p) : vcPostW P ops D R [] t w p = R t w := (rfl)
theorem vcPostW_cons (ops k r) (p) : vcPostW P ops D R (k :: r) t w p = stepK P ops D ops[k]? (fun t w => vcPostW P ops D R r t w .mk) t w .mk := (rfl)
theorem vcPreW_nil (ops m post) (p) : vcPreW P ops C D R m post [] t w p = stepK P ops D ops[m]? (fun t w => vcPostW P ops D R post t w .mk) t w .mk := (rfl)
theorem vcPreW_true (ops m post k r) (p) : vcPreW P ops C D R m post ((k, true) :: r) t w p = stepK P ops D ops[k]? (fun t w => vcPreW P ops C D R m post r t w .mk) t w .mk := (rfl)
theorem vcPreW_false (ops m post k r) (p) : vcPreW P ops C D R m post ((k, false) :: r) t w p = stepK P ops C ops[k]? (fun t w => vcPreW P ops C D R m post r t w .mk) t w .mk := (rfl)
end
attribute [push_cast] vcPostW_nil vcPostW_cons vcPreW_nil vcPreW_true vcPreW_false
attribute [irreducible] vcPostW vcPreW
end Go.Vc
