import Derived.Test.YtplbgmoeannobaaGreatDoorP
set_option linter.unusedSimpArgs false
set_option linter.unusedVariables false
namespace Cae

/-! Sets, by the points that are in them. -/
def inB (l : List Rg) (p : Int) : Bool := decide (0 ≤ p ∧ p ≤ 1114111) && hasP l p
theorem hasP_nil (p : Int) : hasP [] p = false := rfl
theorem hasP_cons (r : Rg) (s : List Rg) (p : Int) : hasP (r :: s) p = (decide (r.1 ≤ p ∧ p ≤ r.2) || hasP s p) := by unfold hasP; rw [List.any_cons]
theorem hasP_app (a b : List Rg) (p : Int) : hasP (a ++ b) p = (hasP a p || hasP b p) := by unfold hasP; rw [List.any_append]
theorem setRight_mono : ∀ {s : List Rg} {a b : Int}, b ≤ a → setRight a s = true → setRight b s = true
  | [], _, _, _, _ => rfl
  | r :: s, a, b, h, hs => by
    unfold setRight at hs ⊢
    split at hs
    · cases hs
    · rw [if_neg (by omega)]; exact hs
theorem setRight_con {r : Rg} {s : List Rg} {a : Int} : setRight a (r :: s) = true ↔ (a + 1 < r.1 ∧ r.1 ≤ r.2 ∧ r.2 ≤ 1114111) ∧ setRight r.2 s = true := by
  rw [setRight]
  split
  · constructor
    · intro h; cases h
    · rintro ⟨h, _⟩; omega
  · constructor
    · intro h; exact ⟨by omega, h⟩
    · exact fun h => h.2
theorem has_above : ∀ {s : List Rg} {a p : Int}, setRight a s = true → hasP s p = true → a + 1 < p ∧ p ≤ 1114111
  | [], _, _, _, h => by cases h
  | r :: s, a, p, hs, h => by
    rw [setRight_con] at hs
    rw [hasP_cons, Bool.or_eq_true, decide_eq_true_eq] at h
    rcases h with h | h
    · omega
    · have := has_above hs.2 h
      omega
theorem has_not {s : List Rg} {a p : Int} (hs : setRight a s = true) (hp : p ≤ a + 1) : hasP s p = false := by
  cases h : hasP s p with
  | false => rfl
  | true => have := has_above hs h; omega
/-- Sets of the same points are the same. -/
theorem set_ext : ∀ {s t : List Rg} {a b : Int}, setRight a s = true → setRight b t = true → (∀ p, hasP s p = hasP t p) → s = t
  | [], [], _, _, _, _, _ => rfl
  | [], q :: t, _, _, _, ht, h => by
    rw [setRight_con] at ht
    have := h q.1
    rw [hasP_cons, decide_eq_true (by omega)] at this
    cases this
  | r :: s, [], _, _, hs, _, h => by
    rw [setRight_con] at hs
    have := h r.1
    rw [hasP_cons, decide_eq_true (by omega)] at this
    cases this
  | r :: s, q :: t, a, b, hs, ht, h => by
    have hs' := setRight_con.1 hs
    have ht' := setRight_con.1 ht
    obtain ⟨⟨s1, s2, s3⟩, s4⟩ := hs'
    obtain ⟨⟨t1, t2, t3⟩, t4⟩ := ht'
    have e1 : r.1 = q.1 := by
      have h1 := h r.1
      rw [hasP_cons r, decide_eq_true (by omega), Bool.true_or] at h1
      have h2 := h q.1
      rw [hasP_cons q, decide_eq_true (p := q.1 ≤ q.1 ∧ q.1 ≤ q.2) (by omega), Bool.true_or] at h2
      rcases Int.lt_trichotomy r.1 q.1 with hlt | heq | hgt
      · have h1 := h1.symm
        rw [hasP_cons, decide_eq_false (by omega), Bool.false_or] at h1
        have := has_above t4 h1; omega
      · exact heq
      · rw [hasP_cons, decide_eq_false (by omega), Bool.false_or] at h2
        have := has_above s4 h2; omega
    have e2 : r.2 = q.2 := by
      rcases Int.lt_trichotomy r.2 q.2 with hlt | heq | hgt
      · have h1 := h (r.2 + 1)
        rw [hasP_cons, hasP_cons, decide_eq_false (by omega), has_not s4 (by omega), decide_eq_true (by omega)] at h1
        cases h1
      · exact heq
      · have h1 := h (q.2 + 1)
        rw [hasP_cons, hasP_cons, decide_eq_true (by omega), has_not t4 (by omega), decide_eq_false (by omega)] at h1
        cases h1
    have e : r = q := Prod.ext e1 e2
    subst e
    congr 1
    refine set_ext s4 t4 (fun p => ?_)
    by_cases hp : p ≤ r.2 + 1
    · rw [has_not s4 hp, has_not t4 hp]
    · have := h p
      rw [hasP_cons, hasP_cons, decide_eq_false (by omega), Bool.false_or, Bool.false_or] at this
      exact this

/-! The set of ranges. -/
def ofStep (out : List Rg) (r : Rg) : List Rg :=
  if min r.2 1114111 < max r.1 0 then out
  else match out.getLast? with
    | none => [(max r.1 0, min r.2 1114111)]
    | some q => if max r.1 0 ≤ q.2 + 1 then out.dropLast ++ [(q.1, max q.2 (min r.2 1114111))] else out ++ [(max r.1 0, min r.2 1114111)]
def lastHi (a : Int) : List Rg → Int
  | [] => a
  | r :: s => lastHi r.2 s
theorem lastHi_snoc (a : Int) : ∀ (s : List Rg) (r : Rg), lastHi a (s ++ [r]) = r.2
  | [], r => rfl
  | q :: s, r => by rw [List.cons_append, lastHi, lastHi_snoc]
theorem setRight_snoc (r : Rg) : ∀ (s : List Rg) (a : Int), setRight a (s ++ [r]) = true ↔ setRight a s = true ∧ lastHi a s + 1 < r.1 ∧ r.1 ≤ r.2 ∧ r.2 ≤ 1114111
  | [], a => by
    rw [List.nil_append, setRight_con]
    exact ⟨fun h => ⟨rfl, h.1⟩, fun h => ⟨h.2, rfl⟩⟩
  | q :: s, a => by
    rw [List.cons_append, setRight_con, setRight_con, setRight_snoc r s q.2, lastHi]
    exact ⟨fun h => ⟨⟨h.1, h.2.1⟩, h.2.2⟩, fun h => ⟨h.1.1, h.1.2, h.2⟩⟩
structure OfInv (out done : List Rg) : Prop where
  right : setRight (-2) out = true
  has : ∀ p, hasP out p = inB done p
theorem inB_snoc (l : List Rg) (r : Rg) (p : Int) : inB (l ++ [r]) p = (inB l p || decide (max r.1 0 ≤ p ∧ p ≤ min r.2 1114111)) := by
  unfold inB
  rw [hasP_app, hasP_cons, hasP_nil, Bool.or_false]
  by_cases h : 0 ≤ p ∧ p ≤ 1114111
  · rw [decide_eq_true h, Bool.true_and, Bool.true_and]
    congr 1
    rw [decide_eq_decide]; omega
  · rw [decide_eq_false h, Bool.false_and, Bool.false_and, decide_eq_false (by omega)]; rfl
theorem ofStep_inv {out done : List Rg} {r : Rg} (h : OfInv out done) (hlo : ∀ q ∈ out, q.1 ≤ max r.1 0) : OfInv (ofStep out r) (done ++ [r]) := by
  unfold ofStep
  split
  · rename_i hlt
    refine ⟨h.right, fun p => ?_⟩
    rw [inB_snoc, h.has, decide_eq_false (by omega), Bool.or_false]
  · rename_i hge
    split
    · rename_i hn
      have : out = [] := by simpa using hn
      subst this
      refine ⟨setRight_con.2 ⟨⟨by omega, by omega, by omega⟩, rfl⟩, fun p => ?_⟩
      rw [inB_snoc, ← h.has, hasP_cons]
      rw [hasP_nil, Bool.or_false, Bool.false_or]
    · rename_i q hq
      have hsp : out = out.dropLast ++ [q] := by
        have hne : out ≠ [] := fun e => by subst e; simp at hq
        have := List.dropLast_concat_getLast hne
        rw [List.getLast?_eq_some_getLast hne] at hq
        cases hq
        exact this.symm
      have hqm : q ∈ out := by rw [hsp]; simp
      have hql := hlo q hqm
      have hr := h.right
      rw [hsp, setRight_snoc] at hr
      obtain ⟨r1, r2, r3, r4⟩ := hr
      split
      · rename_i hm
        refine ⟨(setRight_snoc _ _ _).2 ⟨r1, by dsimp only; omega, by dsimp only; omega, by dsimp only; omega⟩, fun p => ?_⟩
        rw [inB_snoc, ← h.has, hasP_app]
        conv => rhs; rw [hsp, hasP_app]
        rw [hasP_cons, hasP_cons, hasP_nil, Bool.or_false, Bool.or_false, Bool.or_assoc]
        congr 1
        rw [← Bool.decide_or, decide_eq_decide]
        dsimp only
        omega
      · rename_i hm
        refine ⟨(setRight_snoc _ _ _).2 ⟨h.right, ?_, by dsimp only; omega, by dsimp only; omega⟩, fun p => ?_⟩
        · rw [hsp, lastHi_snoc]; dsimp only; omega
        · rw [inB_snoc, ← h.has, hasP_app, hasP_cons, hasP_nil, Bool.or_false]
theorem ofStep_lo {out : List Rg} {r : Rg} {m : Int} (hlo : ∀ q ∈ out, q.1 ≤ m) (hr : max r.1 0 ≤ m) : ∀ q ∈ ofStep out r, q.1 ≤ m := by
  intro q hq
  unfold ofStep at hq
  split at hq
  · exact hlo q hq
  · split at hq
    · simp at hq; subst hq; exact hr
    · rename_i q' hq'
      have hqm : q' ∈ out := List.mem_of_getLast? hq'
      split at hq
      · rcases List.mem_append.1 hq with h | h
        · exact hlo q (List.dropLast_subset _ h)
        · simp at h; subst h; exact hlo q' hqm
      · rcases List.mem_append.1 hq with h | h
        · exact hlo q h
        · simp at h; subst h; exact hr
def ofFold (l : List Rg) : List Rg := l.foldl ofStep []
def Rising (l : List Rg) : Prop := l.Pairwise fun a b => a.1 ≤ b.1
theorem ofFold_inv : ∀ (n : Nat) (l : List Rg), Rising l → n ≤ l.length → OfInv (ofFold (l.take n)) (l.take n) ∧ ∀ q ∈ ofFold (l.take n), ∀ (i : Nat) (r : Rg), n ≤ i → l[i]? = some r → q.1 ≤ max r.1 0
  | 0, l, _, _ => ⟨⟨rfl, fun p => by rw [List.take_zero]; unfold inB; rw [hasP_nil, Bool.and_false]; rfl⟩, fun q hq => by rw [List.take_zero] at hq; cases hq⟩
  | n + 1, l, hR, hn => by
    obtain ⟨h1, h2⟩ := ofFold_inv n l hR (by omega)
    have hx := List.getElem?_eq_getElem (l := l) (i := n) (by omega)
    have e : l.take (n + 1) = l.take n ++ [l[n]] := by rw [List.take_add_one, hx]; rfl
    have ef : ofFold (l.take (n + 1)) = ofStep (ofFold (l.take n)) l[n] := by unfold ofFold; rw [e, List.foldl_append]; rfl
    rw [ef, e]
    refine ⟨ofStep_inv h1 (fun q hq => h2 q hq n _ (Nat.le_refl _) hx), fun q hq i r hi hr => ?_⟩
    have hlt := (List.getElem?_eq_some_iff.1 hr).1
    have hle : l[n].1 ≤ r.1 := by
      have := List.pairwise_iff_getElem.1 hR n i (by omega) hlt (by omega)
      rw [List.getElem?_eq_getElem hlt] at hr
      cases hr
      exact this
    exact ofStep_lo (m := max r.1 0) (fun q hq => h2 q hq i r (by omega) hr) (by omega) q hq
theorem ofFold_spec {l : List Rg} (hR : Rising l) : OfInv (ofFold l) l := by
  have := (ofFold_inv l.length l hR (Nat.le_refl _)).1
  rwa [List.take_length] at this
def setOf (l : List Rg) : List Rg := ofFold (l.mergeSort fun a b => decide (a.1 ≤ b.1))
theorem hasP_perm {l m : List Rg} (h : l.Perm m) (p : Int) : hasP l p = hasP m p := by
  unfold hasP
  rw [Bool.eq_iff_iff, List.any_eq_true, List.any_eq_true]
  exact ⟨fun ⟨r, h1, h2⟩ => ⟨r, h.mem_iff.1 h1, h2⟩, fun ⟨r, h1, h2⟩ => ⟨r, h.mem_iff.2 h1, h2⟩⟩
theorem setOf_spec (l : List Rg) : OfInv (setOf l) l := by
  have hs : Rising (l.mergeSort fun a b => decide (a.1 ≤ b.1)) := by
    have := List.pairwise_mergeSort (le := fun (a b : Rg) => decide (a.1 ≤ b.1)) (fun a b c h1 h2 => by simp only [decide_eq_true_eq] at *; omega) (fun a b => by simp only [Bool.or_eq_true, decide_eq_true_eq]; omega) l
    exact this.imp fun h => by simpa using h
  have h := ofFold_spec hs
  refine ⟨h.right, fun p => (h.has p).trans ?_⟩
  unfold inB
  rw [hasP_perm (List.mergeSort_perm l _)]
/-- Whatever way it was sorted. -/
theorem setOf_any {l m : List Rg} (hp : m.Perm l) (hR : Rising m) : ofFold m = setOf l := by
  have h1 := ofFold_spec hR
  have h2 := setOf_spec l
  refine set_ext h1.right h2.right (fun p => ?_)
  rw [h1.has, h2.has]
  unfold inB
  rw [hasP_perm hp]

/-! All others; either; both; the first alone. -/
def notGo : Int → List Rg → List Rg
  | f, [] => if f ≤ 1114111 then [(f, 1114111)] else []
  | f, r :: s => (if f < r.1 then [(f, r.1 - 1)] else []) ++ notGo (r.2 + 1) s
def setNot (s : List Rg) : List Rg := notGo 0 s
theorem notGo_spec : ∀ (s : List Rg) (f : Int), setRight (f - 2) s = true → setRight (f - 2) (notGo f s) = true ∧ ∀ p, hasP (notGo f s) p = (decide (f ≤ p ∧ p ≤ 1114111) && !hasP s p)
  | [], f, _ => by
    rw [notGo]
    split
    · refine ⟨setRight_con.2 ⟨⟨by dsimp only; omega, by dsimp only; omega, by dsimp only; omega⟩, rfl⟩, fun p => ?_⟩
      rw [hasP_cons, hasP_nil, Bool.or_false, Bool.not_false, Bool.and_true]
    · refine ⟨rfl, fun p => ?_⟩
      rw [hasP_nil, decide_eq_false (by omega), Bool.false_and]
  | r :: s, f, h => by
    rw [setRight_con] at h
    obtain ⟨⟨h1, h2, h3⟩, h4⟩ := h
    obtain ⟨i1, i2⟩ := notGo_spec s (r.2 + 1) (setRight_mono (by omega) h4)
    rw [notGo]
    have key : ∀ p, (decide (f ≤ p ∧ p ≤ r.1 - 1) || hasP (notGo (r.2 + 1) s) p) = (decide (f ≤ p ∧ p ≤ 1114111) && !hasP (r :: s) p) := fun p => by
      rw [i2, hasP_cons, Bool.not_or]
      by_cases hp : p ≤ r.2 + 1
      · rw [has_not h4 hp]
        simp only [Bool.not_false, Bool.and_true]
        rw [← Bool.decide_or, ← decide_not, ← Bool.decide_and, decide_eq_decide]
        omega
      · rw [decide_eq_false (p := f ≤ p ∧ p ≤ r.1 - 1) (by omega), decide_eq_false (p := r.1 ≤ p ∧ p ≤ r.2) (by omega), Bool.false_or, Bool.not_false, Bool.true_and]
        congr 1
        rw [decide_eq_decide]; omega
    split
    · refine ⟨?_, fun p => ?_⟩
      · rw [List.singleton_append]
        exact setRight_con.2 ⟨⟨by dsimp only; omega, by dsimp only; omega, by dsimp only; omega⟩, setRight_mono (by dsimp only; omega) i1⟩
      · rw [List.singleton_append, hasP_cons]; exact key p
    · refine ⟨?_, fun p => ?_⟩
      · rw [List.nil_append]
        exact setRight_mono (by omega) i1
      · rw [List.nil_append]
        have := key p
        rwa [decide_eq_false (p := f ≤ p ∧ p ≤ r.1 - 1) (by omega), Bool.false_or] at this
theorem setNot_right {s : List Rg} (h : setRight (-2) s = true) : setRight (-2) (setNot s) = true := (notGo_spec s 0 h).1
theorem setNot_has {s : List Rg} (h : setRight (-2) s = true) (p : Int) : hasP (setNot s) p = (decide (0 ≤ p ∧ p ≤ 1114111) && !hasP s p) := (notGo_spec s 0 h).2 p
def setOr (s t : List Rg) : List Rg := setOf (s ++ t)
def setAnd (s t : List Rg) : List Rg := setNot (setOr (setNot s) (setNot t))
def setLess (s t : List Rg) : List Rg := setAnd s (setNot t)
theorem setOr_right (s t : List Rg) : setRight (-2) (setOr s t) = true := (setOf_spec _).right
theorem in_range {s : List Rg} (h : setRight (-2) s = true) (p : Int) : (decide (0 ≤ p ∧ p ≤ 1114111) && hasP s p) = hasP s p := by
  cases hp : hasP s p with
  | false => rw [Bool.and_false]
  | true => have := has_above h hp; rw [decide_eq_true (by omega)]; rfl
theorem setOr_has {s t : List Rg} (hs : setRight (-2) s = true) (ht : setRight (-2) t = true) (p : Int) : hasP (setOr s t) p = (hasP s p || hasP t p) := by
  rw [show hasP (setOr s t) p = _ from (setOf_spec _).has p]
  unfold inB
  rw [hasP_app, Bool.and_or_distrib_left, in_range hs, in_range ht]
theorem setAnd_right (s t : List Rg) : setRight (-2) (setAnd s t) = true := setNot_right (setOr_right _ _)
theorem setAnd_has {s t : List Rg} (hs : setRight (-2) s = true) (ht : setRight (-2) t = true) (p : Int) : hasP (setAnd s t) p = (hasP s p && hasP t p) := by
  unfold setAnd
  rw [setNot_has (setOr_right _ _), setOr_has (setNot_right hs) (setNot_right ht), setNot_has hs, setNot_has ht, ← in_range hs p, ← in_range ht p]
  cases decide (0 ≤ p ∧ p ≤ 1114111) <;> cases hasP s p <;> cases hasP t p <;> rfl
theorem setLess_right (s t : List Rg) : setRight (-2) (setLess s t) = true := setAnd_right _ _
theorem setLess_has {s t : List Rg} (hs : setRight (-2) s = true) (ht : setRight (-2) t = true) (p : Int) : hasP (setLess s t) p = (hasP s p && !hasP t p) := by
  unfold setLess
  rw [setAnd_has hs (setNot_right ht), setNot_has ht, ← in_range hs p]
  cases decide (0 ≤ p ∧ p ≤ 1114111) <;> cases hasP s p <;> cases hasP t p <;> rfl
theorem setOf_has (l : List Rg) (p : Int) : hasP (setOf l) p = inB l p := (setOf_spec l).has p
theorem setOf_right (l : List Rg) : setRight (-2) (setOf l) = true := (setOf_spec l).right

/-! How long. -/
theorem ofStep_len (out : List Rg) (r : Rg) : (ofStep out r).length ≤ out.length + 1 := by
  unfold ofStep
  split
  · omega
  · split
    · simp
    · split
      · simp only [List.length_append, List.length_dropLast, List.length_cons, List.length_nil]; omega
      · simp
theorem ofFold_len (l : List Rg) : (ofFold l).length ≤ l.length := by
  have key : ∀ (l out : List Rg), (l.foldl ofStep out).length ≤ out.length + l.length := fun l => by
    induction l with
    | nil => intro out; simp
    | cons r l ih =>
      intro out
      rw [List.foldl_cons, List.length_cons]
      have := ih (ofStep out r)
      have := ofStep_len out r
      omega
  have := key l []
  unfold ofFold
  simpa using this
theorem setOf_len (l : List Rg) : (setOf l).length ≤ l.length := by
  have := ofFold_len (l.mergeSort fun a b => decide (a.1 ≤ b.1))
  rwa [List.length_mergeSort] at this
theorem notGo_len : ∀ (s : List Rg) (f : Int), (notGo f s).length ≤ s.length + 1
  | [], f => by rw [notGo]; split <;> simp
  | r :: s, f => by
    rw [notGo, List.length_append, List.length_cons]
    have := notGo_len s (r.2 + 1)
    split <;> simp <;> omega
theorem setNot_len (s : List Rg) : (setNot s).length ≤ s.length + 1 := notGo_len s 0
theorem setOr_len (s t : List Rg) : (setOr s t).length ≤ s.length + t.length := by
  have := setOf_len (s ++ t)
  rwa [List.length_append] at this
theorem setAnd_len (s t : List Rg) : (setAnd s t).length ≤ s.length + t.length + 3 := by
  have h1 := setNot_len (setOr (setNot s) (setNot t))
  have h2 := setOr_len (setNot s) (setNot t)
  have h3 := setNot_len s
  have h4 := setNot_len t
  unfold setAnd
  omega
theorem setLess_len (s t : List Rg) : (setLess s t).length ≤ s.length + t.length + 4 := by
  have h1 := setAnd_len s (setNot t)
  have h2 := setNot_len t
  unfold setLess
  omega
end Cae
