import Derived.Test.YtimjpijbcnjaaaaDoorPvm
set_option linter.unusedSimpArgs false
set_option linter.unusedVariables false
namespace Cae

/-- How many are looked at. -/
def stepsOf : Lk → Nat
  | .yes st => st
  | .no _ _ st => st
theorem inner_ge {c : CodeP} {cur : Option Int} : ∀ (f : Nat) (q : List Nat) (k : Nat) (nx : List Nat) (st : Nat), st ≤ stepsOf (inner c cur f q k nx st)
  | 0, _, _, _, st => Nat.le_refl _
  | f + 1, q, k, nx, st => by
    rw [inner]
    split
    · exact Nat.le_refl _
    · split
      · exact Nat.le_refl _
      · split
        · simp only [stepsOf]; omega
        · exact Nat.le_trans (Nat.le_succ _) (inner_ge f _ (k + 1) _ (st + 1))
theorem inner_le {c : CodeP} (hc : CR c) {cur : Option Int} : ∀ (f : Nat) (q : List Nat) (k : Nat) (nx : List Nat) (st : Nat), Places c.ins.length q → Places c.ins.length nx →
    stepsOf (inner c cur f q k nx st) ≤ st + (c.ins.length - k)
  | 0, _, _, _, st, _, _ => by simp only [inner, stepsOf]; omega
  | f + 1, q, k, nx, st, hq, hn => by
    rw [inner]
    split
    · simp only [stepsOf]; omega
    · rename_i at_ hat
      have hlt := (List.getElem?_eq_some_iff.1 hat).1
      have := hq.len
      split
      · simp only [stepsOf]; omega
      · rename_i x hx
        split
        · simp only [stepsOf]; omega
        · rename_i h5
          obtain ⟨h1, h2⟩ := exec1_places hc (cur := cur) hx h5 hq hn
          have := inner_le hc (cur := cur) f _ (k + 1) _ (st + 1) h1 h2
          omega
theorem outer_le {c : CodeP} (hc : CR c) : ∀ (ps : List Int) (q : List Nat) (st : Nat), Places c.ins.length q → (outer c ps q st).2 ≤ st + c.ins.length * (ps.length + 1)
  | [], q, st, hq => by
    have h := inner_le hc (cur := none) (c.ins.length + 1) q 0 [] st hq (Places.nil _)
    rw [outer]
    split
    · rename_i st' e; rw [e] at h; simpa [stepsOf] using h
    · rename_i st' e; rw [e] at h; simpa [stepsOf] using h
  | p :: ps, q, st, hq => by
    have h := inner_le hc (cur := some p) (c.ins.length + 1) q 0 [] st hq (Places.nil _)
    have hm : c.ins.length * ((p :: ps).length + 1) = c.ins.length * (ps.length + 1) + c.ins.length := by rw [List.length_cons, Nat.mul_add, Nat.mul_one]
    rw [outer, hm]
    split
    · rename_i st' e; rw [e] at h; simp only [stepsOf] at h; omega
    · rename_i q' nx st' e
      have hnx := (inner_places hc _ _ _ _ _ hq (Places.nil _) _ _ _ e).2
      rw [e] at h
      simp only [stepsOf] at h
      split
      · simp only; omega
      · have := outer_le hc ps nx st' hnx
        omega
theorem outer_ge {c : CodeP} : ∀ (ps : List Int) (q : List Nat) (st : Nat), st ≤ (outer c ps q st).2
  | [], q, st => by
    have h := inner_ge (c := c) (cur := none) (c.ins.length + 1) q 0 [] st
    rw [outer]
    split
    · rename_i st' e; rw [e] at h; exact h
    · rename_i st' e; rw [e] at h; exact h
  | p :: ps, q, st => by
    have h := inner_ge (c := c) (cur := some p) (c.ins.length + 1) q 0 [] st
    rw [outer]
    split
    · rename_i st' e; rw [e] at h; exact h
    · rename_i q' nx st' e
      rw [e] at h
      simp only [stepsOf] at h
      split
      · exact h
      · exact Nat.le_trans h (outer_ge ps nx st')
theorem vmatch_le {c : CodeP} (hc : CR c) (ps : List Int) : (vmatch c ps).2 ≤ c.ins.length * (ps.length + 1) := by
  have := outer_le hc ps [0] 0 (Places.one (by have := hc.one; omega))
  unfold vmatch
  omega
theorem inner_first {c : CodeP} (hc : CR c) (cur : Option Int) : 1 ≤ stepsOf (inner c cur (c.ins.length + 1) [0] 0 [] 0) := by
  have hone := hc.one
  rw [inner]
  simp only [List.getElem?_cons_zero]
  rw [List.getElem?_eq_getElem (show 0 < c.ins.length by omega)]
  simp only
  split
  · simp [stepsOf]
  · exact inner_ge _ _ _ _ 1
theorem vmatch_ge {c : CodeP} (hc : CR c) (ps : List Int) : 1 ≤ (vmatch c ps).2 := by
  unfold vmatch
  cases ps with
  | nil =>
    have h := inner_first hc none
    rw [outer]
    split
    · rename_i st' e; rw [e] at h; exact h
    · rename_i st' e; rw [e] at h; exact h
  | cons p ps =>
    have h := inner_first hc (some p)
    rw [outer]
    split
    · rename_i st' e; rw [e] at h; exact h
    · rename_i q' nx st' e
      rw [e] at h
      simp only [stepsOf] at h
      split
      · exact h
      · exact Nat.le_trans h (outer_ge ps nx st')

/-- Without End: who matches at the end matches ahead of more. -/
theorem inner_noend {c : CodeP} (he : ∀ x ∈ c.ins, x.op ≠ 4) (p : Int) : ∀ (f : Nat) (q : List Nat) (k : Nat) (nx nx' : List Nat) (st st' s : Nat), inner c none f q k nx st = .yes s → ∃ s', inner c (some p) f q k nx' st' = .yes s'
  | 0, q, k, nx, nx', st, st', s, h => by rw [inner] at h; cases h
  | f + 1, q, k, nx, nx', st, st', s, h => by
    rw [inner] at h
    rw [inner]
    cases hq : q[k]? with
    | none => rw [hq] at h; cases h
    | some at_ =>
      rw [hq] at h
      simp only at h ⊢
      cases hx : c.ins[at_]? with
      | none => rw [hx] at h; cases h
      | some x =>
        rw [hx] at h
        simp only at h ⊢
        by_cases h5 : x.op = 5
        · rw [if_pos h5]; exact ⟨_, rfl⟩
        · rw [if_neg h5] at h ⊢
          have h4 := he x (List.mem_of_getElem? hx)
          have e1 : (exec1 c (some p) x at_ q nx').1 = (exec1 c none x at_ q nx).1 := by
            unfold exec1
            split
            · rfl
            · split
              · rfl
              · simp only [if_neg h4]
          rw [e1]
          exact inner_noend he p f _ _ _ _ _ _ s h
theorem inner_nx {c : CodeP} {cur : Option Int} : ∀ (f : Nat) (q : List Nat) (k : Nat) (nx : List Nat) (st st' : Nat), (∀ s, inner c cur f q k nx st = .yes s → ∃ s', inner c cur f q k nx st' = .yes s') ∧
    (∀ a b s, inner c cur f q k nx st = .no a b s → ∃ s', inner c cur f q k nx st' = .no a b s')
  | 0, q, k, nx, st, st' => ⟨fun s h => (by rw [inner] at h; cases h), fun a b s h => (by rw [inner] at h ⊢; cases h; exact ⟨_, rfl⟩)⟩
  | f + 1, q, k, nx, st, st' => by
    rw [inner, inner]
    cases hq : q[k]? with
    | none => exact ⟨fun s h => (by cases h), fun a b s h => (by cases h; exact ⟨_, rfl⟩)⟩
    | some at_ =>
      simp only
      cases hx : c.ins[at_]? with
      | none => exact ⟨fun s h => (by cases h), fun a b s h => (by cases h; exact ⟨_, rfl⟩)⟩
      | some x =>
        simp only
        by_cases h5 : x.op = 5
        · rw [if_pos h5, if_pos h5]; exact ⟨fun s h => ⟨_, rfl⟩, fun a b s h => (by cases h)⟩
        · rw [if_neg h5, if_neg h5]; exact inner_nx f _ _ _ _ _
theorem outer_more {c : CodeP} (he : ∀ x ∈ c.ins, x.op ≠ 4) (more : List Int) : ∀ (ps : List Int) (q : List Nat) (st st' : Nat), (outer c ps q st).1 = true → (outer c (ps ++ more) q st').1 = true
  | [], q, st, st', h => by
    rw [outer] at h
    cases hi : inner c none (c.ins.length + 1) q 0 [] st with
    | no a b s => rw [hi] at h; cases h
    | yes s =>
      cases more with
      | nil =>
        obtain ⟨s', e⟩ := (inner_nx (c := c) (cur := none) (c.ins.length + 1) q 0 [] st st').1 s hi
        rw [List.append_nil, outer, e]
      | cons p r =>
        obtain ⟨s', e⟩ := inner_noend he p (c.ins.length + 1) q 0 [] [] st st' s hi
        rw [List.nil_append, outer, e]
  | p :: ps, q, st, st', h => by
    rw [outer] at h
    rw [List.cons_append, outer]
    cases hi : inner c (some p) (c.ins.length + 1) q 0 [] st with
    | yes s =>
      obtain ⟨s', e⟩ := (inner_nx (c := c) (cur := some p) (c.ins.length + 1) q 0 [] st st').1 s hi
      rw [e]
    | no a nx s =>
      obtain ⟨s', e⟩ := (inner_nx (c := c) (cur := some p) (c.ins.length + 1) q 0 [] st st').2 a nx s hi
      rw [hi] at h
      rw [e]
      simp only at h ⊢
      split at h
      · cases h
      · rename_i hnx
        rw [if_neg hnx]
        exact outer_more he more ps nx s s' h
theorem vmatch_more {c : CodeP} (he : ∀ x ∈ c.ins, x.op ≠ 4) (ps more : List Int) (h : (vmatch c ps).1 = true) : (vmatch c (ps ++ more)).1 = true := outer_more he more ps [0] 0 0 h
end Cae
