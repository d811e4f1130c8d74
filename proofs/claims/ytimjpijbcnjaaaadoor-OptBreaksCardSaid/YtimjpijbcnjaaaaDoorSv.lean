import Derived.Test.YtimjpijbcnjaaaaDoorImg5
namespace Go.Proofs.YtimjpijbcnjaaaaDoor
open Go.Vc Go.Proofs Go.RowKit Cae

theorem SetsV.values {X : Nat → Prop} {w : World} {v : Value} {l : List (List Rg)} (h : SetsV X w v l) : ∃ us : List SV, us.length = l.length ∧ Sl X 1 (En encSV) w v us ∧ ∀ (i : Nat) (u : SV) (s : List Rg), us[i]? = some u → l[i]? = some s → Sl X 2 (En encR) w u.v s := by
  have h0 := h.shape
  obtain ⟨a, c, rfl, hc⟩ := h0
  have hall : ∀ (i : Nat) (s : List Rg), l[i]? = some s → ∃ u : SV, Sl X 2 (En encR) w u.v s ∧ ∃ b o, a = some ⟨b, o, none⟩ ∧ ¬ X b ∧ w.cell? ⟨b, o + i, none⟩ = some u.v := fun i s hs => by
    obtain ⟨b, o, cs, e, hX, hcs, hcell, u, rfl, hu⟩ := h.getR hs
    obtain ⟨a', c', rfl, _⟩ := hu.shape
    refine ⟨⟨a', s.length, c'⟩, hu, b, o, e, hX, ?_⟩
    have := hcell 0 _ rfl
    rw [Nat.mul_one, Nat.add_zero] at this
    rw [this]; rfl
  have hex : ∃ us : List SV, us.length = l.length ∧ ∀ (i : Nat) (s : List Rg), l[i]? = some s → ∃ u, us[i]? = some u ∧ Sl X 2 (En encR) w u.v s ∧ ∃ b o, a = some ⟨b, o, none⟩ ∧ ¬ X b ∧ w.cell? ⟨b, o + i, none⟩ = some u.v := by
    have key : ∀ n, n ≤ l.length → ∃ us : List SV, us.length = n ∧ ∀ (i : Nat) (s : List Rg), i < n → l[i]? = some s → ∃ u, us[i]? = some u ∧ Sl X 2 (En encR) w u.v s ∧ ∃ b o, a = some ⟨b, o, none⟩ ∧ ¬ X b ∧ w.cell? ⟨b, o + i, none⟩ = some u.v := fun n hn => by
      induction n with
      | zero => exact ⟨[], rfl, fun i s hi => absurd hi (by omega)⟩
      | succ n ih =>
        obtain ⟨us, hl, hus⟩ := ih (by omega)
        obtain ⟨u, hu⟩ := hall n _ (List.getElem?_eq_getElem (by omega))
        refine ⟨us ++ [u], by simp [hl], fun i s hi hs => ?_⟩
        by_cases e : i = n
        · subst e
          rw [List.getElem?_eq_getElem (by omega)] at hs
          cases hs
          exact ⟨u, by rw [List.getElem?_append_right (by omega), hl, Nat.sub_self]; rfl, hu⟩
        · obtain ⟨u', h1, h2⟩ := hus i s (by omega) hs
          exact ⟨u', by rw [List.getElem?_append_left (by omega)]; exact h1, h2⟩
    obtain ⟨us, h1, h2⟩ := key l.length (Nat.le_refl _)
    exact ⟨us, h1, fun i s hs => h2 i s (List.getElem?_eq_some_iff.1 hs).1 hs⟩
  obtain ⟨us, hl, hus⟩ := hex
  refine ⟨us, hl, ⟨a, c, by rw [hl], by omega, fun i u hu => ?_⟩, fun i u s hu hs => ?_⟩
  · have hlt := (List.getElem?_eq_some_iff.1 hu).1
    obtain ⟨u', h1, h2, b, o, e, hX, hcell⟩ := hus i _ (List.getElem?_eq_getElem (by omega))
    rw [hu] at h1; cases h1
    refine ⟨b, o, [u.v], e, hX, rfl, fun j x hx => ?_, rfl⟩
    cases j with
    | zero => simp at hx; subst hx; rw [Nat.mul_one, Nat.add_zero]; exact hcell
    | succ j => simp at hx
  · obtain ⟨u', h1, h2, _⟩ := hus i s hs
    rw [hu] at h1; cases h1
    exact h2
theorem SetsV.of_values {X : Nat → Prop} {w : World} {v : Value} {l : List (List Rg)} {us : List SV} (hl : us.length = l.length) (h : Sl X 1 (En encSV) w v us) (hu : ∀ (i : Nat) (u : SV) (s : List Rg), us[i]? = some u → l[i]? = some s → Sl X 2 (En encR) w u.v s) : SetsV X w v l := by
  obtain ⟨a, c, rfl, hc⟩ := h.shape
  refine ⟨a, c, by rw [hl], by omega, fun i s hs => ?_⟩
  have hlt := (List.getElem?_eq_some_iff.1 hs).1
  have hx := List.getElem?_eq_getElem (l := us) (i := i) (by omega)
  obtain ⟨b, o, cs, e, hX, hcs, hcell, rfl⟩ := h.getR hx
  exact ⟨b, o, _, e, hX, hcs, hcell, _, rfl, hu i _ s hx hs⟩

end Go.Proofs.YtimjpijbcnjaaaaDoor
