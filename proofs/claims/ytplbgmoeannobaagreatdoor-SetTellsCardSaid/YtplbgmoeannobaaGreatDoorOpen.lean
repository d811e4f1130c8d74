import Derived.Test.YtplbgmoeannobaaGreatDoorV
import Derived.WalkKit
import Derived.ProofKit
import Derived.Handy
import Derived.OpenShut
import Derived.LaidMore
import Derived.Deep.Strs
set_option linter.unusedSimpArgs false
set_option linter.unusedVariables false
namespace Go.Vc
open Go.RowKit

theorem exists_list {α : Type} (Pr : Nat → α → Prop) : ∀ n, (∀ i, i < n → ∃ x, Pr i x) → ∃ l : List α, l.length = n ∧ ∀ i x, l[i]? = some x → Pr i x
  | 0, _ => ⟨[], rfl, fun i x h => by simp at h⟩
  | n + 1, h => by
    obtain ⟨l, hl, hp⟩ := exists_list Pr n (fun i hi => h i (by omega))
    obtain ⟨y, hy⟩ := h n (by omega)
    refine ⟨l ++ [y], by simp [hl], fun i x hx => ?_⟩
    rcases Nat.lt_trichotomy i n with hlt | heq | hgt
    · rw [List.getElem?_append_left (by omega)] at hx
      exact hp i x hx
    · subst heq
      rw [List.getElem?_append_right (by omega), hl, Nat.sub_self] at hx
      simp at hx; subst hx; exact hy
    · rw [List.getElem?_eq_none (by simp [hl]; omega)] at hx; cases hx

theorem mapM_cells {w : World} {a : Addr} : ∀ (n s : Nat) (cs : List Value), ((List.range' s n).mapM fun i => w.cell? (a.add i)) = some cs → cs.length = n ∧ ∀ j u, cs[j]? = some u → w.cell? (a.add (s + j)) = some u
  | 0, s, cs, h => by
    simp at h; subst h
    exact ⟨rfl, fun j u hu => by simp at hu⟩
  | n + 1, s, cs, h => by
    rw [List.range'_succ, List.mapM_cons] at h
    cases hc : w.cell? (a.add s) with
    | none => simp [hc] at h
    | some c =>
      rw [hc] at h
      simp only [Option.pure_def, Option.bind_eq_bind, Option.bind_some] at h
      cases hr : (List.range' (s + 1) n).mapM fun i => w.cell? (a.add i) with
      | none => simp [hr] at h
      | some r =>
        rw [hr] at h
        simp only [Option.bind_some, Option.some.injEq] at h
        subst h
        obtain ⟨h1, h2⟩ := mapM_cells n (s + 1) r hr
        refine ⟨by simp [h1], fun j u hu => ?_⟩
        cases j with
        | zero => simp at hu; subst hu; exact hc
        | succ j =>
          have := h2 j u (by simpa using hu)
          rwa [show s + 1 + j = s + (j + 1) by omega] at this

theorem cells_open {w : World} {base : Nat} {a : Addr} {n : Nat} {cs : List Value} (h : w.cells? base a n = some cs) : cs.length = n ∧ ∀ j u, cs[j]? = some u → w.cell? (a.add j) = some u := by
  unfold World.cells? at h
  split at h
  · rw [List.range_eq_range'] at h
    obtain ⟨h1, h2⟩ := mapM_cells n 0 cs h
    exact ⟨h1, fun j u hu => by simpa using h2 j u hu⟩
  · cases h

theorem open_slice {H : Type} {enc : TypeId × Value → H} {P : Program} {W : World} {base : Nat} {sp : Nat → Bool} {held : Bool} {α : Type} {t e : TypeId} {k : Nat} {R : List Value → α → Prop} (ht : P.underlying t = some (.slice e)) (hc : P.cellsOf e = k) (hk : 0 < k)
    {fuel : Nat} {cs : List Value} {x : DataW H × List MemPlace} (h : DataW.trod enc P W base sp held fuel t cs = some x) (hel : ∀ n cs y, cs.length = k → DataW.trod enc P W base sp held n e cs = some y → ∃ x, R cs x) :
    ∃ v l, cs = [v] ∧ Sl (fun _ => False) k R W v l := by
  rcases DataW.trod_slice ht h with ⟨rfl, _⟩ | ⟨a, len, cap, elems, rest, n, _, rfl, _, _, hlc, _, hlen, he, _⟩
  · exact ⟨_, [], rfl, Sl.nil _ _ _ _ _ _⟩
  · obtain ⟨l, hl, hp⟩ := exists_list (fun i (x : α) => ∃ ci : List Value, ci.length = k ∧ (∀ j u, ci[j]? = some u → W.cell? ((a.add (i * k)).add j) = some u) ∧ R ci x) len (fun i hi => by
      have hE := he i hi
      rw [hc] at hE
      have hs : elems[i]? = some elems[i] := List.getElem?_eq_getElem (by omega)
      rw [hs] at hE
      obtain ⟨ci, h1, h2⟩ := Option.bind_eq_some_iff.1 hE
      obtain ⟨h3, h4⟩ := cells_open h1
      obtain ⟨x, hx⟩ := hel n ci _ h3 h2
      exact ⟨x, ci, h3, h4, hx⟩)
    refine ⟨_, l, rfl, some a, cap, by rw [hl], by omega, fun i x hx => ?_⟩
    obtain ⟨ci, h1, h2, h3⟩ := hp i x hx
    have hi0 := (List.getElem?_eq_some_iff.1 hx).1
    obtain ⟨c0, g1, g2, _⟩ := hp 0 l[0] (List.getElem?_eq_getElem (by omega))
    have h0 := g2 0 c0[0] (List.getElem?_eq_getElem (by omega))
    obtain ⟨b, o, spot⟩ := a
    have hsp : spot = none := by
      have := World.cell?_spot h0
      rw [Nat.zero_mul] at this
      simpa [Addr.add] using this
    subst hsp
    exact ⟨b, o, ci, rfl, id, h1, fun j u hu => by have := h2 j u hu; rwa [add_lit, add_lit] at this, h3⟩

theorem cells_agg {v : Value} {n : Nat} (hn : n ≠ 1) (h : v.cells.toList.length = n) : ∃ cs : List Value, v = .agg cs.toArray ∧ v.cells.toList = cs := by
  cases v <;> first | (exact absurd h (by simp [Value.cells]; omega)) | skip
  rename_i cs
  exact ⟨cs.toList, by simp, rfl⟩
end Go.Vc
