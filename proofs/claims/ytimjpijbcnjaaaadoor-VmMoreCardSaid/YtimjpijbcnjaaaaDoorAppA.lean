import Derived.Test.YtimjpijbcnjaaaaDoorVf
import Derived.Laws.OwnMore
set_option linter.unusedSimpArgs false
set_option linter.unusedVariables false
namespace Go.Vc
open Go.RowKit
section
variable {P : Program} {t : Fr} {w : World} {K : VK} {Q : EP}

/-- Appending what a slice reads as. -/
theorem appendAny {α : Type} {bt ty e : TypeId} {k bytes base : Nat} {enc : α → List Value} {X : Nat → Prop} {v x : Value} {l ys : List α} {p} (hE : elI P bt = some (e, k, bytes)) (hown : Own base e k enc w v l) (hx : Sl X k (En enc) w x ys)
    (hnil : ∀ n c, x = .slice none n c → n = 0 ∧ c = 0) (h1 : ∀ x, ∀ u ∈ enc x, u.oneCell' = true)
    (hm : (l.length + ys.length) * bytes ≤ 140737488355328) (hbase : base ≤ w.heap.size)
    (kk : ∀ v' w', Own base e k enc w' v' (l ++ ys) → w.grownBy w' v.ownBlock → Below base w w' → K v' w') : valK P (Builtin.append_ #[bt, bt] ty [v, x].toArray) t w K Q p := by
  obtain ⟨hu, i, z, hi, hz, rfl, rfl, hzs, hk, hby⟩ := elI_spec hE
  have hlen : ∀ (ys : List α), (ys.flatMap enc).length = ys.length * i.size := by
    intro ys
    induction ys with
    | nil => simp
    | cons y ys ih => simp [List.flatMap_cons, hown.2, ih, Nat.add_mul]; omega
  have hle : l.length + ys.length ≤ 140737488355328 := Nat.le_trans (Nat.le_mul_of_pos_right _ hby) hm
  unfold Sl at hx
  obtain ⟨a, c, rfl, hc, hel⟩ := hx
  cases a with
  | none =>
    obtain ⟨h0, rfl⟩ := hnil _ _ rfl
    have : ys = [] := List.eq_nil_of_length_eq_zero h0
    subst this
    have hr := run_append_owned_none (P := P) w base bt ty e i i.size hu hi v l.length (l.flatMap enc) hown.1
    refine valK_of (w' := w) (v := v) hr (kk v w (by rw [List.append_nil]; exact hown) ⟨rfl, rfl, rfl, Nat.le_refl _, fun _ _ _ => rfl⟩ (Below.refl _ _))
  | some ad =>
    have hy : ∀ j u, (ys.flatMap enc)[j]? = some u → w.cell? (ad.add j) = some u := by
      intro j u hj
      have hjl := (List.getElem?_eq_some_iff.1 hj).1
      rw [hlen] at hjl
      have hq : j / i.size < ys.length := Nat.div_lt_of_lt_mul (by rw [Nat.mul_comm]; exact hjl)
      have hy0 : ys[j / i.size]? = some ys[j / i.size] := List.getElem?_eq_getElem hq
      obtain ⟨b, o, cs, hb, _, hcs, hcell, rfl⟩ := hel _ _ hy0
      cases hb
      have hr : j % i.size < (enc ys[j / i.size]).length := by rw [hcs]; exact Nat.mod_lt _ hk
      have hg := flatMap_get hown.2 ys (j / i.size) (j % i.size) _ _ hy0 (List.getElem?_eq_getElem hr)
      have ej : j / i.size * i.size + j % i.size = j := by rw [Nat.mul_comm]; exact Nat.div_add_mod j i.size
      rw [ej, hj] at hg
      have := hcell _ _ (List.getElem?_eq_getElem hr)
      rw [add_lit]
      rw [Nat.add_assoc, ej] at this
      rw [this, hg]
    obtain ⟨v', w', hr, ho, hg, _⟩ := run_append_own (P := P) w base bt ty e i z i.size i.bytes hu hi hz rfl rfl hzs hk v l.length (l.flatMap enc) hown.1 ad ys.length c (ys.flatMap enc) (hlen ys)
      hy (fun u hu' => by obtain ⟨x, _, hx⟩ := List.mem_flatMap.1 hu'; exact h1 x u hx) (by simp only [maxLen]; omega) hm hbase
    refine valK_of hr (kk v' w' ⟨by simpa [List.flatMap_append] using ho, hown.2⟩ hg ?_)
    exact (Below.refl _ _).grown hg hbase fun k hk => (hown.1.lt k hk).1
end
end Go.Vc
