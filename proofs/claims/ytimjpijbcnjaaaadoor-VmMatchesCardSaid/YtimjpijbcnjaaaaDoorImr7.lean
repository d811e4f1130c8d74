import Derived.Test.YtimjpijbcnjaaaaDoorImr6
namespace Go.Proofs.YtimjpijbcnjaaaaDoor
open Go.Vc Go.Proofs Go.RowKit Cae
set_option maxRecDepth 100000
set_option linter.unusedSimpArgs false
set_option linter.unusedVariables false
attribute [local irreducible] wpL callK valK unitK runK Fun Sl Own vc vcOps opK pureK
set_option maxHeartbeats 16000000

theorem tnumA_most (most : Nat) (bad : Bool) (full : List UInt8) : ∀ (s : List UInt8) (i n : Nat), (tnumA most bad full i n s).2.bad = true ∨ (tnumA most bad full i n s).1 ≤ most
  | [], _, _ => .inl (by rw [tnumA])
  | c :: r, i, n => by
    rw [tnumA]
    split
    · exact .inl rfl
    · split
      · rcases Nat.lt_or_ge most (n + c.toNat * 128 ^ i) with h | h
        · exact .inl (by simp [h])
        · exact .inr h
      · exact tnumA_most most bad full r _ _
theorem tmany_len {α : Type} {f : St → α × St} (most : Nat) (x : St) : (tlist f (tnum most x).1 (tnum most x).2).1.length ≤ most := by
  have hlen : ∀ (n : Nat) (y : St), (tlist f n y).1.length ≤ n := by
    intro n
    induction n with
    | zero => intro y; simp [tlist]
    | succ n ih =>
      intro y
      rw [tlist]
      split
      · simp
      · have := ih (f y).2
        simp only [List.length_cons]; omega
  rcases tnumA_most most x.bad x.s x.s 0 0 with h | h
  · have : tlist f (tnum most x).1 (tnum most x).2 = ([], (tnum most x).2) := by
      cases hn : (tnum most x).1 with
      | zero => rfl
      | succ n => rw [tlist, if_pos (by unfold tnum; exact h)]
    rw [this]; exact Nat.zero_le _
  · exact Nat.le_trans (hlen _ _) h
theorem tlist_all {α : Type} {f : St → α × St} : ∀ (n : Nat) (x : St) (v : α), v ∈ (tlist f n x).1 → ∃ y : St, v = (f y).1
  | 0, x, v, h => by simp [tlist] at h
  | n + 1, x, v, h => by
    rw [tlist] at h
    split at h
    · cases h
    · rcases List.mem_cons.1 h with h | h
      · exact ⟨x, h⟩
      · exact tlist_all n _ v h
theorem tcode_lens (x : St) : (tcode x).1.sets.length ≤ 2000 ∧ (tcode x).1.ins.length ≤ 2000 ∧ ∀ s ∈ (tcode x).1.sets, s.length ≤ 4194304 := by
  refine ⟨tmany_len (f := tset) 2000 x, tmany_len (f := tins) 2000 (tsets x).2, fun s hs => ?_⟩
  obtain ⟨y, rfl⟩ := tlist_all _ _ s hs
  exact tmany_len (f := trange) 4194304 y
theorem tprog_lens (x : St) : (tprog x).1.rules.length ≤ 20 ∧ ∀ r ∈ (tprog x).1.rules, ∃ y z : St, r.before = (tcode y).1 ∧ r.after = (tcode z).1 := by
  refine ⟨tmany_len (f := tpair) 20 (tbit x).2, fun r hr => ?_⟩
  obtain ⟨y, rfl⟩ := tlist_all _ _ r hr
  exact ⟨_, _, rfl, rfl⟩
theorem tprog_len (x : St) : ProgLen (tprog x).1 := by
  obtain ⟨h1, h2⟩ := tprog_lens x
  have hc : ∀ y, CodeLen (tcode y).1 := fun y => by
    obtain ⟨g1, g2, g3⟩ := tcode_lens y
    exact ⟨fun s hs => by have := g3 s hs; omega, by omega, by omega⟩
  refine ⟨by omega, fun r hr => ?_⟩
  obtain ⟨y, z, e1, e2⟩ := h2 r hr
  rw [e1, e2]
  exact ⟨hc y, hc z⟩
theorem flat_boundR {α : Type} {f : α → List UInt8} {k : Nat} : ∀ (l : List α), (∀ x ∈ l, (f x).length ≤ k) → (l.flatMap f).length ≤ l.length * k
  | [], _ => by simp
  | x :: l, h => by
    have h1 := h x (by simp)
    have h2 := flat_boundR l (fun y hy => h y (by simp [hy]))
    simp only [List.flatMap_cons, List.length_append, List.length_cons, Nat.add_mul]
    omega
theorem code_bytes {c : CodeP} (h1 : c.sets.length ≤ 2000) (h2 : c.ins.length ≤ 2000) (h3 : ∀ s ∈ c.sets, s.length ≤ 4194304) (hr : codeRight c = true) : (codeB c).length ≤ 83886126000 := by
  have e1 : (c.sets.flatMap setB).length ≤ c.sets.length * 41943045 := flat_boundR _ fun s hs => by
    have := flat_boundR (f := rangeB) (k := 10) s (fun r hrm => by
      obtain ⟨g1, g2⟩ := range_small hr hs hrm
      have := numB_five (n := r.1.toNat) (by omega)
      have := numB_five (n := r.2.toNat) (by omega)
      simp only [rangeB, List.length_append]; omega)
    have := h3 s hs
    have := numB_five (n := s.length) (by omega)
    simp only [setB, List.length_append]; omega
  have e2 : (c.ins.flatMap insB).length ≤ c.ins.length * 15 := flat_boundR _ fun x hx => by
    obtain ⟨g1, g2, g3⟩ := ins_small hr hx
    have := numB_five (n := x.op.toNat) (by omega)
    have := numB_five (n := x.a.toNat) (by omega)
    have := numB_five (n := x.b.toNat) (by omega)
    simp only [insB, List.length_append]; omega
  have := numB_five (n := c.sets.length) (by omega)
  have := numB_five (n := c.ins.length) (by omega)
  simp only [codeB, List.length_append]; omega
theorem tprog_bytes (x : St) (hr : progRight (tprog x).1 = true) : (progB (tprog x).1).length < 9000000000000 := by
  obtain ⟨h1, h2⟩ := tprog_lens x
  obtain ⟨_, h3⟩ := progRight_spec hr
  have e1 : ((tprog x).1.rules.flatMap pairB).length ≤ (tprog x).1.rules.length * 167772252001 := flat_boundR _ fun r hrm => by
    obtain ⟨y, z, e1, e2⟩ := h2 r hrm
    obtain ⟨k1, k2⟩ := h3 r hrm
    have hy := tcode_lens y
    have hz := tcode_lens z
    rw [← e1] at hy
    rw [← e2] at hz
    have := code_bytes hy.1 hy.2.1 hy.2.2 k1
    have := code_bytes hz.1 hz.2.1 hz.2.2 k2
    simp only [pairB, bitB, List.length_append, List.length_cons, List.length_nil]; omega
  have := numB_five (n := (tprog x).1.rules.length) (by omega)
  simp only [progB, bitB, List.length_append, List.length_cons, List.length_nil]; omega
theorem tbit_len (x : St) : (tbit x).2.s.length ≤ x.s.length := tnum_len 1 x
theorem tshr_pair : Shr tpair := fun x => by
  have h1 := tbit_len x
  have h2 := tshr_code (tbit x).2
  have h3 := tshr_code (tcode (tbit x).2).2
  unfold tpair
  generalize tbit x = y at h1 h2 h3 ⊢
  generalize tcode y.2 = y2 at h2 h3 ⊢
  exact Nat.le_trans h3 (Nat.le_trans h2 h1)
end Go.Proofs.YtimjpijbcnjaaaaDoor
