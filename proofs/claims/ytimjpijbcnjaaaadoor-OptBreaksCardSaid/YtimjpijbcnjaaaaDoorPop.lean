import Derived.Test.YtimjpijbcnjaaaaDoorRightb
namespace Go.Proofs.YtimjpijbcnjaaaaDoor
open Go.Vc Go.Proofs Go.RowKit Cae
set_option linter.unusedSimpArgs false
set_option linter.unusedVariables false

/-- No more code that says the same. -/
structure LessOf (c d : CodeP) : Prop where
  cr : CR d
  len : d.ins.length ≤ c.ins.length
  lens : SetsLen d
  acc : ∀ ps, Acc d 0 ps ↔ Acc c 0 ps
theorem LessOf.refl {c : CodeP} (hc : CR c) (hl : SetsLen c) : LessOf c c := ⟨hc, Nat.le_refl _, hl, fun _ => Iff.rfl⟩
theorem LessOf.vm {c d : CodeP} (h : LessOf c d) (hc : CR c) (ps : List Int) : (vmatch d ps).1 = (vmatch c ps).1 := by
  rw [Bool.eq_iff_iff, vmatch_acc h.cr, vmatch_acc hc]
  exact h.acc ps
def neverP : CodeP := ⟨[[]], [⟨1, 0, 0⟩, ⟨5, 0, 0⟩]⟩
theorem never_right : codeRight neverP = true := by decide
theorem never_acc (ps : List Int) : ¬ Acc neverP 0 ps := by
  rw [acc_take (c := neverP) (k := 0) (x := ⟨1, 0, 0⟩) rfl (by decide)]
  rintro ⟨p, r, _, h, _⟩
  exact absurd h (by simp [neverP, hasP])
theorem accN_yes {c : CodeP} (hno : ∀ x ∈ c.ins, x.op ≠ 5) : ∀ (h k : Nat) (ps : List Int), ¬ accN c h k ps
  | 0, k, ps => fun h => h
  | h + 1, k, ps => by
    intro hh
    rw [accN] at hh
    cases hx : c.ins[k]? with
    | none => rw [hx] at hh; exact hh
    | some x =>
      rw [hx] at hh
      dsimp only at hh
      rw [if_neg (hno x (List.mem_of_getElem? hx))] at hh
      by_cases h2 : x.op = 2
      · rw [if_pos h2] at hh
        rcases hh with hh | hh
        · exact accN_yes hno h _ _ hh
        · exact accN_yes hno h _ _ hh
      rw [if_neg h2] at hh
      by_cases h3 : x.op = 3
      · rw [if_pos h3] at hh; exact accN_yes hno h _ _ hh
      rw [if_neg h3] at hh
      by_cases h4 : x.op = 4
      · rw [if_pos h4] at hh; exact accN_yes hno h _ _ hh.2
      rw [if_neg h4] at hh
      cases ps with
      | nil => exact hh
      | cons p r => exact accN_yes hno h _ _ hh.2
theorem LessOf.never {c d : CodeP} (h : LessOf c d) (hno : (d.ins.any fun x => decide (x.op = 5)) = false) (h2 : 2 ≤ c.ins.length) : LessOf c neverP := by
  have hno' : ∀ x ∈ d.ins, x.op ≠ 5 := fun x hx e => by
    rw [List.any_eq_false] at hno
    exact hno x hx (decide_eq_true e)
  refine ⟨CR.of never_right, h2, fun s hs => ?_, fun ps => ⟨fun hh => absurd hh (never_acc ps), fun hh => ?_⟩⟩
  · have : s = [] := by simpa [neverP] using hs
    subst this
    exact Nat.zero_lt_succ _
  · obtain ⟨n, hn⟩ := (h.acc ps).2 hh
    exact absurd hn (accN_yes hno' n 0 ps)
theorem LessOf.thread {c d : CodeP} (h : LessOf c d) : LessOf c (threadedP d) := by
  have ht := threadTo_spec h.cr d.ins.length
  obtain ⟨h1, h2, h3, h4, _⟩ := ht
  refine ⟨h1, by show (threadTo d d.ins.length).ins.length ≤ _; rw [h3]; exact h.len, fun s hs => h.lens s (by have : s ∈ (threadTo d d.ins.length).sets := hs; rwa [h2] at this), fun ps => (h4 0 ps).trans (h.acc ps)⟩
theorem LessOf.lessened {c d : CodeP} (h : LessOf c d) {is : List Bool} (hC : Closed d is) :
    (codeRight (lessP d is) = true → LessOf c (lessP d is)) ∧ (codeRight (lessP d is) = false → LessOf c ⟨(lessP d is).sets, (lessP d is).ins ++ [yesI]⟩) ∧ (lessP d is).ins.length ≤ 2000 ∧ (lessP d is).sets.length ≤ 2000 ∧ SetsLen (lessP d is) := by
  have hr := lessP_right h.cr hC
  obtain ⟨h1, h2, h3, h4⟩ := hr
  have hm := h.cr.many
  have hs := h.cr.sets
  have hlen := h.len
  have hl : SetsLen (lessP d is) := fun s hs => by
    obtain ⟨a, ha, rfl⟩ := List.mem_map.1 (show s ∈ (lessTo d is d.ins.length).used.map (fun a => d.sets.getD a []) from hs)
    have hlt := (lessTo_inv h.cr (is := is) d.ins.length (Nat.le_refl _)).used a ha
    rw [List.getD_eq_getElem?_getD, List.getElem?_eq_getElem hlt]
    exact h.lens _ (List.getElem_mem hlt)
  refine ⟨fun hR => ⟨CR.of hR, by omega, hl, fun ps => ?_⟩, fun hR => ?_, by omega, by omega, hl⟩
  · have := lessP_acc h.cr hC [] 0 hC.zero ps
    rw [List.append_nil] at this
    exact this.symm.trans (h.acc ps)
  · rcases h4 with h4 | ⟨_, h5, h6⟩
    · rw [hR] at h4; cases h4
    · refine ⟨h6, by simp only [List.length_append, List.length_cons, List.length_nil]; omega, hl, fun ps => ?_⟩
      exact (lessP_acc h.cr hC [yesI] 0 hC.zero ps).symm.trans (h.acc ps)
theorem LessOf.one {c d : CodeP} (h : LessOf c d) (hc : c.ins.length = 1) (hy : Acc c 0 []) : d.ins = [⟨5, 0, 0⟩] := by
  have h1 := h.cr.one
  have h2 := h.len
  match hd : d.ins with
  | [] => rw [hd] at h1; simp at h1
  | [x] =>
    have hx : d.ins[0]? = some x := by rw [hd]; rfl
    have hlen : d.ins.length = 1 := by rw [hd]; rfl
    have hin := insRight_cases (h.cr.ins 0 x hx)
    have hacc := (h.acc []).2 hy
    obtain ⟨n, hn⟩ := hacc
    have hnx := h.cr.next 0 x hx
    by_cases h5 : x.op = 5
    · rcases hin with ⟨e, _⟩ | ⟨e, _⟩ | ⟨e, _⟩ | ⟨e, g1, g2⟩
      · omega
      · omega
      · omega
      · obtain ⟨o, a, b⟩ := x
        simp only at h5 g1 g2
        subst h5 g1 g2
        rfl
    · exact absurd hn (accN_yes (fun y hy => by rw [hd] at hy; simp at hy; subst hy; exact h5) n 0 [])
  | x :: y :: l => rw [hd] at h2; simp at h2; omega

end Go.Proofs.YtimjpijbcnjaaaaDoor
