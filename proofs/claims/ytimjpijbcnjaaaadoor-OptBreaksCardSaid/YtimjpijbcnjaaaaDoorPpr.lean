import Derived.Test.YtimjpijbcnjaaaaDoorPop
import Derived.Test.YtimjpijbcnjaaaaDoorImg3
namespace Go.Proofs.YtimjpijbcnjaaaaDoor
open Go.Vc Go.Proofs Go.RowKit Cae
set_option linter.unusedSimpArgs false
set_option linter.unusedVariables false

/-! A program of no more rules, and no more code. -/
def saysL (els : Bool) (ps : List Int) (i : Nat) (l : List PairP) : Bool := l.foldr (fun r acc => if ruleMet ps i r then r.brk else acc) els
theorem says_eq (p : ProgP) (ps : List Int) (i : Nat) : saysFrom p ps i 0 = saysL p.els ps i p.rules := by unfold saysFrom saysL; rw [List.drop_zero]
theorem saysL_app (els : Bool) (ps : List Int) (i : Nat) (a b : List PairP) : saysL els ps i (a ++ b) = saysL (saysL els ps i b) ps i a := by unfold saysL; rw [List.foldr_append]
theorem saysL_cons (els : Bool) (ps : List Int) (i : Nat) (r : PairP) (l : List PairP) : saysL els ps i (r :: l) = if ruleMet ps i r then r.brk else saysL els ps i l := rfl
theorem breaks_same {p : ProgP} {out : List PairP} (h : ∀ ps i, saysL p.els ps i p.rules = saysL p.els ps i out) (ps : List Int) : breaksP ⟨out, p.els⟩ ps = breaksP p ps := by
  unfold breaksP breaksTo
  congr 2
  funext i
  unfold isBreak
  rw [says_eq, says_eq, h]
def sizeL : List PairP → Nat
  | [] => 0
  | r :: l => r.before.ins.length + r.after.ins.length + sizeL l
theorem sizeL_app : ∀ (a b : List PairP), sizeL (a ++ b) = sizeL a + sizeL b
  | [], b => by simp [sizeL]
  | r :: a, b => by rw [List.cons_append, sizeL, sizeL, sizeL_app a b]; omega
def deadP (c : CodeP) : Bool := match c.ins[0]? with
  | none => false
  | some x => decide (x.op = 1) && decide ((c.sets.getD x.a.toNat []).length = 0)
def yesP (c : CodeP) : Bool := match c.ins[0]? with
  | none => false
  | some x => decide (x.op = 5)
theorem dead_not {c : CodeP} (hc : CR c) (h : deadP c = true) (ps : List Int) : (vmatch c ps).1 = false := by
  cases hm : (vmatch c ps).1 with
  | false => rfl
  | true =>
    have ha := (vmatch_acc hc ps).1 hm
    unfold deadP at h
    cases hx : c.ins[0]? with
    | none => rw [hx] at h; cases h
    | some x =>
      rw [hx] at h
      simp only [Bool.and_eq_true, decide_eq_true_eq] at h
      rw [acc_take hx (by omega)] at ha
      obtain ⟨p, r, _, hp, _⟩ := ha
      rw [List.eq_nil_of_length_eq_zero h.2] at hp
      exact absurd hp (by simp [hasP])
theorem yes_met {c : CodeP} (hc : CR c) (h : yesP c = true) (ps : List Int) : (vmatch c ps).1 = true := by
  rw [vmatch_acc hc]
  unfold yesP at h
  cases hx : c.ins[0]? with
  | none => rw [hx] at h; cases h
  | some x =>
    rw [hx] at h
    exact acc_yes hx (by simpa using h)
structure LessPair (r s : PairP) : Prop where
  brk : s.brk = r.brk
  cb : CR r.before
  ca : CR r.after
  before : LessOf r.before s.before
  after : LessOf r.after s.after
theorem LessPair.met {r s : PairP} (h : LessPair r s) (ps : List Int) (i : Nat) : ruleMet ps i s = ruleMet ps i r := by
  unfold ruleMet
  rw [h.before.vm h.cb, h.after.vm h.ca]
theorem LessPair.dead {r s : PairP} (h : LessPair r s) (hd : deadP s.before = true ∨ deadP s.after = true) (ps : List Int) (i : Nat) : ruleMet ps i r = false := by
  rw [← h.met]
  unfold ruleMet
  rcases hd with hd | hd
  · rw [dead_not h.before.cr hd]; rfl
  · rw [dead_not h.after.cr hd]; simp
theorem LessPair.yes {r s : PairP} (h : LessPair r s) (h1 : yesP s.before = true) (h2 : yesP s.after = true) (ps : List Int) (i : Nat) : ruleMet ps i s = true := by
  unfold ruleMet
  rw [yes_met h.before.cr h1, yes_met h.after.cr h2]; rfl
def Always (p : ProgP) : Prop := ∃ r l, p.rules = r :: l ∧ (r.before.ins.length = 1 ∧ Acc r.before 0 []) ∧ (r.after.ins.length = 1 ∧ Acc r.after 0 [])
def PairOk (r : PairP) : Prop := (codeRight r.before = true ∧ codeRight r.after = true) ∧ CodeLen r.before ∧ CodeLen r.after
theorem LessPair.ok {r s : PairP} (h : LessPair r s) : PairOk s := by
  have a1 := h.before.cr.many
  have a2 := h.before.cr.sets
  have a3 := h.after.cr.many
  have a4 := h.after.cr.sets
  exact ⟨⟨h.before.cr.to, h.after.cr.to⟩, ⟨h.before.lens, by omega, by omega⟩, h.after.lens, by omega, by omega⟩
structure ProgLess (p : ProgP) (out : List PairP) : Prop where
  says : ∀ ps i, saysL p.els ps i p.rules = saysL p.els ps i out
  len : out.length ≤ p.rules.length
  size : sizeL out ≤ sizeL p.rules
  right : ∀ r ∈ out, PairOk r
  one : Always p → out.length ≤ 1
structure PInv (p : ProgP) (k : Nat) (out : List PairP) : Prop where
  says : ∀ ps i, saysL p.els ps i p.rules = saysL p.els ps i (out ++ p.rules.drop k)
  len : out.length ≤ k
  size : sizeL out + sizeL (p.rules.drop k) ≤ sizeL p.rules
  right : ∀ r ∈ out, PairOk r
  one : Always p → k = 0
theorem PInv.zero (p : ProgP) : PInv p 0 [] := ⟨fun _ _ => by rw [List.drop_zero]; rfl, Nat.le_refl _, by rw [List.drop_zero, sizeL]; omega, fun _ h => by simp at h, fun _ => rfl⟩
theorem drop_at {α : Type} {l : List α} {k : Nat} {r : α} (h : l[k]? = some r) : l.drop k = r :: l.drop (k + 1) := by
  have hlt := (List.getElem?_eq_some_iff.1 h).1
  rw [List.drop_eq_getElem_cons hlt]
  have := List.getElem?_eq_getElem hlt
  rw [h] at this
  cases this
  rfl
theorem always_yes {p : ProgP} {r s : PairP} (hA : Always p) (hr : p.rules[0]? = some r) (h : LessPair r s) : yesP s.before = true ∧ yesP s.after = true ∧ deadP s.before = false ∧ deadP s.after = false := by
  obtain ⟨r', l, e, ⟨b1, b2⟩, a1, a2⟩ := hA
  rw [e] at hr
  cases hr
  have e1 := h.before.one b1 b2
  have e2 := h.after.one a1 a2
  unfold yesP deadP
  rw [e1, e2]
  exact ⟨rfl, rfl, rfl, rfl⟩
theorem PInv.gone {p : ProgP} {k : Nat} {out : List PairP} {r s : PairP} (h : PInv p k out) (hr : p.rules[k]? = some r) (hs : LessPair r s) (hd : deadP s.before = true ∨ deadP s.after = true) : PInv p (k + 1) out := by
  refine ⟨fun ps i => ?_, by have := h.len; omega, ?_, h.right, fun hA => ?_⟩
  · rw [h.says, drop_at hr, saysL_app, saysL_app, saysL_cons, hs.dead hd]; rfl
  · have := h.size
    rw [drop_at hr, sizeL] at this
    omega
  · have := h.one hA
    subst this
    have hh := always_yes hA hr hs
    rcases hd with hd | hd
    · rw [hd] at hh; exact absurd hh.2.2.1 (by simp)
    · rw [hd] at hh; exact absurd hh.2.2.2 (by simp)
theorem PInv.more {p : ProgP} {k : Nat} {out : List PairP} {r s : PairP} (h : PInv p k out) (hr : p.rules[k]? = some r) (hs : LessPair r s) (hn : ¬ (yesP s.before = true ∧ yesP s.after = true)) : PInv p (k + 1) (out ++ [s]) := by
  refine ⟨fun ps i => ?_, by rw [List.length_append]; have := h.len; simp only [List.length_cons, List.length_nil]; omega, ?_, fun x hx => ?_, fun hA => ?_⟩
  · rw [h.says, drop_at hr, List.append_assoc, List.singleton_append, saysL_app, saysL_app, saysL_cons, saysL_cons, hs.met, hs.brk]
  · have := h.size
    have b := hs.before.len
    have a := hs.after.len
    rw [drop_at hr, sizeL] at this
    rw [sizeL_app, sizeL, sizeL]
    omega
  · rcases List.mem_append.1 hx with hx | hx
    · exact h.right x hx
    · simp at hx; subst hx; exact hs.ok
  · have := h.one hA
    subst this
    have hh := always_yes hA hr hs
    exact absurd ⟨hh.1, hh.2.1⟩ hn
theorem PInv.last {p : ProgP} {k : Nat} {out : List PairP} {r s : PairP} (h : PInv p k out) (hr : p.rules[k]? = some r) (hs : LessPair r s) (h1 : yesP s.before = true) (h2 : yesP s.after = true) : ProgLess p (out ++ [s]) := by
  have hlt := (List.getElem?_eq_some_iff.1 hr).1
  refine ⟨fun ps i => ?_, by rw [List.length_append]; have := h.len; simp only [List.length_cons, List.length_nil]; omega, ?_, fun x hx => ?_, fun hA => ?_⟩
  · have hm := hs.yes h1 h2 ps i
    have hm' := hs.met ps i
    rw [hm] at hm'
    rw [h.says, drop_at hr, saysL_app, saysL_app, saysL_cons, saysL_cons, hm, ← hm', hs.brk]; rfl
  · have := h.size
    have b := hs.before.len
    have a := hs.after.len
    rw [drop_at hr, sizeL] at this
    rw [sizeL_app, sizeL, sizeL]
    omega
  · rcases List.mem_append.1 hx with hx | hx
    · exact h.right x hx
    · simp at hx; subst hx; exact hs.ok
  · have := h.one hA
    subst this
    have := h.len
    rw [List.length_append]
    simp only [List.length_cons, List.length_nil]
    omega
theorem PInv.done {p : ProgP} {k : Nat} {out : List PairP} (h : PInv p k out) (hk : k = p.rules.length) : ProgLess p out := by
  subst hk
  have hd : p.rules.drop p.rules.length = [] := List.drop_eq_nil_of_le (Nat.le_refl _)
  refine ⟨fun ps i => ?_, h.len, ?_, h.right, fun hA => ?_⟩
  · rw [h.says, hd, List.append_nil]
  · have := h.size
    rw [hd, sizeL] at this
    omega
  · have := h.one hA
    obtain ⟨r, l, e, _⟩ := hA
    rw [e] at this
    simp at this
theorem ProgLess.right' {p : ProgP} {out : List PairP} (h : ProgLess p out) (hp : progRight p = true) (els : Bool) : progRight ⟨out, els⟩ = true := by
  have h1 := (progRight_spec hp).1
  have h2 := h.len
  unfold progRight
  simp only [Bool.and_eq_true, decide_eq_true_eq, List.all_eq_true]
  exact ⟨by omega, fun r hr => (h.right r hr).1⟩
theorem ProgLess.lens {p : ProgP} {out : List PairP} (h : ProgLess p out) (hp : p.rules.length < 1000000000) (els : Bool) : ProgLen ⟨out, els⟩ := by
  have h2 := h.len
  exact ⟨by show out.length < _; omega, fun r hr => (h.right r hr).2⟩
end Go.Proofs.YtimjpijbcnjaaaaDoor
