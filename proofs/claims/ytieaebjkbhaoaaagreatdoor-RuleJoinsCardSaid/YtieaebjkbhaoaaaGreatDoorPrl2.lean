import Derived.Test.YtieaebjkbhaoaaaGreatDoorPrl1
set_option linter.unusedSimpArgs false
set_option linter.unusedVariables false
namespace Cae

/-! Tokens of two texts, one behind the other. -/
inductive Tk : Nat → List UInt8 → List Tok → Prop
  | nil (i) : Tk i [] []
  | blank {i c r l} : (c = 32 ∨ c = 10) → Tk (i + 1) r l → Tk i (c :: r) l
  | note {i c r l} : ¬ (c = 32 ∨ c = 10) → c = 35 → Tk (i + runP (· != 10) (c :: r)) ((c :: r).drop (runP (· != 10) (c :: r))) l → Tk i (c :: r) l
  | tok {i c r l} : ¬ (c = 32 ∨ c = 10) → ¬ c = 35 → (nextT (c :: r)).2 ≠ 0 → Tk (i + (nextT (c :: r)).2) ((c :: r).drop (nextT (c :: r)).2) l → Tk i (c :: r) (⟨(nextT (c :: r)).1, (c :: r).take (nextT (c :: r)).2, i⟩ :: l)

theorem runP_le (f : UInt8 → Bool) (s : List UInt8) : runP f s ≤ s.length := by
  unfold runP
  have := List.takeWhile_append_dropWhile (p := f) (l := s)
  have h := congrArg List.length this
  rw [List.length_append] at h
  omega
theorem runP_pos {f : UInt8 → Bool} {c : UInt8} {r : List UInt8} (h : f c = true) : 0 < runP f (c :: r) := by
  unfold runP; rw [List.takeWhile_cons, if_pos h, List.length_cons]; omega
theorem contains_run {s : List UInt8} {c : UInt8} (h : s.contains c = true) : runP (· != c) s < s.length := by
  induction s with
  | nil => simp at h
  | cons x s ih =>
    unfold runP at *
    by_cases hx : x = c
    · subst hx; simp [List.takeWhile_cons]
    · have h' : s.contains c = true := by
        rw [List.contains_cons] at h
        have : (c == x) = false := by simpa using Ne.symm hx
        rw [this] at h; simpa using h
      rw [List.takeWhile_cons, if_pos (by simpa using hx), List.length_cons, List.length_cons]
      have := ih h'
      omega
theorem nextT_cons (c : UInt8) (r : List UInt8) : nextT (c :: r) = if letterP c then (1, runP (fun c => letterP c || digitP c) (c :: r)) else if digitP c then (2, runP digitP (c :: r))
    else if c = 91 then (3, if (c :: r).contains 93 then runP (· != 93) (c :: r) + 1 else 0) else if markL.contains c then (4, 1) else (4, 0) := rfl
theorem nextT_le (c : UInt8) (r : List UInt8) : (nextT (c :: r)).2 ≤ (c :: r).length := by
  rw [nextT_cons]
  split
  · exact runP_le _ _
  · split
    · exact runP_le _ _
    · split
      · split
        · rename_i h; exact contains_run h
        · simp
      · split <;> simp
theorem nextT_kind (c : UInt8) (r : List UInt8) : (nextT (c :: r)).1 ≠ 5 := by
  rw [nextT_cons]
  split
  · exact (show (1 : Nat) ≠ 5 by decide)
  · split
    · exact (show (2 : Nat) ≠ 5 by decide)
    · split
      · exact (show (3 : Nat) ≠ 5 by decide)
      · split <;> exact (show (4 : Nat) ≠ 5 by decide)

theorem tokLoop_tk : ∀ (n i : Nat) (s : List UInt8) (acc r : List Tok), acc.length ≤ 500 → tokLoop n i s acc = .ok r → ∃ l, Tk i s l ∧ r = acc ++ l ++ [⟨5, [], i + s.length⟩] ∧ acc.length + l.length ≤ 500
  | 0, _, _, _, _, _, h => by cases h
  | n + 1, i, [], acc, r, ha, h => by
      cases h
      exact ⟨[], .nil i, by simp, by simpa using ha⟩
  | n + 1, i, c :: s, acc, r, ha, h => by
      unfold tokLoop at h
      by_cases h1 : c = 32 ∨ c = 10
      · rw [if_pos h1] at h
        obtain ⟨l, hl, e, hn⟩ := tokLoop_tk n _ _ _ _ ha h
        exact ⟨l, .blank h1 hl, by rw [e, List.length_cons, Nat.add_right_comm, Nat.add_assoc], hn⟩
      · rw [if_neg h1] at h
        by_cases h2 : c = 35
        · rw [if_pos h2] at h
          obtain ⟨l, hl, e, hn⟩ := tokLoop_tk n _ _ _ _ ha h
          have := runP_le (· != 10) (c :: s)
          exact ⟨l, .note h1 h2 hl, by rw [e, List.length_drop, Nat.add_assoc, Nat.add_sub_cancel' this], hn⟩
        · rw [if_neg h2] at h
          by_cases h3 : (nextT (c :: s)).2 = 0
          · rw [if_pos h3] at h; cases h
          · rw [if_neg h3] at h
            by_cases h4 : acc.length = 500
            · rw [if_pos h4] at h; cases h
            · rw [if_neg h4] at h
              obtain ⟨l, hl, e, hn⟩ := tokLoop_tk n _ _ _ _ (by rw [List.length_append, List.length_singleton]; omega) h
              have := nextT_le c s
              exact ⟨_ :: l, .tok h1 h2 h3 hl, by rw [e, List.length_drop, Nat.add_assoc, Nat.add_sub_cancel' this]; simp, by rw [List.length_append, List.length_singleton] at hn; rw [List.length_cons]; omega⟩
theorem tk_tokLoop {i : Nat} {s : List UInt8} {l : List Tok} (h : Tk i s l) : ∀ (n : Nat) (acc : List Tok), s.length < n → acc.length + l.length ≤ 500 → tokLoop n i s acc = .ok (acc ++ l ++ [⟨5, [], i + s.length⟩]) := by
  induction h with
  | nil i =>
    intro n acc hn _
    obtain ⟨m, rfl⟩ : ∃ m, n = m + 1 := ⟨n - 1, by omega⟩
    simp [tokLoop]
  | @blank i c r l h1 hl ih =>
    intro n acc hn hl'
    obtain ⟨m, rfl⟩ : ∃ m, n = m + 1 := ⟨n - 1, by omega⟩
    rw [List.length_cons] at hn
    unfold tokLoop
    rw [if_pos h1, ih m acc (by omega) hl', List.length_cons, Nat.add_right_comm, Nat.add_assoc]
  | @note i c r l h1 h2 hl ih =>
    intro n acc hn hl'
    obtain ⟨m, rfl⟩ : ∃ m, n = m + 1 := ⟨n - 1, by omega⟩
    have hp : 0 < runP (· != 10) (c :: r) := runP_pos (by subst h2; decide)
    have hle := runP_le (· != 10) (c :: r)
    unfold tokLoop
    rw [if_neg h1, if_pos h2, ih m acc (by rw [List.length_drop]; omega) hl', List.length_drop, Nat.add_assoc, Nat.add_sub_cancel' hle]
  | @tok i c r l h1 h2 h3 hl ih =>
    intro n acc hn hl'
    obtain ⟨m, rfl⟩ : ∃ m, n = m + 1 := ⟨n - 1, by omega⟩
    have hle := nextT_le c r
    rw [List.length_cons] at hl'
    unfold tokLoop
    rw [if_neg h1, if_neg h2, if_neg h3, if_neg (by omega), ih m _ (by rw [List.length_drop]; omega) (by rw [List.length_append, List.length_singleton]; omega), List.length_drop, Nat.add_assoc, Nat.add_sub_cancel' hle]
    simp
theorem Tk.len {i : Nat} {s : List UInt8} {l : List Tok} (h : Tk i s l) : l.length ≤ s.length := by
  induction h with
  | nil i => simp
  | @blank i c r l h1 hl ih => rw [List.length_cons]; omega
  | @note i c r l h1 h2 hl ih => rw [List.length_drop] at ih; omega
  | @tok i c r l h1 h2 h3 hl ih =>
    rw [List.length_drop] at ih
    have := nextT_le c r
    rw [List.length_cons]; omega
theorem Tk.shift {i : Nat} {s : List UInt8} {l : List Tok} (h : Tk i s l) : ∀ j, ∃ m, Tk j s m ∧ EqT l m := by
  induction h with
  | nil i => exact fun j => ⟨[], .nil j, rfl⟩
  | @blank i c r l h1 hl ih => exact fun j => by obtain ⟨m, hm, e⟩ := ih (j + 1); exact ⟨m, .blank h1 hm, e⟩
  | @note i c r l h1 h2 hl ih => exact fun j => by obtain ⟨m, hm, e⟩ := ih (j + runP (· != 10) (c :: r)); exact ⟨m, .note h1 h2 hm, e⟩
  | @tok i c r l h1 h2 h3 hl ih =>
    intro j
    obtain ⟨m, hm, e⟩ := ih (j + (nextT (c :: r)).2)
    exact ⟨_, .tok h1 h2 h3 hm, by unfold EqT at *; rw [List.map_cons, List.map_cons, e]; rfl⟩
theorem Tk.noEnd {i : Nat} {s : List UInt8} {l : List Tok} (h : Tk i s l) : NoEnd l := by
  induction h with
  | nil i => simp [NoEnd]
  | @blank i c r l h1 hl ih => exact ih
  | @note i c r l h1 h2 hl ih => exact ih
  | @tok i c r l h1 h2 h3 hl ih =>
    intro t ht
    rcases List.mem_cons.1 ht with rfl | ht
    · exact nextT_kind c r
    · exact ih t ht
theorem Tk.infix {i : Nat} {s : List UInt8} {l : List Tok} (h : Tk i s l) : ∀ t ∈ l, t.text <:+: s := by
  induction h with
  | nil i => simp
  | @blank i c r l h1 hl ih => exact fun t ht => (ih t ht).trans (List.suffix_cons c r).isInfix
  | @note i c r l h1 h2 hl ih => exact fun t ht => (ih t ht).trans (List.drop_suffix _ _).isInfix
  | @tok i c r l h1 h2 h3 hl ih =>
    intro t ht
    rcases List.mem_cons.1 ht with rfl | ht
    · exact (List.take_prefix _ _).isInfix
    · exact (ih t ht).trans (List.drop_suffix _ _).isInfix
def sumT (l : List Tok) : Nat := (l.map fun t => t.text.length).sum
theorem Tk.sum {i : Nat} {s : List UInt8} {l : List Tok} (h : Tk i s l) : sumT l ≤ s.length ∧ ∀ t ∈ l, 0 < t.text.length := by
  induction h with
  | nil i => simp [sumT]
  | @blank i c r l h1 hl ih => exact ⟨by rw [List.length_cons]; omega, ih.2⟩
  | @note i c r l h1 h2 hl ih => exact ⟨by have := ih.1; rw [List.length_drop] at this; omega, ih.2⟩
  | @tok i c r l h1 h2 h3 hl ih =>
    have h4 := nextT_le c r
    have h5 := ih.1
    rw [List.length_drop] at h5
    have h6 : ((c :: r).take (nextT (c :: r)).2).length = (nextT (c :: r)).2 := by rw [List.length_take]; omega
    refine ⟨?_, fun t ht => ?_⟩
    · have : sumT (⟨(nextT (c :: r)).1, (c :: r).take (nextT (c :: r)).2, i⟩ :: l) = ((c :: r).take (nextT (c :: r)).2).length + sumT l := by simp [sumT]
      rw [this, h6]; omega
    · rcases List.mem_cons.1 ht with rfl | ht
      · show 0 < ((c :: r).take (nextT (c :: r)).2).length
        rw [h6]; omega
      · exact ih.2 t ht

theorem runP_app {f : UInt8 → Bool} (hf : f 10 = false) (s u : List UInt8) : runP f (s ++ 10 :: u) = runP f s := by
  unfold runP
  rw [List.takeWhile_append]
  split
  · rename_i h
    rw [List.takeWhile_cons, hf]
    simp [h]
  · rfl
theorem runP_has {s : List UInt8} {c : UInt8} (h : s.contains c = true) (u : List UInt8) : runP (· != c) (s ++ u) = runP (· != c) s := by
  have := contains_run h
  unfold runP at *
  rw [List.takeWhile_append]
  split
  · rename_i h'; omega
  · rfl
theorem nextT_app (c : UInt8) (r u : List UInt8) (h : (nextT (c :: r)).2 ≠ 0) : nextT ((c :: r) ++ 10 :: u) = nextT (c :: r) := by
  rw [nextT_cons] at h
  rw [List.cons_append, nextT_cons, nextT_cons]
  by_cases h1 : letterP c = true
  · rw [if_pos h1, if_pos h1, ← List.cons_append, runP_app (by decide)]
  · rw [if_neg h1, if_neg h1]
    rw [if_neg h1] at h
    by_cases h2 : digitP c = true
    · rw [if_pos h2, if_pos h2, ← List.cons_append, runP_app (by decide)]
    · rw [if_neg h2, if_neg h2]
      rw [if_neg h2] at h
      by_cases h3 : c = 91
      · rw [if_pos h3, if_pos h3]
        rw [if_pos h3] at h
        have hc : (c :: r).contains 93 = true := by
          by_cases hc : (c :: r).contains 93 = true
          · exact hc
          · rw [if_neg hc] at h; exact absurd rfl h
        rw [← List.cons_append, runP_has hc, contains_app, hc, Bool.true_or]
      · rw [if_neg h3, if_neg h3]
theorem Tk.app {i : Nat} {s : List UInt8} {l : List Tok} (h : Tk i s l) : ∀ {u : List UInt8} {m : List Tok}, Tk (i + s.length + 1) u m → Tk i (s ++ 10 :: u) (l ++ m) := by
  induction h with
  | nil i => exact fun hm => .blank (.inr rfl) hm
  | @blank i c r l h1 hl ih => exact fun hm => .blank h1 (ih (by rw [List.length_cons] at hm; simpa [Nat.add_assoc, Nat.add_comm, Nat.add_left_comm] using hm))
  | @note i c r l h1 h2 hl ih =>
    intro u m hm
    have hle := runP_le (· != 10) (c :: r)
    refine .note h1 h2 ?_
    have e1 : runP (· != 10) (c :: (r ++ 10 :: u)) = runP (· != 10) (c :: r) := runP_app (by decide) (c :: r) u
    have e2 : (c :: (r ++ 10 :: u)).drop (runP (· != 10) (c :: r)) = (c :: r).drop (runP (· != 10) (c :: r)) ++ 10 :: u := by
      rw [← List.cons_append, List.drop_append_of_le_length hle]
    show Tk (i + runP (· != 10) (c :: (r ++ 10 :: u))) ((c :: (r ++ 10 :: u)).drop (runP (· != 10) (c :: (r ++ 10 :: u)))) (l ++ m)
    rw [e1, e2]
    refine ih ?_
    rw [List.length_drop, Nat.add_assoc i, Nat.add_sub_cancel' hle]
    exact hm
  | @tok i c r l h1 h2 h3 hl ih =>
    intro u m hm
    have hle := nextT_le c r
    have e1 : nextT (c :: (r ++ 10 :: u)) = nextT (c :: r) := nextT_app c r u h3
    have e2 : (c :: (r ++ 10 :: u)).drop (nextT (c :: r)).2 = (c :: r).drop (nextT (c :: r)).2 ++ 10 :: u := by
      rw [← List.cons_append, List.drop_append_of_le_length hle]
    have e3 : (c :: (r ++ 10 :: u)).take (nextT (c :: r)).2 = (c :: r).take (nextT (c :: r)).2 := by
      rw [← List.cons_append, List.take_append_of_le_length hle]
    have := Tk.tok (i := i) (c := c) (r := r ++ 10 :: u) (l := l ++ m) h1 h2 (by rw [e1]; exact h3) (by
      rw [e1, e2]
      refine ih ?_
      rw [List.length_drop, Nat.add_assoc i, Nat.add_sub_cancel' hle]
      exact hm)
    rw [e1, e3] at this
    exact this

/-! Rules of two texts. -/
theorem classLoop_nil {n : Nat} {acc cs : List ClassP} {l l' : List Tok} (h : classLoop n acc l = .ok (cs, l')) : acc.length ≤ cs.length ∧ (cs.length = acc.length → seeP [99, 108, 97, 115, 115] l = false ∧ cs = acc ∧ l' = l) := by
  induction n generalizing acc l with
  | zero => cases h
  | succ n ih =>
    unfold classLoop pif at h
    split at h
    · split at h
      · cases h
      · obtain ⟨c, l1, _, h2⟩ := pb_ok h
        have := ih h2
        rw [List.length_append, List.length_singleton] at this
        exact ⟨by omega, fun e => by omega⟩
    · rename_i hs
      cases h
      exact ⟨Nat.le_refl _, fun _ => ⟨by simpa using hs, rfl, rfl⟩⟩
theorem rules_lo : ∀ (n : Nat) (acc : List RuleP) (l : List Tok) (rs : List RuleP) (l' : List Tok), ruleLoop n acc l = .ok (rs, l') → ∃ new pre, rs = acc ++ new ∧ NoEnd pre ∧ l = pre ++ l' ∧ ruleStart l' = false ∧
    ∀ pre2 l2 m acc2, EqT pre pre2 → new.length ≤ m → acc2.length + new.length ≤ 20 → ∃ new2, All2 RE new new2 ∧ ruleLoop m acc2 (pre2 ++ l2) = ruleLoop (m - new.length) (acc2 ++ new2) l2
  | 0, _, _, _, _, h => by cases h
  | n + 1, acc, l, rs, l', h => by
      unfold ruleLoop pif at h
      split at h
      · rename_i hs
        split at h
        · cases h
        · obtain ⟨r, l1, h1, h2⟩ := pb_ok h
          obtain ⟨a, ane, na, rfl, ha⟩ := lo_rule _ _ _ h1
          obtain ⟨new, pre, rfl, np, rfl, hst, hall⟩ := rules_lo n _ _ _ _ h2
          refine ⟨r :: new, a ++ pre, by simp, fun t ht => (List.mem_append.1 ht).elim (na t) (np t), by rw [List.append_assoc], hst, fun pre2 l2 m acc2 hp hm hc => ?_⟩
          obtain ⟨u, v, rfl, hu, hv⟩ := hp.split
          rw [List.length_cons] at hm hc
          obtain ⟨m', rfl⟩ : ∃ m', m = m' + 1 := ⟨m - 1, by omega⟩
          obtain ⟨r2, hr2, er⟩ := ha u (v ++ l2) hu
          obtain ⟨new2, hn2, en⟩ := hall v l2 m' (acc2 ++ [r2]) hv (by omega) (by rw [List.length_append, List.length_singleton]; omega)
          refine ⟨r2 :: new2, .cons hr2 hn2, ?_⟩
          have hs2 : ruleStart (u ++ v ++ l2) = true := by
            rw [List.append_assoc, ← c_rule _ _ (EqH.apps hu ane (pre ++ l') (v ++ l2))]; exact hs
          have e1 : ruleLoop (m' + 1) acc2 (u ++ v ++ l2) = ruleLoop m' (acc2 ++ [r2]) (v ++ l2) := by
            rw [ruleLoop]
            unfold pif
            rw [hs2, if_pos rfl, if_neg (by omega), List.append_assoc, pb_of er]
          rw [e1, en, List.length_cons, Nat.add_sub_add_right, List.append_assoc]
          rfl
      · rename_i hs
        cases h
        refine ⟨[], [], by simp, by simp [NoEnd], rfl, by simpa using hs, fun pre2 l2 m acc2 hp _ _ => ⟨[], .nil, ?_⟩⟩
        have : pre2 = [] := List.length_eq_zero_iff.1 hp.len.symm
        subst this
        simp
theorem parseR_ok {s : List UInt8} {f : FileP} (h : parseR s = .ok f) : ∃ l l', Tk 0 s l ∧ l.length ≤ 500 ∧ fileP (l ++ [⟨5, [], s.length⟩]) = .ok (f, l') ∧ isKind 5 l' = true := by
  unfold parseR at h
  split at h
  · cases h
  · rename_i l ht
    split at h
    · cases h
    · rename_i g l' hf
      split at h
      · rename_i hk
        cases h
        obtain ⟨m, hm, e, hn⟩ := tokLoop_tk _ _ _ _ _ (by simp) ht
        simp only [List.nil_append, Nat.zero_add] at e
        subst e
        exact ⟨m, l', hm, by simpa using hn, hf, hk⟩
      · cases h
theorem fileP_ok {l l' : List Tok} {f : FileP} (h : fileP l = .ok (f, l')) : ∃ l1 l2, classLoop 1000 [] l = .ok (f.classes, l1) ∧ ruleLoop 1000 [] l1 = .ok (f.rules, l2) ∧ elseP l2 = .ok (f.els, l') := by
  obtain ⟨cs, l1, h1, h⟩ := pb_ok h
  obtain ⟨rs, l2, h2, h⟩ := pb_ok h
  obtain ⟨b, l3, h3, h⟩ := pb_ok h
  cases h
  exact ⟨l1, l2, h1, h2, h3⟩
theorem rules_text {l m : List RuleP} (h : All2 RE l m) : l.flatMap ruleText = m.flatMap ruleText := by
  induction h with
  | nil => rfl
  | cons h1 _ ih => rw [List.flatMap_cons, List.flatMap_cons, ih, show ruleText _ = ruleText _ from h1]
/-- The rules of two texts, one behind the other, are the rules of both. -/
theorem joins {s u : List UInt8} {a b : FileP} (hs : s.length ≤ 200) (hu : u.length ≤ 200) (ha : parseR s = .ok a) (hb : parseR u = .ok b) (hca : a.classes = []) (hcb : b.classes = []) (hea : a.els = true)
    (he : ¬ [101, 108, 115, 101] <:+: s) (hn : a.rules.length + b.rules.length ≤ 20) : ∃ c, parseR (s ++ 10 :: u) = .ok c ∧ fileText c = fileText a ++ fileText b := by
  obtain ⟨la, la', ta, _, fa, ka⟩ := parseR_ok ha
  obtain ⟨lb, lb', tb, _, fb, kb⟩ := parseR_ok hb
  obtain ⟨a1, a2, ca, ra, ea⟩ := fileP_ok fa
  obtain ⟨b1, b2, cb, rb, eb⟩ := fileP_ok fb
  obtain ⟨sa, _, rfl⟩ := (classLoop_nil ca).2 (by rw [hca])
  obtain ⟨sb, _, rfl⟩ := (classLoop_nil cb).2 (by rw [hcb])
  obtain ⟨na, pa, ea0, npa, epa, sta, hla⟩ := rules_lo _ _ _ _ _ ra
  obtain ⟨nb, pb', eb0, npb, epb, stb, hlb⟩ := rules_lo _ _ _ _ _ rb
  rw [List.nil_append] at ea0 eb0
  -- behind a's rules there is nothing
  have tail : a2 = [⟨5, [], s.length⟩] ∧ la = pa := by
    have hse : seeP [101, 108, 115, 101] a2 = false := by
      cases hc : seeP [101, 108, 115, 101] a2 with
      | false => rfl
      | true =>
        exfalso
        cases a2 with
        | nil => simp [seeP, hd] at hc
        | cons t r =>
          have h1 : t.kind ≠ 5 ∧ t.text = [101, 108, 115, 101] := by simpa [seeP, hd] using hc
          have hm : t ∈ la ++ [⟨5, [], s.length⟩] := by rw [epa]; simp
          rcases List.mem_append.1 hm with hm | hm
          · have := ta.infix t hm
            rw [h1.2] at this
            exact he this
          · rw [List.mem_singleton.1 hm] at h1
            exact h1.1 rfl
    have hea' : la' = a2 := by
      unfold elseP pif at ea
      rw [hse] at ea
      exact (Prod.mk.inj (Except.ok.inj ea)).2.symm
    rw [hea'] at ka
    cases a2 with
    | nil =>
      exfalso
      rw [List.append_nil] at epa
      exact npa ⟨5, [], s.length⟩ (by rw [← epa]; simp) rfl
    | cons t r =>
      have hk : t.kind = 5 := by simpa [isKind, hd] using ka
      have hr : r = [] := by
        cases r with
        | nil => rfl
        | cons x r =>
          exfalso
          have hm : t ∈ la := by
            have e1 : (pa ++ t :: x :: r).dropLast = la := by rw [← epa]; simp
            rw [← e1, List.dropLast_append_of_ne_nil (by simp)]
            simp
          exact ta.noEnd t hm hk
      subst hr
      have := List.append_inj' epa rfl
      exact ⟨this.2.symm, this.1⟩
  obtain ⟨rfl, rfl⟩ := tail
  obtain ⟨lc, tc, ec⟩ := tb.shift (0 + s.length + 1)
  have tj := ta.app tc
  have hlen := tj.len
  have la1 := ta.len
  have lb1 := tb.len
  have lc1 := ec.len
  have etok : tokP (s ++ 10 :: u) = .ok (la ++ lc ++ [⟨5, [], (s ++ 10 :: u).length⟩]) := by
    have := tk_tokLoop tj ((s ++ 10 :: u).length + 1) [] (by omega) (by simp; omega)
    rw [List.nil_append, Nat.zero_add] at this
    exact this
  -- b's tokens, further on
  have eE : EqT (lb ++ [⟨5, [], u.length⟩]) (lc ++ [⟨5, [], (s ++ 10 :: u).length⟩]) := ec.app rfl
  rw [epb] at eE
  obtain ⟨pc, l2, e2, epc, eb2⟩ := eE.split
  have hlan : na.length ≤ 1000 := by rw [ea0] at hn; omega
  obtain ⟨na2, hna, ena⟩ := hla la (lc ++ [⟨5, [], (s ++ 10 :: u).length⟩]) 1000 [] (EqT.refl _) hlan (by rw [List.length_nil, Nat.zero_add]; rw [ea0] at hn; omega)
  rw [List.nil_append] at ena
  obtain ⟨nb2, hnb, enb⟩ := hlb pc l2 (1000 - na.length) na2 epc (by rw [ea0, eb0] at hn; omega) (by rw [← hna.len]; rw [ea0, eb0] at hn; exact hn)
  have hst : ruleStart l2 = false := by rw [← c_rule _ _ eb2.eqH]; exact stb
  have erl : ruleLoop 1000 [] (la ++ (lc ++ [⟨5, [], (s ++ 10 :: u).length⟩])) = .ok (na2 ++ nb2, l2) := by
    rw [ena, e2, enb]
    obtain ⟨m, hm⟩ : ∃ m, 1000 - na.length - nb.length = m + 1 := ⟨1000 - na.length - nb.length - 1, by rw [ea0, eb0] at hn; omega⟩
    rw [hm, ruleLoop]
    unfold pif
    rw [hst]
    rfl
  obtain ⟨pe, npe, ee, hee⟩ := lo_else _ _ _ eb
  have eb2' : EqT (pe ++ lb') l2 := by rw [← ee]; exact eb2
  obtain ⟨x, y, rfl, hx, hy⟩ := eb2'.split
  obtain ⟨bb, rfl, ebb⟩ := hee x y hx hy.eqH
  have hcl : classLoop 1000 [] (la ++ (lc ++ [⟨5, [], (s ++ 10 :: u).length⟩])) = .ok ([], la ++ (lc ++ [⟨5, [], (s ++ 10 :: u).length⟩])) := by
    have hsee : seeP [99, 108, 97, 115, 115] (la ++ (lc ++ [⟨5, [], (s ++ 10 :: u).length⟩])) = false := by
      cases la with
      | nil =>
        rw [List.nil_append, ← c_see _ _ _ (EqT.eqH (show EqT (lb ++ [⟨5, [], u.length⟩]) (lc ++ [⟨5, [], (s ++ 10 :: u).length⟩]) from ec.app rfl))]
        exact sb
      | cons t r => exact sa
    show classLoop (999 + 1) [] _ = _
    rw [classLoop]
    unfold pif
    rw [hsee]
    rfl
  refine ⟨⟨[], na2 ++ nb2, b.els⟩, ?_, ?_⟩
  · have : fileP (la ++ (lc ++ [⟨5, [], (s ++ 10 :: u).length⟩])) = .ok (⟨[], na2 ++ nb2, b.els⟩, y) := by
      unfold fileP
      rw [pb_of hcl, pb_of erl, pb_of ebb]
      rfl
    unfold parseR
    rw [etok, List.append_assoc]
    dsimp only
    rw [this]
    show (if isKind 5 y then _ else _) = _
    rw [← c_kind 5 _ _ hy.eqH, kb]
    rfl
  · unfold fileText
    simp only [List.flatMap_nil, List.nil_append]
    rw [hca, hcb, hea, ea0, eb0, ← rules_text (hna.app hnb)]
    simp [elseText]
end Cae
