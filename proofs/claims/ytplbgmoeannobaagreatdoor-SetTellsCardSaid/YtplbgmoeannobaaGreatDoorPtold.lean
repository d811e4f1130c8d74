import Derived.Test.YtplbgmoeannobaaGreatDoorPset
set_option linter.unusedSimpArgs false
set_option linter.unusedVariables false
namespace Cae

/-! The set of the points of which a question says yes, as the reference finds it: by the places at which it may turn. -/
def turnsOf (r : Rg) : List Int := (if 0 ≤ r.1 ∧ r.1 ≤ 1114111 then [r.1] else []) ++ (if 0 ≤ r.2 ∧ r.2 ≤ 1114111 then [r.2 + 1] else [])
def turns (L : List Rg) : List Int := [0, 1114112] ++ L.flatMap turnsOf
/-- One more stretch. -/
def joinRg (out : List Rg) (a b : Int) : List Rg :=
  match out.getLast? with
  | none => [(a, b - 1)]
  | some r => if r.2 + 1 = a then out.dropLast ++ [(r.1, b - 1)] else out ++ [(a, b - 1)]
def stepRg (g : Int → Bool) (out : List Rg) (a b : Int) : List Rg := if a = b ∨ g a = false then out else joinRg out a b
def toldGo (g : Int → Bool) : List Rg → List Int → List Rg
  | out, a :: b :: l => toldGo g (stepRg g out a b) (b :: l)
  | out, _ => out
def toldP (g : Int → Bool) (L : List Rg) : List Rg := toldGo g [] ((turns L).mergeSort fun a b => decide (a ≤ b))
/-- What is found up to a place. -/
structure ToldI (g : Int → Bool) (out : List Rg) (a : Int) : Prop where
  right : setRight (-2) out = true
  last : lastHi (-2) out + 1 ≤ a
  has : ∀ p, hasP out p = (decide (0 ≤ p ∧ p < a) && g p)
theorem joinRg_spec {g : Int → Bool} {out : List Rg} {a b : Int} (h : ToldI g out a) (h0 : 0 ≤ a) (hab : a < b) (hb : b ≤ 1114112) (hg : ∀ p, a ≤ p → p < b → g p = true) : ToldI g (joinRg out a b) b := by
  obtain ⟨hr, hl, hh⟩ := h
  have key : ∀ p, (decide (0 ≤ p ∧ p < b) && g p) = ((decide (0 ≤ p ∧ p < a) && g p) || decide (a ≤ p ∧ p ≤ b - 1)) := by
    intro p
    by_cases h1 : a ≤ p ∧ p < b
    · rw [hg p h1.1 h1.2, decide_eq_true (p := 0 ≤ p ∧ p < b) (by omega), decide_eq_true (p := a ≤ p ∧ p ≤ b - 1) (by omega), Bool.or_true, Bool.and_true]
    · rw [decide_eq_false (p := a ≤ p ∧ p ≤ b - 1) (by omega), Bool.or_false]
      congr 1
      apply decide_eq_decide.2
      omega
  rcases List.eq_nil_or_concat out with rfl | ⟨m, r, rfl⟩
  · refine ⟨?_, ?_, fun p => ?_⟩
    · show setRight (-2) [(a, b - 1)] = true
      rw [setRight_con]; exact ⟨⟨by simp only; omega, by simp only; omega, by simp only; omega⟩, rfl⟩
    · show b - 1 + 1 ≤ b; omega
    · show hasP [(a, b - 1)] p = _
      rw [key, ← hh, hasP_cons]
      simp [hasP_nil]
  · rw [List.concat_eq_append] at *
    have hg' : (m ++ [r]).getLast? = some r := by simp
    rw [lastHi_snoc] at hl
    rw [setRight_snoc] at hr
    unfold joinRg
    rw [hg']
    simp only
    by_cases he : r.2 + 1 = a
    · rw [if_pos he]
      have hd : (m ++ [r]).dropLast = m := by simp
      rw [hd]
      refine ⟨?_, ?_, fun p => ?_⟩
      · rw [setRight_snoc]; simp only; exact ⟨hr.1, by omega, by omega, by omega⟩
      · rw [lastHi_snoc]; simp only; omega
      · rw [key, ← hh, hasP_app, hasP_app, hasP_cons, hasP_cons, hasP_nil, Bool.or_false, Bool.or_false, Bool.or_assoc]
        congr 1
        rw [← Bool.decide_or]
        apply decide_eq_decide.2
        simp only
        omega
    · rw [if_neg he]
      refine ⟨?_, ?_, fun p => ?_⟩
      · rw [setRight_snoc, setRight_snoc, lastHi_snoc]; simp only; exact ⟨hr, by omega, by omega, by omega⟩
      · rw [lastHi_snoc]; simp only; omega
      · rw [key, ← hh, hasP_app (m ++ [r]), hasP_cons, hasP_nil, Bool.or_false]
theorem ToldI.skip {g : Int → Bool} {out : List Rg} {a b : Int} (h : ToldI g out a) (hab : a ≤ b) (hg : ∀ p, a ≤ p → p < b → g p = false) : ToldI g out b := by
  refine ⟨h.right, by have := h.last; omega, fun p => ?_⟩
  rw [h.has]
  by_cases h1 : a ≤ p ∧ p < b
  · rw [hg p h1.1 h1.2, Bool.and_false, Bool.and_false]
  · congr 1
    apply decide_eq_decide.2
    omega
/-- Between two places the question does not turn. -/
def Steady (g : Int → Bool) (l : List Int) : Prop := ∀ (a b : Int) (u v : List Int), l = u ++ a :: b :: v → ∀ p, a ≤ p → p < b → g p = g a
theorem stepRg_spec {g : Int → Bool} {out : List Rg} {a b : Int} (h : ToldI g out a) (h0 : 0 ≤ a) (hab : a ≤ b) (hb : b ≤ 1114112) (hg : ∀ p, a ≤ p → p < b → g p = g a) : ToldI g (stepRg g out a b) b := by
  unfold stepRg
  by_cases he : a = b
  · rw [if_pos (.inl he), ← he]; exact h
  · cases hga : g a with
    | false =>
      rw [if_pos (.inr rfl)]
      exact h.skip hab (fun p h1 h2 => by rw [hg p h1 h2, hga])
    | true =>
      rw [if_neg (by rintro (h | h) <;> simp_all)]
      exact joinRg_spec h h0 (by omega) hb (fun p h1 h2 => by rw [hg p h1 h2, hga])
theorem toldGo_spec {g : Int → Bool} : ∀ (l : List Int) (out : List Rg) (a : Int), ToldI g out a → (a :: l).Pairwise (· ≤ ·) → (∀ x ∈ a :: l, 0 ≤ x ∧ x ≤ 1114112) → Steady g (a :: l) → ToldI g (toldGo g out (a :: l)) ((a :: l).getLast (by simp))
  | [], out, a, h, _, _, _ => h
  | b :: l, out, a, h, hp, hm, hs => by
    rw [List.pairwise_cons] at hp
    have h1 := hm a (by simp)
    have h2 := hm b (by simp)
    have h3 := stepRg_spec h h1.1 (hp.1 b (by simp)) h2.2 (hs a b [] l rfl)
    have := toldGo_spec l _ b h3 hp.2 (fun x hx => hm x (List.mem_cons_of_mem _ hx)) (fun c d u v e => hs c d (a :: u) v (by rw [e]; rfl))
    rw [List.getLast_cons (by simp)]
    exact this
theorem turnsOf_mem {r : Rg} {x : Int} (h : x ∈ turnsOf r) : 0 ≤ x ∧ x ≤ 1114112 := by
  unfold turnsOf at h
  rw [List.mem_append] at h
  rcases h with h | h
  · split at h
    · rw [List.mem_singleton.1 h]; omega
    · cases h
  · split at h
    · rw [List.mem_singleton.1 h]; omega
    · cases h
theorem turns_mem {L : List Rg} {x : Int} (h : x ∈ turns L) : 0 ≤ x ∧ x ≤ 1114112 := by
  unfold turns at h
  rcases List.mem_append.1 h with h | h
  · simp at h; omega
  · obtain ⟨r, _, hx⟩ := List.mem_flatMap.1 h
    exact turnsOf_mem hx
/-- A question that asks ranges alone. -/
def AsksOf (g : Int → Bool) (L : List Rg) : Prop := ∀ p q : Int, (∀ r ∈ L, (r.1 ≤ p ↔ r.1 ≤ q) ∧ (p ≤ r.2 ↔ q ≤ r.2)) → g p = g q
theorem steady_of {g : Int → Bool} {L : List Rg} (hg : AsksOf g L) {l : List Int} (hl : l.Perm (turns L)) (hp : l.Pairwise (· ≤ ·)) : Steady g l := by
  intro a b u v e p h1 h2
  have hm : ∀ x ∈ l, 0 ≤ x ∧ x ≤ 1114112 := fun x hx => turns_mem (hl.mem_iff.1 hx)
  have ha := hm a (by rw [e]; simp)
  have hb := hm b (by rw [e]; simp)
  have no : ∀ x ∈ turns L, ¬ (a < x ∧ x < b) := by
    intro x hx hh
    have hx := hl.mem_iff.2 hx
    rw [e] at hx hp
    rw [List.pairwise_append] at hp
    obtain ⟨_, hp2, hp3⟩ := hp
    rw [List.pairwise_cons, List.pairwise_cons] at hp2
    rcases List.mem_append.1 hx with hx | hx
    · have := hp3 x hx a (by simp); omega
    · rcases List.mem_cons.1 hx with hx | hx
      · omega
      · rcases List.mem_cons.1 hx with hx | hx
        · omega
        · have := hp2.2.1 x hx; omega
  refine hg p a fun r hr => ?_
  have t1 : 0 ≤ r.1 → r.1 ≤ 1114111 → r.1 ∈ turns L := fun h1 h2 => List.mem_append_right _ (List.mem_flatMap.2 ⟨r, hr, List.mem_append_left _ (by rw [if_pos ⟨h1, h2⟩]; simp)⟩)
  have t2 : 0 ≤ r.2 → r.2 ≤ 1114111 → r.2 + 1 ∈ turns L := fun h1 h2 => List.mem_append_right _ (List.mem_flatMap.2 ⟨r, hr, List.mem_append_right _ (by rw [if_pos ⟨h1, h2⟩]; simp)⟩)
  refine ⟨⟨fun h => ?_, fun h => by omega⟩, ⟨fun h => by omega, fun h => ?_⟩⟩
  · by_cases hh : r.1 ≤ a
    · exact hh
    · have := no _ (t1 (by omega) (by omega)); omega
  · by_cases hh : p ≤ r.2
    · exact hh
    · have := no _ (t2 (by omega) (by omega)); omega
theorem toldP_spec {g : Int → Bool} {L : List Rg} (hg : AsksOf g L) : setRight (-2) (toldP g L) = true ∧ ∀ p, hasP (toldP g L) p = (decide (0 ≤ p ∧ p ≤ 1114111) && g p) := by
  have hperm := List.mergeSort_perm (turns L) fun a b => decide (a ≤ b)
  have hsort : ((turns L).mergeSort fun a b => decide (a ≤ b)).Pairwise (· ≤ ·) := by
    have := List.pairwise_mergeSort (le := fun a b : Int => decide (a ≤ b)) (fun a b c h1 h2 => by simp only [decide_eq_true_eq] at *; omega) (fun a b => by simp only [Bool.or_eq_true, decide_eq_true_eq]; omega) (turns L)
    exact this.imp fun h => of_decide_eq_true h
  have hst := steady_of hg hperm hsort
  unfold toldP
  generalize (turns L).mergeSort (fun a b => decide (a ≤ b)) = l at hperm hsort hst ⊢
  have hm : ∀ x ∈ l, 0 ≤ x ∧ x ≤ 1114112 := fun x hx => turns_mem (hperm.mem_iff.1 hx)
  have m0 : (0 : Int) ∈ l := hperm.mem_iff.2 (by simp [turns])
  have m1 : (1114112 : Int) ∈ l := hperm.mem_iff.2 (by simp [turns])
  match l, hm, m0, m1, hsort, hst with
  | a :: l, hm, m0, m1, hsort, hst =>
    have ha : a = 0 := by
      have h1 := hm a (by simp)
      rw [List.pairwise_cons] at hsort
      rcases List.mem_cons.1 m0 with h | h
      · exact h.symm
      · have := hsort.1 0 h; omega
    have hlast : (a :: l).getLast (by simp) = 1114112 := by
      have h1 := hm _ (List.getLast_mem (l := a :: l) (by simp))
      have h2 : ∀ (l : List Int) (hn : l ≠ []), l.Pairwise (· ≤ ·) → ∀ x ∈ l, x ≤ l.getLast hn := by
        intro l
        induction l with
        | nil => intro hn; exact absurd rfl hn
        | cons b m ih =>
          intro hn hp x hx
          rw [List.pairwise_cons] at hp
          cases m with
          | nil => simp at hx; simp [hx]
          | cons c m =>
            rw [List.getLast_cons (by simp)]
            rcases List.mem_cons.1 hx with rfl | hx
            · exact hp.1 _ (List.getLast_mem _)
            · exact ih (by simp) hp.2 x hx
      have h3 := h2 _ (by simp) hsort 1114112 m1
      omega
    have h0 : ToldI g [] a := ⟨rfl, by show -2 + 1 ≤ a; omega, fun p => by rw [hasP_nil, decide_eq_false (by omega), Bool.false_and]⟩
    have := toldGo_spec l [] a h0 hsort hm hst
    rw [hlast] at this
    refine ⟨this.right, fun p => ?_⟩
    rw [this.has]
    congr 1
    apply decide_eq_decide.2
    omega
theorem asks_has {L : List Rg} : ∀ (l : List Rg), (∀ r ∈ l, r ∈ L) → AsksOf (hasP l) L
  | [], _ => fun p q _ => rfl
  | r :: l, h => fun p q hr => by
    have h1 := hr r (h r (List.mem_cons_self ..))
    rw [hasP_cons, hasP_cons, asks_has l (fun x hx => h x (List.mem_cons_of_mem _ hx)) p q hr]
    congr 1
    apply decide_eq_decide.2
    rw [h1.1, h1.2]
/-! The reference's sets are the program's. -/
theorem told_of (l : List Rg) : toldP (hasP l) l = setOf l := by
  have h := toldP_spec (asks_has (L := l) l fun _ h => h)
  exact set_ext h.1 (setOf_right l) fun p => by rw [h.2, setOf_has]; rfl
theorem told_or {s t : List Rg} (hs : setRight (-2) s = true) (ht : setRight (-2) t = true) : toldP (fun p => hasP s p || hasP t p) (s ++ t) = setOr s t := by
  have h := toldP_spec (g := fun p => hasP s p || hasP t p) (L := s ++ t) fun p q hr => by
    simp only
    rw [asks_has s (fun r h => List.mem_append_left _ h) p q hr, asks_has t (fun r h => List.mem_append_right _ h) p q hr]
  exact set_ext h.1 (setOr_right s t) fun p => by
    rw [h.2, setOr_has hs ht, Bool.and_or_distrib_left, in_range hs, in_range ht]
theorem told_and {s t : List Rg} (hs : setRight (-2) s = true) (ht : setRight (-2) t = true) : toldP (fun p => hasP s p && hasP t p) (s ++ t) = setAnd s t := by
  have h := toldP_spec (g := fun p => hasP s p && hasP t p) (L := s ++ t) fun p q hr => by
    simp only
    rw [asks_has s (fun r h => List.mem_append_left _ h) p q hr, asks_has t (fun r h => List.mem_append_right _ h) p q hr]
  exact set_ext h.1 (setAnd_right s t) fun p => by
    rw [h.2, setAnd_has hs ht, ← Bool.and_assoc, in_range hs]
theorem told_less {s t : List Rg} (hs : setRight (-2) s = true) (ht : setRight (-2) t = true) : toldP (fun p => hasP s p && !hasP t p) (s ++ t) = setLess s t := by
  have h := toldP_spec (g := fun p => hasP s p && !hasP t p) (L := s ++ t) fun p q hr => by
    simp only
    rw [asks_has s (fun r h => List.mem_append_left _ h) p q hr, asks_has t (fun r h => List.mem_append_right _ h) p q hr]
  exact set_ext h.1 (setLess_right s t) fun p => by
    rw [h.2, setLess_has hs ht, ← Bool.and_assoc, in_range hs]
theorem told_not {s : List Rg} (hs : setRight (-2) s = true) : toldP (fun p => !hasP s p) s = setNot s := by
  have h := toldP_spec (g := fun p => !hasP s p) (L := s) fun p q hr => by simp only; rw [asks_has s (fun _ h => h) p q hr]
  exact set_ext h.1 (setNot_right hs) fun p => by rw [h.2, setNot_has hs]
theorem flat_turns (L : List Rg) : (L.flatMap turnsOf).length ≤ 2 * L.length := by
  induction L with
  | nil => simp
  | cons r L ih =>
    have h : (turnsOf r).length ≤ 2 := by unfold turnsOf; rw [List.length_append]; split <;> split <;> simp
    rw [List.flatMap_cons, List.length_append, List.length_cons]
    omega
theorem turns_len (L : List Rg) : (turns L).length ≤ 2 * L.length + 2 := by
  have := flat_turns L
  unfold turns
  rw [List.length_append]
  simp only [List.length_cons, List.length_nil]
  omega
/-! As it is found, place by place. -/
theorem toldGo_step {g : Int → Bool} {A : List Int} {out : List Rg} {k : Nat} {a b : Int} (ha : A[k]? = some a) (hb : A[k + 1]? = some b) : toldGo g out (A.drop k) = toldGo g (stepRg g out a b) (A.drop (k + 1)) := by
  have h1 := (List.getElem?_eq_some_iff.1 ha).1
  have h2 := (List.getElem?_eq_some_iff.1 hb).1
  rw [List.drop_eq_getElem_cons h1, List.drop_eq_getElem_cons h2, (List.getElem?_eq_some_iff.1 ha).2, (List.getElem?_eq_some_iff.1 hb).2, toldGo]
theorem toldGo_end {g : Int → Bool} {A : List Int} {out : List Rg} {k : Nat} (h : A.length ≤ k + 1) : toldGo g out (A.drop k) = out := by
  have hl : (A.drop k).length ≤ 1 := by rw [List.length_drop]; omega
  match A.drop k, hl with
  | [], _ => rfl
  | [x], _ => rfl
theorem told_next {g : Int → Bool} {L : List Rg} {A : List Int} (hperm : A.Perm (turns L)) (hp : A.Pairwise (· ≤ ·)) (hg : AsksOf g L) {out : List Rg} {k : Nat} {a b : Int} (ha : A[k]? = some a) (hb : A[k + 1]? = some b) (h : ToldI g out a) :
    ToldI g (stepRg g out a b) b ∧ 0 ≤ a ∧ a ≤ b ∧ b ≤ 1114112 := by
  have h1 := List.getElem?_eq_some_iff.1 ha
  have h2 := List.getElem?_eq_some_iff.1 hb
  have m1 := turns_mem (hperm.mem_iff.1 (List.mem_of_getElem? ha))
  have m2 := turns_mem (hperm.mem_iff.1 (List.mem_of_getElem? hb))
  have hab : a ≤ b := by
    have := List.pairwise_iff_getElem.1 hp k (k + 1) h1.1 h2.1 (by omega)
    rw [h1.2, h2.2] at this; exact this
  have e : A = A.take k ++ a :: b :: A.drop (k + 2) := by
    conv => lhs; rw [← List.take_append_drop k A, List.drop_eq_getElem_cons h1.1, List.drop_eq_getElem_cons h2.1, h1.2, h2.2]
  exact ⟨stepRg_spec h m1.1 hab m2.2 (steady_of hg hperm hp a b _ _ e), m1.1, hab, m2.2⟩
theorem told_first {g : Int → Bool} {L : List Rg} {A : List Int} (hperm : A.Perm (turns L)) (hp : A.Pairwise (· ≤ ·)) : ∃ a, A[0]? = some a ∧ ToldI g [] a := by
  have m0 : (0 : Int) ∈ A := hperm.mem_iff.2 (by simp [turns])
  match A, hp, m0, hperm with
  | a :: l, hp, m0, hperm =>
    have h1 := turns_mem (hperm.mem_iff.1 (List.mem_cons_self ..))
    have ha : a = 0 := by
      rw [List.pairwise_cons] at hp
      rcases List.mem_cons.1 m0 with h | h
      · exact h.symm
      · have := hp.1 0 h; omega
    exact ⟨a, rfl, rfl, by show -2 + 1 ≤ a; omega, fun p => by rw [hasP_nil, decide_eq_false (by omega), Bool.false_and]⟩
theorem turns_sorted (L : List Rg) : ((turns L).mergeSort fun a b => decide (a ≤ b)).Perm (turns L) ∧ ((turns L).mergeSort fun a b => decide (a ≤ b)).Pairwise (· ≤ ·) := by
  refine ⟨List.mergeSort_perm _ _, ?_⟩
  have := List.pairwise_mergeSort (le := fun a b : Int => decide (a ≤ b)) (fun a b c h1 h2 => by simp only [decide_eq_true_eq] at *; omega) (fun a b => by simp only [Bool.or_eq_true, decide_eq_true_eq]; omega) (turns L)
  exact this.imp fun h => of_decide_eq_true h
theorem joinRg_len (out : List Rg) (a b : Int) : (joinRg out a b).length ≤ out.length + 1 := by
  unfold joinRg
  split
  · simp
  · split
    · rw [List.length_append, List.length_dropLast]; simp
    · simp
theorem stepRg_len (g : Int → Bool) (out : List Rg) (a b : Int) : (stepRg g out a b).length ≤ out.length + 1 := by
  unfold stepRg
  split
  · omega
  · exact joinRg_len out a b
theorem turns_app (A B : List Rg) : turns (A ++ B) = turns A ++ B.flatMap turnsOf := by
  unfold turns
  rw [List.flatMap_append, List.append_assoc]
end Cae
