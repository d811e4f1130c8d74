import Derived.Test.YtimjpijbcnjaaaaDoorVm
set_option linter.unusedSimpArgs false
set_option linter.unusedVariables false
namespace Cae

/-! Sets, instructions, code: as they are read. -/
abbrev Rg := Int × Int
structure I3 where
  op : Int
  a : Int
  b : Int
  deriving DecidableEq
structure CodeP where
  sets : List (List Rg)
  ins : List I3
  deriving DecidableEq

def setRight : Int → List Rg → Bool
  | _, [] => true
  | last, r :: s => if r.1 ≤ last + 1 ∨ r.2 < r.1 ∨ 1114111 < r.2 then false else setRight r.2 s

def hasP (s : List Rg) (p : Int) : Bool := s.any fun r => decide (r.1 ≤ p ∧ p ≤ r.2)

def insRight (x : I3) (sets n : Int) : Bool :=
  if x.op = 1 then decide (0 ≤ x.a ∧ x.a < sets ∧ x.b = 0)
  else if x.op = 2 then decide ((0 ≤ x.a ∧ x.a < n) ∧ (0 ≤ x.b ∧ x.b < n))
  else if x.op = 3 then decide ((0 ≤ x.a ∧ x.a < n) ∧ x.b = 0)
  else if x.op = 4 ∨ x.op = 5 then decide (x.a = 0 ∧ x.b = 0)
  else false

def codeRight (c : CodeP) : Bool :=
  decide (1 ≤ c.ins.length ∧ c.ins.length ≤ 2000 ∧ c.sets.length ≤ 2000) &&
  (match c.ins[c.ins.length - 1]? with | some x => decide (x.op ≠ 1 ∧ x.op ≠ 4) | none => false) &&
  c.ins.all (fun x => insRight x c.sets.length c.ins.length) && c.sets.all (setRight (-2))

/-- Where a set begins: all below is less. -/
theorem setRight_sorted : ∀ (s : List Rg) (last : Int), setRight last s = true → ∀ (i : Nat) (r : Rg), s[i]? = some r → last + 1 < r.1 ∧ r.1 ≤ r.2 ∧ r.2 ≤ 1114111 ∧ ∀ (j : Nat) (q : Rg), i < j → s[j]? = some q → r.2 + 1 < q.1
  | [], _, _, i, r, hr => by simp at hr
  | x :: s, last, h, i, r, hr => by
    unfold setRight at h
    split at h
    · cases h
    · rename_i hx
      have ih := setRight_sorted s x.2 h
      cases i with
      | zero =>
        simp at hr; subst hr
        refine ⟨by omega, by omega, by omega, fun j q hj hq => ?_⟩
        obtain ⟨k, rfl⟩ : ∃ k, j = k + 1 := ⟨j - 1, by omega⟩
        exact (ih k q (by simpa using hq)).1
      | succ i =>
        have hr' : s[i]? = some r := by simpa using hr
        obtain ⟨h1, h2, h3, h4⟩ := ih i r hr'
        refine ⟨by omega, h2, h3, fun j q hj hq => ?_⟩
        obtain ⟨k, rfl⟩ : ∃ k, j = k + 1 := ⟨j - 1, by omega⟩
        exact h4 k q (by omega) (by simpa using hq)

/-! The machine. -/
def addQ (q : List Nat) (k : Nat) : List Nat := if k ∈ q then q else q ++ [k]

/-- What comes of a place's list: found, or the list, the next place's, and how many were looked at. -/
inductive Lk
  | yes (st : Nat)
  | no (q nx : List Nat) (st : Nat)

/-- One instruction: the list behind it, the next place's. -/
def exec1 (c : CodeP) (cur : Option Int) (x : I3) (at_ : Nat) (q nx : List Nat) : List Nat × List Nat :=
  if x.op = 2 then (addQ (addQ q x.a.toNat) x.b.toNat, nx)
  else if x.op = 3 then (addQ q x.a.toNat, nx)
  else if x.op = 4 then (if cur.isNone then addQ q (at_ + 1) else q, nx)
  else match cur with
    | some p => (q, if hasP (c.sets.getD x.a.toNat []) p then addQ nx (at_ + 1) else nx)
    | none => (q, nx)

def inner (c : CodeP) (cur : Option Int) : Nat → List Nat → Nat → List Nat → Nat → Lk
  | 0, q, _, nx, st => .no q nx st
  | f + 1, q, k, nx, st => match q[k]? with
    | none => .no q nx st
    | some at_ => match c.ins[at_]? with
      | none => .no q nx st
      | some x => if x.op = 5 then .yes (st + 1)
        else inner c cur f (exec1 c cur x at_ q nx).1 (k + 1) (exec1 c cur x at_ q nx).2 (st + 1)

def outer (c : CodeP) : List Int → List Nat → Nat → Bool × Nat
  | [], q, st => match inner c none (c.ins.length + 1) q 0 [] st with
    | .yes st' => (true, st')
    | .no _ _ st' => (false, st')
  | p :: ps, q, st => match inner c (some p) (c.ins.length + 1) q 0 [] st with
    | .yes st' => (true, st')
    | .no _ nx st' => if nx = [] then (false, st') else outer c ps nx st'

def vmatch (c : CodeP) (ps : List Int) : Bool × Nat := outer c ps [0] 0

/-! Lists of places: each once, each a place. -/
def Places (n : Nat) (q : List Nat) : Prop := q.Nodup ∧ ∀ k ∈ q, k < n

theorem Places.add {n : Nat} {q : List Nat} {k : Nat} (h : Places n q) (hk : k < n) : Places n (addQ q k) := by
  unfold addQ
  split
  · exact h
  · rename_i hn
    refine ⟨?_, fun j hj => ?_⟩
    · rw [List.nodup_append]
      exact ⟨h.1, by simp, fun a ha b hb => by rw [List.mem_singleton] at hb; subst hb; intro e; subst e; exact hn ha⟩
    · rw [List.mem_append, List.mem_singleton] at hj
      rcases hj with hj | rfl
      · exact h.2 j hj
      · exact hk
theorem Places.nil (n : Nat) : Places n [] := ⟨List.nodup_nil, fun _ h => by cases h⟩
theorem Places.one {n k : Nat} (h : k < n) : Places n [k] := ⟨by simp, fun j hj => by rw [List.mem_singleton] at hj; omega⟩
theorem nodup_bound : ∀ (n : Nat) (q : List Nat), q.Nodup → (∀ k ∈ q, k < n) → q.length ≤ n
  | 0, [], _, _ => Nat.le_refl _
  | 0, x :: q, _, h => absurd (h x (by simp)) (by omega)
  | n + 1, q, h1, h2 => by
    have h3 := nodup_bound n (q.erase n) (h1.erase n) (fun k hk => by
      have := (h1.mem_erase_iff).1 hk
      have := h2 k this.2
      omega)
    rw [List.length_erase] at h3
    split at h3 <;> omega
theorem Places.len {n : Nat} {q : List Nat} (h : Places n q) : q.length ≤ n := nodup_bound n q h.1 h.2

/-- What codeRight says. -/
structure CR (c : CodeP) : Prop where
  one : 1 ≤ c.ins.length
  many : c.ins.length ≤ 2000
  sets : c.sets.length ≤ 2000
  ins : ∀ (i : Nat) (x : I3), c.ins[i]? = some x → insRight x c.sets.length c.ins.length = true
  next : ∀ (i : Nat) (x : I3), c.ins[i]? = some x → (x.op = 1 ∨ x.op = 4) → i + 1 < c.ins.length
  set : ∀ s ∈ c.sets, setRight (-2) s = true
theorem CR.of {c : CodeP} (h : codeRight c = true) : CR c := by
  unfold codeRight at h
  simp only [Bool.and_eq_true, decide_eq_true_eq, List.all_eq_true] at h
  obtain ⟨⟨⟨⟨h1, h2, h3⟩, hl⟩, hi⟩, hs⟩ := h
  refine ⟨h1, h2, h3, fun i x hx => hi x (List.mem_of_getElem? hx), fun i x hx hop => ?_, hs⟩
  have hlt := (List.getElem?_eq_some_iff.1 hx).1
  rcases Nat.lt_or_ge (i + 1) c.ins.length with h | h
  · exact h
  · have e : i = c.ins.length - 1 := by omega
    subst e
    rw [hx] at hl
    simp only [decide_eq_true_eq] at hl
    rcases hop with h | h
    · exact absurd h hl.1
    · exact absurd h hl.2

theorem insRight_cases {x : I3} {s n : Int} (h : insRight x s n = true) :
    (x.op = 1 ∧ 0 ≤ x.a ∧ x.a < s ∧ x.b = 0) ∨ (x.op = 2 ∧ 0 ≤ x.a ∧ x.a < n ∧ 0 ≤ x.b ∧ x.b < n) ∨ (x.op = 3 ∧ 0 ≤ x.a ∧ x.a < n ∧ x.b = 0) ∨ ((x.op = 4 ∨ x.op = 5) ∧ x.a = 0 ∧ x.b = 0) := by
  unfold insRight at h
  split at h
  · rename_i e; simp only [decide_eq_true_eq] at h; exact .inl ⟨e, h⟩
  · split at h
    · rename_i e; simp only [decide_eq_true_eq] at h; exact .inr (.inl ⟨e, h.1.1, h.1.2, h.2⟩)
    · split at h
      · rename_i e; simp only [decide_eq_true_eq] at h; exact .inr (.inr (.inl ⟨e, h.1.1, h.1.2, h.2⟩))
      · split at h
        · rename_i e; simp only [decide_eq_true_eq] at h; exact .inr (.inr (.inr ⟨e, h⟩))
        · cases h

theorem exec1_places {c : CodeP} (hc : CR c) {cur : Option Int} {x : I3} {at_ : Nat} {q nx : List Nat} (hx : c.ins[at_]? = some x) (h5 : x.op ≠ 5) (hq : Places c.ins.length q) (hn : Places c.ins.length nx) :
    Places c.ins.length (exec1 c cur x at_ q nx).1 ∧ Places c.ins.length (exec1 c cur x at_ q nx).2 := by
  have hr := insRight_cases (hc.ins at_ x hx)
  have hnx := hc.next at_ x hx
  unfold exec1
  rcases hr with ⟨e, h1, h2, h3⟩ | ⟨e, h1, h2, h3, h4⟩ | ⟨e, h1, h2, h3⟩ | ⟨e | e, h1, h2⟩
  · rw [if_neg (by omega), if_neg (by omega), if_neg (by omega)]
    cases cur with
    | none => exact ⟨hq, hn⟩
    | some p =>
      refine ⟨hq, ?_⟩
      dsimp only
      split
      · exact hn.add (hnx (.inl e))
      · exact hn
  · rw [if_pos e]
    exact ⟨(hq.add (by omega)).add (by omega), hn⟩
  · rw [if_neg (by omega), if_pos e]
    exact ⟨hq.add (by omega), hn⟩
  · rw [if_neg (by omega), if_neg (by omega), if_pos e]
    refine ⟨?_, hn⟩
    dsimp only
    split
    · exact hq.add (hnx (.inr e))
    · exact hq
  · exact absurd e h5

theorem inner_more {c : CodeP} (hc : CR c) {cur : Option Int} : ∀ (f : Nat) (q : List Nat) (k : Nat) (nx : List Nat) (st : Nat), Places c.ins.length q → Places c.ins.length nx → c.ins.length + 1 ≤ f + k →
    inner c cur (f + 1) q k nx st = inner c cur f q k nx st
  | 0, q, k, nx, st, hq, hn, hf => by
    have := hq.len
    unfold inner
    rw [List.getElem?_eq_none (by omega)]
  | f + 1, q, k, nx, st, hq, hn, hf => by
    rw [inner, inner]
    split
    · rfl
    · rename_i at_ hat
      split
      · rfl
      · rename_i x hx
        split
        · rfl
        · rename_i h5
          obtain ⟨h1, h2⟩ := exec1_places hc (cur := cur) hx h5 hq hn
          exact inner_more hc f _ _ _ _ h1 h2 (by omega)

theorem addQ_len (q : List Nat) (k : Nat) : q.length ≤ (addQ q k).length := by
  unfold addQ; split
  · exact Nat.le_refl _
  · simp
theorem inner_yes {c : CodeP} {cur : Option Int} {f : Nat} {q : List Nat} {k : Nat} {nx : List Nat} {st at_ : Nat} {x : I3} (h1 : q[k]? = some at_) (h2 : c.ins[at_]? = some x) (h5 : x.op = 5) : inner c cur (f + 1) q k nx st = .yes (st + 1) := by
  rw [inner, h1]; dsimp only; rw [h2]; dsimp only; rw [if_pos h5]
theorem inner_step {c : CodeP} {cur : Option Int} {f : Nat} {q : List Nat} {k : Nat} {nx : List Nat} {st at_ : Nat} {x : I3} (h1 : q[k]? = some at_) (h2 : c.ins[at_]? = some x) (h5 : x.op ≠ 5) :
    inner c cur (f + 1) q k nx st = inner c cur f (exec1 c cur x at_ q nx).1 (k + 1) (exec1 c cur x at_ q nx).2 (st + 1) := by
  rw [inner, h1]; dsimp only; rw [h2]; dsimp only; rw [if_neg h5]
theorem inner_end {c : CodeP} {cur : Option Int} {f : Nat} {q : List Nat} {k : Nat} {nx : List Nat} {st : Nat} (h1 : q[k]? = none) : inner c cur (f + 1) q k nx st = .no q nx st := by
  rw [inner, h1]

theorem outer_eq (c : CodeP) (ps : List Int) (i : Nat) (q : List Nat) (st : Nat) (hi : i ≤ ps.length) : outer c (ps.drop i) q st =
    match inner c ps[i]? (c.ins.length + 1) q 0 [] st with
    | .yes st' => (true, st')
    | .no _ nx st' => if ps.length ≤ i ∨ nx = [] then (false, st') else outer c (ps.drop (i + 1)) nx st' := by
  rcases Nat.lt_or_ge i ps.length with h | h
  · rw [List.drop_eq_getElem_cons h, List.getElem?_eq_getElem h, outer]
    split
    · rfl
    · split
      · rename_i e; rw [if_pos (.inr e)]
      · rename_i e; rw [if_neg (by intro h'; rcases h' with h' | h'; omega; exact e h')]
  · rw [List.drop_eq_nil_of_le h, List.getElem?_eq_none h, outer]
    split
    · rfl
    · rw [if_pos (.inl h)]

theorem inner_fuel {c : CodeP} (hc : CR c) {cur : Option Int} {q : List Nat} {k : Nat} {nx : List Nat} {st : Nat} (hq : Places c.ins.length q) (hn : Places c.ins.length nx) {f : Nat} (hf : c.ins.length + 1 ≤ f + k) :
    ∀ d, inner c cur (f + d) q k nx st = inner c cur f q k nx st
  | 0 => rfl
  | d + 1 => by rw [← Nat.add_assoc, inner_more hc (f + d) q k nx st hq hn (by omega), inner_fuel hc hq hn hf d]

/-- The lists that come of a place. -/
theorem inner_places {c : CodeP} (hc : CR c) {cur : Option Int} : ∀ (f : Nat) (q : List Nat) (k : Nat) (nx : List Nat) (st : Nat), Places c.ins.length q → Places c.ins.length nx →
    ∀ q' nx' st', inner c cur f q k nx st = .no q' nx' st' → Places c.ins.length q' ∧ Places c.ins.length nx'
  | 0, q, k, nx, st, hq, hn, q', nx', st', h => by
    rw [inner] at h; cases h; exact ⟨hq, hn⟩
  | f + 1, q, k, nx, st, hq, hn, q', nx', st', h => by
    rw [inner] at h
    split at h
    · cases h; exact ⟨hq, hn⟩
    · split at h
      · cases h; exact ⟨hq, hn⟩
      · rename_i x hx
        split at h
        · cases h
        · rename_i h5
          obtain ⟨h1, h2⟩ := exec1_places hc (cur := cur) hx h5 hq hn
          exact inner_places hc f _ _ _ _ h1 h2 _ _ _ h
end Cae
