import Derived.Test.YtnfmbobpagamhaaPvm
namespace Cae

/-- An instruction, its places k further on. -/
def shiftI (k : Nat) (x : I3) : I3 := if x.op = 2 then ⟨x.op, x.a + k, x.b + k⟩ else if x.op = 3 then ⟨x.op, x.a + k, x.b⟩ else x
/-- Code behind k instructions that are jumped over. -/
def moved (k : Nat) (c : CodeP) : CodeP := ⟨c.sets, (⟨3, k, 0⟩ :: List.replicate (k - 1) ⟨5, 0, 0⟩) ++ c.ins.map (shiftI k)⟩

theorem moved_len {k : Nat} (hk : 1 ≤ k) (c : CodeP) : (moved k c).ins.length = k + c.ins.length := by
  simp only [moved, List.length_append, List.length_cons, List.length_replicate, List.length_map]; omega
theorem moved_get {k : Nat} (hk : 1 ≤ k) (c : CodeP) (i : Nat) : (moved k c).ins[k + i]? = (c.ins[i]?).map (shiftI k) := by
  have hl : (⟨3, (k : Int), 0⟩ :: List.replicate (k - 1) (⟨5, 0, 0⟩ : I3)).length = k := by simp; omega
  simp only [moved]
  rw [List.getElem?_append_right (by omega), hl, Nat.add_sub_cancel_left, List.getElem?_map]

theorem shiftI_op (k : Nat) (x : I3) : (shiftI k x).op = x.op := by unfold shiftI; split; rfl; split <;> rfl

theorem moved_right {k : Nat} {c : CodeP} (h1 : 1 ≤ k) (h9 : k ≤ 9) (h60 : c.ins.length ≤ 60) (h : codeRight c = true) : codeRight (moved k c) = true := by
  have hc := CR.of h
  have hlen := moved_len h1 c
  have hone := hc.one
  unfold codeRight
  simp only [Bool.and_eq_true, decide_eq_true_eq, List.all_eq_true]
  refine ⟨⟨⟨⟨by omega, by omega, hc.sets⟩, ?_⟩, ?_⟩, hc.set⟩
  · rw [hlen, show k + c.ins.length - 1 = k + (c.ins.length - 1) by omega, moved_get h1, List.getElem?_eq_getElem (show c.ins.length - 1 < c.ins.length by omega)]
    simp only [Option.map_some, decide_eq_true_eq, shiftI_op]
    have := hc.next (c.ins.length - 1) _ (List.getElem?_eq_getElem (show c.ins.length - 1 < c.ins.length by omega))
    constructor
    · intro h; have := this (.inl h); omega
    · intro h; have := this (.inr h); omega
  · intro x hx
    rw [hlen]
    simp only [moved, List.mem_append, List.mem_cons, List.mem_replicate, List.mem_map] at hx
    rcases hx with (rfl | ⟨_, rfl⟩) | ⟨y, hy, rfl⟩
    · unfold insRight; simp; omega
    · unfold insRight; simp
    · obtain ⟨i, hi⟩ := List.getElem?_of_mem hy
      have hr := insRight_cases (hc.ins i y hi)
      unfold insRight shiftI
      rcases hr with ⟨e, h2⟩ | ⟨e, h2⟩ | ⟨e, h2⟩ | ⟨e | e, h2⟩
      · simp [e]; show 0 ≤ y.a ∧ y.a < c.sets.length ∧ y.b = 0; omega
      · simp [e]; omega
      · simp [e]; omega
      · simp [e]; omega
      · simp [e]; omega

/-- What is reckoned, moved. -/
def shLk (k : Nat) (pre : List Nat) : Lk → Lk
  | .yes st => .yes (st + 1)
  | .no q nx st => .no (pre ++ q.map (k + ·)) (nx.map (k + ·)) (st + 1)

theorem mem_shift {k : Nat} {pre q : List Nat} (hp : ∀ x ∈ pre, x < k) (x : Nat) : (k + x ∈ pre ++ q.map (k + ·)) ↔ x ∈ q := by
  rw [List.mem_append, List.mem_map]
  constructor
  · rintro (h | ⟨y, hy, e⟩)
    · have := hp _ h; omega
    · have : y = x := by omega
      subst this; exact hy
  · intro h; exact .inr ⟨x, h, rfl⟩
theorem addQ_shift {k : Nat} {pre q : List Nat} (hp : ∀ x ∈ pre, x < k) (x : Nat) : addQ (pre ++ q.map (k + ·)) (k + x) = pre ++ (addQ q x).map (k + ·) := by
  unfold addQ
  by_cases h : x ∈ q
  · rw [if_pos h, if_pos ((mem_shift hp x).2 h)]
  · rw [if_neg h, if_neg (fun h' => h ((mem_shift hp x).1 h')), List.map_append, List.append_assoc]; rfl
theorem addQ_shift0 {k : Nat} {q : List Nat} (x : Nat) : addQ (q.map (k + ·)) (k + x) = (addQ q x).map (k + ·) := addQ_shift (pre := []) (fun _ h => by cases h) x

theorem exec1_shift {k : Nat} {c : CodeP} (hc : CR c) {cur : Option Int} {x : I3} {at_ : Nat} {pre q nx : List Nat} (hp : ∀ x ∈ pre, x < k) (hx : c.ins[at_]? = some x) :
    exec1 (moved k c) cur (shiftI k x) (k + at_) (pre ++ q.map (k + ·)) (nx.map (k + ·)) = (pre ++ (exec1 c cur x at_ q nx).1.map (k + ·), (exec1 c cur x at_ q nx).2.map (k + ·)) := by
  have hr := insRight_cases (hc.ins at_ x hx)
  unfold exec1
  rw [shiftI_op]
  rcases hr with ⟨e, h2⟩ | ⟨e, h2⟩ | ⟨e, h2⟩ | ⟨e | e, h2⟩
  · rw [if_neg (by omega), if_neg (by omega), if_neg (by omega), if_neg (by omega), if_neg (by omega), if_neg (by omega)]
    have e1 : shiftI k x = x := by unfold shiftI; rw [if_neg (by omega), if_neg (by omega)]
    cases cur with
    | none => rfl
    | some p =>
      dsimp only
      rw [e1]
      show (_, if hasP (c.sets.getD x.a.toNat []) p = true then _ else _) = _
      split
      · rw [Nat.add_assoc, addQ_shift0]
      · rfl
  · rw [if_pos e, if_pos e]
    have e1 : (shiftI k x).a.toNat = k + x.a.toNat ∧ (shiftI k x).b.toNat = k + x.b.toNat := by unfold shiftI; rw [if_pos e]; simp only; omega
    rw [e1.1, e1.2, addQ_shift hp, addQ_shift hp]
  · rw [if_neg (by omega), if_pos e, if_neg (by omega), if_pos e]
    have e1 : (shiftI k x).a.toNat = k + x.a.toNat := by unfold shiftI; rw [if_neg (by omega), if_pos e]; simp only; omega
    rw [e1, addQ_shift hp]
  · have n2 : ¬ x.op = 2 := by omega
    have n3 : ¬ x.op = 3 := by omega
    simp only [if_neg n2, if_neg n3, if_pos e]
    split
    · rw [Nat.add_assoc, addQ_shift hp]
    · rfl
  · rw [if_neg (by omega), if_neg (by omega), if_neg (by omega), if_neg (by omega), if_neg (by omega), if_neg (by omega)]
    have e1 : shiftI k x = x := by unfold shiftI; rw [if_neg (by omega), if_neg (by omega)]
    cases cur with
    | none => rfl
    | some p =>
      dsimp only
      rw [e1]
      show (_, if hasP (c.sets.getD x.a.toNat []) p = true then _ else _) = _
      split
      · rw [Nat.add_assoc, addQ_shift0]
      · rfl

theorem inner_shift {k : Nat} (hk : 1 ≤ k) {c : CodeP} (hc : CR c) {cur : Option Int} {pre : List Nat} (hp : ∀ x ∈ pre, x < k) : ∀ (f : Nat) (q : List Nat) (i : Nat) (nx : List Nat) (st : Nat), (∀ x ∈ q, x < c.ins.length) → Places c.ins.length q → Places c.ins.length nx →
    inner (moved k c) cur f (pre ++ q.map (k + ·)) (pre.length + i) (nx.map (k + ·)) (st + 1) = shLk k pre (inner c cur f q i nx st)
  | 0, q, i, nx, st, _, _, _ => rfl
  | f + 1, q, i, nx, st, hq, hP, hN => by
    have hg : (pre ++ q.map (k + ·))[pre.length + i]? = (q[i]?).map (k + ·) := by
      rw [List.getElem?_append_right (by omega), Nat.add_sub_cancel_left, List.getElem?_map]
    rw [inner, inner, hg]
    cases hi : q[i]? with
    | none => rfl
    | some at_ =>
      simp only [Option.map_some]
      have hlt := hq at_ (List.mem_of_getElem? hi)
      rw [moved_get hk]
      rw [List.getElem?_eq_getElem hlt]
      simp only [Option.map_some, shiftI_op]
      have hx : c.ins[at_]? = some c.ins[at_] := List.getElem?_eq_getElem hlt
      split
      · rfl
      · rename_i h5
        rw [exec1_shift hc hp hx, Nat.add_assoc]
        obtain ⟨h1, h2⟩ := exec1_places hc (cur := cur) hx h5 hP hN
        exact inner_shift hk hc hp f _ (i + 1) _ (st + 1) h1.2 h1 h2

theorem outer_shift {k : Nat} (h1 : 1 ≤ k) {c : CodeP} (hc : CR c) : ∀ (ps : List Int) (q : List Nat) (st : Nat), Places c.ins.length q → outer (moved k c) ps (q.map (k + ·)) (st + 1) = ((outer c ps q st).1, (outer c ps q st).2 + 1)
  | [], q, st, hq => by
    have hs := inner_shift h1 hc (cur := none) (pre := []) (fun _ h => by cases h) ((moved k c).ins.length + 1) q 0 [] st hq.2 hq (Places.nil _)
    have hf : inner c none ((moved k c).ins.length + 1) q 0 [] st = inner c none (c.ins.length + 1) q 0 [] st := by
      rw [moved_len h1, show k + c.ins.length + 1 = c.ins.length + 1 + k by omega]
      exact inner_fuel hc hq (Places.nil _) (by omega) k
    rw [hf] at hs
    simp only [List.nil_append, List.length_nil, Nat.zero_add, List.map_nil] at hs
    rw [outer, outer, hs]
    cases inner c none (c.ins.length + 1) q 0 [] st <;> rfl
  | p :: ps, q, st, hq => by
    have hs := inner_shift h1 hc (cur := some p) (pre := []) (fun _ h => by cases h) ((moved k c).ins.length + 1) q 0 [] st hq.2 hq (Places.nil _)
    have hf : inner c (some p) ((moved k c).ins.length + 1) q 0 [] st = inner c (some p) (c.ins.length + 1) q 0 [] st := by
      rw [moved_len h1, show k + c.ins.length + 1 = c.ins.length + 1 + k by omega]
      exact inner_fuel hc hq (Places.nil _) (by omega) k
    rw [hf] at hs
    simp only [List.nil_append, List.length_nil, Nat.zero_add, List.map_nil] at hs
    rw [outer, outer, hs]
    cases hi : inner c (some p) (c.ins.length + 1) q 0 [] st with
    | yes st' => rfl
    | no q' nx st' =>
      simp only [shLk]
      have hnx := (inner_places hc _ _ _ _ _ hq (Places.nil _) _ _ _ hi).2
      cases nx with
      | nil => rfl
      | cons y r =>
        simp only [List.map_cons]
        rw [if_neg (by simp), if_neg (by simp)]
        exact outer_shift h1 hc ps (y :: r) st' hnx

theorem vmatch_moved {k : Nat} (h1 : 1 ≤ k) {c : CodeP} (hc : CR c) (ps : List Int) : vmatch (moved k c) ps = ((vmatch c ps).1, (vmatch c ps).2 + 1) := by
  have hone := hc.one
  have hq : Places c.ins.length [0] := Places.one (by omega)
  have hp : ∀ x ∈ [0], x < k := fun x hx => by rw [List.mem_singleton] at hx; omega
  have h0 : (moved k c).ins[0]? = some ⟨3, k, 0⟩ := rfl
  have first : ∀ cur : Option Int, inner (moved k c) cur ((moved k c).ins.length + 1) [0] 0 [] 0 = shLk k [0] (inner c cur (c.ins.length + 1) [0] 0 [] 0) := fun cur => by
    rw [inner]
    simp only [List.getElem?_cons_zero, h0]
    rw [if_neg (by omega)]
    have e : exec1 (moved k c) cur ⟨3, k, 0⟩ 0 [0] [] = ([0, k], []) := by
      unfold exec1
      rw [if_neg (by simp), if_pos rfl]
      simp only [Int.toNat_natCast]
      unfold addQ
      rw [if_neg (by simp; omega)]
      rfl
    rw [e]
    have hs := inner_shift h1 hc (cur := cur) (pre := [0]) hp (moved k c).ins.length [0] 0 [] 0 hq.2 hq (Places.nil _)
    simp only [List.map_cons, List.map_nil, Nat.add_zero, List.length_cons, List.length_nil, Nat.zero_add, List.cons_append, List.nil_append] at hs
    show inner (moved k c) cur (moved k c).ins.length [0, k] 1 [] 1 = _
    rw [hs]
    congr 1
    rw [moved_len h1, show k + c.ins.length = c.ins.length + 1 + (k - 1) by omega]
    exact inner_fuel hc hq (Places.nil _) (by omega) (k - 1)
  unfold vmatch
  cases ps with
  | nil =>
    rw [outer, outer, first]
    cases inner c none (c.ins.length + 1) [0] 0 [] 0 <;> rfl
  | cons p ps =>
    rw [outer, outer, first]
    cases hi : inner c (some p) (c.ins.length + 1) [0] 0 [] 0 with
    | yes st' => rfl
    | no q' nx st' =>
      simp only [shLk]
      have hnx := (inner_places hc _ _ _ _ _ hq (Places.nil _) _ _ _ hi).2
      cases nx with
      | nil => rfl
      | cons y r =>
        simp only [List.map_cons]
        rw [if_neg (by simp), if_neg (by simp)]
        exact outer_shift h1 hc ps (y :: r) st' hnx

/-- How many are looked at, at most. -/
def Lk.steps : Lk → Nat
  | .yes st => st
  | .no _ _ st => st
theorem inner_steps {c : CodeP} {cur : Option Int} : ∀ (f : Nat) (q : List Nat) (k : Nat) (nx : List Nat) (st : Nat), (inner c cur f q k nx st).steps ≤ st + f
  | 0, _, _, _, st => Nat.le_refl _
  | f + 1, q, k, nx, st => by
    rw [inner]
    split
    · simp only [Lk.steps]; omega
    · split
      · simp only [Lk.steps]; omega
      · split
        · simp only [Lk.steps]; omega
        · exact Nat.le_trans (inner_steps f _ (k + 1) _ (st + 1)) (by omega)
theorem outer_steps {c : CodeP} : ∀ (ps : List Int) (q : List Nat) (st : Nat), (outer c ps q st).2 ≤ st + (ps.length + 1) * (c.ins.length + 1)
  | [], q, st => by
    have h := inner_steps (c := c) (cur := none) (c.ins.length + 1) q 0 [] st
    rw [outer]
    split
    · rename_i st' e; rw [e] at h; simp only [Lk.steps] at h; simpa using h
    · rename_i st' e; rw [e] at h; simp only [Lk.steps] at h; simpa using h
  | p :: ps, q, st => by
    have h := inner_steps (c := c) (cur := some p) (c.ins.length + 1) q 0 [] st
    have hm : (ps.length + 1 + 1) * (c.ins.length + 1) = (ps.length + 1) * (c.ins.length + 1) + (c.ins.length + 1) := by rw [Nat.add_mul, Nat.one_mul]
    rw [outer]
    split
    · rename_i st' e; rw [e] at h; simp only [Lk.steps] at h; simp only [List.length_cons]; omega
    · rename_i q' nx st' e
      rw [e] at h
      simp only [Lk.steps] at h
      split
      · simp only [List.length_cons]; omega
      · have := outer_steps (c := c) ps nx st'
        simp only [List.length_cons]
        omega
theorem vmatch_steps (c : CodeP) (ps : List Int) : (vmatch c ps).2 ≤ (ps.length + 1) * (c.ins.length + 1) := by
  have := outer_steps (c := c) ps [0] 0
  unfold vmatch
  omega
end Cae
