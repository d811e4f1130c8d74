import Derived.Test.YtplbgmoeannobaaGreatDoorV
section
set_option linter.unusedSimpArgs false
set_option linter.unusedVariables false
namespace Cae
open Go Go.Vc

theorem wrap_i64 {n : Int} (h : -9223372036854775808 ≤ n ∧ n ≤ 9223372036854775807) : IntKind.i64.wrap n = n := by rw [IntKind.wrap_i64]; omega
theorem wrap_i64_nat {n : Nat} (h : n < 9223372036854775808) : IntKind.i64.wrap (n : Int) = n := wrap_i64 (by omega)
theorem wrap_u8 (n : Int) : IntKind.u8.wrap n = n % 256 := by simp [IntKind.wrap, IntKind.bits, IntKind.signed]
theorem wrap_u8_nat (n : Nat) : IntKind.u8.wrap (n : Int) = ((n % 256 : Nat) : Int) := by rw [wrap_u8]; omega
theorem wrap_u32_nat (n : Nat) : IntKind.u32.wrap (n : Int) = ((n % 4294967296 : Nat) : Int) := by simp [IntKind.wrap, IntKind.bits, IntKind.signed]
theorem wrap_u64_nat (n : Nat) : IntKind.u64.wrap (n : Int) = ((n % 18446744073709551616 : Nat) : Int) := by simp [IntKind.wrap, IntKind.bits, IntKind.signed]

theorem ofInt_nat (n x : Nat) : BitVec.ofInt n (x : Int) = BitVec.ofNat n x := by
  apply BitVec.eq_of_toNat_eq
  simp

theorem and_lt {x y n : Nat} (h : x < 2 ^ n) : x &&& y < 2 ^ n := Nat.lt_of_le_of_lt Nat.and_le_left h
theorem bits_and_i64 {x y : Nat} (hx : x < 9223372036854775808) (hy : y < 9223372036854775808) : bitop .and .i64 x y = ((x &&& y : Nat) : Int) := by
  simp only [bitop, ofInt_nat, BitVec.toNat_and, BitVec.toNat_ofNat]
  rw [Nat.mod_eq_of_lt (show x < 2 ^ IntKind.i64.bits by show x < 2 ^ 64; omega), Nat.mod_eq_of_lt (show y < 2 ^ IntKind.i64.bits by show y < 2 ^ 64; omega)]
  exact wrap_i64_nat (and_lt (n := 63) hx)
theorem bits_or_i64 {x y : Nat} (hx : x < 9223372036854775808) (hy : y < 9223372036854775808) : bitop .or .i64 x y = ((x ||| y : Nat) : Int) := by
  simp only [bitop, ofInt_nat, BitVec.toNat_or, BitVec.toNat_ofNat]
  rw [Nat.mod_eq_of_lt (show x < 2 ^ IntKind.i64.bits by show x < 2 ^ 64; omega), Nat.mod_eq_of_lt (show y < 2 ^ IntKind.i64.bits by show y < 2 ^ 64; omega)]
  exact wrap_i64_nat (Nat.or_lt_two_pow (n := 63) hx hy)
theorem bits_and_u8 {x y : Nat} (hx : x < 256) (hy : y < 256) : bitop .and .u8 x y = ((x &&& y : Nat) : Int) := by
  simp only [bitop, ofInt_nat, BitVec.toNat_and, BitVec.toNat_ofNat]
  rw [Nat.mod_eq_of_lt (show x < 2 ^ IntKind.u8.bits by show x < 2 ^ 8; omega), Nat.mod_eq_of_lt (show y < 2 ^ IntKind.u8.bits by show y < 2 ^ 8; omega), wrap_u8_nat, Nat.mod_eq_of_lt (and_lt (n := 8) hx)]
theorem bits_or_u8 {x y : Nat} (hx : x < 256) (hy : y < 256) : bitop .or .u8 x y = ((x ||| y : Nat) : Int) := by
  simp only [bitop, ofInt_nat, BitVec.toNat_or, BitVec.toNat_ofNat]
  rw [Nat.mod_eq_of_lt (show x < 2 ^ IntKind.u8.bits by show x < 2 ^ 8; omega), Nat.mod_eq_of_lt (show y < 2 ^ IntKind.u8.bits by show y < 2 ^ 8; omega), wrap_u8_nat, Nat.mod_eq_of_lt (Nat.or_lt_two_pow (n := 8) hx hy)]

theorem and_mask (x k : Nat) : x &&& (2 ^ k - 1) = x % 2 ^ k := Nat.and_two_pow_sub_one_eq_mod x k
theorem or_low {p x k : Nat} (h : x < 2 ^ k) : p * 2 ^ k ||| x = p * 2 ^ k + x := by
  rw [Nat.mul_comm]; exact (Nat.two_pow_add_eq_or_of_lt h p).symm

/-- A shift to the left by a known number, nothing lost. -/
theorem shl_i64 {p k : Nat} {b : Int} (hb : b.toNat = k) (hk : k ≤ 64) (h : p * 2 ^ k < 9223372036854775808) : IntKind.i64.wrap ((p : Int) * 2 ^ min b.toNat IntKind.i64.bits) = ((p * 2 ^ k : Nat) : Int) := by
  rw [hb, show min k IntKind.i64.bits = k from Nat.min_eq_left hk]
  rw [show ((p : Int) * 2 ^ k) = ((p * 2 ^ k : Nat) : Int) by first | (push_cast; done) | (push_cast; rfl)]
  exact wrap_i64_nat h
theorem shr_nat {p k : Nat} {b : Int} {kd : IntKind} (hb : b.toNat = k) (hk : k ≤ kd.bits) : ((p : Int).fdiv (2 ^ min b.toNat kd.bits)) = ((p / 2 ^ k : Nat) : Int) := by
  rw [hb, Nat.min_eq_left hk]
  rw [show (2 : Int) ^ k = ((2 ^ k : Nat) : Int) by first | (push_cast; done) | (push_cast; rfl), Int.fdiv_eq_ediv_of_nonneg _ (Int.natCast_nonneg _)]
  rfl
end Cae
end

section
set_option linter.unusedSimpArgs false
set_option linter.unusedVariables false
namespace Cae

/-! Sets, instructions, code: as they are read. -/
abbrev Rg := Int × Int
structure I3 where
  op : Int
  a : Int
  b : Int
  deriving DecidableEq
structure CodeP where
  sets : List (List Rg)
  ins : List I3
  deriving DecidableEq

def setRight : Int → List Rg → Bool
  | _, [] => true
  | last, r :: s => if r.1 ≤ last + 1 ∨ r.2 < r.1 ∨ 1114111 < r.2 then false else setRight r.2 s

def hasP (s : List Rg) (p : Int) : Bool := s.any fun r => decide (r.1 ≤ p ∧ p ≤ r.2)

def insRight (x : I3) (sets n : Int) : Bool :=
  if x.op = 1 then decide (0 ≤ x.a ∧ x.a < sets ∧ x.b = 0)
  else if x.op = 2 then decide ((0 ≤ x.a ∧ x.a < n) ∧ (0 ≤ x.b ∧ x.b < n))
  else if x.op = 3 then decide ((0 ≤ x.a ∧ x.a < n) ∧ x.b = 0)
  else if x.op = 4 ∨ x.op = 5 then decide (x.a = 0 ∧ x.b = 0)
  else false

def codeRight (c : CodeP) : Bool :=
  decide (1 ≤ c.ins.length ∧ c.ins.length ≤ 2000 ∧ c.sets.length ≤ 2000) &&
  (match c.ins[c.ins.length - 1]? with | some x => decide (x.op ≠ 1 ∧ x.op ≠ 4) | none => false) &&
  c.ins.all (fun x => insRight x c.sets.length c.ins.length) && c.sets.all (setRight (-2))

/-- Where a set begins: all below is less. -/
theorem setRight_sorted : ∀ (s : List Rg) (last : Int), setRight last s = true → ∀ (i : Nat) (r : Rg), s[i]? = some r → last + 1 < r.1 ∧ r.1 ≤ r.2 ∧ r.2 ≤ 1114111 ∧ ∀ (j : Nat) (q : Rg), i < j → s[j]? = some q → r.2 + 1 < q.1
  | [], _, _, i, r, hr => by simp at hr
  | x :: s, last, h, i, r, hr => by
    unfold setRight at h
    split at h
    · cases h
    · rename_i hx
      have ih := setRight_sorted s x.2 h
      cases i with
      | zero =>
        simp at hr; subst hr
        refine ⟨by omega, by omega, by omega, fun j q hj hq => ?_⟩
        obtain ⟨k, rfl⟩ : ∃ k, j = k + 1 := ⟨j - 1, by omega⟩
        exact (ih k q (by simpa using hq)).1
      | succ i =>
        have hr' : s[i]? = some r := by simpa using hr
        obtain ⟨h1, h2, h3, h4⟩ := ih i r hr'
        refine ⟨by omega, h2, h3, fun j q hj hq => ?_⟩
        obtain ⟨k, rfl⟩ : ∃ k, j = k + 1 := ⟨j - 1, by omega⟩
        exact h4 k q (by omega) (by simpa using hq)

/-! The machine. -/
def addQ (q : List Nat) (k : Nat) : List Nat := if k ∈ q then q else q ++ [k]

/-- What comes of a place's list: found, or the list, the next place's, and how many were looked at. -/
inductive Lk
  | yes (st : Nat)
  | no (q nx : List Nat) (st : Nat)

/-- One instruction: the list behind it, the next place's. -/
def exec1 (c : CodeP) (cur : Option Int) (x : I3) (at_ : Nat) (q nx : List Nat) : List Nat × List Nat :=
  if x.op = 2 then (addQ (addQ q x.a.toNat) x.b.toNat, nx)
  else if x.op = 3 then (addQ q x.a.toNat, nx)
  else if x.op = 4 then (if cur.isNone then addQ q (at_ + 1) else q, nx)
  else match cur with
    | some p => (q, if hasP (c.sets.getD x.a.toNat []) p then addQ nx (at_ + 1) else nx)
    | none => (q, nx)

def inner (c : CodeP) (cur : Option Int) : Nat → List Nat → Nat → List Nat → Nat → Lk
  | 0, q, _, nx, st => .no q nx st
  | f + 1, q, k, nx, st => match q[k]? with
    | none => .no q nx st
    | some at_ => match c.ins[at_]? with
      | none => .no q nx st
      | some x => if x.op = 5 then .yes (st + 1)
        else inner c cur f (exec1 c cur x at_ q nx).1 (k + 1) (exec1 c cur x at_ q nx).2 (st + 1)

def outer (c : CodeP) : List Int → List Nat → Nat → Bool × Nat
  | [], q, st => match inner c none (c.ins.length + 1) q 0 [] st with
    | .yes st' => (true, st')
    | .no _ _ st' => (false, st')
  | p :: ps, q, st => match inner c (some p) (c.ins.length + 1) q 0 [] st with
    | .yes st' => (true, st')
    | .no _ nx st' => if nx = [] then (false, st') else outer c ps nx st'

def vmatch (c : CodeP) (ps : List Int) : Bool × Nat := outer c ps [0] 0

/-! Lists of places: each once, each a place. -/
def Places (n : Nat) (q : List Nat) : Prop := q.Nodup ∧ ∀ k ∈ q, k < n

theorem Places.add {n : Nat} {q : List Nat} {k : Nat} (h : Places n q) (hk : k < n) : Places n (addQ q k) := by
  unfold addQ
  split
  · exact h
  · rename_i hn
    refine ⟨?_, fun j hj => ?_⟩
    · rw [List.nodup_append]
      exact ⟨h.1, by simp, fun a ha b hb => by rw [List.mem_singleton] at hb; subst hb; intro e; subst e; exact hn ha⟩
    · rw [List.mem_append, List.mem_singleton] at hj
      rcases hj with hj | rfl
      · exact h.2 j hj
      · exact hk
theorem Places.nil (n : Nat) : Places n [] := ⟨List.nodup_nil, fun _ h => by cases h⟩
theorem Places.one {n k : Nat} (h : k < n) : Places n [k] := ⟨by simp, fun j hj => by rw [List.mem_singleton] at hj; omega⟩
theorem nodup_bound : ∀ (n : Nat) (q : List Nat), q.Nodup → (∀ k ∈ q, k < n) → q.length ≤ n
  | 0, [], _, _ => Nat.le_refl _
  | 0, x :: q, _, h => absurd (h x (by simp)) (by omega)
  | n + 1, q, h1, h2 => by
    have h3 := nodup_bound n (q.erase n) (h1.erase n) (fun k hk => by
      have := (h1.mem_erase_iff).1 hk
      have := h2 k this.2
      omega)
    rw [List.length_erase] at h3
    split at h3 <;> omega
theorem Places.len {n : Nat} {q : List Nat} (h : Places n q) : q.length ≤ n := nodup_bound n q h.1 h.2

/-- What codeRight says. -/
structure CR (c : CodeP) : Prop where
  one : 1 ≤ c.ins.length
  many : c.ins.length ≤ 2000
  sets : c.sets.length ≤ 2000
  ins : ∀ (i : Nat) (x : I3), c.ins[i]? = some x → insRight x c.sets.length c.ins.length = true
  next : ∀ (i : Nat) (x : I3), c.ins[i]? = some x → (x.op = 1 ∨ x.op = 4) → i + 1 < c.ins.length
  set : ∀ s ∈ c.sets, setRight (-2) s = true
theorem CR.of {c : CodeP} (h : codeRight c = true) : CR c := by
  unfold codeRight at h
  simp only [Bool.and_eq_true, decide_eq_true_eq, List.all_eq_true] at h
  obtain ⟨⟨⟨⟨h1, h2, h3⟩, hl⟩, hi⟩, hs⟩ := h
  refine ⟨h1, h2, h3, fun i x hx => hi x (List.mem_of_getElem? hx), fun i x hx hop => ?_, hs⟩
  have hlt := (List.getElem?_eq_some_iff.1 hx).1
  rcases Nat.lt_or_ge (i + 1) c.ins.length with h | h
  · exact h
  · have e : i = c.ins.length - 1 := by omega
    subst e
    rw [hx] at hl
    simp only [decide_eq_true_eq] at hl
    rcases hop with h | h
    · exact absurd h hl.1
    · exact absurd h hl.2

theorem insRight_cases {x : I3} {s n : Int} (h : insRight x s n = true) :
    (x.op = 1 ∧ 0 ≤ x.a ∧ x.a < s ∧ x.b = 0) ∨ (x.op = 2 ∧ 0 ≤ x.a ∧ x.a < n ∧ 0 ≤ x.b ∧ x.b < n) ∨ (x.op = 3 ∧ 0 ≤ x.a ∧ x.a < n ∧ x.b = 0) ∨ ((x.op = 4 ∨ x.op = 5) ∧ x.a = 0 ∧ x.b = 0) := by
  unfold insRight at h
  split at h
  · rename_i e; simp only [decide_eq_true_eq] at h; exact .inl ⟨e, h⟩
  · split at h
    · rename_i e; simp only [decide_eq_true_eq] at h; exact .inr (.inl ⟨e, h.1.1, h.1.2, h.2⟩)
    · split at h
      · rename_i e; simp only [decide_eq_true_eq] at h; exact .inr (.inr (.inl ⟨e, h.1.1, h.1.2, h.2⟩))
      · split at h
        · rename_i e; simp only [decide_eq_true_eq] at h; exact .inr (.inr (.inr ⟨e, h⟩))
        · cases h

theorem exec1_places {c : CodeP} (hc : CR c) {cur : Option Int} {x : I3} {at_ : Nat} {q nx : List Nat} (hx : c.ins[at_]? = some x) (h5 : x.op ≠ 5) (hq : Places c.ins.length q) (hn : Places c.ins.length nx) :
    Places c.ins.length (exec1 c cur x at_ q nx).1 ∧ Places c.ins.length (exec1 c cur x at_ q nx).2 := by
  have hr := insRight_cases (hc.ins at_ x hx)
  have hnx := hc.next at_ x hx
  unfold exec1
  rcases hr with ⟨e, h1, h2, h3⟩ | ⟨e, h1, h2, h3, h4⟩ | ⟨e, h1, h2, h3⟩ | ⟨e | e, h1, h2⟩
  · rw [if_neg (by omega), if_neg (by omega), if_neg (by omega)]
    cases cur with
    | none => exact ⟨hq, hn⟩
    | some p =>
      refine ⟨hq, ?_⟩
      dsimp only
      split
      · exact hn.add (hnx (.inl e))
      · exact hn
  · rw [if_pos e]
    exact ⟨(hq.add (by omega)).add (by omega), hn⟩
  · rw [if_neg (by omega), if_pos e]
    exact ⟨hq.add (by omega), hn⟩
  · rw [if_neg (by omega), if_neg (by omega), if_pos e]
    refine ⟨?_, hn⟩
    dsimp only
    split
    · exact hq.add (hnx (.inr e))
    · exact hq
  · exact absurd e h5

theorem inner_more {c : CodeP} (hc : CR c) {cur : Option Int} : ∀ (f : Nat) (q : List Nat) (k : Nat) (nx : List Nat) (st : Nat), Places c.ins.length q → Places c.ins.length nx → c.ins.length + 1 ≤ f + k →
    inner c cur (f + 1) q k nx st = inner c cur f q k nx st
  | 0, q, k, nx, st, hq, hn, hf => by
    have := hq.len
    unfold inner
    rw [List.getElem?_eq_none (by omega)]
  | f + 1, q, k, nx, st, hq, hn, hf => by
    rw [inner, inner]
    split
    · rfl
    · rename_i at_ hat
      split
      · rfl
      · rename_i x hx
        split
        · rfl
        · rename_i h5
          obtain ⟨h1, h2⟩ := exec1_places hc (cur := cur) hx h5 hq hn
          exact inner_more hc f _ _ _ _ h1 h2 (by omega)

theorem addQ_len (q : List Nat) (k : Nat) : q.length ≤ (addQ q k).length := by
  unfold addQ; split
  · exact Nat.le_refl _
  · simp
theorem inner_yes {c : CodeP} {cur : Option Int} {f : Nat} {q : List Nat} {k : Nat} {nx : List Nat} {st at_ : Nat} {x : I3} (h1 : q[k]? = some at_) (h2 : c.ins[at_]? = some x) (h5 : x.op = 5) : inner c cur (f + 1) q k nx st = .yes (st + 1) := by
  rw [inner, h1]; dsimp only; rw [h2]; dsimp only; rw [if_pos h5]
theorem inner_step {c : CodeP} {cur : Option Int} {f : Nat} {q : List Nat} {k : Nat} {nx : List Nat} {st at_ : Nat} {x : I3} (h1 : q[k]? = some at_) (h2 : c.ins[at_]? = some x) (h5 : x.op ≠ 5) :
    inner c cur (f + 1) q k nx st = inner c cur f (exec1 c cur x at_ q nx).1 (k + 1) (exec1 c cur x at_ q nx).2 (st + 1) := by
  rw [inner, h1]; dsimp only; rw [h2]; dsimp only; rw [if_neg h5]
theorem inner_end {c : CodeP} {cur : Option Int} {f : Nat} {q : List Nat} {k : Nat} {nx : List Nat} {st : Nat} (h1 : q[k]? = none) : inner c cur (f + 1) q k nx st = .no q nx st := by
  rw [inner, h1]

theorem outer_eq (c : CodeP) (ps : List Int) (i : Nat) (q : List Nat) (st : Nat) (hi : i ≤ ps.length) : outer c (ps.drop i) q st =
    match inner c ps[i]? (c.ins.length + 1) q 0 [] st with
    | .yes st' => (true, st')
    | .no _ nx st' => if ps.length ≤ i ∨ nx = [] then (false, st') else outer c (ps.drop (i + 1)) nx st' := by
  rcases Nat.lt_or_ge i ps.length with h | h
  · rw [List.drop_eq_getElem_cons h, List.getElem?_eq_getElem h, outer]
    split
    · rfl
    · split
      · rename_i e; rw [if_pos (.inr e)]
      · rename_i e; rw [if_neg (by intro h'; rcases h' with h' | h'; omega; exact e h')]
  · rw [List.drop_eq_nil_of_le h, List.getElem?_eq_none h, outer]
    split
    · rfl
    · rw [if_pos (.inl h)]

theorem inner_fuel {c : CodeP} (hc : CR c) {cur : Option Int} {q : List Nat} {k : Nat} {nx : List Nat} {st : Nat} (hq : Places c.ins.length q) (hn : Places c.ins.length nx) {f : Nat} (hf : c.ins.length + 1 ≤ f + k) :
    ∀ d, inner c cur (f + d) q k nx st = inner c cur f q k nx st
  | 0 => rfl
  | d + 1 => by rw [← Nat.add_assoc, inner_more hc (f + d) q k nx st hq hn (by omega), inner_fuel hc hq hn hf d]

/-- The lists that come of a place. -/
theorem inner_places {c : CodeP} (hc : CR c) {cur : Option Int} : ∀ (f : Nat) (q : List Nat) (k : Nat) (nx : List Nat) (st : Nat), Places c.ins.length q → Places c.ins.length nx →
    ∀ q' nx' st', inner c cur f q k nx st = .no q' nx' st' → Places c.ins.length q' ∧ Places c.ins.length nx'
  | 0, q, k, nx, st, hq, hn, q', nx', st', h => by
    rw [inner] at h; cases h; exact ⟨hq, hn⟩
  | f + 1, q, k, nx, st, hq, hn, q', nx', st', h => by
    rw [inner] at h
    split at h
    · cases h; exact ⟨hq, hn⟩
    · split at h
      · cases h; exact ⟨hq, hn⟩
      · rename_i x hx
        split at h
        · cases h
        · rename_i h5
          obtain ⟨h1, h2⟩ := exec1_places hc (cur := cur) hx h5 hq hn
          exact inner_places hc f _ _ _ _ h1 h2 _ _ _ h
end Cae
end

section
set_option linter.unusedSimpArgs false
set_option linter.unusedVariables false
namespace Cae

/-! Programs as bytes. -/
structure PairP where
  brk : Bool
  before : CodeP
  after : CodeP
  deriving DecidableEq
structure ProgP where
  rules : List PairP
  els : Bool
  deriving DecidableEq

def bt (n : Nat) : UInt8 := UInt8.ofNat n
theorem bt_toNat {n : Nat} (h : n < 256) : (bt n).toNat = n := by simp [bt]; omega
theorem bt_of (c : UInt8) : bt c.toNat = c := by simp [bt]

/-- A number: seven bits a byte, the least ones first. -/
def numB (n : Nat) : List UInt8 := if n < 128 then [bt n] else bt (n % 128 + 128) :: numB (n / 128)
  termination_by n
  decreasing_by omega

def bitB (b : Bool) : List UInt8 := [if b then 1 else 0]
def rangeB (r : Rg) : List UInt8 := numB r.1.toNat ++ numB r.2.toNat
def setB (s : List Rg) : List UInt8 := numB s.length ++ s.flatMap rangeB
def insB (x : I3) : List UInt8 := numB x.op.toNat ++ numB x.a.toNat ++ numB x.b.toNat
def codeB (c : CodeP) : List UInt8 := numB c.sets.length ++ c.sets.flatMap setB ++ numB c.ins.length ++ c.ins.flatMap insB
def pairB (r : PairP) : List UInt8 := bitB r.brk ++ codeB r.before ++ codeB r.after
def progB (p : ProgP) : List UInt8 := bitB p.els ++ numB p.rules.length ++ p.rules.flatMap pairB

/-- The sum: what it begins with, byte by byte. -/
def sumGo : Nat → Nat → List UInt8 → Nat × Nat
  | a, b, [] => (a, b)
  | a, b, c :: s => sumGo ((a + c.toNat) % 65521) ((b + (a + c.toNat) % 65521) % 65521) s
def sumP (s : List UInt8) : Nat := (sumGo 1 0 s).2 * 65536 + (sumGo 1 0 s).1
def sumB (u : Nat) : List UInt8 := [bt (u % 256), bt (u / 256 % 256), bt (u / 65536 % 256), bt (u / 16777216 % 256)]
def writeB (p : ProgP) : List UInt8 := progB p ++ sumB (sumP (progB p))

def progRight (p : ProgP) : Bool := decide (p.rules.length ≤ 20) && p.rules.all fun r => codeRight r.before && codeRight r.after

theorem numB_lt {n : Nat} (h : n < 128) : numB n = [bt n] := by rw [numB, if_pos h]
theorem numB_ge {n : Nat} (h : ¬ n < 128) : numB n = bt (n % 128 + 128) :: numB (n / 128) := by rw [numB, if_neg h]
theorem numB_pos (n : Nat) : 1 ≤ (numB n).length := by
  rw [numB]; split <;> simp
theorem numB_len : ∀ (k n : Nat), 1 ≤ k → n < 128 ^ k → (numB n).length ≤ k
  | 0, _, h, _ => absurd h (by omega)
  | 1, n, _, h => by rw [numB_lt (by simpa using h)]; simp
  | k + 2, n, _, h => by
    by_cases hn : n < 128
    · rw [numB_lt hn]; simp
    · rw [numB_ge hn]
      have := numB_len (k + 1) (n / 128) (by omega) (by rw [Nat.pow_succ] at h; exact Nat.div_lt_of_lt_mul (by rw [Nat.mul_comm]; exact h))
      simp only [List.length_cons]; omega

/-! Reading. -/
/-- A number of at most four bytes: the number, what is left, whether it is bad. -/
def rnumA (bad : Bool) : Nat → Nat → List UInt8 → Nat × List UInt8 × Bool
  | _, _, [] => (0, [], true)
  | i, n, c :: r => if 4 ≤ i then (0, [], true) else if c.toNat < 128 then (n + c.toNat * 128 ^ i, r, bad || (decide (0 < i) && decide (c.toNat = 0))) else rnumA bad (i + 1) (n + c.toNat % 128 * 128 ^ i) r

structure St where
  s : List UInt8
  bad : Bool
  deriving DecidableEq

def rnum (x : St) : Nat × St := ((rnumA x.bad 0 0 x.s).1, ⟨(rnumA x.bad 0 0 x.s).2.1, (rnumA x.bad 0 0 x.s).2.2⟩)
def rmany (x : St) : Nat × St := if (rnum x).2.s.length < (rnum x).1 then (0, ⟨(rnum x).2.s, true⟩) else rnum x
def rbit (x : St) : Bool × St := (decide ((rnum x).1 = 1), ⟨(rnum x).2.s, (rnum x).2.bad || decide (1 < (rnum x).1)⟩)
def rlist {α : Type} (f : St → α × St) : Nat → St → List α × St
  | 0, x => ([], x)
  | n + 1, x => ((f x).1 :: (rlist f n (f x).2).1, (rlist f n (f x).2).2)
def rrange (x : St) : Rg × St := (((rnum x).1, (rnum (rnum x).2).1), (rnum (rnum x).2).2)
def rset (x : St) : List Rg × St := rlist rrange (rmany x).1 (rmany x).2
def rins (x : St) : I3 × St := (⟨(rnum x).1, (rnum (rnum x).2).1, (rnum (rnum (rnum x).2).2).1⟩, (rnum (rnum (rnum x).2).2).2)
def rsets (x : St) : List (List Rg) × St := rlist rset (rmany x).1 (rmany x).2
def rinss (x : St) : List I3 × St := rlist rins (rmany x).1 (rmany x).2
def rcode (x : St) : CodeP × St := (⟨(rsets x).1, (rinss (rsets x).2).1⟩, (rinss (rsets x).2).2)
def rpair (x : St) : PairP × St := (⟨(rbit x).1, (rcode (rbit x).2).1, (rcode (rcode (rbit x).2).2).1⟩, (rcode (rcode (rbit x).2).2).2)
def rrules (x : St) : List PairP × St := rlist rpair (rmany x).1 (rmany x).2
def rprog (x : St) : ProgP × St := (⟨(rrules (rbit x).2).1, (rbit x).1⟩, (rrules (rbit x).2).2)

def sumOf (l : List UInt8) : Nat := (l.getD 0 0).toNat + (l.getD 1 0).toNat * 256 + (l.getD 2 0).toNat * 65536 + (l.getD 3 0).toNat * 16777216
def parseP (s : List UInt8) : Option ProgP :=
  if s.length < 4 then none
  else if sumP (s.take (s.length - 4)) ≠ sumOf (s.drop (s.length - 4)) then none
  else let r := rprog ⟨s.take (s.length - 4), false⟩
    if r.2.bad = true ∨ r.2.s ≠ [] ∨ progRight r.1 = false then none else some r.1

/-- What is bad stays bad; what reads well is as it is written. -/
def Reads {α : Type} (f : St → α × St) (enc : α → List UInt8) : Prop :=
  ∀ x, (x.bad = true → (f x).2.bad = true) ∧ ((f x).2.bad = false → x.s = enc (f x).1 ++ (f x).2.s)

theorem rnumA_reads (bad : Bool) : ∀ (s : List UInt8) (i n : Nat), (bad = true → (rnumA bad i n s).2.2 = true) ∧
    ((rnumA bad i n s).2.2 = false → ∃ m, (rnumA bad i n s).1 = n + m * 128 ^ i ∧ s = numB m ++ (rnumA bad i n s).2.1 ∧ (0 < i → 0 < m))
  | [], i, n => ⟨fun _ => rfl, fun h => by cases h⟩
  | c :: r, i, n => by
    rw [rnumA]
    split
    · exact ⟨fun _ => rfl, fun h => by cases h⟩
    · split
      · rename_i hc
        refine ⟨fun h => by simp [h], fun h => ⟨c.toNat, rfl, ?_, ?_⟩⟩
        · rw [numB_lt hc, bt_of]; rfl
        · intro hi
          simp only [Bool.or_eq_false_iff, Bool.and_eq_false_iff, decide_eq_false_iff_not] at h
          omega
      · rename_i hc
        obtain ⟨h1, h2⟩ := rnumA_reads bad r (i + 1) (n + c.toNat % 128 * 128 ^ i)
        refine ⟨h1, fun h => ?_⟩
        obtain ⟨m, e1, e2, e3⟩ := h2 h
        have hm := e3 (by omega)
        have hc2 := c.toNat_lt
        refine ⟨m * 128 + c.toNat % 128, ?_, ?_, fun _ => by omega⟩
        · rw [e1, Nat.pow_succ, Nat.add_mul, Nat.mul_assoc m 128, Nat.mul_comm 128]; omega
        · rw [numB_ge (by omega), show (m * 128 + c.toNat % 128) / 128 = m by omega, show (m * 128 + c.toNat % 128) % 128 + 128 = c.toNat by omega, bt_of, List.cons_append, ← e2]

theorem rnum_reads : Reads rnum numB := fun x => by
  obtain ⟨h1, h2⟩ := rnumA_reads x.bad x.s 0 0
  refine ⟨h1, fun h => ?_⟩
  obtain ⟨m, e1, e2, _⟩ := h2 h
  have : (rnum x).1 = m := by simp only [rnum, e1]; omega
  rw [this]; exact e2
theorem rmany_reads : Reads rmany numB := fun x => by
  unfold rmany
  split
  · exact ⟨fun _ => rfl, fun h => by cases h⟩
  · exact rnum_reads x
theorem rbit_reads : Reads rbit bitB := fun x => by
  obtain ⟨h1, h2⟩ := rnum_reads x
  refine ⟨fun h => by simp [rbit, h1 h], fun h => ?_⟩
  simp only [rbit, Bool.or_eq_false_iff, decide_eq_false_iff_not] at h ⊢
  rw [h2 h.1]
  congr 1
  have hn : (rnum x).1 = 0 ∨ (rnum x).1 = 1 := by omega
  rcases hn with hn | hn <;> rw [hn] <;> rw [numB_lt (by omega)] <;> rfl
theorem rlist_reads {α : Type} {f : St → α × St} {enc : α → List UInt8} (hf : Reads f enc) : ∀ n, Reads (rlist f n) (fun l => l.flatMap enc)
  | 0, x => ⟨fun h => h, fun _ => rfl⟩
  | n + 1, x => by
    obtain ⟨h1, h2⟩ := hf x
    obtain ⟨h3, h4⟩ := rlist_reads hf n (f x).2
    simp only [rlist]
    refine ⟨fun h => h3 (h1 h), fun h => ?_⟩
    have hb : (f x).2.bad = false := by
      cases hbb : (f x).2.bad with
      | false => rfl
      | true => rw [h3 hbb] at h; cases h
    rw [h2 hb, h4 h, List.flatMap_cons, List.append_assoc]
theorem rlist_len {α : Type} (f : St → α × St) : ∀ n x, (rlist f n x).1.length = n
  | 0, _ => rfl
  | n + 1, x => by simp only [rlist, List.length_cons, rlist_len f n]
/-- One behind the other. -/
theorem reads_seq {α β : Type} {f : St → α × St} {g : St → β × St} {ef : α → List UInt8} {eg : β → List UInt8} (hf : Reads f ef) (hg : Reads g eg) (x : St) :
    (x.bad = true → (g (f x).2).2.bad = true) ∧ ((g (f x).2).2.bad = false → (f x).2.bad = false ∧ x.s = ef (f x).1 ++ (eg (g (f x).2).1 ++ (g (f x).2).2.s)) := by
  obtain ⟨h1, h2⟩ := hf x
  obtain ⟨h3, h4⟩ := hg (f x).2
  refine ⟨fun h => h3 (h1 h), fun h => ?_⟩
  have hb : (f x).2.bad = false := by
    cases hbb : (f x).2.bad with
    | false => rfl
    | true => rw [h3 hbb] at h; cases h
  exact ⟨hb, by rw [h2 hb, h4 h]⟩
theorem rrange_reads : Reads rrange rangeB := fun x => by
  obtain ⟨h1, h2⟩ := reads_seq rnum_reads rnum_reads x
  refine ⟨h1, fun h => ?_⟩
  rw [(h2 h).2]
  simp [rrange, rangeB]
theorem rmanyList_reads {α : Type} {f : St → α × St} {enc : α → List UInt8} (hf : Reads f enc) : Reads (fun x => rlist f (rmany x).1 (rmany x).2) (fun l => numB l.length ++ l.flatMap enc) := fun x => by
  obtain ⟨h1, h2⟩ := rmany_reads x
  obtain ⟨h3, h4⟩ := rlist_reads hf (rmany x).1 (rmany x).2
  refine ⟨fun h => h3 (h1 h), fun h => ?_⟩
  have hb : (rmany x).2.bad = false := by
    cases hbb : (rmany x).2.bad with
    | false => rfl
    | true => rw [h3 hbb] at h; cases h
  simp only at h ⊢
  rw [rlist_len, h2 hb, h4 h, List.append_assoc]
theorem rset_reads : Reads rset setB := rmanyList_reads rrange_reads
theorem rins_reads : Reads rins insB := fun x => by
  obtain ⟨h1, h2⟩ := rnum_reads x
  obtain ⟨h3, h4⟩ := reads_seq rnum_reads rnum_reads (rnum x).2
  refine ⟨fun h => h3 (h1 h), fun h => ?_⟩
  have hb : (rnum x).2.bad = false := by
    cases hbb : (rnum x).2.bad with
    | false => rfl
    | true => rw [show (rins x).2 = (rnum (rnum (rnum x).2).2).2 from rfl, h3 hbb] at h; cases h
  rw [h2 hb, (h4 h).2]
  simp [rins, insB]
theorem rcode_reads : Reads rcode codeB := fun x => by
  obtain ⟨h1, h2⟩ := reads_seq (rmanyList_reads rset_reads) (rmanyList_reads rins_reads) x
  refine ⟨h1, fun h => ?_⟩
  rw [(h2 h).2]
  simp [rcode, rsets, rinss, codeB]
theorem rpair_reads : Reads rpair pairB := fun x => by
  obtain ⟨h1, h2⟩ := rbit_reads x
  obtain ⟨h3, h4⟩ := reads_seq rcode_reads rcode_reads (rbit x).2
  simp only [rpair]
  generalize rbit x = y at h1 h2 h3 h4 ⊢
  refine ⟨fun h => h3 (h1 h), fun h => ?_⟩
  have hb : y.2.bad = false := by
    cases hbb : y.2.bad with
    | false => rfl
    | true => rw [h3 hbb] at h; cases h
  rw [h2 hb, (h4 h).2]
  simp only [pairB, List.append_assoc]
theorem rprog_reads : Reads rprog progB := fun x => by
  obtain ⟨h1, h2⟩ := reads_seq rbit_reads (rmanyList_reads rpair_reads) x
  refine ⟨h1, fun h => ?_⟩
  rw [(h2 h).2]
  simp [rprog, rrules, progB]
end Cae
end

section
set_option linter.unusedSimpArgs false
set_option linter.unusedVariables false
namespace Cae

/-! What was written is read. -/
def Back {α : Type} (f : St → α × St) (enc : α → List UInt8) (v : α) : Prop := ∀ rest, f ⟨enc v ++ rest, false⟩ = (v, ⟨rest, false⟩)

theorem rnumA_back : ∀ (k i n m : Nat) (rest : List UInt8), i + k = 4 → m < 128 ^ k → 1 ≤ k → (0 < i → 0 < m) → rnumA false i n (numB m ++ rest) = (n + m * 128 ^ i, rest, false)
  | 0, _, _, _, _, _, _, h, _ => absurd h (by omega)
  | k + 1, i, n, m, rest, hi, hm, _, h0 => by
    by_cases h : m < 128
    · rw [numB_lt h, List.singleton_append, rnumA, if_neg (by omega), bt_toNat (by omega), if_pos h]
      congr 2
      simp only [Bool.false_or, Bool.and_eq_false_iff, decide_eq_false_iff_not]
      by_cases hi0 : 0 < i
      · right; have := h0 hi0; omega
      · left; exact hi0
    · rw [numB_ge h, List.cons_append, rnumA, if_neg (by omega), bt_toNat (by omega), if_neg (by omega)]
      have hk : 1 ≤ k := by
        rcases Nat.eq_zero_or_pos k with hk | hk
        · subst hk; simp at hm; omega
        · exact hk
      have hm2 : m / 128 < 128 ^ k := by rw [Nat.pow_succ] at hm; exact Nat.div_lt_of_lt_mul (by rw [Nat.mul_comm]; exact hm)
      rw [rnumA_back k (i + 1) _ (m / 128) rest (by omega) hm2 hk (fun _ => by omega)]
      congr 1
      rw [show (m % 128 + 128) % 128 = m % 128 by omega, Nat.pow_succ]
      have e : m * 128 ^ i = m % 128 * 128 ^ i + m / 128 * (128 ^ i * 128) := by
        rw [Nat.mul_comm (128 ^ i) 128, ← Nat.mul_assoc, ← Nat.add_mul]
        congr 1
        omega
      omega

theorem rnum_back {n : Nat} (h : n < 268435456) : Back rnum numB n := fun rest => by
  have := rnumA_back 4 0 0 n rest rfl (by simpa using h) (by omega) (fun h => absurd h (by omega))
  simp only [rnum, this]
  simp
theorem rbit_back (b : Bool) : Back rbit bitB b := fun rest => by
  have h : ∀ n, n = 0 ∨ n = 1 → rbit ⟨numB n ++ rest, false⟩ = (decide (n = 1), ⟨rest, false⟩) := fun n hn => by
    simp only [rbit]
    rw [rnum_back (n := n) (by omega) rest]
    rcases hn with rfl | rfl <;> rfl
  cases b with
  | true => have := h 1 (.inr rfl); rw [numB_lt (by omega)] at this; exact this
  | false => have := h 0 (.inl rfl); rw [numB_lt (by omega)] at this; exact this
theorem rlist_back {α : Type} {f : St → α × St} {enc : α → List UInt8} : ∀ (l : List α), (∀ v ∈ l, Back f enc v) → ∀ rest, rlist f l.length ⟨l.flatMap enc ++ rest, false⟩ = (l, ⟨rest, false⟩)
  | [], _, rest => rfl
  | v :: l, h, rest => by
    simp only [List.length_cons, rlist, List.flatMap_cons, List.append_assoc]
    rw [h v (by simp)]
    simp only
    rw [rlist_back l (fun u hu => h u (by simp [hu])) rest]
theorem flatMap_len {α : Type} {enc : α → List UInt8} (h1 : ∀ v, 1 ≤ (enc v).length) : ∀ (l : List α), l.length ≤ (l.flatMap enc).length
  | [] => by simp
  | v :: l => by have := flatMap_len h1 l; have := h1 v; simp only [List.length_cons, List.flatMap_cons, List.length_append]; omega
theorem rmanyList_back {α : Type} {f : St → α × St} {enc : α → List UInt8} (h1 : ∀ v, 1 ≤ (enc v).length) {l : List α} (hl : l.length < 268435456) (h : ∀ v ∈ l, Back f enc v) (rest : List UInt8) :
    rlist f (rmany ⟨numB l.length ++ (l.flatMap enc ++ rest), false⟩).1 (rmany ⟨numB l.length ++ (l.flatMap enc ++ rest), false⟩).2 = (l, ⟨rest, false⟩) := by
  have hm : rmany ⟨numB l.length ++ (l.flatMap enc ++ rest), false⟩ = (l.length, ⟨l.flatMap enc ++ rest, false⟩) := by
    unfold rmany
    rw [rnum_back hl]
    have := flatMap_len h1 l
    rw [if_neg (by simp only [List.length_append]; omega)]
  rw [hm]
  exact rlist_back l h rest
theorem rangeB_pos (r : Rg) : 1 ≤ (rangeB r).length := by unfold rangeB; have := numB_pos r.1.toNat; simp only [List.length_append]; omega
theorem setB_pos (s : List Rg) : 1 ≤ (setB s).length := by unfold setB; have := numB_pos s.length; simp only [List.length_append]; omega
theorem insB_pos (x : I3) : 1 ≤ (insB x).length := by unfold insB; have := numB_pos x.op.toNat; simp only [List.length_append]; omega
theorem pairB_pos (r : PairP) : 1 ≤ (pairB r).length := by unfold pairB bitB; simp only [List.length_append, List.length_cons]; omega

theorem rrange_back {r : Rg} (h1 : 0 ≤ r.1 ∧ r.1 ≤ 1114111) (h2 : 0 ≤ r.2 ∧ r.2 ≤ 1114111) : Back rrange rangeB r := fun rest => by
  simp only [rrange, rangeB, List.append_assoc]
  rw [rnum_back (n := r.1.toNat) (by omega)]
  simp only
  rw [rnum_back (n := r.2.toNat) (by omega)]
  obtain ⟨a, b⟩ := r
  simp only at h1 h2 ⊢
  rw [Int.toNat_of_nonneg h1.1, Int.toNat_of_nonneg h2.1]
theorem rset_back {s : List Rg} (hs : setRight (-2) s = true) (hl : s.length < 268435456) : Back rset setB s := fun rest => by
  have hr : ∀ r ∈ s, Back rrange rangeB r := fun r hr => by
    obtain ⟨i, hi⟩ := List.getElem?_of_mem hr
    obtain ⟨h1, h2, h3, _⟩ := setRight_sorted s (-2) hs i r hi
    exact rrange_back (by omega) (by omega)
  have := rmanyList_back rangeB_pos hl hr rest
  simp only [setB, List.append_assoc]
  exact this
theorem rins_back {x : I3} {s n : Int} (hx : insRight x s n = true) (hs : s ≤ 2000) (hn : n ≤ 2000) : Back rins insB x := fun rest => by
  have hr := insRight_cases hx
  have hb : (0 ≤ x.op ∧ x.op ≤ 5) ∧ (0 ≤ x.a ∧ x.a ≤ 2000) ∧ (0 ≤ x.b ∧ x.b ≤ 2000) := by omega
  simp only [rins, insB, List.append_assoc]
  rw [rnum_back (n := x.op.toNat) (by omega)]
  simp only
  rw [rnum_back (n := x.a.toNat) (by omega)]
  simp only
  rw [rnum_back (n := x.b.toNat) (by omega)]
  obtain ⟨o, a, b⟩ := x
  simp only at hb ⊢
  rw [Int.toNat_of_nonneg hb.1.1, Int.toNat_of_nonneg hb.2.1.1, Int.toNat_of_nonneg hb.2.2.1]
def codeLen (c : CodeP) : Prop := ∀ s ∈ c.sets, s.length < 268435456
theorem rcode_back {c : CodeP} (h : codeRight c = true) (hl : codeLen c) : Back rcode codeB c := fun rest => by
  have hc := CR.of h
  have h1 := rmanyList_back (f := rset) (enc := setB) setB_pos (l := c.sets) (by have := hc.sets; omega) (fun s hs => rset_back (hc.set s hs) (hl s hs)) (numB c.ins.length ++ (c.ins.flatMap insB ++ rest))
  have h2 := rmanyList_back (f := rins) (enc := insB) insB_pos (l := c.ins) (by have := hc.many; omega) (fun x hx => by
    obtain ⟨i, hi⟩ := List.getElem?_of_mem hx
    exact rins_back (hc.ins i x hi) (by have := hc.sets; omega) (by have := hc.many; omega)) rest
  simp only [rcode, rsets, rinss, codeB, List.append_assoc]
  rw [h1]
  simp only
  rw [h2]
theorem rpair_back {r : PairP} (h1 : codeRight r.before = true) (h2 : codeRight r.after = true) (l1 : codeLen r.before) (l2 : codeLen r.after) : Back rpair pairB r := fun rest => by
  have e1 := rbit_back r.brk (codeB r.before ++ (codeB r.after ++ rest))
  have e2 := rcode_back h1 l1 (codeB r.after ++ rest)
  have e3 := rcode_back h2 l2 rest
  simp only [rpair, pairB, List.append_assoc]
  rw [e1]
  simp only
  rw [e2]
  simp only
  rw [e3]
def progLen (p : ProgP) : Prop := ∀ r ∈ p.rules, codeLen r.before ∧ codeLen r.after
theorem progRight_spec {p : ProgP} (h : progRight p = true) : p.rules.length ≤ 20 ∧ ∀ r ∈ p.rules, codeRight r.before = true ∧ codeRight r.after = true := by
  unfold progRight at h
  simp only [Bool.and_eq_true, decide_eq_true_eq, List.all_eq_true] at h
  exact h
theorem rprog_back {p : ProgP} (h : progRight p = true) (hl : progLen p) : Back rprog progB p := fun rest => by
  obtain ⟨h1, h2⟩ := progRight_spec h
  have e1 := rbit_back p.els (numB p.rules.length ++ (p.rules.flatMap pairB ++ rest))
  have e2 := rmanyList_back (f := rpair) (enc := pairB) pairB_pos (l := p.rules) (by omega) (fun r hr => rpair_back (h2 r hr).1 (h2 r hr).2 (hl r hr).1 (hl r hr).2) rest
  simp only [rprog, rrules, progB, List.append_assoc]
  rw [e1]
  simp only
  rw [e2]

theorem sumGo_a : ∀ (s : List UInt8) (a b : Nat), a < 65521 → (sumGo a b s).1 = (a + (s.map UInt8.toNat).sum) % 65521
  | [], a, b, h => by simp only [sumGo, List.map_nil, List.sum_nil, Nat.add_zero]; omega
  | c :: s, a, b, h => by
    rw [sumGo, sumGo_a s _ _ (Nat.mod_lt _ (by omega)), List.map_cons, List.sum_cons]
    omega
theorem sumGo_b : ∀ (s : List UInt8) (a b : Nat), b < 65521 → (sumGo a b s).2 < 65521
  | [], _, _, h => h
  | c :: s, a, b, _ => by rw [sumGo]; exact sumGo_b s _ _ (Nat.mod_lt _ (by omega))
theorem sumP_lt (s : List UInt8) : sumP s < 4294967296 := by
  have h1 := sumGo_a s 1 0 (by omega)
  have h2 := sumGo_b s 1 0 (by omega)
  have h3 := Nat.mod_lt (1 + (s.map UInt8.toNat).sum) (show 0 < 65521 by omega)
  unfold sumP
  omega
theorem sumP_mod (s : List UInt8) : sumP s % 65536 = (1 + (s.map UInt8.toNat).sum) % 65521 := by
  have h1 := sumGo_a s 1 0 (by omega)
  have h3 := Nat.mod_lt (1 + (s.map UInt8.toNat).sum) (show 0 < 65521 by omega)
  unfold sumP
  omega
theorem sumOf_sumB {u : Nat} (h : u < 4294967296) : sumOf (sumB u) = u := by
  simp only [sumOf, sumB, List.getD_cons_zero, List.getD_cons_succ]
  rw [bt_toNat (by omega), bt_toNat (by omega), bt_toNat (by omega), bt_toNat (by omega)]
  omega
theorem sumB_sumOf {l : List UInt8} (h : l.length = 4) : sumB (sumOf l) = l := by
  match l, h with
  | [a, b, c, d], _ =>
    have ha := a.toNat_lt; have hb := b.toNat_lt; have hc := c.toNat_lt; have hd := d.toNat_lt
    simp only [sumOf, sumB, List.getD_cons_zero, List.getD_cons_succ]
    rw [show (a.toNat + b.toNat * 256 + c.toNat * 65536 + d.toNat * 16777216) % 256 = a.toNat by omega, show (a.toNat + b.toNat * 256 + c.toNat * 65536 + d.toNat * 16777216) / 256 % 256 = b.toNat by omega,
      show (a.toNat + b.toNat * 256 + c.toNat * 65536 + d.toNat * 16777216) / 65536 % 256 = c.toNat by omega, show (a.toNat + b.toNat * 256 + c.toNat * 65536 + d.toNat * 16777216) / 16777216 % 256 = d.toNat by omega]
    simp only [bt_of]
theorem sumB_len (u : Nat) : (sumB u).length = 4 := rfl

theorem parse_write {p : ProgP} (h : progRight p = true) (hl : progLen p) : parseP (writeB p) = some p := by
  have hlen : (writeB p).length - 4 = (progB p).length := by simp [writeB, sumB]
  have h4 : ¬ (writeB p).length < 4 := by simp [writeB, sumB]
  have ht : (writeB p).take (progB p).length = progB p := by simp [writeB]
  have hd : (writeB p).drop (progB p).length = sumB (sumP (progB p)) := by simp [writeB]
  unfold parseP
  rw [if_neg h4, hlen, ht, hd, sumOf_sumB (sumP_lt _), if_neg (by simp)]
  have e := rprog_back h hl []
  rw [List.append_nil] at e
  simp only [e]
  rw [if_neg (by simp [h])]
theorem write_parse {s : List UInt8} {q : ProgP} (h : parseP s = some q) : progRight q = true ∧ writeB q = s := by
  unfold parseP at h
  split at h
  · cases h
  · rename_i h4
    split at h
    · cases h
    · rename_i hs
      have hs : sumP (s.take (s.length - 4)) = sumOf (s.drop (s.length - 4)) := Classical.byContradiction hs
      simp only at h
      split at h
      · cases h
      · rename_i hg
        simp only [not_or, Bool.not_eq_true, ne_eq, Decidable.not_not] at hg
        obtain ⟨g1, g2, g3⟩ := hg
        simp only [Option.some.injEq] at h
        have hr := (rprog_reads ⟨s.take (s.length - 4), false⟩).2 g1
        rw [g2, List.append_nil, h] at hr
        simp only at hr
        rw [h] at g3
        refine ⟨by simpa using g3, ?_⟩
        unfold writeB
        rw [← hr, hs, sumB_sumOf (by rw [List.length_drop]; omega), List.take_append_drop]

theorem sum_set : ∀ (s : List UInt8) (i : Nat) (b c : UInt8), s[i]? = some c → ((s.set i b).map UInt8.toNat).sum + c.toNat = (s.map UInt8.toNat).sum + b.toNat
  | [], i, b, c, h => by simp at h
  | x :: s, 0, b, c, h => by simp at h; subst h; simp only [List.set_cons_zero, List.map_cons, List.sum_cons]; omega
  | x :: s, i + 1, b, c, h => by
    have := sum_set s i b c (by simpa using h)
    simp only [List.set_cons_succ, List.map_cons, List.sum_cons]; omega

theorem spoilt {p : ProgP} {i : Nat} {b c : UInt8} (hc : (writeB p)[i]? = some c) (hb : b ≠ c) : parseP ((writeB p).set i b) = none := by
  have hlen : ((writeB p).set i b).length - 4 = (progB p).length := by simp [writeB, sumB]
  have h4 : ¬ ((writeB p).set i b).length < 4 := by simp [writeB, sumB]
  unfold parseP
  rw [if_neg h4, hlen]
  have hne : b.toNat ≠ c.toNat := fun h => hb (UInt8.toNat_inj.1 h)
  have hb2 := b.toNat_lt
  have hc2 := c.toNat_lt
  rw [if_pos]
  unfold writeB at hc ⊢
  rcases Nat.lt_or_ge i (progB p).length with hi | hi
  · rw [List.getElem?_append_left hi] at hc
    rw [List.set_append_left _ _ hi, List.take_left' (by simp), List.drop_left' (by simp), sumOf_sumB (sumP_lt _)]
    intro he
    have h1 := sumP_mod ((progB p).set i b)
    have h2 := sumP_mod (progB p)
    rw [he, h2] at h1
    have := sum_set (progB p) i b c hc
    omega
  · rw [List.getElem?_append_right hi] at hc
    rw [List.set_append_right _ _ hi, List.take_left, List.drop_left]
    intro he
    have h1 := sumB_sumOf (l := (sumB (sumP (progB p))).set (i - (progB p).length) b) (by simp [sumB])
    rw [← he] at h1
    have h2 := congrArg (·[i - (progB p).length]?) h1
    rw [hc, List.getElem?_set_self (List.getElem?_eq_some_iff.1 hc).1] at h2
    exact hb (Option.some.inj h2).symm
end Cae
end

section
set_option linter.unusedSimpArgs false
set_option linter.unusedVariables false
namespace Cae

/-! Where a program breaks. -/
def ruleMet (ps : List Int) (i : Nat) (r : PairP) : Bool := (vmatch r.before (ps.take i).reverse).1 && (vmatch r.after (ps.drop i)).1
def saysFrom (p : ProgP) (ps : List Int) (i k : Nat) : Bool := (p.rules.drop k).foldr (fun r acc => if ruleMet ps i r then r.brk else acc) p.els
def isBreak (p : ProgP) (ps : List Int) (i : Nat) : Bool := saysFrom p ps i 0 || decide (i = 0) || decide (i = ps.length)
def breaksTo (p : ProgP) (ps : List Int) (n : Nat) : List Nat := (List.range n).filter (isBreak p ps)
def breaksP (p : ProgP) (ps : List Int) : List Nat := if ps = [] then [] else breaksTo p ps (ps.length + 1)

theorem breaksTo_succ (p : ProgP) (ps : List Int) (n : Nat) : breaksTo p ps (n + 1) = if isBreak p ps n then breaksTo p ps n ++ [n] else breaksTo p ps n := by
  unfold breaksTo
  rw [List.range_succ, List.filter_append]
  cases h : isBreak p ps n <;> simp [List.filter, h]
theorem breaksTo_len (p : ProgP) (ps : List Int) (n : Nat) : (breaksTo p ps n).length ≤ n := by
  unfold breaksTo
  exact Nat.le_trans (List.length_filter_le _ _) (by simp)
theorem breaksTo_zero (p : ProgP) (ps : List Int) : breaksTo p ps 0 = [] := rfl
theorem saysFrom_end (p : ProgP) (ps : List Int) (i k : Nat) (h : p.rules.length ≤ k) : saysFrom p ps i k = p.els := by
  unfold saysFrom; rw [List.drop_eq_nil_of_le h]; rfl
theorem saysFrom_step {p : ProgP} {ps : List Int} {i k : Nat} {r : PairP} (h : p.rules[k]? = some r) : saysFrom p ps i k = if ruleMet ps i r then r.brk else saysFrom p ps i (k + 1) := by
  have hlt := (List.getElem?_eq_some_iff.1 h).1
  unfold saysFrom
  rw [List.drop_eq_getElem_cons hlt, List.foldr_cons]
  have := List.getElem?_eq_getElem hlt
  rw [h] at this
  cases this
  rfl
end Cae
end

section
set_option linter.unusedSimpArgs false
set_option linter.unusedVariables false
namespace Cae

/-- How many are looked at. -/
def stepsOf : Lk → Nat
  | .yes st => st
  | .no _ _ st => st
theorem inner_ge {c : CodeP} {cur : Option Int} : ∀ (f : Nat) (q : List Nat) (k : Nat) (nx : List Nat) (st : Nat), st ≤ stepsOf (inner c cur f q k nx st)
  | 0, _, _, _, st => Nat.le_refl _
  | f + 1, q, k, nx, st => by
    rw [inner]
    split
    · exact Nat.le_refl _
    · split
      · exact Nat.le_refl _
      · split
        · simp only [stepsOf]; omega
        · exact Nat.le_trans (Nat.le_succ _) (inner_ge f _ (k + 1) _ (st + 1))
theorem inner_le {c : CodeP} (hc : CR c) {cur : Option Int} : ∀ (f : Nat) (q : List Nat) (k : Nat) (nx : List Nat) (st : Nat), Places c.ins.length q → Places c.ins.length nx →
    stepsOf (inner c cur f q k nx st) ≤ st + (c.ins.length - k)
  | 0, _, _, _, st, _, _ => by simp only [inner, stepsOf]; omega
  | f + 1, q, k, nx, st, hq, hn => by
    rw [inner]
    split
    · simp only [stepsOf]; omega
    · rename_i at_ hat
      have hlt := (List.getElem?_eq_some_iff.1 hat).1
      have := hq.len
      split
      · simp only [stepsOf]; omega
      · rename_i x hx
        split
        · simp only [stepsOf]; omega
        · rename_i h5
          obtain ⟨h1, h2⟩ := exec1_places hc (cur := cur) hx h5 hq hn
          have := inner_le hc (cur := cur) f _ (k + 1) _ (st + 1) h1 h2
          omega
theorem outer_le {c : CodeP} (hc : CR c) : ∀ (ps : List Int) (q : List Nat) (st : Nat), Places c.ins.length q → (outer c ps q st).2 ≤ st + c.ins.length * (ps.length + 1)
  | [], q, st, hq => by
    have h := inner_le hc (cur := none) (c.ins.length + 1) q 0 [] st hq (Places.nil _)
    rw [outer]
    split
    · rename_i st' e; rw [e] at h; simpa [stepsOf] using h
    · rename_i st' e; rw [e] at h; simpa [stepsOf] using h
  | p :: ps, q, st, hq => by
    have h := inner_le hc (cur := some p) (c.ins.length + 1) q 0 [] st hq (Places.nil _)
    have hm : c.ins.length * ((p :: ps).length + 1) = c.ins.length * (ps.length + 1) + c.ins.length := by rw [List.length_cons, Nat.mul_add, Nat.mul_one]
    rw [outer, hm]
    split
    · rename_i st' e; rw [e] at h; simp only [stepsOf] at h; omega
    · rename_i q' nx st' e
      have hnx := (inner_places hc _ _ _ _ _ hq (Places.nil _) _ _ _ e).2
      rw [e] at h
      simp only [stepsOf] at h
      split
      · simp only; omega
      · have := outer_le hc ps nx st' hnx
        omega
theorem outer_ge {c : CodeP} : ∀ (ps : List Int) (q : List Nat) (st : Nat), st ≤ (outer c ps q st).2
  | [], q, st => by
    have h := inner_ge (c := c) (cur := none) (c.ins.length + 1) q 0 [] st
    rw [outer]
    split
    · rename_i st' e; rw [e] at h; exact h
    · rename_i st' e; rw [e] at h; exact h
  | p :: ps, q, st => by
    have h := inner_ge (c := c) (cur := some p) (c.ins.length + 1) q 0 [] st
    rw [outer]
    split
    · rename_i st' e; rw [e] at h; exact h
    · rename_i q' nx st' e
      rw [e] at h
      simp only [stepsOf] at h
      split
      · exact h
      · exact Nat.le_trans h (outer_ge ps nx st')
theorem vmatch_le {c : CodeP} (hc : CR c) (ps : List Int) : (vmatch c ps).2 ≤ c.ins.length * (ps.length + 1) := by
  have := outer_le hc ps [0] 0 (Places.one (by have := hc.one; omega))
  unfold vmatch
  omega
theorem inner_first {c : CodeP} (hc : CR c) (cur : Option Int) : 1 ≤ stepsOf (inner c cur (c.ins.length + 1) [0] 0 [] 0) := by
  have hone := hc.one
  rw [inner]
  simp only [List.getElem?_cons_zero]
  rw [List.getElem?_eq_getElem (show 0 < c.ins.length by omega)]
  simp only
  split
  · simp [stepsOf]
  · exact inner_ge _ _ _ _ 1
theorem vmatch_ge {c : CodeP} (hc : CR c) (ps : List Int) : 1 ≤ (vmatch c ps).2 := by
  unfold vmatch
  cases ps with
  | nil =>
    have h := inner_first hc none
    rw [outer]
    split
    · rename_i st' e; rw [e] at h; exact h
    · rename_i st' e; rw [e] at h; exact h
  | cons p ps =>
    have h := inner_first hc (some p)
    rw [outer]
    split
    · rename_i st' e; rw [e] at h; exact h
    · rename_i q' nx st' e
      rw [e] at h
      simp only [stepsOf] at h
      split
      · exact h
      · exact Nat.le_trans h (outer_ge ps nx st')

/-- Without End: who matches at the end matches ahead of more. -/
theorem inner_noend {c : CodeP} (he : ∀ x ∈ c.ins, x.op ≠ 4) (p : Int) : ∀ (f : Nat) (q : List Nat) (k : Nat) (nx nx' : List Nat) (st st' s : Nat), inner c none f q k nx st = .yes s → ∃ s', inner c (some p) f q k nx' st' = .yes s'
  | 0, q, k, nx, nx', st, st', s, h => by rw [inner] at h; cases h
  | f + 1, q, k, nx, nx', st, st', s, h => by
    rw [inner] at h
    rw [inner]
    cases hq : q[k]? with
    | none => rw [hq] at h; cases h
    | some at_ =>
      rw [hq] at h
      simp only at h ⊢
      cases hx : c.ins[at_]? with
      | none => rw [hx] at h; cases h
      | some x =>
        rw [hx] at h
        simp only at h ⊢
        by_cases h5 : x.op = 5
        · rw [if_pos h5]; exact ⟨_, rfl⟩
        · rw [if_neg h5] at h ⊢
          have h4 := he x (List.mem_of_getElem? hx)
          have e1 : (exec1 c (some p) x at_ q nx').1 = (exec1 c none x at_ q nx).1 := by
            unfold exec1
            split
            · rfl
            · split
              · rfl
              · simp only [if_neg h4]
          rw [e1]
          exact inner_noend he p f _ _ _ _ _ _ s h
theorem inner_nx {c : CodeP} {cur : Option Int} : ∀ (f : Nat) (q : List Nat) (k : Nat) (nx : List Nat) (st st' : Nat), (∀ s, inner c cur f q k nx st = .yes s → ∃ s', inner c cur f q k nx st' = .yes s') ∧
    (∀ a b s, inner c cur f q k nx st = .no a b s → ∃ s', inner c cur f q k nx st' = .no a b s')
  | 0, q, k, nx, st, st' => ⟨fun s h => (by rw [inner] at h; cases h), fun a b s h => (by rw [inner] at h ⊢; cases h; exact ⟨_, rfl⟩)⟩
  | f + 1, q, k, nx, st, st' => by
    rw [inner, inner]
    cases hq : q[k]? with
    | none => exact ⟨fun s h => (by cases h), fun a b s h => (by cases h; exact ⟨_, rfl⟩)⟩
    | some at_ =>
      simp only
      cases hx : c.ins[at_]? with
      | none => exact ⟨fun s h => (by cases h), fun a b s h => (by cases h; exact ⟨_, rfl⟩)⟩
      | some x =>
        simp only
        by_cases h5 : x.op = 5
        · rw [if_pos h5, if_pos h5]; exact ⟨fun s h => ⟨_, rfl⟩, fun a b s h => (by cases h)⟩
        · rw [if_neg h5, if_neg h5]; exact inner_nx f _ _ _ _ _
theorem outer_more {c : CodeP} (he : ∀ x ∈ c.ins, x.op ≠ 4) (more : List Int) : ∀ (ps : List Int) (q : List Nat) (st st' : Nat), (outer c ps q st).1 = true → (outer c (ps ++ more) q st').1 = true
  | [], q, st, st', h => by
    rw [outer] at h
    cases hi : inner c none (c.ins.length + 1) q 0 [] st with
    | no a b s => rw [hi] at h; cases h
    | yes s =>
      cases more with
      | nil =>
        obtain ⟨s', e⟩ := (inner_nx (c := c) (cur := none) (c.ins.length + 1) q 0 [] st st').1 s hi
        rw [List.append_nil, outer, e]
      | cons p r =>
        obtain ⟨s', e⟩ := inner_noend he p (c.ins.length + 1) q 0 [] [] st st' s hi
        rw [List.nil_append, outer, e]
  | p :: ps, q, st, st', h => by
    rw [outer] at h
    rw [List.cons_append, outer]
    cases hi : inner c (some p) (c.ins.length + 1) q 0 [] st with
    | yes s =>
      obtain ⟨s', e⟩ := (inner_nx (c := c) (cur := some p) (c.ins.length + 1) q 0 [] st st').1 s hi
      rw [e]
    | no a nx s =>
      obtain ⟨s', e⟩ := (inner_nx (c := c) (cur := some p) (c.ins.length + 1) q 0 [] st st').2 a nx s hi
      rw [hi] at h
      rw [e]
      simp only at h ⊢
      split at h
      · cases h
      · rename_i hnx
        rw [if_neg hnx]
        exact outer_more he more ps nx s s' h
theorem vmatch_more {c : CodeP} (he : ∀ x ∈ c.ins, x.op ≠ 4) (ps more : List Int) (h : (vmatch c ps).1 = true) : (vmatch c (ps ++ more)).1 = true := outer_more he more ps [0] 0 0 h
end Cae
end

section
set_option linter.unusedSimpArgs false
set_option linter.unusedVariables false
namespace Cae

/-! The document's reading of a program's bytes. -/
def tnumA (most : Nat) (bad : Bool) (full : List UInt8) : Nat → Nat → List UInt8 → Nat × St
  | _, _, [] => (0, ⟨full, true⟩)
  | i, n, c :: r => if 6 ≤ i then (0, ⟨full, true⟩) else if c.toNat < 128 then (n + c.toNat * 128 ^ i, ⟨r, bad || decide (most < n + c.toNat * 128 ^ i)⟩) else tnumA most bad full (i + 1) (n + c.toNat % 128 * 128 ^ i) r
def tnum (most : Nat) (x : St) : Nat × St := tnumA most x.bad x.s 0 0 x.s
def tlist {α : Type} (f : St → α × St) : Nat → St → List α × St
  | 0, x => ([], x)
  | n + 1, x => if x.bad = true then ([], x) else ((f x).1 :: (tlist f n (f x).2).1, (tlist f n (f x).2).2)
def trange (x : St) : Rg × St := (((tnum 4194304 x).1, (tnum 4194304 (tnum 4194304 x).2).1), (tnum 4194304 (tnum 4194304 x).2).2)
def tset (x : St) : List Rg × St := tlist trange (tnum 4194304 x).1 (tnum 4194304 x).2
def tins (x : St) : I3 × St := (⟨(tnum 9 x).1, (tnum 4194304 (tnum 9 x).2).1, (tnum 4194304 (tnum 4194304 (tnum 9 x).2).2).1⟩, (tnum 4194304 (tnum 4194304 (tnum 9 x).2).2).2)
def tsets (x : St) : List (List Rg) × St := tlist tset (tnum 2000 x).1 (tnum 2000 x).2
def tinss (x : St) : List I3 × St := tlist tins (tnum 2000 x).1 (tnum 2000 x).2
def tcode (x : St) : CodeP × St := (⟨(tsets x).1, (tinss (tsets x).2).1⟩, (tinss (tsets x).2).2)
def tbit (x : St) : Bool × St := (decide ((tnum 1 x).1 = 1), (tnum 1 x).2)
def tpair (x : St) : PairP × St := (⟨(tbit x).1, (tcode (tbit x).2).1, (tcode (tcode (tbit x).2).2).1⟩, (tcode (tcode (tbit x).2).2).2)
def trules (x : St) : List PairP × St := tlist tpair (tnum 20 x).1 (tnum 20 x).2
def tprog (x : St) : ProgP × St := (⟨(trules (tbit x).2).1, (tbit x).1⟩, (trules (tbit x).2).2)
def refParse (s : List UInt8) : Option ProgP :=
  if s.length < 4 then none
  else if (tprog ⟨s.take (s.length - 4), false⟩).2.bad = true ∨ (tprog ⟨s.take (s.length - 4), false⟩).2.s ≠ [] then none
  else if progRight (tprog ⟨s.take (s.length - 4), false⟩).1 = true ∧ writeB (tprog ⟨s.take (s.length - 4), false⟩).1 = s then some (tprog ⟨s.take (s.length - 4), false⟩).1 else none

theorem tnumA_back (most : Nat) (full : List UInt8) : ∀ (k i n m : Nat) (rest : List UInt8), i + k = 6 → m < 128 ^ k → 1 ≤ k → n + m * 128 ^ i ≤ most → tnumA most false full i n (numB m ++ rest) = (n + m * 128 ^ i, ⟨rest, false⟩)
  | 0, _, _, _, _, _, _, h, _ => absurd h (by omega)
  | k + 1, i, n, m, rest, hi, hm, _, hmost => by
    by_cases h : m < 128
    · rw [numB_lt h, List.singleton_append, tnumA, if_neg (by omega), bt_toNat (by omega), if_pos h]
      rw [decide_eq_false (by omega)]
      rfl
    · rw [numB_ge h, List.cons_append, tnumA, if_neg (by omega), bt_toNat (by omega), if_neg (by omega)]
      have hk : 1 ≤ k := by
        rcases Nat.eq_zero_or_pos k with hk | hk
        · subst hk; simp at hm; omega
        · exact hk
      have hm2 : m / 128 < 128 ^ k := by rw [Nat.pow_succ] at hm; exact Nat.div_lt_of_lt_mul (by rw [Nat.mul_comm]; exact hm)
      have e : m * 128 ^ i = m % 128 * 128 ^ i + m / 128 * (128 ^ i * 128) := by
        rw [Nat.mul_comm (128 ^ i) 128, ← Nat.mul_assoc, ← Nat.add_mul]
        congr 1
        omega
      rw [show (m % 128 + 128) % 128 = m % 128 by omega]
      rw [tnumA_back most full k (i + 1) _ (m / 128) rest (by omega) hm2 hk (by rw [Nat.pow_succ]; omega)]
      congr 1
      rw [Nat.pow_succ]
      omega
theorem tnum_back {most n : Nat} (h : n ≤ most) (h2 : n < 4398046511104) (rest : List UInt8) : tnum most ⟨numB n ++ rest, false⟩ = (n, ⟨rest, false⟩) := by
  have := tnumA_back most (numB n ++ rest) 6 0 0 n rest rfl (by simpa using h2) (by omega) (by simpa using h)
  unfold tnum
  rw [this]
  simp
theorem tbit_back (b : Bool) : Back tbit bitB b := fun rest => by
  have h : ∀ n, n = 0 ∨ n = 1 → tbit ⟨numB n ++ rest, false⟩ = (decide (n = 1), ⟨rest, false⟩) := fun n hn => by
    unfold tbit
    rw [tnum_back (by omega) (by omega) rest]
  cases b with
  | true => have := h 1 (.inr rfl); rw [numB_lt (by omega)] at this; exact this
  | false => have := h 0 (.inl rfl); rw [numB_lt (by omega)] at this; exact this
theorem tlist_back {α : Type} {f : St → α × St} {enc : α → List UInt8} : ∀ (l : List α), (∀ v ∈ l, Back f enc v) → ∀ rest, tlist f l.length ⟨l.flatMap enc ++ rest, false⟩ = (l, ⟨rest, false⟩)
  | [], _, rest => rfl
  | v :: l, h, rest => by
    simp only [List.length_cons, tlist, List.flatMap_cons, List.append_assoc]
    rw [if_neg (by simp), h v (by simp)]
    simp only
    rw [tlist_back l (fun u hu => h u (by simp [hu])) rest]
theorem tmany_back {α : Type} {most : Nat} {f : St → α × St} {enc : α → List UInt8} {l : List α} (hl : l.length ≤ most) (hl2 : l.length < 4398046511104) (h : ∀ v ∈ l, Back f enc v) (rest : List UInt8) :
    tlist f (tnum most ⟨numB l.length ++ (l.flatMap enc ++ rest), false⟩).1 (tnum most ⟨numB l.length ++ (l.flatMap enc ++ rest), false⟩).2 = (l, ⟨rest, false⟩) := by
  rw [tnum_back hl hl2]
  exact tlist_back l h rest
theorem trange_back {r : Rg} (h1 : 0 ≤ r.1 ∧ r.1 ≤ 1114111) (h2 : 0 ≤ r.2 ∧ r.2 ≤ 1114111) : Back trange rangeB r := fun rest => by
  simp only [trange, rangeB, List.append_assoc]
  rw [tnum_back (n := r.1.toNat) (by omega) (by omega)]
  simp only
  rw [tnum_back (n := r.2.toNat) (by omega) (by omega)]
  obtain ⟨a, b⟩ := r
  simp only at h1 h2 ⊢
  rw [Int.toNat_of_nonneg h1.1, Int.toNat_of_nonneg h2.1]
theorem tset_back {s : List Rg} (hs : setRight (-2) s = true) (hl : s.length ≤ 4194304) : Back tset setB s := fun rest => by
  have hr : ∀ r ∈ s, Back trange rangeB r := fun r hr => by
    obtain ⟨i, hi⟩ := List.getElem?_of_mem hr
    obtain ⟨h1, h2, h3, _⟩ := setRight_sorted s (-2) hs i r hi
    exact trange_back (by omega) (by omega)
  have := tmany_back (most := 4194304) hl (by omega) hr rest
  simp only [setB, List.append_assoc]
  exact this
theorem tins_back {x : I3} {s n : Int} (hx : insRight x s n = true) (hs : s ≤ 2000) (hn : n ≤ 2000) : Back tins insB x := fun rest => by
  have hr := insRight_cases hx
  have hb : (0 ≤ x.op ∧ x.op ≤ 5) ∧ (0 ≤ x.a ∧ x.a ≤ 2000) ∧ (0 ≤ x.b ∧ x.b ≤ 2000) := by omega
  simp only [tins, insB, List.append_assoc]
  rw [tnum_back (n := x.op.toNat) (by omega) (by omega)]
  simp only
  rw [tnum_back (n := x.a.toNat) (by omega) (by omega)]
  simp only
  rw [tnum_back (n := x.b.toNat) (by omega) (by omega)]
  obtain ⟨o, a, b⟩ := x
  simp only at hb ⊢
  rw [Int.toNat_of_nonneg hb.1.1, Int.toNat_of_nonneg hb.2.1.1, Int.toNat_of_nonneg hb.2.2.1]
theorem tcode_back {c : CodeP} (h : codeRight c = true) (hl : ∀ s ∈ c.sets, s.length ≤ 4194304) : Back tcode codeB c := fun rest => by
  have hc := CR.of h
  have h1 := tmany_back (most := 2000) (f := tset) (enc := setB) (l := c.sets) hc.sets (by have := hc.sets; omega) (fun s hs => tset_back (hc.set s hs) (hl s hs)) (numB c.ins.length ++ (c.ins.flatMap insB ++ rest))
  have h2 := tmany_back (most := 2000) (f := tins) (enc := insB) (l := c.ins) hc.many (by have := hc.many; omega) (fun x hx => by
    obtain ⟨i, hi⟩ := List.getElem?_of_mem hx
    exact tins_back (hc.ins i x hi) (by have := hc.sets; omega) (by have := hc.many; omega)) rest
  simp only [tcode, tsets, tinss, codeB, List.append_assoc]
  rw [h1]
  simp only
  rw [h2]
def progLen2 (p : ProgP) : Prop := ∀ r ∈ p.rules, (∀ s ∈ r.before.sets, s.length ≤ 4194304) ∧ ∀ s ∈ r.after.sets, s.length ≤ 4194304
theorem tpair_back {r : PairP} (h1 : codeRight r.before = true) (h2 : codeRight r.after = true) (l1 : ∀ s ∈ r.before.sets, s.length ≤ 4194304) (l2 : ∀ s ∈ r.after.sets, s.length ≤ 4194304) : Back tpair pairB r := fun rest => by
  have e1 := tbit_back r.brk (codeB r.before ++ (codeB r.after ++ rest))
  have e2 := tcode_back h1 l1 (codeB r.after ++ rest)
  have e3 := tcode_back h2 l2 rest
  simp only [tpair, pairB, List.append_assoc]
  rw [e1]
  simp only
  rw [e2]
  simp only
  rw [e3]
theorem tprog_back {p : ProgP} (h : progRight p = true) (hl : progLen2 p) : Back tprog progB p := fun rest => by
  obtain ⟨h1, h2⟩ := progRight_spec h
  have e1 := tbit_back p.els (numB p.rules.length ++ (p.rules.flatMap pairB ++ rest))
  have e2 := tmany_back (most := 20) (f := tpair) (enc := pairB) (l := p.rules) h1 (by omega) (fun r hr => tpair_back (h2 r hr).1 (h2 r hr).2 (hl r hr).1 (hl r hr).2) rest
  simp only [tprog, trules, progB, List.append_assoc]
  rw [e1]
  simp only
  rw [e2]

theorem mem_len {α : Type} {f : α → List UInt8} {l : List α} {x : α} (h : x ∈ l) : (f x).length ≤ (l.flatMap f).length := by
  induction l with
  | nil => cases h
  | cons y l ih =>
    simp only [List.flatMap_cons, List.length_append]
    rcases List.mem_cons.1 h with rfl | h
    · omega
    · have := ih h; omega
/-- What is written in few bytes is little. -/
theorem lens_of {p : ProgP} {n : Nat} (h : (progB p).length ≤ n) : p.rules.length ≤ n ∧ ∀ r ∈ p.rules, (r.before.sets.length ≤ n ∧ r.before.ins.length ≤ n ∧ ∀ s ∈ r.before.sets, s.length ≤ n) ∧ (r.after.sets.length ≤ n ∧ r.after.ins.length ≤ n ∧ ∀ s ∈ r.after.sets, s.length ≤ n) := by
  have hc : ∀ c : CodeP, (codeB c).length ≤ n → c.sets.length ≤ n ∧ c.ins.length ≤ n ∧ ∀ s ∈ c.sets, s.length ≤ n := fun c hcn => by
    simp only [codeB, List.length_append] at hcn
    have h1 := flatMap_len setB_pos c.sets
    have h2 := flatMap_len insB_pos c.ins
    refine ⟨by omega, by omega, fun s hs => ?_⟩
    have h3 := mem_len (f := setB) hs
    have h4 := flatMap_len rangeB_pos s
    have h5 : (setB s).length = (numB s.length).length + (s.flatMap rangeB).length := by simp only [setB, List.length_append]
    omega
  simp only [progB, List.length_append] at h
  have h1 := flatMap_len pairB_pos p.rules
  refine ⟨by omega, fun r hr => ?_⟩
  have h2 := mem_len (f := pairB) hr
  have h3 : (pairB r).length = (bitB r.brk).length + (codeB r.before).length + (codeB r.after).length := by simp only [pairB, List.length_append]
  exact ⟨hc _ (by omega), hc _ (by omega)⟩

/-- The two readings are one. -/
theorem refParse_eq {s : List UInt8} (hs : s.length < 1000000) : refParse s = parseP s := by
  have hwl : ∀ q, writeB q = s → (progB q).length ≤ s.length := fun q hq => by
    have := congrArg List.length hq
    simp only [writeB, List.length_append, sumB_len] at this
    omega
  cases hp : parseP s with
  | some q =>
    obtain ⟨h1, h2⟩ := write_parse hp
    have hq := hwl q h2
    have hl := lens_of hq
    have h4 : ¬ s.length < 4 := by have := congrArg List.length h2; simp only [writeB, List.length_append, sumB_len] at this; omega
    have ht : s.take (s.length - 4) = progB q := by
      have hlen : s.length - 4 = (progB q).length := by have := congrArg List.length h2; simp only [writeB, List.length_append, sumB_len] at this; omega
      rw [hlen]
      conv => lhs; rw [← h2]
      simp [writeB]
    have hb := tprog_back h1 (fun r hr => ⟨fun s' hs' => by have := (hl.2 r hr).1.2.2 s' hs'; omega, fun s' hs' => by have := (hl.2 r hr).2.2.2 s' hs'; omega⟩) []
    rw [List.append_nil] at hb
    unfold refParse
    rw [if_neg h4, ht, hb]
    simp only
    rw [if_neg (by simp), if_pos ⟨h1, h2⟩]
  | none =>
    cases hr : refParse s with
    | none => rfl
    | some q =>
      unfold refParse at hr
      split at hr
      · cases hr
      · split at hr
        · cases hr
        · split at hr
          · rename_i hg
            simp only [Option.some.injEq] at hr
            rw [hr] at hg
            have hl := lens_of (hwl q hg.2)
            have := parse_write hg.1 (fun r hrm => ⟨fun s' hs' => by have := (hl.2 r hrm).1.2.2 s' hs'; omega, fun s' hs' => by have := (hl.2 r hrm).2.2.2 s' hs'; omega⟩)
            rw [hg.2, hp] at this
            cases this
          · cases hr

/-- The document's sum. -/
def rsumGo : Nat → Nat → List UInt8 → Nat × Nat
  | a, b, [] => (a, b)
  | a, b, c :: s => rsumGo (a + c.toNat) (b + (a + c.toNat) % 65521) s
theorem rsum_eq : ∀ (s : List UInt8) (a b a' b' : Nat), a' = a % 65521 → b' = b % 65521 → (sumGo a' b' s) = ((rsumGo a b s).1 % 65521, (rsumGo a b s).2 % 65521)
  | [], a, b, a', b', ha, hb => by subst ha hb; rfl
  | c :: s, a, b, a', b', ha, hb => by
    rw [sumGo, rsumGo]
    refine rsum_eq s _ _ _ _ ?_ ?_ <;> subst ha hb <;> omega
theorem rsum_lt : ∀ (s : List UInt8) (a b : Nat), (rsumGo a b s).1 ≤ a + 255 * s.length ∧ (rsumGo a b s).2 ≤ b + 65520 * s.length
  | [], a, b => ⟨Nat.le_refl _, Nat.le_refl _⟩
  | c :: s, a, b => by
    have hc : c.toNat < 256 := c.toNat_lt
    have := rsum_lt s (a + c.toNat) (b + (a + c.toNat) % 65521)
    rw [rsumGo]
    simp only [List.length_cons]
    omega
end Cae
end

section
set_option linter.unusedSimpArgs false
set_option linter.unusedVariables false
namespace Cae

/-! Whether code comes to Yes, from an instruction on, in no more than so many steps. -/
def accN (c : CodeP) : Nat → Nat → List Int → Prop
  | 0, _, _ => False
  | h + 1, k, ps => match c.ins[k]? with
    | none => False
    | some x => if x.op = 5 then True
      else if x.op = 2 then accN c h x.a.toNat ps ∨ accN c h x.b.toNat ps
      else if x.op = 3 then accN c h x.a.toNat ps
      else if x.op = 4 then ps = [] ∧ accN c h (k + 1) ps
      else match ps with
        | [] => False
        | p :: r => hasP (c.sets.getD x.a.toNat []) p = true ∧ accN c h (k + 1) r
def Acc (c : CodeP) (k : Nat) (ps : List Int) : Prop := ∃ h, accN c h k ps

theorem accN_mono {c : CodeP} : ∀ (h : Nat) (k : Nat) (ps : List Int), accN c h k ps → accN c (h + 1) k ps
  | 0, k, ps, hh => hh.elim
  | h + 1, k, ps, hh => by
    rw [accN] at hh ⊢
    cases hx : c.ins[k]? with
    | none => rw [hx] at hh; exact hh
    | some x =>
      rw [hx] at hh
      dsimp only at hh ⊢
      by_cases h5 : x.op = 5
      · rw [if_pos h5]; trivial
      rw [if_neg h5] at hh ⊢
      by_cases h2 : x.op = 2
      · rw [if_pos h2] at hh ⊢; exact hh.imp (accN_mono h _ _) (accN_mono h _ _)
      rw [if_neg h2] at hh ⊢
      by_cases h3 : x.op = 3
      · rw [if_pos h3] at hh ⊢; exact accN_mono h _ _ hh
      rw [if_neg h3] at hh ⊢
      by_cases h4 : x.op = 4
      · rw [if_pos h4] at hh ⊢; exact ⟨hh.1, accN_mono h _ _ hh.2⟩
      rw [if_neg h4] at hh ⊢
      cases ps with
      | nil => exact hh
      | cons p r => exact ⟨hh.1, accN_mono h _ _ hh.2⟩
theorem accN_le {c : CodeP} {h h' k : Nat} {ps : List Int} (hh : accN c h k ps) (hl : h ≤ h') : accN c h' k ps := by
  obtain ⟨d, rfl⟩ := Nat.le.dest hl
  induction d with
  | zero => exact hh
  | succ d ih => exact accN_mono _ _ _ (ih (by omega))

theorem acc_yes {c : CodeP} {k : Nat} {ps : List Int} {x : I3} (hx : c.ins[k]? = some x) (h : x.op = 5) : Acc c k ps := ⟨1, by rw [accN, hx]; dsimp only; rw [if_pos h]; trivial⟩
theorem acc_split {c : CodeP} {k : Nat} {ps : List Int} {x : I3} (hx : c.ins[k]? = some x) (h : x.op = 2) : Acc c k ps ↔ Acc c x.a.toNat ps ∨ Acc c x.b.toNat ps := by
  constructor
  · rintro ⟨h', hh⟩
    cases h' with
    | zero => exact hh.elim
    | succ h' =>
      rw [accN, hx] at hh; dsimp only at hh; rw [if_neg (by omega), if_pos h] at hh
      exact hh.imp (fun h => ⟨_, h⟩) (fun h => ⟨_, h⟩)
  · rintro (⟨h', hh⟩ | ⟨h', hh⟩)
    · exact ⟨h' + 1, by rw [accN, hx]; dsimp only; rw [if_neg (by omega), if_pos h]; exact .inl hh⟩
    · exact ⟨h' + 1, by rw [accN, hx]; dsimp only; rw [if_neg (by omega), if_pos h]; exact .inr hh⟩
theorem acc_jump {c : CodeP} {k : Nat} {ps : List Int} {x : I3} (hx : c.ins[k]? = some x) (h : x.op = 3) : Acc c k ps ↔ Acc c x.a.toNat ps := by
  constructor
  · rintro ⟨h', hh⟩
    cases h' with
    | zero => exact hh.elim
    | succ h' =>
      rw [accN, hx] at hh; dsimp only at hh; rw [if_neg (by omega), if_neg (by omega), if_pos h] at hh
      exact ⟨_, hh⟩
  · rintro ⟨h', hh⟩
    exact ⟨h' + 1, by rw [accN, hx]; dsimp only; rw [if_neg (by omega), if_neg (by omega), if_pos h]; exact hh⟩
theorem acc_end {c : CodeP} {k : Nat} {ps : List Int} {x : I3} (hx : c.ins[k]? = some x) (h : x.op = 4) : Acc c k ps ↔ ps = [] ∧ Acc c (k + 1) ps := by
  constructor
  · rintro ⟨h', hh⟩
    cases h' with
    | zero => exact hh.elim
    | succ h' =>
      rw [accN, hx] at hh; dsimp only at hh; rw [if_neg (by omega), if_neg (by omega), if_neg (by omega), if_pos h] at hh
      exact ⟨hh.1, _, hh.2⟩
  · rintro ⟨h0, h', hh⟩
    exact ⟨h' + 1, by rw [accN, hx]; dsimp only; rw [if_neg (by omega), if_neg (by omega), if_neg (by omega), if_pos h]; exact ⟨h0, hh⟩⟩
theorem acc_take {c : CodeP} {k : Nat} {ps : List Int} {x : I3} (hx : c.ins[k]? = some x) (h : x.op ≠ 2 ∧ x.op ≠ 3 ∧ x.op ≠ 4 ∧ x.op ≠ 5) : Acc c k ps ↔ ∃ p r, ps = p :: r ∧ hasP (c.sets.getD x.a.toNat []) p = true ∧ Acc c (k + 1) r := by
  constructor
  · rintro ⟨h', hh⟩
    cases h' with
    | zero => exact hh.elim
    | succ h' =>
      rw [accN, hx] at hh; dsimp only at hh; rw [if_neg (by omega), if_neg (by omega), if_neg (by omega), if_neg (by omega)] at hh
      cases ps with
      | nil => exact hh.elim
      | cons p r => exact ⟨p, r, rfl, hh.1, _, hh.2⟩
  · rintro ⟨p, r, rfl, h0, h', hh⟩
    exact ⟨h' + 1, by rw [accN, hx]; dsimp only; rw [if_neg (by omega), if_neg (by omega), if_neg (by omega), if_neg (by omega)]; exact ⟨h0, hh⟩⟩
theorem acc_none {c : CodeP} {k : Nat} {ps : List Int} (hx : c.ins[k]? = none) : ¬ Acc c k ps := by
  rintro ⟨h, hh⟩
  cases h with
  | zero => exact hh
  | succ h => rw [accN, hx] at hh; exact hh

theorem mem_addQ {q : List Nat} {k j : Nat} : j ∈ addQ q k ↔ j ∈ q ∨ j = k := by
  unfold addQ
  split
  · rename_i h; exact ⟨.inl, fun hh => hh.elim id (fun e => e ▸ h)⟩
  · simp
theorem addQ_get {q : List Nat} {k : Nat} : ∀ (i : Nat) (j : Nat), q[i]? = some j → (addQ q k)[i]? = some j := by
  intro i j h
  unfold addQ
  split
  · exact h
  · rw [List.getElem?_append_left (List.getElem?_eq_some_iff.1 h).1]; exact h

/-- The points from a place on. -/
def From (cur : Option Int) (r : List Int) : List Int := match cur with | none => [] | some p => p :: r

/-- What one instruction adds says no more than it. -/
theorem exec1_sound {c : CodeP} {cur : Option Int} {x : I3} {at_ : Nat} {q nx : List Nat} (hx : c.ins[at_]? = some x) (h5 : x.op ≠ 5) (r : List Int) :
    (∀ j ∈ (exec1 c cur x at_ q nx).1, j ∈ q ∨ (Acc c j (From cur r) → Acc c at_ (From cur r))) ∧
    (∀ j ∈ (exec1 c cur x at_ q nx).2, j ∈ nx ∨ (cur ≠ none ∧ (Acc c j r → Acc c at_ (From cur r)))) ∧
    (∀ (i j : Nat), q[i]? = some j → (exec1 c cur x at_ q nx).1[i]? = some j) := by
  unfold exec1
  by_cases h2 : x.op = 2
  · rw [if_pos h2]
    refine ⟨fun j hj => ?_, fun j hj => .inl hj, fun i j h => addQ_get _ _ (addQ_get _ _ h)⟩
    rw [mem_addQ, mem_addQ] at hj
    rcases hj with (hj | rfl) | rfl
    · exact .inl hj
    · exact .inr fun h => (acc_split hx h2).2 (.inl h)
    · exact .inr fun h => (acc_split hx h2).2 (.inr h)
  rw [if_neg h2]
  by_cases h3 : x.op = 3
  · rw [if_pos h3]
    refine ⟨fun j hj => ?_, fun j hj => .inl hj, fun i j h => addQ_get _ _ h⟩
    rw [mem_addQ] at hj
    rcases hj with hj | rfl
    · exact .inl hj
    · exact .inr fun h => (acc_jump hx h3).2 h
  rw [if_neg h3]
  by_cases h4 : x.op = 4
  · rw [if_pos h4]
    cases cur with
    | none =>
      refine ⟨fun j hj => ?_, fun j hj => .inl hj, fun i j h => addQ_get _ _ h⟩
      have hj : j ∈ addQ q (at_ + 1) := hj
      rw [mem_addQ] at hj
      rcases hj with hj | rfl
      · exact .inl hj
      · exact .inr fun h => (acc_end hx h4).2 ⟨rfl, h⟩
    | some p => exact ⟨fun j hj => .inl hj, fun j hj => .inl hj, fun i j h => h⟩
  rw [if_neg h4]
  cases cur with
  | none => exact ⟨fun j hj => .inl hj, fun j hj => .inl hj, fun i j h => h⟩
  | some p =>
    refine ⟨fun j hj => .inl hj, fun j hj => ?_, fun i j h => h⟩
    dsimp only at hj
    split at hj
    · rename_i hh
      rw [mem_addQ] at hj
      rcases hj with hj | rfl
      · exact .inl hj
      · exact .inr ⟨by simp, fun h => (acc_take hx ⟨h2, h3, h4, h5⟩).2 ⟨p, r, rfl, hh, h⟩⟩
    · exact .inl hj

/-- What holds where an instruction's work is done. -/
def Done (c : CodeP) (cur : Option Int) (q nx : List Nat) (at_ : Nat) : Prop := ∀ x, c.ins[at_]? = some x → x.op ≠ 5 ∧ (x.op = 2 → x.a.toNat ∈ q ∧ x.b.toNat ∈ q) ∧ (x.op = 3 → x.a.toNat ∈ q) ∧ (x.op = 4 → cur = none → at_ + 1 ∈ q) ∧
  (x.op ≠ 2 → x.op ≠ 3 → x.op ≠ 4 → ∀ p, cur = some p → hasP (c.sets.getD x.a.toNat []) p = true → at_ + 1 ∈ nx)
theorem Done.mono {c : CodeP} {cur : Option Int} {q nx q' nx' : List Nat} {at_ : Nat} (h : Done c cur q nx at_) (hq : ∀ j ∈ q, j ∈ q') (hn : ∀ j ∈ nx, j ∈ nx') : Done c cur q' nx' at_ := fun x hx => by
  obtain ⟨h1, h2, h3, h4, h5⟩ := h x hx
  exact ⟨h1, fun e => ⟨hq _ (h2 e).1, hq _ (h2 e).2⟩, fun e => hq _ (h3 e), fun e e' => hq _ (h4 e e'), fun a b d p e e' => hn _ (h5 a b d p e e')⟩
theorem exec1_done {c : CodeP} {cur : Option Int} {x : I3} {at_ : Nat} {q nx : List Nat} (hx : c.ins[at_]? = some x) (h5 : x.op ≠ 5) :
    Done c cur (exec1 c cur x at_ q nx).1 (exec1 c cur x at_ q nx).2 at_ ∧ (∀ j ∈ q, j ∈ (exec1 c cur x at_ q nx).1) ∧ (∀ j ∈ nx, j ∈ (exec1 c cur x at_ q nx).2) := by
  unfold exec1 Done
  by_cases h2 : x.op = 2
  · rw [if_pos h2]
    refine ⟨fun y hy => ?_, fun j hj => mem_addQ.2 (.inl (mem_addQ.2 (.inl hj))), fun j hj => hj⟩
    rw [hx] at hy; cases hy
    exact ⟨h5, fun _ => ⟨mem_addQ.2 (.inl (mem_addQ.2 (.inr rfl))), mem_addQ.2 (.inr rfl)⟩, fun h => absurd h (by omega), fun h => absurd h (by omega), fun h => absurd h2 h⟩
  rw [if_neg h2]
  by_cases h3 : x.op = 3
  · rw [if_pos h3]
    refine ⟨fun y hy => ?_, fun j hj => mem_addQ.2 (.inl hj), fun j hj => hj⟩
    rw [hx] at hy; cases hy
    exact ⟨h5, fun h => absurd h h2, fun _ => mem_addQ.2 (.inr rfl), fun h => absurd h (by omega), fun _ h => absurd h3 h⟩
  rw [if_neg h3]
  by_cases h4 : x.op = 4
  · rw [if_pos h4]
    refine ⟨fun y hy => ?_, fun j hj => ?_, fun j hj => hj⟩
    · rw [hx] at hy; cases hy
      refine ⟨h5, fun h => absurd h h2, fun h => absurd h h3, fun _ e => ?_, fun _ _ h => absurd h4 h⟩
      subst e
      exact mem_addQ.2 (.inr rfl)
    · dsimp only; split
      · exact mem_addQ.2 (.inl hj)
      · exact hj
  rw [if_neg h4]
  cases cur with
  | none =>
    refine ⟨fun y hy => ?_, fun j hj => hj, fun j hj => hj⟩
    rw [hx] at hy; cases hy
    exact ⟨h5, fun h => absurd h h2, fun h => absurd h h3, fun h => absurd h h4, fun _ _ _ p h => by cases h⟩
  | some p =>
    refine ⟨fun y hy => ?_, fun j hj => hj, fun j hj => ?_⟩
    · rw [hx] at hy; cases hy
      refine ⟨h5, fun h => absurd h h2, fun h => absurd h h3, fun h => absurd h h4, fun _ _ _ p' e hh => ?_⟩
      cases e
      dsimp only
      rw [if_pos hh]
      exact mem_addQ.2 (.inr rfl)
    · dsimp only; split
      · exact mem_addQ.2 (.inl hj)
      · exact hj

theorem inner_sound {c : CodeP} (cur : Option Int) (r : List Int) (G : Prop) (hG : ∀ p, cur = some p → True) : ∀ (f : Nat) (q : List Nat) (k : Nat) (nx : List Nat) (st : Nat), (∀ j ∈ q, Acc c j (From cur r) → G) → (∀ j ∈ nx, cur ≠ none ∧ (Acc c j r → G)) →
    (∀ s, inner c cur f q k nx st = .yes s → G) ∧ (∀ q' nx' s, inner c cur f q k nx st = .no q' nx' s → (∀ j ∈ nx', cur ≠ none ∧ (Acc c j r → G)))
  | 0, q, k, nx, st, hq, hn => ⟨fun s h => (by rw [inner] at h; cases h), fun q' nx' s h => by rw [inner] at h; cases h; exact hn⟩
  | f + 1, q, k, nx, st, hq, hn => by
    rw [inner]
    cases hk : q[k]? with
    | none => exact ⟨fun s h => (by cases h), fun q' nx' s h => by cases h; exact hn⟩
    | some at_ =>
      dsimp only
      cases hx : c.ins[at_]? with
      | none => exact ⟨fun s h => (by cases h), fun q' nx' s h => by cases h; exact hn⟩
      | some x =>
        dsimp only
        have hat := hq at_ (List.mem_of_getElem? hk)
        by_cases h5 : x.op = 5
        · rw [if_pos h5]
          exact ⟨fun s _ => hat (acc_yes hx h5), fun q' nx' s h => by cases h⟩
        · rw [if_neg h5]
          obtain ⟨e1, e2, _⟩ := exec1_sound (cur := cur) (q := q) (nx := nx) hx h5 r
          exact inner_sound cur r G hG f _ _ _ _ (fun j hj ha => (e1 j hj).elim (fun h => hq j h ha) (fun h => hat (h ha)))
            (fun j hj => (e2 j hj).elim (fun h => hn j h) (fun h => ⟨h.1, fun ha => hat (h.2 ha)⟩))

theorem inner_closed {c : CodeP} (hc : CR c) (cur : Option Int) : ∀ (f : Nat) (q : List Nat) (k : Nat) (nx : List Nat) (st : Nat), Places c.ins.length q → Places c.ins.length nx → c.ins.length + 1 ≤ f + k →
    (∀ (i j : Nat), i < k → q[i]? = some j → Done c cur q nx j) → ∀ q' nx' s, inner c cur f q k nx st = .no q' nx' s → (∀ j ∈ q, j ∈ q') ∧ ∀ j ∈ q', Done c cur q' nx' j
  | 0, q, k, nx, st, hq, hn, hf, hd, q', nx', s, h => by
    rw [inner] at h; cases h
    refine ⟨fun j h => h, fun j hj => ?_⟩
    obtain ⟨i, hi⟩ := List.getElem?_of_mem hj
    have := (List.getElem?_eq_some_iff.1 hi).1
    have := hq.len
    exact hd i j (by omega) hi
  | f + 1, q, k, nx, st, hq, hn, hf, hd, q', nx', s, h => by
    rw [inner] at h
    cases hk : q[k]? with
    | none =>
      rw [hk] at h; cases h
      refine ⟨fun j h => h, fun j hj => ?_⟩
      obtain ⟨i, hi⟩ := List.getElem?_of_mem hj
      have h1 := (List.getElem?_eq_some_iff.1 hi).1
      have h2 := List.getElem?_eq_none_iff.1 hk
      exact hd i j (by omega) hi
    | some at_ =>
      rw [hk] at h
      dsimp only at h
      have hlt := hq.2 at_ (List.mem_of_getElem? hk)
      cases hx : c.ins[at_]? with
      | none => have := List.getElem?_eq_none_iff.1 hx; omega
      | some x =>
        rw [hx] at h
        dsimp only at h
        by_cases h5 : x.op = 5
        · rw [if_pos h5] at h; cases h
        · rw [if_neg h5] at h
          obtain ⟨p1, p2⟩ := exec1_places hc (cur := cur) hx h5 hq hn
          obtain ⟨d1, d2, d3⟩ := exec1_done (cur := cur) (q := q) (nx := nx) hx h5
          obtain ⟨_, _, e3⟩ := exec1_sound (cur := cur) (q := q) (nx := nx) hx h5 []
          obtain ⟨r1, r2⟩ := inner_closed hc cur f _ (k + 1) _ _ p1 p2 (by omega) (fun i j hi hj => by
            rcases Nat.lt_or_ge i k with hik | hik
            · have hlt : i < q.length := by
                have := (List.getElem?_eq_some_iff.1 hk).1; omega
              have hq1 := e3 i _ (List.getElem?_eq_getElem hlt)
              rw [hj] at hq1; cases hq1
              exact (hd i _ hik (List.getElem?_eq_getElem hlt)).mono d2 d3
            · have : i = k := by omega
              subst this
              have hq1 := e3 i _ hk
              rw [hj] at hq1; cases hq1
              exact d1) q' nx' s h
          exact ⟨fun j hj => r1 j (d2 j hj), r2⟩

/-- A list that is done says just what the next one says. -/
theorem closed_acc {c : CodeP} {cur : Option Int} {q nx : List Nat} {r : List Int} (hd : ∀ j ∈ q, Done c cur q nx j) : ∀ (h : Nat) (j : Nat), j ∈ q → accN c h j (From cur r) → cur ≠ none ∧ ∃ k ∈ nx, Acc c k r
  | 0, j, hj, ha => ha.elim
  | h + 1, j, hj, ha => by
    rw [accN] at ha
    cases hx : c.ins[j]? with
    | none => rw [hx] at ha; exact ha.elim
    | some x =>
      rw [hx] at ha
      dsimp only at ha
      obtain ⟨h5, h2, h3, h4, h1⟩ := hd j hj x hx
      rw [if_neg h5] at ha
      by_cases e2 : x.op = 2
      · rw [if_pos e2] at ha
        rcases ha with ha | ha
        · exact closed_acc hd h _ (h2 e2).1 ha
        · exact closed_acc hd h _ (h2 e2).2 ha
      rw [if_neg e2] at ha
      by_cases e3 : x.op = 3
      · rw [if_pos e3] at ha
        exact closed_acc hd h _ (h3 e3) ha
      rw [if_neg e3] at ha
      by_cases e4 : x.op = 4
      · rw [if_pos e4] at ha
        cases cur with
        | none => exact closed_acc hd h _ (h4 e4 rfl) ha.2
        | some p => cases ha.1
      rw [if_neg e4] at ha
      cases cur with
      | none => exact ha.elim
      | some p =>
        have ha : hasP (c.sets.getD x.a.toNat []) p = true ∧ accN c h (j + 1) r := ha
        exact ⟨by simp, _, h1 e2 e3 e4 p rfl ha.1, _, ha.2⟩

theorem inner_full {c : CodeP} (hc : CR c) (cur : Option Int) (r : List Int) {q : List Nat} (hq : Places c.ins.length q) (st : Nat) :
    (∀ s, inner c cur (c.ins.length + 1) q 0 [] st = .yes s → ∃ j ∈ q, Acc c j (From cur r)) ∧
    (∀ q' nx s, inner c cur (c.ins.length + 1) q 0 [] st = .no q' nx s → Places c.ins.length nx ∧ (cur = none → nx = []) ∧ ((∃ j ∈ q, Acc c j (From cur r)) ↔ ∃ k ∈ nx, Acc c k r)) := by
  have hs := inner_sound (c := c) cur r (∃ j ∈ q, Acc c j (From cur r)) (fun _ _ => trivial) (c.ins.length + 1) q 0 [] st (fun j hj ha => ⟨j, hj, ha⟩) (fun j hj => by cases hj)
  refine ⟨hs.1, fun q' nx s h => ?_⟩
  have h2 := hs.2 q' nx s h
  obtain ⟨h3, h4⟩ := inner_closed hc cur (c.ins.length + 1) q 0 [] st hq (Places.nil _) (by omega) (fun i j hi => absurd hi (by omega)) q' nx s h
  refine ⟨(inner_places hc _ _ _ _ _ hq (Places.nil _) _ _ _ h).2, fun e => ?_, ?_, ?_⟩
  · cases nx with
    | nil => rfl
    | cons k t => exact absurd e (h2 k (by simp)).1
  · rintro ⟨j, hj, hh, ha⟩
    exact (closed_acc h4 hh j (h3 j hj) ha).2
  · rintro ⟨k, hk, ha⟩
    exact (h2 k hk).2 ha

theorem outer_acc {c : CodeP} (hc : CR c) : ∀ (ps : List Int) (q : List Nat) (st : Nat), Places c.ins.length q → ((outer c ps q st).1 = true ↔ ∃ j ∈ q, Acc c j ps)
  | [], q, st, hq => by
    obtain ⟨h1, h2⟩ := inner_full hc none [] hq st
    rw [outer]
    cases hi : inner c none (c.ins.length + 1) q 0 [] st with
    | yes s => exact ⟨fun _ => h1 s hi, fun _ => rfl⟩
    | no q' nx s =>
      obtain ⟨_, h3, h4⟩ := h2 q' nx s hi
      rw [h3 rfl] at h4
      exact ⟨fun h => (by cases h), fun h => (by obtain ⟨k, hk, _⟩ := h4.1 h; cases hk)⟩
  | p :: ps, q, st, hq => by
    obtain ⟨h1, h2⟩ := inner_full hc (some p) ps hq st
    rw [outer]
    cases hi : inner c (some p) (c.ins.length + 1) q 0 [] st with
    | yes s => exact ⟨fun _ => h1 s hi, fun _ => rfl⟩
    | no q' nx s =>
      obtain ⟨h3, _, h4⟩ := h2 q' nx s hi
      dsimp only
      by_cases hn : nx = []
      · rw [if_pos hn]
        subst hn
        exact ⟨fun h => (by cases h), fun h => (by obtain ⟨k, hk, _⟩ := h4.1 h; cases hk)⟩
      · rw [if_neg hn, outer_acc hc ps nx s h3]
        exact h4.symm
theorem vmatch_acc {c : CodeP} (hc : CR c) (ps : List Int) : (vmatch c ps).1 = true ↔ Acc c 0 ps := by
  unfold vmatch
  rw [outer_acc hc ps [0] 0 (Places.one hc.one)]
  simp
end Cae
end

section
set_option linter.unusedSimpArgs false
set_option linter.unusedVariables false
namespace Cae

theorem CR.to {c : CodeP} (h : CR c) : codeRight c = true := by
  have h1 := h.one
  have hl : c.ins.length - 1 < c.ins.length := by omega
  have hx := List.getElem?_eq_getElem hl
  have hn := h.next _ _ hx
  unfold codeRight
  rw [hx]
  simp only [Bool.and_eq_true, decide_eq_true_eq, List.all_eq_true]
  refine ⟨⟨⟨⟨h.one, h.many, h.sets⟩, ⟨fun e => ?_, fun e => ?_⟩⟩, fun x hx => ?_⟩, h.set⟩
  · have := hn (.inl e); omega
  · have := hn (.inr e); omega
  · obtain ⟨i, hi⟩ := List.getElem?_of_mem hx
    exact h.ins i x hi

/-! Jumps aside. -/
def farP (c : CodeP) : Nat → Nat → Nat
  | 0, k => k
  | f + 1, k => match c.ins[k]? with
    | none => k
    | some x => if x.op = 3 then farP c f x.a.toNat else k
def farK (c : CodeP) (k : Nat) : Nat := farP c c.ins.length k

theorem insRight_jump {c : CodeP} (hc : CR c) {i : Nat} {x : I3} (hx : c.ins[i]? = some x) (h : x.op = 3) : 0 ≤ x.a ∧ x.a.toNat < c.ins.length ∧ x.b = 0 := by
  rcases insRight_cases (hc.ins i x hx) with ⟨e, h1, h2, h3⟩ | ⟨e, h1, h2, h3, h4⟩ | ⟨e, h1, h2, h3⟩ | ⟨e | e, h1, h2⟩
  all_goals first | omega | (exact ⟨h1, by omega, h3⟩)
theorem insRight_split {c : CodeP} (hc : CR c) {i : Nat} {x : I3} (hx : c.ins[i]? = some x) (h : x.op = 2) : 0 ≤ x.a ∧ x.a.toNat < c.ins.length ∧ 0 ≤ x.b ∧ x.b.toNat < c.ins.length := by
  rcases insRight_cases (hc.ins i x hx) with ⟨e, h1, h2, h3⟩ | ⟨e, h1, h2, h3, h4⟩ | ⟨e, h1, h2, h3⟩ | ⟨e | e, h1, h2⟩
  all_goals first | omega | (exact ⟨h1, by omega, h3, by omega⟩)
theorem insRight_take {c : CodeP} (hc : CR c) {i : Nat} {x : I3} (hx : c.ins[i]? = some x) (h : x.op ≠ 2 ∧ x.op ≠ 3 ∧ x.op ≠ 4 ∧ x.op ≠ 5) : x.op = 1 ∧ 0 ≤ x.a ∧ x.a.toNat < c.sets.length ∧ x.b = 0 := by
  rcases insRight_cases (hc.ins i x hx) with ⟨e, h1, h2, h3⟩ | ⟨e, h1, h2, h3, h4⟩ | ⟨e, h1, h2, h3⟩ | ⟨e | e, h1, h2⟩
  all_goals first | omega | (exact ⟨e, h1, by omega, h3⟩)

theorem farP_lt {c : CodeP} (hc : CR c) : ∀ (f k : Nat), k < c.ins.length → farP c f k < c.ins.length
  | 0, k, h => h
  | f + 1, k, h => by
    rw [farP]
    split
    · exact h
    · rename_i x hx
      split
      · rename_i h3; exact farP_lt hc f _ (insRight_jump hc hx h3).2.1
      · exact h
theorem farP_acc {c : CodeP} : ∀ (f k : Nat) (ps : List Int), Acc c (farP c f k) ps ↔ Acc c k ps
  | 0, k, ps => Iff.rfl
  | f + 1, k, ps => by
    rw [farP]
    split
    · exact Iff.rfl
    · rename_i x hx
      split
      · rename_i h3; rw [farP_acc f, acc_jump hx h3]
      · exact Iff.rfl
theorem farP_accN {c : CodeP} : ∀ (f h k : Nat) (ps : List Int), accN c h k ps → accN c h (farP c f k) ps
  | 0, h, k, ps, ha => ha
  | f + 1, h, k, ps, ha => by
    rw [farP]
    split
    · exact ha
    · rename_i x hx
      split
      · rename_i h3
        cases h with
        | zero => exact ha.elim
        | succ h =>
          rw [accN, hx] at ha; dsimp only at ha; rw [if_neg (by omega), if_neg (by omega), if_pos h3] at ha
          exact farP_accN f _ _ _ (accN_mono _ _ _ ha)
      · exact ha

/-- An instruction that leads as far as it does. -/
def threadI (c : CodeP) (x : I3) : I3 :=
  if x.op = 3 then ⟨x.op, farK c x.a.toNat, x.b⟩
  else if x.op = 2 then (if farK c x.a.toNat = farK c x.b.toNat then ⟨3, farK c x.a.toNat, 0⟩ else ⟨x.op, farK c x.a.toNat, farK c x.b.toNat⟩)
  else x
def thread1 (c : CodeP) (i : Nat) : CodeP := match c.ins[i]? with
  | none => c
  | some x => ⟨c.sets, c.ins.set i (threadI c x)⟩
def threadTo (c : CodeP) : Nat → CodeP
  | 0 => c
  | i + 1 => thread1 (threadTo c i) i
def threadedP (c : CodeP) : CodeP := threadTo c c.ins.length

theorem threadI_spec {c : CodeP} (hc : CR c) {i : Nat} {x : I3} (hx : c.ins[i]? = some x) : insRight (threadI c x) c.sets.length c.ins.length = true ∧ ((threadI c x).op = 1 ∨ (threadI c x).op = 4 → threadI c x = x) := by
  unfold threadI
  split
  · rename_i h3
    obtain ⟨h1, h2, hb⟩ := insRight_jump hc hx h3
    have := farP_lt hc c.ins.length _ h2
    refine ⟨?_, fun h => by dsimp only at h; omega⟩
    unfold insRight farK
    dsimp only
    rw [if_neg (by omega), if_neg (by omega), if_pos h3]
    exact decide_eq_true ⟨⟨by omega, by omega⟩, hb⟩
  · split
    · rename_i h3 h2
      obtain ⟨a1, a2, b1, b2⟩ := insRight_split hc hx h2
      have ha := farP_lt hc c.ins.length _ a2
      have hb := farP_lt hc c.ins.length _ b2
      split
      · refine ⟨?_, fun h => by dsimp only at h; omega⟩
        unfold insRight farK
        dsimp only
        rw [if_neg (by omega), if_neg (by omega), if_pos rfl]
        exact decide_eq_true ⟨⟨by omega, by omega⟩, rfl⟩
      · refine ⟨?_, fun h => by dsimp only at h; omega⟩
        unfold insRight farK
        dsimp only
        rw [if_neg (by omega), if_pos h2]
        exact decide_eq_true ⟨⟨by omega, by omega⟩, by omega, by omega⟩
    · exact ⟨hc.ins i x hx, fun _ => rfl⟩

theorem thread1_get {c : CodeP} {i : Nat} {x : I3} (hx : c.ins[i]? = some x) (j : Nat) : (thread1 c i).ins[j]? = if j = i then some (threadI c x) else c.ins[j]? := by
  unfold thread1
  rw [hx]
  dsimp only
  rw [List.getElem?_set]
  have := (List.getElem?_eq_some_iff.1 hx).1
  by_cases h : j = i
  · subst h; rw [if_pos rfl, if_pos rfl, if_pos this]
  · rw [if_neg h, if_neg (fun e => h e.symm)]
theorem thread1_sets (c : CodeP) (i : Nat) : (thread1 c i).sets = c.sets := by unfold thread1; split <;> rfl
theorem thread1_len (c : CodeP) (i : Nat) : (thread1 c i).ins.length = c.ins.length := by unfold thread1; split <;> simp
theorem thread1_CR {c : CodeP} (hc : CR c) (i : Nat) : CR (thread1 c i) := by
  cases hx : c.ins[i]? with
  | none => unfold thread1; rw [hx]; exact hc
  | some x =>
    have hs := threadI_spec hc hx
    refine ⟨by rw [thread1_len]; exact hc.one, by rw [thread1_len]; exact hc.many, by rw [thread1_sets]; exact hc.sets, fun j y hy => ?_, fun j y hy ho => ?_, by rw [thread1_sets]; exact hc.set⟩
    · rw [thread1_get hx] at hy
      rw [thread1_sets, thread1_len]
      split at hy
      · cases hy; exact hs.1
      · exact hc.ins j y hy
    · rw [thread1_get hx] at hy
      rw [thread1_len]
      split at hy
      · rename_i e
        cases hy
        rw [hs.2 ho] at ho
        subst e
        exact hc.next j x hx ho
      · exact hc.next j y hy ho
theorem thread1_acc {c : CodeP} (hc : CR c) (i : Nat) (k : Nat) (ps : List Int) : Acc (thread1 c i) k ps ↔ Acc c k ps := by
  cases hx : c.ins[i]? with
  | none => unfold thread1; rw [hx]
  | some x =>
    have hsets := thread1_sets c i
    constructor
    · rintro ⟨h, ha⟩
      induction h generalizing k ps with
      | zero => exact ha.elim
      | succ h ih =>
        by_cases hk : k = i
        · subst hk
          have hy : (thread1 c k).ins[k]? = some (threadI c x) := by rw [thread1_get hx, if_pos rfl]
          by_cases h3 : x.op = 3
          · rw [acc_jump hx h3]
            have e : threadI c x = ⟨x.op, farK c x.a.toNat, x.b⟩ := by unfold threadI; rw [if_pos h3]
            rw [e] at hy
            rw [accN, hy] at ha; dsimp only at ha; rw [if_neg (by omega), if_neg (by omega), if_pos h3] at ha
            rw [Int.toNat_natCast] at ha
            exact (farP_acc _ _ _).1 (ih _ _ ha)
          · by_cases h2 : x.op = 2
            · rw [acc_split hx h2]
              by_cases he : farK c x.a.toNat = farK c x.b.toNat
              · have e : threadI c x = ⟨3, farK c x.a.toNat, 0⟩ := by unfold threadI; rw [if_neg h3, if_pos h2, if_pos he]
                rw [e] at hy
                rw [accN, hy] at ha; dsimp only at ha; rw [if_neg (by omega), if_neg (by omega), if_pos rfl] at ha
                rw [Int.toNat_natCast] at ha
                exact .inl ((farP_acc _ _ _).1 (ih _ _ ha))
              · have e : threadI c x = ⟨x.op, farK c x.a.toNat, farK c x.b.toNat⟩ := by unfold threadI; rw [if_neg h3, if_pos h2, if_neg he]
                rw [e] at hy
                rw [accN, hy] at ha; dsimp only at ha; rw [if_neg (by omega), if_pos h2] at ha
                rw [Int.toNat_natCast, Int.toNat_natCast] at ha
                exact ha.imp (fun ha => (farP_acc _ _ _).1 (ih _ _ ha)) (fun ha => (farP_acc _ _ _).1 (ih _ _ ha))
            · have e : threadI c x = x := by unfold threadI; rw [if_neg h3, if_neg h2]
              rw [e] at hy
              rw [accN, hy] at ha; dsimp only at ha
              by_cases h5 : x.op = 5
              · exact acc_yes hx h5
              rw [if_neg h5, if_neg h2, if_neg h3] at ha
              by_cases h4 : x.op = 4
              · rw [if_pos h4] at ha; exact (acc_end hx h4).2 ⟨ha.1, ih _ _ ha.2⟩
              rw [if_neg h4, hsets] at ha
              cases ps with
              | nil => exact ha.elim
              | cons p r => exact (acc_take hx ⟨h2, h3, h4, h5⟩).2 ⟨p, r, rfl, ha.1, ih _ _ ha.2⟩
        · have hy : (thread1 c i).ins[k]? = c.ins[k]? := by rw [thread1_get hx, if_neg hk]
          rw [accN, hy] at ha
          cases hz : c.ins[k]? with
          | none => rw [hz] at ha; exact ha.elim
          | some z =>
            rw [hz] at ha; dsimp only at ha
            by_cases h5 : z.op = 5
            · exact acc_yes hz h5
            rw [if_neg h5] at ha
            by_cases h2 : z.op = 2
            · rw [if_pos h2] at ha; exact (acc_split hz h2).2 (ha.imp (ih _ _) (ih _ _))
            rw [if_neg h2] at ha
            by_cases h3 : z.op = 3
            · rw [if_pos h3] at ha; exact (acc_jump hz h3).2 (ih _ _ ha)
            rw [if_neg h3] at ha
            by_cases h4 : z.op = 4
            · rw [if_pos h4] at ha; exact (acc_end hz h4).2 ⟨ha.1, ih _ _ ha.2⟩
            rw [if_neg h4, hsets] at ha
            cases ps with
            | nil => exact ha.elim
            | cons p r => exact (acc_take hz ⟨h2, h3, h4, h5⟩).2 ⟨p, r, rfl, ha.1, ih _ _ ha.2⟩
    · rintro ⟨h, ha⟩
      induction h generalizing k ps with
      | zero => exact ha.elim
      | succ h ih =>
        by_cases hk : k = i
        · subst hk
          have hy : (thread1 c k).ins[k]? = some (threadI c x) := by rw [thread1_get hx, if_pos rfl]
          rw [accN, hx] at ha; dsimp only at ha
          by_cases h5 : x.op = 5
          · exact acc_yes hy (by unfold threadI; rw [if_neg (by omega), if_neg (by omega)]; exact h5)
          rw [if_neg h5] at ha
          by_cases h2 : x.op = 2
          · rw [if_pos h2] at ha
            have ha' := ha.imp (fun a => ih _ _ (farP_accN c.ins.length _ _ _ a)) (fun a => ih _ _ (farP_accN c.ins.length _ _ _ a))
            by_cases he : farK c x.a.toNat = farK c x.b.toNat
            · have e : threadI c x = ⟨3, farK c x.a.toNat, 0⟩ := by unfold threadI; rw [if_neg (by omega), if_pos h2, if_pos he]
              rw [e] at hy
              rw [acc_jump hy rfl]
              dsimp only
              rw [Int.toNat_natCast]
              rcases ha' with a | a
              · exact a
              · rw [he]; exact a
            · have e : threadI c x = ⟨x.op, farK c x.a.toNat, farK c x.b.toNat⟩ := by unfold threadI; rw [if_neg (by omega), if_pos h2, if_neg he]
              rw [e] at hy
              rw [acc_split hy h2]
              dsimp only
              rw [Int.toNat_natCast, Int.toNat_natCast]
              exact ha'
          rw [if_neg h2] at ha
          by_cases h3 : x.op = 3
          · rw [if_pos h3] at ha
            have e : threadI c x = ⟨x.op, farK c x.a.toNat, x.b⟩ := by unfold threadI; rw [if_pos h3]
            rw [e] at hy
            rw [acc_jump hy h3]
            dsimp only
            rw [Int.toNat_natCast]
            exact ih _ _ (farP_accN c.ins.length _ _ _ ha)
          rw [if_neg h3] at ha
          have e : threadI c x = x := by unfold threadI; rw [if_neg h3, if_neg h2]
          rw [e] at hy
          by_cases h4 : x.op = 4
          · rw [if_pos h4] at ha; exact (acc_end hy h4).2 ⟨ha.1, ih _ _ ha.2⟩
          rw [if_neg h4] at ha
          cases ps with
          | nil => exact ha.elim
          | cons p r => exact (acc_take hy ⟨h2, h3, h4, h5⟩).2 ⟨p, r, rfl, by rw [hsets]; exact ha.1, ih _ _ ha.2⟩
        · have hy : (thread1 c i).ins[k]? = c.ins[k]? := by rw [thread1_get hx, if_neg hk]
          rw [accN] at ha
          cases hz : c.ins[k]? with
          | none => rw [hz] at ha; exact ha.elim
          | some z =>
            rw [hz] at ha hy; dsimp only at ha
            by_cases h5 : z.op = 5
            · exact acc_yes hy h5
            rw [if_neg h5] at ha
            by_cases h2 : z.op = 2
            · rw [if_pos h2] at ha; exact (acc_split hy h2).2 (ha.imp (ih _ _) (ih _ _))
            rw [if_neg h2] at ha
            by_cases h3 : z.op = 3
            · rw [if_pos h3] at ha; exact (acc_jump hy h3).2 (ih _ _ ha)
            rw [if_neg h3] at ha
            by_cases h4 : z.op = 4
            · rw [if_pos h4] at ha; exact (acc_end hy h4).2 ⟨ha.1, ih _ _ ha.2⟩
            rw [if_neg h4] at ha
            cases ps with
            | nil => exact ha.elim
            | cons p r => exact (acc_take hy ⟨h2, h3, h4, h5⟩).2 ⟨p, r, rfl, by rw [hsets]; exact ha.1, ih _ _ ha.2⟩

theorem threadTo_spec {c : CodeP} (hc : CR c) : ∀ i, CR (threadTo c i) ∧ (threadTo c i).sets = c.sets ∧ (threadTo c i).ins.length = c.ins.length ∧ (∀ k ps, Acc (threadTo c i) k ps ↔ Acc c k ps) ∧ ∀ j, i ≤ j → (threadTo c i).ins[j]? = c.ins[j]?
  | 0 => ⟨hc, rfl, rfl, fun _ _ => Iff.rfl, fun _ _ => rfl⟩
  | i + 1 => by
    obtain ⟨h1, h2, h3, h4, h5⟩ := threadTo_spec hc i
    rw [threadTo]
    refine ⟨thread1_CR h1 i, by rw [thread1_sets, h2], by rw [thread1_len, h3], fun k ps => by rw [thread1_acc h1, h4], fun j hj => ?_⟩
    rw [← h5 j (by omega)]
    cases hx : (threadTo c i).ins[i]? with
    | none => unfold thread1; rw [hx]
    | some x => rw [thread1_get hx, if_neg (by omega)]
end Cae
end

section
set_option linter.unusedSimpArgs false
set_option linter.unusedVariables false
namespace Cae

/-! What is left out. -/
/-- Where an instruction may lead to. -/
def Leads (c : CodeP) (x : I3) (i j : Nat) : Prop :=
  (x.op = 2 ∧ (j = x.a.toNat ∨ j = x.b.toNat)) ∨ (x.op = 3 ∧ j = x.a.toNat) ∨ (x.op = 4 ∧ j = i + 1) ∨ (x.op = 1 ∧ c.sets.getD x.a.toNat [] ≠ [] ∧ j = i + 1)
structure Closed (c : CodeP) (is : List Bool) : Prop where
  len : is.length = c.ins.length
  zero : is[0]? = some true
  leads : ∀ (i : Nat) (x : I3), is[i]? = some true → c.ins[i]? = some x → ∀ j, Leads c x i j → is[j]? = some true

/-- The next one that is reached. -/
def nextFrom (is : List Bool) : Nat → Nat → Nat
  | 0, k => is.length
  | f + 1, k => if is[k]? = some true then k else if k < is.length then nextFrom is f (k + 1) else is.length
def nextP (is : List Bool) (i : Nat) : Nat := nextFrom is is.length (i + 1)
theorem nextFrom_spec {is : List Bool} : ∀ (f k : Nat), is.length ≤ f + k → (is[nextFrom is f k]? = some true ∧ k ≤ nextFrom is f k ∨ nextFrom is f k = is.length) ∧ ∀ j, k ≤ j → j < nextFrom is f k → is[j]? ≠ some true
  | 0, k, h => ⟨.inr rfl, fun j h1 h2 => by rw [nextFrom] at h2; omega⟩
  | f + 1, k, h => by
    rw [nextFrom]
    split
    · rename_i hk; exact ⟨.inl ⟨hk, Nat.le_refl _⟩, fun j h1 h2 => by omega⟩
    · rename_i hk
      split
      · obtain ⟨h1, h2⟩ := nextFrom_spec (is := is) f (k + 1) (by omega)
        refine ⟨h1.imp (fun h => ⟨h.1, by omega⟩) id, fun j hj hj2 => ?_⟩
        by_cases e : j = k
        · subst e; exact hk
        · exact h2 j (by omega) hj2
      · exact ⟨.inr rfl, fun j h1 h2 => by rw [List.getElem?_eq_none (by omega)]; simp⟩
theorem nextFrom_hit {is : List Bool} {f k : Nat} (h : is[k]? = some true) : nextFrom is (f + 1) k = k := by rw [nextFrom, if_pos h]
theorem nextFrom_miss {is : List Bool} {f k : Nat} (h : is[k]? ≠ some true) (hk : k < is.length) : nextFrom is (f + 1) k = nextFrom is f (k + 1) := by rw [nextFrom, if_neg h, if_pos hk]
theorem nextFrom_out {is : List Bool} : ∀ (f : Nat) {k : Nat}, is.length ≤ k → nextFrom is f k = is.length
  | 0, k, h => rfl
  | f + 1, k, h => by rw [nextFrom, if_neg (by rw [List.getElem?_eq_none h]; simp), if_neg (by omega)]

/-- A jump to the next one that is reached. -/
def skipP (c : CodeP) (is : List Bool) (i : Nat) : Bool := match c.ins[i]? with
  | none => false
  | some x => decide (x.op = 3 ∧ (nextP is i : Int) = x.a ∧ (i : Int) < x.a)
def keepP (c : CodeP) (is : List Bool) (i : Nat) : Bool := decide (is[i]? = some true) && !skipP c is i
def toP (c : CodeP) (is : List Bool) : Nat → Nat
  | 0 => 0
  | i + 1 => if keepP c is i then toP c is i + 1 else toP c is i

theorem toP_mono {c : CodeP} {is : List Bool} {i : Nat} : ∀ {j : Nat}, i ≤ j → toP c is i ≤ toP c is j
  | 0, h => by have : i = 0 := by omega
               subst this; exact Nat.le_refl _
  | j + 1, h => by
    by_cases e : i = j + 1
    · subst e; exact Nat.le_refl _
    · have := toP_mono (c := c) (is := is) (i := i) (j := j) (by omega)
      rw [toP]; split <;> omega
theorem toP_le {c : CodeP} {is : List Bool} : ∀ (j : Nat), toP c is j ≤ j
  | 0 => Nat.le_refl _
  | j + 1 => by have := toP_le (c := c) (is := is) j; rw [toP]; split <;> omega
theorem toP_lt {c : CodeP} {is : List Bool} {i j : Nat} (h : i < j) (hk : keepP c is i = true) : toP c is i < toP c is j := by
  have h1 : toP c is (i + 1) = toP c is i + 1 := by rw [toP, if_pos hk]
  have := toP_mono (c := c) (is := is) (i := i + 1) (j := j) (by omega)
  omega
theorem toP_flat {c : CodeP} {is : List Bool} {i : Nat} : ∀ {j : Nat}, i ≤ j → (∀ k, i ≤ k → k < j → keepP c is k = false) → toP c is j = toP c is i
  | 0, h, _ => by have : i = 0 := by omega
                  subst this; rfl
  | j + 1, h, hk => by
    by_cases e : i = j + 1
    · subst e; rfl
    · rw [toP, if_neg (by rw [hk j (by omega) (by omega)]; simp)]
      exact toP_flat (by omega) (fun k h1 h2 => hk k h1 (by omega))
theorem keep_is {c : CodeP} {is : List Bool} {i : Nat} (h : keepP c is i = true) : is[i]? = some true ∧ skipP c is i = false := by
  unfold keepP at h
  simp only [Bool.and_eq_true, decide_eq_true_eq, Bool.not_eq_true'] at h
  exact h
theorem keep_lt {c : CodeP} {is : List Bool} {i : Nat} (h : keepP c is i = true) : i < is.length := (List.getElem?_eq_some_iff.1 (keep_is h).1).1

/-- Each that is reached stands for one that is kept. -/
theorem keep_rep {c : CodeP} {is : List Bool} (hC : Closed c is) : ∀ (d i : Nat), is.length ≤ d + i → is[i]? = some true → ∃ j, i ≤ j ∧ keepP c is j = true ∧ toP c is j = toP c is i ∧ ∀ ps, Acc c i ps ↔ Acc c j ps
  | 0, i, h, hi => by have := (List.getElem?_eq_some_iff.1 hi).1; omega
  | d + 1, i, h, hi => by
    by_cases hs : skipP c is i = true
    · have hs' := hs
      unfold skipP at hs
      cases hx : c.ins[i]? with
      | none => rw [hx] at hs; cases hs
      | some x =>
        rw [hx] at hs
        simp only [decide_eq_true_eq] at hs
        obtain ⟨h3, hn, hgt⟩ := hs
        have hl := hC.leads i x hi hx x.a.toNat (.inr (.inl ⟨h3, rfl⟩))
        obtain ⟨j, h1, h2, h4, h5⟩ := keep_rep hC d x.a.toNat (by omega) hl
        have hnx := nextFrom_spec (is := is) is.length (i + 1) (by omega)
        have hnn : nextFrom is is.length (i + 1) = x.a.toNat := by unfold nextP at hn; omega
        rw [hnn] at hnx
        refine ⟨j, by omega, h2, ?_, fun ps => by rw [acc_jump hx h3]; exact h5 ps⟩
        rw [h4]
        apply toP_flat (by omega)
        intro k hk1 hk2
        unfold keepP
        by_cases e : k = i
        · subst e; rw [hs']; simp
        · rw [decide_eq_false (hnx.2 k (by omega) hk2)]; rfl
    · exact ⟨i, Nat.le_refl _, by unfold keepP; rw [decide_eq_true hi]; simpa using hs, rfl, fun _ => Iff.rfl⟩

/-! What is written. -/
structure LS where
  used : List Nat
  ins : List I3
def idxN (a : Nat) : List Nat → Nat
  | [] => 0
  | b :: l => if b = a then 0 else idxN a l + 1
theorem idxN_get {a : Nat} : ∀ {l : List Nat}, a ∈ l → l[idxN a l]? = some a
  | [], h => by cases h
  | b :: l, h => by
    unfold idxN
    split
    · rename_i e; subst e; rfl
    · rename_i e
      rw [List.getElem?_cons_succ]
      exact idxN_get (List.mem_of_ne_of_mem (fun h => e h.symm) h)
def lessI (c : CodeP) (is : List Bool) (used : List Nat) (x : I3) : I3 :=
  if x.op = 1 then ⟨x.op, (if x.a.toNat ∈ used then idxN x.a.toNat used else used.length : Nat), x.b⟩
  else if x.op = 3 then ⟨x.op, toP c is x.a.toNat, x.b⟩
  else if x.op = 2 then ⟨x.op, toP c is x.a.toNat, toP c is x.b.toNat⟩
  else x
def useI (used : List Nat) (x : I3) : List Nat := if x.op = 1 then (if x.a.toNat ∈ used then used else used ++ [x.a.toNat]) else used
def lessStep (c : CodeP) (is : List Bool) (s : LS) (i : Nat) : LS := match c.ins[i]? with
  | none => s
  | some x => if keepP c is i = true then ⟨useI s.used x, s.ins ++ [lessI c is s.used x]⟩ else s
def lessTo (c : CodeP) (is : List Bool) : Nat → LS
  | 0 => ⟨[], []⟩
  | i + 1 => lessStep c is (lessTo c is i) i
def lessC (c : CodeP) (s : LS) : CodeP := ⟨s.used.map (fun a => c.sets.getD a []), s.ins⟩
def lessP (c : CodeP) (is : List Bool) : CodeP := lessC c (lessTo c is c.ins.length)

/-- What an instruction is written as, with the sets of what is written. -/
def Turned (c : CodeP) (is : List Bool) (sets : List (List Rg)) (x y : I3) : Prop :=
  y.op = x.op ∧ (x.op = 1 → y.b = x.b ∧ 0 ≤ y.a ∧ y.a.toNat < sets.length ∧ sets.getD y.a.toNat [] = c.sets.getD x.a.toNat []) ∧ (x.op = 3 → y.a = toP c is x.a.toNat ∧ y.b = x.b) ∧ (x.op = 2 → y.a = toP c is x.a.toNat ∧ y.b = toP c is x.b.toNat) ∧
  (x.op ≠ 1 → x.op ≠ 2 → x.op ≠ 3 → y = x)
theorem Turned.more {c : CodeP} {is : List Bool} {sets more : List (List Rg)} {x y : I3} (h : Turned c is sets x y) : Turned c is (sets ++ more) x y := by
  obtain ⟨h1, h2, h3, h4, h5⟩ := h
  refine ⟨h1, fun e => ?_, h3, h4, h5⟩
  obtain ⟨a, b, d, f⟩ := h2 e
  refine ⟨a, b, by rw [List.length_append]; omega, ?_⟩
  rw [← f, List.getD_eq_getElem?_getD, List.getD_eq_getElem?_getD, List.getElem?_append_left d]

structure LInv (c : CodeP) (is : List Bool) (i : Nat) (s : LS) : Prop where
  len : s.ins.length = toP c is i
  nodup : s.used.Nodup
  used : ∀ a ∈ s.used, a < c.sets.length
  at_ : ∀ (j : Nat) (x : I3), j < i → keepP c is j = true → c.ins[j]? = some x → ∃ y, s.ins[toP c is j]? = some y ∧ Turned c is (s.used.map (fun a => c.sets.getD a [])) x y
  all : ∀ (k : Nat) (y : I3), s.ins[k]? = some y → ∃ j x, j < i ∧ keepP c is j = true ∧ toP c is j = k ∧ c.ins[j]? = some x ∧ Turned c is (s.used.map (fun a => c.sets.getD a [])) x y

theorem useI_more (used : List Nat) (x : I3) : ∃ m, useI used x = used ++ m := by
  unfold useI
  split
  · split
    · exact ⟨[], by simp⟩
    · exact ⟨_, rfl⟩
  · exact ⟨[], by simp⟩
theorem lessI_turned {c : CodeP} (hc : CR c) {is : List Bool} {used : List Nat} {i : Nat} {x : I3} (hx : c.ins[i]? = some x) : Turned c is ((useI used x).map (fun a => c.sets.getD a [])) x (lessI c is used x) := by
  unfold Turned lessI useI
  by_cases h1 : x.op = 1
  · rw [if_pos h1, if_pos h1]
    refine ⟨rfl, fun _ => ?_, fun h => absurd h (by omega), fun h => absurd h (by omega), fun h => absurd h1 h⟩
    dsimp only
    rw [Int.toNat_natCast]
    by_cases hm : x.a.toNat ∈ used
    · rw [if_pos hm, if_pos hm]
      have hg := idxN_get hm
      have hl := (List.getElem?_eq_some_iff.1 hg).1
      refine ⟨rfl, by omega, by rw [List.length_map]; exact hl, ?_⟩
      rw [List.getD_eq_getElem?_getD, List.getElem?_map, hg]; rfl
    · rw [if_neg hm, if_neg hm]
      refine ⟨rfl, by omega, by rw [List.length_map, List.length_append]; simp, ?_⟩
      rw [List.getD_eq_getElem?_getD, List.getElem?_map, List.getElem?_append_right (Nat.le_refl _)]; simp
  · rw [if_neg h1, if_neg h1]
    by_cases h3 : x.op = 3
    · rw [if_pos h3]
      exact ⟨rfl, fun h => absurd h h1, fun _ => ⟨rfl, rfl⟩, fun h => absurd h (by omega), fun _ _ h => absurd h3 h⟩
    · rw [if_neg h3]
      by_cases h2 : x.op = 2
      · rw [if_pos h2]
        exact ⟨rfl, fun h => absurd h h1, fun h => absurd h h3, fun _ => ⟨rfl, rfl⟩, fun _ h => absurd h2 h⟩
      · rw [if_neg h2]
        exact ⟨rfl, fun h => absurd h h1, fun h => absurd h h3, fun h => absurd h h2, fun _ _ _ => rfl⟩

theorem lessTo_inv {c : CodeP} (hc : CR c) {is : List Bool} : ∀ i, i ≤ c.ins.length → LInv c is i (lessTo c is i)
  | 0, _ => ⟨rfl, List.nodup_nil, fun _ h => (by cases h), fun j x h => absurd h (by omega), fun k y h => (by simp [lessTo] at h)⟩
  | i + 1, hi => by
    have ih := lessTo_inv hc (is := is) i (by omega)
    have hx := List.getElem?_eq_getElem (show i < c.ins.length by omega)
    rw [lessTo]
    unfold lessStep
    rw [hx]
    dsimp only
    by_cases hk : keepP c is i = true
    · rw [if_pos hk]
      have hlt : toP c is (i + 1) = toP c is i + 1 := by rw [toP, if_pos hk]
      obtain ⟨m, hm⟩ := useI_more (lessTo c is i).used c.ins[i]
      have ht := lessI_turned hc (is := is) (used := (lessTo c is i).used) hx
      refine ⟨by dsimp only; rw [List.length_append, ih.len, hlt]; rfl, ?_, ?_, fun j x hj hkj hxj => ?_, fun k y hy => ?_⟩
      · dsimp only
        unfold useI
        split
        · split
          · exact ih.nodup
          · rename_i hn
            rw [List.nodup_append]
            exact ⟨ih.nodup, by simp, fun a ha b hb => by rw [List.mem_singleton] at hb; subst hb; intro e; subst e; exact hn ha⟩
        · exact ih.nodup
      · dsimp only
        intro a ha
        unfold useI at ha
        split at ha
        · rename_i h1
          split at ha
          · exact ih.used a ha
          · rw [List.mem_append, List.mem_singleton] at ha
            rcases ha with ha | rfl
            · exact ih.used a ha
            · exact (insRight_take hc hx ⟨by omega, by omega, by omega, by omega⟩).2.2.1
        · exact ih.used a ha
      · dsimp only
        by_cases e : j = i
        · subst e
          rw [hx] at hxj; cases hxj
          exact ⟨_, by rw [List.getElem?_append_right (by rw [ih.len]; exact Nat.le_refl _), ih.len]; simp, ht⟩
        · obtain ⟨y, hy, hty⟩ := ih.at_ j x (by omega) hkj hxj
          exact ⟨y, by rw [List.getElem?_append_left (List.getElem?_eq_some_iff.1 hy).1]; exact hy, by rw [hm, List.map_append]; exact hty.more⟩
      · dsimp only at hy
        rcases Nat.lt_or_ge k (lessTo c is i).ins.length with h | h
        · rw [List.getElem?_append_left h] at hy
          obtain ⟨j, x, h1, h2, h3, h4, h5⟩ := ih.all k y hy
          exact ⟨j, x, by omega, h2, h3, h4, by dsimp only; rw [hm, List.map_append]; exact h5.more⟩
        · rw [List.getElem?_append_right h] at hy
          have : k = (lessTo c is i).ins.length := by
            have := (List.getElem?_eq_some_iff.1 hy).1
            simp at this; omega
          subst this
          rw [Nat.sub_self] at hy
          cases hy
          exact ⟨i, _, by omega, hk, ih.len.symm, hx, ht⟩
    · rw [if_neg hk]
      have hlt : toP c is (i + 1) = toP c is i := by rw [toP, if_neg hk]
      refine ⟨by rw [ih.len, hlt], ih.nodup, ih.used, fun j x hj hkj hxj => ?_, fun k y hy => ?_⟩
      · by_cases e : j = i
        · subst e; exact absurd hkj hk
        · exact ih.at_ j x (by omega) hkj hxj
      · obtain ⟨j, x, h1, h2⟩ := ih.all k y hy
        exact ⟨j, x, by omega, h2⟩

theorem lessP_acc {c : CodeP} (hc : CR c) {is : List Bool} (hC : Closed c is) (tail : List I3) (i : Nat) (hi : is[i]? = some true) (ps : List Int) :
    Acc c i ps ↔ Acc ⟨(lessP c is).sets, (lessP c is).ins ++ tail⟩ (toP c is i) ps := by
  have hI := lessTo_inv hc (is := is) c.ins.length (Nat.le_refl _)
  have hat : ∀ j, keepP c is j = true → ∃ x y, c.ins[j]? = some x ∧ is[j]? = some true ∧ ((lessP c is).ins ++ tail)[toP c is j]? = some y ∧ Turned c is (lessP c is).sets x y := fun j hj => by
    have hlt := keep_lt hj
    rw [hC.len] at hlt
    obtain ⟨y, hy, ht⟩ := hI.at_ j _ hlt hj (List.getElem?_eq_getElem hlt)
    have hy' : (lessP c is).ins[toP c is j]? = some y := hy
    exact ⟨_, y, List.getElem?_eq_getElem hlt, (keep_is hj).1, by rw [List.getElem?_append_left (List.getElem?_eq_some_iff.1 hy').1]; exact hy', ht⟩
  have hto : ∀ j, keepP c is j = true → toP c is (j + 1) = toP c is j + 1 := fun j hj => by rw [toP, if_pos hj]
  constructor
  · rintro ⟨h, ha⟩
    induction h generalizing i ps with
    | zero => exact ha.elim
    | succ h ih =>
      by_cases hk : keepP c is i = true
      · obtain ⟨x, y, hx, _, hy, ho, t1, t3, t2, t0⟩ := hat i hk
        have hl := hC.leads i x hi hx
        rw [accN, hx] at ha; dsimp only at ha
        by_cases h5 : x.op = 5
        · exact acc_yes hy (by omega)
        rw [if_neg h5] at ha
        by_cases h2 : x.op = 2
        · rw [if_pos h2] at ha
          obtain ⟨e1, e2⟩ := t2 h2
          rw [acc_split hy (by omega), e1, e2, Int.toNat_natCast, Int.toNat_natCast]
          exact ha.imp (ih _ (hl _ (.inl ⟨h2, .inl rfl⟩)) _) (ih _ (hl _ (.inl ⟨h2, .inr rfl⟩)) _)
        rw [if_neg h2] at ha
        by_cases h3 : x.op = 3
        · rw [if_pos h3] at ha
          obtain ⟨e1, e2⟩ := t3 h3
          rw [acc_jump hy (by omega), e1, Int.toNat_natCast]
          exact ih _ (hl _ (.inr (.inl ⟨h3, rfl⟩))) _ ha
        rw [if_neg h3] at ha
        by_cases h4 : x.op = 4
        · rw [if_pos h4] at ha
          rw [acc_end hy (by omega), ← hto i hk]
          exact ⟨ha.1, ih _ (hl _ (.inr (.inr (.inl ⟨h4, rfl⟩)))) _ ha.2⟩
        rw [if_neg h4] at ha
        have h1 := (insRight_take hc hx ⟨h2, h3, h4, h5⟩).1
        obtain ⟨e1, e2, e3, e4⟩ := t1 h1
        cases ps with
        | nil => exact ha.elim
        | cons p r =>
          have ha : hasP (c.sets.getD x.a.toNat []) p = true ∧ accN c h (i + 1) r := ha
          refine (acc_take hy ⟨by omega, by omega, by omega, by omega⟩).2 ⟨p, r, rfl, ?_, ?_⟩
          · dsimp only; rw [e4]; exact ha.1
          · rw [← hto i hk]
            refine ih _ (hl _ (.inr (.inr (.inr ⟨h1, ?_, rfl⟩)))) _ ha.2
            intro e; rw [e] at ha; exact absurd ha.1 (by simp [hasP])
      · -- a jump that is skipped
        have hs : skipP c is i = true := by
          unfold keepP at hk; rw [decide_eq_true hi] at hk; simpa using hk
        obtain ⟨j, hij, hkj, htj, haj⟩ := keep_rep hC is.length i (by omega) hi
        unfold skipP at hs
        cases hx : c.ins[i]? with
        | none => rw [hx] at hs; cases hs
        | some x =>
          rw [hx] at hs
          simp only [decide_eq_true_eq] at hs
          obtain ⟨h3, hn, hgt⟩ := hs
          rw [accN, hx] at ha; dsimp only at ha; rw [if_neg (by omega), if_neg (by omega), if_pos h3] at ha
          have hl := hC.leads i x hi hx x.a.toNat (.inr (.inl ⟨h3, rfl⟩))
          have := ih _ hl _ ha
          have hnx := nextFrom_spec (is := is) is.length (i + 1) (by omega)
          have hnn : nextFrom is is.length (i + 1) = x.a.toNat := by unfold nextP at hn; omega
          rw [hnn] at hnx
          have hfl : toP c is x.a.toNat = toP c is i := by
            apply toP_flat (by omega)
            intro k hk1 hk2
            by_cases e : k = i
            · subst e; simpa using hk
            · unfold keepP
              rw [decide_eq_false (hnx.2 k (by omega) hk2)]; rfl
          rwa [hfl] at this
  · rintro ⟨h, ha⟩
    obtain ⟨j, hij, hkj, htj, haj⟩ := keep_rep hC is.length i (by omega) hi
    refine (haj ps).2 ?_
    rw [← htj] at ha
    clear haj htj hi hij i
    induction h generalizing j ps with
    | zero => exact ha.elim
    | succ h ih =>
      have step : ∀ k, is[k]? = some true → ∀ ps, accN ⟨(lessP c is).sets, (lessP c is).ins ++ tail⟩ h (toP c is k) ps → Acc c k ps := fun k hk ps ha => by
        obtain ⟨j', h1, h2, h3, h4⟩ := keep_rep hC is.length k (by omega) hk
        rw [← h3] at ha
        exact (h4 ps).2 (ih _ _ ha h2)
      obtain ⟨x, y, hx, hi, hy, ho, t1, t3, t2, t0⟩ := hat j hkj
      have hl := hC.leads j x hi hx
      rw [accN, hy] at ha; dsimp only at ha
      by_cases h5 : x.op = 5
      · exact acc_yes hx h5
      rw [if_neg (by omega)] at ha
      by_cases h2 : x.op = 2
      · rw [if_pos (by omega)] at ha
        obtain ⟨e1, e2⟩ := t2 h2
        rw [e1, e2, Int.toNat_natCast, Int.toNat_natCast] at ha
        rw [acc_split hx h2]
        exact ha.imp (step _ (hl _ (.inl ⟨h2, .inl rfl⟩)) _) (step _ (hl _ (.inl ⟨h2, .inr rfl⟩)) _)
      rw [if_neg (by omega)] at ha
      by_cases h3 : x.op = 3
      · rw [if_pos (by omega)] at ha
        obtain ⟨e1, e2⟩ := t3 h3
        rw [e1, Int.toNat_natCast] at ha
        rw [acc_jump hx h3]
        exact step _ (hl _ (.inr (.inl ⟨h3, rfl⟩))) _ ha
      rw [if_neg (by omega)] at ha
      by_cases h4 : x.op = 4
      · rw [if_pos (by omega), ← hto j hkj] at ha
        rw [acc_end hx h4]
        exact ⟨ha.1, step _ (hl _ (.inr (.inr (.inl ⟨h4, rfl⟩)))) _ ha.2⟩
      rw [if_neg (by omega), ← hto j hkj] at ha
      have h1 := (insRight_take hc hx ⟨h2, h3, h4, h5⟩).1
      obtain ⟨e1, e2, e3, e4⟩ := t1 h1
      cases ps with
      | nil => exact ha.elim
      | cons p r =>
        have ha : hasP ((lessP c is).sets.getD y.a.toNat []) p = true ∧ accN ⟨(lessP c is).sets, (lessP c is).ins ++ tail⟩ h (toP c is (j + 1)) r := ha
        rw [e4] at ha
        refine (acc_take hx ⟨h2, h3, h4, h5⟩).2 ⟨p, r, rfl, ha.1, step _ (hl _ (.inr (.inr (.inr ⟨h1, ?_, rfl⟩)))) _ ha.2⟩
        intro e; rw [e] at ha; exact absurd ha.1 (by simp [hasP])

def yesI : I3 := ⟨5, 0, 0⟩
theorem lessP_len {c : CodeP} (hc : CR c) (is : List Bool) : (lessP c is).ins.length = toP c is c.ins.length := (lessTo_inv hc (is := is) c.ins.length (Nat.le_refl _)).len

theorem lessP_right {c : CodeP} (hc : CR c) {is : List Bool} (hC : Closed c is) : 1 ≤ (lessP c is).ins.length ∧ (lessP c is).ins.length ≤ c.ins.length ∧ (lessP c is).sets.length ≤ c.sets.length ∧
    (codeRight (lessP c is) = true ∨ (codeRight (lessP c is) = false ∧ (lessP c is).ins.length + 1 ≤ c.ins.length ∧ CR ⟨(lessP c is).sets, (lessP c is).ins ++ [yesI]⟩)) := by
  have hI := lessTo_inv hc (is := is) c.ins.length (Nat.le_refl _)
  have hlen := lessP_len hc is
  have hle := toP_le (c := c) (is := is) c.ins.length
  have h1 : 1 ≤ (lessP c is).ins.length := by
    obtain ⟨j, _, h2, _⟩ := keep_rep hC is.length 0 (by omega) hC.zero
    have := keep_lt h2
    rw [hC.len] at this
    have := toP_lt this h2
    omega
  have hsl : (lessP c is).sets.length ≤ c.sets.length := by
    show ((lessTo c is c.ins.length).used.map _).length ≤ _
    rw [List.length_map]
    exact nodup_bound _ _ hI.nodup hI.used
  have hsr : ∀ s ∈ (lessP c is).sets, setRight (-2) s = true := fun s hs => by
    obtain ⟨a, ha, rfl⟩ := List.mem_map.1 (show s ∈ (lessTo c is c.ins.length).used.map (fun a => c.sets.getD a []) from hs)
    have hlt := hI.used a ha
    rw [List.getD_eq_getElem?_getD, List.getElem?_eq_getElem hlt]
    exact hc.set _ (List.getElem_mem hlt)
  have hreach : ∀ k, is[k]? = some true → toP c is k < (lessP c is).ins.length := fun k hk => by
    obtain ⟨j, _, h2, h3, _⟩ := keep_rep hC is.length k (by omega) hk
    have := keep_lt h2
    rw [hC.len] at this
    have := toP_lt this h2
    omega
  have hins : ∀ (k : Nat) (y : I3), (lessP c is).ins[k]? = some y → insRight y (lessP c is).sets.length (lessP c is).ins.length = true ∧ (y.op = 4 → k + 1 < (lessP c is).ins.length) ∧
      (y.op = 1 → k + 1 < (lessP c is).ins.length ∨ (lessP c is).ins.length + 1 ≤ c.ins.length) := fun k y hy => by
    obtain ⟨j, x, hj, hkj, htj, hx, ho, t1, t3, t2, t0⟩ := hI.all k y hy
    have hi := (keep_is hkj).1
    have hl := hC.leads j x hi hx
    have hto : toP c is (j + 1) = toP c is j + 1 := by rw [toP, if_pos hkj]
    have hr := hc.ins j x hx
    refine ⟨?_, fun h4 => ?_, fun h => ?_⟩
    · unfold insRight
      rcases insRight_cases hr with ⟨e, g1, g2, g3⟩ | ⟨e, g1, g2, g3, g4⟩ | ⟨e, g1, g2, g3⟩ | ⟨e, g1, g2⟩
      · obtain ⟨e1, e2, e3, e4⟩ := t1 e
        rw [if_pos (by omega)]
        have : (y.a.toNat : Nat) < (lessP c is).sets.length := e3
        exact decide_eq_true ⟨e2, by omega, by omega⟩
      · obtain ⟨e1, e2⟩ := t2 e
        rw [if_neg (by omega), if_pos (by omega)]
        have q1 := hreach _ (hl _ (.inl ⟨e, .inl rfl⟩))
        have q2 := hreach _ (hl _ (.inl ⟨e, .inr rfl⟩))
        exact decide_eq_true ⟨⟨by omega, by omega⟩, by omega, by omega⟩
      · obtain ⟨e1, e2⟩ := t3 e
        rw [if_neg (by omega), if_neg (by omega), if_pos (by omega)]
        have q1 := hreach _ (hl _ (.inr (.inl ⟨e, rfl⟩)))
        exact decide_eq_true ⟨⟨by omega, by omega⟩, by omega⟩
      · have := t0 (by omega) (by omega) (by omega)
        subst this
        rw [if_neg (by omega), if_neg (by omega), if_neg (by omega), if_pos e]
        exact decide_eq_true ⟨g1, g2⟩
    · have := hreach _ (hl _ (.inr (.inr (.inl ⟨by omega, rfl⟩))))
      omega
    · have hlt := hc.next j x hx (.inl (by omega))
      by_cases hn : is[j + 1]? = some true
      · have := hreach _ hn; omega
      · right
        have hkn : keepP c is (j + 1) = false := by unfold keepP; rw [decide_eq_false hn]; rfl
        have q1 : toP c is (j + 2) = toP c is (j + 1) := by rw [toP, hkn]; simp
        have q2 := toP_le (c := c) (is := is) (j + 1)
        have q3 : ∀ m, toP c is (j + 2 + m) ≤ toP c is (j + 2) + m := fun m => by
          induction m with
          | zero => exact Nat.le_refl _
          | succ m ih => rw [← Nat.add_assoc, toP]; split <;> omega
        have := q3 (c.ins.length - (j + 2))
        rw [show j + 2 + (c.ins.length - (j + 2)) = c.ins.length by omega] at this
        omega
  refine ⟨h1, by omega, hsl, ?_⟩
  have hm := hc.many
  have hs := hc.sets
  by_cases hR : codeRight (lessP c is) = true
  · exact .inl hR
  · right
    have hshort : (lessP c is).ins.length + 1 ≤ c.ins.length := by
      apply Classical.byContradiction
      intro hn
      apply hR
      apply CR.to
      refine ⟨h1, by omega, by omega, fun k y hy => (hins k y hy).1, fun k y hy hop => ?_, hsr⟩
      rcases hop with h | h
      · rcases (hins k y hy).2.2 h with h | h
        · exact h
        · exact absurd h hn
      · exact (hins k y hy).2.1 h
    refine ⟨by simpa using hR, hshort, ?_⟩
    have hll : ((lessP c is).ins ++ [yesI]).length = (lessP c is).ins.length + 1 := by simp
    have wid : ∀ y : I3, insRight y (lessP c is).sets.length (lessP c is).ins.length = true → insRight y (lessP c is).sets.length ((lessP c is).ins ++ [yesI]).length = true := fun y hy => by
      rw [hll]
      unfold insRight
      rcases insRight_cases hy with ⟨e, g1, g2, g3⟩ | ⟨e, g1, g2, g3, g4⟩ | ⟨e, g1, g2, g3⟩ | ⟨e, g1, g2⟩
      · rw [if_pos e]; exact decide_eq_true ⟨g1, g2, g3⟩
      · rw [if_neg (by omega), if_pos e]; exact decide_eq_true ⟨⟨by omega, by omega⟩, by omega, by omega⟩
      · rw [if_neg (by omega), if_neg (by omega), if_pos e]; exact decide_eq_true ⟨⟨by omega, by omega⟩, by omega⟩
      · rw [if_neg (by omega), if_neg (by omega), if_neg (by omega), if_pos e]; exact decide_eq_true ⟨g1, g2⟩
    refine ⟨by dsimp only; omega, by dsimp only; omega, by dsimp only; omega, fun k y hy => ?_, fun k y hy hop => ?_, hsr⟩
    · dsimp only at hy ⊢
      rcases Nat.lt_or_ge k (lessP c is).ins.length with h | h
      · rw [List.getElem?_append_left h] at hy
        exact wid y (hins k y hy).1
      · rw [List.getElem?_append_right h] at hy
        have : k - (lessP c is).ins.length = 0 := by
          have := (List.getElem?_eq_some_iff.1 hy).1
          simp at this; omega
        rw [this] at hy
        cases hy
        rfl
    · dsimp only at hy ⊢
      rw [hll]
      rcases Nat.lt_or_ge k (lessP c is).ins.length with h | h
      · omega
      · rw [List.getElem?_append_right h] at hy
        have : k - (lessP c is).ins.length = 0 := by
          have := (List.getElem?_eq_some_iff.1 hy).1
          simp at this; omega
        rw [this] at hy
        cases hy
        exact absurd hop (by simp [yesI])
end Cae
end
