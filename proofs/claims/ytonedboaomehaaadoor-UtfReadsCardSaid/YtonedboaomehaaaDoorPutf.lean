/- What texts of bytes are as code points, in plain words: no program here. -/
namespace Cae

def usize (c : Nat) : Nat := if c < 128 then 1 else if 194 ≤ c ∧ c < 224 then 2 else if 224 ≤ c ∧ c < 240 then 3 else if 240 ≤ c ∧ c < 245 then 4 else 0
theorem usize_le (c : Nat) : usize c ≤ 4 := by unfold usize; grind

def uleast (n : Nat) : Nat := if n = 2 then 128 else if n = 3 then 2048 else if n = 4 then 65536 else 0
def ulead (n c : Nat) : Nat := if 1 < n then c % 2 ^ (7 - n) else c
def ubad (n p : Nat) : Prop := p < uleast n ∨ 1114111 < p ∨ (55296 ≤ p ∧ p < 57344)
instance (n p : Nat) : Decidable (ubad n p) := by unfold ubad; infer_instance

/-- The bytes behind the first one. -/
def urd : List UInt8 → Nat → Option Nat
  | [], p => some p
  | c :: r, p => if c.toNat / 64 = 2 then urd r (p * 64 + c.toNat % 64) else none

/-- The code point at a text's beginning, and how many bytes it has. -/
def ufirst (s : List UInt8) : Nat × Nat := match s with
  | [] => (0, 0)
  | c :: _ =>
    let n := usize c.toNat
    if n = 0 ∨ s.length < n then (0, 0) else
    match urd ((s.take n).drop 1) (ulead n c.toNat) with
    | none => (0, 0)
    | some p => if ubad n p then (0, 0) else (p, n)

structure U where
  p : Nat
  at_ : Nat
  n : Nat
  deriving DecidableEq

/-- The code point, and how many bytes: a byte with which none begins is one of its own. -/
def ustep (s : List UInt8) : Nat × Nat := if (ufirst s).2 = 0 then (65533, 1) else ufirst s

theorem ufirst_le (s : List UInt8) : (ufirst s).2 ≤ s.length ∧ (ufirst s).2 ≤ 4 ∧ ((ufirst s).2 = 0 → ufirst s = (0, 0)) ∧ (ufirst s).1 ≤ 1114111 := by
  unfold ufirst
  cases s with
  | nil => simp
  | cons c s =>
    dsimp only
    split
    · simp
    · rename_i h
      have hu := usize_le c.toNat
      have h1 : usize c.toNat ≠ 0 := fun e => h (.inl e)
      have h2 : ¬ (c :: s).length < usize c.toNat := fun e => h (.inr e)
      split
      · simp
      · split
        · simp
        · rename_i hb
          unfold ubad at hb
          simp only [not_or, Nat.not_lt] at hb
          exact ⟨by omega, hu, fun e => absurd e h1, hb.2.1⟩

theorem ustep_pos (s : List UInt8) : 1 ≤ (ustep s).2 ∧ (ustep s).2 ≤ 4 := by
  unfold ustep
  have := ufirst_le s
  split <;> first | (simp; done) | (simp; omega) | omega

theorem ustep_le (s : List UInt8) (h : s ≠ []) : (ustep s).2 ≤ s.length := by
  unfold ustep
  have := ufirst_le s
  have : 0 < s.length := List.length_pos_iff.2 h
  split <;> first | (simp; done) | (simp; omega) | omega

def udec (at_ : Nat) (s : List UInt8) : List U :=
  if _h : s = [] then [] else ⟨(ustep s).1, at_, (ustep s).2⟩ :: udec (at_ + (ustep s).2) (s.drop (ustep s).2)
termination_by s.length
decreasing_by
  have h1 := ustep_pos s
  have h2 : 0 < s.length := List.length_pos_iff.2 (by assumption)
  simp
  omega

theorem udec_nil (a : Nat) : udec a [] = [] := by rw [udec]; simp
theorem udec_cons (a : Nat) (s : List UInt8) (h : s ≠ []) : udec a s = ⟨(ustep s).1, a, (ustep s).2⟩ :: udec (a + (ustep s).2) (s.drop (ustep s).2) := by rw [udec]; simp [h]

theorem udec_length (n : Nat) : ∀ (s : List UInt8) (a : Nat), s.length = n → (udec a s).length ≤ s.length := by
  induction n using Nat.strongRecOn with
  | _ n ih =>
    intro s a hs
    by_cases h : s = []
    · subst h; simp [udec_nil]
    · rw [udec_cons a s h]
      have h1 := ustep_pos s
      have h2 := ustep_le s h
      have := ih (s.drop (ustep s).2).length (by rw [List.length_drop]; omega) (s.drop (ustep s).2) (a + (ustep s).2) rfl
      rw [List.length_drop] at this
      simp only [List.length_cons]
      omega

/-- The same with a known number of steps. -/
def udecF : Nat → Nat → List UInt8 → List U
  | 0, _, _ => []
  | n + 1, a, s => match s with
    | [] => []
    | _ :: _ => ⟨(ustep s).1, a, (ustep s).2⟩ :: udecF n (a + (ustep s).2) (s.drop (ustep s).2)
theorem udec_fuel : ∀ (n a : Nat) (s : List UInt8), s.length ≤ n → udec a s = udecF n a s
  | 0, a, s, h => by
    have : s = [] := List.eq_nil_of_length_eq_zero (by omega)
    subst this; rw [udec_nil]; rfl
  | n + 1, a, [], _ => by rw [udec_nil]; rfl
  | n + 1, a, c :: s, h => by
    have h1 := ustep_pos (c :: s)
    rw [udec_cons _ _ (by simp), udecF, udec_fuel n _ _ (by rw [List.length_drop]; simp only [List.length_cons] at h ⊢; omega)]

/-! writing -/
def okPoint (p : Int) : Prop := 0 ≤ p ∧ p ≤ 1114111 ∧ ¬ (55296 ≤ p ∧ p < 57344)
instance (p : Int) : Decidable (okPoint p) := by unfold okPoint; infer_instance

def byt (n : Nat) : UInt8 := UInt8.ofNat n
theorem byt_toNat {n : Nat} (h : n < 256) : (byt n).toNat = n := by simp [byt]; omega

def uenc1 (p : Nat) : List UInt8 :=
  if p < 128 then [byt p]
  else if p < 2048 then [byt (192 + p / 64), byt (128 + p % 64)]
  else if p < 65536 then [byt (224 + p / 4096), byt (128 + p / 64 % 64), byt (128 + p % 64)]
  else [byt (240 + p / 262144), byt (128 + p / 4096 % 64), byt (128 + p / 64 % 64), byt (128 + p % 64)]

def uenc (l : List Int) : List UInt8 := l.flatMap fun p => uenc1 p.toNat
theorem uenc1_length (p : Nat) : 1 ≤ (uenc1 p).length ∧ (uenc1 p).length ≤ 4 := by unfold uenc1; split <;> (try split) <;> (try split) <;> simp
theorem uenc_length (l : List Int) : (uenc l).length ≤ 4 * l.length := by
  induction l with
  | nil => simp [uenc]
  | cons p l ih => simp only [uenc, List.flatMap_cons, List.length_append, List.length_cons] at ih ⊢; have := uenc1_length p.toNat; omega

theorem ufirst_none {c : UInt8} {s : List UInt8} (h0 : usize c.toNat ≠ 0) (hl : usize c.toNat ≤ (c :: s).length)
    (h : urd (((c :: s).take (usize c.toNat)).drop 1) (ulead (usize c.toNat) c.toNat) = none) : ufirst (c :: s) = (0, 0) := by
  unfold ufirst
  dsimp only
  rw [if_neg (by omega), h]
theorem ufirst_some {c : UInt8} {s : List UInt8} {p : Nat} (h0 : usize c.toNat ≠ 0) (hl : usize c.toNat ≤ (c :: s).length)
    (h : urd (((c :: s).take (usize c.toNat)).drop 1) (ulead (usize c.toNat) c.toNat) = some p) :
    ufirst (c :: s) = if ubad (usize c.toNat) p then (0, 0) else (p, usize c.toNat) := by
  unfold ufirst
  dsimp only
  rw [if_neg (by omega), h]
theorem urd_step {s : List UInt8} {n i p : Nat} {R : Option Nat} (hi : i < n) (hn : n ≤ s.length) (h : urd ((s.take n).drop i) p = R) :
    (if (s.getD i 0).toNat / 64 = 2 then urd ((s.take n).drop (i + 1)) (p * 64 + (s.getD i 0).toNat % 64) else none) = R := by
  have hl : i < (s.take n).length := by rw [List.length_take]; omega
  rw [List.drop_eq_getElem_cons hl, urd] at h
  have e : (s.take n)[i] = s.getD i 0 := by
    rw [List.getElem_take, List.getD_eq_getElem?_getD, List.getElem?_eq_getElem (by omega)]; rfl
  rw [e] at h
  exact h
theorem urd_end {s : List UInt8} {n i p : Nat} {R : Option Nat} (hi : n ≤ i) (h : urd ((s.take n).drop i) p = R) : R = some p := by
  rw [List.drop_eq_nil_of_le (by rw [List.length_take]; omega)] at h
  exact h.symm
theorem urd_bound {p i k : Nat} (h : p < 256 * 64 ^ (i - 1)) (h1 : 1 ≤ i) (hk : k < 64) : p * 64 + k < 256 * 64 ^ (i + 1 - 1) := by
  obtain ⟨j, rfl⟩ : ∃ j, i = j + 1 := ⟨i - 1, by omega⟩
  simp only [Nat.add_sub_cancel] at h ⊢
  rw [Nat.pow_succ]
  omega
theorem urd_small {p i : Nat} (h : p < 256 * 64 ^ (i - 1)) (hi : i ≤ 4) : p < 67108865 := by
  have : 64 ^ (i - 1) ≤ 64 ^ 3 := Nat.pow_le_pow_right (by omega) (by omega)
  omega

end Cae
