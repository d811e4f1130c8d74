import Derived.Test.YtonedboaomehaaaDoorPagain
namespace Cae

/-- The reference's UTF-8 of a point. -/
def uref (q : Int) : List UInt8 := if okPoint q then uenc1 q.toNat else []
theorem uref_len (q : Int) : (uref q).length ≤ 4 := by unfold uref; split; exact (uenc1_length _).2; simp
theorem uref_nil (q : Int) : uref q = [] ↔ ¬ okPoint q := by
  unfold uref
  split
  · rename_i h
    have := (uenc1_length q.toNat).1
    constructor
    · intro h0; rw [h0] at this; simp at this
    · intro h0; exact absurd h h0
  · rename_i h; exact ⟨fun _ => h, fun _ => rfl⟩

/-- What stands in the first n bytes, six bits a byte. -/
def racc (s : List UInt8) : Nat → Nat
  | 0 => 0
  | 1 => (s.getD 0 0).toNat
  | n + 2 => racc s (n + 1) * 64 + (s.getD (n + 1) 0).toNat % 64
def qof (n p : Nat) : Nat := if n = 1 then p else p % 2 ^ (5 * n + 1)

theorem racc_lt (s : List UInt8) : ∀ n, 1 ≤ n → racc s n < 256 * 64 ^ (n - 1)
  | 1, _ => by have := (s.getD 0 0).toNat_lt; simp only [racc]; omega
  | n + 2, _ => by
    have := racc_lt s (n + 1) (by omega)
    simp only [racc, Nat.add_sub_cancel] at this ⊢
    rw [show n + 2 - 1 = n + 1 by omega, Nat.pow_succ]
    omega

theorem take_getD {s l : List UInt8} {n i : Nat} (h : s.take n = l) (hi : i < l.length) : s.getD i 0 = l.getD i 0 := by
  subst h
  rw [List.length_take] at hi
  simp [List.getD_eq_getElem?_getD, List.getElem?_take, show i < n by omega]

theorem qof_enc {s : List UInt8} {p n : Nat} (h : s.take n = uenc1 p) (hp : okPoint (p : Int)) (hn : n ≤ s.length) : qof n (racc s n) = p := by
  have hl : n = (uenc1 p).length := by rw [← h, List.length_take]; omega
  obtain ⟨hp0, hp1, hp2⟩ := hp
  have g := fun i hi => take_getD (i := i) h hi
  unfold uenc1 at h hl g
  split at h
  · rename_i c
    rw [if_pos c] at hl g
    subst hl
    simp only [List.length_cons, List.length_nil] at g ⊢
    have g0 := g 0 (by omega)
    simp only [List.getD_cons_zero] at g0
    simp only [racc, qof, if_true, g0]
    exact byt_toNat (by omega)
  · rename_i c
    rw [if_neg c] at hl g
    split at h
    · rename_i c1
      rw [if_pos c1] at hl g
      subst hl
      simp only [List.length_cons, List.length_nil] at g ⊢
      have g0 := g 0 (by omega)
      have g1 := g 1 (by omega)
      simp only [List.getD_cons_zero, List.getD_cons_succ] at g0 g1
      simp only [racc, qof, g0, g1, byt_toNat (show 192 + p / 64 < 256 by omega), byt_toNat (show 128 + p % 64 < 256 by omega)]
      rw [if_neg (by omega)]
      simp only [Nat.zero_add, Nat.reduceAdd, Nat.reduceMul, Nat.reducePow]
      omega
    · rename_i c1
      rw [if_neg c1] at hl g
      split at h
      · rename_i c2
        rw [if_pos c2] at hl g
        subst hl
        simp only [List.length_cons, List.length_nil] at g ⊢
        have g0 := g 0 (by omega)
        have g1 := g 1 (by omega)
        have g2 := g 2 (by omega)
        simp only [List.getD_cons_zero, List.getD_cons_succ] at g0 g1 g2
        simp only [racc, qof, g0, g1, g2, byt_toNat (show 224 + p / 4096 < 256 by omega), byt_toNat (show 128 + p / 64 % 64 < 256 by omega), byt_toNat (show 128 + p % 64 < 256 by omega)]
        rw [if_neg (by omega)]
        simp only [Nat.zero_add, Nat.reduceAdd, Nat.reduceMul, Nat.reducePow]
        omega
      · rename_i c2
        rw [if_neg c2] at hl g
        subst hl
        simp only [List.length_cons, List.length_nil] at g ⊢
        have g0 := g 0 (by omega)
        have g1 := g 1 (by omega)
        have g2 := g 2 (by omega)
        have g3 := g 3 (by omega)
        simp only [List.getD_cons_zero, List.getD_cons_succ] at g0 g1 g2 g3
        simp only [racc, qof, g0, g1, g2, g3, byt_toNat (show 240 + p / 262144 < 256 by omega), byt_toNat (show 128 + p / 4096 % 64 < 256 by omega), byt_toNat (show 128 + p / 64 % 64 < 256 by omega), byt_toNat (show 128 + p % 64 < 256 by omega)]
        rw [if_neg (by omega)]
        simp only [Nat.zero_add, Nat.reduceAdd, Nat.reduceMul, Nat.reducePow]
        omega

theorem ref_hit {s : List UInt8} {n : Nat} (h1 : 1 ≤ n) (hn : n ≤ s.length) : uref (qof n (racc s n) : Nat) = s.take n ↔ (ufirst s).2 = n := by
  constructor
  · intro h
    unfold uref at h
    split at h
    · rename_i hok
      have hl := congrArg List.length h
      rw [List.length_take] at hl
      have e : s = uenc1 (qof n (racc s n)) ++ s.drop n := by
        rw [Int.toNat_natCast] at h
        rw [h, List.take_append_drop]
      have := ufirst_enc (s.drop n) hok
      rw [← e] at this
      rw [this]
      simp only [Int.toNat_natCast] at hl
      omega
    · have := congrArg List.length h
      simp only [List.length_nil, List.length_take] at this
      omega
  · intro h
    obtain ⟨he, hok⟩ := enc_first (s := s) (by omega)
    rw [h] at he
    have hq := qof_enc he.symm hok hn
    rw [hq]
    unfold uref
    rw [if_pos hok, Int.toNat_natCast]
    exact he
theorem ref_val {s : List UInt8} {n : Nat} (hn : n ≤ s.length) (h1 : 1 ≤ n) (h : (ufirst s).2 = n) : (ufirst s).1 = qof n (racc s n) := by
  obtain ⟨he, hok⟩ := enc_first (s := s) (by omega)
  rw [h] at he
  exact (qof_enc he.symm hok hn).symm
end Cae
