import Derived.Test.YtimjpijbcnjaaaaDoorRightb
import Derived.Test.YtimjpijbcnjaaaaDoorP
namespace Go.Proofs.YtimjpijbcnjaaaaDoor
open Go.Vc Go.Proofs Go.RowKit Cae
set_option maxRecDepth 100000
set_option linter.unusedSimpArgs false
set_option linter.unusedVariables false
attribute [local irreducible] wpL callK valK unitK runK Fun Sl Own vc vcOps opK pureK
set_option maxHeartbeats 4000000

theorem tmodN (a b : Nat) : ((a : Int).tmod (b : Int)) = ((a % b : Nat) : Int) := by
  rw [Int.tmod_eq_emod_of_nonneg (Int.natCast_nonneg _)]; rfl
theorem bits_or_u32 {x y : Nat} (hx : x < 4294967296) (hy : y < 4294967296) : bitop .or .u32 x y = ((x ||| y : Nat) : Int) := by
  simp only [bitop, ofInt_nat, BitVec.toNat_or, BitVec.toNat_ofNat]
  rw [Nat.mod_eq_of_lt (show x < 2 ^ IntKind.u32.bits by show x < 2 ^ 32; omega), Nat.mod_eq_of_lt (show y < 2 ^ IntKind.u32.bits by show y < 2 ^ 32; omega), wrap_u32_nat, Nat.mod_eq_of_lt (Nat.or_lt_two_pow (n := 32) hx hy)]

theorem sum_c (s : List UInt8) (hs : s.length < 9223372036854775807) (w : World) : Fun Tryd.prog 34 [str s] w fun r w' => r = .int .u32 (sumP s) ∧ w' = w := by
  refine fun_of_vc Tryd.func34 rfl (by kernel_rfl) [2] rfl ?_
  simp -dsimp only [push_cast, fr0, Tryd.ntmps34, List.length_cons, List.length_nil, Nat.reduceAdd, Nat.reduceSub, Nat.reduceBEq, List.replicate_succ, List.replicate_zero]
  refine wpL_loop [3, 4, 5, 8, 9, 10, 11, 12, 13, 14, 15, 16, 17, 18, 19, 20, 21, 22] (fun z wx => ∃ (i a b : Nat), z 8 = .int .i64 i ∧ z 3 = .int .u32 a ∧ z 4 = .int .u32 b ∧ i ≤ s.length ∧ a < 65521 ∧ b < 65521 ∧ sumGo a b (s.drop i) = sumGo 1 0 s ∧ wx = w) (fun z _ => s.length - (intOf (z 8)).toNat) ?_ ?_
  · exact ⟨0, 1, 0, rfl, rfl, rfl, Nat.zero_le _, by omega, by omega, rfl, rfl⟩
  · intro z wx hI
    obtain ⟨i, a, b, h8, h3, h4, hi, ha, hb, hg, hw⟩ := hI
    simp -dsimp only [push_cast, Nat.reduceAdd, Nat.reduceLeDiff, Nat.reduceBEq, decide_true, h8, h3, h4]
    refine ⟨fun hlt => ?_, fun hge => ?_⟩
    · obtain ⟨c, hc, _, hd, _⟩ := lt_get (l := s) (i := i) (by omega)
      rw [hd, sumGo] at hg
      have hcl := c.toNat_lt
      have hgd : s.getD i 0 = c := by rw [List.getD_eq_getElem?_getD, hc]; rfl
      rw [hgd, wrap_u32_nat, Nat.mod_eq_of_lt (by omega), show (a : Int) + (c.toNat : Int) = ((a + c.toNat : Nat) : Int) by omega, wrap_u32_nat, Nat.mod_eq_of_lt (show a + c.toNat < 4294967296 by omega)]
      rw [show (65521 : Int) = ((65521 : Nat) : Int) from rfl, tmodN]
      have hm := Nat.mod_lt (a + c.toNat) (show 0 < 65521 by omega)
      generalize (a + c.toNat) % 65521 = m at hm hg ⊢
      rw [show (b : Int) + (m : Int) = ((b + m : Nat) : Int) by omega, wrap_u32_nat, Nat.mod_eq_of_lt (show b + m < 4294967296 by omega), tmodN]
      have hm2 := Nat.mod_lt (b + m) (show 0 < 65521 by omega)
      generalize (b + m) % 65521 = m2 at hm2 hg ⊢
      exact ⟨⟨by omega, by omega⟩, by omega, by omega, ⟨by omega, by omega⟩, ⟨i + 1, m, m2, rfl, rfl, rfl, by omega, hm, hm2, hg, hw⟩, by simp only [intOf]; omega⟩
    · rw [List.drop_eq_nil_of_le (by omega), sumGo] at hg
      have hp : sumP s = b * 65536 + a := by unfold sumP; rw [← hg]
      refine ⟨by omega, ?_, hw⟩
      congr 1
      rw [hp, show min (Int.toNat 16) IntKind.u32.bits = 16 from rfl, show ((b : Int) * 2 ^ 16) = ((b * 2 ^ 16 : Nat) : Int) by simp, wrap_u32_nat, Nat.mod_eq_of_lt (by omega), bits_or_u32 (by omega) (by omega), or_low (k := 16) (by omega)]

/-- A slice of bytes that grows. -/
def Grow (w w' : World) (v v' : Value) : Prop := Kept (fun j => v.ownBlock = some j) w w' ∧ ∀ g, v'.ownBlock = some g → v.ownBlock = some g ∨ w.heap.size ≤ g
theorem Grow.refl (w : World) (v : Value) : Grow w w v v := ⟨Kept.refl _ _, fun _ h => .inl h⟩
theorem Grow.trans {a b c : World} {u v x : Value} (h : Grow a b u v) (k : Grow b c v x) : Grow a c u x := by
  have hs := h.1.size
  refine ⟨h.1.trans k.1 (fun i hi hv => ?_), fun g hg => ?_⟩
  · rcases h.2 i hv with h' | h'
    · exact h'
    · omega
  · rcases k.2 g hg with h' | h'
    · exact h.2 g h'
    · exact .inr (by omega)
theorem Grow.still {a b : World} (v : Value) (h : Kept (fun _ => False) a b) : Grow a b v v := ⟨h.weaken (fun _ _ h => h.elim), fun _ h => .inl h⟩
theorem Grow.new {a b c : World} {u v : Value} {e : TypeId} {cs : List Value} (h : Grow a b u v) (hn : New b c e cs) : Grow a c u v := h.trans (Grow.still _ (Kept.new hn))
theorem Grow.put {a b c : World} {u v : Value} {e : TypeId} {p : Nat} {cs : List Value} (h : Grow a b u v) (hn : Put b c p e cs) (hp : a.heap.size ≤ p) : Grow a c u v :=
  ⟨h.1.trans hn.kept (fun i hi hh => by omega), h.2⟩
theorem Grow.below {a b : World} {u v : Value} {base : Nat} {e : TypeId} {k : Nat} {α : Type} {enc : α → List Value} {l : List α} (h : Grow a b u v) (ho : Own base e k enc a u l) (hb : base ≤ a.heap.size) : Below base a b :=
  h.1.below hb fun i hi => (ho.block i hi).1
theorem Grow.apart {a b : World} {u v : Value} (h : Grow a b u v) {p : Nat} (hp : p < a.heap.size) (hu : u.ownBlock ≠ some p) : v.ownBlock ≠ some p := fun hv => by
  rcases h.2 p hv with h' | h'
  · exact hu h'
  · omega
theorem ownStill {α : Type} {a b : World} {u : Value} {base : Nat} {e : TypeId} {k : Nat} {enc : α → List Value} {l : List α} (ho : Own base e k enc a u l) (h : Kept (fun _ => False) a b) : Own base e k enc b u l := ho.keptX h (fun _ _ hh => hh)

theorem appendB {P : Program} {t : Fr} {w : World} {K : VK} {Q : EP} {bt ty e : TypeId} {base n c : Nat} {v : Value} {l : List UInt8} {w0 : World} (ys : List UInt8) {p} (hE : elI P bt = some (e, 1, 1)) (ho : Own base e 1 encB w0 v l) (hw : New w0 w e (ys.flatMap encB))
    (hn : ys.length = n) (hlen : l.length + ys.length < 10000000000) (hb : base ≤ w0.heap.size) (kk : ∀ v' w', Own base e 1 encB w' v' (l ++ ys) → Grow w0 w' v v' → K v' w') :
    valK P (Builtin.append_ #[bt, bt] ty [v, .slice (some ⟨w0.heap.size, 0, none⟩) n c].toArray) t w K Q p :=
  appendK2 (base := base) ys hE (ho.new hw) hn (fun j u hu => by simpa using hw.cell hu) (by simp [encB, Value.oneCell']) (by omega) (by have := hw.size; omega) fun v' w2 ho2 hg2 hn2 =>
    kk v' w2 ho2 ⟨(Kept.new hw (X := fun j => v.ownBlock = some j)).trans (Kept.grown hg2 fun _ h => h) (fun _ _ h => h), fun g hg => by
      rcases hn2 g hg with h | h
      · exact .inl h
      · exact .inr (by have := hw.size; omega)⟩

theorem number_byte {n : Nat} (h : n < 4294967296) : bitop .or .u8 (IntKind.u8.wrap (bitop .and .i64 (n : Int) 127)) 128 = (((bt (n % 128 + 128)).toNat : Nat) : Int) := by
  have hm := Nat.mod_lt n (show 0 < 128 by omega)
  rw [show (127 : Int) = ((2 ^ 7 - 1 : Nat) : Int) from rfl, bits_and_i64 (by omega) (by omega), and_mask, wrap_u8_nat, show n % 2 ^ 7 = n % 128 from rfl, Nat.mod_eq_of_lt (by omega), show (128 : Int) = ((128 : Nat) : Int) from rfl, bits_or_u8 (by omega) (by omega), bt_toNat (by omega)]
  have := or_low (p := 1) (x := n % 128) (k := 7) (by omega)
  rw [Nat.or_comm]
  rw [show 1 * 2 ^ 7 = 128 from rfl] at this
  rw [this, Nat.add_comm]

theorem number_c (base n : Nat) (l : List UInt8) (hn : n < 2147483648) (hll : l.length + (numB n).length < 1000000000) (v : Value) (w : World) (ho : Own base 5 1 encB w v l) (hb : base ≤ w.heap.size) :
    Fun Tryd.prog 69 [v, .int .i64 n] w fun v' w' => Own base 5 1 encB w' v' (l ++ numB n) ∧ Grow w w' v v' := by
  refine fun_of_vc Tryd.func69 rfl (by kernel_rfl) [4] rfl ?_
  simp -dsimp only [push_cast, fr0, Tryd.ntmps69, List.length_cons, List.length_nil, Nat.reduceAdd, Nat.reduceSub, Nat.reduceBEq, List.replicate_succ, List.replicate_zero]
  refine wpL_loop [0, 1, 5, 6, 7, 8, 9, 10, 11, 12, 13, 14, 15] (fun z wx => ∃ (m : Nat) (l' : List UInt8), z 1 = .int .i64 m ∧ m ≤ n ∧ l' ++ numB m = l ++ numB n ∧ Own base 5 1 encB wx (z 0) l' ∧ Grow w wx v (z 0)) (fun z _ => (intOf (z 1)).toNat) ?_ ?_
  · exact ⟨n, l, rfl, Nat.le_refl _, rfl, ho, Grow.refl _ _⟩
  · intro z wx hI
    obtain ⟨m, l', h1, hm, hl', hox, hgx⟩ := hI
    have hlen := congrArg List.length hl'
    have hml := numB_pos m
    simp only [List.length_append] at hlen
    have hsx := hgx.1.size
    simp -dsimp only [push_cast, Nat.reduceAdd, Nat.reduceLeDiff, Nat.reduceBEq, decide_true, h1]
    refine ⟨fun hge => ?_, fun hlt => ?_⟩
    · refine rowK elI_107 rfl rfl (by omega) ?_
      intro w1 hw1
      rw [number_byte (by omega)] at hw1
      simp -dsimp only [push_cast, Nat.reduceAdd, Nat.reduceLeDiff, Nat.reduceBEq, decide_true]
      refine appendB (base := base) [bt (m % 128 + 128)] elI_107 hox hw1 rfl (by simp only [List.length_cons, List.length_nil]; omega) (by omega) ?_
      intro v' w2 ho2 hg2
      simp -dsimp only [push_cast, Nat.reduceAdd, Nat.reduceLeDiff, Nat.reduceBEq, decide_true]
      have es : ((m : Int).fdiv (2 ^ min (Int.toNat 7) IntKind.i64.bits)) = ((m / 2 ^ 7 : Nat) : Int) := shr_nat rfl (by show 7 ≤ 64; omega)
      rw [es, show m / 2 ^ 7 = m / 128 from rfl]
      refine ⟨by omega, ⟨m / 128, _, rfl, by omega, ?_, ho2, hgx.trans hg2⟩, by rw [h1]; simp only [intOf]; omega⟩
      rw [← hl', numB_ge (n := m) (by omega), List.append_assoc]
      rfl
    · refine rowK elI_107 rfl rfl (by omega) ?_
      intro w1 hw1
      rw [wrap_u8_nat, Nat.mod_eq_of_lt (by omega)] at hw1
      have e1 : ((m : Nat) : Int) = (((bt m).toNat : Nat) : Int) := by rw [bt_toNat (by omega)]
      rw [e1] at hw1
      simp -dsimp only [push_cast, Nat.reduceAdd, Nat.reduceLeDiff, Nat.reduceBEq, decide_true]
      refine appendB (base := base) [bt m] elI_107 hox hw1 rfl (by simp only [List.length_cons, List.length_nil]; omega) (by omega) ?_
      intro v' w2 ho2 hg2
      simp -dsimp only [push_cast, Nat.reduceAdd, Nat.reduceLeDiff, Nat.reduceBEq, decide_true]
      rw [← hl', numB_lt (by omega)]
      exact ⟨ho2, hgx.trans hg2⟩

theorem bit_c (base : Nat) (b : Bool) (l : List UInt8) (hll : l.length < 1000000000) (v : Value) (w : World) (ho : Own base 5 1 encB w v l) (hb : base ≤ w.heap.size) :
    Fun Tryd.prog 70 [v, .bool b] w fun v' w' => Own base 5 1 encB w' v' (l ++ bitB b) ∧ Grow w w' v v' := by
  refine fun_of_vc Tryd.func70 rfl (by kernel_rfl) [4] rfl ?_
  simp -dsimp only [push_cast, fr0, Tryd.ntmps70, List.length_cons, List.length_nil, Nat.reduceAdd, Nat.reduceSub, Nat.reduceBEq, List.replicate_succ, List.replicate_zero]
  cases b with
  | true =>
    simp -dsimp only [push_cast, Nat.reduceAdd, Nat.reduceLeDiff, Nat.reduceBEq, decide_true]
    refine rowK elI_107 rfl rfl (by omega) ?_
    intro w1 hw1
    simp -dsimp only [push_cast, Nat.reduceAdd, Nat.reduceLeDiff, Nat.reduceBEq, decide_true]
    refine appendB (base := base) [1] elI_107 ho hw1 rfl (by simp only [List.length_cons, List.length_nil]; omega) (by omega) ?_
    intro v' w2 ho2 hg2
    simp -dsimp only [push_cast, Nat.reduceAdd, Nat.reduceLeDiff, Nat.reduceBEq, decide_true]
    exact ⟨ho2, hg2⟩
  | false =>
    simp -dsimp only [push_cast, Nat.reduceAdd, Nat.reduceLeDiff, Nat.reduceBEq, decide_true]
    refine rowK elI_107 rfl rfl (by omega) ?_
    intro w1 hw1
    simp -dsimp only [push_cast, Nat.reduceAdd, Nat.reduceLeDiff, Nat.reduceBEq, decide_true]
    refine appendB (base := base) [0] elI_107 ho hw1 rfl (by simp only [List.length_cons, List.length_nil]; omega) (by omega) ?_
    intro v' w2 ho2 hg2
    simp -dsimp only [push_cast, Nat.reduceAdd, Nat.reduceLeDiff, Nat.reduceBEq, decide_true]
    exact ⟨ho2, hg2⟩
end Go.Proofs.YtimjpijbcnjaaaaDoor
