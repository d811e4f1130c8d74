import Derived.Test.YtonedboaomehaaaDoorRead
import Derived.Test.YtonedboaomehaaaDoorPref
import Derived.Test.YtonedboaomehaaaDoorVf
namespace Go.Proofs.YtonedboaomehaaaDoor
open Go.Vc Go.Proofs Go.RowKit Cae
set_option maxRecDepth 100000
set_option linter.unusedSimpArgs false
set_option linter.unusedVariables false
attribute [local irreducible] wpL callK valK unitK runK Fun Sl Own vc vcOps opK pureK
set_option maxHeartbeats 4000000

theorem tmod_nat (a b : Nat) : ((a : Int).tmod (b : Int)) = ((a % b : Nat) : Int) := by
  rw [Int.tmod_eq_emod_of_nonneg (Int.natCast_nonneg _)]; rfl

theorem closure_c (p i : Nat) (hp : p ≤ 1114111) (hi : i ≤ 2) (a : Addr) (w : World) (hc : w.cell? a = some (.int .i64 p)) :
    Fun Tryd.prog 24 [.int .i64 i, .pointer (some a)] w fun v w' => v = .int .u8 (byt (128 + p / 2 ^ (6 * i) % 64)).toNat ∧ w' = w := by
  refine fun_of_vc Tryd.func24 rfl (by kernel_rfl) [3] rfl ?_
  simp -dsimp only [push_cast, fr0, Tryd.ntmps24, List.length_cons, List.length_nil, Nat.reduceAdd, Nat.reduceSub, Nat.reduceBEq, List.replicate_succ, List.replicate_zero]
  simp -dsimp only [push_cast, Nat.reduceAdd, Nat.reduceLeDiff, Nat.reduceBEq, decide_true, hc]
  have e : ((p : Int).fdiv (2 ^ min (6 * (i : Int)).toNat IntKind.i64.bits)) = ((p / 2 ^ (6 * i) : Nat) : Int) := shr_nat (k := 6 * i) (by omega) (by show 6 * i ≤ 64; omega)
  rw [e]
  rw [show (64 : Int) = ((64 : Nat) : Int) from rfl, tmod_nat]
  have := Nat.mod_lt (p / 2 ^ (6 * i)) (show 0 < 64 by omega)
  generalize p / 2 ^ (6 * i) % 64 = q at this ⊢
  rw [show (128 : Int) + (q : Int) = ((128 + q : Nat) : Int) by omega, wrap_u8_nat, byt_toNat (by omega), Nat.mod_eq_of_lt (by omega)]
  exact ⟨⟨by omega, by omega⟩, by omega, by decide, ⟨by omega, by omega⟩, rfl⟩

theorem in_c (a b c : Int) (w : World) : Fun Tryd.prog 25 [.int .i64 a, .int .i64 b, .int .i64 c] w fun v w' => v = .bool (decide (b ≤ a ∧ a ≤ c)) ∧ w' = w := by
  refine fun_of_vc Tryd.func25 rfl (by kernel_rfl) [6] rfl ?_
  simp -dsimp only [push_cast, fr0, Tryd.ntmps25, List.length_cons, List.length_nil, Nat.reduceAdd, Nat.reduceSub, Nat.reduceBEq, List.replicate_succ, List.replicate_zero]
  constructor
  · intro h; simp [h]
  · intro h; simp [h]

theorem uref_bad {p : Int} (h : p < 0 ∨ 1114111 < p ∨ (55296 ≤ p ∧ p ≤ 57343)) : uref p = [] := by
  rw [uref_nil]; unfold okPoint; omega
theorem uref_ok {p : Nat} (h1 : ¬ 1114111 < (p : Int)) (h2 : ¬ (55296 ≤ (p : Int) ∧ (p : Int) ≤ 57343)) : uref p = uenc1 p := by
  unfold uref
  rw [if_pos (by unfold okPoint; omega), Int.toNat_natCast]

theorem lead_w {q k c : Nat} {b : Int} (hb : b.toNat = k) (hk : k ≤ 64) (h : c + q / 2 ^ k < 256) : IntKind.u8.wrap ((c : Int) + (q : Int).fdiv (2 ^ min b.toNat IntKind.i64.bits)) = (((byt (c + q / 2 ^ k)).toNat : Nat) : Int) := by
  rw [shr_nat (kd := .i64) hb hk, show (c : Int) + ((q / 2 ^ k : Nat) : Int) = ((c + q / 2 ^ k : Nat) : Int) by omega, wrap_u8_nat, byt_toNat h, Nat.mod_eq_of_lt h]

theorem cells2 {q : Nat} (h0 : ¬ q < 128) (h : q < 2048) : partCells [(0, .int .u8 (IntKind.u8.wrap (192 + (q : Int).fdiv (2 ^ min (6 : Int).toNat IntKind.i64.bits)))), (1, .int .u8 (byt (128 + q / 2 ^ (6 * 0) % 64)).toNat)] = (uenc1 q).flatMap encB := by
  simp only [uenc1, if_neg h0, if_pos h, partCells, cellsL, List.flatMap_cons, List.flatMap_nil, encB, List.append_nil]
  have := lead_w (q := q) (k := 6) (c := 192) (b := 6) rfl (by omega) (by omega)
  simp only [show ((192 : Nat) : Int) = 192 from rfl] at this
  rw [this]
  simp
theorem cells3 {q : Nat} (h0 : ¬ q < 128) (h1 : ¬ q < 2048) (h : q < 65536) : partCells [(0, .int .u8 (IntKind.u8.wrap (224 + (q : Int).fdiv (2 ^ min (12 : Int).toNat IntKind.i64.bits)))), (1, .int .u8 (byt (128 + q / 2 ^ (6 * 1) % 64)).toNat), (2, .int .u8 (byt (128 + q / 2 ^ (6 * 0) % 64)).toNat)] = (uenc1 q).flatMap encB := by
  simp only [uenc1, if_neg h0, if_neg h1, if_pos h, partCells, cellsL, List.flatMap_cons, List.flatMap_nil, encB, List.append_nil]
  have := lead_w (q := q) (k := 12) (c := 224) (b := 12) rfl (by omega) (by omega)
  simp only [show ((224 : Nat) : Int) = 224 from rfl] at this
  rw [this]
  simp
theorem cells4 {q : Nat} (h0 : ¬ q < 128) (h1 : ¬ q < 2048) (h2 : ¬ q < 65536) (h : q < 2097152) : partCells [(0, .int .u8 (IntKind.u8.wrap (240 + (q : Int).fdiv (2 ^ min (18 : Int).toNat IntKind.i64.bits)))), (1, .int .u8 (byt (128 + q / 2 ^ (6 * 2) % 64)).toNat), (2, .int .u8 (byt (128 + q / 2 ^ (6 * 1) % 64)).toNat), (3, .int .u8 (byt (128 + q / 2 ^ (6 * 0) % 64)).toNat)] = (uenc1 q).flatMap encB := by
  simp only [uenc1, if_neg h0, if_neg h1, if_neg h2, partCells, cellsL, List.flatMap_cons, List.flatMap_nil, encB, List.append_nil]
  have := lead_w (q := q) (k := 18) (c := 240) (b := 18) rfl (by omega) (by omega)
  simp only [show ((240 : Nat) : Int) = 240 from rfl] at this
  rw [this]
  simp

theorem bytesOf_c (p : Int) (w : World) : Fun Tryd.prog 21 [.int .i64 p] w fun v w' => v = str (uref p) ∧ Below w.heap.size w w' := by
  refine fun_of_vc Tryd.func21 rfl (by kernel_rfl) [2] rfl ?_
  simp -dsimp only [push_cast, fr0, Tryd.ntmps21, List.length_cons, List.length_nil, Nat.reduceAdd, Nat.reduceSub, Nat.reduceBEq, List.replicate_succ, List.replicate_zero]
  refine boxK_of ?_
  intro w1 hw1
  have c1 := hw1.cell0
  simp -dsimp only [push_cast, Nat.reduceAdd, Nat.reduceLeDiff, Nat.reduceBEq, decide_true, c1]
  refine ⟨fun hpos => ⟨fun hsm => ?_, fun hbig => ⟨by rw [uref_bad (.inr (.inl hbig))], hw1.below⟩⟩, fun hneg => ⟨by rw [uref_bad (.inl hneg)], hw1.below⟩⟩
  refine callK_of (in_c _ _ _ w1) ?_
  rintro _ w2 ⟨rfl, hw2⟩
  subst hw2
  simp -dsimp only [push_cast, Nat.reduceAdd, Nat.reduceLeDiff, Nat.reduceBEq, decide_true, c1]
  refine ⟨fun hsur => ⟨by rw [uref_bad (.inr (.inr hsur))], hw1.below⟩, fun hnsur => ?_⟩
  obtain ⟨q, rfl⟩ : ∃ q : Nat, p = q := ⟨p.toNat, by omega⟩
  rw [uref_ok hsm hnsur]
  have hsz := hw1.size
  have kC : ∀ w3 : World, Below w2.heap.size w2 w3 → w3.cell? ⟨w.heap.size, 0, none⟩ = some (.int .i64 q) := fun w3 h => (h.cell (by show w.heap.size < w2.heap.size; omega)).trans c1
  refine ⟨fun h1 => ?_, fun h1 => ⟨fun h2 => ?_, fun h2 => ⟨fun h3 => ?_, fun h3 => ?_⟩⟩⟩
  · refine rowK elI_49 rfl rfl (by omega) ?_
    intro w3 hw3
    rw [enc_1 (by omega)] at hw3
    have ho := hw3.own (base := w2.heap.size) (enc := encB) rfl (uenc1_len.1 (by omega)) (fun _ => rfl) (Nat.le_refl _) (by omega)
    simp -dsimp only [push_cast, Nat.reduceAdd, Nat.reduceLeDiff, Nat.reduceBEq, decide_true]
    refine strK (e := 5) (by kernel_rfl) (by kernel_rfl) (by kernel_rfl) ho.sl ?_
    simp -dsimp only [push_cast, Nat.reduceAdd, Nat.reduceLeDiff, Nat.reduceBEq, decide_true]
    exact hw1.below.trans (hw3.below.mono (by omega))
  · refine wpL_draw (fun w' => Below w2.heap.size w2 w') mixed (by kernel_rfl) (Below.refl _ _).drew ?_
    have d1 := kC w2.drew (Below.refl _ _).drew
    simp -dsimp only [push_cast, Nat.reduceAdd, Nat.reduceLeDiff, Nat.reduceBEq, decide_true, d1]
    refine ⟨fun w'' hC => by rw [kC w'' hC]; exact rfl, by omega, ⟨by have := shr_nat (p := q) (k := 6) (b := 6) (kd := .i64) rfl (by decide); omega, by have := shr_nat (p := q) (k := 6) (b := 6) (kd := .i64) rfl (by decide); omega⟩, ?_⟩
    refine callK_of (closure_c q 0 (by omega) (by omega) _ _ d1) ?_
    rintro _ w3 ⟨rfl, hw3⟩
    subst hw3
    refine ⟨(Below.refl _ _).drew, ?_⟩
    simp -dsimp only [push_cast, Nat.reduceAdd, Nat.reduceLeDiff, Nat.reduceBEq, decide_true]
    refine rowK elI_49 rfl rfl (by omega) ?_
    intro w4 hw4
    have hb4 : Below w2.heap.size w2 w4 := (Below.refl _ _).drew.trans hw4.below
    refine ⟨hb4, ?_⟩
    have ho := hw4.own (base := w2.heap.size) (enc := encB) (l := uenc1 q) (cells2 (by omega) (by omega)) (uenc1_len.2.1 (by omega) (by omega)) (fun _ => rfl) (Nat.le_refl _) (by omega)
    simp -dsimp only [push_cast, Nat.reduceAdd, Nat.reduceLeDiff, Nat.reduceBEq, decide_true]
    refine strK (e := 5) (by kernel_rfl) (by kernel_rfl) (by kernel_rfl) ho.sl ?_
    refine ⟨hb4, ?_⟩
    simp -dsimp only [push_cast, Nat.reduceAdd, Nat.reduceLeDiff, Nat.reduceBEq, decide_true]
    exact hw1.below.trans (hb4.mono (by omega))
  · refine wpL_draw (fun w' => Below w2.heap.size w2 w') mixed (by kernel_rfl) (Below.refl _ _).drew ?_
    have d1 := kC w2.drew (Below.refl _ _).drew
    simp -dsimp only [push_cast, Nat.reduceAdd, Nat.reduceLeDiff, Nat.reduceBEq, decide_true, d1]
    refine ⟨fun w'' hC => by rw [kC w'' hC]; exact rfl, by omega, ⟨by have := shr_nat (p := q) (k := 12) (b := 12) (kd := .i64) rfl (by decide); omega, by have := shr_nat (p := q) (k := 12) (b := 12) (kd := .i64) rfl (by decide); omega⟩, ?_⟩
    refine callK_of (closure_c q 1 (by omega) (by omega) _ _ d1) ?_
    rintro _ w3 ⟨rfl, hw3⟩
    subst hw3
    refine ⟨(Below.refl _ _).drew, ?_⟩
    simp -dsimp only [push_cast, Nat.reduceAdd, Nat.reduceLeDiff, Nat.reduceBEq, decide_true]
    refine callK_of (closure_c q 0 (by omega) (by omega) _ _ d1) ?_
    rintro _ w3 ⟨rfl, hw3⟩
    subst hw3
    refine ⟨(Below.refl _ _).drew, ?_⟩
    simp -dsimp only [push_cast, Nat.reduceAdd, Nat.reduceLeDiff, Nat.reduceBEq, decide_true]
    refine rowK elI_49 rfl rfl (by omega) ?_
    intro w4 hw4
    have hb4 : Below w2.heap.size w2 w4 := (Below.refl _ _).drew.trans hw4.below
    refine ⟨hb4, ?_⟩
    have ho := hw4.own (base := w2.heap.size) (enc := encB) (l := uenc1 q) (cells3 (by omega) (by omega) (by omega)) (uenc1_len.2.2.1 (by omega) (by omega) (by omega)) (fun _ => rfl) (Nat.le_refl _) (by omega)
    simp -dsimp only [push_cast, Nat.reduceAdd, Nat.reduceLeDiff, Nat.reduceBEq, decide_true]
    refine strK (e := 5) (by kernel_rfl) (by kernel_rfl) (by kernel_rfl) ho.sl ?_
    refine ⟨hb4, ?_⟩
    simp -dsimp only [push_cast, Nat.reduceAdd, Nat.reduceLeDiff, Nat.reduceBEq, decide_true]
    exact hw1.below.trans (hb4.mono (by omega))
  · refine wpL_draw (fun w' => Below w2.heap.size w2 w') mixed (by kernel_rfl) (Below.refl _ _).drew ?_
    have d1 := kC w2.drew (Below.refl _ _).drew
    simp -dsimp only [push_cast, Nat.reduceAdd, Nat.reduceLeDiff, Nat.reduceBEq, decide_true, d1]
    refine ⟨fun w'' hC => by rw [kC w'' hC]; exact rfl, by omega, ⟨by have := shr_nat (p := q) (k := 18) (b := 18) (kd := .i64) rfl (by decide); omega, by have := shr_nat (p := q) (k := 18) (b := 18) (kd := .i64) rfl (by decide); omega⟩, ?_⟩
    refine callK_of (closure_c q 2 (by omega) (by omega) _ _ d1) ?_
    rintro _ w3 ⟨rfl, hw3⟩
    subst hw3
    refine ⟨(Below.refl _ _).drew, ?_⟩
    simp -dsimp only [push_cast, Nat.reduceAdd, Nat.reduceLeDiff, Nat.reduceBEq, decide_true]
    refine callK_of (closure_c q 1 (by omega) (by omega) _ _ d1) ?_
    rintro _ w3 ⟨rfl, hw3⟩
    subst hw3
    refine ⟨(Below.refl _ _).drew, ?_⟩
    simp -dsimp only [push_cast, Nat.reduceAdd, Nat.reduceLeDiff, Nat.reduceBEq, decide_true]
    refine callK_of (closure_c q 0 (by omega) (by omega) _ _ d1) ?_
    rintro _ w3 ⟨rfl, hw3⟩
    subst hw3
    refine ⟨(Below.refl _ _).drew, ?_⟩
    simp -dsimp only [push_cast, Nat.reduceAdd, Nat.reduceLeDiff, Nat.reduceBEq, decide_true]
    refine rowK elI_49 rfl rfl (by omega) ?_
    intro w4 hw4
    have hb4 : Below w2.heap.size w2 w4 := (Below.refl _ _).drew.trans hw4.below
    refine ⟨hb4, ?_⟩
    have ho := hw4.own (base := w2.heap.size) (enc := encB) (l := uenc1 q) (cells4 (by omega) (by omega) (by omega) (by omega)) (uenc1_len.2.2.2 (by omega) (by omega) (by omega)) (fun _ => rfl) (Nat.le_refl _) (by omega)
    simp -dsimp only [push_cast, Nat.reduceAdd, Nat.reduceLeDiff, Nat.reduceBEq, decide_true]
    refine strK (e := 5) (by kernel_rfl) (by kernel_rfl) (by kernel_rfl) ho.sl ?_
    refine ⟨hb4, ?_⟩
    simp -dsimp only [push_cast, Nat.reduceAdd, Nat.reduceLeDiff, Nat.reduceBEq, decide_true]
    exact hw1.below.trans (hb4.mono (by omega))
end Go.Proofs.YtonedboaomehaaaDoor
