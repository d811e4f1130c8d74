import Derived.Test.YtplbgmoeannobaaGreatDoorSet
namespace Go.Proofs.YtplbgmoeannobaaGreatDoor
open Go.Vc Go.Proofs Go.RowKit Cae
set_option maxRecDepth 100000
set_option linter.unusedSimpArgs false
set_option linter.unusedVariables false
attribute [local irreducible] wpL callK valK unitK runK Fun Sl Own vc vcOps opK pureK
set_option maxHeartbeats 4000000

theorem hasCmp_c (r : Rg) (p : Int) (w : World) : Fun Tryz.prog 32 [.agg #[.int .i64 r.1, .int .i64 r.2], .int .i64 p] w fun v w' => v = .int .i64 (if r.2 < p then -1 else if p < r.1 then 1 else 0) ∧ Below w.heap.size w w' := by
  refine fun_of_vc Tryz.func32 rfl (by kernel_rfl) [4] rfl ?_
  simp -dsimp (maxSteps := 4000000) only [push_cast, fr0, Tryz.ntmps32, List.length_cons, List.length_nil, Nat.reduceAdd, Nat.reduceSub, Nat.reduceBEq, List.replicate_succ, List.replicate_zero]
  refine boxK_of ?_
  intro w1 hw1
  have c0 : w1.cell? ⟨w.heap.size, 0, none⟩ = some (.int .i64 r.1) := hw1.cell rfl
  have c1 : w1.cell? ⟨w.heap.size, 1, none⟩ = some (.int .i64 r.2) := hw1.cell rfl
  simp -dsimp only [push_cast, Nat.reduceAdd, Nat.reduceLeDiff, Nat.reduceBEq, Int.reduceNe, Int.reduceEq, Int.reduceLT, Int.reduceLE, c0, c1]
  refine ⟨fun h => ?_, fun h => ⟨fun h2 => ?_, fun h2 => ?_⟩⟩
  · rw [if_pos h]; exact ⟨rfl, hw1.below⟩
  · rw [if_neg h, if_pos h2]; exact ⟨rfl, hw1.below⟩
  · rw [if_neg h, if_neg h2]; exact ⟨rfl, hw1.below⟩

theorem has_at {s : List Rg} (hr : setRight (-2) s = true) {p : Int} {i : Nat} (h1 : ∀ (k : Nat) (r : Rg), k < i → s[k]? = some r → r.2 < p) (h2 : ∀ (k : Nat) (r : Rg), i ≤ k → s[k]? = some r → ¬ r.2 < p) :
    hasP s p = match s[i]? with | some r => decide (r.1 ≤ p) | none => false := by
  unfold hasP
  cases hi : s[i]? with
  | none =>
    rw [List.any_eq_false]
    intro r hm
    obtain ⟨k, hk⟩ := List.getElem?_of_mem hm
    have hlt := (List.getElem?_eq_some_iff.1 hk).1
    have := List.getElem?_eq_none_iff.1 hi
    have := h1 k r (by omega) hk
    simp only [decide_eq_true_eq]
    omega
  | some r =>
    have hr2 := h2 i r (Nat.le_refl _) hi
    by_cases hp : r.1 ≤ p
    · dsimp only
      rw [decide_eq_true hp, List.any_eq_true]
      exact ⟨r, List.mem_of_getElem? hi, by simp only [decide_eq_true_eq]; omega⟩
    · dsimp only
      rw [decide_eq_false hp, List.any_eq_false]
      intro q hm
      obtain ⟨k, hk⟩ := List.getElem?_of_mem hm
      simp only [decide_eq_true_eq]
      rcases Nat.lt_trichotomy k i with hlt | heq | hgt
      · have := h1 k q hlt hk; omega
      · subst heq; rw [hi] at hk; cases hk; omega
      · have := (setRight_sorted s (-2) hr i r hi).2.2.2 k q hgt hk
        have := (setRight_sorted s (-2) hr i r hi).2.1
        omega

theorem search_c (s : List Rg) (hs : s.length < 1000000000) (hr : setRight (-2) s = true) (p : Int) (X : Nat → Prop) (v : Value) (w : World) (hv : Sl X 2 (En encR) w v s) :
    Fun Tryz.prog 31 [v, .int .i64 p, .func (.func 32) #[] #[]] w fun r w' => (∃ i : Int, r = .tuple #[.int .i64 i, .bool (hasP s p)]) ∧ Below w.heap.size w w' := by
  obtain ⟨a, c, rfl, hc⟩ := hv.shape
  refine fun_of_vc Tryz.func31 rfl (by kernel_rfl) [6, 7] rfl ?_
  simp -dsimp (maxSteps := 4000000) only [push_cast, fr0, Tryz.ntmps31, List.length_cons, List.length_nil, Nat.reduceAdd, Nat.reduceSub, Nat.reduceBEq, List.replicate_succ, List.replicate_zero]
  refine wpL_loop [9, 10, 11, 15, 16, 17, 18, 19, 20, 21, 22, 23, 24, 25, 26, 27, 28, 29, 30, 31, 32, 33, 34] (fun z wx => ∃ (i j : Nat), z 9 = .int .i64 i ∧ z 10 = .int .i64 j ∧ i ≤ j ∧ j ≤ s.length ∧ (∀ (k : Nat) (r : Rg), k < i → s[k]? = some r → r.2 < p) ∧ (∀ (k : Nat) (r : Rg), j ≤ k → s[k]? = some r → ¬ r.2 < p) ∧ Below w.heap.size w wx) (fun z _ => (intOf (z 10)).toNat - (intOf (z 9)).toNat) ?_ ?_
  · refine ⟨0, s.length, rfl, rfl, Nat.zero_le _, Nat.le_refl _, fun k r hk => absurd hk (by omega), fun k r hk h => ?_, Below.refl _ _⟩
    have := (List.getElem?_eq_some_iff.1 h).1
    omega
  · intro z wx hI
    obtain ⟨i, j, h9, h10, hij, hj, hlo, hhi, hb⟩ := hI
    simp -dsimp only [push_cast, Nat.reduceAdd, Nat.reduceLeDiff, Nat.reduceBEq, Int.reduceNe, Int.reduceEq, Int.reduceLT, Int.reduceLE, h9, h10]
    refine ⟨fun hlt => ?_, fun hge => ?_⟩
    · have e : IntKind.i64.wrap ((IntKind.u64.wrap ((i : Int) + (j : Int))).fdiv (2 ^ min (1 : Int).toNat IntKind.u64.bits)) = (((i + j) / 2 : Nat) : Int) := by
        rw [show (i : Int) + (j : Int) = ((i + j : Nat) : Int) by omega, wrap_u64_nat, Nat.mod_eq_of_lt (by omega), shr_nat (k := 1) (kd := .u64) rfl (by decide)]
        exact wrap_i64_nat (by omega)
      have hm1 : i ≤ (i + j) / 2 := by omega
      have hm2 : (i + j) / 2 < j := by omega
      generalize (i + j) / 2 = m at e hm1 hm2
      rw [e]
      obtain ⟨x, hx, hxm, hdx, ht⟩ := lt_get (l := s) (i := m) (by omega)
      obtain ⟨b, o, rfl, hX, hcell⟩ := (hv.below hb).get hx
      have c0 : cellsAt wx ⟨b, o + m * 2, none⟩ 0 2 = some [.int .i64 x.1, .int .i64 x.2] := cellsAt_of (encR x) 0 (fun j u hu => by simpa using hcell j u hu)
      simp -dsimp only [push_cast, Nat.reduceAdd, Nat.reduceLeDiff, Nat.reduceBEq, Int.reduceNe, Int.reduceEq, Int.reduceLT, Int.reduceLE, c0]
      refine ⟨⟨by omega, by omega⟩, ⟨by omega, by omega⟩, ?_⟩
      refine callK_of (hasCmp_c x p wx) ?_
      rintro _ w1 ⟨rfl, hb1⟩
      have hB1 := hb.trans (hb1.mono hb.size)
      simp -dsimp only [push_cast, Nat.reduceAdd, Nat.reduceLeDiff, Nat.reduceBEq, Int.reduceNe, Int.reduceEq, Int.reduceLT, Int.reduceLE]
      refine ⟨fun hneg => ⟨⟨by omega, by omega⟩, ⟨m + 1, j, rfl, rfl, by omega, hj, fun k r hk hr0 => ?_, hhi, hB1⟩, ?_⟩, fun hpos => ⟨⟨i, m, rfl, rfl, by omega, by omega, hlo, fun k r hk hr0 => ?_, hB1⟩, ?_⟩⟩
      · have hxp : x.2 < p := by
          by_cases h : x.2 < p
          · exact h
          · rw [if_neg h] at hneg; split at hneg <;> omega
        rcases Nat.lt_or_ge k m with hlt' | hge'
        · have := (setRight_sorted s (-2) hr k r hr0).2.2.2 m x hlt' hx
          have := (setRight_sorted s (-2) hr m x hx).2.1
          omega
        · have hkm : k = m := by omega
          subst hkm; rw [hx] at hr0; cases hr0; exact hxp
      · rw [h9, h10]; simp only [intOf]; omega
      · have hxp : ¬ x.2 < p := by
          intro h; rw [if_pos h] at hpos; omega
        rcases Nat.lt_or_ge m k with hlt' | hge'
        · have := (setRight_sorted s (-2) hr m x hx).2.2.2 k r hlt' hr0
          have := (setRight_sorted s (-2) hr k r hr0).2.1
          omega
        · have hkm : k = m := by omega
          subst hkm; rw [hx] at hr0; cases hr0; exact hxp
      · rw [h9, h10]; simp only [intOf]; omega
    · have hji : j = i := by omega
      subst hji
      have hat := has_at hr hlo hhi
      refine ⟨fun hin => ?_, fun hout => ?_⟩
      · obtain ⟨x, hx, hxm, hdx, ht⟩ := lt_get (l := s) (i := j) (by omega)
        obtain ⟨b, o, rfl, hX, hcell⟩ := (hv.below hb).get hx
        have c0 : cellsAt wx ⟨b, o + j * 2, none⟩ 0 2 = some [.int .i64 x.1, .int .i64 x.2] := cellsAt_of (encR x) 0 (fun j u hu => by simpa using hcell j u hu)
        have hx2 := hhi j x (Nat.le_refl _) hx
        rw [hx] at hat
        simp -dsimp only [push_cast, Nat.reduceAdd, Nat.reduceLeDiff, Nat.reduceBEq, Int.reduceNe, Int.reduceEq, Int.reduceLT, Int.reduceLE, c0]
        refine ⟨⟨by omega, by omega⟩, callK_of (hasCmp_c x p wx) ?_⟩
        rintro _ w1 ⟨rfl, hb1⟩
        simp -dsimp only [push_cast, Nat.reduceAdd, Nat.reduceLeDiff, Nat.reduceBEq, Int.reduceNe, Int.reduceEq, Int.reduceLT, Int.reduceLE]
        refine ⟨⟨j, ?_⟩, hb.trans (hb1.mono hb.size)⟩
        have hat' : hasP s p = decide (x.1 ≤ p) := by rw [hat]
        have hdd : decide ((if p < x.1 then (1 : Int) else 0) = 0) = decide (x.1 ≤ p) := by rw [decide_eq_decide]; split <;> omega
        rw [hat', if_neg hx2, hdd]
      · refine ⟨⟨j, ?_⟩, hb⟩
        rw [hat, List.getElem?_eq_none (by omega)]

theorem has_c (s : List Rg) (hs : s.length < 1000000000) (hr : setRight (-2) s = true) (p : Int) (X : Nat → Prop) (v : Value) (w : World) (hv : Sl X 2 (En encR) w v s) :
    Fun Tryz.prog 9 [v, .int .i64 p] w fun r w' => r = .bool (hasP s p) ∧ Below w.heap.size w w' := by
  refine fun_of_vc Tryz.func9 rfl (by kernel_rfl) [4] rfl ?_
  simp -dsimp (maxSteps := 4000000) only [push_cast, fr0, Tryz.ntmps9, List.length_cons, List.length_nil, Nat.reduceAdd, Nat.reduceSub, Nat.reduceBEq, List.replicate_succ, List.replicate_zero]
  refine callK_of (search_c s hs hr p X v w hv) ?_
  rintro _ w1 ⟨⟨i, rfl⟩, hb⟩
  simp -dsimp only [push_cast, Nat.reduceAdd, Nat.reduceLeDiff, Nat.reduceBEq, Int.reduceNe, Int.reduceEq, Int.reduceLT, Int.reduceLE]
  exact hb
end Go.Proofs.YtplbgmoeannobaaGreatDoor
