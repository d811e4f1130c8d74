import Derived.Test.YtimjpijbcnjaaaaDoorRightb
import Derived.Test.YtimjpijbcnjaaaaDoorVo
import Derived.Test.YtimjpijbcnjaaaaDoorImg5
import Derived.Test.YtimjpijbcnjaaaaDoorP
namespace Go.Proofs.YtimjpijbcnjaaaaDoor
open Go.Vc Go.Proofs Go.RowKit Cae
set_option maxRecDepth 100000
set_option linter.unusedSimpArgs false
set_option linter.unusedVariables false
attribute [local irreducible] wpL callK valK unitK runK Fun Sl Own vc vcOps opK pureK
set_option maxHeartbeats 4000000

def encBo (b : Bool) : List Value := [.bool b]
theorem nextFrom_fuel {is : List Bool} : ∀ (f f' k : Nat), is.length ≤ f + k → is.length ≤ f' + k → nextFrom is f k = nextFrom is f' k
  | 0, f', k, h, h' => by rw [nextFrom, nextFrom_out f' (by omega)]
  | f + 1, 0, k, h, h' => by rw [nextFrom_out _ (by omega), nextFrom]
  | f + 1, f' + 1, k, h, h' => by
    rw [nextFrom, nextFrom]
    split
    · rfl
    · split
      · exact nextFrom_fuel f f' (k + 1) (by omega) (by omega)
      · rfl
theorem nextFrom_start (is : List Bool) (k : Nat) (h : k < is.length) : nextP is k = nextFrom is (is.length - (k + 1)) (k + 1) := nextFrom_fuel _ _ _ (by omega) (by omega)

theorem far_c (c : CodeP) (hc : CR c) (k : Nat) (hk : k < c.ins.length) (X : Nat → Prop) (v : Value) (w : World) (hv : CodeV X w v c) :
    Fun Tryd.prog 90 [v, .int .i64 k] w fun r w' => r = .int .i64 (farK c k) ∧ Below w.heap.size w w' := by
  have hm := hc.many
  obtain ⟨sv, iv, rfl, hsv, hiv⟩ := hv
  obtain ⟨a, cp, rfl, hcp⟩ := hiv.shape
  refine fun_of_vc Tryd.func90 rfl (by kernel_rfl) [4] rfl ?_
  simp -dsimp only [push_cast, fr0, Tryd.ntmps90, List.length_cons, List.length_nil, Nat.reduceAdd, Nat.reduceSub, Nat.reduceBEq, List.replicate_succ, List.replicate_zero]
  refine boxK_of ?_
  intro w1 hw1
  have hw1 : New w w1 25 [sv, .slice a c.ins.length cp] := hw1
  have c0 : w1.cell? ⟨w.heap.size, 1, none⟩ = some (.slice a c.ins.length cp) := hw1.cell rfl
  simp -dsimp only [push_cast, Nat.reduceAdd, Nat.reduceLeDiff, Nat.reduceBEq, decide_true, ne_eq, eq_self, not_true_eq_false, not_false_eq_true, true_imp_iff, false_imp_iff, Int.reduceNe, Int.reduceEq, Int.reduceLT, Int.reduceLE, Bool.not_true, Bool.not_false, c0]
  refine wpL_loop [1, 8, 9, 10, 11, 12, 13, 14, 15, 16, 17, 18, 19, 20, 21, 22, 23] (fun z wx => ∃ (i k' : Nat), z 8 = .int .i64 i ∧ z 1 = .int .i64 k' ∧ i ≤ c.ins.length ∧ k' < c.ins.length ∧ farP c (c.ins.length - i) k' = farK c k ∧ wx = w1) (fun z _ => c.ins.length - (intOf (z 8)).toNat) ?_ ?_
  · exact ⟨0, k, rfl, rfl, Nat.zero_le _, hk, rfl, rfl⟩
  · intro z wx hI
    obtain ⟨i, k', h8, h1, hi, hk', hf, rfl⟩ := hI
    have hg := lt_get (l := c.ins) (i := k') hk'
    obtain ⟨x, hx, hxm, _⟩ := hg
    have hg := (hiv.below hw1.below).get hx
    obtain ⟨b, o, rfl, hX, hcell⟩ := hg
    have e0 : wx.cell? ⟨b, o + k' * 3, none⟩ = some (.int .i64 x.op) := by simpa using hcell 0 _ rfl
    have e1 : wx.cell? ⟨b, o + k' * 3 + 1, none⟩ = some (.int .i64 x.a) := by simpa using hcell 1 _ rfl
    simp -dsimp only [push_cast, Nat.reduceAdd, Nat.reduceLeDiff, Nat.reduceBEq, decide_true, ne_eq, eq_self, not_true_eq_false, not_false_eq_true, true_imp_iff, false_imp_iff, Int.reduceNe, Int.reduceEq, Int.reduceLT, Int.reduceLE, Bool.not_true, Bool.not_false, h8, h1, c0, e0, e1]
    refine ⟨fun hlt => ⟨⟨by omega, by omega⟩, fun h3 => ?_, fun h3 => ?_⟩, fun hge => ?_⟩
    · have e : farP c (c.ins.length - i) k' = k' := by
        rw [show c.ins.length - i = (c.ins.length - i - 1) + 1 by omega, farP, hx]
        dsimp only
        rw [if_neg h3]
      rw [← hf, e]
      exact ⟨rfl, hw1.below⟩
    · have h3 : x.op = 3 := Classical.byContradiction h3
      have hj := insRight_jump hc hx h3
      have e : farP c (c.ins.length - i) k' = farP c (c.ins.length - (i + 1)) x.a.toNat := by
        rw [show c.ins.length - i = (c.ins.length - (i + 1)) + 1 by omega, farP, hx]
        dsimp only
        rw [if_pos h3]
      refine ⟨⟨by omega, by omega⟩, ⟨by omega, by omega⟩, ⟨i + 1, x.a.toNat, rfl, ?_, by omega, hj.2.1, by rw [← e]; exact hf⟩, ?_⟩
      · rw [Int.toNat_of_nonneg hj.1]
      · simp only [intOf]; omega
    · have e : c.ins.length - i = 0 := by omega
      rw [e, farP] at hf
      rw [← hf]
      exact ⟨rfl, hw1.below⟩

theorem next_c (is : List Bool) (hn : is.length < 1000000) (k : Nat) (X : Nat → Prop) (v : Value) (w : World) (hv : Sl X 1 (En encBo) w v is) (hk : k < is.length) :
    Fun Tryd.prog 89 [v, .int .i64 k] w fun r w' => r = .int .i64 (nextP is k) ∧ w' = w := by
  obtain ⟨a, cp, rfl, hcp⟩ := hv.shape
  refine fun_of_vc Tryd.func89 rfl (by kernel_rfl) [4] rfl ?_
  simp -dsimp only [push_cast, fr0, Tryd.ntmps89, List.length_cons, List.length_nil, Nat.reduceAdd, Nat.reduceSub, Nat.reduceBEq, List.replicate_succ, List.replicate_zero]
  refine ⟨⟨by omega, by omega⟩, ?_⟩
  refine wpL_loop [4, 5, 8, 9, 10, 11, 12, 13, 14, 15, 16, 17, 18] (fun z wx => ∃ (i : Nat), z 5 = .int .i64 i ∧ k < i ∧ i ≤ is.length ∧ nextP is k = nextFrom is (is.length - i) i ∧ wx = w) (fun z _ => is.length - (intOf (z 5)).toNat) ?_ ?_
  · refine ⟨k + 1, rfl, by omega, by omega, ?_, rfl⟩
    exact nextFrom_start is k (by omega)
  · intro z wx hI
    obtain ⟨i, h5, hki, hi, hN, rfl⟩ := hI
    rcases Nat.lt_or_ge i is.length with hlt | hge
    · have hg := lt_get (l := is) (i := i) hlt
      obtain ⟨x, hx, hxm, _⟩ := hg
      have hg := hv.get hx
      obtain ⟨b, o, rfl, hX, hcell⟩ := hg
      have e0 : wx.cell? ⟨b, o + i, none⟩ = some (.bool x) := by simpa using hcell 0 _ rfl
      have es : is.length - i = (is.length - (i + 1)) + 1 := by omega
      cases x with
      | true =>
        simp -dsimp only [push_cast, Nat.reduceAdd, Nat.reduceLeDiff, Nat.reduceBEq, decide_true, ne_eq, eq_self, not_true_eq_false, not_false_eq_true, true_imp_iff, false_imp_iff, Int.reduceNe, Int.reduceEq, Int.reduceLT, Int.reduceLE, Bool.not_true, Bool.not_false, h5, e0]
        rw [es, nextFrom_hit hx] at hN
        rw [hN]
        exact ⟨fun _ => ⟨⟨by omega, by omega⟩, rfl⟩, fun h => absurd h (by omega)⟩
      | false =>
        simp -dsimp only [push_cast, Nat.reduceAdd, Nat.reduceLeDiff, Nat.reduceBEq, decide_true, ne_eq, eq_self, not_true_eq_false, not_false_eq_true, true_imp_iff, false_imp_iff, Int.reduceNe, Int.reduceEq, Int.reduceLT, Int.reduceLE, Bool.not_true, Bool.not_false, h5, e0]
        rw [es, nextFrom_miss (by rw [hx]; simp) hlt] at hN
        refine ⟨fun _ => ⟨⟨by omega, by omega⟩, ⟨by omega, by omega⟩, ⟨i + 1, rfl, by omega, by omega, hN⟩, by simp only [intOf]; omega⟩, fun h => absurd h (by omega)⟩
    · simp -dsimp only [push_cast, Nat.reduceAdd, Nat.reduceLeDiff, Nat.reduceBEq, decide_true, ne_eq, eq_self, not_true_eq_false, not_false_eq_true, true_imp_iff, false_imp_iff, Int.reduceNe, Int.reduceEq, Int.reduceLT, Int.reduceLE, Bool.not_true, Bool.not_false, h5]
      refine ⟨fun h => absurd h (by omega), fun _ => ?_⟩
      rw [nextFrom_out _ hge] at hN
      rw [hN]

/-- Its own instructions. -/
theorem cloneIns_c (l : List I3) (hl : l.length < 1000000) (X : Nat → Prop) (v : Value) (w : World) (hv : Sl X 3 (En encIn) w v l) (hne : l ≠ []) :
    Fun Tryd.prog 63 [v] w fun r w' => Own w.heap.size 37 3 encIn w' r l ∧ Below w.heap.size w w' := by
  obtain ⟨a, c, rfl, hc⟩ := hv.shape
  refine fun_of_vc Tryd.func63 rfl (by kernel_rfl) [2] rfl ?_
  simp -dsimp only [push_cast, fr0, Tryd.ntmps63, List.length_cons, List.length_nil, Nat.reduceAdd, Nat.reduceSub, Nat.reduceBEq, List.replicate_succ, List.replicate_zero]
  cases a with
  | none =>
    obtain ⟨x, r, rfl⟩ := List.exists_cons_of_ne_nil hne
    have hg := hv.get (i := 0) (x := x) rfl
    obtain ⟨b, o, h, _⟩ := hg
    cases h
  | some ad =>
    simp -dsimp only [push_cast, Nat.reduceAdd, Nat.reduceLeDiff, Nat.reduceBEq, decide_true, ne_eq, eq_self, not_true_eq_false, not_false_eq_true, true_imp_iff, false_imp_iff, Int.reduceNe, Int.reduceEq, Int.reduceLT, Int.reduceLE, Bool.not_true, Bool.not_false, eqs3]
    refine rowK elI_23 rfl rfl (by omega) ?_
    intro w1 hw1
    have ho1 := hw1.own (base := w.heap.size) (k := 3) (n := 0) (enc := encIn) (l := []) rfl rfl (fun _ => rfl) (Nat.le_refl _) (by omega)
    have sz1 := hw1.size
    simp -dsimp only [push_cast, Nat.reduceAdd, Nat.reduceLeDiff, Nat.reduceBEq, decide_true, ne_eq, eq_self, not_true_eq_false, not_false_eq_true, true_imp_iff, false_imp_iff, Int.reduceNe, Int.reduceEq, Int.reduceLT, Int.reduceLE, Bool.not_true, Bool.not_false]
    refine appendAny (base := w.heap.size) (enc := encIn) (ys := l) elI_23 ho1 (hv.below hw1.below) (fun n c h => by cases h) encIn_one (by simp only [List.length_nil]; omega) (by omega) ?_
    intro v' w2 ho2 hg2 hb2
    rw [List.nil_append] at ho2
    simp -dsimp only [push_cast, Nat.reduceAdd, Nat.reduceLeDiff, Nat.reduceBEq, decide_true, ne_eq, eq_self, not_true_eq_false, not_false_eq_true, true_imp_iff, false_imp_iff, Int.reduceNe, Int.reduceEq, Int.reduceLT, Int.reduceLE, Bool.not_true, Bool.not_false]
    exact ⟨ho2, hw1.below.trans hb2⟩
end Go.Proofs.YtimjpijbcnjaaaaDoor
