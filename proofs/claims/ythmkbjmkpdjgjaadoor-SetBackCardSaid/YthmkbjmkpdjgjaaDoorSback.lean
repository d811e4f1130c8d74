import Derived.Test.YthmkbjmkpdjgjaaDoorPar
import Derived.Test.YthmkbjmkpdjgjaaDoorSeq
namespace Go.Proofs.YthmkbjmkpdjgjaaDoor
open Go.Vc Go.Proofs Go.RowKit Cae
set_option maxRecDepth 100000
set_option linter.unusedSimpArgs false
set_option linter.unusedVariables false
attribute [local irreducible] wpL callK valK unitK runK Fun Sl Own vc vcOps opK pureK
set_option maxHeartbeats 8000000

theorem printP_len (s : List Rg) : (printP s).length ≤ 20 * s.length + 2 := by
  have := joinR_len s
  unfold printP
  rw [List.length_cons, List.length_append, List.length_singleton]
  omega
theorem setBack_c (la : List Rg) (s : List UInt8) (X : Nat → Prop) (va : Value) (w : World) (hva : Sl X 2 (En encR) w va la) (aa : Arg va) (hd : Db w) (he : Errs w) :
    Fun Tryd.prog 4 [va, str s] w fun r w' => r = .bool true ∧ Below w.heap.size w w' := by
  obtain ⟨a1, c1, rfl, hc1⟩ := hva.shape
  refine fun_of_vc Tryd.func4 rfl (by kernel_rfl) [4] rfl ?_
  simp -dsimp (maxSteps := 4000000) only [push_cast, fr0, Tryd.ntmps4, List.length_cons, List.length_nil, Nat.reduceAdd, Nat.reduceSub, Nat.reduceBEq, List.replicate_succ, List.replicate_zero]
  refine ⟨fun na => ⟨fun _ => Below.refl _ _, fun ns => ?_⟩, fun _ => Below.refl _ _⟩
  refine callK_of (merged_c w hd) ?_
  rintro _ w1 ⟨rfl, b1⟩
  simp -dsimp only [push_cast, Nat.reduceAdd, Nat.reduceLeDiff, Nat.reduceBEq, decide_true, ne_eq, eq_self, not_true_eq_false, not_false_eq_true, true_imp_iff, false_imp_iff, Int.reduceNe, Int.reduceEq, Int.reduceLT, Int.reduceLE, Bool.not_true, Bool.not_false]
  refine callK_of (parse_c s (by omega) w1 (hd.below b1 hd.lt) (he.below b1)) ?_
  rintro r w2 ⟨hr2, b2⟩
  have sz2 := b1.size
  have G2 := b1.tr b2
  have hsn : (setOf la).length ≤ 20 := Nat.le_trans (setOf_len la) (by omega)
  have hpl := printP_len (setOf la)
  rcases hr2 with ⟨v, l, rfl, ho, hl⟩ | ⟨hno, rfl⟩
  · have hll : l.length ≤ 1000000 := by
      have h1 := hl.2
      have h2 : l.length ≤ (printP l).length := by
        unfold printP
        have h3 : (l.map rgP).length ≤ (Lib.join (l.map rgP) [32]).length := by
          have h4 : ∀ (a : List (List UInt8)), (∀ x ∈ a, x ≠ []) → a.length ≤ (Lib.join a [32]).length := by
            intro a ha
            cases a with
            | nil => simp [Lib.join_nil]
            | cons x a =>
              rw [Lib.join_cons, List.length_append, Lib.joinTail_length]
              have : 0 < x.length := List.length_pos_iff.2 (ha x (by simp))
              simp only [List.length_cons, List.length_nil]; omega
          exact h4 _ (fun x hx => by obtain ⟨q, _, rfl⟩ := List.mem_map.1 hx; exact rgP_ne q)
        rw [List.length_map] at h3
        rw [List.length_cons, List.length_append]; omega
      rw [h1] at h2
      omega
    have hwr := wr_right (a := -2) (by omega) hl.1
    simp -dsimp only [push_cast, Nat.reduceAdd, Nat.reduceLeDiff, Nat.reduceBEq, decide_true, ne_eq, eq_self, not_true_eq_false, not_false_eq_true, true_imp_iff, false_imp_iff, Int.reduceNe, Int.reduceEq, Int.reduceLT, Int.reduceLE, Bool.not_true, Bool.not_false]
    refine callK_of (print_c l (by omega) hwr _ v w2 ho.sl (hd.below G2 hd.lt)) ?_
    rintro _ w3 ⟨rfl, b3⟩
    have G3 := G2.tr b3
    have eq1 : decide (printP l ≠ s) = false := decide_eq_false (fun h => h hl.2)
    rw [hl.2]
    have eq2 : decide (s ≠ s) = false := decide_eq_false (fun h => h rfl)
    simp -dsimp only [push_cast, Nat.reduceAdd, Nat.reduceLeDiff, Nat.reduceBEq, decide_true, ne_eq, eq_self, not_true_eq_false, not_false_eq_true, true_imp_iff, false_imp_iff, Int.reduceNe, Int.reduceEq, Int.reduceLT, Int.reduceLE, Bool.not_true, Bool.not_false, eq2]
    refine callK_of (setRight_c l (by omega) _ v w3 (ho.below b3).sl) ?_
    rintro _ w4 ⟨rfl, b4⟩
    have G4 := G3.tr b4
    rw [hl.1]
    simp -dsimp only [push_cast, Nat.reduceAdd, Nat.reduceLeDiff, Nat.reduceBEq, decide_true, ne_eq, eq_self, not_true_eq_false, not_false_eq_true, true_imp_iff, false_imp_iff, Int.reduceNe, Int.reduceEq, Int.reduceLT, Int.reduceLE, Bool.not_true, Bool.not_false]
    refine callK_of (of_c la (by omega) X _ w4 (hva.below G4) aa) ?_
    rintro v5 w5 ⟨ho5, b5⟩
    have G5 := G4.tr b5
    simp -dsimp only [push_cast, Nat.reduceAdd, Nat.reduceLeDiff, Nat.reduceBEq, decide_true, ne_eq, eq_self, not_true_eq_false, not_false_eq_true, true_imp_iff, false_imp_iff, Int.reduceNe, Int.reduceEq, Int.reduceLT, Int.reduceLE, Bool.not_true, Bool.not_false]
    refine callK_of (print_c (setOf la) (by omega) (wr_right (a := -2) (by omega) (setOf_right la)) _ v5 w5 ho5.sl (hd.below G5 hd.lt)) ?_
    rintro _ w6 ⟨rfl, b6⟩
    have G6 := G5.tr b6
    have ho6 := ho5.below b6
    simp -dsimp only [push_cast, Nat.reduceAdd, Nat.reduceLeDiff, Nat.reduceBEq, decide_true, ne_eq, eq_self, not_true_eq_false, not_false_eq_true, true_imp_iff, false_imp_iff, Int.reduceNe, Int.reduceEq, Int.reduceLT, Int.reduceLE, Bool.not_true, Bool.not_false]
    refine callK_of (parse_c (printP (setOf la)) (by omega) w6 (hd.below G6 hd.lt) (he.below G6)) ?_
    rintro r w7 ⟨hr7, b7⟩
    have G7 := G6.tr b7
    have ho7 := ho6.below b7
    rcases hr7 with ⟨v8, l8, rfl, ho8, hl8⟩ | ⟨hno8, rfl⟩
    · have heq : l8 = setOf la := print_inj hl8.1 (setOf_right la) hl8.2
      simp -dsimp only [push_cast, Nat.reduceAdd, Nat.reduceLeDiff, Nat.reduceBEq, decide_true, ne_eq, eq_self, not_true_eq_false, not_false_eq_true, true_imp_iff, false_imp_iff, Int.reduceNe, Int.reduceEq, Int.reduceLT, Int.reduceLE, Bool.not_true, Bool.not_false]
      refine callK_of (equalR_c l8 (setOf la) (by rw [heq]; omega) _ _ v8 v5 w7 ho8.sl ho7.sl) ?_
      rintro _ w9 ⟨rfl, b9⟩
      rw [decide_eq_true heq]
      simp -dsimp only [push_cast, Nat.reduceAdd, Nat.reduceLeDiff, Nat.reduceBEq, decide_true, ne_eq, eq_self, not_true_eq_false, not_false_eq_true, true_imp_iff, false_imp_iff, Int.reduceNe, Int.reduceEq, Int.reduceLT, Int.reduceLE, Bool.not_true, Bool.not_false]
      exact G7.tr b9
    · exact absurd ⟨setOf_right la, rfl⟩ (hno8 (setOf la))
  · simp -dsimp only [push_cast, Nat.reduceAdd, Nat.reduceLeDiff, Nat.reduceBEq, decide_true, ne_eq, eq_self, not_true_eq_false, not_false_eq_true, true_imp_iff, false_imp_iff, Int.reduceNe, Int.reduceEq, Int.reduceLT, Int.reduceLE, Bool.not_true, Bool.not_false]
    refine callK_of (of_c la (by omega) X _ w2 (hva.below G2) aa) ?_
    rintro v5 w5 ⟨ho5, b5⟩
    have G5 := G2.tr b5
    simp -dsimp only [push_cast, Nat.reduceAdd, Nat.reduceLeDiff, Nat.reduceBEq, decide_true, ne_eq, eq_self, not_true_eq_false, not_false_eq_true, true_imp_iff, false_imp_iff, Int.reduceNe, Int.reduceEq, Int.reduceLT, Int.reduceLE, Bool.not_true, Bool.not_false]
    refine callK_of (print_c (setOf la) (by omega) (wr_right (a := -2) (by omega) (setOf_right la)) _ v5 w5 ho5.sl (hd.below G5 hd.lt)) ?_
    rintro _ w6 ⟨rfl, b6⟩
    have G6 := G5.tr b6
    have ho6 := ho5.below b6
    simp -dsimp only [push_cast, Nat.reduceAdd, Nat.reduceLeDiff, Nat.reduceBEq, decide_true, ne_eq, eq_self, not_true_eq_false, not_false_eq_true, true_imp_iff, false_imp_iff, Int.reduceNe, Int.reduceEq, Int.reduceLT, Int.reduceLE, Bool.not_true, Bool.not_false]
    refine callK_of (parse_c (printP (setOf la)) (by omega) w6 (hd.below G6 hd.lt) (he.below G6)) ?_
    rintro r w7 ⟨hr7, b7⟩
    have G7 := G6.tr b7
    have ho7 := ho6.below b7
    rcases hr7 with ⟨v8, l8, rfl, ho8, hl8⟩ | ⟨hno8, rfl⟩
    · have heq : l8 = setOf la := print_inj hl8.1 (setOf_right la) hl8.2
      simp -dsimp only [push_cast, Nat.reduceAdd, Nat.reduceLeDiff, Nat.reduceBEq, decide_true, ne_eq, eq_self, not_true_eq_false, not_false_eq_true, true_imp_iff, false_imp_iff, Int.reduceNe, Int.reduceEq, Int.reduceLT, Int.reduceLE, Bool.not_true, Bool.not_false]
      refine callK_of (equalR_c l8 (setOf la) (by rw [heq]; omega) _ _ v8 v5 w7 ho8.sl ho7.sl) ?_
      rintro _ w9 ⟨rfl, b9⟩
      rw [decide_eq_true heq]
      simp -dsimp only [push_cast, Nat.reduceAdd, Nat.reduceLeDiff, Nat.reduceBEq, decide_true, ne_eq, eq_self, not_true_eq_false, not_false_eq_true, true_imp_iff, false_imp_iff, Int.reduceNe, Int.reduceEq, Int.reduceLT, Int.reduceLE, Bool.not_true, Bool.not_false]
      exact G7.tr b9
    · exact absurd ⟨setOf_right la, rfl⟩ (hno8 (setOf la))
end Go.Proofs.YthmkbjmkpdjgjaaDoor
