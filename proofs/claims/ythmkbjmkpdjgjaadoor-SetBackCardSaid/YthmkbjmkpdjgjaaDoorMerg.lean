import Derived.Test.YthmkbjmkpdjgjaaDoorSprint
import Derived.Test.YthmkbjmkpdjgjaaDoorConc
import Derived.Test.YthmkbjmkpdjgjaaDoorSeq
namespace Go.Proofs.YthmkbjmkpdjgjaaDoor
open Go.Vc Go.Proofs Go.RowKit Cae
set_option maxRecDepth 100000
set_option linter.unusedSimpArgs false
set_option linter.unusedVariables false
attribute [local irreducible] wpL callK valK unitK runK Fun Sl Own vc vcOps opK pureK
set_option maxHeartbeats 4000000

def mergL : List Rg := [(102, 122), (97, 101), (9, 3), (-5, 0)]
theorem merg_of : setOf mergL = [(0, 0), (97, 122)] := (setOf_any (m := [(-5, 0), (9, 3), (97, 101), (102, 122)]) (by decide +kernel) (by unfold Rising; decide)).symm.trans (by decide +kernel)
theorem merg_print : printP [(0, 0), (97, 122)] = [91, 48, 32, 54, 49, 45, 55, 97, 93] := by decide +kernel
theorem merg_has1 : hasP [(0, 0), (97, 122)] 113 = true := by decide +kernel
theorem merg_has2 : hasP [(0, 0), (97, 122)] 65 = false := by decide +kernel
theorem merg_not : setNot (setNot [(0, 0), (97, 122)]) = [(0, 0), (97, 122)] := by decide +kernel
theorem merged_c (w : World) (h : Db w) : Fun Tryd.prog 5 [] w fun r w' => r = .bool true ∧ Below w.heap.size w w' := by
  refine fun_of_vc Tryd.func5 rfl (by kernel_rfl) [0] rfl ?_
  simp -dsimp only [push_cast, fr0, Tryd.ntmps5, List.length_cons, List.length_nil, Nat.reduceAdd, Nat.reduceSub, Nat.reduceBEq, List.replicate_succ, List.replicate_zero]
  simp -dsimp only [push_cast, Nat.reduceAdd, Nat.reduceLeDiff, Nat.reduceBEq, decide_true, ne_eq, eq_self, not_true_eq_false, not_false_eq_true, true_imp_iff, false_imp_iff, Int.reduceNe, Int.reduceEq, Int.reduceLT, Int.reduceLE, Bool.not_true, Bool.not_false]
  refine rowK elI_22 rfl rfl (by omega) ?_
  intro w1 hw1
  have sz1 := hw1.size
  have hb1 := hw1.below
  have ho1 := hw1.own (base := w.heap.size) (k := 2) (n := 4) (enc := encR) (l := mergL) rfl rfl (fun _ => rfl) (Nat.le_refl _) (by omega)
  simp -dsimp only [push_cast, Nat.reduceAdd, Nat.reduceLeDiff, Nat.reduceBEq, decide_true, ne_eq, eq_self, not_true_eq_false, not_false_eq_true, true_imp_iff, false_imp_iff, Int.reduceNe, Int.reduceEq, Int.reduceLT, Int.reduceLE, Bool.not_true, Bool.not_false]
  refine callK_of (of_c mergL (by decide) (fun b => b < w.heap.size) _ w1 ho1.sl ho1.nilArg) ?_
  rintro v2 w2 ⟨ho2, hb2⟩
  have sz2 := hb2.size
  rw [merg_of] at ho2
  have hB2 := hb1.trans (hb2.mono (show w.heap.size ≤ w1.heap.size by omega))
  have hsh := ho2.slice
  obtain ⟨a2, c2, rfl⟩ := hsh
  simp -dsimp only [push_cast, Nat.reduceAdd, Nat.reduceLeDiff, Nat.reduceBEq, decide_true, ne_eq, eq_self, not_true_eq_false, not_false_eq_true, true_imp_iff, false_imp_iff, Int.reduceNe, Int.reduceEq, Int.reduceLT, Int.reduceLE, Bool.not_true, Bool.not_false]
  refine callK_of (print_c [(0, 0), (97, 122)] (by decide) (wr_right (a := -2) (by omega) (by decide +kernel)) _ _ w2 ho2.sl (h.below hB2 h.lt)) ?_
  rintro _ w3 ⟨rfl, hb3⟩
  have sz3 := hb3.size
  have ho3 := ho2.below hb3
  have hB3 := hB2.trans (hb3.mono (show w.heap.size ≤ w2.heap.size by omega))
  rw [merg_print]
  simp -dsimp only [push_cast, Nat.reduceAdd, Nat.reduceLeDiff, Nat.reduceBEq, decide_true, ne_eq, eq_self, not_true_eq_false, not_false_eq_true, true_imp_iff, false_imp_iff, Int.reduceNe, Int.reduceEq, Int.reduceLT, Int.reduceLE, Bool.not_true, Bool.not_false]
  refine callK_of (has_c [(0, 0), (97, 122)] (by decide) (by decide +kernel) 113 _ _ w3 ho3.sl) ?_
  rintro _ w4 ⟨rfl, hb4⟩
  have sz4 := hb4.size
  have ho4 := ho3.below hb4
  have hB4 := hB3.trans (hb4.mono (show w.heap.size ≤ w3.heap.size by omega))
  rw [merg_has1]
  simp -dsimp only [push_cast, Nat.reduceAdd, Nat.reduceLeDiff, Nat.reduceBEq, decide_true, ne_eq, eq_self, not_true_eq_false, not_false_eq_true, true_imp_iff, false_imp_iff, Int.reduceNe, Int.reduceEq, Int.reduceLT, Int.reduceLE, Bool.not_true, Bool.not_false]
  refine callK_of (has_c [(0, 0), (97, 122)] (by decide) (by decide +kernel) 65 _ _ w4 ho4.sl) ?_
  rintro _ w5 ⟨rfl, hb5⟩
  have sz5 := hb5.size
  have ho5 := ho4.below hb5
  have hB5 := hB4.trans (hb5.mono (show w.heap.size ≤ w4.heap.size by omega))
  rw [merg_has2]
  simp -dsimp only [push_cast, Nat.reduceAdd, Nat.reduceLeDiff, Nat.reduceBEq, decide_true, ne_eq, eq_self, not_true_eq_false, not_false_eq_true, true_imp_iff, false_imp_iff, Int.reduceNe, Int.reduceEq, Int.reduceLT, Int.reduceLE, Bool.not_true, Bool.not_false]
  refine callK_of (not_c [(0, 0), (97, 122)] (by decide) (by decide +kernel) _ _ w5 ho5.sl) ?_
  rintro v6 w6 ⟨ho6, hb6⟩
  have sz6 := hb6.size
  have hB6 := hB5.trans (hb6.mono (show w.heap.size ≤ w5.heap.size by omega))
  simp -dsimp only [push_cast, Nat.reduceAdd, Nat.reduceLeDiff, Nat.reduceBEq, decide_true, ne_eq, eq_self, not_true_eq_false, not_false_eq_true, true_imp_iff, false_imp_iff, Int.reduceNe, Int.reduceEq, Int.reduceLT, Int.reduceLE, Bool.not_true, Bool.not_false]
  refine callK_of (not_c (setNot [(0, 0), (97, 122)]) (by decide +kernel) (setNot_right (by decide +kernel)) _ _ w6 ho6.sl) ?_
  rintro v7 w7 ⟨ho7, hb7⟩
  have sz7 := hb7.size
  have hB7 := hB6.trans (hb7.mono (show w.heap.size ≤ w6.heap.size by omega))
  rw [merg_not] at ho7
  simp -dsimp only [push_cast, Nat.reduceAdd, Nat.reduceLeDiff, Nat.reduceBEq, decide_true, ne_eq, eq_self, not_true_eq_false, not_false_eq_true, true_imp_iff, false_imp_iff, Int.reduceNe, Int.reduceEq, Int.reduceLT, Int.reduceLE, Bool.not_true, Bool.not_false]
  refine callK_of (print_c [(0, 0), (97, 122)] (by decide) (wr_right (a := -2) (by omega) (by decide +kernel)) _ _ w7 ho7.sl (h.below hB7 h.lt)) ?_
  rintro _ w8 ⟨rfl, hb8⟩
  have hB8 := hB7.trans (hb8.mono (show w.heap.size ≤ w7.heap.size by omega))
  rw [merg_print]
  simp -dsimp only [push_cast, Nat.reduceAdd, Nat.reduceLeDiff, Nat.reduceBEq, decide_true, ne_eq, eq_self, not_true_eq_false, not_false_eq_true, true_imp_iff, false_imp_iff, Int.reduceNe, Int.reduceEq, Int.reduceLT, Int.reduceLE, Bool.not_true, Bool.not_false]
  exact hB8
end Go.Proofs.YthmkbjmkpdjgjaaDoor
