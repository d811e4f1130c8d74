import Derived.Test.YtimjpijbcnjaaaaDoorMatch
namespace Go.Proofs.YtimjpijbcnjaaaaDoor
open Go.Vc Go.Proofs Go.RowKit Cae
set_option maxRecDepth 100000
set_option linter.unusedSimpArgs false
set_option linter.unusedVariables false
attribute [local irreducible] wpL callK valK unitK runK Fun Sl Own vc vcOps opK pureK
set_option maxHeartbeats 8000000

/-- The code of the fact. -/
def c0P : CodeP := ⟨[[(97, 97)]], [⟨1, 0, 0⟩, ⟨2, 0, 2⟩, ⟨5, 0, 0⟩]⟩

theorem matched_c (w : World) : Fun Tryd.prog 9 [] w fun r w' => r = .bool true ∧ Below w.heap.size w w' := by
  refine fun_of_vc Tryd.func9 rfl (by kernel_rfl) [0] rfl ?_
  simp -dsimp only [push_cast, fr0, Tryd.ntmps9, List.length_cons, List.length_nil, Nat.reduceAdd, Nat.reduceSub, Nat.reduceBEq, List.replicate_succ, List.replicate_zero]
  simp -dsimp only [push_cast, Nat.reduceAdd, Nat.reduceLeDiff, Nat.reduceBEq, decide_true]
  refine rowK elI_76 rfl rfl (by omega) ?_
  intro w1 hw1
  simp -dsimp only [push_cast, Nat.reduceAdd, Nat.reduceLeDiff, Nat.reduceBEq, decide_true]
  refine rowK elI_22 rfl rfl (by omega) ?_
  intro w2 hw2
  simp -dsimp only [push_cast, Nat.reduceAdd, Nat.reduceLeDiff, Nat.reduceBEq, decide_true]
  refine rowK elI_23 rfl rfl (by omega) ?_
  intro w3 hw3
  simp -dsimp only [push_cast, Nat.reduceAdd, Nat.reduceLeDiff, Nat.reduceBEq, decide_true]
  refine allocK (z := [.slice none 0 0, .slice none 0 0]) (by kernel_rfl) ?_
  intro w4 hw4
  simp -dsimp only [push_cast, Nat.reduceAdd, Nat.reduceLeDiff, Nat.reduceBEq, decide_true]
  refine storeAgg (n := 2) (by kernel_rfl) hw4.blk rfl (by simp) (by simp [Value.oneCell']) ?_
  intro w5 hw5
  have c5 : cellsAt w5 ⟨w3.heap.size, 0, none⟩ 0 2 = some [.slice (some ⟨w1.heap.size, 0, none⟩) 1 1, .slice (some ⟨w2.heap.size, 0, none⟩) 3 3] := hw5.blk.cellsAt
  simp -dsimp only [push_cast, Nat.reduceAdd, Nat.reduceLeDiff, Nat.reduceBEq, decide_true, c5]
  have s1 := hw1.size
  have s2 := hw2.size
  have s3 := hw3.size
  have s4 := hw4.size
  have s5 := hw5.size
  have o1 := hw1.own (base := 0) (k := 2) (n := 1) (enc := encR) (l := [(97, 97)]) rfl rfl (fun _ => rfl) (Nat.zero_le _) (by omega)
  have b25 : Below w2.heap.size w2 w5 := hw3.below.trans ((hw4.below.mono (by omega)).trans (hw5.kept.below (by omega) (fun _ h => by omega)))
  have b15 : Below w1.heap.size w1 w5 := hw2.below.trans (b25.mono (by omega))
  have b35 : Below w3.heap.size w3 w5 := hw4.below.trans (hw5.kept.below (by omega) (fun _ h => by omega))
  have o3 := hw3.own (base := 0) (k := 3) (n := 3) (enc := encIn) (l := [⟨1, 0, 0⟩, ⟨2, 0, 2⟩, ⟨5, 0, 0⟩]) rfl rfl (fun _ => rfl) (Nat.zero_le _) (by omega)
  have hsets : Sl (fun _ => False) 1 (SetR (fun _ => False) w5) w5 (.slice (some ⟨w1.heap.size, 0, none⟩) 1 1) [[(97, 97)]] := by
    have hset := o1.sl.below b15
    unfold Sl
    refine ⟨_, _, rfl, by simp, fun i x hx => ?_⟩
    have hi : i = 0 := by have := (List.getElem?_eq_some_iff.1 hx).1; simp at this; omega
    subst hi
    simp only [List.getElem?_cons_zero, Option.some.injEq] at hx
    subst hx
    refine ⟨w1.heap.size, 0, [.slice (some ⟨w.heap.size, 0, none⟩) 1 1], rfl, id, rfl, fun j u hu => ?_, _, rfl, hset.weaken (fun _ h => h.elim)⟩
    have hj : j = 0 := by have := (List.getElem?_eq_some_iff.1 hu).1; simp at this; omega
    subst hj
    simp only [List.getElem?_cons_zero, Option.some.injEq] at hu
    subst hu
    exact (b25.cell (by show w1.heap.size < w2.heap.size; omega)).trans (hw2.cell rfl)
  have hcode : CodeV (fun _ => False) w5 (.agg #[.slice (some ⟨w1.heap.size, 0, none⟩) 1 1, .slice (some ⟨w2.heap.size, 0, none⟩) 3 3]) c0P :=
    ⟨_, _, rfl, hsets, (o3.sl.below b35).weaken (fun _ h => h.elim)⟩
  have hB5 : Below w.heap.size w w5 := hw1.below.trans (b15.mono (by omega))
  have hl0 : SetsLen c0P := fun s hs => by simp [c0P] at hs; subst hs; simp
  refine rowK elI_26 rfl rfl (by omega) ?_
  intro w6 hw6
  have o6 := hw6.own (base := 0) (k := 1) (n := 2) (enc := encI) (l := [97, 98]) rfl rfl (fun _ => rfl) (Nat.zero_le _) (by omega)
  simp -dsimp only [push_cast, Nat.reduceAdd, Nat.reduceLeDiff, Nat.reduceBEq, decide_true]
  refine callK_of (match_c c0P [97, 98] hl0 (by decide) (by decide) (by decide) _ _ _ _ w6 (hcode.below hw6.below) o6.sl) ?_
  rintro _ w7 ⟨rfl, hb7⟩
  have e1 : MatchV c0P [97, 98] = .tuple #[.bool true, .int .i64 4, .nilIface] := by rfl
  rw [e1]
  have c7 : cellsAt w7 ⟨w3.heap.size, 0, none⟩ 0 2 = some [.slice (some ⟨w1.heap.size, 0, none⟩) 1 1, .slice (some ⟨w2.heap.size, 0, none⟩) 3 3] := ((hw5.blk.below hw6.below hw5.blk.lt).below hb7 (by have := hw6.size; omega)).cellsAt
  simp -dsimp only [push_cast, Nat.reduceAdd, Nat.reduceLeDiff, Nat.reduceBEq, decide_true, c7]
  refine rowK elI_26 rfl rfl (by omega) ?_
  intro w8 hw8
  have o8 := hw8.own (base := 0) (k := 1) (n := 1) (enc := encI) (l := [98]) rfl rfl (fun _ => rfl) (Nat.zero_le _) (by omega)
  have b58 : Below w5.heap.size w5 w8 := hw6.below.trans ((hb7.mono (by have := hw6.size; omega)).trans (hw8.below.mono (by have := hb7.size; have := hw6.size; omega)))
  simp -dsimp only [push_cast, Nat.reduceAdd, Nat.reduceLeDiff, Nat.reduceBEq, decide_true]
  refine callK_of (match_c c0P [98] hl0 (by decide) (by decide) (by decide) _ _ _ _ w8 (hcode.below b58) o8.sl) ?_
  rintro _ w9 ⟨rfl, hb9⟩
  have e2 : MatchV c0P [98] = .tuple #[.bool false, .int .i64 1, .nilIface] := by rfl
  rw [e2]
  simp -dsimp only [push_cast, Nat.reduceAdd, Nat.reduceLeDiff, Nat.reduceBEq, decide_true, ne_eq, eq_self, not_true_eq_false, not_false_eq_true, true_imp_iff, false_imp_iff, Int.reduceNe, Int.reduceEq, Int.reduceLT, Int.reduceLE, Bool.not_true, Bool.not_false]
  exact hB5.trans ((b58.mono hB5.size).trans (hb9.mono (Nat.le_trans hB5.size b58.size)))
end Go.Proofs.YtimjpijbcnjaaaaDoor
