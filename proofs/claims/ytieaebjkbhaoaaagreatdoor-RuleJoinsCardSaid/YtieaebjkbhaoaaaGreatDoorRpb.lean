import Derived.Test.YtieaebjkbhaoaaaGreatDoorRp9
import Derived.Test.YtieaebjkbhaoaaaGreatDoorRpa
import Derived.Test.YtieaebjkbhaoaaaGreatDoorVd
namespace Go.Proofs.YtieaebjkbhaoaaaGreatDoor
open Go.Vc Go.Proofs Go.RowKit Cae
set_option maxRecDepth 100000
set_option linter.unusedSimpArgs false
set_option linter.unusedVariables false
attribute [local irreducible] wpL callK valK unitK runK Fun Sl Own vc vcOps opK pureK
set_option maxHeartbeats 4000000

theorem catch_c (rb eb : Nat) (ev : Value) (f0 : List Value) (e0 : Value) (hf : f0.length = 3) (w : World) (hr : Blk w rb 26 f0) (he : Blk w eb 28 [e0]) (hne : rb ≠ eb) (hev : oneCell ev = true) :
    CallsD Tryz.prog 11 #[.pointer (some ⟨rb, 0, none⟩), .pointer (some ⟨eb, 0, none⟩)] (.panicking [{ v := .iface 39 (.agg #[ev]), recovered := false }]) w fun e u' w' =>
      e = .returned (.tuple #[]) ∧ u' = .panicking [{ v := .iface 39 (.agg #[ev]), recovered := true }] ∧ Blk w' rb 26 [.slice none 0 0, .slice none 0 0, .bool false] ∧ Blk w' eb 28 [ev] ∧ Kept (fun i => i = rb ∨ i = eb) w w' := by
  refine callsD_of_wpS Tryz.func11 rfl fun c₀ cs hu => ?_
  apply wpS_seq
  apply wpS_region
  simp [wpOpsS, go_sem, recoverD, hu, Tryz.ntmps11, Exit.thenS]
  refine wpS_plain (t := [.pointer (some ⟨rb, 0, none⟩), .pointer (some ⟨eb, 0, none⟩), .iface 39 (.agg #[ev]), undef, undef, .iface 39 (.agg #[ev]), undef, undef, undef, undef, undef, undef, undef, undef, undef, undef, undef, undef, undef]) ?_
  simp -dsimp only [push_cast, Nat.reduceAdd, Nat.reduceLeDiff, Nat.reduceBEq, decide_true, ne_eq, eq_self, not_true_eq_false, not_false_eq_true, true_imp_iff, false_imp_iff, Int.reduceNe, Int.reduceEq, Int.reduceLT, Int.reduceLE, Bool.not_true, Bool.not_false]
  refine assert_same Tryz.underlying39 ?_
  simp -dsimp only [push_cast, Nat.reduceAdd, Nat.reduceLeDiff, Nat.reduceBEq, decide_true, ne_eq, eq_self, not_true_eq_false, not_false_eq_true, true_imp_iff, false_imp_iff, Int.reduceNe, Int.reduceEq, Int.reduceLT, Int.reduceLE, Bool.not_true, Bool.not_false]
  refine allocK (z := [.nilIface]) (by kernel_rfl) ?_
  intro w1 hw1
  have C1 := hw1.blk
  have R1 := hr.below hw1.below hr.lt
  have E1 := he.below hw1.below he.lt
  have z1 := hw1.size
  simp -dsimp only [push_cast, Nat.reduceAdd, Nat.reduceLeDiff, Nat.reduceBEq, decide_true, ne_eq, eq_self, not_true_eq_false, not_false_eq_true, true_imp_iff, false_imp_iff, Int.reduceNe, Int.reduceEq, Int.reduceLT, Int.reduceLE, Bool.not_true, Bool.not_false]
  refine storeAgg (xt := 39) (n := 1) (by kernel_rfl) C1 rfl (by decide) (by simp; cases ev <;> first | rfl | (simp [oneCell] at hev)) ?_
  intro w2 hw2
  have C2 : Blk w2 w.heap.size 39 [ev] := hw2.blk
  have hrl := hr.lt
  have hel := he.lt
  have R2 := R1.kept hw2.kept (by omega)
  have E2 := E1.kept hw2.kept (by omega)
  simp -dsimp only [push_cast, Nat.reduceAdd, Nat.reduceLeDiff, Nat.reduceBEq, decide_true, ne_eq, eq_self, not_true_eq_false, not_false_eq_true, true_imp_iff, false_imp_iff, Int.reduceNe, Int.reduceEq, Int.reduceLT, Int.reduceLE, Bool.not_true, Bool.not_false]
  refine wpL_draw (fun w' => Blk w' w.heap.size 39 [ev]) mixed (by kernel_rfl) C2.drew ?_
  have d2 : w2.drew.cell? ⟨w.heap.size, 0, none⟩ = some ev := C2.drew.cell rfl
  simp -dsimp only [push_cast, Nat.reduceAdd, Nat.reduceLeDiff, Nat.reduceBEq, decide_true, ne_eq, eq_self, not_true_eq_false, not_false_eq_true, true_imp_iff, false_imp_iff, Int.reduceNe, Int.reduceEq, Int.reduceLT, Int.reduceLE, Bool.not_true, Bool.not_false, d2]
  refine ⟨fun w'' h => by rw [Blk.cell h (o := 0) rfl]; exact rfl, ?_⟩
  refine storeAgg (xt := 26) (n := 3) (by kernel_rfl) R2.drew rfl (by rw [hf]; exact Nat.le_refl _) (by simp; exact ⟨rfl, rfl⟩) ?_
  intro w3 hw3
  have R3 : Blk w3 rb 26 [.slice none 0 0, .slice none 0 0, .bool false] := by
    have := hw3.blk
    rw [List.take_zero, List.nil_append, Nat.zero_add, List.drop_of_length_le (by rw [hf]; exact Nat.le_refl _), List.append_nil] at this
    exact this
  have C3 : Blk w3 w.heap.size 39 [ev] := C2.drew.kept hw3.kept (by omega)
  have E3 := E2.drew.kept hw3.kept (by omega)
  refine ⟨C3, ?_⟩
  simp -dsimp only [push_cast, Nat.reduceAdd, Nat.reduceLeDiff, Nat.reduceBEq, decide_true, ne_eq, eq_self, not_true_eq_false, not_false_eq_true, true_imp_iff, false_imp_iff, Int.reduceNe, Int.reduceEq, Int.reduceLT, Int.reduceLE, Bool.not_true, Bool.not_false]
  refine storeK_of E3 (by simp) hev ?_
  intro w4 hw4
  have E4 : Blk w4 eb 28 [ev] := hw4.blk
  have R4 := R3.kept hw4.kept (by omega)
  have C4 : Blk w4 w.heap.size 39 [ev] := C3.kept hw4.kept (by omega)
  have k4 : Kept (fun i => i = rb ∨ i = eb) w w4 := (((Kept.new (X := fun i => i = rb ∨ i = eb) hw1).trans hw2.kept (fun i h1 h2 => by omega)).drew.trans hw3.kept (fun i _ h => .inl h)).trans hw4.kept (fun i _ h => .inr h)
  refine ⟨C4, ?_⟩
  simp -dsimp only [push_cast, Nat.reduceAdd, Nat.reduceLeDiff, Nat.reduceBEq, decide_true, ne_eq, eq_self, not_true_eq_false, not_false_eq_true, true_imp_iff, false_imp_iff, Int.reduceNe, Int.reduceEq, Int.reduceLT, Int.reduceLE, Bool.not_true, Bool.not_false]
  exact ⟨rfl, _, rfl, .tuple #[], noRes (by rfl) _ _, rfl, rfl, R4, E4, k4⟩
theorem idle_c (rb eb : Nat) (w : World) :
    CallsD Tryz.prog 11 #[.pointer (some ⟨rb, 0, none⟩), .pointer (some ⟨eb, 0, none⟩)] .returning w fun e u' w' => e = .returned (.tuple #[]) ∧ u' = .returning ∧ w' = w := by
  refine callsD_of_wpS Tryz.func11 rfl fun c₀ cs hu => ?_
  apply wpS_seq
  apply wpS_region
  simp [wpOpsS, go_sem, recoverD, hu, Tryz.ntmps11, Exit.thenS]
  refine wpS_plain (t := [.pointer (some ⟨rb, 0, none⟩), .pointer (some ⟨eb, 0, none⟩), .nilIface, undef, undef, .nilIface, undef, undef, undef, undef, undef, undef, undef, undef, undef, undef, undef, undef, undef]) ?_
  simp -dsimp only [push_cast, Nat.reduceAdd, Nat.reduceLeDiff, Nat.reduceBEq, decide_true, ne_eq, eq_self, not_true_eq_false, not_false_eq_true, true_imp_iff, false_imp_iff, Int.reduceNe, Int.reduceEq, Int.reduceLT, Int.reduceLE, Bool.not_true, Bool.not_false]
  refine ⟨rfl, .returning, ?_, .tuple #[], noRes (by rfl) _ _, rfl, rfl, rfl⟩
  rw [← hu]
end Go.Proofs.YtieaebjkbhaoaaaGreatDoor
