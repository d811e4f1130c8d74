import Derived.Test.YtieaebjkbhaoaaaGreatDoorRq1
namespace Go.Proofs.YtieaebjkbhaoaaaGreatDoor
open Go.Vc Go.Proofs Go.RowKit Cae
set_option maxRecDepth 100000
set_option linter.unusedSimpArgs false
set_option linter.unusedVariables false
attribute [local irreducible] wpL callK valK unitK runK Fun Sl Own vc vcOps opK pureK
set_option maxHeartbeats 4000000
theorem kt_len : ∀ k : KindP, (kindText k false).length ≤ (kindText k true).length ∧ (kindText k true).length ≤ (kindText k false).length + 2
  | .lit _ s => by simp [kindText]
  | .ref _ n => by simp [kindText]
  | .not _ k => by simp [kindText]
  | .bin c _ k r => by
    have := kt_len k
    have := kt_len r
    simp [kindText]
    omega
theorem below_drew (w : World) : Below w.heap.size w w.drew := ((Kept.refl (fun _ => False) w).drew).below (Nat.le_refl _) (fun _ h => h.elim)
theorem KindV.drew {X : Nat → Prop} {w : World} {k : KindP} {v : Value} (h : KindV X w v k) : KindV X w.drew v k :=
  h.mono (X := X) ((Kept.refl (fun _ => False) w).drew) (fun _ h => h.elim) (fun _ h => h)
theorem kindText_c : ∀ (k : KindP), KindOk k → ∀ (alone : Bool), (kindText k true).length ≤ 1000000000 → ∀ (X : Nat → Prop) (v : Value) (w : World), KindV X w v k → Db w →
    Fun Tryz.prog 16 [v, .bool alone] w fun r w' => r = str (kindText k alone) ∧ Below w.heap.size w w' := by
  intro k
  induction k with
  | lit pos s =>
    rintro hok alone hlen X v w ⟨b, sv, rfl, hb, hB, hs⟩ hd
    have d0 : w.cell? ⟨b, 0, none⟩ = some (.int .i64 1) := hB.cell rfl
    have d2 : w.cell? ⟨b, 2, none⟩ = some sv := hB.cell rfl
    obtain ⟨_, _, rfl, _⟩ := hs.shape
    (refine fun_of_vc Tryz.func16 rfl (by kernel_rfl) [4] rfl ?_; simp -dsimp (maxSteps := 4000000) only [push_cast, fr0, Tryz.ntmps16, List.length_cons, List.length_nil, Nat.reduceAdd, Nat.reduceSub, Nat.reduceBEq, List.replicate_succ, List.replicate_zero])
    simp -dsimp only [push_cast, Nat.reduceAdd, Nat.reduceLeDiff, Nat.reduceBEq, decide_true, ne_eq, eq_self, not_true_eq_false, not_false_eq_true, true_imp_iff, false_imp_iff, Int.reduceNe, Int.reduceEq, Int.reduceLT, Int.reduceLE, Bool.not_true, Bool.not_false, d0, d2]
    refine callK_of (print_c s hok.2 (wr_right (a := -2) (by omega) hok.1) X _ w hs hd) ?_
    rintro _ w2 ⟨rfl, hb2⟩
    simp -dsimp only [push_cast, Nat.reduceAdd, Nat.reduceLeDiff, Nat.reduceBEq, decide_true, ne_eq, eq_self, not_true_eq_false, not_false_eq_true, true_imp_iff, false_imp_iff, Int.reduceNe, Int.reduceEq, Int.reduceLT, Int.reduceLE, Bool.not_true, Bool.not_false]
    exact ⟨rfl, hb2⟩
  | ref pos n =>
    rintro hok alone hlen X v w ⟨b, rfl, hb, hB⟩ hd
    have d0 : w.cell? ⟨b, 0, none⟩ = some (.int .i64 2) := hB.cell rfl
    have d3 : w.cell? ⟨b, 3, none⟩ = some (str n) := hB.cell rfl
    (refine fun_of_vc Tryz.func16 rfl (by kernel_rfl) [4] rfl ?_; simp -dsimp (maxSteps := 4000000) only [push_cast, fr0, Tryz.ntmps16, List.length_cons, List.length_nil, Nat.reduceAdd, Nat.reduceSub, Nat.reduceBEq, List.replicate_succ, List.replicate_zero])
    simp -dsimp only [push_cast, Nat.reduceAdd, Nat.reduceLeDiff, Nat.reduceBEq, decide_true, ne_eq, eq_self, not_true_eq_false, not_false_eq_true, true_imp_iff, false_imp_iff, Int.reduceNe, Int.reduceEq, Int.reduceLT, Int.reduceLE, Bool.not_true, Bool.not_false, d0, d3]
    exact ⟨rfl, Below.refl _ _⟩
  | not pos k ih =>
    rintro hok alone hlen X v w ⟨b, u, rfl, hb, hB, h1⟩ hd
    obtain ⟨b1, rfl, hb1⟩ := h1.ptr
    have d0 : w.cell? ⟨b, 0, none⟩ = some (.int .i64 6) := hB.cell rfl
    have d4 : w.cell? ⟨b, 4, none⟩ = some (.pointer (some ⟨b1, 0, none⟩)) := hB.cell rfl
    have hl : (kindText k true).length + 1 = (kindText (.not pos k) true).length := by simp [kindText]
    (refine fun_of_vc Tryz.func16 rfl (by kernel_rfl) [4] rfl ?_; simp -dsimp (maxSteps := 4000000) only [push_cast, fr0, Tryz.ntmps16, List.length_cons, List.length_nil, Nat.reduceAdd, Nat.reduceSub, Nat.reduceBEq, List.replicate_succ, List.replicate_zero])
    simp -dsimp only [push_cast, Nat.reduceAdd, Nat.reduceLeDiff, Nat.reduceBEq, decide_true, ne_eq, eq_self, not_true_eq_false, not_false_eq_true, true_imp_iff, false_imp_iff, Int.reduceNe, Int.reduceEq, Int.reduceLT, Int.reduceLE, Bool.not_true, Bool.not_false, d0, d4]
    refine callK_of (ih hok true (by omega) X _ w h1 hd) ?_
    rintro _ w2 ⟨rfl, hb2⟩
    simp -dsimp only [push_cast, Nat.reduceAdd, Nat.reduceLeDiff, Nat.reduceBEq, decide_true, ne_eq, eq_self, not_true_eq_false, not_false_eq_true, true_imp_iff, false_imp_iff, Int.reduceNe, Int.reduceEq, Int.reduceLT, Int.reduceLE, Bool.not_true, Bool.not_false]
    exact ⟨by omega, rfl, hb2⟩
  | bin c pos k r ih1 ih2 =>
    rintro hok alone hlen X v w ⟨b, u, x, rfl, hb, hB, h1, h2⟩ hd
    obtain ⟨b1, rfl, hb1⟩ := h1.ptr
    obtain ⟨b2, rfl, hb2⟩ := h2.ptr
    have d0 : w.cell? ⟨b, 0, none⟩ = some (.int .i64 c) := hB.cell rfl
    have k1 := kt_len k
    have k2 := kt_len r
    have hl : (kindText (.bin c pos k r) true).length = (kindText k false).length + (kindText r true).length + 5 := by
      rcases hok.2.2 with rfl | rfl | rfl <;> simp [kindText] <;> omega
    rcases hok.2.2 with rfl | rfl | rfl
    · have d0 : w.cell? ⟨b, 0, none⟩ = some (.int .i64 3) := hB.cell rfl
      (refine fun_of_vc Tryz.func16 rfl (by kernel_rfl) [4] rfl ?_; simp -dsimp (maxSteps := 4000000) only [push_cast, fr0, Tryz.ntmps16, List.length_cons, List.length_nil, Nat.reduceAdd, Nat.reduceSub, Nat.reduceBEq, List.replicate_succ, List.replicate_zero])
      simp -dsimp only [push_cast, Nat.reduceAdd, Nat.reduceLeDiff, Nat.reduceBEq, decide_true, ne_eq, eq_self, not_true_eq_false, not_false_eq_true, true_imp_iff, false_imp_iff, Int.reduceNe, Int.reduceEq, Int.reduceLT, Int.reduceLE, Bool.not_true, Bool.not_false, d0]
      refine wpL_drawN (fun w' => Below w.drew.heap.size w.drew w') mixed (by kernel_rfl) (Below.refl _ _) ?_
      have Bd := hB.drew
      have d4 : w.drew.cell? ⟨b, 4, none⟩ = some (.pointer (some ⟨b1, 0, none⟩)) := Bd.cell rfl
      have d5 : w.drew.cell? ⟨b, 5, none⟩ = some (.pointer (some ⟨b2, 0, none⟩)) := Bd.cell rfl
      simp -dsimp only [push_cast, Nat.reduceAdd, Nat.reduceLeDiff, Nat.reduceBEq, decide_true, ne_eq, eq_self, not_true_eq_false, not_false_eq_true, true_imp_iff, false_imp_iff, Int.reduceNe, Int.reduceEq, Int.reduceLT, Int.reduceLE, Bool.not_true, Bool.not_false, d4, d5]
      refine ⟨fun w'' h => by rw [show w''.cell? ⟨b, 4, none⟩ = some (.pointer (some ⟨b1, 0, none⟩)) from (Bd.below h Bd.lt).cell rfl]; exact rfl, ?_⟩
      refine callK_of (ih1 hok.1 false (by omega) X _ w.drew (h1.drew) hd) ?_
      rintro _ w2 ⟨rfl, hb2⟩
      refine ⟨hb2, ?_⟩
      have B2 := Bd.below hb2 Bd.lt
      have d52 : w2.cell? ⟨b, 5, none⟩ = some (.pointer (some ⟨b2, 0, none⟩)) := B2.cell rfl
      simp -dsimp only [push_cast, Nat.reduceAdd, Nat.reduceLeDiff, Nat.reduceBEq, decide_true, ne_eq, eq_self, not_true_eq_false, not_false_eq_true, true_imp_iff, false_imp_iff, Int.reduceNe, Int.reduceEq, Int.reduceLT, Int.reduceLE, Bool.not_true, Bool.not_false, d52]
      refine ⟨by omega, fun w'' h => by rw [show w''.cell? ⟨b, 5, none⟩ = some (.pointer (some ⟨b2, 0, none⟩)) from (Bd.below h Bd.lt).cell rfl]; exact rfl, ?_⟩
      refine callK_of (ih2 hok.2.1 true (by omega) X _ w2 ((h2.drew).below hb2) (hd.below (w := w.drew) hb2 hd.lt)) ?_
      rintro _ w3 ⟨rfl, hb3⟩
      have hb23 := hb2.trans (hb3.mono hb2.size)
      refine ⟨hb23, ?_⟩
      have hbw : Below w.heap.size w w3 := (below_drew w).trans hb23
      cases alone with
      | true =>
        simp -dsimp only [push_cast, Nat.reduceAdd, Nat.reduceLeDiff, Nat.reduceBEq, decide_true, ne_eq, eq_self, not_true_eq_false, not_false_eq_true, true_imp_iff, false_imp_iff, Int.reduceNe, Int.reduceEq, Int.reduceLT, Int.reduceLE, Bool.not_true, Bool.not_false]
        simp only [List.length_append, List.length_cons, List.length_nil]
        exact ⟨by omega, by omega, by omega, congrArg str (by simp [kindText]), hbw⟩
      | false =>
        simp -dsimp only [push_cast, Nat.reduceAdd, Nat.reduceLeDiff, Nat.reduceBEq, decide_true, ne_eq, eq_self, not_true_eq_false, not_false_eq_true, true_imp_iff, false_imp_iff, Int.reduceNe, Int.reduceEq, Int.reduceLT, Int.reduceLE, Bool.not_true, Bool.not_false]
        simp only [List.length_append, List.length_cons, List.length_nil]
        exact ⟨by omega, congrArg str (by simp [kindText]), hbw⟩
    · have d0 : w.cell? ⟨b, 0, none⟩ = some (.int .i64 4) := hB.cell rfl
      (refine fun_of_vc Tryz.func16 rfl (by kernel_rfl) [4] rfl ?_; simp -dsimp (maxSteps := 4000000) only [push_cast, fr0, Tryz.ntmps16, List.length_cons, List.length_nil, Nat.reduceAdd, Nat.reduceSub, Nat.reduceBEq, List.replicate_succ, List.replicate_zero])
      simp -dsimp only [push_cast, Nat.reduceAdd, Nat.reduceLeDiff, Nat.reduceBEq, decide_true, ne_eq, eq_self, not_true_eq_false, not_false_eq_true, true_imp_iff, false_imp_iff, Int.reduceNe, Int.reduceEq, Int.reduceLT, Int.reduceLE, Bool.not_true, Bool.not_false, d0]
      refine wpL_drawN (fun w' => Below w.drew.heap.size w.drew w') mixed (by kernel_rfl) (Below.refl _ _) ?_
      have Bd := hB.drew
      have d4 : w.drew.cell? ⟨b, 4, none⟩ = some (.pointer (some ⟨b1, 0, none⟩)) := Bd.cell rfl
      have d5 : w.drew.cell? ⟨b, 5, none⟩ = some (.pointer (some ⟨b2, 0, none⟩)) := Bd.cell rfl
      simp -dsimp only [push_cast, Nat.reduceAdd, Nat.reduceLeDiff, Nat.reduceBEq, decide_true, ne_eq, eq_self, not_true_eq_false, not_false_eq_true, true_imp_iff, false_imp_iff, Int.reduceNe, Int.reduceEq, Int.reduceLT, Int.reduceLE, Bool.not_true, Bool.not_false, d4, d5]
      refine ⟨fun w'' h => by rw [show w''.cell? ⟨b, 4, none⟩ = some (.pointer (some ⟨b1, 0, none⟩)) from (Bd.below h Bd.lt).cell rfl]; exact rfl, ?_⟩
      refine callK_of (ih1 hok.1 false (by omega) X _ w.drew (h1.drew) hd) ?_
      rintro _ w2 ⟨rfl, hb2⟩
      refine ⟨hb2, ?_⟩
      have B2 := Bd.below hb2 Bd.lt
      have d52 : w2.cell? ⟨b, 5, none⟩ = some (.pointer (some ⟨b2, 0, none⟩)) := B2.cell rfl
      simp -dsimp only [push_cast, Nat.reduceAdd, Nat.reduceLeDiff, Nat.reduceBEq, decide_true, ne_eq, eq_self, not_true_eq_false, not_false_eq_true, true_imp_iff, false_imp_iff, Int.reduceNe, Int.reduceEq, Int.reduceLT, Int.reduceLE, Bool.not_true, Bool.not_false, d52]
      refine ⟨by omega, fun w'' h => by rw [show w''.cell? ⟨b, 5, none⟩ = some (.pointer (some ⟨b2, 0, none⟩)) from (Bd.below h Bd.lt).cell rfl]; exact rfl, ?_⟩
      refine callK_of (ih2 hok.2.1 true (by omega) X _ w2 ((h2.drew).below hb2) (hd.below (w := w.drew) hb2 hd.lt)) ?_
      rintro _ w3 ⟨rfl, hb3⟩
      have hb23 := hb2.trans (hb3.mono hb2.size)
      refine ⟨hb23, ?_⟩
      have hbw : Below w.heap.size w w3 := (below_drew w).trans hb23
      cases alone with
      | true =>
        simp -dsimp only [push_cast, Nat.reduceAdd, Nat.reduceLeDiff, Nat.reduceBEq, decide_true, ne_eq, eq_self, not_true_eq_false, not_false_eq_true, true_imp_iff, false_imp_iff, Int.reduceNe, Int.reduceEq, Int.reduceLT, Int.reduceLE, Bool.not_true, Bool.not_false]
        simp only [List.length_append, List.length_cons, List.length_nil]
        exact ⟨by omega, by omega, by omega, congrArg str (by simp [kindText]), hbw⟩
      | false =>
        simp -dsimp only [push_cast, Nat.reduceAdd, Nat.reduceLeDiff, Nat.reduceBEq, decide_true, ne_eq, eq_self, not_true_eq_false, not_false_eq_true, true_imp_iff, false_imp_iff, Int.reduceNe, Int.reduceEq, Int.reduceLT, Int.reduceLE, Bool.not_true, Bool.not_false]
        simp only [List.length_append, List.length_cons, List.length_nil]
        exact ⟨by omega, congrArg str (by simp [kindText]), hbw⟩
    · have d0 : w.cell? ⟨b, 0, none⟩ = some (.int .i64 5) := hB.cell rfl
      (refine fun_of_vc Tryz.func16 rfl (by kernel_rfl) [4] rfl ?_; simp -dsimp (maxSteps := 4000000) only [push_cast, fr0, Tryz.ntmps16, List.length_cons, List.length_nil, Nat.reduceAdd, Nat.reduceSub, Nat.reduceBEq, List.replicate_succ, List.replicate_zero])
      simp -dsimp only [push_cast, Nat.reduceAdd, Nat.reduceLeDiff, Nat.reduceBEq, decide_true, ne_eq, eq_self, not_true_eq_false, not_false_eq_true, true_imp_iff, false_imp_iff, Int.reduceNe, Int.reduceEq, Int.reduceLT, Int.reduceLE, Bool.not_true, Bool.not_false, d0]
      refine wpL_drawN (fun w' => Below w.drew.heap.size w.drew w') mixed (by kernel_rfl) (Below.refl _ _) ?_
      have Bd := hB.drew
      have d4 : w.drew.cell? ⟨b, 4, none⟩ = some (.pointer (some ⟨b1, 0, none⟩)) := Bd.cell rfl
      have d5 : w.drew.cell? ⟨b, 5, none⟩ = some (.pointer (some ⟨b2, 0, none⟩)) := Bd.cell rfl
      simp -dsimp only [push_cast, Nat.reduceAdd, Nat.reduceLeDiff, Nat.reduceBEq, decide_true, ne_eq, eq_self, not_true_eq_false, not_false_eq_true, true_imp_iff, false_imp_iff, Int.reduceNe, Int.reduceEq, Int.reduceLT, Int.reduceLE, Bool.not_true, Bool.not_false, d4, d5]
      refine ⟨fun w'' h => by rw [show w''.cell? ⟨b, 4, none⟩ = some (.pointer (some ⟨b1, 0, none⟩)) from (Bd.below h Bd.lt).cell rfl]; exact rfl, ?_⟩
      refine callK_of (ih1 hok.1 false (by omega) X _ w.drew (h1.drew) hd) ?_
      rintro _ w2 ⟨rfl, hb2⟩
      refine ⟨hb2, ?_⟩
      have B2 := Bd.below hb2 Bd.lt
      have d52 : w2.cell? ⟨b, 5, none⟩ = some (.pointer (some ⟨b2, 0, none⟩)) := B2.cell rfl
      simp -dsimp only [push_cast, Nat.reduceAdd, Nat.reduceLeDiff, Nat.reduceBEq, decide_true, ne_eq, eq_self, not_true_eq_false, not_false_eq_true, true_imp_iff, false_imp_iff, Int.reduceNe, Int.reduceEq, Int.reduceLT, Int.reduceLE, Bool.not_true, Bool.not_false, d52]
      refine ⟨by omega, fun w'' h => by rw [show w''.cell? ⟨b, 5, none⟩ = some (.pointer (some ⟨b2, 0, none⟩)) from (Bd.below h Bd.lt).cell rfl]; exact rfl, ?_⟩
      refine callK_of (ih2 hok.2.1 true (by omega) X _ w2 ((h2.drew).below hb2) (hd.below (w := w.drew) hb2 hd.lt)) ?_
      rintro _ w3 ⟨rfl, hb3⟩
      have hb23 := hb2.trans (hb3.mono hb2.size)
      refine ⟨hb23, ?_⟩
      have hbw : Below w.heap.size w w3 := (below_drew w).trans hb23
      cases alone with
      | true =>
        simp -dsimp only [push_cast, Nat.reduceAdd, Nat.reduceLeDiff, Nat.reduceBEq, decide_true, ne_eq, eq_self, not_true_eq_false, not_false_eq_true, true_imp_iff, false_imp_iff, Int.reduceNe, Int.reduceEq, Int.reduceLT, Int.reduceLE, Bool.not_true, Bool.not_false]
        simp only [List.length_append, List.length_cons, List.length_nil]
        exact ⟨by omega, by omega, by omega, congrArg str (by simp [kindText]), hbw⟩
      | false =>
        simp -dsimp only [push_cast, Nat.reduceAdd, Nat.reduceLeDiff, Nat.reduceBEq, decide_true, ne_eq, eq_self, not_true_eq_false, not_false_eq_true, true_imp_iff, false_imp_iff, Int.reduceNe, Int.reduceEq, Int.reduceLT, Int.reduceLE, Bool.not_true, Bool.not_false]
        simp only [List.length_append, List.length_cons, List.length_nil]
        exact ⟨by omega, congrArg str (by simp [kindText]), hbw⟩
end Go.Proofs.YtieaebjkbhaoaaaGreatDoor
