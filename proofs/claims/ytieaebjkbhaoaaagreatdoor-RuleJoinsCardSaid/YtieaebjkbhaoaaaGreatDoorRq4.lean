import Derived.Test.YtieaebjkbhaoaaaGreatDoorRq3
namespace Go.Proofs.YtieaebjkbhaoaaaGreatDoor
open Go.Vc Go.Proofs Go.RowKit Cae
set_option maxRecDepth 100000
set_option linter.unusedSimpArgs false
set_option linter.unusedVariables false
attribute [local irreducible] wpL callK valK unitK runK Fun Sl Own vc vcOps opK pureK
set_option maxHeartbeats 4000000
theorem text_many (x : PatP) (lo hi : Int) (hx : TextC x) : TextC (.many x lo hi) := by
  intro hok hpn least hle X v w hV hd
  simp only [PatV] at hV
  obtain ⟨b, sv, u, rfl, hb, hB, hs, hV⟩ := hV
  obtain ⟨sa, sc, rfl, hsc⟩ := hs.shape
  obtain ⟨b1, o, rfl, hnb, hcell⟩ := hs.get (i := 0) (x := u) rfl
  have hun : ptrP u = .pointer (some ⟨u, 0, none⟩) := rfl
  have hlt : b1 < w.heap.size := World.block_lt_of_cell? w _ (hcell 0 _ rfl)
  simp only [PatOk] at hok
  have hl : pn (.many x lo hi) = pn x + (timesText lo hi).length := by simp [pn, patText]; omega
  have hpx : pn x = (patText x 2).length + 3 := rfl
  have htl := timesText_len lo hi
  have d0 : w.cell? ⟨b, 0, none⟩ = some (.int .i64 6) := hB.cell rfl
  have Bd := hB.drew
  have e2 : ∀ w'', Below w.drew.heap.size w.drew w'' → w''.cell? ⟨b, 2, none⟩ = some (.slice (some ⟨b1, o, none⟩) 1 sc) := fun w'' h => (Bd.below h Bd.lt).cell rfl
  have e3 : ∀ w'', Below w.drew.heap.size w.drew w'' → w''.cell? ⟨b, 3, none⟩ = some (.int .i64 lo) := fun w'' h => (Bd.below h Bd.lt).cell rfl
  have e4 : ∀ w'', Below w.drew.heap.size w.drew w'' → w''.cell? ⟨b, 4, none⟩ = some (.int .i64 hi) := fun w'' h => (Bd.below h Bd.lt).cell rfl
  have ex : ∀ w'', Below w.drew.heap.size w.drew w'' → w''.cell? ⟨b1, o, none⟩ = some (.pointer (some ⟨u, 0, none⟩)) := fun w'' h => (h.cell (by show b1 < w.heap.size; omega)).trans (by have := hcell 0 _ rfl; rw [hun] at this; simpa using this)
  have hr := Below.refl w.drew.heap.size w.drew
  refine fun_of_vc Tryz.func31 rfl (by kernel_rfl) [4] rfl ?_
  simp -dsimp (maxSteps := 4000000) only [push_cast, fr0, Tryz.ntmps31, List.length_cons, List.length_nil, Nat.reduceAdd, Nat.reduceSub, Nat.reduceBEq, List.replicate_succ, List.replicate_zero]
  simp -dsimp only [push_cast, Nat.reduceAdd, Nat.reduceLeDiff, Nat.reduceBEq, decide_true, ne_eq, eq_self, not_true_eq_false, not_false_eq_true, true_imp_iff, false_imp_iff, Int.reduceNe, Int.reduceEq, Int.reduceLT, Int.reduceLE, Bool.not_true, Bool.not_false, d0]
  refine wpL_drawN (fun w' => Below w.drew.heap.size w.drew w') mixed (by kernel_rfl) (Below.refl _ _) ?_
  simp -dsimp only [push_cast, Nat.reduceAdd, Nat.reduceLeDiff, Nat.reduceBEq, decide_true, ne_eq, eq_self, not_true_eq_false, not_false_eq_true, true_imp_iff, false_imp_iff, Int.reduceNe, Int.reduceEq, Int.reduceLT, Int.reduceLE, Bool.not_true, Bool.not_false, e2 _ hr, ex _ hr]
  refine ⟨fun w'' h => by rw [e2 _ h]; exact rfl, by omega, fun w'' h => by rw [ex _ h]; exact rfl, ?_⟩
  refine callK_of (hx hok.1 (by omega) 2 (by decide) X _ w.drew hV.drew hd) ?_
  rintro _ w2 ⟨rfl, hb2⟩
  refine ⟨hb2, ?_⟩
  simp -dsimp only [push_cast, Nat.reduceAdd, Nat.reduceLeDiff, Nat.reduceBEq, decide_true, ne_eq, eq_self, not_true_eq_false, not_false_eq_true, true_imp_iff, false_imp_iff, Int.reduceNe, Int.reduceEq, Int.reduceLT, Int.reduceLE, Bool.not_true, Bool.not_false, e3 _ hb2, e4 _ hb2]
  refine ⟨fun w'' h => by rw [e3 _ h]; exact rfl, fun w'' h => by rw [e4 _ h]; exact rfl, ?_⟩
  refine callK_of (timesT_c lo hi hok.2.1 hok.2.2.1 hok.2.2.2 w2) ?_
  rintro _ _ ⟨rfl, rfl⟩
  refine ⟨hb2, ?_⟩
  have hbw := (below_drew w).trans hb2
  simp -dsimp only [push_cast, Nat.reduceAdd, Nat.reduceLeDiff, Nat.reduceBEq, decide_true, ne_eq, eq_self, not_true_eq_false, not_false_eq_true, true_imp_iff, false_imp_iff, Int.reduceNe, Int.reduceEq, Int.reduceLT, Int.reduceLE, Bool.not_true, Bool.not_false]
  simp only [List.length_append, List.length_singleton]
  exact ⟨by omega, fun h => by omega, fun h => ⟨congrArg str (by simp [patText]), hbw⟩⟩
mutual
theorem text_c : ∀ x, TextC x
  | .one k => text_one k
  | .any => text_any
  | .edge => text_edge
  | .cat l => text_cat l (texts_c l)
  | .alt l => text_alt l (texts_c l)
  | .many x lo hi => text_many x lo hi (text_c x)
theorem texts_c : ∀ (l : List PatP) (x : PatP), x ∈ l → TextC x
  | [], x, h => by cases h
  | y :: l, x, h => by
    have hy := text_c y
    rcases List.mem_cons.1 h with h | h
    · rw [h]; exact hy
    · exact texts_c l x h
end
theorem ruleText_c (x : PatP) (hok : PatOk x) (hpn : pn x ≤ 100000000) (X : Nat → Prop) (v : Value) (w : World) (hv : PatV X w v x) (hd : Db w) :
    Fun Tryz.prog 17 [v] w fun r w' => r = str (patText x 0) ∧ Below w.heap.size w w' := by
  obtain ⟨b, rfl, _, _⟩ := hv.ptr
  refine fun_of_vc Tryz.func17 rfl (by kernel_rfl) [2] rfl ?_
  simp -dsimp (maxSteps := 4000000) only [push_cast, fr0, Tryz.ntmps17, List.length_cons, List.length_nil, Nat.reduceAdd, Nat.reduceSub, Nat.reduceBEq, List.replicate_succ, List.replicate_zero]
  refine callK_of (text_c x hok hpn 0 (by decide) X _ w hv hd) ?_
  rintro _ w2 ⟨rfl, hb2⟩
  simp -dsimp only [push_cast, Nat.reduceAdd, Nat.reduceLeDiff, Nat.reduceBEq, decide_true, ne_eq, eq_self, not_true_eq_false, not_false_eq_true, true_imp_iff, false_imp_iff, Int.reduceNe, Int.reduceEq, Int.reduceLT, Int.reduceLE, Bool.not_true, Bool.not_false]
  exact hb2
end Go.Proofs.YtieaebjkbhaoaaaGreatDoor
