import Derived.Test.YtieaebjkbhaoaaaGreatDoorRq7
namespace Go.Proofs.YtieaebjkbhaoaaaGreatDoor
open Go.Vc Go.Proofs Go.RowKit Cae
set_option maxRecDepth 100000
set_option linter.unusedSimpArgs false
set_option linter.unusedVariables false
attribute [local irreducible] wpL callK valK unitK runK Fun Sl Own vc vcOps opK pureK
set_option maxHeartbeats 4000000
theorem FileV.parts {X : Nat → Prop} {w : World} {v : Value} {f : FileP} (h : FileV X w v f) : ∃ ca nc cc ra nr rc, v = .agg #[.slice ca nc cc, .slice ra nr rc, .bool f.els] ∧ nc = f.classes.length ∧ nr = f.rules.length := by
  obtain ⟨cv, rv, cs, rs, rfl, S1, S2, A1, A2⟩ := h
  have hsh1 := S1.shape
  obtain ⟨ca, cc, rfl, hcc⟩ := hsh1
  have hsh2 := S2.shape
  obtain ⟨ra, rc, rfl, hrc⟩ := hsh2
  exact ⟨_, _, _, _, _, _, rfl, A1.len, A2.len⟩
theorem ParsR.parts {w w' : World} {s : List UInt8} {r : Value} (h : ParsR w s r w') : ∃ ca nc cc ra nr rc b ve, r = .tuple #[.agg #[.slice ca nc cc, .slice ra nr rc, .bool b], ve] ∧
    ((∃ f, parseR s = .ok f ∧ ve = .nilIface ∧ nc = f.classes.length ∧ nr = f.rules.length ∧ b = f.els ∧ FileV (· < w.heap.size) w' (.agg #[.slice ca nc cc, .slice ra nr rc, .bool b]) f) ∨ (∃ ty x, ve = .iface ty x)) := by
  rcases h with ⟨f, v, e1, rfl, hV⟩ | ⟨e, pos, b, e1, rfl, _, _⟩
  · obtain ⟨ca, nc, cc, ra, nr, rc, rfl, e2, e3⟩ := hV.parts
    exact ⟨ca, nc, cc, ra, nr, rc, f.els, .nilIface, rfl, .inl ⟨f, e1, rfl, e2, e3, rfl, hV⟩⟩
  · exact ⟨none, 0, 0, none, 0, 0, false, _, rfl, .inr ⟨_, _, rfl⟩⟩
theorem Mx.below {w w' : World} (h : Mx w) (hb : Below w.heap.size w w') : Mx w' := by
  obtain ⟨m, hm⟩ := h
  exact ⟨m, (hb.cell (World.block_lt_of_cell? w _ hm)).trans hm⟩
theorem ruleJoins_c (s u : List UInt8) (w : World) (hd : Db w) (he : Errs w) (hm : Mx w) (hg : 8 ≤ w.heap.size) : Fun Tryz.prog 5 [str s, str u] w fun r w' => r = .bool true ∧ Below w.heap.size w w' := by
  refine fun_of_vc Tryz.func5 rfl (by kernel_rfl) [4] rfl ?_
  simp -dsimp (maxSteps := 4000000) only [push_cast, fr0, Tryz.ntmps5, List.length_cons, List.length_nil, Nat.reduceAdd, Nat.reduceSub, Nat.reduceBEq, List.replicate_succ, List.replicate_zero]
  by_cases hs : 200 < s.length
  · have hs' : (200 : Int) < s.length := by omega
    simp only [eq_true hs', true_implies, not_true_eq_false, false_implies, and_true]
    exact ⟨trivial, Below.refl _ _⟩
  have hs' : ¬ (200 : Int) < s.length := by omega
  by_cases hu : 200 < u.length
  · have hu' : (200 : Int) < u.length := by omega
    simp only [eq_false hs', eq_true hu', true_implies, not_true_eq_false, not_false_eq_true, false_implies, and_true]
    exact Below.refl _ _
  have hu' : ¬ (200 : Int) < u.length := by omega
  simp only [eq_false hs', eq_false hu', true_implies, not_true_eq_false, not_false_eq_true, false_implies, and_true, true_and]
  refine callK_of (ruled_c w hd he hg) ?_
  rintro _ w1 ⟨rfl, hb1⟩
  have z1 := hb1.size
  simp -dsimp only [push_cast, Nat.reduceAdd, Nat.reduceLeDiff, Nat.reduceBEq, decide_true, ne_eq, eq_self, not_true_eq_false, not_false_eq_true, true_imp_iff, false_imp_iff, Int.reduceNe, Int.reduceEq, Int.reduceLT, Int.reduceLE, Bool.not_true, Bool.not_false]
  refine callK_of (ruleParse_c s (by omega) w1 (hd.below hb1 hd.lt) (he.below hb1) (by omega)) ?_
  rintro _ w2 ⟨hP, hb2⟩
  have z2 := hb2.size
  have hb2w := hb1.trans (hb2.mono z1)
  obtain ⟨ca, nc, cc, ra, nr, rc, bs, ves, rfl, hS⟩ := hP.parts
  clear hP
  simp -dsimp only [push_cast, Nat.reduceAdd, Nat.reduceLeDiff, Nat.reduceBEq, decide_true, ne_eq, eq_self, not_true_eq_false, not_false_eq_true, true_imp_iff, false_imp_iff, Int.reduceNe, Int.reduceEq, Int.reduceLT, Int.reduceLE, Bool.not_true, Bool.not_false]
  refine allocK (z := [.slice none 0 0, .slice none 0 0, .bool false]) (by kernel_rfl) ?_
  intro w3 hw3
  simp -dsimp only [push_cast, Nat.reduceAdd, Nat.reduceLeDiff, Nat.reduceBEq, decide_true, ne_eq, eq_self, not_true_eq_false, not_false_eq_true, true_imp_iff, false_imp_iff, Int.reduceNe, Int.reduceEq, Int.reduceLT, Int.reduceLE, Bool.not_true, Bool.not_false]
  refine storeAgg (n := 3) (by kernel_rfl) hw3.blk rfl (by simp) (by simp; exact ⟨rfl, rfl, rfl⟩) ?_
  intro w4 hw4
  have z3 := hw3.size
  have z4 := hw4.size
  have B4 := hw4.blk
  have hb4 : Below w2.heap.size w2 w4 := hw3.below.trans (hw4.kept.below (B := w2.heap.size) (by omega) (fun i h => by omega))
  have hb4w := hb2w.trans (hb4.mono hb2w.size)
  simp -dsimp only [push_cast, Nat.reduceAdd, Nat.reduceLeDiff, Nat.reduceBEq, decide_true, ne_eq, eq_self, not_true_eq_false, not_false_eq_true, true_imp_iff, false_imp_iff, Int.reduceNe, Int.reduceEq, Int.reduceLT, Int.reduceLE, Bool.not_true, Bool.not_false]
  refine callK_of (ruleParse_c u (by omega) w4 (hd.below hb4w hd.lt) (he.below hb4w) (by omega)) ?_
  rintro _ w5 ⟨hP, hb5⟩
  have z5 := hb5.size
  have hb5w := hb4w.trans (hb5.mono hb4w.size)
  obtain ⟨ca', nc', cc', ra', nr', rc', bu, veu, rfl, hU⟩ := hP.parts
  clear hP
  simp -dsimp only [push_cast, Nat.reduceAdd, Nat.reduceLeDiff, Nat.reduceBEq, decide_true, ne_eq, eq_self, not_true_eq_false, not_false_eq_true, true_imp_iff, false_imp_iff, Int.reduceNe, Int.reduceEq, Int.reduceLT, Int.reduceLE, Bool.not_true, Bool.not_false]
  refine allocK (z := [.slice none 0 0, .slice none 0 0, .bool false]) (by kernel_rfl) ?_
  intro w6 hw6
  simp -dsimp only [push_cast, Nat.reduceAdd, Nat.reduceLeDiff, Nat.reduceBEq, decide_true, ne_eq, eq_self, not_true_eq_false, not_false_eq_true, true_imp_iff, false_imp_iff, Int.reduceNe, Int.reduceEq, Int.reduceLT, Int.reduceLE, Bool.not_true, Bool.not_false]
  refine storeAgg (n := 3) (by kernel_rfl) hw6.blk rfl (by simp) (by simp; exact ⟨rfl, rfl, rfl⟩) ?_
  intro w7 hw7
  have z6 := hw6.size
  have z7 := hw7.size
  have B7 := hw7.blk
  have hb7 : Below w5.heap.size w5 w7 := hw6.below.trans (hw7.kept.below (B := w5.heap.size) (by omega) (fun i h => by omega))
  have hb7w := hb5w.trans (hb7.mono hb5w.size)
  have B4' := (B4.below hb5 B4.lt).below hb7 (by omega)
  have d50 : w7.cell? ⟨w2.heap.size, 0, none⟩ = some (.slice ca nc cc) := B4'.cell rfl
  have d51 : w7.cell? ⟨w2.heap.size, 1, none⟩ = some (.slice ra nr rc) := B4'.cell rfl
  have d52 : w7.cell? ⟨w2.heap.size, 2, none⟩ = some (.bool bs) := B4'.cell rfl
  have d70 : w7.cell? ⟨w5.heap.size, 0, none⟩ = some (.slice ca' nc' cc') := B7.cell rfl
  have d71 : w7.cell? ⟨w5.heap.size, 1, none⟩ = some (.slice ra' nr' rc') := B7.cell rfl
  rcases hS with ⟨f, ef, rfl, rfl, rfl, rfl, hV⟩ | ⟨ty, x, rfl⟩
  rotate_left
  · simp -dsimp only [push_cast, Nat.reduceAdd, Nat.reduceLeDiff, Nat.reduceBEq, decide_true, ne_eq, eq_self, not_true_eq_false, not_false_eq_true, true_imp_iff, false_imp_iff, Int.reduceNe, Int.reduceEq, Int.reduceLT, Int.reduceLE, Bool.not_true, Bool.not_false]
    exact hb7w
  rcases hU with ⟨f', ef', rfl, rfl, rfl, rfl, hV'⟩ | ⟨ty, x, rfl⟩
  rotate_left
  · simp -dsimp only [push_cast, Nat.reduceAdd, Nat.reduceLeDiff, Nat.reduceBEq, decide_true, ne_eq, eq_self, not_true_eq_false, not_false_eq_true, true_imp_iff, false_imp_iff, Int.reduceNe, Int.reduceEq, Int.reduceLT, Int.reduceLE, Bool.not_true, Bool.not_false]
    exact hb7w
  cases hels : f.els with
  | false =>
    rw [hels] at d52
    simp -dsimp only [push_cast, Nat.reduceAdd, Nat.reduceLeDiff, Nat.reduceBEq, decide_true, ne_eq, eq_self, not_true_eq_false, not_false_eq_true, true_imp_iff, false_imp_iff, Int.reduceNe, Int.reduceEq, Int.reduceLT, Int.reduceLE, Bool.not_true, Bool.not_false, d50, d51, d52, d70, d71]
    exact ⟨fun _ => ⟨fun _ => hb7w, fun _ => hb7w⟩, fun _ => hb7w⟩
  | true =>
  rw [hels] at d52
  simp -dsimp only [push_cast, Nat.reduceAdd, Nat.reduceLeDiff, Nat.reduceBEq, decide_true, ne_eq, eq_self, not_true_eq_false, not_false_eq_true, true_imp_iff, false_imp_iff, Int.reduceNe, Int.reduceEq, Int.reduceLT, Int.reduceLE, Bool.not_true, Bool.not_false, d50, d51, d52, d70, d71]
  refine ⟨fun c1 => ⟨fun c2 => ?_, fun _ => hb7w⟩, fun _ => hb7w⟩
  refine callK_of (contains_c s [101, 108, 115, 101] (by omega) w7 (hm.below hb7w)) ?_
  rintro _ w7' ⟨rfl, hw7e⟩
  obtain rfl : w7 = w7' := hw7e.symm
  cases hct : Lib.contains s [101, 108, 115, 101] with
  | true =>
    simp -dsimp only [push_cast, Nat.reduceAdd, Nat.reduceLeDiff, Nat.reduceBEq, decide_true, ne_eq, eq_self, not_true_eq_false, not_false_eq_true, true_imp_iff, false_imp_iff, Int.reduceNe, Int.reduceEq, Int.reduceLT, Int.reduceLE, Bool.not_true, Bool.not_false, d50, d51, d52, d70, d71]
    exact hb7w
  | false =>
  simp -dsimp only [push_cast, Nat.reduceAdd, Nat.reduceLeDiff, Nat.reduceBEq, decide_true, ne_eq, eq_self, not_true_eq_false, not_false_eq_true, true_imp_iff, false_imp_iff, Int.reduceNe, Int.reduceEq, Int.reduceLT, Int.reduceLE, Bool.not_true, Bool.not_false, d50, d51, d52, d70, d71]
  have q1 := parse_ok (by omega) ef
  have q2 := parse_ok (by omega) ef'
  refine ⟨by omega, fun _ => hb7w, fun c3 => ⟨by omega, by simp only [List.length_append, List.length_singleton]; omega, ?_⟩⟩
  have hj := joins (by omega) (by omega) ef ef' (List.eq_nil_of_length_eq_zero (by omega)) (List.eq_nil_of_length_eq_zero (by omega)) hels (fun hi => by rw [infix_of_contains hi] at hct; cases hct) (by omega)
  obtain ⟨c, ec, tc⟩ := hj
  have hcat : s ++ [10] ++ u = s ++ 10 :: u := by simp
  rw [hcat]
  refine callK_of (ruleParse_c (s ++ 10 :: u) (by simp; omega) w7 (hd.below hb7w hd.lt) (he.below hb7w) (by omega)) ?_
  rintro _ w8 ⟨hP, hb8⟩
  have z8 := hb8.size
  have hb8w := hb7w.trans (hb8.mono hb7w.size)
  obtain ⟨ca2, nc2, cc2, ra2, nr2, rc2, bc, vec, rfl, hC⟩ := hP.parts
  rcases hP with ⟨fc, v, e1, e2, hV2⟩ | ⟨e, pos, b, e1, _⟩
  rotate_left
  · rw [ec] at e1; cases e1
  rw [ec] at e1
  cases e1
  simp only [Value.tuple.injEq, Array.mk.injEq, List.cons.injEq, and_true] at e2
  obtain ⟨e2, rfl⟩ := e2
  subst e2
  clear hC
  simp -dsimp only [push_cast, Nat.reduceAdd, Nat.reduceLeDiff, Nat.reduceBEq, decide_true, ne_eq, eq_self, not_true_eq_false, not_false_eq_true, true_imp_iff, false_imp_iff, Int.reduceNe, Int.reduceEq, Int.reduceLT, Int.reduceLE, Bool.not_true, Bool.not_false]
  refine allocK (z := [.slice none 0 0, .slice none 0 0, .bool false]) (by kernel_rfl) ?_
  intro w9 hw9
  simp -dsimp only [push_cast, Nat.reduceAdd, Nat.reduceLeDiff, Nat.reduceBEq, decide_true, ne_eq, eq_self, not_true_eq_false, not_false_eq_true, true_imp_iff, false_imp_iff, Int.reduceNe, Int.reduceEq, Int.reduceLT, Int.reduceLE, Bool.not_true, Bool.not_false]
  refine storeAgg (n := 3) (by kernel_rfl) hw9.blk rfl (by simp) (by simp; exact ⟨rfl, rfl, rfl⟩) ?_
  intro wa hwa
  have z9 := hw9.size
  have za := hwa.size
  have Ba := hwa.blk
  have hba : Below w8.heap.size w8 wa := hw9.below.trans (hwa.kept.below (B := w8.heap.size) (by omega) (fun i h => by omega))
  have hbaw := hb8w.trans (hba.mono hb8w.size)
  have B4a := ((B4'.below hb8 B4'.lt).below hba (by omega)).drew
  have B7a := ((B7.below hb8 B7.lt).below hba (by omega)).drew
  have Bad := Ba.drew
  have hbd := hbaw.trans ((below_drew wa).mono hbaw.size)
  have hdd : Db wa.drew := hd.below hbd hd.lt
  have F1 : FileV (· < w7.heap.size) wa.drew (.agg #[.slice ca2 nc2 cc2, .slice ra2 nr2 rc2, .bool bc]) c := (hV2.below hba).below (below_drew wa)
  have F2 : FileV (· < w1.heap.size) wa.drew (.agg #[.slice ca f.classes.length cc, .slice ra f.rules.length rc, .bool f.els]) f := (((((hV.below hb4).below hb5).below hb7).below hb8).below hba).below (below_drew wa)
  have F3 : FileV (· < w4.heap.size) wa.drew (.agg #[.slice ca' f'.classes.length cc', .slice ra' f'.rules.length rc', .bool f'.els]) f' := (((hV'.below hb7).below hb8).below hba).below (below_drew wa)
  have hr := Below.refl wa.drew.heap.size wa.drew
  have x1 : ∀ w'', Below wa.drew.heap.size wa.drew w'' → cellsAt w'' ⟨w8.heap.size, 0, none⟩ 0 3 = some [.slice ca2 nc2 cc2, .slice ra2 nr2 rc2, .bool bc] := fun w'' h => (Bad.below h Bad.lt).cellsAt
  have x2 : ∀ w'', Below wa.drew.heap.size wa.drew w'' → cellsAt w'' ⟨w2.heap.size, 0, none⟩ 0 3 = some [.slice ca f.classes.length cc, .slice ra f.rules.length rc, .bool f.els] := fun w'' h => (B4a.below h B4a.lt).cellsAt
  have x3 : ∀ w'', Below wa.drew.heap.size wa.drew w'' → cellsAt w'' ⟨w5.heap.size, 0, none⟩ 0 3 = some [.slice ca' f'.classes.length cc', .slice ra' f'.rules.length rc', .bool f'.els] := fun w'' h => (B7a.below h B7a.lt).cellsAt
  simp -dsimp only [push_cast, Nat.reduceAdd, Nat.reduceLeDiff, Nat.reduceBEq, decide_true, ne_eq, eq_self, not_true_eq_false, not_false_eq_true, true_imp_iff, false_imp_iff, Int.reduceNe, Int.reduceEq, Int.reduceLT, Int.reduceLE, Bool.not_true, Bool.not_false]
  refine wpL_drawN (fun w' => Below wa.drew.heap.size wa.drew w') mixed (by kernel_rfl) (Below.refl _ _) ?_
  simp -dsimp only [push_cast, Nat.reduceAdd, Nat.reduceLeDiff, Nat.reduceBEq, decide_true, ne_eq, eq_self, not_true_eq_false, not_false_eq_true, true_imp_iff, false_imp_iff, Int.reduceNe, Int.reduceEq, Int.reduceLT, Int.reduceLE, Bool.not_true, Bool.not_false, x1 _ hr, x2 _ hr, x3 _ hr]
  refine ⟨fun w'' h => by rw [x1 _ h]; exact rfl, ?_⟩
  have l1 := text_len ef
  have l2 := text_len ef'
  refine callK_of (printR_c (s ++ 10 :: u) (by simp; omega) ec _ _ wa.drew F1 hdd) ?_
  rintro _ wb ⟨rfl, hbb⟩
  refine ⟨hbb, ?_⟩
  simp -dsimp only [push_cast, Nat.reduceAdd, Nat.reduceLeDiff, Nat.reduceBEq, decide_true, ne_eq, eq_self, not_true_eq_false, not_false_eq_true, true_imp_iff, false_imp_iff, Int.reduceNe, Int.reduceEq, Int.reduceLT, Int.reduceLE, Bool.not_true, Bool.not_false, x2 _ hbb]
  refine ⟨fun w'' h => by rw [x2 _ h]; exact rfl, ?_⟩
  refine callK_of (printR_c s (by omega) ef _ _ wb (F2.below hbb) (hdd.below hbb hdd.lt)) ?_
  rintro _ wc ⟨rfl, hbc⟩
  have hbc' := hbb.trans (hbc.mono hbb.size)
  refine ⟨hbc', ?_⟩
  simp -dsimp only [push_cast, Nat.reduceAdd, Nat.reduceLeDiff, Nat.reduceBEq, decide_true, ne_eq, eq_self, not_true_eq_false, not_false_eq_true, true_imp_iff, false_imp_iff, Int.reduceNe, Int.reduceEq, Int.reduceLT, Int.reduceLE, Bool.not_true, Bool.not_false, x3 _ hbc']
  refine ⟨fun w'' h => by rw [x3 _ h]; exact rfl, ?_⟩
  refine callK_of (printR_c u (by omega) ef' _ _ wc (F3.below hbc') (hdd.below hbc' hdd.lt)) ?_
  rintro _ we ⟨rfl, hbe⟩
  have hbe' := hbc'.trans (hbe.mono hbc'.size)
  refine ⟨hbe', ?_⟩
  simp -dsimp only [push_cast, Nat.reduceAdd, Nat.reduceLeDiff, Nat.reduceBEq, decide_true, ne_eq, eq_self, not_true_eq_false, not_false_eq_true, true_imp_iff, false_imp_iff, Int.reduceNe, Int.reduceEq, Int.reduceLT, Int.reduceLE, Bool.not_true, Bool.not_false]
  rw [tc]
  have hbw := hbd.trans (hbe'.mono hbd.size)
  exact ⟨by omega, congrArg Value.bool (decide_eq_true rfl), hbw⟩
end Go.Proofs.YtieaebjkbhaoaaaGreatDoor
