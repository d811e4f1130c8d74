import Derived.Test.YtimjpijbcnjaaaaDoorImrA
namespace Go.Proofs.YtimjpijbcnjaaaaDoor
open Go.Vc Go.Proofs Go.RowKit Cae
set_option maxRecDepth 100000
set_option linter.unusedSimpArgs false
set_option linter.unusedVariables false
attribute [local irreducible] wpL callK valK unitK runK Fun Sl Own vc vcOps opK pureK
set_option maxHeartbeats 4000000

theorem smallP_spec {c : CodeP} (h : smallP c = true) : c.sets.length ≤ 20 ∧ c.ins.length ≤ 60 ∧ ∀ s ∈ c.sets, s.length ≤ 20 := by
  unfold smallP at h
  simp only [Bool.and_eq_true, decide_eq_true_eq, List.all_eq_true] at h
  exact ⟨h.1.1, h.1.2, h.2⟩
theorem small_len {c : CodeP} (h : smallP c = true) : CodeLen c := by
  obtain ⟨h1, h2, h3⟩ := smallP_spec h
  exact ⟨fun s hs => by have := h3 s hs; omega, by omega, by omega⟩
theorem smallProg_spec {p : ProgP} (h : smallProgP p = true) : p.rules.length ≤ 25 ∧ ∀ r ∈ p.rules, smallP r.before = true ∧ smallP r.after = true := by
  unfold smallProgP at h
  simp only [Bool.and_eq_true, decide_eq_true_eq, List.all_eq_true] at h
  exact h
theorem smallProg_len {p : ProgP} (h : smallProgP p = true) : ProgLen p := by
  obtain ⟨h1, h2⟩ := smallProg_spec h
  exact ⟨by omega, fun r hr => ⟨small_len (h2 r hr).1, small_len (h2 r hr).2⟩⟩
theorem small_bytes {c : CodeP} (h : smallP c = true) (hr : codeRight c = true) : (codeB c).length ≤ 5010 := by
  obtain ⟨h1, h2, h3⟩ := smallP_spec h
  have e1 : (c.sets.flatMap setB).length ≤ c.sets.length * 205 := flat_boundR _ fun s hs => by
    have := flat_boundR (f := rangeB) (k := 10) s (fun r hrm => by
      obtain ⟨g1, g2⟩ := range_small hr hs hrm
      have := numB_five (n := r.1.toNat) (by omega)
      have := numB_five (n := r.2.toNat) (by omega)
      simp only [rangeB, List.length_append]; omega)
    have := h3 s hs
    have := numB_five (n := s.length) (by omega)
    simp only [setB, List.length_append]; omega
  have e2 : (c.ins.flatMap insB).length ≤ c.ins.length * 15 := flat_boundR _ fun x hx => by
    obtain ⟨g1, g2, g3⟩ := ins_small hr hx
    have := numB_five (n := x.op.toNat) (by omega)
    have := numB_five (n := x.a.toNat) (by omega)
    have := numB_five (n := x.b.toNat) (by omega)
    simp only [insB, List.length_append]; omega
  have := numB_five (n := c.sets.length) (by omega)
  have := numB_five (n := c.ins.length) (by omega)
  simp only [codeB, List.length_append]; omega
theorem smallProg_bytes {p : ProgP} (h : smallProgP p = true) (hr : progRight p = true) : (progB p).length < 900000 := by
  obtain ⟨h1, h2⟩ := smallProg_spec h
  obtain ⟨_, h3⟩ := progRight_spec hr
  have e1 : (p.rules.flatMap pairB).length ≤ p.rules.length * 10021 := flat_boundR _ fun r hrm => by
    have := small_bytes (h2 r hrm).1 (h3 r hrm).1
    have := small_bytes (h2 r hrm).2 (h3 r hrm).2
    simp only [pairB, bitB, List.length_append, List.length_cons, List.length_nil]; omega
  have := numB_five (n := p.rules.length) (by omega)
  simp only [progB, bitB, List.length_append, List.length_cons, List.length_nil]; omega


theorem parse_len {s : List UInt8} {q : ProgP} (h : parseP s = some q) (hs : s.length < 1000000000) : ProgLen q := by
  unfold parseP at h
  split at h
  · cases h
  · split at h
    · cases h
    · simp only at h
      split at h
      · cases h
      · simp only [Option.some.injEq] at h
        subst h
        exact rprog_lens _ (by simp only [List.length_take]; omega)

theorem imageWrites_c (p : ProgP) (s : List UInt8) (v : Value) (w : World) (hE : ErrVar w) (hv : ProgV (fun _ => False) w v p) :
    Fun Tryd.prog 7 [v, str s] w fun r w' => r = .bool true ∧ Below w.heap.size w w' := by
  have hv0 := hv
  obtain ⟨rv, rfl, hr⟩ := hv
  refine fun_of_vc Tryd.func7 rfl (by kernel_rfl) [4] rfl ?_
  simp -dsimp only [push_cast, fr0, Tryd.ntmps7, List.length_cons, List.length_nil, Nat.reduceAdd, Nat.reduceSub, Nat.reduceBEq, List.replicate_succ, List.replicate_zero]
  refine boxK_of ?_
  intro w1 hw1
  have hw1 : New w w1 43 [rv, .bool p.els] := hw1
  have sz1 := hw1.size
  have d1 : cellsAt w1 ⟨w.heap.size, 0, none⟩ 0 2 = some [rv, .bool p.els] := hw1.blk.cellsAt
  simp -dsimp only [push_cast, Nat.reduceAdd, Nat.reduceLeDiff, Nat.reduceBEq, decide_true, d1]
  refine callK_of (lsmallProgram_c p (fun _ => False) _ w1 (hv0.below hw1.below)) ?_
  rintro _ w2 ⟨rfl, hb2⟩
  have sz2 := hb2.size
  have hL2 := hw1.below.trans (hb2.mono (by omega))
  have hP2 : Blk w2 w.heap.size 43 [rv, .bool p.els] := hw1.blk.below hb2 (by omega)
  cases hsm : smallProgP p with
  | false =>
    simp -dsimp only [push_cast, Nat.reduceAdd, Nat.reduceLeDiff, Nat.reduceBEq, decide_true, ne_eq, eq_self, not_true_eq_false, not_false_eq_true, true_imp_iff, false_imp_iff, Int.reduceNe, Int.reduceEq, Int.reduceLT, Int.reduceLE, Bool.not_true, Bool.not_false]
    exact hL2
  | true =>
    have d2 : cellsAt w2 ⟨w.heap.size, 0, none⟩ 0 2 = some [rv, .bool p.els] := hP2.cellsAt
    simp -dsimp only [push_cast, Nat.reduceAdd, Nat.reduceLeDiff, Nat.reduceBEq, decide_true, ne_eq, eq_self, not_true_eq_false, not_false_eq_true, true_imp_iff, false_imp_iff, Int.reduceNe, Int.reduceEq, Int.reduceLT, Int.reduceLE, Bool.not_true, Bool.not_false, d2]
    refine ⟨fun hbig => hL2, fun hok => ?_⟩
    refine callK_of (writeR_c p (smallProg_len hsm) (fun h => by have := smallProg_bytes hsm h; omega) (fun _ => False) _ w2 (hv0.below hL2)) ?_
    rintro _ w3 ⟨rfl, hb3⟩
    have sz3 := hb3.size
    have hL3 := hL2.trans (hb3.mono hL2.size)
    have hP3 : Blk w3 w.heap.size 43 [rv, .bool p.els] := hP2.below hb3 hP2.lt
    have d3 : cellsAt w3 ⟨w.heap.size, 0, none⟩ 0 2 = some [rv, .bool p.els] := hP3.cellsAt
    have hpr := Bool.eq_false_or_eq_true (progRight p)
    have hex3 : ∃ (l : List UInt8) (e : Int) (ev : Value), (if progRight p = true then Value.tuple #[str (writeB p), .int .i64 0] else .tuple #[str [], .int .i64 1]) = .tuple #[str l, .int .i64 e] ∧
        (if progRight p = true then Value.tuple #[str (writeB p), .nilIface] else .tuple #[str [], .iface 33 (.int .i64 1)]) = .tuple #[str l, ev] ∧ ∀ w', Errs w' ev e (-1) := by
      rcases hpr with h | h
      · rw [if_pos h, if_pos h]
        exact ⟨_, _, _, rfl, rfl, fun w' => .inl ⟨rfl, rfl, rfl⟩⟩
      · rw [if_neg (by rw [h]; simp), if_neg (by rw [h]; simp)]
        exact ⟨_, _, _, rfl, rfl, fun w' => .inr (.bare 1)⟩
    obtain ⟨l3, e3, ev3, er3, ew3, herr3⟩ := hex3
    rw [er3]
    simp -dsimp only [push_cast, Nat.reduceAdd, Nat.reduceLeDiff, Nat.reduceBEq, decide_true, ne_eq, eq_self, not_true_eq_false, not_false_eq_true, true_imp_iff, false_imp_iff, Int.reduceNe, Int.reduceEq, Int.reduceLT, Int.reduceLE, Bool.not_true, Bool.not_false, d3]
    refine callK_of (write_c p (smallProg_len hsm) (fun h => by have := smallProg_bytes hsm h; omega) _ w3 (hv0.below hL3)) ?_
    rintro _ w4 ⟨rfl, hb4⟩
    have sz4 := hb4.size
    have hL4 := hL3.trans (hb4.mono hL3.size)
    rw [ew3]
    simp -dsimp only [push_cast, Nat.reduceAdd, Nat.reduceLeDiff, Nat.reduceBEq, decide_true, ne_eq, eq_self, not_true_eq_false, not_false_eq_true, true_imp_iff, false_imp_iff, Int.reduceNe, Int.reduceEq, Int.reduceLT, Int.reduceLE, Bool.not_true, Bool.not_false]
    refine callK_of (bare_c ev3 e3 (-1) e3 w4 (keptErr hL4 hE) (herr3 w4)) ?_
    rintro _ w5 ⟨rfl, hb5⟩
    have sz5 := hb5.size
    have hL5 := hL4.trans (hb5.mono hL4.size)
    rw [show decide (e3 = e3 ∧ (-1 : Int) = -1) = true from decide_eq_true ⟨rfl, rfl⟩]
    simp -dsimp only [push_cast, Nat.reduceAdd, Nat.reduceLeDiff, Nat.reduceBEq, decide_true, ne_eq, eq_self, not_true_eq_false, not_false_eq_true, true_imp_iff, false_imp_iff, Int.reduceNe, Int.reduceEq, Int.reduceLT, Int.reduceLE, Bool.not_true, Bool.not_false]
    refine callK_of (sum_c s (by omega) w5) ?_
    rintro _ w6 ⟨rfl, rfl⟩
    simp -dsimp only [push_cast, Nat.reduceAdd, Nat.reduceLeDiff, Nat.reduceBEq, decide_true, ne_eq, eq_self, not_true_eq_false, not_false_eq_true, true_imp_iff, false_imp_iff, Int.reduceNe, Int.reduceEq, Int.reduceLT, Int.reduceLE, Bool.not_true, Bool.not_false]
    refine callK_of (sumR_c s (by omega) w6) ?_
    rintro _ w7 ⟨rfl, rfl⟩
    simp -dsimp only [push_cast, Nat.reduceAdd, Nat.reduceLeDiff, Nat.reduceBEq, decide_true, ne_eq, eq_self, not_true_eq_false, not_false_eq_true, true_imp_iff, false_imp_iff, Int.reduceNe, Int.reduceEq, Int.reduceLT, Int.reduceLE, Bool.not_true, Bool.not_false]
    refine callK_of (parseR_c s (by omega) w7) ?_
    rintro r8 w8 ⟨hr8, hb8⟩
    have sz8 := hb8.size
    have hL8 := hL5.trans (hb8.mono hL5.size)
    have href := refParse_eq (s := s) (by omega)
    unfold ParsedR at hr8
    rw [href] at hr8
    cases hps : parseP s with
    | none =>
      rw [hps] at hr8
      subst hr8
      simp -dsimp only [push_cast, Nat.reduceAdd, Nat.reduceLeDiff, Nat.reduceBEq, decide_true, ne_eq, eq_self, not_true_eq_false, not_false_eq_true, true_imp_iff, false_imp_iff, Int.reduceNe, Int.reduceEq, Int.reduceLT, Int.reduceLE, Bool.not_true, Bool.not_false]
      refine allocK (z := [.slice none 0 0, .bool false]) (by kernel_rfl) ?_
      intro w9 hw9
      simp -dsimp only [push_cast, Nat.reduceAdd, Nat.reduceLeDiff, Nat.reduceBEq, decide_true]
      refine storeAgg (n := 2) (by kernel_rfl) hw9.blk rfl (by simp) (by simp [Value.oneCell']) ?_
      intro w10 hw10
      have sz9 := hw9.size
      have sz10 := hw10.size
      have hL10 : Below w.heap.size w w10 := hL8.trans ((hw9.below.mono hL8.size).trans (hw10.kept.below (by have := hL8.size; omega) (fun _ h => by have := hL8.size; omega)))
      have hB10 : Blk w10 w8.heap.size 43 [.slice none 0 0, .bool false] := hw10.blk
      simp -dsimp only [push_cast, Nat.reduceAdd, Nat.reduceLeDiff, Nat.reduceBEq, decide_true]
      refine callK_of (parse_c s (by omega) w10) ?_
      rintro r11 w11 ⟨hr11, hb11⟩
      have sz11 := hb11.size
      have hL11 := hL10.trans (hb11.mono hL10.size)
      unfold Parsed at hr11
      rw [hps] at hr11
      subst hr11
      simp -dsimp only [push_cast, Nat.reduceAdd, Nat.reduceLeDiff, Nat.reduceBEq, decide_true, ne_eq, eq_self, not_true_eq_false, not_false_eq_true, true_imp_iff, false_imp_iff, Int.reduceNe, Int.reduceEq, Int.reduceLT, Int.reduceLE, Bool.not_true, Bool.not_false]
      refine allocK (z := [.slice none 0 0, .bool false]) (by kernel_rfl) ?_
      intro w12 hw12
      simp -dsimp only [push_cast, Nat.reduceAdd, Nat.reduceLeDiff, Nat.reduceBEq, decide_true]
      refine storeAgg (n := 2) (by kernel_rfl) hw12.blk rfl (by simp) (by simp [Value.oneCell']) ?_
      intro w13 hw13
      have sz12 := hw12.size
      have sz13 := hw13.size
      have hb13 : Below w11.heap.size w11 w13 := hw12.below.trans (hw13.kept.below (by omega) (fun _ h => by omega))
      have hL13 : Below w.heap.size w w13 := hL11.trans (hb13.mono hL11.size)
      simp -dsimp only [push_cast, Nat.reduceAdd, Nat.reduceLeDiff, Nat.reduceBEq, decide_true]
      refine callK_of (bare_c _ 3 (-1) 3 w13 (keptErr hL13 hE) (.inr (.bare 3))) ?_
      rintro _ w14 ⟨rfl, hb14⟩
      have hL14 := hL13.trans (hb14.mono hL13.size)
      have c1 : cellsAt w14 ⟨w11.heap.size, 0, none⟩ 0 2 = some [.slice none 0 0, .bool false] := (Blk.below (e := 43) hw13.blk hb14 (by omega)).cellsAt
      have c2 : cellsAt w14 ⟨w8.heap.size, 0, none⟩ 0 2 = some [.slice none 0 0, .bool false] := (((hB10.below hb11 (by omega)).below hb13 (by omega)).below hb14 (by omega)).cellsAt
      rw [show decide ((3 : Int) = (3 : Int) ∧ (-1 : Int) = -1) = true from decide_eq_true ⟨rfl, rfl⟩]
      simp -dsimp only [push_cast, Nat.reduceAdd, Nat.reduceLeDiff, Nat.reduceBEq, decide_true, ne_eq, eq_self, not_true_eq_false, not_false_eq_true, true_imp_iff, false_imp_iff, Int.reduceNe, Int.reduceEq, Int.reduceLT, Int.reduceLE, Bool.not_true, Bool.not_false, c1, c2]
      refine callK_of (sameProgram_c ⟨[], false⟩ ⟨by simp, by simp⟩ (fun _ => False) (fun _ => False) _ _ w14 ⟨_, rfl, Sl.nil _ _ _ _ _ _⟩ ⟨_, rfl, Sl.nil _ _ _ _ _ _⟩) ?_
      rintro _ w15 ⟨rfl, hb15⟩
      simp -dsimp only [push_cast, Nat.reduceAdd, Nat.reduceLeDiff, Nat.reduceBEq, decide_true, ne_eq, eq_self, not_true_eq_false, not_false_eq_true, true_imp_iff, false_imp_iff, Int.reduceNe, Int.reduceEq, Int.reduceLT, Int.reduceLE, Bool.not_true, Bool.not_false]
      exact hL14.trans (hb15.mono hL14.size)
    | some q =>
      rw [hps] at hr8
      obtain ⟨v8, rfl, hq8⟩ := hr8
      obtain ⟨qv, rfl, hqr⟩ := hq8
      have hqlen := parse_len hps (by omega)
      have hsh := hqr.shape
      obtain ⟨qa, qc, rfl, _⟩ := hsh
      simp -dsimp only [push_cast, Nat.reduceAdd, Nat.reduceLeDiff, Nat.reduceBEq, decide_true, ne_eq, eq_self, not_true_eq_false, not_false_eq_true, true_imp_iff, false_imp_iff, Int.reduceNe, Int.reduceEq, Int.reduceLT, Int.reduceLE, Bool.not_true, Bool.not_false]
      refine allocK (z := [.slice none 0 0, .bool false]) (by kernel_rfl) ?_
      intro w9 hw9
      simp -dsimp only [push_cast, Nat.reduceAdd, Nat.reduceLeDiff, Nat.reduceBEq, decide_true]
      refine storeAgg (n := 2) (by kernel_rfl) hw9.blk rfl (by simp) (by simp [Value.oneCell']) ?_
      intro w10 hw10
      have sz9 := hw9.size
      have sz10 := hw10.size
      have hb10 : Below w8.heap.size w8 w10 := hw9.below.trans (hw10.kept.below (by omega) (fun _ h => by omega))
      have hL10 : Below w.heap.size w w10 := hL8.trans (hb10.mono hL8.size)
      have hB10 : Blk w10 w8.heap.size 43 [.slice qa q.rules.length qc, .bool q.els] := hw10.blk
      simp -dsimp only [push_cast, Nat.reduceAdd, Nat.reduceLeDiff, Nat.reduceBEq, decide_true]
      refine callK_of (parse_c s (by omega) w10) ?_
      rintro r11 w11 ⟨hr11, hb11⟩
      have sz11 := hb11.size
      have hL11 := hL10.trans (hb11.mono hL10.size)
      unfold Parsed at hr11
      rw [hps] at hr11
      obtain ⟨v11, rfl, hq11⟩ := hr11
      obtain ⟨qv2, rfl, hqr2⟩ := hq11
      have hsh2 := hqr2.shape
      obtain ⟨qa2, qc2, rfl, _⟩ := hsh2
      simp -dsimp only [push_cast, Nat.reduceAdd, Nat.reduceLeDiff, Nat.reduceBEq, decide_true, ne_eq, eq_self, not_true_eq_false, not_false_eq_true, true_imp_iff, false_imp_iff, Int.reduceNe, Int.reduceEq, Int.reduceLT, Int.reduceLE, Bool.not_true, Bool.not_false]
      refine allocK (z := [.slice none 0 0, .bool false]) (by kernel_rfl) ?_
      intro w12 hw12
      simp -dsimp only [push_cast, Nat.reduceAdd, Nat.reduceLeDiff, Nat.reduceBEq, decide_true]
      refine storeAgg (n := 2) (by kernel_rfl) hw12.blk rfl (by simp) (by simp [Value.oneCell']) ?_
      intro w13 hw13
      have sz12 := hw12.size
      have sz13 := hw13.size
      have hb13 : Below w11.heap.size w11 w13 := hw12.below.trans (hw13.kept.below (by omega) (fun _ h => by omega))
      have hL13 : Below w.heap.size w w13 := hL11.trans (hb13.mono hL11.size)
      simp -dsimp only [push_cast, Nat.reduceAdd, Nat.reduceLeDiff, Nat.reduceBEq, decide_true]
      refine callK_of (bare_c _ 0 (-1) 0 w13 (keptErr hL13 hE) (.inl ⟨rfl, rfl, rfl⟩)) ?_
      rintro _ w14 ⟨rfl, hb14⟩
      have hL14 := hL13.trans (hb14.mono hL13.size)
      have c1 : cellsAt w14 ⟨w11.heap.size, 0, none⟩ 0 2 = some [.slice qa2 q.rules.length qc2, .bool q.els] := (Blk.below (e := 43) hw13.blk hb14 (by omega)).cellsAt
      have c2 : cellsAt w14 ⟨w8.heap.size, 0, none⟩ 0 2 = some [.slice qa q.rules.length qc, .bool q.els] := (((hB10.below hb11 (by omega)).below hb13 (by omega)).below hb14 (by omega)).cellsAt
      have hq14 : ProgV (fun j => j < w7.heap.size) w14 (.agg #[.slice qa q.rules.length qc, .bool q.els]) q := (((ProgV.below ⟨_, rfl, hqr⟩ hb10).below hb11).below hb13).below hb14
      have hq14' : ProgV (fun j => j < w10.heap.size) w14 (.agg #[.slice qa2 q.rules.length qc2, .bool q.els]) q := (ProgV.below ⟨_, rfl, hqr2⟩ hb13).below hb14
      rw [show decide ((0 : Int) = (0 : Int) ∧ (-1 : Int) = -1) = true from decide_eq_true ⟨rfl, rfl⟩]
      simp -dsimp only [push_cast, Nat.reduceAdd, Nat.reduceLeDiff, Nat.reduceBEq, decide_true, ne_eq, eq_self, not_true_eq_false, not_false_eq_true, true_imp_iff, false_imp_iff, Int.reduceNe, Int.reduceEq, Int.reduceLT, Int.reduceLE, Bool.not_true, Bool.not_false, c1, c2]
      refine callK_of (sameProgram_c q hqlen _ _ _ _ w14 hq14' hq14) ?_
      rintro _ w15 ⟨rfl, hb15⟩
      simp -dsimp only [push_cast, Nat.reduceAdd, Nat.reduceLeDiff, Nat.reduceBEq, decide_true, ne_eq, eq_self, not_true_eq_false, not_false_eq_true, true_imp_iff, false_imp_iff, Int.reduceNe, Int.reduceEq, Int.reduceLT, Int.reduceLE, Bool.not_true, Bool.not_false]
      exact hL14.trans (hb15.mono hL14.size)
end Go.Proofs.YtimjpijbcnjaaaaDoor
