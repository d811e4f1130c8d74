import Derived.Test.YtimjpijbcnjaaaaDoorBr3
import Derived.Test.YtimjpijbcnjaaaaDoorImrB
import Derived.Test.YtimjpijbcnjaaaaDoorV
namespace Go.Proofs.YtimjpijbcnjaaaaDoor
open Go.Vc Go.Proofs Go.RowKit Cae
set_option maxRecDepth 100000
set_option linter.unusedSimpArgs false
set_option linter.unusedVariables false
attribute [local irreducible] wpL callK valK unitK runK Fun Sl Own vc vcOps opK pureK
set_option maxHeartbeats 8000000
attribute [local irreducible] breaksP codeRight progRight vmatch

theorem vmMatches_c (c : CodeP) (p : ProgP) (ps : List Int) (X Xp Xl : Nat → Prop) (v pv lv : Value) (w : World) (hE : ErrVar w) (hv : CodeV X w v c) (hpv : ProgV Xp w pv p) (hlv : Sl Xl 1 (En encI) w lv ps) (hal : Arg lv) :
    Fun Tryd.prog 4 [v, pv, lv] w fun r w' => r = .bool true ∧ Below w.heap.size w w' := by
  have hv0 := hv
  have hpv0 := hpv
  obtain ⟨sv, iv, rfl, hsv, hiv⟩ := hv
  obtain ⟨rv, rfl, hr⟩ := hpv
  obtain ⟨la, lc, rfl, hlc⟩ := hlv.shape
  refine fun_of_vc Tryd.func4 rfl (by kernel_rfl) [6] rfl ?_
  simp -dsimp only [push_cast, fr0, Tryd.ntmps4, List.length_cons, List.length_nil, Nat.reduceAdd, Nat.reduceSub, Nat.reduceBEq, List.replicate_succ, List.replicate_zero]
  refine boxK_of ?_
  intro wa hwa
  have hwa : New w wa 25 [sv, iv] := hwa
  have sza := hwa.size
  simp -dsimp only [push_cast, Nat.reduceAdd, Nat.reduceLeDiff, Nat.reduceBEq, decide_true, ne_eq, eq_self, not_true_eq_false, not_false_eq_true, true_imp_iff, false_imp_iff, Int.reduceNe, Int.reduceEq, Int.reduceLT, Int.reduceLE, Bool.not_true, Bool.not_false]
  refine boxK_of ?_
  intro w1 hw1
  have hw1 : New wa w1 43 [rv, .bool p.els] := hw1
  have sz1 := hw1.size
  have hL1 : Below w.heap.size w w1 := hwa.below.trans (hw1.below.mono (by omega))
  have hC1 : Blk w1 w.heap.size 25 [sv, iv] := hwa.blk.below hw1.below (by omega)
  have hP1 : Blk w1 wa.heap.size 43 [rv, .bool p.els] := hw1.blk
  have d1 := hC1.cellsAt
  simp only [List.length_cons, List.length_nil, Nat.zero_add, Nat.reduceAdd] at d1
  simp -dsimp only [push_cast, Nat.reduceAdd, Nat.reduceLeDiff, Nat.reduceBEq, decide_true, ne_eq, eq_self, not_true_eq_false, not_false_eq_true, true_imp_iff, false_imp_iff, Int.reduceNe, Int.reduceEq, Int.reduceLT, Int.reduceLE, Bool.not_true, Bool.not_false, d1]
  refine callK_of (lsmall_c c X _ w1 (hv0.below hL1)) ?_
  rintro _ w2 ⟨rfl, hb2⟩
  have sz2 := hb2.size
  have hL2 := hL1.trans (hb2.mono (by omega))
  have hC2 := hC1.below hb2 (by omega)
  have hP2 := hP1.below hb2 (by omega)
  cases hsm : smallP c with
  | false =>
    simp -dsimp only [push_cast, Nat.reduceAdd, Nat.reduceLeDiff, Nat.reduceBEq, decide_true, ne_eq, eq_self, not_true_eq_false, not_false_eq_true, true_imp_iff, false_imp_iff, Int.reduceNe, Int.reduceEq, Int.reduceLT, Int.reduceLE, Bool.not_true, Bool.not_false]
    exact hL2
  | true =>
    have d2 := hP2.cellsAt
    simp only [List.length_cons, List.length_nil, Nat.zero_add, Nat.reduceAdd] at d2
    simp -dsimp only [push_cast, Nat.reduceAdd, Nat.reduceLeDiff, Nat.reduceBEq, decide_true, ne_eq, eq_self, not_true_eq_false, not_false_eq_true, true_imp_iff, false_imp_iff, Int.reduceNe, Int.reduceEq, Int.reduceLT, Int.reduceLE, Bool.not_true, Bool.not_false, d2]
    refine callK_of (lsmallProgram_c p Xp _ w2 (hpv0.below hL2)) ?_
    rintro _ w3 ⟨rfl, hb3⟩
    have sz3 := hb3.size
    have hL3 := hL2.trans (hb3.mono (by omega))
    have hC3 := hC2.below hb3 (by omega)
    have hP3 := hP2.below hb3 (by omega)
    cases hsp : smallProgP p with
    | false =>
      simp -dsimp only [push_cast, Nat.reduceAdd, Nat.reduceLeDiff, Nat.reduceBEq, decide_true, ne_eq, eq_self, not_true_eq_false, not_false_eq_true, true_imp_iff, false_imp_iff, Int.reduceNe, Int.reduceEq, Int.reduceLT, Int.reduceLE, Bool.not_true, Bool.not_false]
      exact hL3
    | true =>
      have d3 := hC3.cellsAt
      simp only [List.length_cons, List.length_nil, Nat.zero_add, Nat.reduceAdd] at d3
      simp -dsimp only [push_cast, Nat.reduceAdd, Nat.reduceLeDiff, Nat.reduceBEq, decide_true, ne_eq, eq_self, not_true_eq_false, not_false_eq_true, true_imp_iff, false_imp_iff, Int.reduceNe, Int.reduceEq, Int.reduceLT, Int.reduceLE, Bool.not_true, Bool.not_false, d3]
      refine ⟨fun hbig => hL3, fun hok => ?_⟩
      have hlc := small_lenC hsm
      obtain ⟨hsl, hil, hsl2⟩ := hlc
      have hcl : CodeLen c := ⟨hsl, by omega, by omega⟩
      have hpl := smallProg_len hsp
      have hex : ∃ (b : Bool) (m e : Int) (ev : Value), MatchRV c ps = .tuple #[.bool b, .int .i64 m, .int .i64 e] ∧ MatchV c ps = .tuple #[.bool b, .int .i64 m, ev] ∧ ∀ w', Errs w' ev e (-1) := by
        unfold MatchRV MatchV
        cases hR : codeRight c with
        | true => exact ⟨_, _, _, _, rfl, rfl, fun w' => .inl ⟨rfl, rfl, rfl⟩⟩
        | false => exact ⟨_, _, _, _, rfl, rfl, fun w' => .inr (.bare 1)⟩
      obtain ⟨mb, mm, me, mev, hRV, hMV, herr⟩ := hex
      refine callK_of (matchR_c c ps hcl (by omega) X Xl _ _ w3 (hv0.below hL3) (hlv.below hL3)) ?_
      rintro _ w4 ⟨rfl, hb4⟩
      rw [hRV]
      have sz4 := hb4.size
      have hL4 := hL3.trans (hb4.mono (by omega))
      have hC4 := hC3.below hb4 (by omega)
      have hP4 := hP3.below hb4 (by omega)
      have d4 := hC4.drew.cellsAt
      simp only [List.length_cons, List.length_nil, Nat.zero_add, Nat.reduceAdd] at d4
      simp -dsimp only [push_cast, Nat.reduceAdd, Nat.reduceLeDiff, Nat.reduceBEq, decide_true, ne_eq, eq_self, not_true_eq_false, not_false_eq_true, true_imp_iff, false_imp_iff, Int.reduceNe, Int.reduceEq, Int.reduceLT, Int.reduceLE, Bool.not_true, Bool.not_false]
      refine wpL_draw (fun w' => Blk w' w.heap.size 25 [sv, iv] ∧ Blk w' wa.heap.size 43 [rv, .bool p.els]) mixed (by kernel_rfl) ⟨hC4.drew, hP4.drew⟩ ?_
      simp -dsimp only [push_cast, Nat.reduceAdd, Nat.reduceLeDiff, Nat.reduceBEq, decide_true, ne_eq, eq_self, not_true_eq_false, not_false_eq_true, true_imp_iff, false_imp_iff, Int.reduceNe, Int.reduceEq, Int.reduceLT, Int.reduceLE, Bool.not_true, Bool.not_false, d4]
      refine ⟨fun w'' hC => optBlks hC.1 rfl rfl, ?_⟩
      have hC4d : Blk w4.drew w.heap.size 25 [sv, iv] := hC4.drew
      have hP4d : Blk w4.drew wa.heap.size 43 [rv, .bool p.els] := hP4.drew
      have hL4d : Below w.heap.size w w4.drew := hL4.drew
      refine rowK elI_26 rfl rfl (by omega) ?_
      intro w5 hw5
      have ho5 := hw5.own (base := w4.drew.heap.size) (k := 1) (n := 0) (enc := encI) (l := []) rfl rfl (fun _ => rfl) (Nat.le_refl _) (by omega)
      have sz5 : w5.heap.size = w4.heap.size + 1 := hw5.size
      have hL5 : Below w.heap.size w w5 := hL4d.trans (hw5.below.mono (by show w.heap.size ≤ w4.heap.size; omega))
      have hC5 : Blk w5 w.heap.size 25 [sv, iv] := hC4d.below hw5.below (by show w.heap.size < w4.heap.size; omega)
      have hP5 : Blk w5 wa.heap.size 43 [rv, .bool p.els] := hP4d.below hw5.below (by show wa.heap.size < w4.heap.size; omega)
      refine ⟨⟨hC5, hP5⟩, ?_⟩
      simp -dsimp only [push_cast, Nat.reduceAdd, Nat.reduceLeDiff, Nat.reduceBEq, decide_true, ne_eq, eq_self, not_true_eq_false, not_false_eq_true, true_imp_iff, false_imp_iff, Int.reduceNe, Int.reduceEq, Int.reduceLT, Int.reduceLE, Bool.not_true, Bool.not_false]
      refine appendAny (base := w4.drew.heap.size) (enc := encI) (ys := ps) elI_26 ho5 (hlv.below hL5) hal encI_one (by simp only [List.length_nil]; omega) (by show w4.heap.size ≤ w5.heap.size; omega) ?_
      intro v6 w6 ho6 hg6 hb6
      rw [List.nil_append] at ho6
      have hb6' : Below w4.heap.size w5 w6 := hb6
      have sz6 := hb6'.size
      have hL6 := hL5.trans (hb6'.mono (by omega))
      have hC6 := hC5.below hb6' (by omega)
      have hP6 := hP5.below hb6' (by omega)
      refine ⟨⟨hC6, hP6⟩, ?_⟩
      have hsh := ho6.sl.shape
      obtain ⟨a6, c6, e6, _⟩ := hsh
      have har6 : Arg v6 := ho6.nilArg
      simp -dsimp only [push_cast, Nat.reduceAdd, Nat.reduceLeDiff, Nat.reduceBEq, decide_true, ne_eq, eq_self, not_true_eq_false, not_false_eq_true, true_imp_iff, false_imp_iff, Int.reduceNe, Int.reduceEq, Int.reduceLT, Int.reduceLE, Bool.not_true, Bool.not_false]
      refine callK_of (match_c c ps hsl (by omega) (by omega) (by omega) X _ _ _ w6 (hv0.below hL6) ho6.sl) ?_
      rintro _ w7 ⟨rfl, hb7⟩
      rw [hMV]
      have sz7 := hb7.size
      have hL7 := hL6.trans (hb7.mono (by omega))
      have hC7 := hC6.below hb7 (by omega)
      have hP7 := hP6.below hb7 (by omega)
      refine ⟨⟨hC7, hP7⟩, ?_⟩
      simp -dsimp only [push_cast, Nat.reduceAdd, Nat.reduceLeDiff, Nat.reduceBEq, decide_true, ne_eq, eq_self, not_true_eq_false, not_false_eq_true, true_imp_iff, false_imp_iff, Int.reduceNe, Int.reduceEq, Int.reduceLT, Int.reduceLE, Bool.not_true, Bool.not_false]
      refine wpL_draw (fun w' => Blk w' w.heap.size 25 [sv, iv] ∧ Blk w' wa.heap.size 43 [rv, .bool p.els]) mixed (by kernel_rfl) ⟨hC7.drew, hP7.drew⟩ ?_
      simp -dsimp only [push_cast, Nat.reduceAdd, Nat.reduceLeDiff, Nat.reduceBEq, decide_true, ne_eq, eq_self, not_true_eq_false, not_false_eq_true, true_imp_iff, false_imp_iff, Int.reduceNe, Int.reduceEq, Int.reduceLT, Int.reduceLE, Bool.not_true, Bool.not_false]
      refine callK_of (bare_c mev me (-1) me w7.drew (keptErr hL7.drew hE) (herr _)) ?_
      rintro _ w8 ⟨rfl, hb8⟩
      have hb8' : Below w7.heap.size w7 w8 := (Below.refl _ _).drew.trans hb8
      have sz8 := hb8'.size
      have hL8 := hL7.trans (hb8'.mono (by omega))
      have hC8 := hC7.below hb8' (by omega)
      have hP8 := hP7.below hb8' (by omega)
      refine ⟨⟨hC8, hP8⟩, ?_⟩
      rw [show decide (me = me ∧ (-1 : Int) = -1) = true from decide_eq_true ⟨rfl, rfl⟩]
      have d8 := hC8.cellsAt
      simp only [List.length_cons, List.length_nil, Nat.zero_add, Nat.reduceAdd] at d8
      simp -dsimp only [push_cast, Nat.reduceAdd, Nat.reduceLeDiff, Nat.reduceBEq, decide_true, ne_eq, eq_self, not_true_eq_false, not_false_eq_true, true_imp_iff, false_imp_iff, Int.reduceNe, Int.reduceEq, Int.reduceLT, Int.reduceLE, Bool.not_true, Bool.not_false, d8, beq_self_eq_true]
      refine ⟨fun w'' hC => optBlks hC.1 rfl rfl, ?_⟩
      refine callK_of (Right_c c hsl (by omega) (by omega) X _ w8 (hv0.below hL8)) ?_
      rintro _ w9 ⟨rfl, hb9⟩
      have sz9 := hb9.size
      have hL9 := hL8.trans (hb9.mono (by omega))
      have hC9 := hC8.below hb9 (by omega)
      have hP9 := hP8.below hb9 (by omega)
      refine ⟨⟨hC9, hP9⟩, ?_⟩
      have d9 := hC9.cellsAt
      simp only [List.length_cons, List.length_nil, Nat.zero_add, Nat.reduceAdd] at d9
      simp -dsimp only [push_cast, Nat.reduceAdd, Nat.reduceLeDiff, Nat.reduceBEq, decide_true, ne_eq, eq_self, not_true_eq_false, not_false_eq_true, true_imp_iff, false_imp_iff, Int.reduceNe, Int.reduceEq, Int.reduceLT, Int.reduceLE, Bool.not_true, Bool.not_false, d9]
      refine ⟨fun w'' hC => optBlks hC.1 rfl rfl, ?_⟩
      refine callK_of (rightCodeR_c c hcl X _ w9 (hv0.below hL9)) ?_
      rintro _ w10 ⟨rfl, hb10⟩
      have sz10 := hb10.size
      have hL10 := hL9.trans (hb10.mono (by omega))
      have hC10 := hC9.below hb10 (by omega)
      have hP10 := hP9.below hb10 (by omega)
      refine ⟨⟨hC10, hP10⟩, ?_⟩
      have d10 := hP10.cellsAt
      simp only [List.length_cons, List.length_nil, Nat.zero_add, Nat.reduceAdd] at d10
      simp -dsimp only [push_cast, Nat.reduceAdd, Nat.reduceLeDiff, Nat.reduceBEq, decide_true, ne_eq, eq_self, not_true_eq_false, not_false_eq_true, true_imp_iff, false_imp_iff, Int.reduceNe, Int.reduceEq, Int.reduceLT, Int.reduceLE, Bool.not_true, Bool.not_false, d10, beq_self_eq_true]
      refine ⟨fun w'' hC => optBlks hC.2 rfl rfl, ?_⟩
      refine callK_of (rightProgram_c p hpl Xp _ w10 (hpv0.below hL10)) ?_
      rintro _ w11 ⟨rfl, hb11⟩
      have sz11 := hb11.size
      have hL11 := hL10.trans (hb11.mono (by omega))
      have hC11 := hC10.below hb11 (by omega)
      have hP11 := hP10.below hb11 (by omega)
      refine ⟨⟨hC11, hP11⟩, ?_⟩
      have d11 := hP11.cellsAt
      simp only [List.length_cons, List.length_nil, Nat.zero_add, Nat.reduceAdd] at d11
      simp -dsimp only [push_cast, Nat.reduceAdd, Nat.reduceLeDiff, Nat.reduceBEq, decide_true, ne_eq, eq_self, not_true_eq_false, not_false_eq_true, true_imp_iff, false_imp_iff, Int.reduceNe, Int.reduceEq, Int.reduceLT, Int.reduceLE, Bool.not_true, Bool.not_false, d11]
      refine ⟨fun w'' hC => optBlks hC.2 rfl rfl, ?_⟩
      refine callK_of (rightProgramR_c p hpl Xp _ w11 (hpv0.below hL11)) ?_
      rintro _ w12 ⟨rfl, hb12⟩
      have sz12 := hb12.size
      have hL12 := hL11.trans (hb12.mono (by omega))
      have hC12 := hC11.below hb12 (by omega)
      have hP12 := hP11.below hb12 (by omega)
      refine ⟨⟨hC12, hP12⟩, ?_⟩
      have d12 := hP12.cellsAt
      simp only [List.length_cons, List.length_nil, Nat.zero_add, Nat.reduceAdd] at d12
      simp -dsimp only [push_cast, Nat.reduceAdd, Nat.reduceLeDiff, Nat.reduceBEq, decide_true, ne_eq, eq_self, not_true_eq_false, not_false_eq_true, true_imp_iff, false_imp_iff, Int.reduceNe, Int.reduceEq, Int.reduceLT, Int.reduceLE, Bool.not_true, Bool.not_false, d12, beq_self_eq_true]
      refine callK_of (run_c p ps hpl (by omega) Xp Xl _ _ w12 (hpv0.below hL12) (hlv.below hL12)) ?_
      rintro r13 w13 ⟨hr13, hb13⟩
      have sz13 := hb13.size
      have hL13 := hL12.trans (hb13.mono (by omega))
      have hC13 := hC12.below hb13 (by omega)
      have hP13 := hP12.below hb13 (by omega)
      have hex : ∃ (u : Value) (l : List Nat) (e : Int) (ev : Value), r13 = .tuple #[u, .int .i64 e] ∧ l.length ≤ 1000 ∧ Own w12.heap.size 3 1 encN w13 u l ∧ (∀ w', Errs w' ev e (-1)) ∧ ∀ (r : Value) (w1 w2 : World), (if progRight p = true then ∃ u, r = .tuple #[u, .nilIface] ∧ Own w1.heap.size 3 1 encN w2 u (breaksP p ps) else r = .tuple #[.slice none 0 0, .iface 33 (.int .i64 1)]) → ∃ u', r = .tuple #[u', ev] ∧ Own w1.heap.size 3 1 encN w2 u' l := by
        cases hR : progRight p with
        | true =>
          rw [hR] at hr13
          obtain ⟨u, rfl, hu⟩ := hr13
          refine ⟨u, _, 0, .nilIface, rfl, ?_, hu, fun w' => .inl ⟨rfl, rfl, rfl⟩, fun r w1 w2 h => h⟩
          unfold breaksP
          split
          · simp
          · have := breaksTo_len p ps (ps.length + 1)
            omega
        | false =>
          rw [hR] at hr13
          have hr13 : r13 = _ := hr13
          refine ⟨_, [], 1, _, hr13, by simp, Own.nil (enc := encN) _ _ (fun _ => rfl) _, fun w' => .inr (.bare 1), fun r w1 w2 h => ⟨_, h, Own.nil (enc := encN) _ _ (fun _ => rfl) _⟩⟩
      obtain ⟨u13, bl, be, bev, rfl, hbl, ho13, hberr, hback⟩ := hex
      simp -dsimp only [push_cast, Nat.reduceAdd, Nat.reduceLeDiff, Nat.reduceBEq, decide_true, ne_eq, eq_self, not_true_eq_false, not_false_eq_true, true_imp_iff, false_imp_iff, Int.reduceNe, Int.reduceEq, Int.reduceLT, Int.reduceLE, Bool.not_true, Bool.not_false]
      refine wpL_draw (fun w' => Blk w' w.heap.size 25 [sv, iv] ∧ Blk w' wa.heap.size 43 [rv, .bool p.els]) mixed (by kernel_rfl) ⟨hC13.drew, hP13.drew⟩ ?_
      have d13 := hP13.drew.cellsAt
      simp only [List.length_cons, List.length_nil, Nat.zero_add, Nat.reduceAdd] at d13
      simp -dsimp only [push_cast, Nat.reduceAdd, Nat.reduceLeDiff, Nat.reduceBEq, decide_true, ne_eq, eq_self, not_true_eq_false, not_false_eq_true, true_imp_iff, false_imp_iff, Int.reduceNe, Int.reduceEq, Int.reduceLT, Int.reduceLE, Bool.not_true, Bool.not_false, d13]
      refine ⟨fun w'' hC => optBlks hC.2 rfl rfl, ?_⟩
      have hC13d : Blk w13.drew w.heap.size 25 [sv, iv] := hC13.drew
      have hP13d : Blk w13.drew wa.heap.size 43 [rv, .bool p.els] := hP13.drew
      have hL13d : Below w.heap.size w w13.drew := hL13.drew
      refine rowK elI_26 rfl rfl (by omega) ?_
      intro w14 hw14
      have ho14 := hw14.own (base := w13.drew.heap.size) (k := 1) (n := 0) (enc := encI) (l := []) rfl rfl (fun _ => rfl) (Nat.le_refl _) (by omega)
      have sz14 : w14.heap.size = w13.heap.size + 1 := hw14.size
      have hL14 : Below w.heap.size w w14 := hL13d.trans (hw14.below.mono (by show w.heap.size ≤ w13.heap.size; omega))
      have hC14 : Blk w14 w.heap.size 25 [sv, iv] := hC13d.below hw14.below (by show w.heap.size < w13.heap.size; omega)
      have hP14 : Blk w14 wa.heap.size 43 [rv, .bool p.els] := hP13d.below hw14.below (by show wa.heap.size < w13.heap.size; omega)
      refine ⟨⟨hC14, hP14⟩, ?_⟩
      simp -dsimp only [push_cast, Nat.reduceAdd, Nat.reduceLeDiff, Nat.reduceBEq, decide_true, ne_eq, eq_self, not_true_eq_false, not_false_eq_true, true_imp_iff, false_imp_iff, Int.reduceNe, Int.reduceEq, Int.reduceLT, Int.reduceLE, Bool.not_true, Bool.not_false]
      refine appendAny (base := w13.drew.heap.size) (enc := encI) (ys := ps) elI_26 ho14 (hlv.below hL14) hal encI_one (by simp only [List.length_nil]; omega) (by show w13.heap.size ≤ w14.heap.size; omega) ?_
      intro v15 w15 ho15 hg15 hb15
      rw [List.nil_append] at ho15
      have hb15' : Below w13.heap.size w14 w15 := hb15
      have sz15 := hb15'.size
      have hL15 := hL14.trans (hb15'.mono (by omega))
      have hC15 := hC14.below hb15' (by omega)
      have hP15 := hP14.below hb15' (by omega)
      refine ⟨⟨hC15, hP15⟩, ?_⟩
      have hsh := ho15.sl.shape
      obtain ⟨a15, c15, e15, _⟩ := hsh
      have har15 : Arg v15 := ho15.nilArg
      simp -dsimp only [push_cast, Nat.reduceAdd, Nat.reduceLeDiff, Nat.reduceBEq, decide_true, ne_eq, eq_self, not_true_eq_false, not_false_eq_true, true_imp_iff, false_imp_iff, Int.reduceNe, Int.reduceEq, Int.reduceLT, Int.reduceLE, Bool.not_true, Bool.not_false]
      refine callK_of (breaks_c p ps hpl (by omega) Xp _ _ _ w15 (hpv0.below hL15) ho15.sl har15) ?_
      rintro r16 w16 ⟨hr16, hb16⟩
      have h := hback r16 w15 w16 hr16
      obtain ⟨u16, rfl, ho16⟩ := h
      have sz16 := hb16.size
      have hL16 := hL15.trans (hb16.mono (by omega))
      have hC16 := hC15.below hb16 (by omega)
      have hP16 := hP15.below hb16 (by omega)
      refine ⟨⟨hC16, hP16⟩, ?_⟩
      simp -dsimp only [push_cast, Nat.reduceAdd, Nat.reduceLeDiff, Nat.reduceBEq, decide_true, ne_eq, eq_self, not_true_eq_false, not_false_eq_true, true_imp_iff, false_imp_iff, Int.reduceNe, Int.reduceEq, Int.reduceLT, Int.reduceLE, Bool.not_true, Bool.not_false]
      refine callK_of (bare_c bev be (-1) be w16 (keptErr hL16 hE) (hberr _)) ?_
      rintro _ w17 ⟨rfl, hb17⟩
      have sz17 := hb17.size
      have hL17 := hL16.trans (hb17.mono (by omega))
      rw [show decide (be = be ∧ (-1 : Int) = -1) = true from decide_eq_true ⟨rfl, rfl⟩]
      simp -dsimp only [push_cast, Nat.reduceAdd, Nat.reduceLeDiff, Nat.reduceBEq, decide_true, ne_eq, eq_self, not_true_eq_false, not_false_eq_true, true_imp_iff, false_imp_iff, Int.reduceNe, Int.reduceEq, Int.reduceLT, Int.reduceLE, Bool.not_true, Bool.not_false]
      have hx14 : Below w13.heap.size w13 w14 := (Below.refl _ _).drew.trans (show Below w13.heap.size w13.drew w14 from hw14.below)
      have ho13' : Own w12.heap.size 3 1 encN w17 u13 bl := ho13.below (((hx14.trans hb15').trans (hb16.mono (by omega))).trans (hb17.mono (by omega)))
      refine callK_of (sameInts_c bl bl (by omega) _ _ u16 u13 w17 (ho16.below hb17).sl ho13'.sl) ?_
      rintro _ w18 ⟨rfl, hb18⟩
      rw [decide_eq_true rfl]
      simp -dsimp only [push_cast, Nat.reduceAdd, Nat.reduceLeDiff, Nat.reduceBEq, decide_true, ne_eq, eq_self, not_true_eq_false, not_false_eq_true, true_imp_iff, false_imp_iff, Int.reduceNe, Int.reduceEq, Int.reduceLT, Int.reduceLE, Bool.not_true, Bool.not_false]
      exact hL17.trans (hb18.mono (by omega))
end Go.Proofs.YtimjpijbcnjaaaaDoor
