import Derived.Test.YthmkbjmkpdjgjaaDoorSlaw
namespace Go.Proofs.YthmkbjmkpdjgjaaDoor
open Go.Vc Go.Proofs Go.RowKit Cae
set_option maxRecDepth 100000
set_option linter.unusedSimpArgs false
set_option linter.unusedVariables false
attribute [local irreducible] wpL callK valK unitK runK Fun Sl Own vc vcOps opK pureK
set_option maxHeartbeats 8000000

theorem setLaws_c (la lb lc : List Rg) (p : Int) (X : Nat → Prop) (va vb vc : Value) (w : World) (hva : Sl X 2 (En encR) w va la) (hvb : Sl X 2 (En encR) w vb lb) (hvc : Sl X 2 (En encR) w vc lc) (aa : Arg va) (ab : Arg vb) (ac : Arg vc) (hd : Db w) :
    Fun Tryd.prog 3 [va, vb, vc, .int .i64 p] w fun r w' => r = .bool true ∧ Below w.heap.size w w' := by
  obtain ⟨a1, c1, rfl, hc1⟩ := hva.shape
  obtain ⟨a2, c2, rfl, hc2⟩ := hvb.shape
  obtain ⟨a3, c3, rfl, hc3⟩ := hvc.shape
  refine fun_of_vc Tryd.func3 rfl (by kernel_rfl) [8] rfl ?_
  simp -dsimp only [push_cast, fr0, Tryd.ntmps3, List.length_cons, List.length_nil, Nat.reduceAdd, Nat.reduceSub, Nat.reduceBEq, List.replicate_succ, List.replicate_zero]
  refine boxK_of ?_
  intro w0 hw0
  have sz0 := hw0.size
  have hb0 := hw0.below
  simp -dsimp only [push_cast, Nat.reduceAdd, Nat.reduceLeDiff, Nat.reduceBEq, decide_true, ne_eq, eq_self, not_true_eq_false, not_false_eq_true, true_imp_iff, false_imp_iff, Int.reduceNe, Int.reduceEq, Int.reduceLT, Int.reduceLE, Bool.not_true, Bool.not_false]
  refine ⟨fun na => ⟨fun nb => ⟨fun _ => hb0, fun nc => ?_⟩, fun _ => hb0⟩, fun _ => hb0⟩
  have ra := setOf_right la
  have rb := setOf_right lb
  have rc := setOf_right lc
  refine callK_of (merged_c w0 (hd.below hb0 hd.lt)) ?_
  rintro _ w1 ⟨rfl, b1⟩
  simp -dsimp only [push_cast, Nat.reduceAdd, Nat.reduceLeDiff, Nat.reduceBEq, decide_true, ne_eq, eq_self, not_true_eq_false, not_false_eq_true, true_imp_iff, false_imp_iff, Int.reduceNe, Int.reduceEq, Int.reduceLT, Int.reduceLE, Bool.not_true, Bool.not_false]
  refine callK_of (of_A (B := w0.heap.size) (n := 20) (l := la) (by omega) (hva.below (hb0.tr b1)) aa (by omega) b1.size) ?_
  rintro v2 w2 ⟨h2, b2⟩
  have G2 := (hb0.tr b1).tr b2
  simp -dsimp only [push_cast, Nat.reduceAdd, Nat.reduceLeDiff, Nat.reduceBEq, decide_true, ne_eq, eq_self, not_true_eq_false, not_false_eq_true, true_imp_iff, false_imp_iff, Int.reduceNe, Int.reduceEq, Int.reduceLT, Int.reduceLE, Bool.not_true, Bool.not_false]
  refine callK_of (of_A (B := w0.heap.size) (n := 20) (l := lb) (by omega) (hvb.below G2) ab (by omega) (b1.tr b2).size) ?_
  rintro v3 w3 ⟨h3, b3⟩
  have G3 := G2.tr b3
  simp -dsimp only [push_cast, Nat.reduceAdd, Nat.reduceLeDiff, Nat.reduceBEq, decide_true, ne_eq, eq_self, not_true_eq_false, not_false_eq_true, true_imp_iff, false_imp_iff, Int.reduceNe, Int.reduceEq, Int.reduceLT, Int.reduceLE, Bool.not_true, Bool.not_false]
  refine callK_of (of_A (B := w0.heap.size) (n := 20) (l := lc) (by omega) (hvc.below G3) ac (by omega) ((b1.tr b2).tr b3).size) ?_
  rintro v4 w4 ⟨hC, b4⟩
  have G4 := G3.tr b4
  have hA := h2.to (b3.tr b4)
  have hB := h3.to b4
  have B4 := Below.refl w4.heap.size w4
  simp -dsimp only [push_cast, Nat.reduceAdd, Nat.reduceLeDiff, Nat.reduceBEq, decide_true, ne_eq, eq_self, not_true_eq_false, not_false_eq_true, true_imp_iff, false_imp_iff, Int.reduceNe, Int.reduceEq, Int.reduceLT, Int.reduceLE, Bool.not_true, Bool.not_false]
  refine callK_of (or_A (hA.to B4) (hB.to B4) (by omega) (by omega)) ?_
  rintro v5 w5 ⟨h5, b5⟩
  have B5 := B4.tr b5
  simp -dsimp only [push_cast, Nat.reduceAdd, Nat.reduceLeDiff, Nat.reduceBEq, decide_true, ne_eq, eq_self, not_true_eq_false, not_false_eq_true, true_imp_iff, false_imp_iff, Int.reduceNe, Int.reduceEq, Int.reduceLT, Int.reduceLE, Bool.not_true, Bool.not_false]
  refine callK_of (not_A h5 (by omega)) ?_
  rintro v6 w6 ⟨h6, b6⟩
  have B6 := B5.tr b6
  simp -dsimp only [push_cast, Nat.reduceAdd, Nat.reduceLeDiff, Nat.reduceBEq, decide_true, ne_eq, eq_self, not_true_eq_false, not_false_eq_true, true_imp_iff, false_imp_iff, Int.reduceNe, Int.reduceEq, Int.reduceLT, Int.reduceLE, Bool.not_true, Bool.not_false]
  refine callK_of (not_A (hA.to B6) (by omega)) ?_
  rintro v7 w7 ⟨h7, b7⟩
  have B7 := B6.tr b7
  simp -dsimp only [push_cast, Nat.reduceAdd, Nat.reduceLeDiff, Nat.reduceBEq, decide_true, ne_eq, eq_self, not_true_eq_false, not_false_eq_true, true_imp_iff, false_imp_iff, Int.reduceNe, Int.reduceEq, Int.reduceLT, Int.reduceLE, Bool.not_true, Bool.not_false]
  refine callK_of (not_A (hB.to B7) (by omega)) ?_
  rintro v8 w8 ⟨h8, b8⟩
  have B8 := B7.tr b8
  simp -dsimp only [push_cast, Nat.reduceAdd, Nat.reduceLeDiff, Nat.reduceBEq, decide_true, ne_eq, eq_self, not_true_eq_false, not_false_eq_true, true_imp_iff, false_imp_iff, Int.reduceNe, Int.reduceEq, Int.reduceLT, Int.reduceLE, Bool.not_true, Bool.not_false]
  refine callK_of (and_A (h7.to b8) h8 (by omega) (by omega)) ?_
  rintro v9 w9 ⟨h9, b9⟩
  have B9 := B8.tr b9
  simp -dsimp only [push_cast, Nat.reduceAdd, Nat.reduceLeDiff, Nat.reduceBEq, decide_true, ne_eq, eq_self, not_true_eq_false, not_false_eq_true, true_imp_iff, false_imp_iff, Int.reduceNe, Int.reduceEq, Int.reduceLT, Int.reduceLE, Bool.not_true, Bool.not_false]
  refine callK_of (same_A (h6.to ((b7.tr b8).tr b9)) h9 (law1 ra rb) (by omega)) ?_
  rintro _ w10 ⟨rfl, b10⟩
  have B10 := B9.tr b10
  simp -dsimp only [push_cast, Nat.reduceAdd, Nat.reduceLeDiff, Nat.reduceBEq, decide_true, ne_eq, eq_self, not_true_eq_false, not_false_eq_true, true_imp_iff, false_imp_iff, Int.reduceNe, Int.reduceEq, Int.reduceLT, Int.reduceLE, Bool.not_true, Bool.not_false]
  refine callK_of (less_A (hA.to B10) (hB.to B10) (by omega) (by omega)) ?_
  rintro v11 w11 ⟨h11, b11⟩
  have B11 := B10.tr b11
  simp -dsimp only [push_cast, Nat.reduceAdd, Nat.reduceLeDiff, Nat.reduceBEq, decide_true, ne_eq, eq_self, not_true_eq_false, not_false_eq_true, true_imp_iff, false_imp_iff, Int.reduceNe, Int.reduceEq, Int.reduceLT, Int.reduceLE, Bool.not_true, Bool.not_false]
  refine callK_of (not_A (hB.to B11) (by omega)) ?_
  rintro v12 w12 ⟨h12, b12⟩
  have B12 := B11.tr b12
  simp -dsimp only [push_cast, Nat.reduceAdd, Nat.reduceLeDiff, Nat.reduceBEq, decide_true, ne_eq, eq_self, not_true_eq_false, not_false_eq_true, true_imp_iff, false_imp_iff, Int.reduceNe, Int.reduceEq, Int.reduceLT, Int.reduceLE, Bool.not_true, Bool.not_false]
  refine callK_of (and_A (hA.to B12) h12 (by omega) (by omega)) ?_
  rintro v13 w13 ⟨h13, b13⟩
  have B13 := B12.tr b13
  simp -dsimp only [push_cast, Nat.reduceAdd, Nat.reduceLeDiff, Nat.reduceBEq, decide_true, ne_eq, eq_self, not_true_eq_false, not_false_eq_true, true_imp_iff, false_imp_iff, Int.reduceNe, Int.reduceEq, Int.reduceLT, Int.reduceLE, Bool.not_true, Bool.not_false]
  refine callK_of (same_A (h11.to (b12.tr b13)) h13 rfl (by omega)) ?_
  rintro _ w14 ⟨rfl, b14⟩
  have B14 := B13.tr b14
  simp -dsimp only [push_cast, Nat.reduceAdd, Nat.reduceLeDiff, Nat.reduceBEq, decide_true, ne_eq, eq_self, not_true_eq_false, not_false_eq_true, true_imp_iff, false_imp_iff, Int.reduceNe, Int.reduceEq, Int.reduceLT, Int.reduceLE, Bool.not_true, Bool.not_false]
  refine callK_of (not_A (hA.to B14) (by omega)) ?_
  rintro v15 w15 ⟨h15, b15⟩
  have B15 := B14.tr b15
  simp -dsimp only [push_cast, Nat.reduceAdd, Nat.reduceLeDiff, Nat.reduceBEq, decide_true, ne_eq, eq_self, not_true_eq_false, not_false_eq_true, true_imp_iff, false_imp_iff, Int.reduceNe, Int.reduceEq, Int.reduceLT, Int.reduceLE, Bool.not_true, Bool.not_false]
  refine callK_of (not_A h15 (by omega)) ?_
  rintro v16 w16 ⟨h16, b16⟩
  have B16 := B15.tr b16
  simp -dsimp only [push_cast, Nat.reduceAdd, Nat.reduceLeDiff, Nat.reduceBEq, decide_true, ne_eq, eq_self, not_true_eq_false, not_false_eq_true, true_imp_iff, false_imp_iff, Int.reduceNe, Int.reduceEq, Int.reduceLT, Int.reduceLE, Bool.not_true, Bool.not_false]
  refine callK_of (same_A h16 (hA.to B16) (law3 ra) (by omega)) ?_
  rintro _ w17 ⟨rfl, b17⟩
  have B17 := B16.tr b17
  simp -dsimp only [push_cast, Nat.reduceAdd, Nat.reduceLeDiff, Nat.reduceBEq, decide_true, ne_eq, eq_self, not_true_eq_false, not_false_eq_true, true_imp_iff, false_imp_iff, Int.reduceNe, Int.reduceEq, Int.reduceLT, Int.reduceLE, Bool.not_true, Bool.not_false]
  refine callK_of (or_A (hA.to B17) (hB.to B17) (by omega) (by omega)) ?_
  rintro v18 w18 ⟨h18, b18⟩
  have B18 := B17.tr b18
  simp -dsimp only [push_cast, Nat.reduceAdd, Nat.reduceLeDiff, Nat.reduceBEq, decide_true, ne_eq, eq_self, not_true_eq_false, not_false_eq_true, true_imp_iff, false_imp_iff, Int.reduceNe, Int.reduceEq, Int.reduceLT, Int.reduceLE, Bool.not_true, Bool.not_false]
  refine callK_of (or_A (hB.to B18) (hA.to B18) (by omega) (by omega)) ?_
  rintro v19 w19 ⟨h19, b19⟩
  have B19 := B18.tr b19
  simp -dsimp only [push_cast, Nat.reduceAdd, Nat.reduceLeDiff, Nat.reduceBEq, decide_true, ne_eq, eq_self, not_true_eq_false, not_false_eq_true, true_imp_iff, false_imp_iff, Int.reduceNe, Int.reduceEq, Int.reduceLT, Int.reduceLE, Bool.not_true, Bool.not_false]
  refine callK_of (same_A (h18.to b19) h19 (law4 ra rb) (by omega)) ?_
  rintro _ w20 ⟨rfl, b20⟩
  have B20 := B19.tr b20
  simp -dsimp only [push_cast, Nat.reduceAdd, Nat.reduceLeDiff, Nat.reduceBEq, decide_true, ne_eq, eq_self, not_true_eq_false, not_false_eq_true, true_imp_iff, false_imp_iff, Int.reduceNe, Int.reduceEq, Int.reduceLT, Int.reduceLE, Bool.not_true, Bool.not_false]
  refine callK_of (or_A (hB.to B20) (hC.to B20) (by omega) (by omega)) ?_
  rintro v21 w21 ⟨h21, b21⟩
  have B21 := B20.tr b21
  simp -dsimp only [push_cast, Nat.reduceAdd, Nat.reduceLeDiff, Nat.reduceBEq, decide_true, ne_eq, eq_self, not_true_eq_false, not_false_eq_true, true_imp_iff, false_imp_iff, Int.reduceNe, Int.reduceEq, Int.reduceLT, Int.reduceLE, Bool.not_true, Bool.not_false]
  refine callK_of (and_A (hA.to B21) h21 (by omega) (by omega)) ?_
  rintro v22 w22 ⟨h22, b22⟩
  have B22 := B21.tr b22
  simp -dsimp only [push_cast, Nat.reduceAdd, Nat.reduceLeDiff, Nat.reduceBEq, decide_true, ne_eq, eq_self, not_true_eq_false, not_false_eq_true, true_imp_iff, false_imp_iff, Int.reduceNe, Int.reduceEq, Int.reduceLT, Int.reduceLE, Bool.not_true, Bool.not_false]
  refine callK_of (and_A (hA.to B22) (hB.to B22) (by omega) (by omega)) ?_
  rintro v23 w23 ⟨h23, b23⟩
  have B23 := B22.tr b23
  simp -dsimp only [push_cast, Nat.reduceAdd, Nat.reduceLeDiff, Nat.reduceBEq, decide_true, ne_eq, eq_self, not_true_eq_false, not_false_eq_true, true_imp_iff, false_imp_iff, Int.reduceNe, Int.reduceEq, Int.reduceLT, Int.reduceLE, Bool.not_true, Bool.not_false]
  refine callK_of (and_A (hA.to B23) (hC.to B23) (by omega) (by omega)) ?_
  rintro v24 w24 ⟨h24, b24⟩
  have B24 := B23.tr b24
  simp -dsimp only [push_cast, Nat.reduceAdd, Nat.reduceLeDiff, Nat.reduceBEq, decide_true, ne_eq, eq_self, not_true_eq_false, not_false_eq_true, true_imp_iff, false_imp_iff, Int.reduceNe, Int.reduceEq, Int.reduceLT, Int.reduceLE, Bool.not_true, Bool.not_false]
  refine callK_of (or_A (h23.to b24) h24 (by omega) (by omega)) ?_
  rintro v25 w25 ⟨h25, b25⟩
  have B25 := B24.tr b25
  simp -dsimp only [push_cast, Nat.reduceAdd, Nat.reduceLeDiff, Nat.reduceBEq, decide_true, ne_eq, eq_self, not_true_eq_false, not_false_eq_true, true_imp_iff, false_imp_iff, Int.reduceNe, Int.reduceEq, Int.reduceLT, Int.reduceLE, Bool.not_true, Bool.not_false]
  refine callK_of (same_A (h22.to ((b23.tr b24).tr b25)) h25 (law5 ra rb rc) (by omega)) ?_
  rintro _ w26 ⟨rfl, b26⟩
  have B26 := B25.tr b26
  simp -dsimp only [push_cast, Nat.reduceAdd, Nat.reduceLeDiff, Nat.reduceBEq, decide_true, ne_eq, eq_self, not_true_eq_false, not_false_eq_true, true_imp_iff, false_imp_iff, Int.reduceNe, Int.reduceEq, Int.reduceLT, Int.reduceLE, Bool.not_true, Bool.not_false]
  refine callK_of (less_A (hA.to B26) (hB.to B26) (by omega) (by omega)) ?_
  rintro v27 w27 ⟨h27, b27⟩
  have B27 := B26.tr b27
  simp -dsimp only [push_cast, Nat.reduceAdd, Nat.reduceLeDiff, Nat.reduceBEq, decide_true, ne_eq, eq_self, not_true_eq_false, not_false_eq_true, true_imp_iff, false_imp_iff, Int.reduceNe, Int.reduceEq, Int.reduceLT, Int.reduceLE, Bool.not_true, Bool.not_false]
  refine callK_of (and_A (hA.to B27) (hB.to B27) (by omega) (by omega)) ?_
  rintro v28 w28 ⟨h28, b28⟩
  have B28 := B27.tr b28
  simp -dsimp only [push_cast, Nat.reduceAdd, Nat.reduceLeDiff, Nat.reduceBEq, decide_true, ne_eq, eq_self, not_true_eq_false, not_false_eq_true, true_imp_iff, false_imp_iff, Int.reduceNe, Int.reduceEq, Int.reduceLT, Int.reduceLE, Bool.not_true, Bool.not_false]
  refine callK_of (or_A (h27.to b28) h28 (by omega) (by omega)) ?_
  rintro v29 w29 ⟨h29, b29⟩
  have B29 := B28.tr b29
  simp -dsimp only [push_cast, Nat.reduceAdd, Nat.reduceLeDiff, Nat.reduceBEq, decide_true, ne_eq, eq_self, not_true_eq_false, not_false_eq_true, true_imp_iff, false_imp_iff, Int.reduceNe, Int.reduceEq, Int.reduceLT, Int.reduceLE, Bool.not_true, Bool.not_false]
  refine callK_of (same_A h29 (hA.to B29) (law6 ra rb) (by omega)) ?_
  rintro _ w30 ⟨rfl, b30⟩
  have B30 := B29.tr b30
  simp -dsimp only [push_cast, Nat.reduceAdd, Nat.reduceLeDiff, Nat.reduceBEq, decide_true, ne_eq, eq_self, not_true_eq_false, not_false_eq_true, true_imp_iff, false_imp_iff, Int.reduceNe, Int.reduceEq, Int.reduceLT, Int.reduceLE, Bool.not_true, Bool.not_false]
  refine callK_of (not_A (hA.to B30) (by omega)) ?_
  rintro v31 w31 ⟨h31, b31⟩
  have B31 := B30.tr b31
  simp -dsimp only [push_cast, Nat.reduceAdd, Nat.reduceLeDiff, Nat.reduceBEq, decide_true, ne_eq, eq_self, not_true_eq_false, not_false_eq_true, true_imp_iff, false_imp_iff, Int.reduceNe, Int.reduceEq, Int.reduceLT, Int.reduceLE, Bool.not_true, Bool.not_false]
  refine callK_of (and_A (hA.to B31) h31 (by omega) (by omega)) ?_
  rintro v32 w32 ⟨h32, b32⟩
  have B32 := B31.tr b32
  rw [law7 ra] at h32
  have hsh := h32.sl.shape
  obtain ⟨qa, qc, rfl, _⟩ := hsh
  simp -dsimp only [push_cast, Nat.reduceAdd, Nat.reduceLeDiff, Nat.reduceBEq, decide_true, ne_eq, eq_self, not_true_eq_false, not_false_eq_true, true_imp_iff, false_imp_iff, Int.reduceNe, Int.reduceEq, Int.reduceLT, Int.reduceLE, Bool.not_true, Bool.not_false]
  have W32 := (((b1.tr b2).tr b3).tr b4).tr B32
  have G32 := G4.tr B32
  have hBk : Blk w32 w.heap.size 3 [.int .i64 p] := hw0.blk.below W32 (by omega)
  have c32 : w32.cell? ⟨w.heap.size, 0, none⟩ = some (.int .i64 p) := hBk.cell rfl
  have hA32 := hA.to B32
  have hB32 := hB.to B32
  have sz32 : w0.heap.size ≤ w32.heap.size := W32.size
  have hgp : ∃ q : Nat, pickP p 1114112 = q := ⟨_, rfl⟩
  obtain ⟨q, hq⟩ := hgp
  have hq1 : q < 1114112 := by rw [← hq]; exact pickP_lt p (by omega)
  have hpk := pick_c p 1114112 (by omega) (by omega) w32
  rw [hq] at hpk
  simp -dsimp only [push_cast, Nat.reduceAdd, Nat.reduceLeDiff, Nat.reduceBEq, decide_true, ne_eq, eq_self, not_true_eq_false, not_false_eq_true, true_imp_iff, false_imp_iff, Int.reduceNe, Int.reduceEq, Int.reduceLT, Int.reduceLE, Bool.not_true, Bool.not_false, c32]
  refine callK_of hpk ?_
  rintro _ w33 ⟨rfl, rfl⟩
  simp -dsimp only [push_cast, Nat.reduceAdd, Nat.reduceLeDiff, Nat.reduceBEq, decide_true, ne_eq, eq_self, not_true_eq_false, not_false_eq_true, true_imp_iff, false_imp_iff, Int.reduceNe, Int.reduceEq, Int.reduceLT, Int.reduceLE, Bool.not_true, Bool.not_false]
  refine storeK_of hBk (by simp) rfl ?_
  intro w34 hw34
  have sz34 : w34.heap.size = w33.heap.size := hw34.size
  have hBk34 : Blk w34 w.heap.size 3 [.int .i64 (q : Int)] := hw34.blk
  have hA34 := hA32.kept hw34.kept (fun i h => by omega)
  have hB34 := hB32.kept hw34.kept (fun i h => by omega)
  have G34 : Below w.heap.size w w34 := G32.trans (hw34.kept.below (by omega) (fun i h => by omega))
  have dr : Below w34.heap.size w34 w34.drew := (Below.refl _ _).drew
  have hA35 := hA34.to dr
  have hB35 := hB34.to dr
  have G35 := G34.tr dr
  have hBk35 := hBk34.drew
  have sz35 : w34.drew.heap.size = w34.heap.size := rfl
  have hgd : ∃ w35, w34.drew = w35 := ⟨_, rfl⟩
  obtain ⟨w35, hw35⟩ := hgd
  have ex : hasP (setOf la) q = hasP la q := inB_in la (by omega) (by omega)
  have ey : hasP (setOf lb) q = hasP lb q := inB_in lb (by omega) (by omega)
  have hgx : ∃ x, hasP la q = x := ⟨_, rfl⟩
  obtain ⟨x, hx⟩ := hgx
  have hgy : ∃ y, hasP lb q = y := ⟨_, rfl⟩
  obtain ⟨y, hy⟩ := hgy
  rw [hx] at ex
  rw [hy] at ey
  simp -dsimp only [push_cast, Nat.reduceAdd, Nat.reduceLeDiff, Nat.reduceBEq, decide_true, ne_eq, eq_self, not_true_eq_false, not_false_eq_true, true_imp_iff, false_imp_iff, Int.reduceNe, Int.reduceEq, Int.reduceLT, Int.reduceLE, Bool.not_true, Bool.not_false]
  refine wpL_draw (fun w'' => w''.cell? ⟨w.heap.size, 0, none⟩ = some (.int .i64 (q : Int))) mixed (by kernel_rfl) (hBk35.cell rfl) ?_
  rw [hw35]
  rw [hw35] at hA35 hB35 G35 hBk35 sz35
  have c35 : w35.cell? ⟨w.heap.size, 0, none⟩ = some (.int .i64 (q : Int)) := hBk35.cell rfl
  simp -dsimp only [push_cast, Nat.reduceAdd, Nat.reduceLeDiff, Nat.reduceBEq, decide_true, ne_eq, eq_self, not_true_eq_false, not_false_eq_true, true_imp_iff, false_imp_iff, Int.reduceNe, Int.reduceEq, Int.reduceLT, Int.reduceLE, Bool.not_true, Bool.not_false, c35]
  refine ⟨fun w'' hC => by rw [hC]; exact rfl, ?_⟩
  refine callK_of (has_A hA35 q ex (by omega)) ?_
  rintro _ w36 ⟨rfl, b36⟩
  have hBk36 := hBk35.below b36 (by omega)
  have c36 : w36.cell? ⟨w.heap.size, 0, none⟩ = some (.int .i64 (q : Int)) := hBk36.cell rfl
  refine ⟨c36, ?_⟩
  simp -dsimp only [push_cast, Nat.reduceAdd, Nat.reduceLeDiff, Nat.reduceBEq, decide_true, ne_eq, eq_self, not_true_eq_false, not_false_eq_true, true_imp_iff, false_imp_iff, Int.reduceNe, Int.reduceEq, Int.reduceLT, Int.reduceLE, Bool.not_true, Bool.not_false, c36]
  refine ⟨fun w'' hC => by rw [hC]; exact rfl, ?_⟩
  refine callK_of (has_A (hB35.to b36) q ey (by omega)) ?_
  rintro _ w37 ⟨rfl, b37⟩
  have hBk37 := hBk36.below b37 (by have := b36.size; omega)
  have c37 : w37.cell? ⟨w.heap.size, 0, none⟩ = some (.int .i64 (q : Int)) := hBk37.cell rfl
  have G37 := (G35.tr b36).tr b37
  refine ⟨c37, ?_⟩
  simp -dsimp only [push_cast, Nat.reduceAdd, Nat.reduceLeDiff, Nat.reduceBEq, decide_true, ne_eq, eq_self, not_true_eq_false, not_false_eq_true, true_imp_iff, false_imp_iff, Int.reduceNe, Int.reduceEq, Int.reduceLT, Int.reduceLE, Bool.not_true, Bool.not_false, c37]
  refine callK_of (contains_c la (by omega) q w.heap.size X _ w37 (hva.below G37) c37) ?_
  rintro _ w38 ⟨rfl, b38⟩
  have sz36 := b36.size
  have sz37 := b37.size
  have sz38 := b38.size
  have hBk38 := hBk37.below b38 (by omega)
  have G38 := G37.tr b38
  have hA38 := hA35.to ((b36.tr b37).tr b38)
  have hB38 := hB35.to ((b36.tr b37).tr b38)
  rw [hx]
  have dr2 : Below w38.heap.size w38 w38.drew := (Below.refl _ _).drew
  have hA39 := hA38.to dr2
  have hB39 := hB38.to dr2
  have G39 := G38.tr dr2
  have hBk39 := hBk38.drew
  have hgd : ∃ w39, w38.drew = w39 := ⟨_, rfl⟩
  obtain ⟨w39, hw39⟩ := hgd
  have f1 : hasP (setOr (setOf la) (setOf lb)) q = (x || y) := by rw [setOr_has ra rb, ex, ey]
  have f2 : hasP (setAnd (setOf la) (setOf lb)) q = (x && y) := by rw [setAnd_has ra rb, ex, ey]
  have f3 : hasP (setLess (setOf la) (setOf lb)) q = (x && !y) := by rw [setLess_has ra rb, ex, ey]
  have f4 : hasP (setNot (setOf la)) q = !x := by rw [has_at_in ra (by omega) (by omega), ex]
  have sz39 : w38.drew.heap.size = w38.heap.size := rfl
  rw [hw39] at hA39 hB39 G39 hBk39 sz39
  have c39 : w39.cell? ⟨w.heap.size, 0, none⟩ = some (.int .i64 (q : Int)) := hBk39.cell rfl
  clear hx hy
  simp -dsimp only [push_cast, Nat.reduceAdd, Nat.reduceLeDiff, Nat.reduceBEq, decide_true, ne_eq, eq_self, not_true_eq_false, not_false_eq_true, true_imp_iff, false_imp_iff, Int.reduceNe, Int.reduceEq, Int.reduceLT, Int.reduceLE, Bool.not_true, Bool.not_false]
  refine wpL_draw (fun w'' => w''.cell? ⟨w.heap.size, 0, none⟩ = some (.int .i64 (q : Int))) mixed (by kernel_rfl) (by rw [hw39]; exact c39) ?_
  rw [hw39]
  have q1 : (true == true) = true := rfl
  have q2 : (false == false) = true := rfl
  have q3 : (true == false) = false := rfl
  have q4 : (false == true) = false := rfl
  have q5 : (true != true) = false := rfl
  have q6 : (false != false) = false := rfl
  have q7 : (true != false) = true := rfl
  have q8 : (false != true) = true := rfl
  cases x <;> cases y
  · skip
    simp -dsimp only [push_cast, Nat.reduceAdd, Nat.reduceLeDiff, Nat.reduceBEq, decide_true, ne_eq, eq_self, not_true_eq_false, not_false_eq_true, true_imp_iff, false_imp_iff, Int.reduceNe, Int.reduceEq, Int.reduceLT, Int.reduceLE, Bool.not_true, Bool.not_false, q1, q2, q3, q4, q5, q6, q7, q8]
    refine callK_of (or_A hA39 hB39 (by omega) (by omega)) ?_
    rintro v40 w40 ⟨h40, b40⟩
    have s40 := b40.size
    have k40 := hBk39.below b40 (by omega)
    have c40 : w40.cell? ⟨w.heap.size, 0, none⟩ = some (.int .i64 (q : Int)) := k40.cell rfl
    refine ⟨c40, ?_⟩
    simp -dsimp only [push_cast, Nat.reduceAdd, Nat.reduceLeDiff, Nat.reduceBEq, decide_true, ne_eq, eq_self, not_true_eq_false, not_false_eq_true, true_imp_iff, false_imp_iff, Int.reduceNe, Int.reduceEq, Int.reduceLT, Int.reduceLE, Bool.not_true, Bool.not_false, q1, q2, q3, q4, q5, q6, q7, q8, c40]
    refine ⟨fun w'' hC => by rw [hC]; exact rfl, ?_⟩
    refine callK_of (has_A (x := false) h40 q f1 (by omega)) ?_
    rintro _ w41 ⟨rfl, b41⟩
    have s41 := b41.size
    have k41 := k40.below b41 (by omega)
    have c41 : w41.cell? ⟨w.heap.size, 0, none⟩ = some (.int .i64 (q : Int)) := k41.cell rfl
    refine ⟨c41, ?_⟩
    simp -dsimp only [push_cast, Nat.reduceAdd, Nat.reduceLeDiff, Nat.reduceBEq, decide_true, ne_eq, eq_self, not_true_eq_false, not_false_eq_true, true_imp_iff, false_imp_iff, Int.reduceNe, Int.reduceEq, Int.reduceLT, Int.reduceLE, Bool.not_true, Bool.not_false, q1, q2, q3, q4, q5, q6, q7, q8]
    refine callK_of (and_A (hA39.to (b40.tr b41)) (hB39.to (b40.tr b41)) (by omega) (by omega)) ?_
    rintro v42 w42 ⟨h42, b42⟩
    have s42 := b42.size
    have k42 := k41.below b42 (by omega)
    have c42 : w42.cell? ⟨w.heap.size, 0, none⟩ = some (.int .i64 (q : Int)) := k42.cell rfl
    refine ⟨c42, ?_⟩
    simp -dsimp only [push_cast, Nat.reduceAdd, Nat.reduceLeDiff, Nat.reduceBEq, decide_true, ne_eq, eq_self, not_true_eq_false, not_false_eq_true, true_imp_iff, false_imp_iff, Int.reduceNe, Int.reduceEq, Int.reduceLT, Int.reduceLE, Bool.not_true, Bool.not_false, q1, q2, q3, q4, q5, q6, q7, q8, c42]
    refine ⟨fun w'' hC => by rw [hC]; exact rfl, ?_⟩
    refine callK_of (has_A (x := false) h42 q f2 (by omega)) ?_
    rintro _ w43 ⟨rfl, b43⟩
    have s43 := b43.size
    have k43 := k42.below b43 (by omega)
    have c43 : w43.cell? ⟨w.heap.size, 0, none⟩ = some (.int .i64 (q : Int)) := k43.cell rfl
    refine ⟨c43, ?_⟩
    simp -dsimp only [push_cast, Nat.reduceAdd, Nat.reduceLeDiff, Nat.reduceBEq, decide_true, ne_eq, eq_self, not_true_eq_false, not_false_eq_true, true_imp_iff, false_imp_iff, Int.reduceNe, Int.reduceEq, Int.reduceLT, Int.reduceLE, Bool.not_true, Bool.not_false, q1, q2, q3, q4, q5, q6, q7, q8]
    refine callK_of (less_A (hA39.to (((b40.tr b41).tr b42).tr b43)) (hB39.to (((b40.tr b41).tr b42).tr b43)) (by omega) (by omega)) ?_
    rintro v44 w44 ⟨h44, b44⟩
    have s44 := b44.size
    have k44 := k43.below b44 (by omega)
    have c44 : w44.cell? ⟨w.heap.size, 0, none⟩ = some (.int .i64 (q : Int)) := k44.cell rfl
    refine ⟨c44, ?_⟩
    simp -dsimp only [push_cast, Nat.reduceAdd, Nat.reduceLeDiff, Nat.reduceBEq, decide_true, ne_eq, eq_self, not_true_eq_false, not_false_eq_true, true_imp_iff, false_imp_iff, Int.reduceNe, Int.reduceEq, Int.reduceLT, Int.reduceLE, Bool.not_true, Bool.not_false, q1, q2, q3, q4, q5, q6, q7, q8, c44]
    refine ⟨fun w'' hC => by rw [hC]; exact rfl, ?_⟩
    refine callK_of (has_A (x := false) h44 q f3 (by omega)) ?_
    rintro _ w45 ⟨rfl, b45⟩
    have s45 := b45.size
    have k45 := k44.below b45 (by omega)
    have c45 : w45.cell? ⟨w.heap.size, 0, none⟩ = some (.int .i64 (q : Int)) := k45.cell rfl
    refine ⟨c45, ?_⟩
    simp -dsimp only [push_cast, Nat.reduceAdd, Nat.reduceLeDiff, Nat.reduceBEq, decide_true, ne_eq, eq_self, not_true_eq_false, not_false_eq_true, true_imp_iff, false_imp_iff, Int.reduceNe, Int.reduceEq, Int.reduceLT, Int.reduceLE, Bool.not_true, Bool.not_false, q1, q2, q3, q4, q5, q6, q7, q8]
    refine callK_of (not_A (hA39.to (((((b40.tr b41).tr b42).tr b43).tr b44).tr b45)) (by omega)) ?_
    rintro v46 w46 ⟨h46, b46⟩
    have s46 := b46.size
    have k46 := k45.below b46 (by omega)
    have c46 : w46.cell? ⟨w.heap.size, 0, none⟩ = some (.int .i64 (q : Int)) := k46.cell rfl
    refine ⟨c46, ?_⟩
    simp -dsimp only [push_cast, Nat.reduceAdd, Nat.reduceLeDiff, Nat.reduceBEq, decide_true, ne_eq, eq_self, not_true_eq_false, not_false_eq_true, true_imp_iff, false_imp_iff, Int.reduceNe, Int.reduceEq, Int.reduceLT, Int.reduceLE, Bool.not_true, Bool.not_false, q1, q2, q3, q4, q5, q6, q7, q8, c46]
    refine ⟨fun w'' hC => by rw [hC]; exact rfl, ?_⟩
    refine callK_of (has_A (x := true) h46 q f4 (by omega)) ?_
    rintro _ w47 ⟨rfl, b47⟩
    have s47 := b47.size
    have k47 := k46.below b47 (by omega)
    have c47 : w47.cell? ⟨w.heap.size, 0, none⟩ = some (.int .i64 (q : Int)) := k47.cell rfl
    refine ⟨c47, ?_⟩
    simp -dsimp only [push_cast, Nat.reduceAdd, Nat.reduceLeDiff, Nat.reduceBEq, decide_true, ne_eq, eq_self, not_true_eq_false, not_false_eq_true, true_imp_iff, false_imp_iff, Int.reduceNe, Int.reduceEq, Int.reduceLT, Int.reduceLE, Bool.not_true, Bool.not_false, q1, q2, q3, q4, q5, q6, q7, q8]
    exact G39.tr (((((((b40.tr b41).tr b42).tr b43).tr b44).tr b45).tr b46).tr b47)
  · skip
    simp -dsimp only [push_cast, Nat.reduceAdd, Nat.reduceLeDiff, Nat.reduceBEq, decide_true, ne_eq, eq_self, not_true_eq_false, not_false_eq_true, true_imp_iff, false_imp_iff, Int.reduceNe, Int.reduceEq, Int.reduceLT, Int.reduceLE, Bool.not_true, Bool.not_false, q1, q2, q3, q4, q5, q6, q7, q8]
    refine callK_of (or_A hA39 hB39 (by omega) (by omega)) ?_
    rintro v40 w40 ⟨h40, b40⟩
    have s40 := b40.size
    have k40 := hBk39.below b40 (by omega)
    have c40 : w40.cell? ⟨w.heap.size, 0, none⟩ = some (.int .i64 (q : Int)) := k40.cell rfl
    refine ⟨c40, ?_⟩
    simp -dsimp only [push_cast, Nat.reduceAdd, Nat.reduceLeDiff, Nat.reduceBEq, decide_true, ne_eq, eq_self, not_true_eq_false, not_false_eq_true, true_imp_iff, false_imp_iff, Int.reduceNe, Int.reduceEq, Int.reduceLT, Int.reduceLE, Bool.not_true, Bool.not_false, q1, q2, q3, q4, q5, q6, q7, q8, c40]
    refine ⟨fun w'' hC => by rw [hC]; exact rfl, ?_⟩
    refine callK_of (has_A (x := true) h40 q f1 (by omega)) ?_
    rintro _ w41 ⟨rfl, b41⟩
    have s41 := b41.size
    have k41 := k40.below b41 (by omega)
    have c41 : w41.cell? ⟨w.heap.size, 0, none⟩ = some (.int .i64 (q : Int)) := k41.cell rfl
    refine ⟨c41, ?_⟩
    simp -dsimp only [push_cast, Nat.reduceAdd, Nat.reduceLeDiff, Nat.reduceBEq, decide_true, ne_eq, eq_self, not_true_eq_false, not_false_eq_true, true_imp_iff, false_imp_iff, Int.reduceNe, Int.reduceEq, Int.reduceLT, Int.reduceLE, Bool.not_true, Bool.not_false, q1, q2, q3, q4, q5, q6, q7, q8]
    refine callK_of (and_A (hA39.to (b40.tr b41)) (hB39.to (b40.tr b41)) (by omega) (by omega)) ?_
    rintro v42 w42 ⟨h42, b42⟩
    have s42 := b42.size
    have k42 := k41.below b42 (by omega)
    have c42 : w42.cell? ⟨w.heap.size, 0, none⟩ = some (.int .i64 (q : Int)) := k42.cell rfl
    refine ⟨c42, ?_⟩
    simp -dsimp only [push_cast, Nat.reduceAdd, Nat.reduceLeDiff, Nat.reduceBEq, decide_true, ne_eq, eq_self, not_true_eq_false, not_false_eq_true, true_imp_iff, false_imp_iff, Int.reduceNe, Int.reduceEq, Int.reduceLT, Int.reduceLE, Bool.not_true, Bool.not_false, q1, q2, q3, q4, q5, q6, q7, q8, c42]
    refine ⟨fun w'' hC => by rw [hC]; exact rfl, ?_⟩
    refine callK_of (has_A (x := false) h42 q f2 (by omega)) ?_
    rintro _ w43 ⟨rfl, b43⟩
    have s43 := b43.size
    have k43 := k42.below b43 (by omega)
    have c43 : w43.cell? ⟨w.heap.size, 0, none⟩ = some (.int .i64 (q : Int)) := k43.cell rfl
    refine ⟨c43, ?_⟩
    simp -dsimp only [push_cast, Nat.reduceAdd, Nat.reduceLeDiff, Nat.reduceBEq, decide_true, ne_eq, eq_self, not_true_eq_false, not_false_eq_true, true_imp_iff, false_imp_iff, Int.reduceNe, Int.reduceEq, Int.reduceLT, Int.reduceLE, Bool.not_true, Bool.not_false, q1, q2, q3, q4, q5, q6, q7, q8]
    refine callK_of (less_A (hA39.to (((b40.tr b41).tr b42).tr b43)) (hB39.to (((b40.tr b41).tr b42).tr b43)) (by omega) (by omega)) ?_
    rintro v44 w44 ⟨h44, b44⟩
    have s44 := b44.size
    have k44 := k43.below b44 (by omega)
    have c44 : w44.cell? ⟨w.heap.size, 0, none⟩ = some (.int .i64 (q : Int)) := k44.cell rfl
    refine ⟨c44, ?_⟩
    simp -dsimp only [push_cast, Nat.reduceAdd, Nat.reduceLeDiff, Nat.reduceBEq, decide_true, ne_eq, eq_self, not_true_eq_false, not_false_eq_true, true_imp_iff, false_imp_iff, Int.reduceNe, Int.reduceEq, Int.reduceLT, Int.reduceLE, Bool.not_true, Bool.not_false, q1, q2, q3, q4, q5, q6, q7, q8, c44]
    refine ⟨fun w'' hC => by rw [hC]; exact rfl, ?_⟩
    refine callK_of (has_A (x := false) h44 q f3 (by omega)) ?_
    rintro _ w45 ⟨rfl, b45⟩
    have s45 := b45.size
    have k45 := k44.below b45 (by omega)
    have c45 : w45.cell? ⟨w.heap.size, 0, none⟩ = some (.int .i64 (q : Int)) := k45.cell rfl
    refine ⟨c45, ?_⟩
    simp -dsimp only [push_cast, Nat.reduceAdd, Nat.reduceLeDiff, Nat.reduceBEq, decide_true, ne_eq, eq_self, not_true_eq_false, not_false_eq_true, true_imp_iff, false_imp_iff, Int.reduceNe, Int.reduceEq, Int.reduceLT, Int.reduceLE, Bool.not_true, Bool.not_false, q1, q2, q3, q4, q5, q6, q7, q8]
    refine callK_of (not_A (hA39.to (((((b40.tr b41).tr b42).tr b43).tr b44).tr b45)) (by omega)) ?_
    rintro v46 w46 ⟨h46, b46⟩
    have s46 := b46.size
    have k46 := k45.below b46 (by omega)
    have c46 : w46.cell? ⟨w.heap.size, 0, none⟩ = some (.int .i64 (q : Int)) := k46.cell rfl
    refine ⟨c46, ?_⟩
    simp -dsimp only [push_cast, Nat.reduceAdd, Nat.reduceLeDiff, Nat.reduceBEq, decide_true, ne_eq, eq_self, not_true_eq_false, not_false_eq_true, true_imp_iff, false_imp_iff, Int.reduceNe, Int.reduceEq, Int.reduceLT, Int.reduceLE, Bool.not_true, Bool.not_false, q1, q2, q3, q4, q5, q6, q7, q8, c46]
    refine ⟨fun w'' hC => by rw [hC]; exact rfl, ?_⟩
    refine callK_of (has_A (x := true) h46 q f4 (by omega)) ?_
    rintro _ w47 ⟨rfl, b47⟩
    have s47 := b47.size
    have k47 := k46.below b47 (by omega)
    have c47 : w47.cell? ⟨w.heap.size, 0, none⟩ = some (.int .i64 (q : Int)) := k47.cell rfl
    refine ⟨c47, ?_⟩
    simp -dsimp only [push_cast, Nat.reduceAdd, Nat.reduceLeDiff, Nat.reduceBEq, decide_true, ne_eq, eq_self, not_true_eq_false, not_false_eq_true, true_imp_iff, false_imp_iff, Int.reduceNe, Int.reduceEq, Int.reduceLT, Int.reduceLE, Bool.not_true, Bool.not_false, q1, q2, q3, q4, q5, q6, q7, q8]
    exact G39.tr (((((((b40.tr b41).tr b42).tr b43).tr b44).tr b45).tr b46).tr b47)
  · skip
    simp -dsimp only [push_cast, Nat.reduceAdd, Nat.reduceLeDiff, Nat.reduceBEq, decide_true, ne_eq, eq_self, not_true_eq_false, not_false_eq_true, true_imp_iff, false_imp_iff, Int.reduceNe, Int.reduceEq, Int.reduceLT, Int.reduceLE, Bool.not_true, Bool.not_false, q1, q2, q3, q4, q5, q6, q7, q8]
    refine callK_of (or_A hA39 hB39 (by omega) (by omega)) ?_
    rintro v40 w40 ⟨h40, b40⟩
    have s40 := b40.size
    have k40 := hBk39.below b40 (by omega)
    have c40 : w40.cell? ⟨w.heap.size, 0, none⟩ = some (.int .i64 (q : Int)) := k40.cell rfl
    refine ⟨c40, ?_⟩
    simp -dsimp only [push_cast, Nat.reduceAdd, Nat.reduceLeDiff, Nat.reduceBEq, decide_true, ne_eq, eq_self, not_true_eq_false, not_false_eq_true, true_imp_iff, false_imp_iff, Int.reduceNe, Int.reduceEq, Int.reduceLT, Int.reduceLE, Bool.not_true, Bool.not_false, q1, q2, q3, q4, q5, q6, q7, q8, c40]
    refine ⟨fun w'' hC => by rw [hC]; exact rfl, ?_⟩
    refine callK_of (has_A (x := true) h40 q f1 (by omega)) ?_
    rintro _ w41 ⟨rfl, b41⟩
    have s41 := b41.size
    have k41 := k40.below b41 (by omega)
    have c41 : w41.cell? ⟨w.heap.size, 0, none⟩ = some (.int .i64 (q : Int)) := k41.cell rfl
    refine ⟨c41, ?_⟩
    simp -dsimp only [push_cast, Nat.reduceAdd, Nat.reduceLeDiff, Nat.reduceBEq, decide_true, ne_eq, eq_self, not_true_eq_false, not_false_eq_true, true_imp_iff, false_imp_iff, Int.reduceNe, Int.reduceEq, Int.reduceLT, Int.reduceLE, Bool.not_true, Bool.not_false, q1, q2, q3, q4, q5, q6, q7, q8]
    refine callK_of (and_A (hA39.to (b40.tr b41)) (hB39.to (b40.tr b41)) (by omega) (by omega)) ?_
    rintro v42 w42 ⟨h42, b42⟩
    have s42 := b42.size
    have k42 := k41.below b42 (by omega)
    have c42 : w42.cell? ⟨w.heap.size, 0, none⟩ = some (.int .i64 (q : Int)) := k42.cell rfl
    refine ⟨c42, ?_⟩
    simp -dsimp only [push_cast, Nat.reduceAdd, Nat.reduceLeDiff, Nat.reduceBEq, decide_true, ne_eq, eq_self, not_true_eq_false, not_false_eq_true, true_imp_iff, false_imp_iff, Int.reduceNe, Int.reduceEq, Int.reduceLT, Int.reduceLE, Bool.not_true, Bool.not_false, q1, q2, q3, q4, q5, q6, q7, q8, c42]
    refine ⟨fun w'' hC => by rw [hC]; exact rfl, ?_⟩
    refine callK_of (has_A (x := false) h42 q f2 (by omega)) ?_
    rintro _ w43 ⟨rfl, b43⟩
    have s43 := b43.size
    have k43 := k42.below b43 (by omega)
    have c43 : w43.cell? ⟨w.heap.size, 0, none⟩ = some (.int .i64 (q : Int)) := k43.cell rfl
    refine ⟨c43, ?_⟩
    simp -dsimp only [push_cast, Nat.reduceAdd, Nat.reduceLeDiff, Nat.reduceBEq, decide_true, ne_eq, eq_self, not_true_eq_false, not_false_eq_true, true_imp_iff, false_imp_iff, Int.reduceNe, Int.reduceEq, Int.reduceLT, Int.reduceLE, Bool.not_true, Bool.not_false, q1, q2, q3, q4, q5, q6, q7, q8]
    refine callK_of (less_A (hA39.to (((b40.tr b41).tr b42).tr b43)) (hB39.to (((b40.tr b41).tr b42).tr b43)) (by omega) (by omega)) ?_
    rintro v44 w44 ⟨h44, b44⟩
    have s44 := b44.size
    have k44 := k43.below b44 (by omega)
    have c44 : w44.cell? ⟨w.heap.size, 0, none⟩ = some (.int .i64 (q : Int)) := k44.cell rfl
    refine ⟨c44, ?_⟩
    simp -dsimp only [push_cast, Nat.reduceAdd, Nat.reduceLeDiff, Nat.reduceBEq, decide_true, ne_eq, eq_self, not_true_eq_false, not_false_eq_true, true_imp_iff, false_imp_iff, Int.reduceNe, Int.reduceEq, Int.reduceLT, Int.reduceLE, Bool.not_true, Bool.not_false, q1, q2, q3, q4, q5, q6, q7, q8, c44]
    refine ⟨fun w'' hC => by rw [hC]; exact rfl, ?_⟩
    refine callK_of (has_A (x := true) h44 q f3 (by omega)) ?_
    rintro _ w45 ⟨rfl, b45⟩
    have s45 := b45.size
    have k45 := k44.below b45 (by omega)
    have c45 : w45.cell? ⟨w.heap.size, 0, none⟩ = some (.int .i64 (q : Int)) := k45.cell rfl
    refine ⟨c45, ?_⟩
    simp -dsimp only [push_cast, Nat.reduceAdd, Nat.reduceLeDiff, Nat.reduceBEq, decide_true, ne_eq, eq_self, not_true_eq_false, not_false_eq_true, true_imp_iff, false_imp_iff, Int.reduceNe, Int.reduceEq, Int.reduceLT, Int.reduceLE, Bool.not_true, Bool.not_false, q1, q2, q3, q4, q5, q6, q7, q8]
    refine callK_of (not_A (hA39.to (((((b40.tr b41).tr b42).tr b43).tr b44).tr b45)) (by omega)) ?_
    rintro v46 w46 ⟨h46, b46⟩
    have s46 := b46.size
    have k46 := k45.below b46 (by omega)
    have c46 : w46.cell? ⟨w.heap.size, 0, none⟩ = some (.int .i64 (q : Int)) := k46.cell rfl
    refine ⟨c46, ?_⟩
    simp -dsimp only [push_cast, Nat.reduceAdd, Nat.reduceLeDiff, Nat.reduceBEq, decide_true, ne_eq, eq_self, not_true_eq_false, not_false_eq_true, true_imp_iff, false_imp_iff, Int.reduceNe, Int.reduceEq, Int.reduceLT, Int.reduceLE, Bool.not_true, Bool.not_false, q1, q2, q3, q4, q5, q6, q7, q8, c46]
    refine ⟨fun w'' hC => by rw [hC]; exact rfl, ?_⟩
    refine callK_of (has_A (x := false) h46 q f4 (by omega)) ?_
    rintro _ w47 ⟨rfl, b47⟩
    have s47 := b47.size
    have k47 := k46.below b47 (by omega)
    have c47 : w47.cell? ⟨w.heap.size, 0, none⟩ = some (.int .i64 (q : Int)) := k47.cell rfl
    refine ⟨c47, ?_⟩
    simp -dsimp only [push_cast, Nat.reduceAdd, Nat.reduceLeDiff, Nat.reduceBEq, decide_true, ne_eq, eq_self, not_true_eq_false, not_false_eq_true, true_imp_iff, false_imp_iff, Int.reduceNe, Int.reduceEq, Int.reduceLT, Int.reduceLE, Bool.not_true, Bool.not_false, q1, q2, q3, q4, q5, q6, q7, q8]
    exact G39.tr (((((((b40.tr b41).tr b42).tr b43).tr b44).tr b45).tr b46).tr b47)
  · skip
    simp -dsimp only [push_cast, Nat.reduceAdd, Nat.reduceLeDiff, Nat.reduceBEq, decide_true, ne_eq, eq_self, not_true_eq_false, not_false_eq_true, true_imp_iff, false_imp_iff, Int.reduceNe, Int.reduceEq, Int.reduceLT, Int.reduceLE, Bool.not_true, Bool.not_false, q1, q2, q3, q4, q5, q6, q7, q8]
    refine callK_of (or_A hA39 hB39 (by omega) (by omega)) ?_
    rintro v40 w40 ⟨h40, b40⟩
    have s40 := b40.size
    have k40 := hBk39.below b40 (by omega)
    have c40 : w40.cell? ⟨w.heap.size, 0, none⟩ = some (.int .i64 (q : Int)) := k40.cell rfl
    refine ⟨c40, ?_⟩
    simp -dsimp only [push_cast, Nat.reduceAdd, Nat.reduceLeDiff, Nat.reduceBEq, decide_true, ne_eq, eq_self, not_true_eq_false, not_false_eq_true, true_imp_iff, false_imp_iff, Int.reduceNe, Int.reduceEq, Int.reduceLT, Int.reduceLE, Bool.not_true, Bool.not_false, q1, q2, q3, q4, q5, q6, q7, q8, c40]
    refine ⟨fun w'' hC => by rw [hC]; exact rfl, ?_⟩
    refine callK_of (has_A (x := true) h40 q f1 (by omega)) ?_
    rintro _ w41 ⟨rfl, b41⟩
    have s41 := b41.size
    have k41 := k40.below b41 (by omega)
    have c41 : w41.cell? ⟨w.heap.size, 0, none⟩ = some (.int .i64 (q : Int)) := k41.cell rfl
    refine ⟨c41, ?_⟩
    simp -dsimp only [push_cast, Nat.reduceAdd, Nat.reduceLeDiff, Nat.reduceBEq, decide_true, ne_eq, eq_self, not_true_eq_false, not_false_eq_true, true_imp_iff, false_imp_iff, Int.reduceNe, Int.reduceEq, Int.reduceLT, Int.reduceLE, Bool.not_true, Bool.not_false, q1, q2, q3, q4, q5, q6, q7, q8]
    refine callK_of (and_A (hA39.to (b40.tr b41)) (hB39.to (b40.tr b41)) (by omega) (by omega)) ?_
    rintro v42 w42 ⟨h42, b42⟩
    have s42 := b42.size
    have k42 := k41.below b42 (by omega)
    have c42 : w42.cell? ⟨w.heap.size, 0, none⟩ = some (.int .i64 (q : Int)) := k42.cell rfl
    refine ⟨c42, ?_⟩
    simp -dsimp only [push_cast, Nat.reduceAdd, Nat.reduceLeDiff, Nat.reduceBEq, decide_true, ne_eq, eq_self, not_true_eq_false, not_false_eq_true, true_imp_iff, false_imp_iff, Int.reduceNe, Int.reduceEq, Int.reduceLT, Int.reduceLE, Bool.not_true, Bool.not_false, q1, q2, q3, q4, q5, q6, q7, q8, c42]
    refine ⟨fun w'' hC => by rw [hC]; exact rfl, ?_⟩
    refine callK_of (has_A (x := true) h42 q f2 (by omega)) ?_
    rintro _ w43 ⟨rfl, b43⟩
    have s43 := b43.size
    have k43 := k42.below b43 (by omega)
    have c43 : w43.cell? ⟨w.heap.size, 0, none⟩ = some (.int .i64 (q : Int)) := k43.cell rfl
    refine ⟨c43, ?_⟩
    simp -dsimp only [push_cast, Nat.reduceAdd, Nat.reduceLeDiff, Nat.reduceBEq, decide_true, ne_eq, eq_self, not_true_eq_false, not_false_eq_true, true_imp_iff, false_imp_iff, Int.reduceNe, Int.reduceEq, Int.reduceLT, Int.reduceLE, Bool.not_true, Bool.not_false, q1, q2, q3, q4, q5, q6, q7, q8]
    refine callK_of (less_A (hA39.to (((b40.tr b41).tr b42).tr b43)) (hB39.to (((b40.tr b41).tr b42).tr b43)) (by omega) (by omega)) ?_
    rintro v44 w44 ⟨h44, b44⟩
    have s44 := b44.size
    have k44 := k43.below b44 (by omega)
    have c44 : w44.cell? ⟨w.heap.size, 0, none⟩ = some (.int .i64 (q : Int)) := k44.cell rfl
    refine ⟨c44, ?_⟩
    simp -dsimp only [push_cast, Nat.reduceAdd, Nat.reduceLeDiff, Nat.reduceBEq, decide_true, ne_eq, eq_self, not_true_eq_false, not_false_eq_true, true_imp_iff, false_imp_iff, Int.reduceNe, Int.reduceEq, Int.reduceLT, Int.reduceLE, Bool.not_true, Bool.not_false, q1, q2, q3, q4, q5, q6, q7, q8, c44]
    refine ⟨fun w'' hC => by rw [hC]; exact rfl, ?_⟩
    refine callK_of (has_A (x := false) h44 q f3 (by omega)) ?_
    rintro _ w45 ⟨rfl, b45⟩
    have s45 := b45.size
    have k45 := k44.below b45 (by omega)
    have c45 : w45.cell? ⟨w.heap.size, 0, none⟩ = some (.int .i64 (q : Int)) := k45.cell rfl
    refine ⟨c45, ?_⟩
    simp -dsimp only [push_cast, Nat.reduceAdd, Nat.reduceLeDiff, Nat.reduceBEq, decide_true, ne_eq, eq_self, not_true_eq_false, not_false_eq_true, true_imp_iff, false_imp_iff, Int.reduceNe, Int.reduceEq, Int.reduceLT, Int.reduceLE, Bool.not_true, Bool.not_false, q1, q2, q3, q4, q5, q6, q7, q8]
    refine callK_of (not_A (hA39.to (((((b40.tr b41).tr b42).tr b43).tr b44).tr b45)) (by omega)) ?_
    rintro v46 w46 ⟨h46, b46⟩
    have s46 := b46.size
    have k46 := k45.below b46 (by omega)
    have c46 : w46.cell? ⟨w.heap.size, 0, none⟩ = some (.int .i64 (q : Int)) := k46.cell rfl
    refine ⟨c46, ?_⟩
    simp -dsimp only [push_cast, Nat.reduceAdd, Nat.reduceLeDiff, Nat.reduceBEq, decide_true, ne_eq, eq_self, not_true_eq_false, not_false_eq_true, true_imp_iff, false_imp_iff, Int.reduceNe, Int.reduceEq, Int.reduceLT, Int.reduceLE, Bool.not_true, Bool.not_false, q1, q2, q3, q4, q5, q6, q7, q8, c46]
    refine ⟨fun w'' hC => by rw [hC]; exact rfl, ?_⟩
    refine callK_of (has_A (x := false) h46 q f4 (by omega)) ?_
    rintro _ w47 ⟨rfl, b47⟩
    have s47 := b47.size
    have k47 := k46.below b47 (by omega)
    have c47 : w47.cell? ⟨w.heap.size, 0, none⟩ = some (.int .i64 (q : Int)) := k47.cell rfl
    refine ⟨c47, ?_⟩
    simp -dsimp only [push_cast, Nat.reduceAdd, Nat.reduceLeDiff, Nat.reduceBEq, decide_true, ne_eq, eq_self, not_true_eq_false, not_false_eq_true, true_imp_iff, false_imp_iff, Int.reduceNe, Int.reduceEq, Int.reduceLT, Int.reduceLE, Bool.not_true, Bool.not_false, q1, q2, q3, q4, q5, q6, q7, q8]
    exact G39.tr (((((((b40.tr b41).tr b42).tr b43).tr b44).tr b45).tr b46).tr b47)
end Go.Proofs.YthmkbjmkpdjgjaaDoor
