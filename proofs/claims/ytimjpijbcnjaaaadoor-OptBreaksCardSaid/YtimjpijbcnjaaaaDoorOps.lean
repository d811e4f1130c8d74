import Derived.Test.YtimjpijbcnjaaaaDoorOp5
import Derived.Test.YtimjpijbcnjaaaaDoorMore
namespace Go.Proofs.YtimjpijbcnjaaaaDoor
open Go.Vc Go.Proofs Go.RowKit Cae
set_option maxRecDepth 100000
set_option linter.unusedSimpArgs false
set_option linter.unusedVariables false
attribute [local irreducible] wpL callK valK unitK runK Fun Sl Own vc vcOps opK pureK
set_option maxHeartbeats 8000000

/-- The code of the fact. -/
def lessC0 : CodeP := ⟨[], [⟨3, 2, 0⟩, ⟨5, 0, 0⟩, ⟨5, 0, 0⟩]⟩
theorem lessC0_right : codeRight lessC0 = true := by decide

theorem lessened_c (w : World) (hN : NeverVar w) : Fun Tryd.prog 26 [] w fun r w' => r = .bool true ∧ Below w.heap.size w w' := by
  refine fun_of_vc Tryd.func26 rfl (by kernel_rfl) [0] rfl ?_
  simp -dsimp only [push_cast, fr0, Tryd.ntmps26, List.length_cons, List.length_nil, Nat.reduceAdd, Nat.reduceSub, Nat.reduceBEq, List.replicate_succ, List.replicate_zero]
  simp -dsimp only [push_cast, Nat.reduceAdd, Nat.reduceLeDiff, Nat.reduceBEq, decide_true]
  refine rowK elI_23 rfl rfl (by omega) ?_
  intro w1 hw1
  have sz1 := hw1.size
  simp -dsimp only [push_cast, Nat.reduceAdd, Nat.reduceLeDiff, Nat.reduceBEq, decide_true]
  refine allocK (z := [.slice none 0 0, .slice none 0 0]) (by kernel_rfl) ?_
  intro w2 hw2
  have sz2 := hw2.size
  simp -dsimp only [push_cast, Nat.reduceAdd, Nat.reduceLeDiff, Nat.reduceBEq, decide_true]
  refine storeAgg (n := 2) (by kernel_rfl) hw2.blk rfl (by simp) (by simp [Value.oneCell']) ?_
  intro w3 hw3
  have sz3 := hw3.size
  have k3 : Below w1.heap.size w1 w3 := hw2.below.trans (hw3.kept.below (by omega) (fun _ h => by omega))
  have hb3 : Below w.heap.size w w3 := hw1.below.trans (k3.mono (by omega))
  have d3 : cellsAt w3 ⟨w1.heap.size, 0, none⟩ 0 2 = some [.slice none 0 0, .slice (some ⟨w.heap.size, 0, none⟩) 3 3] := hw3.blk.cellsAt
  have ho := hw1.own (base := 0) (k := 3) (n := 3) (enc := encIn) (l := lessC0.ins) rfl rfl (fun _ => rfl) (Nat.zero_le _) (by omega)
  have hcv : CodeV (fun _ => False) w3 (.agg #[.slice none 0 0, .slice (some ⟨w.heap.size, 0, none⟩) 3 3]) lessC0 :=
    ⟨_, _, rfl, Sl.nil _ _ _ _ _ _, (ho.sl.below k3).weaken fun _ h => h.elim⟩
  simp -dsimp only [push_cast, Nat.reduceAdd, Nat.reduceLeDiff, Nat.reduceBEq, decide_true, ne_eq, eq_self, not_true_eq_false, not_false_eq_true, true_imp_iff, false_imp_iff, Int.reduceNe, Int.reduceEq, Int.reduceLT, Int.reduceLE, Bool.not_true, Bool.not_false, d3]
  refine callK_of (code_c lessC0 (fun s hs => by cases hs) (by decide) (by decide) (fun _ => False) _ w3 (fun _ h => h.elim) (hN.below hb3) hcv) ?_
  rintro r w4 ⟨hr, hb4⟩
  have sz4 := hb4.size
  unfold CodeR at hr
  rw [if_pos lessC0_right] at hr
  obtain ⟨d, dv, rfl, hL, hd⟩ := hr
  have hd0 := hd
  obtain ⟨dsv, div, rfl, hds, hdi⟩ := hd
  have hsh := hds.shape
  obtain ⟨da, dc, rfl, _⟩ := hsh
  have hsh := hdi.shape
  obtain ⟨ia, ic, rfl, _⟩ := hsh
  simp -dsimp only [push_cast, Nat.reduceAdd, Nat.reduceLeDiff, Nat.reduceBEq, decide_true, ne_eq, eq_self, not_true_eq_false, not_false_eq_true, true_imp_iff, false_imp_iff, Int.reduceNe, Int.reduceEq, Int.reduceLT, Int.reduceLE, Bool.not_true, Bool.not_false]
  refine allocK (z := [.slice none 0 0, .slice none 0 0]) (by kernel_rfl) ?_
  intro w5 hw5
  have sz5 := hw5.size
  simp -dsimp only [push_cast, Nat.reduceAdd, Nat.reduceLeDiff, Nat.reduceBEq, decide_true]
  refine storeAgg (n := 2) (by kernel_rfl) hw5.blk rfl (by simp) (by simp [Value.oneCell']) ?_
  intro w6 hw6
  have sz6 := hw6.size
  have k6 : Below w4.heap.size w4 w6 := hw5.below.trans (hw6.kept.below (by omega) (fun _ h => by omega))
  have hB6 : Blk w6 w4.heap.size 25 [.slice da d.sets.length dc, .slice ia d.ins.length ic] := hw6.blk
  have d6 := hB6.cellsAt
  simp only [List.length_cons, List.length_nil, Nat.zero_add, Nat.reduceAdd] at d6
  have hb6 : Below w.heap.size w w6 := hb3.trans ((hb4.mono (by omega)).trans (k6.mono (by omega)))
  have hdm := hL.cr.many
  have hds' := hL.cr.sets
  simp -dsimp only [push_cast, Nat.reduceAdd, Nat.reduceLeDiff, Nat.reduceBEq, decide_true, ne_eq, eq_self, not_true_eq_false, not_false_eq_true, true_imp_iff, false_imp_iff, Int.reduceNe, Int.reduceEq, Int.reduceLT, Int.reduceLE, Bool.not_true, Bool.not_false, d6]
  refine callK_of (Right_c d hL.lens (by omega) (by omega) _ _ w6 (hd0.below k6)) ?_
  rintro _ w7 ⟨rfl, hb7⟩
  have sz7 := hb7.size
  rw [hL.cr.to]
  have c7 : w7.cell? ⟨w4.heap.size, 1, none⟩ = some (.slice ia d.ins.length ic) := (hB6.below hb7 (by omega)).cell rfl
  have hlen : d.ins.length ≤ 3 := hL.len
  have hle : decide ((d.ins.length : Int) ≤ 3) = true := decide_eq_true (by omega)
  simp -dsimp only [push_cast, Nat.reduceAdd, Nat.reduceLeDiff, Nat.reduceBEq, decide_true, ne_eq, eq_self, not_true_eq_false, not_false_eq_true, true_imp_iff, false_imp_iff, Int.reduceNe, Int.reduceEq, Int.reduceLT, Int.reduceLE, Bool.not_true, Bool.not_false, c7, hle]
  exact hb6.trans (hb7.mono (by omega))

theorem optSame_c (c : CodeP) (l m : List Int) (v lv mv : Value) (w : World) (hE : ErrVar w) (hN : NeverVar w) (hv : CodeV (fun _ => False) w v c) (hlv : Sl (fun _ => False) 1 (En encI) w lv l) (hmv : Sl (fun _ => False) 1 (En encI) w mv m) (hal : Arg lv) (ham : Arg mv) :
    Fun Tryd.prog 5 [v, lv, mv] w fun r w' => r = .bool true ∧ Below w.heap.size w w' := by
  have hv0 := hv
  obtain ⟨sv, iv, rfl, hsv, hiv⟩ := hv
  have hsh := hsv.shape
  obtain ⟨sa, sc, rfl, hsc⟩ := hsh
  obtain ⟨la, lc, rfl, hlc⟩ := hlv.shape
  obtain ⟨ma, mc, rfl, hmc⟩ := hmv.shape
  obtain ⟨ia, ic, rfl, hic⟩ := hiv.shape
  refine fun_of_vc Tryd.func5 rfl (by kernel_rfl) [6] rfl ?_
  simp -dsimp only [push_cast, fr0, Tryd.ntmps5, List.length_cons, List.length_nil, Nat.reduceAdd, Nat.reduceSub, Nat.reduceBEq, List.replicate_succ, List.replicate_zero]
  refine boxK_of ?_
  intro w1 hw1
  have hw1 : New w w1 25 [.slice sa c.sets.length sc, .slice ia c.ins.length ic] := hw1
  have sz1 := hw1.size
  have d1 : cellsAt w1 ⟨w.heap.size, 0, none⟩ 0 2 = some [.slice sa c.sets.length sc, .slice ia c.ins.length ic] := hw1.blk.cellsAt
  simp -dsimp only [push_cast, Nat.reduceAdd, Nat.reduceLeDiff, Nat.reduceBEq, decide_true, d1]
  refine callK_of (small_c c _ _ w1 (hv0.below hw1.below)) ?_
  rintro _ w2 ⟨rfl, hb2⟩
  have sz2 := hb2.size
  have hL2 := hw1.below.trans (hb2.mono (by omega))
  have hB2 : Blk w2 w.heap.size 25 [.slice sa c.sets.length sc, .slice ia c.ins.length ic] := hw1.blk.below hb2 (by omega)
  cases hsm : smallP c with
  | false =>
    simp -dsimp only [push_cast, Nat.reduceAdd, Nat.reduceLeDiff, Nat.reduceBEq, decide_true, ne_eq, eq_self, not_true_eq_false, not_false_eq_true, true_imp_iff, false_imp_iff, Int.reduceNe, Int.reduceEq, Int.reduceLT, Int.reduceLE, Bool.not_true, Bool.not_false]
    exact hL2
  | true =>
    obtain ⟨hlens, hins, hsets⟩ := small_lenC hsm
    simp -dsimp only [push_cast, Nat.reduceAdd, Nat.reduceLeDiff, Nat.reduceBEq, decide_true, ne_eq, eq_self, not_true_eq_false, not_false_eq_true, true_imp_iff, false_imp_iff, Int.reduceNe, Int.reduceEq, Int.reduceLT, Int.reduceLE, Bool.not_true, Bool.not_false]
    refine ⟨fun h1 => ⟨fun _ => hL2, fun h2 => ?_⟩, fun _ => hL2⟩
    refine callK_of (lessened_c w2 (hN.below hL2)) ?_
    rintro _ w3 ⟨rfl, hb3⟩
    have sz3 := hb3.size
    have hL3 := hL2.trans (hb3.mono hL2.size)
    have hB3 := hB2.below hb3 (by omega)
    have d3 := hB3.cellsAt
    simp only [List.length_cons, List.length_nil, Nat.zero_add, Nat.reduceAdd] at d3
    simp -dsimp only [push_cast, Nat.reduceAdd, Nat.reduceLeDiff, Nat.reduceBEq, decide_true, ne_eq, eq_self, not_true_eq_false, not_false_eq_true, true_imp_iff, false_imp_iff, Int.reduceNe, Int.reduceEq, Int.reduceLT, Int.reduceLE, Bool.not_true, Bool.not_false, d3]
    refine callK_of (code_c c hlens (by omega) (by omega) (fun _ => False) _ w3 (fun _ h => h.elim) (hN.below hL3) (hv0.below hL3)) ?_
    rintro r w4 ⟨hr, hb4⟩
    have sz4 := hb4.size
    have hL4 := hL3.trans (hb4.mono hL3.size)
    have hB4 := hB3.below hb4 (by omega)
    unfold CodeR at hr
    cases hR : codeRight c with
    | false =>
      rw [hR, if_neg (by simp)] at hr
      subst hr
      simp -dsimp only [push_cast, Nat.reduceAdd, Nat.reduceLeDiff, Nat.reduceBEq, decide_true, ne_eq, eq_self, not_true_eq_false, not_false_eq_true, true_imp_iff, false_imp_iff, Int.reduceNe, Int.reduceEq, Int.reduceLT, Int.reduceLE, Bool.not_true, Bool.not_false]
      refine allocK (z := [.slice none 0 0, .slice none 0 0]) (by kernel_rfl) ?_
      intro w5 hw5
      have sz5 := hw5.size
      simp -dsimp only [push_cast, Nat.reduceAdd, Nat.reduceLeDiff, Nat.reduceBEq, decide_true]
      refine storeAgg (n := 2) (by kernel_rfl) hw5.blk rfl (by simp) (by simp [Value.oneCell']) ?_
      intro w6 hw6
      have sz6 := hw6.size
      have k6 : Below w4.heap.size w4 w6 := hw5.below.trans (hw6.kept.below (by omega) (fun _ h => by omega))
      have hD6 : Blk w6 w4.heap.size 25 [.slice none 0 0, .slice none 0 0] := hw6.blk
      have hB6 := hB4.below k6 (by omega)
      have hL6 := hL4.trans (k6.mono hL4.size)
      have d6 := hB6.cellsAt
      simp only [List.length_cons, List.length_nil, Nat.zero_add, Nat.reduceAdd] at d6
      simp -dsimp only [push_cast, Nat.reduceAdd, Nat.reduceLeDiff, Nat.reduceBEq, decide_true, ne_eq, eq_self, not_true_eq_false, not_false_eq_true, true_imp_iff, false_imp_iff, Int.reduceNe, Int.reduceEq, Int.reduceLT, Int.reduceLE, Bool.not_true, Bool.not_false, d6]
      refine callK_of (Right_c c hlens (by omega) (by omega) _ _ w6 (hv0.below hL6)) ?_
      rintro _ w7 ⟨rfl, hb7⟩
      have sz7 := hb7.size
      have hL7 := hL6.trans (hb7.mono hL6.size)
      rw [hR]
      simp -dsimp only [push_cast, Nat.reduceAdd, Nat.reduceLeDiff, Nat.reduceBEq, decide_true, ne_eq, eq_self, not_true_eq_false, not_false_eq_true, true_imp_iff, false_imp_iff, Int.reduceNe, Int.reduceEq, Int.reduceLT, Int.reduceLE, Bool.not_true, Bool.not_false]
      refine callK_of (tell_c _ 1 w7 ((Kept.of_below hL7 (X := fun _ => False) (fun k hk hl => by omega)).cell hE id) (.bare 1)) ?_
      rintro _ w8 ⟨rfl, hb8⟩
      have c8 : w8.cell? ⟨w4.heap.size, 1, none⟩ = some (.slice none 0 0) := ((hD6.below hb7 (by omega)).below hb8 (by omega)).cell rfl
      simp -dsimp only [push_cast, Nat.reduceAdd, Nat.reduceLeDiff, Nat.reduceBEq, decide_true, ne_eq, eq_self, not_true_eq_false, not_false_eq_true, true_imp_iff, false_imp_iff, Int.reduceNe, Int.reduceEq, Int.reduceLT, Int.reduceLE, Bool.not_true, Bool.not_false, c8]
      exact hL7.trans (hb8.mono hL7.size)
    | true =>
      have hCR := CR.of hR
      rw [hR, if_pos rfl] at hr
      obtain ⟨d, dv, rfl, hL, hd⟩ := hr
      have hd0 := hd
      obtain ⟨dsv, div, rfl, hds, hdi⟩ := hd
      have hsh := hds.shape
      obtain ⟨da, dc, rfl, _⟩ := hsh
      have hsh := hdi.shape
      obtain ⟨ja, jc, rfl, _⟩ := hsh
      have hdm := hL.cr.many
      have hds' := hL.cr.sets
      have hlen := hL.len
      simp -dsimp only [push_cast, Nat.reduceAdd, Nat.reduceLeDiff, Nat.reduceBEq, decide_true, ne_eq, eq_self, not_true_eq_false, not_false_eq_true, true_imp_iff, false_imp_iff, Int.reduceNe, Int.reduceEq, Int.reduceLT, Int.reduceLE, Bool.not_true, Bool.not_false]
      refine allocK (z := [.slice none 0 0, .slice none 0 0]) (by kernel_rfl) ?_
      intro w5 hw5
      have sz5 := hw5.size
      simp -dsimp only [push_cast, Nat.reduceAdd, Nat.reduceLeDiff, Nat.reduceBEq, decide_true]
      refine storeAgg (n := 2) (by kernel_rfl) hw5.blk rfl (by simp) (by simp [Value.oneCell']) ?_
      intro w6 hw6
      have sz6 := hw6.size
      have k6 : Below w4.heap.size w4 w6 := hw5.below.trans (hw6.kept.below (by omega) (fun _ h => by omega))
      have hD6 : Blk w6 w4.heap.size 25 [.slice da d.sets.length dc, .slice ja d.ins.length jc] := hw6.blk
      have hB6 := hB4.below k6 (by omega)
      have hL6 := hL4.trans (k6.mono hL4.size)
      have d6 := hB6.cellsAt
      simp only [List.length_cons, List.length_nil, Nat.zero_add, Nat.reduceAdd] at d6
      simp -dsimp only [push_cast, Nat.reduceAdd, Nat.reduceLeDiff, Nat.reduceBEq, decide_true, ne_eq, eq_self, not_true_eq_false, not_false_eq_true, true_imp_iff, false_imp_iff, Int.reduceNe, Int.reduceEq, Int.reduceLT, Int.reduceLE, Bool.not_true, Bool.not_false, d6]
      refine callK_of (Right_c c hlens (by omega) (by omega) _ _ w6 (hv0.below hL6)) ?_
      rintro _ w7 ⟨rfl, hb7⟩
      have sz7 := hb7.size
      have hL7 := hL6.trans (hb7.mono hL6.size)
      have hD7 := hD6.below hb7 (by omega)
      have hB7 := hB6.below hb7 (by omega)
      have d7 := hD7.cellsAt
      simp only [List.length_cons, List.length_nil, Nat.zero_add, Nat.reduceAdd] at d7
      rw [hR]
      simp -dsimp only [push_cast, Nat.reduceAdd, Nat.reduceLeDiff, Nat.reduceBEq, decide_true, ne_eq, eq_self, not_true_eq_false, not_false_eq_true, true_imp_iff, false_imp_iff, Int.reduceNe, Int.reduceEq, Int.reduceLT, Int.reduceLE, Bool.not_true, Bool.not_false, d7]
      refine callK_of (Right_c d hL.lens (by omega) (by omega) _ _ w7 ((hd0.below k6).below hb7)) ?_
      rintro _ w8 ⟨rfl, hb8⟩
      have sz8 := hb8.size
      have hL8 := hL7.trans (hb8.mono hL7.size)
      have hD8 := hD7.below hb8 (by omega)
      have hB8 := hB7.below hb8 (by omega)
      have hd8 := ((hd0.below k6).below hb7).below hb8
      rw [hL.cr.to]
      have e1 : w8.cell? ⟨w4.heap.size, 1, none⟩ = some (.slice ja d.ins.length jc) := hD8.cell rfl
      have e2 : w8.cell? ⟨w.heap.size, 1, none⟩ = some (.slice ia c.ins.length ic) := hB8.cell rfl
      have hle : decide ((d.ins.length : Int) > (c.ins.length : Int)) = false := decide_eq_false (by omega)
      simp -dsimp only [push_cast, Nat.reduceAdd, Nat.reduceLeDiff, Nat.reduceBEq, decide_true, ne_eq, eq_self, not_true_eq_false, not_false_eq_true, true_imp_iff, false_imp_iff, Int.reduceNe, Int.reduceEq, Int.reduceLT, Int.reduceLE, Bool.not_true, Bool.not_false, e1, e2, hle]
      refine callK_of (clone_c l (by omega) _ _ w8 (hlv.below hL8) hal) ?_
      rintro v9 w9 ⟨ho9, hb9⟩
      have sz9 := hb9.size
      have hL9 := hL8.trans (hb9.mono hL8.size)
      simp -dsimp only [push_cast, Nat.reduceAdd, Nat.reduceLeDiff, Nat.reduceBEq, decide_true, ne_eq, eq_self, not_true_eq_false, not_false_eq_true, true_imp_iff, false_imp_iff, Int.reduceNe, Int.reduceEq, Int.reduceLT, Int.reduceLE, Bool.not_true, Bool.not_false]
      refine appendAny (base := w8.heap.size) (enc := encI) (ys := m) elI_26 ho9 (hmv.below hL9) ham encI_one (by omega) sz9 ?_
      intro va wa hoa hga hba
      have sza := hba.size
      have hLa := hL9.trans (hba.mono (by omega))
      have hos := hoa.slice
      obtain ⟨aa, ac, rfl⟩ := hos
      simp -dsimp only [push_cast, Nat.reduceAdd, Nat.reduceLeDiff, Nat.reduceBEq, decide_true, ne_eq, eq_self, not_true_eq_false, not_false_eq_true, true_imp_iff, false_imp_iff, Int.reduceNe, Int.reduceEq, Int.reduceLT, Int.reduceLE, Bool.not_true, Bool.not_false]
      refine rowK elI_56 rfl rfl (by omega) ?_
      intro wb hwb
      have szb := hwb.size
      have kb : Below w8.heap.size w8 wb := (hb9.trans hba).trans (hwb.below.mono (by omega))
      have hLb := hL8.trans (kb.mono hL8.size)
      have hBb := hB8.below kb (by omega)
      have hDb := hD8.below kb (by omega)
      have hcb := hv0.below hLb
      have hdb := hd8.below kb
      have elems : ∀ i, i < 4 → ∃ (xa : Option Addr) (xn xc : Nat) (xs : List Int), wb.cell? ⟨wa.heap.size, i, none⟩ = some (.slice xa xn xc) ∧ Sl (fun _ => False) 1 (En encI) wb (.slice xa xn xc) xs ∧ xs.length ≤ 60 := fun i hi => by
        match i, hi with
        | 0, _ => exact ⟨none, 0, 0, [], hwb.cell rfl, Sl.nil _ _ _ _ _ _, by simp⟩
        | 1, _ => exact ⟨_, _, _, l, hwb.cell rfl, hlv.below hLb, by omega⟩
        | 2, _ => exact ⟨_, _, _, m, hwb.cell rfl, hmv.below hLb, by omega⟩
        | 3, _ => exact ⟨_, _, _, l ++ m, hwb.cell rfl, (hoa.sl.weaken fun _ h => h.elim).below hwb.below, by rw [List.length_append]; omega⟩
      simp -dsimp only [push_cast, Nat.reduceAdd, Nat.reduceLeDiff, Nat.reduceBEq, decide_true, ne_eq, eq_self, not_true_eq_false, not_false_eq_true, true_imp_iff, false_imp_iff, Int.reduceNe, Int.reduceEq, Int.reduceLT, Int.reduceLE, Bool.not_true, Bool.not_false]
      refine wpL_loop [6, 10, 11, 12, 13, 14, 15, 16, 73, 74, 75, 76, 77, 78, 79, 80, 81, 82, 83, 84, 85, 86, 87, 88, 89, 90, 91, 92, 93, 94, 95, 96, 97, 98, 99, 100, 101, 102] (fun z wx => ∃ i : Nat, z 73 = .int .i64 i ∧ i ≤ 4 ∧ Below wb.heap.size wb wx) (fun z _ => 4 - (intOf (z 73)).toNat) ?_ ?_
      · exact ⟨0, rfl, by omega, Below.refl _ _⟩
      · intro z wx hI
        obtain ⟨i, h73, hi, hbx⟩ := hI
        have szx := hbx.size
        simp -dsimp only [push_cast, Nat.reduceAdd, Nat.reduceLeDiff, Nat.reduceBEq, decide_true, ne_eq, eq_self, not_true_eq_false, not_false_eq_true, true_imp_iff, false_imp_iff, Int.reduceNe, Int.reduceEq, Int.reduceLT, Int.reduceLE, Bool.not_true, Bool.not_false, h73]
        refine ⟨fun hlt => ?_, fun hge => ?_⟩
        · have hel := elems i (by omega)
          obtain ⟨xa, xn, xc, xs, hc1, hx1, hxl⟩ := hel
          have hc2 : wx.cell? ⟨wa.heap.size, i, none⟩ = some (.slice xa xn xc) := (hbx.cell (by show wa.heap.size < wb.heap.size; omega)).trans hc1
          have hBx := hBb.below hbx (by omega)
          have dx := hBx.cellsAt
          simp only [List.length_cons, List.length_nil, Nat.zero_add, Nat.reduceAdd] at dx
          simp -dsimp only [push_cast, Nat.reduceAdd, Nat.reduceLeDiff, Nat.reduceBEq, decide_true, ne_eq, eq_self, not_true_eq_false, not_false_eq_true, true_imp_iff, false_imp_iff, Int.reduceNe, Int.reduceEq, Int.reduceLT, Int.reduceLE, Bool.not_true, Bool.not_false, hc2, dx]
          refine ⟨⟨by omega, by omega⟩, ?_⟩
          refine callK_of (match_c c xs hlens (by omega) (by omega) (by omega) _ _ _ _ wx (hcb.below hbx) (hx1.below hbx)) ?_
          rintro _ wy ⟨rfl, hby⟩
          have szy := hby.size
          have hbxy := hbx.trans (hby.mono (by omega))
          have dy := (hDb.below hbxy (by omega)).cellsAt
          simp only [List.length_cons, List.length_nil, Nat.zero_add, Nat.reduceAdd] at dy
          have em : MatchV c xs = .tuple #[.bool (vmatch c xs).1, .int .i64 (vmatch c xs).2, .nilIface] := by unfold MatchV; rw [if_pos hR]
          rw [em]
          simp -dsimp only [push_cast, Nat.reduceAdd, Nat.reduceLeDiff, Nat.reduceBEq, decide_true, ne_eq, eq_self, not_true_eq_false, not_false_eq_true, true_imp_iff, false_imp_iff, Int.reduceNe, Int.reduceEq, Int.reduceLT, Int.reduceLE, Bool.not_true, Bool.not_false, dy]
          refine callK_of (match_c d xs hL.lens (by omega) (by omega) (by omega) _ _ _ _ wy (hdb.below hbxy) (hx1.below hbxy)) ?_
          rintro _ wz ⟨rfl, hbz⟩
          have hbxz := hbxy.trans (hbz.mono (by omega))
          have em : MatchV d xs = .tuple #[.bool (vmatch c xs).1, .int .i64 (vmatch d xs).2, .nilIface] := by unfold MatchV; rw [if_pos hL.cr.to, hL.vm hCR]
          rw [em]
          have hgb : ∃ b, (vmatch c xs).1 = b := ⟨_, rfl⟩
          obtain ⟨b, hb⟩ := hgb
          rw [hb]
          cases b with
          | false =>
            simp -dsimp only [push_cast, Nat.reduceAdd, Nat.reduceLeDiff, Nat.reduceBEq, decide_true, ne_eq, eq_self, not_true_eq_false, not_false_eq_true, true_imp_iff, false_imp_iff, Int.reduceNe, Int.reduceEq, Int.reduceLT, Int.reduceLE, Bool.not_true, Bool.not_false, beq_self_eq_true]
            exact ⟨⟨by omega, by omega⟩, ⟨i + 1, rfl, by omega, hbxz⟩, by rw [h73]; simp only [intOf]; omega⟩
          | true =>
            simp -dsimp only [push_cast, Nat.reduceAdd, Nat.reduceLeDiff, Nat.reduceBEq, decide_true, ne_eq, eq_self, not_true_eq_false, not_false_eq_true, true_imp_iff, false_imp_iff, Int.reduceNe, Int.reduceEq, Int.reduceLT, Int.reduceLE, Bool.not_true, Bool.not_false, beq_self_eq_true]
            exact ⟨⟨by omega, by omega⟩, ⟨i + 1, rfl, by omega, hbxz⟩, by rw [h73]; simp only [intOf]; omega⟩
        · exact hLb.trans (hbx.mono hLb.size)
end Go.Proofs.YtimjpijbcnjaaaaDoor
